import Derived.Test.YtfkacogfieiccaaGreatDoorBaCodeb
import Derived.Test.YtfkacogfieiccaaGreatDoorFwC
import Derived.Test.YtfkacogfieiccaaGreatDoorProg
import Derived.KernelRfl
namespace Go.Proofs.YtfkacogfieiccaaGreatDoor
open Go Fw
set_option maxRecDepth 100000
theorem m13 : mFn Tryz.prog Tryz.f13 c13 = true := by kernel_rfl
theorem m16 : mFn Tryz.prog Tryz.f16 c16 = true := by kernel_rfl
theorem m40 : mFn Tryz.prog Tryz.f40 c40 = true := by kernel_rfl
theorem m49 : mFn Tryz.prog Tryz.f49 c49 = true := by kernel_rfl
theorem m50 : mFn Tryz.prog Tryz.f50 c50 = true := by kernel_rfl
theorem m55 : mFn Tryz.prog Tryz.f55 c55 = true := by kernel_rfl
theorem m83 : mFn Tryz.prog Tryz.f83 c83 = true := by kernel_rfl
theorem m90 : mFn Tryz.prog Tryz.f90 c90 = true := by kernel_rfl
theorem m117 : mFn Tryz.prog Tryz.f117 c117 = true := by kernel_rfl
theorem m119 : mFn Tryz.prog Tryz.f119 c119 = true := by kernel_rfl
theorem m121 : mFn Tryz.prog Tryz.f121 c121 = true := by kernel_rfl
theorem m122 : mFn Tryz.prog Tryz.f122 c122 = true := by kernel_rfl
theorem m125 : mFn Tryz.prog Tryz.f125 c125 = true := by kernel_rfl
theorem m128 : mFn Tryz.prog Tryz.f128 c128 = true := by kernel_rfl
theorem m135 : mFn Tryz.prog Tryz.f135 c135 = true := by kernel_rfl
theorem m137 : mFn Tryz.prog Tryz.f137 c137 = true := by kernel_rfl
theorem m140 : mFn Tryz.prog Tryz.f140 c140 = true := by kernel_rfl
theorem m141 : mFn Tryz.prog Tryz.f141 c141 = true := by kernel_rfl
theorem m149 : mFn Tryz.prog Tryz.f149 c149 = true := by kernel_rfl
theorem m150 : mFn Tryz.prog Tryz.f150 c150 = true := by kernel_rfl
theorem m158 : mFn Tryz.prog Tryz.f158 c158 = true := by kernel_rfl
theorem m160 : mFn Tryz.prog Tryz.f160 c160 = true := by kernel_rfl
theorem m163 : mFn Tryz.prog Tryz.f163 c163 = true := by kernel_rfl
theorem m166 : mFn Tryz.prog Tryz.f166 c166 = true := by kernel_rfl
theorem m167 : mFn Tryz.prog Tryz.f167 c167 = true := by kernel_rfl
theorem m179 : mFn Tryz.prog Tryz.f179 c179 = true := by kernel_rfl
theorem m183 : mFn Tryz.prog Tryz.f183 c183 = true := by kernel_rfl
theorem m194 : mFn Tryz.prog Tryz.f194 c194 = true := by kernel_rfl
theorem m199 : mFn Tryz.prog Tryz.f199 c199 = true := by kernel_rfl
theorem m200 : mFn Tryz.prog Tryz.f200 c200 = true := by kernel_rfl
theorem m211 : mFn Tryz.prog Tryz.f211 c211 = true := by kernel_rfl
theorem m214 : mFn Tryz.prog Tryz.f214 c214 = true := by kernel_rfl
end Go.Proofs.YtfkacogfieiccaaGreatDoor
