import Derived.Test.YtfkacogfieiccaaGreatDoorBaCodeb
import Derived.Test.YtfkacogfieiccaaGreatDoorFwC
import Derived.Test.YtfkacogfieiccaaGreatDoorProg
import Derived.KernelRfl
namespace Go.Proofs.YtfkacogfieiccaaGreatDoor
open Go Fw
set_option maxRecDepth 100000
theorem m7 : mFn Tryz.prog Tryz.f7 c7 = true := by kernel_rfl
theorem m8 : mFn Tryz.prog Tryz.f8 c8 = true := by kernel_rfl
theorem m16 : mFn Tryz.prog Tryz.f16 c16 = true := by kernel_rfl
theorem m29 : mFn Tryz.prog Tryz.f29 c29 = true := by kernel_rfl
theorem m31 : mFn Tryz.prog Tryz.f31 c31 = true := by kernel_rfl
theorem m37 : mFn Tryz.prog Tryz.f37 c37 = true := by kernel_rfl
theorem m39 : mFn Tryz.prog Tryz.f39 c39 = true := by kernel_rfl
theorem m40 : mFn Tryz.prog Tryz.f40 c40 = true := by kernel_rfl
theorem m41 : mFn Tryz.prog Tryz.f41 c41 = true := by kernel_rfl
theorem m44 : mFn Tryz.prog Tryz.f44 c44 = true := by kernel_rfl
theorem m45 : mFn Tryz.prog Tryz.f45 c45 = true := by kernel_rfl
theorem m53 : mFn Tryz.prog Tryz.f53 c53 = true := by kernel_rfl
theorem m59 : mFn Tryz.prog Tryz.f59 c59 = true := by kernel_rfl
theorem m60 : mFn Tryz.prog Tryz.f60 c60 = true := by kernel_rfl
theorem m62 : mFn Tryz.prog Tryz.f62 c62 = true := by kernel_rfl
theorem m66 : mFn Tryz.prog Tryz.f66 c66 = true := by kernel_rfl
theorem m70 : mFn Tryz.prog Tryz.f70 c70 = true := by kernel_rfl
theorem m76 : mFn Tryz.prog Tryz.f76 c76 = true := by kernel_rfl
theorem m80 : mFn Tryz.prog Tryz.f80 c80 = true := by kernel_rfl
theorem m86 : mFn Tryz.prog Tryz.f86 c86 = true := by kernel_rfl
theorem m88 : mFn Tryz.prog Tryz.f88 c88 = true := by kernel_rfl
theorem m97 : mFn Tryz.prog Tryz.f97 c97 = true := by kernel_rfl
theorem m99 : mFn Tryz.prog Tryz.f99 c99 = true := by kernel_rfl
theorem m107 : mFn Tryz.prog Tryz.f107 c107 = true := by kernel_rfl
theorem m111 : mFn Tryz.prog Tryz.f111 c111 = true := by kernel_rfl
theorem m119 : mFn Tryz.prog Tryz.f119 c119 = true := by kernel_rfl
theorem m121 : mFn Tryz.prog Tryz.f121 c121 = true := by kernel_rfl
theorem m122 : mFn Tryz.prog Tryz.f122 c122 = true := by kernel_rfl
theorem m126 : mFn Tryz.prog Tryz.f126 c126 = true := by kernel_rfl
theorem m129 : mFn Tryz.prog Tryz.f129 c129 = true := by kernel_rfl
theorem m134 : mFn Tryz.prog Tryz.f134 c134 = true := by kernel_rfl
theorem m135 : mFn Tryz.prog Tryz.f135 c135 = true := by kernel_rfl
theorem m136 : mFn Tryz.prog Tryz.f136 c136 = true := by kernel_rfl
theorem m139 : mFn Tryz.prog Tryz.f139 c139 = true := by kernel_rfl
theorem m140 : mFn Tryz.prog Tryz.f140 c140 = true := by kernel_rfl
theorem m148 : mFn Tryz.prog Tryz.f148 c148 = true := by kernel_rfl
theorem m149 : mFn Tryz.prog Tryz.f149 c149 = true := by kernel_rfl
theorem m151 : mFn Tryz.prog Tryz.f151 c151 = true := by kernel_rfl
theorem m160 : mFn Tryz.prog Tryz.f160 c160 = true := by kernel_rfl
theorem m162 : mFn Tryz.prog Tryz.f162 c162 = true := by kernel_rfl
theorem m163 : mFn Tryz.prog Tryz.f163 c163 = true := by kernel_rfl
theorem m166 : mFn Tryz.prog Tryz.f166 c166 = true := by kernel_rfl
theorem m191 : mFn Tryz.prog Tryz.f191 c191 = true := by kernel_rfl
theorem m199 : mFn Tryz.prog Tryz.f199 c199 = true := by kernel_rfl
theorem m210 : mFn Tryz.prog Tryz.f210 c210 = true := by kernel_rfl
theorem m211 : mFn Tryz.prog Tryz.f211 c211 = true := by kernel_rfl
theorem m233 : mFn Tryz.prog Tryz.f233 c233 = true := by kernel_rfl
end Go.Proofs.YtfkacogfieiccaaGreatDoor
