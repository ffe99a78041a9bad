import Derived.Test.YtombnimlolbekaaGreatDoorPuCodeb
import Derived.Test.YtombnimlolbekaaGreatDoorFwC
import Derived.Test.YtombnimlolbekaaGreatDoorProg
import Derived.KernelRfl
namespace Go.Proofs.YtombnimlolbekaaGreatDoor
open Go Fw
set_option maxRecDepth 100000
theorem m12 : mFn Tryz.prog Tryz.f12 c12 = true := by kernel_rfl
theorem m13 : mFn Tryz.prog Tryz.f13 c13 = true := by kernel_rfl
theorem m17 : mFn Tryz.prog Tryz.f17 c17 = true := by kernel_rfl
theorem m27 : mFn Tryz.prog Tryz.f27 c27 = true := by kernel_rfl
theorem m28 : mFn Tryz.prog Tryz.f28 c28 = true := by kernel_rfl
theorem m34 : mFn Tryz.prog Tryz.f34 c34 = true := by kernel_rfl
theorem m36 : mFn Tryz.prog Tryz.f36 c36 = true := by kernel_rfl
theorem m39 : mFn Tryz.prog Tryz.f39 c39 = true := by kernel_rfl
theorem m44 : mFn Tryz.prog Tryz.f44 c44 = true := by kernel_rfl
theorem m52 : mFn Tryz.prog Tryz.f52 c52 = true := by kernel_rfl
theorem m57 : mFn Tryz.prog Tryz.f57 c57 = true := by kernel_rfl
theorem m73 : mFn Tryz.prog Tryz.f73 c73 = true := by kernel_rfl
theorem m76 : mFn Tryz.prog Tryz.f76 c76 = true := by kernel_rfl
theorem m79 : mFn Tryz.prog Tryz.f79 c79 = true := by kernel_rfl
theorem m80 : mFn Tryz.prog Tryz.f80 c80 = true := by kernel_rfl
theorem m89 : mFn Tryz.prog Tryz.f89 c89 = true := by kernel_rfl
theorem m91 : mFn Tryz.prog Tryz.f91 c91 = true := by kernel_rfl
theorem m108 : mFn Tryz.prog Tryz.f108 c108 = true := by kernel_rfl
theorem m114 : mFn Tryz.prog Tryz.f114 c114 = true := by kernel_rfl
theorem m117 : mFn Tryz.prog Tryz.f117 c117 = true := by kernel_rfl
theorem m123 : mFn Tryz.prog Tryz.f123 c123 = true := by kernel_rfl
theorem m134 : mFn Tryz.prog Tryz.f134 c134 = true := by kernel_rfl
theorem m140 : mFn Tryz.prog Tryz.f140 c140 = true := by kernel_rfl
theorem m150 : mFn Tryz.prog Tryz.f150 c150 = true := by kernel_rfl
theorem m153 : mFn Tryz.prog Tryz.f153 c153 = true := by kernel_rfl
theorem m155 : mFn Tryz.prog Tryz.f155 c155 = true := by kernel_rfl
theorem m158 : mFn Tryz.prog Tryz.f158 c158 = true := by kernel_rfl
theorem m159 : mFn Tryz.prog Tryz.f159 c159 = true := by kernel_rfl
theorem m160 : mFn Tryz.prog Tryz.f160 c160 = true := by kernel_rfl
theorem m161 : mFn Tryz.prog Tryz.f161 c161 = true := by kernel_rfl
theorem m166 : mFn Tryz.prog Tryz.f166 c166 = true := by kernel_rfl
theorem m175 : mFn Tryz.prog Tryz.f175 c175 = true := by kernel_rfl
theorem m179 : mFn Tryz.prog Tryz.f179 c179 = true := by kernel_rfl
theorem m186 : mFn Tryz.prog Tryz.f186 c186 = true := by kernel_rfl
theorem m188 : mFn Tryz.prog Tryz.f188 c188 = true := by kernel_rfl
theorem m191 : mFn Tryz.prog Tryz.f191 c191 = true := by kernel_rfl
theorem m199 : mFn Tryz.prog Tryz.f199 c199 = true := by kernel_rfl
theorem m208 : mFn Tryz.prog Tryz.f208 c208 = true := by kernel_rfl
theorem m211 : mFn Tryz.prog Tryz.f211 c211 = true := by kernel_rfl
theorem m214 : mFn Tryz.prog Tryz.f214 c214 = true := by kernel_rfl
end Go.Proofs.YtombnimlolbekaaGreatDoor
