import Derived.Test.YtdjkleaojdeepaaGreatDoorGaCodeb
import Derived.Test.YtdjkleaojdeepaaGreatDoorFwC
import Derived.Test.YtdjkleaojdeepaaGreatDoorProg
import Derived.KernelRfl
namespace Go.Proofs.YtdjkleaojdeepaaGreatDoor
open Go Fw
set_option maxRecDepth 100000
theorem m17 : mFn Tryz.prog Tryz.f17 c17 = true := by kernel_rfl
theorem m21 : mFn Tryz.prog Tryz.f21 c21 = true := by kernel_rfl
theorem m25 : mFn Tryz.prog Tryz.f25 c25 = true := by kernel_rfl
theorem m33 : mFn Tryz.prog Tryz.f33 c33 = true := by kernel_rfl
theorem m42 : mFn Tryz.prog Tryz.f42 c42 = true := by kernel_rfl
theorem m43 : mFn Tryz.prog Tryz.f43 c43 = true := by kernel_rfl
theorem m64 : mFn Tryz.prog Tryz.f64 c64 = true := by kernel_rfl
theorem m90 : mFn Tryz.prog Tryz.f90 c90 = true := by kernel_rfl
theorem m91 : mFn Tryz.prog Tryz.f91 c91 = true := by kernel_rfl
theorem m92 : mFn Tryz.prog Tryz.f92 c92 = true := by kernel_rfl
theorem m107 : mFn Tryz.prog Tryz.f107 c107 = true := by kernel_rfl
theorem m110 : mFn Tryz.prog Tryz.f110 c110 = true := by kernel_rfl
theorem m115 : mFn Tryz.prog Tryz.f115 c115 = true := by kernel_rfl
theorem m118 : mFn Tryz.prog Tryz.f118 c118 = true := by kernel_rfl
theorem m122 : mFn Tryz.prog Tryz.f122 c122 = true := by kernel_rfl
theorem m125 : mFn Tryz.prog Tryz.f125 c125 = true := by kernel_rfl
theorem m141 : mFn Tryz.prog Tryz.f141 c141 = true := by kernel_rfl
theorem m145 : mFn Tryz.prog Tryz.f145 c145 = true := by kernel_rfl
theorem m148 : mFn Tryz.prog Tryz.f148 c148 = true := by kernel_rfl
theorem m165 : mFn Tryz.prog Tryz.f165 c165 = true := by kernel_rfl
theorem m170 : mFn Tryz.prog Tryz.f170 c170 = true := by kernel_rfl
theorem m171 : mFn Tryz.prog Tryz.f171 c171 = true := by kernel_rfl
theorem m172 : mFn Tryz.prog Tryz.f172 c172 = true := by kernel_rfl
theorem m182 : mFn Tryz.prog Tryz.f182 c182 = true := by kernel_rfl
theorem m188 : mFn Tryz.prog Tryz.f188 c188 = true := by kernel_rfl
theorem m194 : mFn Tryz.prog Tryz.f194 c194 = true := by kernel_rfl
theorem m196 : mFn Tryz.prog Tryz.f196 c196 = true := by kernel_rfl
theorem m197 : mFn Tryz.prog Tryz.f197 c197 = true := by kernel_rfl
theorem m198 : mFn Tryz.prog Tryz.f198 c198 = true := by kernel_rfl
theorem m219 : mFn Tryz.prog Tryz.f219 c219 = true := by kernel_rfl
theorem m223 : mFn Tryz.prog Tryz.f223 c223 = true := by kernel_rfl
theorem m225 : mFn Tryz.prog Tryz.f225 c225 = true := by kernel_rfl
theorem m229 : mFn Tryz.prog Tryz.f229 c229 = true := by kernel_rfl
theorem m238 : mFn Tryz.prog Tryz.f238 c238 = true := by kernel_rfl
theorem m241 : mFn Tryz.prog Tryz.f241 c241 = true := by kernel_rfl
theorem m242 : mFn Tryz.prog Tryz.f242 c242 = true := by kernel_rfl
theorem m244 : mFn Tryz.prog Tryz.f244 c244 = true := by kernel_rfl
theorem m246 : mFn Tryz.prog Tryz.f246 c246 = true := by kernel_rfl
theorem m248 : mFn Tryz.prog Tryz.f248 c248 = true := by kernel_rfl
end Go.Proofs.YtdjkleaojdeepaaGreatDoor
