import Derived.Test.YtombnimlolbekaaGreatDoorPuCodeb
import Derived.Test.YtombnimlolbekaaGreatDoorFwC
import Derived.Test.YtombnimlolbekaaGreatDoorProg
import Derived.KernelRfl
namespace Go.Proofs.YtombnimlolbekaaGreatDoor
open Go Fw
set_option maxRecDepth 100000
theorem m6 : mFn Tryz.prog Tryz.f6 c6 = true := by kernel_rfl
theorem m10 : mFn Tryz.prog Tryz.f10 c10 = true := by kernel_rfl
theorem m13 : mFn Tryz.prog Tryz.f13 c13 = true := by kernel_rfl
theorem m27 : mFn Tryz.prog Tryz.f27 c27 = true := by kernel_rfl
theorem m37 : mFn Tryz.prog Tryz.f37 c37 = true := by kernel_rfl
theorem m50 : mFn Tryz.prog Tryz.f50 c50 = true := by kernel_rfl
theorem m52 : mFn Tryz.prog Tryz.f52 c52 = true := by kernel_rfl
theorem m54 : mFn Tryz.prog Tryz.f54 c54 = true := by kernel_rfl
theorem m55 : mFn Tryz.prog Tryz.f55 c55 = true := by kernel_rfl
theorem m70 : mFn Tryz.prog Tryz.f70 c70 = true := by kernel_rfl
theorem m73 : mFn Tryz.prog Tryz.f73 c73 = true := by kernel_rfl
theorem m76 : mFn Tryz.prog Tryz.f76 c76 = true := by kernel_rfl
theorem m78 : mFn Tryz.prog Tryz.f78 c78 = true := by kernel_rfl
theorem m88 : mFn Tryz.prog Tryz.f88 c88 = true := by kernel_rfl
theorem m91 : mFn Tryz.prog Tryz.f91 c91 = true := by kernel_rfl
theorem m94 : mFn Tryz.prog Tryz.f94 c94 = true := by kernel_rfl
theorem m95 : mFn Tryz.prog Tryz.f95 c95 = true := by kernel_rfl
theorem m103 : mFn Tryz.prog Tryz.f103 c103 = true := by kernel_rfl
theorem m107 : mFn Tryz.prog Tryz.f107 c107 = true := by kernel_rfl
theorem m108 : mFn Tryz.prog Tryz.f108 c108 = true := by kernel_rfl
theorem m109 : mFn Tryz.prog Tryz.f109 c109 = true := by kernel_rfl
theorem m111 : mFn Tryz.prog Tryz.f111 c111 = true := by kernel_rfl
theorem m115 : mFn Tryz.prog Tryz.f115 c115 = true := by kernel_rfl
theorem m116 : mFn Tryz.prog Tryz.f116 c116 = true := by kernel_rfl
theorem m136 : mFn Tryz.prog Tryz.f136 c136 = true := by kernel_rfl
theorem m151 : mFn Tryz.prog Tryz.f151 c151 = true := by kernel_rfl
theorem m160 : mFn Tryz.prog Tryz.f160 c160 = true := by kernel_rfl
theorem m165 : mFn Tryz.prog Tryz.f165 c165 = true := by kernel_rfl
theorem m168 : mFn Tryz.prog Tryz.f168 c168 = true := by kernel_rfl
theorem m175 : mFn Tryz.prog Tryz.f175 c175 = true := by kernel_rfl
theorem m184 : mFn Tryz.prog Tryz.f184 c184 = true := by kernel_rfl
theorem m197 : mFn Tryz.prog Tryz.f197 c197 = true := by kernel_rfl
theorem m210 : mFn Tryz.prog Tryz.f210 c210 = true := by kernel_rfl
theorem m212 : mFn Tryz.prog Tryz.f212 c212 = true := by kernel_rfl
end Go.Proofs.YtombnimlolbekaaGreatDoor
