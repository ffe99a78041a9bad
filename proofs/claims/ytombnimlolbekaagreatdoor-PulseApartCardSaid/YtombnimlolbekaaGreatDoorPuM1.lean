import Derived.Test.YtombnimlolbekaaGreatDoorPuCodeb
import Derived.Test.YtombnimlolbekaaGreatDoorFwC
import Derived.Test.YtombnimlolbekaaGreatDoorProg
import Derived.KernelRfl
namespace Go.Proofs.YtombnimlolbekaaGreatDoor
open Go Fw
set_option maxRecDepth 100000
theorem m14 : mFn Tryz.prog Tryz.f14 c14 = true := by kernel_rfl
theorem m30 : mFn Tryz.prog Tryz.f30 c30 = true := by kernel_rfl
theorem m31 : mFn Tryz.prog Tryz.f31 c31 = true := by kernel_rfl
theorem m33 : mFn Tryz.prog Tryz.f33 c33 = true := by kernel_rfl
theorem m45 : mFn Tryz.prog Tryz.f45 c45 = true := by kernel_rfl
theorem m56 : mFn Tryz.prog Tryz.f56 c56 = true := by kernel_rfl
theorem m59 : mFn Tryz.prog Tryz.f59 c59 = true := by kernel_rfl
theorem m68 : mFn Tryz.prog Tryz.f68 c68 = true := by kernel_rfl
theorem m69 : mFn Tryz.prog Tryz.f69 c69 = true := by kernel_rfl
theorem m70 : mFn Tryz.prog Tryz.f70 c70 = true := by kernel_rfl
theorem m88 : mFn Tryz.prog Tryz.f88 c88 = true := by kernel_rfl
theorem m93 : mFn Tryz.prog Tryz.f93 c93 = true := by kernel_rfl
theorem m98 : mFn Tryz.prog Tryz.f98 c98 = true := by kernel_rfl
theorem m106 : mFn Tryz.prog Tryz.f106 c106 = true := by kernel_rfl
theorem m110 : mFn Tryz.prog Tryz.f110 c110 = true := by kernel_rfl
theorem m111 : mFn Tryz.prog Tryz.f111 c111 = true := by kernel_rfl
theorem m112 : mFn Tryz.prog Tryz.f112 c112 = true := by kernel_rfl
theorem m124 : mFn Tryz.prog Tryz.f124 c124 = true := by kernel_rfl
theorem m126 : mFn Tryz.prog Tryz.f126 c126 = true := by kernel_rfl
theorem m127 : mFn Tryz.prog Tryz.f127 c127 = true := by kernel_rfl
theorem m132 : mFn Tryz.prog Tryz.f132 c132 = true := by kernel_rfl
theorem m137 : mFn Tryz.prog Tryz.f137 c137 = true := by kernel_rfl
theorem m143 : mFn Tryz.prog Tryz.f143 c143 = true := by kernel_rfl
theorem m145 : mFn Tryz.prog Tryz.f145 c145 = true := by kernel_rfl
theorem m149 : mFn Tryz.prog Tryz.f149 c149 = true := by kernel_rfl
theorem m151 : mFn Tryz.prog Tryz.f151 c151 = true := by kernel_rfl
theorem m170 : mFn Tryz.prog Tryz.f170 c170 = true := by kernel_rfl
theorem m176 : mFn Tryz.prog Tryz.f176 c176 = true := by kernel_rfl
theorem m177 : mFn Tryz.prog Tryz.f177 c177 = true := by kernel_rfl
theorem m181 : mFn Tryz.prog Tryz.f181 c181 = true := by kernel_rfl
theorem m202 : mFn Tryz.prog Tryz.f202 c202 = true := by kernel_rfl
theorem m210 : mFn Tryz.prog Tryz.f210 c210 = true := by kernel_rfl
end Go.Proofs.YtombnimlolbekaaGreatDoor
