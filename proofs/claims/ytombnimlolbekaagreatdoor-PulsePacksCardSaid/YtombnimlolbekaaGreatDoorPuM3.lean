import Derived.Test.YtombnimlolbekaaGreatDoorPuCodeb
import Derived.Test.YtombnimlolbekaaGreatDoorFwC
import Derived.Test.YtombnimlolbekaaGreatDoorProg
import Derived.KernelRfl
namespace Go.Proofs.YtombnimlolbekaaGreatDoor
open Go Fw
set_option maxRecDepth 100000
theorem m3 : mFn Tryz.prog Tryz.f3 c3 = true := by kernel_rfl
theorem m14 : mFn Tryz.prog Tryz.f14 c14 = true := by kernel_rfl
theorem m19 : mFn Tryz.prog Tryz.f19 c19 = true := by kernel_rfl
theorem m20 : mFn Tryz.prog Tryz.f20 c20 = true := by kernel_rfl
theorem m26 : mFn Tryz.prog Tryz.f26 c26 = true := by kernel_rfl
theorem m36 : mFn Tryz.prog Tryz.f36 c36 = true := by kernel_rfl
theorem m38 : mFn Tryz.prog Tryz.f38 c38 = true := by kernel_rfl
theorem m40 : mFn Tryz.prog Tryz.f40 c40 = true := by kernel_rfl
theorem m41 : mFn Tryz.prog Tryz.f41 c41 = true := by kernel_rfl
theorem m45 : mFn Tryz.prog Tryz.f45 c45 = true := by kernel_rfl
theorem m66 : mFn Tryz.prog Tryz.f66 c66 = true := by kernel_rfl
theorem m77 : mFn Tryz.prog Tryz.f77 c77 = true := by kernel_rfl
theorem m79 : mFn Tryz.prog Tryz.f79 c79 = true := by kernel_rfl
theorem m90 : mFn Tryz.prog Tryz.f90 c90 = true := by kernel_rfl
theorem m93 : mFn Tryz.prog Tryz.f93 c93 = true := by kernel_rfl
theorem m98 : mFn Tryz.prog Tryz.f98 c98 = true := by kernel_rfl
theorem m101 : mFn Tryz.prog Tryz.f101 c101 = true := by kernel_rfl
theorem m114 : mFn Tryz.prog Tryz.f114 c114 = true := by kernel_rfl
theorem m120 : mFn Tryz.prog Tryz.f120 c120 = true := by kernel_rfl
theorem m132 : mFn Tryz.prog Tryz.f132 c132 = true := by kernel_rfl
theorem m133 : mFn Tryz.prog Tryz.f133 c133 = true := by kernel_rfl
theorem m135 : mFn Tryz.prog Tryz.f135 c135 = true := by kernel_rfl
theorem m138 : mFn Tryz.prog Tryz.f138 c138 = true := by kernel_rfl
theorem m143 : mFn Tryz.prog Tryz.f143 c143 = true := by kernel_rfl
theorem m170 : mFn Tryz.prog Tryz.f170 c170 = true := by kernel_rfl
theorem m171 : mFn Tryz.prog Tryz.f171 c171 = true := by kernel_rfl
theorem m173 : mFn Tryz.prog Tryz.f173 c173 = true := by kernel_rfl
theorem m176 : mFn Tryz.prog Tryz.f176 c176 = true := by kernel_rfl
theorem m178 : mFn Tryz.prog Tryz.f178 c178 = true := by kernel_rfl
theorem m194 : mFn Tryz.prog Tryz.f194 c194 = true := by kernel_rfl
theorem m200 : mFn Tryz.prog Tryz.f200 c200 = true := by kernel_rfl
theorem m202 : mFn Tryz.prog Tryz.f202 c202 = true := by kernel_rfl
theorem m203 : mFn Tryz.prog Tryz.f203 c203 = true := by kernel_rfl
theorem m208 : mFn Tryz.prog Tryz.f208 c208 = true := by kernel_rfl
end Go.Proofs.YtombnimlolbekaaGreatDoor
