import Derived.Test.YtombnimlolbekaaGreatDoorPuCodeb
import Derived.Test.YtombnimlolbekaaGreatDoorFwC
import Derived.Test.YtombnimlolbekaaGreatDoorProg
import Derived.KernelRfl
namespace Go.Proofs.YtombnimlolbekaaGreatDoor
open Go Fw
set_option maxRecDepth 100000
theorem m11 : mFn Tryz.prog Tryz.f11 c11 = true := by kernel_rfl
theorem m15 : mFn Tryz.prog Tryz.f15 c15 = true := by kernel_rfl
theorem m16 : mFn Tryz.prog Tryz.f16 c16 = true := by kernel_rfl
theorem m29 : mFn Tryz.prog Tryz.f29 c29 = true := by kernel_rfl
theorem m35 : mFn Tryz.prog Tryz.f35 c35 = true := by kernel_rfl
theorem m37 : mFn Tryz.prog Tryz.f37 c37 = true := by kernel_rfl
theorem m58 : mFn Tryz.prog Tryz.f58 c58 = true := by kernel_rfl
theorem m60 : mFn Tryz.prog Tryz.f60 c60 = true := by kernel_rfl
theorem m77 : mFn Tryz.prog Tryz.f77 c77 = true := by kernel_rfl
theorem m87 : mFn Tryz.prog Tryz.f87 c87 = true := by kernel_rfl
theorem m90 : mFn Tryz.prog Tryz.f90 c90 = true := by kernel_rfl
theorem m94 : mFn Tryz.prog Tryz.f94 c94 = true := by kernel_rfl
theorem m96 : mFn Tryz.prog Tryz.f96 c96 = true := by kernel_rfl
theorem m99 : mFn Tryz.prog Tryz.f99 c99 = true := by kernel_rfl
theorem m100 : mFn Tryz.prog Tryz.f100 c100 = true := by kernel_rfl
theorem m101 : mFn Tryz.prog Tryz.f101 c101 = true := by kernel_rfl
theorem m102 : mFn Tryz.prog Tryz.f102 c102 = true := by kernel_rfl
theorem m107 : mFn Tryz.prog Tryz.f107 c107 = true := by kernel_rfl
theorem m115 : mFn Tryz.prog Tryz.f115 c115 = true := by kernel_rfl
theorem m118 : mFn Tryz.prog Tryz.f118 c118 = true := by kernel_rfl
theorem m120 : mFn Tryz.prog Tryz.f120 c120 = true := by kernel_rfl
theorem m136 : mFn Tryz.prog Tryz.f136 c136 = true := by kernel_rfl
theorem m142 : mFn Tryz.prog Tryz.f142 c142 = true := by kernel_rfl
theorem m144 : mFn Tryz.prog Tryz.f144 c144 = true := by kernel_rfl
theorem m146 : mFn Tryz.prog Tryz.f146 c146 = true := by kernel_rfl
theorem m168 : mFn Tryz.prog Tryz.f168 c168 = true := by kernel_rfl
theorem m169 : mFn Tryz.prog Tryz.f169 c169 = true := by kernel_rfl
theorem m171 : mFn Tryz.prog Tryz.f171 c171 = true := by kernel_rfl
theorem m173 : mFn Tryz.prog Tryz.f173 c173 = true := by kernel_rfl
theorem m174 : mFn Tryz.prog Tryz.f174 c174 = true := by kernel_rfl
theorem m185 : mFn Tryz.prog Tryz.f185 c185 = true := by kernel_rfl
theorem m187 : mFn Tryz.prog Tryz.f187 c187 = true := by kernel_rfl
theorem m189 : mFn Tryz.prog Tryz.f189 c189 = true := by kernel_rfl
end Go.Proofs.YtombnimlolbekaaGreatDoor
