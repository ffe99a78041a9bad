import Derived.Test.YtombnimlolbekaaGreatDoorPuCodeb
import Derived.Test.YtombnimlolbekaaGreatDoorFwC
import Derived.Test.YtombnimlolbekaaGreatDoorProg
import Derived.KernelRfl
namespace Go.Proofs.YtombnimlolbekaaGreatDoor
open Go Fw
set_option maxRecDepth 100000
theorem m8 : mFn Tryz.prog Tryz.f8 c8 = true := by kernel_rfl
theorem m23 : mFn Tryz.prog Tryz.f23 c23 = true := by kernel_rfl
theorem m42 : mFn Tryz.prog Tryz.f42 c42 = true := by kernel_rfl
theorem m48 : mFn Tryz.prog Tryz.f48 c48 = true := by kernel_rfl
theorem m51 : mFn Tryz.prog Tryz.f51 c51 = true := by kernel_rfl
theorem m57 : mFn Tryz.prog Tryz.f57 c57 = true := by kernel_rfl
theorem m58 : mFn Tryz.prog Tryz.f58 c58 = true := by kernel_rfl
theorem m60 : mFn Tryz.prog Tryz.f60 c60 = true := by kernel_rfl
theorem m62 : mFn Tryz.prog Tryz.f62 c62 = true := by kernel_rfl
theorem m63 : mFn Tryz.prog Tryz.f63 c63 = true := by kernel_rfl
theorem m65 : mFn Tryz.prog Tryz.f65 c65 = true := by kernel_rfl
theorem m67 : mFn Tryz.prog Tryz.f67 c67 = true := by kernel_rfl
theorem m71 : mFn Tryz.prog Tryz.f71 c71 = true := by kernel_rfl
theorem m80 : mFn Tryz.prog Tryz.f80 c80 = true := by kernel_rfl
theorem m82 : mFn Tryz.prog Tryz.f82 c82 = true := by kernel_rfl
theorem m92 : mFn Tryz.prog Tryz.f92 c92 = true := by kernel_rfl
theorem m99 : mFn Tryz.prog Tryz.f99 c99 = true := by kernel_rfl
theorem m104 : mFn Tryz.prog Tryz.f104 c104 = true := by kernel_rfl
theorem m110 : mFn Tryz.prog Tryz.f110 c110 = true := by kernel_rfl
theorem m122 : mFn Tryz.prog Tryz.f122 c122 = true := by kernel_rfl
theorem m127 : mFn Tryz.prog Tryz.f127 c127 = true := by kernel_rfl
theorem m141 : mFn Tryz.prog Tryz.f141 c141 = true := by kernel_rfl
theorem m144 : mFn Tryz.prog Tryz.f144 c144 = true := by kernel_rfl
theorem m147 : mFn Tryz.prog Tryz.f147 c147 = true := by kernel_rfl
theorem m150 : mFn Tryz.prog Tryz.f150 c150 = true := by kernel_rfl
theorem m152 : mFn Tryz.prog Tryz.f152 c152 = true := by kernel_rfl
theorem m153 : mFn Tryz.prog Tryz.f153 c153 = true := by kernel_rfl
theorem m154 : mFn Tryz.prog Tryz.f154 c154 = true := by kernel_rfl
theorem m172 : mFn Tryz.prog Tryz.f172 c172 = true := by kernel_rfl
theorem m174 : mFn Tryz.prog Tryz.f174 c174 = true := by kernel_rfl
theorem m177 : mFn Tryz.prog Tryz.f177 c177 = true := by kernel_rfl
theorem m204 : mFn Tryz.prog Tryz.f204 c204 = true := by kernel_rfl
end Go.Proofs.YtombnimlolbekaaGreatDoor
