import Derived.Test.YtombnimlolbekaaGreatDoorPuCodeb
import Derived.Test.YtombnimlolbekaaGreatDoorFwC
import Derived.Test.YtombnimlolbekaaGreatDoorProg
import Derived.KernelRfl
namespace Go.Proofs.YtombnimlolbekaaGreatDoor
open Go Fw
set_option maxRecDepth 100000
theorem m9 : mFn Tryz.prog Tryz.f9 c9 = true := by kernel_rfl
theorem m19 : mFn Tryz.prog Tryz.f19 c19 = true := by kernel_rfl
theorem m32 : mFn Tryz.prog Tryz.f32 c32 = true := by kernel_rfl
theorem m43 : mFn Tryz.prog Tryz.f43 c43 = true := by kernel_rfl
theorem m46 : mFn Tryz.prog Tryz.f46 c46 = true := by kernel_rfl
theorem m51 : mFn Tryz.prog Tryz.f51 c51 = true := by kernel_rfl
theorem m55 : mFn Tryz.prog Tryz.f55 c55 = true := by kernel_rfl
theorem m61 : mFn Tryz.prog Tryz.f61 c61 = true := by kernel_rfl
theorem m74 : mFn Tryz.prog Tryz.f74 c74 = true := by kernel_rfl
theorem m75 : mFn Tryz.prog Tryz.f75 c75 = true := by kernel_rfl
theorem m78 : mFn Tryz.prog Tryz.f78 c78 = true := by kernel_rfl
theorem m81 : mFn Tryz.prog Tryz.f81 c81 = true := by kernel_rfl
theorem m83 : mFn Tryz.prog Tryz.f83 c83 = true := by kernel_rfl
theorem m92 : mFn Tryz.prog Tryz.f92 c92 = true := by kernel_rfl
theorem m95 : mFn Tryz.prog Tryz.f95 c95 = true := by kernel_rfl
theorem m97 : mFn Tryz.prog Tryz.f97 c97 = true := by kernel_rfl
theorem m105 : mFn Tryz.prog Tryz.f105 c105 = true := by kernel_rfl
theorem m109 : mFn Tryz.prog Tryz.f109 c109 = true := by kernel_rfl
theorem m113 : mFn Tryz.prog Tryz.f113 c113 = true := by kernel_rfl
theorem m116 : mFn Tryz.prog Tryz.f116 c116 = true := by kernel_rfl
theorem m121 : mFn Tryz.prog Tryz.f121 c121 = true := by kernel_rfl
theorem m122 : mFn Tryz.prog Tryz.f122 c122 = true := by kernel_rfl
theorem m125 : mFn Tryz.prog Tryz.f125 c125 = true := by kernel_rfl
theorem m131 : mFn Tryz.prog Tryz.f131 c131 = true := by kernel_rfl
theorem m135 : mFn Tryz.prog Tryz.f135 c135 = true := by kernel_rfl
theorem m141 : mFn Tryz.prog Tryz.f141 c141 = true := by kernel_rfl
theorem m152 : mFn Tryz.prog Tryz.f152 c152 = true := by kernel_rfl
theorem m154 : mFn Tryz.prog Tryz.f154 c154 = true := by kernel_rfl
theorem m156 : mFn Tryz.prog Tryz.f156 c156 = true := by kernel_rfl
theorem m157 : mFn Tryz.prog Tryz.f157 c157 = true := by kernel_rfl
theorem m167 : mFn Tryz.prog Tryz.f167 c167 = true := by kernel_rfl
theorem m172 : mFn Tryz.prog Tryz.f172 c172 = true := by kernel_rfl
theorem m178 : mFn Tryz.prog Tryz.f178 c178 = true := by kernel_rfl
theorem m180 : mFn Tryz.prog Tryz.f180 c180 = true := by kernel_rfl
theorem m190 : mFn Tryz.prog Tryz.f190 c190 = true := by kernel_rfl
theorem m200 : mFn Tryz.prog Tryz.f200 c200 = true := by kernel_rfl
end Go.Proofs.YtombnimlolbekaaGreatDoor
