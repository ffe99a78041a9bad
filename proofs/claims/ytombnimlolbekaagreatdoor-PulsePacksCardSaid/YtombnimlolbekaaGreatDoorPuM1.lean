import Derived.Test.YtombnimlolbekaaGreatDoorPuCodeb
import Derived.Test.YtombnimlolbekaaGreatDoorFwC
import Derived.Test.YtombnimlolbekaaGreatDoorProg
import Derived.KernelRfl
namespace Go.Proofs.YtombnimlolbekaaGreatDoor
open Go Fw
set_option maxRecDepth 100000
theorem m7 : mFn Tryz.prog Tryz.f7 c7 = true := by kernel_rfl
theorem m12 : mFn Tryz.prog Tryz.f12 c12 = true := by kernel_rfl
theorem m16 : mFn Tryz.prog Tryz.f16 c16 = true := by kernel_rfl
theorem m17 : mFn Tryz.prog Tryz.f17 c17 = true := by kernel_rfl
theorem m18 : mFn Tryz.prog Tryz.f18 c18 = true := by kernel_rfl
theorem m24 : mFn Tryz.prog Tryz.f24 c24 = true := by kernel_rfl
theorem m30 : mFn Tryz.prog Tryz.f30 c30 = true := by kernel_rfl
theorem m32 : mFn Tryz.prog Tryz.f32 c32 = true := by kernel_rfl
theorem m35 : mFn Tryz.prog Tryz.f35 c35 = true := by kernel_rfl
theorem m44 : mFn Tryz.prog Tryz.f44 c44 = true := by kernel_rfl
theorem m46 : mFn Tryz.prog Tryz.f46 c46 = true := by kernel_rfl
theorem m47 : mFn Tryz.prog Tryz.f47 c47 = true := by kernel_rfl
theorem m53 : mFn Tryz.prog Tryz.f53 c53 = true := by kernel_rfl
theorem m56 : mFn Tryz.prog Tryz.f56 c56 = true := by kernel_rfl
theorem m59 : mFn Tryz.prog Tryz.f59 c59 = true := by kernel_rfl
theorem m61 : mFn Tryz.prog Tryz.f61 c61 = true := by kernel_rfl
theorem m64 : mFn Tryz.prog Tryz.f64 c64 = true := by kernel_rfl
theorem m68 : mFn Tryz.prog Tryz.f68 c68 = true := by kernel_rfl
theorem m69 : mFn Tryz.prog Tryz.f69 c69 = true := by kernel_rfl
theorem m85 : mFn Tryz.prog Tryz.f85 c85 = true := by kernel_rfl
theorem m86 : mFn Tryz.prog Tryz.f86 c86 = true := by kernel_rfl
theorem m97 : mFn Tryz.prog Tryz.f97 c97 = true := by kernel_rfl
theorem m100 : mFn Tryz.prog Tryz.f100 c100 = true := by kernel_rfl
theorem m113 : mFn Tryz.prog Tryz.f113 c113 = true := by kernel_rfl
theorem m123 : mFn Tryz.prog Tryz.f123 c123 = true := by kernel_rfl
theorem m149 : mFn Tryz.prog Tryz.f149 c149 = true := by kernel_rfl
theorem m155 : mFn Tryz.prog Tryz.f155 c155 = true := by kernel_rfl
theorem m156 : mFn Tryz.prog Tryz.f156 c156 = true := by kernel_rfl
theorem m159 : mFn Tryz.prog Tryz.f159 c159 = true := by kernel_rfl
theorem m186 : mFn Tryz.prog Tryz.f186 c186 = true := by kernel_rfl
theorem m191 : mFn Tryz.prog Tryz.f191 c191 = true := by kernel_rfl
theorem m205 : mFn Tryz.prog Tryz.f205 c205 = true := by kernel_rfl
theorem m207 : mFn Tryz.prog Tryz.f207 c207 = true := by kernel_rfl
end Go.Proofs.YtombnimlolbekaaGreatDoor
