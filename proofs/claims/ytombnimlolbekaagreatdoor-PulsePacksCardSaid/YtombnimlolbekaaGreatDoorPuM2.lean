import Derived.Test.YtombnimlolbekaaGreatDoorPuCodeb
import Derived.Test.YtombnimlolbekaaGreatDoorFwC
import Derived.Test.YtombnimlolbekaaGreatDoorProg
import Derived.KernelRfl
namespace Go.Proofs.YtombnimlolbekaaGreatDoor
open Go Fw
set_option maxRecDepth 100000
theorem m39 : mFn Tryz.prog Tryz.f39 c39 = true := by kernel_rfl
theorem m49 : mFn Tryz.prog Tryz.f49 c49 = true := by kernel_rfl
theorem m75 : mFn Tryz.prog Tryz.f75 c75 = true := by kernel_rfl
theorem m81 : mFn Tryz.prog Tryz.f81 c81 = true := by kernel_rfl
theorem m83 : mFn Tryz.prog Tryz.f83 c83 = true := by kernel_rfl
theorem m84 : mFn Tryz.prog Tryz.f84 c84 = true := by kernel_rfl
theorem m89 : mFn Tryz.prog Tryz.f89 c89 = true := by kernel_rfl
theorem m102 : mFn Tryz.prog Tryz.f102 c102 = true := by kernel_rfl
theorem m106 : mFn Tryz.prog Tryz.f106 c106 = true := by kernel_rfl
theorem m112 : mFn Tryz.prog Tryz.f112 c112 = true := by kernel_rfl
theorem m119 : mFn Tryz.prog Tryz.f119 c119 = true := by kernel_rfl
theorem m121 : mFn Tryz.prog Tryz.f121 c121 = true := by kernel_rfl
theorem m124 : mFn Tryz.prog Tryz.f124 c124 = true := by kernel_rfl
theorem m128 : mFn Tryz.prog Tryz.f128 c128 = true := by kernel_rfl
theorem m129 : mFn Tryz.prog Tryz.f129 c129 = true := by kernel_rfl
theorem m131 : mFn Tryz.prog Tryz.f131 c131 = true := by kernel_rfl
theorem m134 : mFn Tryz.prog Tryz.f134 c134 = true := by kernel_rfl
theorem m137 : mFn Tryz.prog Tryz.f137 c137 = true := by kernel_rfl
theorem m139 : mFn Tryz.prog Tryz.f139 c139 = true := by kernel_rfl
theorem m140 : mFn Tryz.prog Tryz.f140 c140 = true := by kernel_rfl
theorem m145 : mFn Tryz.prog Tryz.f145 c145 = true := by kernel_rfl
theorem m146 : mFn Tryz.prog Tryz.f146 c146 = true := by kernel_rfl
theorem m148 : mFn Tryz.prog Tryz.f148 c148 = true := by kernel_rfl
theorem m180 : mFn Tryz.prog Tryz.f180 c180 = true := by kernel_rfl
theorem m185 : mFn Tryz.prog Tryz.f185 c185 = true := by kernel_rfl
theorem m188 : mFn Tryz.prog Tryz.f188 c188 = true := by kernel_rfl
theorem m189 : mFn Tryz.prog Tryz.f189 c189 = true := by kernel_rfl
theorem m190 : mFn Tryz.prog Tryz.f190 c190 = true := by kernel_rfl
theorem m196 : mFn Tryz.prog Tryz.f196 c196 = true := by kernel_rfl
theorem m199 : mFn Tryz.prog Tryz.f199 c199 = true := by kernel_rfl
theorem m211 : mFn Tryz.prog Tryz.f211 c211 = true := by kernel_rfl
theorem m213 : mFn Tryz.prog Tryz.f213 c213 = true := by kernel_rfl
theorem m214 : mFn Tryz.prog Tryz.f214 c214 = true := by kernel_rfl
end Go.Proofs.YtombnimlolbekaaGreatDoor
