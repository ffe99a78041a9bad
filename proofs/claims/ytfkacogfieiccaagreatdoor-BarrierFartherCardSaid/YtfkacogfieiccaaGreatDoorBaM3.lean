import Derived.Test.YtfkacogfieiccaaGreatDoorBaCodeb
import Derived.Test.YtfkacogfieiccaaGreatDoorFwC
import Derived.Test.YtfkacogfieiccaaGreatDoorProg
import Derived.KernelRfl
namespace Go.Proofs.YtfkacogfieiccaaGreatDoor
open Go Fw
set_option maxRecDepth 100000
theorem m11 : mFn Tryz.prog Tryz.f11 c11 = true := by kernel_rfl
theorem m14 : mFn Tryz.prog Tryz.f14 c14 = true := by kernel_rfl
theorem m34 : mFn Tryz.prog Tryz.f34 c34 = true := by kernel_rfl
theorem m39 : mFn Tryz.prog Tryz.f39 c39 = true := by kernel_rfl
theorem m52 : mFn Tryz.prog Tryz.f52 c52 = true := by kernel_rfl
theorem m64 : mFn Tryz.prog Tryz.f64 c64 = true := by kernel_rfl
theorem m71 : mFn Tryz.prog Tryz.f71 c71 = true := by kernel_rfl
theorem m72 : mFn Tryz.prog Tryz.f72 c72 = true := by kernel_rfl
theorem m82 : mFn Tryz.prog Tryz.f82 c82 = true := by kernel_rfl
theorem m84 : mFn Tryz.prog Tryz.f84 c84 = true := by kernel_rfl
theorem m94 : mFn Tryz.prog Tryz.f94 c94 = true := by kernel_rfl
theorem m96 : mFn Tryz.prog Tryz.f96 c96 = true := by kernel_rfl
theorem m98 : mFn Tryz.prog Tryz.f98 c98 = true := by kernel_rfl
theorem m111 : mFn Tryz.prog Tryz.f111 c111 = true := by kernel_rfl
theorem m118 : mFn Tryz.prog Tryz.f118 c118 = true := by kernel_rfl
theorem m120 : mFn Tryz.prog Tryz.f120 c120 = true := by kernel_rfl
theorem m123 : mFn Tryz.prog Tryz.f123 c123 = true := by kernel_rfl
theorem m129 : mFn Tryz.prog Tryz.f129 c129 = true := by kernel_rfl
theorem m130 : mFn Tryz.prog Tryz.f130 c130 = true := by kernel_rfl
theorem m144 : mFn Tryz.prog Tryz.f144 c144 = true := by kernel_rfl
theorem m146 : mFn Tryz.prog Tryz.f146 c146 = true := by kernel_rfl
theorem m147 : mFn Tryz.prog Tryz.f147 c147 = true := by kernel_rfl
theorem m148 : mFn Tryz.prog Tryz.f148 c148 = true := by kernel_rfl
theorem m155 : mFn Tryz.prog Tryz.f155 c155 = true := by kernel_rfl
theorem m157 : mFn Tryz.prog Tryz.f157 c157 = true := by kernel_rfl
theorem m161 : mFn Tryz.prog Tryz.f161 c161 = true := by kernel_rfl
theorem m173 : mFn Tryz.prog Tryz.f173 c173 = true := by kernel_rfl
theorem m176 : mFn Tryz.prog Tryz.f176 c176 = true := by kernel_rfl
theorem m178 : mFn Tryz.prog Tryz.f178 c178 = true := by kernel_rfl
theorem m184 : mFn Tryz.prog Tryz.f184 c184 = true := by kernel_rfl
theorem m185 : mFn Tryz.prog Tryz.f185 c185 = true := by kernel_rfl
theorem m193 : mFn Tryz.prog Tryz.f193 c193 = true := by kernel_rfl
end Go.Proofs.YtfkacogfieiccaaGreatDoor
