import Derived.Test.YtfkacogfieiccaaGreatDoorBaCodeb
import Derived.Test.YtfkacogfieiccaaGreatDoorFwC
import Derived.Test.YtfkacogfieiccaaGreatDoorProg
import Derived.KernelRfl
namespace Go.Proofs.YtfkacogfieiccaaGreatDoor
open Go Fw
set_option maxRecDepth 100000
theorem m3 : mFn Tryz.prog Tryz.f3 c3 = true := by kernel_rfl
theorem m4 : mFn Tryz.prog Tryz.f4 c4 = true := by kernel_rfl
theorem m6 : mFn Tryz.prog Tryz.f6 c6 = true := by kernel_rfl
theorem m9 : mFn Tryz.prog Tryz.f9 c9 = true := by kernel_rfl
theorem m10 : mFn Tryz.prog Tryz.f10 c10 = true := by kernel_rfl
theorem m14 : mFn Tryz.prog Tryz.f14 c14 = true := by kernel_rfl
theorem m17 : mFn Tryz.prog Tryz.f17 c17 = true := by kernel_rfl
theorem m22 : mFn Tryz.prog Tryz.f22 c22 = true := by kernel_rfl
theorem m26 : mFn Tryz.prog Tryz.f26 c26 = true := by kernel_rfl
theorem m33 : mFn Tryz.prog Tryz.f33 c33 = true := by kernel_rfl
theorem m34 : mFn Tryz.prog Tryz.f34 c34 = true := by kernel_rfl
theorem m43 : mFn Tryz.prog Tryz.f43 c43 = true := by kernel_rfl
theorem m47 : mFn Tryz.prog Tryz.f47 c47 = true := by kernel_rfl
theorem m48 : mFn Tryz.prog Tryz.f48 c48 = true := by kernel_rfl
theorem m52 : mFn Tryz.prog Tryz.f52 c52 = true := by kernel_rfl
theorem m58 : mFn Tryz.prog Tryz.f58 c58 = true := by kernel_rfl
theorem m63 : mFn Tryz.prog Tryz.f63 c63 = true := by kernel_rfl
theorem m67 : mFn Tryz.prog Tryz.f67 c67 = true := by kernel_rfl
theorem m68 : mFn Tryz.prog Tryz.f68 c68 = true := by kernel_rfl
theorem m72 : mFn Tryz.prog Tryz.f72 c72 = true := by kernel_rfl
theorem m73 : mFn Tryz.prog Tryz.f73 c73 = true := by kernel_rfl
theorem m81 : mFn Tryz.prog Tryz.f81 c81 = true := by kernel_rfl
theorem m82 : mFn Tryz.prog Tryz.f82 c82 = true := by kernel_rfl
theorem m89 : mFn Tryz.prog Tryz.f89 c89 = true := by kernel_rfl
theorem m95 : mFn Tryz.prog Tryz.f95 c95 = true := by kernel_rfl
theorem m96 : mFn Tryz.prog Tryz.f96 c96 = true := by kernel_rfl
theorem m110 : mFn Tryz.prog Tryz.f110 c110 = true := by kernel_rfl
theorem m113 : mFn Tryz.prog Tryz.f113 c113 = true := by kernel_rfl
theorem m114 : mFn Tryz.prog Tryz.f114 c114 = true := by kernel_rfl
theorem m117 : mFn Tryz.prog Tryz.f117 c117 = true := by kernel_rfl
theorem m118 : mFn Tryz.prog Tryz.f118 c118 = true := by kernel_rfl
theorem m120 : mFn Tryz.prog Tryz.f120 c120 = true := by kernel_rfl
theorem m127 : mFn Tryz.prog Tryz.f127 c127 = true := by kernel_rfl
theorem m130 : mFn Tryz.prog Tryz.f130 c130 = true := by kernel_rfl
theorem m146 : mFn Tryz.prog Tryz.f146 c146 = true := by kernel_rfl
theorem m147 : mFn Tryz.prog Tryz.f147 c147 = true := by kernel_rfl
theorem m152 : mFn Tryz.prog Tryz.f152 c152 = true := by kernel_rfl
theorem m153 : mFn Tryz.prog Tryz.f153 c153 = true := by kernel_rfl
theorem m154 : mFn Tryz.prog Tryz.f154 c154 = true := by kernel_rfl
theorem m156 : mFn Tryz.prog Tryz.f156 c156 = true := by kernel_rfl
theorem m157 : mFn Tryz.prog Tryz.f157 c157 = true := by kernel_rfl
theorem m172 : mFn Tryz.prog Tryz.f172 c172 = true := by kernel_rfl
theorem m173 : mFn Tryz.prog Tryz.f173 c173 = true := by kernel_rfl
theorem m184 : mFn Tryz.prog Tryz.f184 c184 = true := by kernel_rfl
theorem m185 : mFn Tryz.prog Tryz.f185 c185 = true := by kernel_rfl
end Go.Proofs.YtfkacogfieiccaaGreatDoor
