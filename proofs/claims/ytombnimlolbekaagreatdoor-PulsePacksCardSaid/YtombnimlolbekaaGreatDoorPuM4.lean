import Derived.Test.YtombnimlolbekaaGreatDoorPuCodeb
import Derived.Test.YtombnimlolbekaaGreatDoorFwC
import Derived.Test.YtombnimlolbekaaGreatDoorProg
import Derived.KernelRfl
namespace Go.Proofs.YtombnimlolbekaaGreatDoor
open Go Fw
set_option maxRecDepth 100000
theorem m4 : mFn Tryz.prog Tryz.f4 c4 = true := by kernel_rfl
theorem m5 : mFn Tryz.prog Tryz.f5 c5 = true := by kernel_rfl
theorem m15 : mFn Tryz.prog Tryz.f15 c15 = true := by kernel_rfl
theorem m21 : mFn Tryz.prog Tryz.f21 c21 = true := by kernel_rfl
theorem m22 : mFn Tryz.prog Tryz.f22 c22 = true := by kernel_rfl
theorem m25 : mFn Tryz.prog Tryz.f25 c25 = true := by kernel_rfl
theorem m28 : mFn Tryz.prog Tryz.f28 c28 = true := by kernel_rfl
theorem m29 : mFn Tryz.prog Tryz.f29 c29 = true := by kernel_rfl
theorem m31 : mFn Tryz.prog Tryz.f31 c31 = true := by kernel_rfl
theorem m33 : mFn Tryz.prog Tryz.f33 c33 = true := by kernel_rfl
theorem m34 : mFn Tryz.prog Tryz.f34 c34 = true := by kernel_rfl
theorem m43 : mFn Tryz.prog Tryz.f43 c43 = true := by kernel_rfl
theorem m72 : mFn Tryz.prog Tryz.f72 c72 = true := by kernel_rfl
theorem m74 : mFn Tryz.prog Tryz.f74 c74 = true := by kernel_rfl
theorem m87 : mFn Tryz.prog Tryz.f87 c87 = true := by kernel_rfl
theorem m96 : mFn Tryz.prog Tryz.f96 c96 = true := by kernel_rfl
theorem m105 : mFn Tryz.prog Tryz.f105 c105 = true := by kernel_rfl
theorem m117 : mFn Tryz.prog Tryz.f117 c117 = true := by kernel_rfl
theorem m118 : mFn Tryz.prog Tryz.f118 c118 = true := by kernel_rfl
theorem m125 : mFn Tryz.prog Tryz.f125 c125 = true := by kernel_rfl
theorem m126 : mFn Tryz.prog Tryz.f126 c126 = true := by kernel_rfl
theorem m142 : mFn Tryz.prog Tryz.f142 c142 = true := by kernel_rfl
theorem m157 : mFn Tryz.prog Tryz.f157 c157 = true := by kernel_rfl
theorem m158 : mFn Tryz.prog Tryz.f158 c158 = true := by kernel_rfl
theorem m161 : mFn Tryz.prog Tryz.f161 c161 = true := by kernel_rfl
theorem m166 : mFn Tryz.prog Tryz.f166 c166 = true := by kernel_rfl
theorem m167 : mFn Tryz.prog Tryz.f167 c167 = true := by kernel_rfl
theorem m169 : mFn Tryz.prog Tryz.f169 c169 = true := by kernel_rfl
theorem m179 : mFn Tryz.prog Tryz.f179 c179 = true := by kernel_rfl
theorem m181 : mFn Tryz.prog Tryz.f181 c181 = true := by kernel_rfl
theorem m187 : mFn Tryz.prog Tryz.f187 c187 = true := by kernel_rfl
theorem m195 : mFn Tryz.prog Tryz.f195 c195 = true := by kernel_rfl
theorem m206 : mFn Tryz.prog Tryz.f206 c206 = true := by kernel_rfl
end Go.Proofs.YtombnimlolbekaaGreatDoor
