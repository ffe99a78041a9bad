import Derived.Test.YtdjkleaojdeepaaGreatDoorGaCodeb
import Derived.Test.YtdjkleaojdeepaaGreatDoorFwC
import Derived.Test.YtdjkleaojdeepaaGreatDoorProg
import Derived.KernelRfl
namespace Go.Proofs.YtdjkleaojdeepaaGreatDoor
open Go Fw
set_option maxRecDepth 100000
theorem m9 : mFn Tryz.prog Tryz.f9 c9 = true := by kernel_rfl
theorem m15 : mFn Tryz.prog Tryz.f15 c15 = true := by kernel_rfl
theorem m20 : mFn Tryz.prog Tryz.f20 c20 = true := by kernel_rfl
theorem m31 : mFn Tryz.prog Tryz.f31 c31 = true := by kernel_rfl
theorem m38 : mFn Tryz.prog Tryz.f38 c38 = true := by kernel_rfl
theorem m57 : mFn Tryz.prog Tryz.f57 c57 = true := by kernel_rfl
theorem m70 : mFn Tryz.prog Tryz.f70 c70 = true := by kernel_rfl
theorem m83 : mFn Tryz.prog Tryz.f83 c83 = true := by kernel_rfl
theorem m85 : mFn Tryz.prog Tryz.f85 c85 = true := by kernel_rfl
theorem m88 : mFn Tryz.prog Tryz.f88 c88 = true := by kernel_rfl
theorem m95 : mFn Tryz.prog Tryz.f95 c95 = true := by kernel_rfl
theorem m96 : mFn Tryz.prog Tryz.f96 c96 = true := by kernel_rfl
theorem m97 : mFn Tryz.prog Tryz.f97 c97 = true := by kernel_rfl
theorem m99 : mFn Tryz.prog Tryz.f99 c99 = true := by kernel_rfl
theorem m103 : mFn Tryz.prog Tryz.f103 c103 = true := by kernel_rfl
theorem m104 : mFn Tryz.prog Tryz.f104 c104 = true := by kernel_rfl
theorem m111 : mFn Tryz.prog Tryz.f111 c111 = true := by kernel_rfl
theorem m114 : mFn Tryz.prog Tryz.f114 c114 = true := by kernel_rfl
theorem m137 : mFn Tryz.prog Tryz.f137 c137 = true := by kernel_rfl
theorem m140 : mFn Tryz.prog Tryz.f140 c140 = true := by kernel_rfl
theorem m147 : mFn Tryz.prog Tryz.f147 c147 = true := by kernel_rfl
theorem m156 : mFn Tryz.prog Tryz.f156 c156 = true := by kernel_rfl
theorem m180 : mFn Tryz.prog Tryz.f180 c180 = true := by kernel_rfl
theorem m214 : mFn Tryz.prog Tryz.f214 c214 = true := by kernel_rfl
theorem m217 : mFn Tryz.prog Tryz.f217 c217 = true := by kernel_rfl
theorem m218 : mFn Tryz.prog Tryz.f218 c218 = true := by kernel_rfl
theorem m220 : mFn Tryz.prog Tryz.f220 c220 = true := by kernel_rfl
theorem m226 : mFn Tryz.prog Tryz.f226 c226 = true := by kernel_rfl
theorem m227 : mFn Tryz.prog Tryz.f227 c227 = true := by kernel_rfl
theorem m231 : mFn Tryz.prog Tryz.f231 c231 = true := by kernel_rfl
theorem m236 : mFn Tryz.prog Tryz.f236 c236 = true := by kernel_rfl
theorem m239 : mFn Tryz.prog Tryz.f239 c239 = true := by kernel_rfl
theorem m243 : mFn Tryz.prog Tryz.f243 c243 = true := by kernel_rfl
end Go.Proofs.YtdjkleaojdeepaaGreatDoor
