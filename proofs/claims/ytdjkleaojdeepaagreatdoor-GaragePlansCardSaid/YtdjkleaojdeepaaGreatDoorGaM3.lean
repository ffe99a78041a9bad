import Derived.Test.YtdjkleaojdeepaaGreatDoorGaCodeb
import Derived.Test.YtdjkleaojdeepaaGreatDoorFwC
import Derived.Test.YtdjkleaojdeepaaGreatDoorProg
import Derived.KernelRfl
namespace Go.Proofs.YtdjkleaojdeepaaGreatDoor
open Go Fw
set_option maxRecDepth 100000
theorem m7 : mFn Tryz.prog Tryz.f7 c7 = true := by kernel_rfl
theorem m31 : mFn Tryz.prog Tryz.f31 c31 = true := by kernel_rfl
theorem m34 : mFn Tryz.prog Tryz.f34 c34 = true := by kernel_rfl
theorem m39 : mFn Tryz.prog Tryz.f39 c39 = true := by kernel_rfl
theorem m48 : mFn Tryz.prog Tryz.f48 c48 = true := by kernel_rfl
theorem m49 : mFn Tryz.prog Tryz.f49 c49 = true := by kernel_rfl
theorem m50 : mFn Tryz.prog Tryz.f50 c50 = true := by kernel_rfl
theorem m55 : mFn Tryz.prog Tryz.f55 c55 = true := by kernel_rfl
theorem m58 : mFn Tryz.prog Tryz.f58 c58 = true := by kernel_rfl
theorem m64 : mFn Tryz.prog Tryz.f64 c64 = true := by kernel_rfl
theorem m83 : mFn Tryz.prog Tryz.f83 c83 = true := by kernel_rfl
theorem m85 : mFn Tryz.prog Tryz.f85 c85 = true := by kernel_rfl
theorem m88 : mFn Tryz.prog Tryz.f88 c88 = true := by kernel_rfl
theorem m109 : mFn Tryz.prog Tryz.f109 c109 = true := by kernel_rfl
theorem m112 : mFn Tryz.prog Tryz.f112 c112 = true := by kernel_rfl
theorem m113 : mFn Tryz.prog Tryz.f113 c113 = true := by kernel_rfl
theorem m120 : mFn Tryz.prog Tryz.f120 c120 = true := by kernel_rfl
theorem m123 : mFn Tryz.prog Tryz.f123 c123 = true := by kernel_rfl
theorem m125 : mFn Tryz.prog Tryz.f125 c125 = true := by kernel_rfl
theorem m127 : mFn Tryz.prog Tryz.f127 c127 = true := by kernel_rfl
theorem m132 : mFn Tryz.prog Tryz.f132 c132 = true := by kernel_rfl
theorem m137 : mFn Tryz.prog Tryz.f137 c137 = true := by kernel_rfl
theorem m140 : mFn Tryz.prog Tryz.f140 c140 = true := by kernel_rfl
theorem m144 : mFn Tryz.prog Tryz.f144 c144 = true := by kernel_rfl
theorem m148 : mFn Tryz.prog Tryz.f148 c148 = true := by kernel_rfl
theorem m153 : mFn Tryz.prog Tryz.f153 c153 = true := by kernel_rfl
theorem m160 : mFn Tryz.prog Tryz.f160 c160 = true := by kernel_rfl
theorem m163 : mFn Tryz.prog Tryz.f163 c163 = true := by kernel_rfl
theorem m169 : mFn Tryz.prog Tryz.f169 c169 = true := by kernel_rfl
theorem m170 : mFn Tryz.prog Tryz.f170 c170 = true := by kernel_rfl
theorem m189 : mFn Tryz.prog Tryz.f189 c189 = true := by kernel_rfl
theorem m191 : mFn Tryz.prog Tryz.f191 c191 = true := by kernel_rfl
theorem m218 : mFn Tryz.prog Tryz.f218 c218 = true := by kernel_rfl
theorem m221 : mFn Tryz.prog Tryz.f221 c221 = true := by kernel_rfl
theorem m227 : mFn Tryz.prog Tryz.f227 c227 = true := by kernel_rfl
theorem m236 : mFn Tryz.prog Tryz.f236 c236 = true := by kernel_rfl
theorem m237 : mFn Tryz.prog Tryz.f237 c237 = true := by kernel_rfl
theorem m240 : mFn Tryz.prog Tryz.f240 c240 = true := by kernel_rfl
theorem m244 : mFn Tryz.prog Tryz.f244 c244 = true := by kernel_rfl
theorem m248 : mFn Tryz.prog Tryz.f248 c248 = true := by kernel_rfl
end Go.Proofs.YtdjkleaojdeepaaGreatDoor
