import Derived.Test.YtdjkleaojdeepaaGreatDoorGaCodeb
import Derived.Test.YtdjkleaojdeepaaGreatDoorFwC
import Derived.Test.YtdjkleaojdeepaaGreatDoorProg
import Derived.KernelRfl
namespace Go.Proofs.YtdjkleaojdeepaaGreatDoor
open Go Fw
set_option maxRecDepth 100000
theorem m10 : mFn Tryz.prog Tryz.f10 c10 = true := by kernel_rfl
theorem m23 : mFn Tryz.prog Tryz.f23 c23 = true := by kernel_rfl
theorem m24 : mFn Tryz.prog Tryz.f24 c24 = true := by kernel_rfl
theorem m34 : mFn Tryz.prog Tryz.f34 c34 = true := by kernel_rfl
theorem m39 : mFn Tryz.prog Tryz.f39 c39 = true := by kernel_rfl
theorem m48 : mFn Tryz.prog Tryz.f48 c48 = true := by kernel_rfl
theorem m50 : mFn Tryz.prog Tryz.f50 c50 = true := by kernel_rfl
theorem m58 : mFn Tryz.prog Tryz.f58 c58 = true := by kernel_rfl
theorem m59 : mFn Tryz.prog Tryz.f59 c59 = true := by kernel_rfl
theorem m63 : mFn Tryz.prog Tryz.f63 c63 = true := by kernel_rfl
theorem m71 : mFn Tryz.prog Tryz.f71 c71 = true := by kernel_rfl
theorem m79 : mFn Tryz.prog Tryz.f79 c79 = true := by kernel_rfl
theorem m84 : mFn Tryz.prog Tryz.f84 c84 = true := by kernel_rfl
theorem m86 : mFn Tryz.prog Tryz.f86 c86 = true := by kernel_rfl
theorem m89 : mFn Tryz.prog Tryz.f89 c89 = true := by kernel_rfl
theorem m93 : mFn Tryz.prog Tryz.f93 c93 = true := by kernel_rfl
theorem m106 : mFn Tryz.prog Tryz.f106 c106 = true := by kernel_rfl
theorem m109 : mFn Tryz.prog Tryz.f109 c109 = true := by kernel_rfl
theorem m113 : mFn Tryz.prog Tryz.f113 c113 = true := by kernel_rfl
theorem m116 : mFn Tryz.prog Tryz.f116 c116 = true := by kernel_rfl
theorem m117 : mFn Tryz.prog Tryz.f117 c117 = true := by kernel_rfl
theorem m123 : mFn Tryz.prog Tryz.f123 c123 = true := by kernel_rfl
theorem m127 : mFn Tryz.prog Tryz.f127 c127 = true := by kernel_rfl
theorem m131 : mFn Tryz.prog Tryz.f131 c131 = true := by kernel_rfl
theorem m132 : mFn Tryz.prog Tryz.f132 c132 = true := by kernel_rfl
theorem m134 : mFn Tryz.prog Tryz.f134 c134 = true := by kernel_rfl
theorem m138 : mFn Tryz.prog Tryz.f138 c138 = true := by kernel_rfl
theorem m143 : mFn Tryz.prog Tryz.f143 c143 = true := by kernel_rfl
theorem m144 : mFn Tryz.prog Tryz.f144 c144 = true := by kernel_rfl
theorem m146 : mFn Tryz.prog Tryz.f146 c146 = true := by kernel_rfl
theorem m158 : mFn Tryz.prog Tryz.f158 c158 = true := by kernel_rfl
theorem m160 : mFn Tryz.prog Tryz.f160 c160 = true := by kernel_rfl
theorem m161 : mFn Tryz.prog Tryz.f161 c161 = true := by kernel_rfl
theorem m163 : mFn Tryz.prog Tryz.f163 c163 = true := by kernel_rfl
theorem m189 : mFn Tryz.prog Tryz.f189 c189 = true := by kernel_rfl
theorem m221 : mFn Tryz.prog Tryz.f221 c221 = true := by kernel_rfl
theorem m222 : mFn Tryz.prog Tryz.f222 c222 = true := by kernel_rfl
theorem m232 : mFn Tryz.prog Tryz.f232 c232 = true := by kernel_rfl
theorem m233 : mFn Tryz.prog Tryz.f233 c233 = true := by kernel_rfl
theorem m234 : mFn Tryz.prog Tryz.f234 c234 = true := by kernel_rfl
theorem m240 : mFn Tryz.prog Tryz.f240 c240 = true := by kernel_rfl
theorem m245 : mFn Tryz.prog Tryz.f245 c245 = true := by kernel_rfl
end Go.Proofs.YtdjkleaojdeepaaGreatDoor
