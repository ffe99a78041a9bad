import Derived.Test.YtdjkleaojdeepaaGreatDoorGaCodeb
import Derived.Test.YtdjkleaojdeepaaGreatDoorFwC
import Derived.Test.YtdjkleaojdeepaaGreatDoorProg
import Derived.KernelRfl
namespace Go.Proofs.YtdjkleaojdeepaaGreatDoor
open Go Fw
set_option maxRecDepth 100000
theorem m17 : mFn Tryz.prog Tryz.f17 c17 = true := by kernel_rfl
theorem m18 : mFn Tryz.prog Tryz.f18 c18 = true := by kernel_rfl
theorem m23 : mFn Tryz.prog Tryz.f23 c23 = true := by kernel_rfl
theorem m24 : mFn Tryz.prog Tryz.f24 c24 = true := by kernel_rfl
theorem m30 : mFn Tryz.prog Tryz.f30 c30 = true := by kernel_rfl
theorem m32 : mFn Tryz.prog Tryz.f32 c32 = true := by kernel_rfl
theorem m62 : mFn Tryz.prog Tryz.f62 c62 = true := by kernel_rfl
theorem m63 : mFn Tryz.prog Tryz.f63 c63 = true := by kernel_rfl
theorem m72 : mFn Tryz.prog Tryz.f72 c72 = true := by kernel_rfl
theorem m86 : mFn Tryz.prog Tryz.f86 c86 = true := by kernel_rfl
theorem m87 : mFn Tryz.prog Tryz.f87 c87 = true := by kernel_rfl
theorem m91 : mFn Tryz.prog Tryz.f91 c91 = true := by kernel_rfl
theorem m104 : mFn Tryz.prog Tryz.f104 c104 = true := by kernel_rfl
theorem m111 : mFn Tryz.prog Tryz.f111 c111 = true := by kernel_rfl
theorem m114 : mFn Tryz.prog Tryz.f114 c114 = true := by kernel_rfl
theorem m118 : mFn Tryz.prog Tryz.f118 c118 = true := by kernel_rfl
theorem m119 : mFn Tryz.prog Tryz.f119 c119 = true := by kernel_rfl
theorem m126 : mFn Tryz.prog Tryz.f126 c126 = true := by kernel_rfl
theorem m142 : mFn Tryz.prog Tryz.f142 c142 = true := by kernel_rfl
theorem m145 : mFn Tryz.prog Tryz.f145 c145 = true := by kernel_rfl
theorem m154 : mFn Tryz.prog Tryz.f154 c154 = true := by kernel_rfl
theorem m161 : mFn Tryz.prog Tryz.f161 c161 = true := by kernel_rfl
theorem m165 : mFn Tryz.prog Tryz.f165 c165 = true := by kernel_rfl
theorem m181 : mFn Tryz.prog Tryz.f181 c181 = true := by kernel_rfl
theorem m217 : mFn Tryz.prog Tryz.f217 c217 = true := by kernel_rfl
theorem m219 : mFn Tryz.prog Tryz.f219 c219 = true := by kernel_rfl
theorem m220 : mFn Tryz.prog Tryz.f220 c220 = true := by kernel_rfl
theorem m228 : mFn Tryz.prog Tryz.f228 c228 = true := by kernel_rfl
theorem m232 : mFn Tryz.prog Tryz.f232 c232 = true := by kernel_rfl
theorem m233 : mFn Tryz.prog Tryz.f233 c233 = true := by kernel_rfl
theorem m234 : mFn Tryz.prog Tryz.f234 c234 = true := by kernel_rfl
theorem m238 : mFn Tryz.prog Tryz.f238 c238 = true := by kernel_rfl
theorem m246 : mFn Tryz.prog Tryz.f246 c246 = true := by kernel_rfl
theorem m247 : mFn Tryz.prog Tryz.f247 c247 = true := by kernel_rfl
end Go.Proofs.YtdjkleaojdeepaaGreatDoor
