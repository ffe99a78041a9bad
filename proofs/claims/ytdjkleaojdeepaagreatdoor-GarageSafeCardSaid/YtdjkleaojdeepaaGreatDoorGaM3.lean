import Derived.Test.YtdjkleaojdeepaaGreatDoorGaCodeb
import Derived.Test.YtdjkleaojdeepaaGreatDoorFwC
import Derived.Test.YtdjkleaojdeepaaGreatDoorProg
import Derived.KernelRfl
namespace Go.Proofs.YtdjkleaojdeepaaGreatDoor
open Go Fw
set_option maxRecDepth 100000
theorem m18 : mFn Tryz.prog Tryz.f18 c18 = true := by kernel_rfl
theorem m19 : mFn Tryz.prog Tryz.f19 c19 = true := by kernel_rfl
theorem m30 : mFn Tryz.prog Tryz.f30 c30 = true := by kernel_rfl
theorem m32 : mFn Tryz.prog Tryz.f32 c32 = true := by kernel_rfl
theorem m60 : mFn Tryz.prog Tryz.f60 c60 = true := by kernel_rfl
theorem m65 : mFn Tryz.prog Tryz.f65 c65 = true := by kernel_rfl
theorem m72 : mFn Tryz.prog Tryz.f72 c72 = true := by kernel_rfl
theorem m73 : mFn Tryz.prog Tryz.f73 c73 = true := by kernel_rfl
theorem m81 : mFn Tryz.prog Tryz.f81 c81 = true := by kernel_rfl
theorem m87 : mFn Tryz.prog Tryz.f87 c87 = true := by kernel_rfl
theorem m94 : mFn Tryz.prog Tryz.f94 c94 = true := by kernel_rfl
theorem m100 : mFn Tryz.prog Tryz.f100 c100 = true := by kernel_rfl
theorem m101 : mFn Tryz.prog Tryz.f101 c101 = true := by kernel_rfl
theorem m105 : mFn Tryz.prog Tryz.f105 c105 = true := by kernel_rfl
theorem m119 : mFn Tryz.prog Tryz.f119 c119 = true := by kernel_rfl
theorem m126 : mFn Tryz.prog Tryz.f126 c126 = true := by kernel_rfl
theorem m128 : mFn Tryz.prog Tryz.f128 c128 = true := by kernel_rfl
theorem m135 : mFn Tryz.prog Tryz.f135 c135 = true := by kernel_rfl
theorem m136 : mFn Tryz.prog Tryz.f136 c136 = true := by kernel_rfl
theorem m139 : mFn Tryz.prog Tryz.f139 c139 = true := by kernel_rfl
theorem m153 : mFn Tryz.prog Tryz.f153 c153 = true := by kernel_rfl
theorem m154 : mFn Tryz.prog Tryz.f154 c154 = true := by kernel_rfl
theorem m155 : mFn Tryz.prog Tryz.f155 c155 = true := by kernel_rfl
theorem m157 : mFn Tryz.prog Tryz.f157 c157 = true := by kernel_rfl
theorem m162 : mFn Tryz.prog Tryz.f162 c162 = true := by kernel_rfl
theorem m164 : mFn Tryz.prog Tryz.f164 c164 = true := by kernel_rfl
theorem m169 : mFn Tryz.prog Tryz.f169 c169 = true := by kernel_rfl
theorem m181 : mFn Tryz.prog Tryz.f181 c181 = true := by kernel_rfl
theorem m191 : mFn Tryz.prog Tryz.f191 c191 = true := by kernel_rfl
theorem m224 : mFn Tryz.prog Tryz.f224 c224 = true := by kernel_rfl
theorem m228 : mFn Tryz.prog Tryz.f228 c228 = true := by kernel_rfl
theorem m230 : mFn Tryz.prog Tryz.f230 c230 = true := by kernel_rfl
theorem m235 : mFn Tryz.prog Tryz.f235 c235 = true := by kernel_rfl
theorem m237 : mFn Tryz.prog Tryz.f237 c237 = true := by kernel_rfl
theorem m247 : mFn Tryz.prog Tryz.f247 c247 = true := by kernel_rfl
theorem m249 : mFn Tryz.prog Tryz.f249 c249 = true := by kernel_rfl
end Go.Proofs.YtdjkleaojdeepaaGreatDoor
