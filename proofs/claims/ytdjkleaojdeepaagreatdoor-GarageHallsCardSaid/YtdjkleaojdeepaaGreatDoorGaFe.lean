import Derived.Test.YtdjkleaojdeepaaGreatDoorGaC
import Derived.Test.YtdjkleaojdeepaaGreatDoorFwC
namespace Fw
open Go
theorem fe14 : F 14 = some c14 := by kernel_rfl
theorem fe15 : F 15 = some c15 := by kernel_rfl
theorem fe17 : F 17 = some c17 := by kernel_rfl
theorem fe19 : F 19 = some c19 := by kernel_rfl
theorem fe23 : F 23 = some c23 := by kernel_rfl
theorem fe24 : F 24 = some c24 := by kernel_rfl
theorem fe25 : F 25 = some c25 := by kernel_rfl
theorem fe65 : F 65 = some c65 := by kernel_rfl
theorem fe71 : F 71 = some c71 := by kernel_rfl
theorem fe72 : F 72 = some c72 := by kernel_rfl
theorem fe79 : F 79 = some c79 := by kernel_rfl
theorem fe80 : F 80 = some c80 := by kernel_rfl
theorem fe81 : F 81 = some c81 := by kernel_rfl
theorem fe82 : F 82 = some c82 := by kernel_rfl
theorem fe87 : F 87 = some c87 := by kernel_rfl
theorem fe91 : F 91 = some c91 := by kernel_rfl
theorem fe92 : F 92 = some c92 := by kernel_rfl
theorem fe93 : F 93 = some c93 := by kernel_rfl
theorem fe94 : F 94 = some c94 := by kernel_rfl
theorem fe96 : F 96 = some c96 := by kernel_rfl
theorem fe97 : F 97 = some c97 := by kernel_rfl
theorem fe104 : F 104 = some c104 := by kernel_rfl
theorem fe105 : F 105 = some c105 := by kernel_rfl
theorem fe128 : F 128 = some c128 := by kernel_rfl
theorem fe131 : F 131 = some c131 := by kernel_rfl
theorem fe132 : F 132 = some c132 := by kernel_rfl
theorem fe134 : F 134 = some c134 := by kernel_rfl
theorem fe135 : F 135 = some c135 := by kernel_rfl
theorem fe139 : F 139 = some c139 := by kernel_rfl
theorem fe160 : F 160 = some c160 := by kernel_rfl
theorem fe163 : F 163 = some c163 := by kernel_rfl
theorem fe217 : F 217 = some c217 := by kernel_rfl
theorem fe222 : F 222 = some c222 := by kernel_rfl
theorem fe231 : F 231 = some c231 := by kernel_rfl
end Fw
