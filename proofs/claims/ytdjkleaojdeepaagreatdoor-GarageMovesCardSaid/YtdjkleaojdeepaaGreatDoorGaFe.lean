import Derived.Test.YtdjkleaojdeepaaGreatDoorGaC
import Derived.Test.YtdjkleaojdeepaaGreatDoorFwC
namespace Fw
open Go
theorem fe5 : F 5 = some c5 := by kernel_rfl
theorem fe17 : F 17 = some c17 := by kernel_rfl
theorem fe23 : F 23 = some c23 := by kernel_rfl
theorem fe24 : F 24 = some c24 := by kernel_rfl
theorem fe38 : F 38 = some c38 := by kernel_rfl
theorem fe40 : F 40 = some c40 := by kernel_rfl
theorem fe41 : F 41 = some c41 := by kernel_rfl
theorem fe42 : F 42 = some c42 := by kernel_rfl
theorem fe43 : F 43 = some c43 := by kernel_rfl
theorem fe44 : F 44 = some c44 := by kernel_rfl
theorem fe45 : F 45 = some c45 := by kernel_rfl
theorem fe46 : F 46 = some c46 := by kernel_rfl
theorem fe91 : F 91 = some c91 := by kernel_rfl
theorem fe92 : F 92 = some c92 := by kernel_rfl
theorem fe94 : F 94 = some c94 := by kernel_rfl
theorem fe103 : F 103 = some c103 := by kernel_rfl
theorem fe104 : F 104 = some c104 := by kernel_rfl
theorem fe105 : F 105 = some c105 := by kernel_rfl
theorem fe106 : F 106 = some c106 := by kernel_rfl
theorem fe107 : F 107 = some c107 := by kernel_rfl
theorem fe108 : F 108 = some c108 := by kernel_rfl
theorem fe140 : F 140 = some c140 := by kernel_rfl
end Fw
