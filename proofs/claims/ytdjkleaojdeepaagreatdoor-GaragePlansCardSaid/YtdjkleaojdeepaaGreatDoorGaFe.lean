import Derived.Test.YtdjkleaojdeepaaGreatDoorGaC
import Derived.Test.YtdjkleaojdeepaaGreatDoorFwC
namespace Fw
open Go
theorem fe7 : F 7 = some c7 := by kernel_rfl
theorem fe17 : F 17 = some c17 := by kernel_rfl
theorem fe23 : F 23 = some c23 := by kernel_rfl
theorem fe24 : F 24 = some c24 := by kernel_rfl
theorem fe38 : F 38 = some c38 := by kernel_rfl
theorem fe47 : F 47 = some c47 := by kernel_rfl
theorem fe49 : F 49 = some c49 := by kernel_rfl
theorem fe51 : F 51 = some c51 := by kernel_rfl
theorem fe54 : F 54 = some c54 := by kernel_rfl
theorem fe55 : F 55 = some c55 := by kernel_rfl
theorem fe57 : F 57 = some c57 := by kernel_rfl
theorem fe59 : F 59 = some c59 := by kernel_rfl
theorem fe60 : F 60 = some c60 := by kernel_rfl
theorem fe61 : F 61 = some c61 := by kernel_rfl
theorem fe62 : F 62 = some c62 := by kernel_rfl
theorem fe73 : F 73 = some c73 := by kernel_rfl
theorem fe91 : F 91 = some c91 := by kernel_rfl
theorem fe92 : F 92 = some c92 := by kernel_rfl
theorem fe94 : F 94 = some c94 := by kernel_rfl
theorem fe104 : F 104 = some c104 := by kernel_rfl
theorem fe110 : F 110 = some c110 := by kernel_rfl
theorem fe111 : F 111 = some c111 := by kernel_rfl
theorem fe112 : F 112 = some c112 := by kernel_rfl
theorem fe113 : F 113 = some c113 := by kernel_rfl
theorem fe114 : F 114 = some c114 := by kernel_rfl
theorem fe116 : F 116 = some c116 := by kernel_rfl
theorem fe117 : F 117 = some c117 := by kernel_rfl
theorem fe118 : F 118 = some c118 := by kernel_rfl
theorem fe119 : F 119 = some c119 := by kernel_rfl
theorem fe120 : F 120 = some c120 := by kernel_rfl
theorem fe142 : F 142 = some c142 := by kernel_rfl
theorem fe143 : F 143 = some c143 := by kernel_rfl
theorem fe145 : F 145 = some c145 := by kernel_rfl
theorem fe146 : F 146 = some c146 := by kernel_rfl
theorem fe147 : F 147 = some c147 := by kernel_rfl
theorem fe148 : F 148 = some c148 := by kernel_rfl
theorem fe165 : F 165 = some c165 := by kernel_rfl
end Fw
