import Derived.Test.YtdjkleaojdeepaaGreatDoorGaC
import Derived.Test.YtdjkleaojdeepaaGreatDoorFwC
namespace Fw
open Go
theorem fe6 : F 6 = some c6 := by kernel_rfl
theorem fe17 : F 17 = some c17 := by kernel_rfl
theorem fe23 : F 23 = some c23 := by kernel_rfl
theorem fe24 : F 24 = some c24 := by kernel_rfl
theorem fe38 : F 38 = some c38 := by kernel_rfl
theorem fe43 : F 43 = some c43 := by kernel_rfl
theorem fe47 : F 47 = some c47 := by kernel_rfl
theorem fe48 : F 48 = some c48 := by kernel_rfl
theorem fe49 : F 49 = some c49 := by kernel_rfl
theorem fe50 : F 50 = some c50 := by kernel_rfl
theorem fe51 : F 51 = some c51 := by kernel_rfl
theorem fe52 : F 52 = some c52 := by kernel_rfl
theorem fe53 : F 53 = some c53 := by kernel_rfl
theorem fe54 : F 54 = some c54 := by kernel_rfl
theorem fe55 : F 55 = some c55 := by kernel_rfl
theorem fe56 : F 56 = some c56 := by kernel_rfl
theorem fe57 : F 57 = some c57 := by kernel_rfl
theorem fe58 : F 58 = some c58 := by kernel_rfl
theorem fe73 : F 73 = some c73 := by kernel_rfl
theorem fe91 : F 91 = some c91 := by kernel_rfl
theorem fe92 : F 92 = some c92 := by kernel_rfl
theorem fe94 : F 94 = some c94 := by kernel_rfl
theorem fe104 : F 104 = some c104 := by kernel_rfl
theorem fe105 : F 105 = some c105 := by kernel_rfl
theorem fe109 : F 109 = some c109 := by kernel_rfl
theorem fe110 : F 110 = some c110 := by kernel_rfl
theorem fe111 : F 111 = some c111 := by kernel_rfl
theorem fe112 : F 112 = some c112 := by kernel_rfl
theorem fe113 : F 113 = some c113 := by kernel_rfl
theorem fe114 : F 114 = some c114 := by kernel_rfl
theorem fe115 : F 115 = some c115 := by kernel_rfl
theorem fe116 : F 116 = some c116 := by kernel_rfl
theorem fe141 : F 141 = some c141 := by kernel_rfl
theorem fe142 : F 142 = some c142 := by kernel_rfl
theorem fe143 : F 143 = some c143 := by kernel_rfl
theorem fe144 : F 144 = some c144 := by kernel_rfl
theorem fe164 : F 164 = some c164 := by kernel_rfl
end Fw
