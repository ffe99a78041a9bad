import Derived.Test.YtbaedpfgjpkabaaGreatDoorChCodeb
import Derived.Test.YtbaedpfgjpkabaaGreatDoorFwC
import Derived.KernelRfl
namespace Fw
open Go
theorem fe11 : F 11 = some c11 := by kernel_rfl
theorem fe29 : F 29 = some c29 := by kernel_rfl
theorem fe37 : F 37 = some c37 := by kernel_rfl
theorem fe38 : F 38 = some c38 := by kernel_rfl
theorem fe39 : F 39 = some c39 := by kernel_rfl
theorem fe40 : F 40 = some c40 := by kernel_rfl
theorem fe41 : F 41 = some c41 := by kernel_rfl
theorem fe42 : F 42 = some c42 := by kernel_rfl
theorem fe47 : F 47 = some c47 := by kernel_rfl
theorem fe48 : F 48 = some c48 := by kernel_rfl
theorem fe49 : F 49 = some c49 := by kernel_rfl
theorem fe51 : F 51 = some c51 := by kernel_rfl
theorem fe83 : F 83 = some c83 := by kernel_rfl
theorem fe85 : F 85 = some c85 := by kernel_rfl
theorem fe86 : F 86 = some c86 := by kernel_rfl
theorem fe87 : F 87 = some c87 := by kernel_rfl
theorem fe88 : F 88 = some c88 := by kernel_rfl
theorem fe89 : F 89 = some c89 := by kernel_rfl
theorem fe103 : F 103 = some c103 := by kernel_rfl
theorem fe104 : F 104 = some c104 := by kernel_rfl
theorem fe108 : F 108 = some c108 := by kernel_rfl
theorem fe109 : F 109 = some c109 := by kernel_rfl
theorem fe111 : F 111 = some c111 := by kernel_rfl
theorem fe115 : F 115 = some c115 := by kernel_rfl
theorem fe117 : F 117 = some c117 := by kernel_rfl
theorem fe121 : F 121 = some c121 := by kernel_rfl
theorem fe122 : F 122 = some c122 := by kernel_rfl
theorem fe123 : F 123 = some c123 := by kernel_rfl
theorem fe124 : F 124 = some c124 := by kernel_rfl
theorem fe125 : F 125 = some c125 := by kernel_rfl
theorem fe126 : F 126 = some c126 := by kernel_rfl
theorem fe131 : F 131 = some c131 := by kernel_rfl
theorem fe132 : F 132 = some c132 := by kernel_rfl
theorem fe133 : F 133 = some c133 := by kernel_rfl
theorem fe134 : F 134 = some c134 := by kernel_rfl
theorem fe135 : F 135 = some c135 := by kernel_rfl
theorem fe136 : F 136 = some c136 := by kernel_rfl
theorem fe154 : F 154 = some c154 := by kernel_rfl
theorem fe155 : F 155 = some c155 := by kernel_rfl
theorem fe173 : F 173 = some c173 := by kernel_rfl
theorem fe174 : F 174 = some c174 := by kernel_rfl
theorem fe175 : F 175 = some c175 := by kernel_rfl
theorem fe176 : F 176 = some c176 := by kernel_rfl
theorem fe177 : F 177 = some c177 := by kernel_rfl
theorem fe178 : F 178 = some c178 := by kernel_rfl
theorem fe181 : F 181 = some c181 := by kernel_rfl
theorem fe199 : F 199 = some c199 := by kernel_rfl
theorem fe200 : F 200 = some c200 := by kernel_rfl
theorem fe201 : F 201 = some c201 := by kernel_rfl
theorem fe202 : F 202 = some c202 := by kernel_rfl
theorem fe211 : F 211 = some c211 := by kernel_rfl
theorem fe212 : F 212 = some c212 := by kernel_rfl
theorem fe213 : F 213 = some c213 := by kernel_rfl
theorem fe222 : F 222 = some c222 := by kernel_rfl
theorem fe223 : F 223 = some c223 := by kernel_rfl
theorem fe224 : F 224 = some c224 := by kernel_rfl
theorem fe233 : F 233 = some c233 := by kernel_rfl
theorem fe268 : F 268 = some c268 := by kernel_rfl
theorem fe269 : F 269 = some c269 := by kernel_rfl
theorem fe270 : F 270 = some c270 := by kernel_rfl
end Fw
