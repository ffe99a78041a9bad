import Derived.Test.YtombnimlolbekaaGreatDoorPuC
import Derived.Test.YtombnimlolbekaaGreatDoorFwC
namespace Fw
open Go
theorem fe8 : F 8 = some c8 := by kernel_rfl
theorem fe14 : F 14 = some c14 := by kernel_rfl
theorem fe15 : F 15 = some c15 := by kernel_rfl
theorem fe16 : F 16 = some c16 := by kernel_rfl
theorem fe17 : F 17 = some c17 := by kernel_rfl
theorem fe19 : F 19 = some c19 := by kernel_rfl
theorem fe21 : F 21 = some c21 := by kernel_rfl
theorem fe27 : F 27 = some c27 := by kernel_rfl
theorem fe28 : F 28 = some c28 := by kernel_rfl
theorem fe32 : F 32 = some c32 := by kernel_rfl
theorem fe33 : F 33 = some c33 := by kernel_rfl
theorem fe37 : F 37 = some c37 := by kernel_rfl
theorem fe43 : F 43 = some c43 := by kernel_rfl
theorem fe44 : F 44 = some c44 := by kernel_rfl
theorem fe45 : F 45 = some c45 := by kernel_rfl
theorem fe46 : F 46 = some c46 := by kernel_rfl
theorem fe51 : F 51 = some c51 := by kernel_rfl
theorem fe52 : F 52 = some c52 := by kernel_rfl
theorem fe92 : F 92 = some c92 := by kernel_rfl
theorem fe93 : F 93 = some c93 := by kernel_rfl
theorem fe94 : F 94 = some c94 := by kernel_rfl
theorem fe95 : F 95 = some c95 := by kernel_rfl
theorem fe96 : F 96 = some c96 := by kernel_rfl
theorem fe97 : F 97 = some c97 := by kernel_rfl
theorem fe98 : F 98 = some c98 := by kernel_rfl
theorem fe99 : F 99 = some c99 := by kernel_rfl
theorem fe100 : F 100 = some c100 := by kernel_rfl
theorem fe101 : F 101 = some c101 := by kernel_rfl
theorem fe102 : F 102 = some c102 := by kernel_rfl
theorem fe105 : F 105 = some c105 := by kernel_rfl
theorem fe106 : F 106 = some c106 := by kernel_rfl
theorem fe107 : F 107 = some c107 := by kernel_rfl
theorem fe108 : F 108 = some c108 := by kernel_rfl
theorem fe113 : F 113 = some c113 := by kernel_rfl
theorem fe114 : F 114 = some c114 := by kernel_rfl
theorem fe115 : F 115 = some c115 := by kernel_rfl
theorem fe116 : F 116 = some c116 := by kernel_rfl
theorem fe117 : F 117 = some c117 := by kernel_rfl
theorem fe118 : F 118 = some c118 := by kernel_rfl
theorem fe122 : F 122 = some c122 := by kernel_rfl
theorem fe150 : F 150 = some c150 := by kernel_rfl
theorem fe151 : F 151 = some c151 := by kernel_rfl
theorem fe154 : F 154 = some c154 := by kernel_rfl
theorem fe155 : F 155 = some c155 := by kernel_rfl
theorem fe161 : F 161 = some c161 := by kernel_rfl
theorem fe178 : F 178 = some c178 := by kernel_rfl
theorem fe179 : F 179 = some c179 := by kernel_rfl
theorem fe180 : F 180 = some c180 := by kernel_rfl
theorem fe181 : F 181 = some c181 := by kernel_rfl
end Fw
