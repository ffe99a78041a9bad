import Derived.Test.YtfkacogfieiccaaGreatDoorBaC
import Derived.Test.YtfkacogfieiccaaGreatDoorFwC
namespace Fw
open Go
theorem fe11 : F 11 = some c11 := by kernel_rfl
theorem fe35 : F 35 = some c35 := by kernel_rfl
theorem fe39 : F 39 = some c39 := by kernel_rfl
theorem fe40 : F 40 = some c40 := by kernel_rfl
theorem fe48 : F 48 = some c48 := by kernel_rfl
theorem fe50 : F 50 = some c50 := by kernel_rfl
theorem fe51 : F 51 = some c51 := by kernel_rfl
theorem fe52 : F 52 = some c52 := by kernel_rfl
theorem fe55 : F 55 = some c55 := by kernel_rfl
theorem fe98 : F 98 = some c98 := by kernel_rfl
theorem fe101 : F 101 = some c101 := by kernel_rfl
theorem fe102 : F 102 = some c102 := by kernel_rfl
theorem fe103 : F 103 = some c103 := by kernel_rfl
theorem fe107 : F 107 = some c107 := by kernel_rfl
theorem fe108 : F 108 = some c108 := by kernel_rfl
theorem fe109 : F 109 = some c109 := by kernel_rfl
theorem fe116 : F 116 = some c116 := by kernel_rfl
theorem fe117 : F 117 = some c117 := by kernel_rfl
theorem fe118 : F 118 = some c118 := by kernel_rfl
theorem fe119 : F 119 = some c119 := by kernel_rfl
theorem fe120 : F 120 = some c120 := by kernel_rfl
theorem fe121 : F 121 = some c121 := by kernel_rfl
theorem fe122 : F 122 = some c122 := by kernel_rfl
theorem fe153 : F 153 = some c153 := by kernel_rfl
theorem fe160 : F 160 = some c160 := by kernel_rfl
theorem fe161 : F 161 = some c161 := by kernel_rfl
theorem fe162 : F 162 = some c162 := by kernel_rfl
end Fw
