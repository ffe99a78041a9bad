/- The library's functions that are taken by contract. -/
import Derived.Test.YtombnimlolbekaaGreatDoorPuLanes
import Derived.Test.YtombnimlolbekaaGreatDoorFwC
namespace Fw
open Go
theorem max2 (a b : Int) : maxInt a [iv b] = some (max a b) := by
 simp only [maxInt]; congr 1; split <;> omega
theorem min2 (a b : Int) : minInt a [iv b] = some (min a b) := by
 simp only [minInt]; congr 1; split <;> omega
end Fw
