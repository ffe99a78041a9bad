import Derived.Test.YtbaedpfgjpkabaaGreatDoorChE5
import Derived.Test.YtbaedpfgjpkabaaGreatDoorSmp5
namespace Fw
open Go
/-- the library's functions -/
def C0 : Nat → List AVal → Option (T AVal) := tabC [(162, cJoin), (194, cItoa), (217, cIndexByte), (220, cCount), (243, cBits), (242, cFrom), (234, cIntegral .down), (249, cIntegral .zero), (123, runC), (51, encC), (201, smpC1), (202, smpC2)]
def g0 : List PVal := [.int .u8 120, .int .u8 121, .int .u8 122]
def g1 : List PVal := [.int .u8 43, .int .u8 45]
def g2 : List PVal := [.clo 268 [] []]
def g3 : List PVal := [.clo 269 [] []]
def g4 : List PVal := [.clo 270 [] []]
/-- the package variables -/
def G0 (n : Nat) : Option (List PVal) := match n with
  | 0 => some g0
  | 1 => some g1
  | 2 => some g2
  | 3 => some g3
  | 4 => some g4
  | 7 => some pow10C
  | _ => none
end Fw
