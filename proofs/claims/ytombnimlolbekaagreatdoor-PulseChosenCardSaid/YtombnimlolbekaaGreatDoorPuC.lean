import Derived.Test.YtombnimlolbekaaGreatDoorPuCodeb
import Derived.Test.YtombnimlolbekaaGreatDoorFwC
import Derived.KernelRfl
namespace Fw
open Go
def C0 : Nat → List AVal → Option (T AVal) := tabC [(130, cJoin), (133, cItoa), (198, cIndexByte), (201, cCount)]
def g0 : List PVal := [.str [115, 116, 101, 112]]
def g4 : List PVal := [.int .u8 128, .int .u8 191, .int .u8 160, .int .u8 191, .int .u8 128, .int .u8 159, .int .u8 144, .int .u8 191, .int .u8 128, .int .u8 143, .int .u8 0, .int .u8 0, .int .u8 0, .int .u8 0, .int .u8 0, .int .u8 0, .int .u8 0, .int .u8 0, .int .u8 0, .int .u8 0, .int .u8 0, .int .u8 0, .int .u8 0, .int .u8 0, .int .u8 0, .int .u8 0, .int .u8 0, .int .u8 0, .int .u8 0, .int .u8 0, .int .u8 0, .int .u8 0]
def G0 (n : Nat) : Option (List PVal) := match n with
 | 0 => some g0
 | 2 => some pow10C
 | 4 => some g4
 | _ => none
end Fw
