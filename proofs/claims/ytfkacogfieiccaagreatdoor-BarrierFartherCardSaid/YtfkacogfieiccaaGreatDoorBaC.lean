import Derived.Test.YtfkacogfieiccaaGreatDoorBaCodeb
import Derived.Test.YtfkacogfieiccaaGreatDoorFwC
import Derived.KernelRfl
namespace Fw
open Go
def C0 : Nat → List AVal → Option (T AVal) := tabC [(145, cJoin), (168, cItoa), (177, cGrow), (190, cIndexByte), (201, cCount)]
def g0 : List PVal := [.clo 232 [] [], .clo 233 [] []]
def g1 : List PVal := [.str [119, 97, 108, 108], .int .i64 1, .str [102, 114, 105, 99, 116, 105, 111, 110], .int .i64 2, .str [98, 114, 97, 107, 101], .int .i64 2, .str [112, 117, 108, 108], .int .i64 1]
def g5 : List PVal := [.int .u8 128, .int .u8 191, .int .u8 160, .int .u8 191, .int .u8 128, .int .u8 159, .int .u8 144, .int .u8 191, .int .u8 128, .int .u8 143, .int .u8 0, .int .u8 0, .int .u8 0, .int .u8 0, .int .u8 0, .int .u8 0, .int .u8 0, .int .u8 0, .int .u8 0, .int .u8 0, .int .u8 0, .int .u8 0, .int .u8 0, .int .u8 0, .int .u8 0, .int .u8 0, .int .u8 0, .int .u8 0, .int .u8 0, .int .u8 0, .int .u8 0, .int .u8 0]
def G0 (n : Nat) : Option (List PVal) := match n with
 | 0 => some g0
 | 1 => some g1
 | 3 => some pow10C
 | 5 => some g5
 | _ => none
end Fw
