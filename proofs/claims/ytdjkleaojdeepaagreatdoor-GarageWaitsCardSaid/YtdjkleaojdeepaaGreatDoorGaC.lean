import Derived.Test.YtdjkleaojdeepaaGreatDoorGaCodeb
import Derived.Test.YtdjkleaojdeepaaGreatDoorFwC
import Derived.KernelRfl
namespace Fw
open Go
def C0 : Nat → List AVal → Option (T AVal) := tabC [(121, cJoin), (124, cItoa), (179, cIndexByte), (190, cCount)]
def g0 : List PVal := [.str [111, 112, 101, 110], .clo 217 [] [], .clo 218 [] [], .clo 219 [] [], .str [99, 108, 111, 115, 101], .clo 217 [] [], .clo 220 [] [], .clo 221 [] [], .str [105, 110, 115, 101, 114, 116], .clo 222 [] [], .clo 223 [] [], .clo 224 [] [], .str [114, 101, 109, 111, 118, 101], .clo 222 [] [], .clo 225 [] [], .clo 226 [] [], .str [101, 110, 116, 101, 114], .clo 217 [] [], .clo 227 [] [], .clo 228 [] [], .str [108, 101, 97, 118, 101], .clo 217 [] [], .clo 229 [] [], .clo 230 [] [], .str [97, 114, 109], .clo 231 [] [], .clo 232 [] [], .clo 233 [] [], .str [100, 105, 115, 97, 114, 109], .clo 231 [] [], .clo 234 [] [], .clo 235 [] [], .str [115, 104, 111, 111, 116], .clo 231 [] [], .clo 236 [] [], .clo 237 [] [], .str [109, 101, 97, 115, 117, 114, 101], .clo 231 [] [], .clo 238 [] [], .clo 239 [] []]
def g1 : List PVal := [.str [116, 105, 99, 107], .clo 240 [] [], .str [115, 116, 97, 116, 101], .clo 241 [] [], .str [97, 114, 109, 101, 100], .clo 244 [] [], .str [100, 111, 111, 114], .clo 245 [] [], .str [112, 101, 111, 112, 108, 101], .clo 246 [] [], .str [107, 101, 121], .clo 247 [] [], .str [119, 97, 105, 116], .clo 248 [] []]
def g7 : List PVal := [.int .u8 128, .int .u8 191, .int .u8 160, .int .u8 191, .int .u8 128, .int .u8 159, .int .u8 144, .int .u8 191, .int .u8 128, .int .u8 143, .int .u8 0, .int .u8 0, .int .u8 0, .int .u8 0, .int .u8 0, .int .u8 0, .int .u8 0, .int .u8 0, .int .u8 0, .int .u8 0, .int .u8 0, .int .u8 0, .int .u8 0, .int .u8 0, .int .u8 0, .int .u8 0, .int .u8 0, .int .u8 0, .int .u8 0, .int .u8 0, .int .u8 0, .int .u8 0]
def G0 (n : Nat) : Option (List PVal) := match n with
 | 0 => some g0
 | 1 => some g1
 | 3 => some pow10C
 | 7 => some g7
 | _ => none
end Fw
