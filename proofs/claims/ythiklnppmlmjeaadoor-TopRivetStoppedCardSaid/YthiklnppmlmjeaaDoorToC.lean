import Derived.Test.YthiklnppmlmjeaaDoorToCodeb
import Derived.Test.YthiklnppmlmjeaaDoorFwC
import Derived.KernelRfl
namespace Fw
open Go
def C0 : Nat → List AVal → Option (T AVal) := tabC []
def g0 : List PVal := [.str [111, 112, 101, 110], .clo 174 [] [], .clo 175 [] [], .clo 176 [] [], .str [99, 108, 111, 115, 101], .clo 174 [] [], .clo 177 [] [], .clo 178 [] [], .str [105, 110, 115, 101, 114, 116], .clo 179 [] [], .clo 180 [] [], .clo 181 [] [], .str [114, 101, 109, 111, 118, 101], .clo 179 [] [], .clo 182 [] [], .clo 183 [] [], .str [101, 110, 116, 101, 114], .clo 174 [] [], .clo 184 [] [], .clo 185 [] [], .str [108, 101, 97, 118, 101], .clo 174 [] [], .clo 186 [] [], .clo 187 [] [], .str [97, 114, 109], .clo 188 [] [], .clo 189 [] [], .clo 190 [] [], .str [100, 105, 115, 97, 114, 109], .clo 188 [] [], .clo 191 [] [], .clo 192 [] [], .str [115, 104, 111, 111, 116], .clo 188 [] [], .clo 193 [] [], .clo 194 [] [], .str [109, 101, 97, 115, 117, 114, 101], .clo 188 [] [], .clo 195 [] [], .clo 196 [] []]
def g1 : List PVal := [.str [116, 105, 99, 107], .clo 197 [] [], .str [115, 116, 97, 116, 101], .clo 198 [] [], .str [97, 114, 109, 101, 100], .clo 201 [] [], .str [100, 111, 111, 114], .clo 202 [] [], .str [112, 101, 111, 112, 108, 101], .clo 203 [] [], .str [107, 101, 121], .clo 204 [] [], .str [119, 97, 105, 116], .clo 205 [] []]
def G0 (n : Nat) : Option (List PVal) := match n with
 | 0 => some g0
 | 1 => some g1
 | _ => none
end Fw
