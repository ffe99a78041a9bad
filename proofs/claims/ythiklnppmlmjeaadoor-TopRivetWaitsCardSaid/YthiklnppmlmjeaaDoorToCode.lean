/- The functions of the program, written for the evaluator, first part: definitions alone. -/
import Derived.Test.YthiklnppmlmjeaaDoorFwC
namespace Fw
open Go
abbrev o (d : Nat) (x : AOp) : AOper := ⟨some d, x, none⟩
abbrev u (x : AOp) : AOper := ⟨none, x, none⟩
abbrev mt (d x : Nat) : AOper := ⟨some d, .mv (.t x), none⟩
abbrev zl0 : List AVal := [.p (.int .i64 0), .p (.bool false), .p (.bool false), .p (.bool false), .p (.bool false), .p (.bool false), .p (.bool false), .p (.bool false), .p (.bool false), .p (.bool false), .p (.bool false), .p (.int .i64 0), .p (.bool false), .p (.int .i64 0), .p (.int .i64 0)]
abbrev zl1 : List AVal := [.p (.int .i64 0), .p (.str []), .p (.int .i64 0), .p (.int .i64 0), .p (.int .i64 0), .p (.int .i64 0)]
abbrev zl2 : List AVal := [.p (.int .i64 0), .p (.int .i64 0), .p (.int .i64 0), .p (.int .i64 0), .p (.int .i64 0)]
abbrev zl3 : List AVal := [.p (.int .i64 0), .p (.int .i64 0), .p (.nils), .p (.nils), .p (.nils)]
abbrev zl4 : List AVal := [.p (.int .i64 0), .p (.int .i64 0), .p (.int .i64 0)]
abbrev zl5 : List AVal := [.p (.int .i64 0), .p (.int .i64 0)]
abbrev zl6 : List AVal := [.p (.int .i64 0)]
abbrev zl7 : List AVal := [.p (.str [])]
abbrev ci (n : Int) : Opd := .c (.p (.int .i64 n))
abbrev cb (b : Bool) : Opd := .c (.p (.bool b))
abbrev cs (l : List UInt8) : Opd := .c (.p (.str l))
abbrev cn : Opd := .c (.p .nils)
abbrev cf (f : Nat) : Opd := .c (.p (.clo f [] []))
inductive Tr where | leaf | node (k : Nat) (v : AFunc) (l r : Tr)
def Tr.find : Tr → Nat → Option AFunc
 | .leaf, _ => none
 | .node k v l r, n => if n = k then some v else if n < k then l.find n else r.find n
def c3L0 : ACode :=
 .seq (.ops [o 199 (.bin .lss (.t 198) (ci 2))] [2, 3, 5, 10, 11, 18, 22, 111, 112, 197, 198, 199])
 (.seq (.cond (.t 199)
 (.skip)
 (.exit 2))
 (.seq (.block 3 (.seq (.ops [o 200 (.idx false 1 2 (.t 197) (.t 198)), mt 25 200] [2, 3, 5, 10, 11, 18, 22, 25, 111, 112, 197, 198])
 (.seq (.opsd [(0, 1), (1, 1), (2, 1), (3, 1), (4, 1), (6, 1), (7, 1), (8, 1), (5, 0), (9, 0), (10, 1), (11, 1), (12, 1), (13, 1), (14, 1)] [o 202 (.ld true 5 (.t 2)), o 203 (.call true true 0 (.fn 17) [.t 202]), mt 204 5, o 205 (.bin .add (ci 5) (.t 204)), o 206 (.ld true 3 (.t 18)), mt 208 22, mt 209 25, o 210 (.build zl1 [(0, 1, .t 208), (1, 1, .t 209)]), o 207 (.call true false 0 (.fn 18) [ci 5, .t 205, .t 206]), o 211 (.call true false 0 (.fn 20) [.t 203, .t 207, .t 210]), mt 201 211, o 212 (.ext (.t 201) 0), o 213 (.ext (.t 201) 1), mt 26 212, mt 27 213] [2, 3, 5, 10, 11, 18, 22, 25, 26, 27, 111, 112, 197, 198])
 (.seq (.opsd [(0, 1), (1, 1), (2, 1), (3, 1), (4, 1), (6, 1), (7, 1), (8, 1), (9, 1), (5, 0), (10, 0), (11, 1), (12, 1), (13, 1), (14, 1), (15, 1)] [o 215 (.ld true 5 (.t 2)), o 216 (.call true true 0 (.fn 17) [.t 215]), mt 217 5, o 218 (.bin .add (ci 5) (.t 217)), o 219 (.ld true 3 (.t 18)), mt 221 22, o 222 (.bin .sub (.t 221) (ci 1)), mt 223 25, o 224 (.build zl1 [(0, 1, .t 222), (1, 1, .t 223)]), o 220 (.call true false 0 (.fn 18) [ci 5, .t 218, .t 219]), o 225 (.call true false 0 (.fn 20) [.t 216, .t 220, .t 224]), mt 214 225, o 226 (.ext (.t 214) 0), o 227 (.ext (.t 214) 1), mt 28 226, mt 29 227] [2, 3, 5, 10, 11, 18, 22, 25, 26, 27, 28, 29, 111, 112, 197, 198])
 (.seq (.opsd [(0, 1), (1, 1), (2, 1), (3, 1), (4, 1), (7, 1), (8, 1), (9, 1), (5, 0), (6, 1), (10, 0), (11, 1), (12, 1), (13, 1), (14, 1), (15, 1)] [o 229 (.ld true 5 (.t 2)), o 230 (.call true true 0 (.fn 17) [.t 229]), mt 231 5, o 232 (.bin .add (ci 5) (.t 231)), o 233 (.ld true 3 (.t 18)), mt 236 22, mt 237 25, o 238 (.build zl1 [(0, 1, .t 236), (1, 1, .t 237)]), o 234 (.call true false 0 (.fn 18) [ci 5, .t 232, .t 233]), o 235 (.slc 6 (.t 234) none (some (ci 4))), o 239 (.call true false 0 (.fn 20) [.t 230, .t 235, .t 238]), mt 228 239, o 240 (.ext (.t 228) 0), o 241 (.ext (.t 228) 1), mt 30 240, mt 31 241] [2, 3, 5, 10, 11, 18, 22, 26, 27, 28, 29, 30, 31, 111, 112, 197, 198])
 (.seq (.ops [mt 242 27, o 243 (.bin .neq (.t 242) (ci 0)), mt 244 243, ⟨some 245, .mv (.t 29), some (244, false)⟩, ⟨some 246, .bin .neq (.t 245) (ci 0), some (244, false)⟩, o 247 (.pick (.t 244) (cb true) (.t 246)), mt 248 247, ⟨some 249, .mv (.t 31), some (248, false)⟩, ⟨some 250, .bin .neq (.t 249) (ci 0), some (248, false)⟩, o 251 (.pick (.t 248) (cb true) (.t 250)), mt 252 251, ⟨some 253, .mv (.t 26), some (252, false)⟩, ⟨some 254, .len 1 (.t 253), some (252, false)⟩, ⟨some 255, .bin .gtr (.t 254) (ci 0), some (252, false)⟩, o 256 (.pick (.t 252) (cb true) (.t 255)), mt 257 256, ⟨some 258, .mv (.t 28), some (257, false)⟩, ⟨some 259, .call true true 0 (.fn 21) [.t 258, cs [119, 97, 105, 116]], some (257, false)⟩, ⟨some 260, .not (.t 259), some (257, false)⟩, o 261 (.pick (.t 257) (cb true) (.t 260)), mt 262 261, ⟨some 263, .mv (.t 30), some (262, false)⟩, ⟨some 264, .call true true 0 (.fn 21) [.t 263, cs [119, 97, 105, 116]], some (262, false)⟩, ⟨some 265, .not (.t 264), some (262, false)⟩, o 266 (.pick (.t 262) (cb true) (.t 265))] [2, 3, 5, 10, 11, 18, 22, 111, 112, 197, 198, 266])
 (.cond (.t 266)
 (.seq (.ops [o 4 (.mv (cb false))] [4])
 (.ret))
 (.skip))))))))
 (.ops [o 267 (.bin .add (.t 198) (ci 1)), mt 198 267] [2, 3, 5, 10, 11, 18, 22, 111, 112, 197, 198])))
def c3L1 : ACode :=
 .seq (.ops [o 113 (.bin .lss (.t 112) (ci 4))] [2, 3, 5, 10, 11, 111, 112, 113])
 (.seq (.cond (.t 113)
 (.skip)
 (.exit 0))
 (.seq (.block 1 (.seq (.ops [mt 114 112, o 115 (.idx false 1 4 (.t 111) (.t 112)), mt 12 114, mt 13 115] [2, 3, 5, 10, 11, 12, 13, 111, 112])
 (.seq (.ops [o 117 (.fadr 0 (.t 3)), o 118 (.ld true 5 (.t 117)), o 119 (.fadr 5 (.t 3)), o 120 (.ld false 1 (.t 119)), o 121 (.call true false 0 (.fn 12) [.t 118, .t 120]), mt 116 121, o 122 (.ext (.t 116) 0), o 123 (.ext (.t 116) 1), o 14 (.alloc true 1 zl2), u (.st 5 (.t 14) (.t 122)), mt 15 123] [2, 3, 5, 10, 11, 12, 13, 14, 15, 111, 112])
 (.seq (.ops [o 125 (.ld true 5 (.t 14)), mt 126 15, mt 127 13, mt 128 5, o 129 (.call true false 0 (.fn 13) [.t 125, .t 126, .t 127, .t 128]), mt 124 129, o 130 (.ext (.t 124) 0), o 131 (.ext (.t 124) 1), mt 16 130, mt 17 131] [2, 3, 5, 10, 11, 12, 16, 17, 111, 112])
 (.seq (.seq (.ops [mt 132 17, o 133 (.bin .neq (.t 132) (ci 0)), mt 134 133, ⟨some 135, .mv (.t 16), some (134, false)⟩, ⟨some 136, .len 1 (.t 135), some (134, false)⟩, ⟨some 137, .mv (.t 5), some (134, false)⟩, ⟨some 138, .bin .neq (.t 136) (.t 137), some (134, false)⟩, o 139 (.pick (.t 134) (cb true) (.t 138))] [2, 3, 5, 10, 11, 12, 16, 111, 112, 139])
 (.cond (.t 139)
 (.seq (.ops [o 4 (.mv (cb false))] [4])
 (.ret))
 (.skip)))
 (.seq (.ops [mt 140 16, o 141 (.call true true 0 (.fn 14) [.t 140]), o 18 (.alloc true 1 zl4), u (.st 3 (.t 18) (.t 141))] [2, 3, 5, 10, 11, 12, 18, 111, 112])
 (.seq (.seq (.ops [o 142 (.ld true 3 (.t 18)), o 143 (.call true true 0 (.fn 15) [.t 142]), o 144 (.bin .neq (.t 143) (ci 0))] [2, 3, 5, 10, 11, 12, 18, 111, 112, 144])
 (.cond (.t 144)
 (.seq (.ops [o 4 (.mv (cb false))] [4])
 (.ret))
 (.skip)))
 (.seq (.opsd [(0, 1), (1, 1), (2, 1), (3, 0), (4, 1), (5, 1), (6, 1), (7, 1), (8, 1)] [o 146 (.ld true 5 (.t 2)), o 147 (.call true true 0 (.fn 17) [.t 146]), o 148 (.ld true 3 (.t 18)), o 149 (.call true true 0 (.fn 16) [.t 147, .t 148]), mt 145 149, o 150 (.ext (.t 145) 0), o 151 (.ext (.t 145) 1), mt 19 150, mt 20 151] [2, 3, 5, 10, 11, 12, 18, 19, 20, 111, 112])
 (.seq (.seq (.ops [mt 152 20, o 153 (.bin .neq (.t 152) (ci 0)), mt 154 153, ⟨some 155, .mv (.t 12), some (154, false)⟩, ⟨some 156, .bin .gtr (.t 155) (ci 0), some (154, false)⟩, ⟨some 157, .mv (.t 156), some (154, false)⟩, ⟨some 158, .mv (.t 19), some (157, true)⟩, ⟨some 159, .mv (.t 11), some (157, true)⟩, ⟨some 160, .bin .lss (.t 158) (.t 159), some (157, true)⟩, ⟨some 161, .mv (.t 160), some (157, true)⟩, ⟨some 162, .iadra 1 3 (.t 18) (ci 0), some (161, false)⟩, ⟨some 163, .ld false 1 (.t 162), some (161, false)⟩, ⟨some 164, .mv (.t 10), some (161, false)⟩, ⟨some 165, .bin .lss (.t 163) (.t 164), some (161, false)⟩, ⟨some 166, .pick (.t 161) (cb true) (.t 165), some (157, true)⟩, ⟨some 167, .pick (.t 157) (.t 166) (cb false), some (154, false)⟩, o 168 (.pick (.t 154) (cb true) (.t 167))] [2, 3, 5, 18, 19, 111, 112, 168])
 (.cond (.t 168)
 (.seq (.ops [o 4 (.mv (cb false))] [4])
 (.ret))
 (.skip)))
 (.seq (.ops [o 169 (.iadra 1 3 (.t 18) (ci 0)), o 170 (.ld false 1 (.t 169)), mt 171 19, mt 10 170, mt 11 171] [2, 3, 5, 10, 11, 18, 19, 111, 112])
 (.seq (.ops [mt 172 5, o 173 (.bin .add (ci 5) (.t 172)), o 174 (.ld true 3 (.t 18)), o 175 (.call true false 0 (.fn 18) [ci 5, .t 173, .t 174]), mt 21 175] [2, 3, 5, 10, 11, 18, 19, 21, 111, 112])
 (.seq (.ops [o 177 (.ld true 5 (.t 2)), o 178 (.call true false 0 (.fn 17) [.t 177]), mt 179 21, o 180 (.call true true 0 (.fn 19) [.t 178, .t 179]), mt 176 180, o 181 (.ext (.t 176) 0), o 182 (.ext (.t 176) 1), mt 22 181, mt 23 182] [2, 3, 5, 10, 11, 18, 19, 22, 23, 111, 112])
 (.seq (.seq (.ops [mt 183 23, o 184 (.bin .neq (.t 183) (ci 0)), mt 185 184, ⟨some 186, .mv (.t 22), some (185, false)⟩, ⟨some 187, .fadr 1 (.t 2), some (185, false)⟩, ⟨some 188, .ld false 1 (.t 187), some (185, false)⟩, ⟨some 189, .bin .add (ci 5) (.t 188), some (185, false)⟩, ⟨some 190, .mv (.t 5), some (185, false)⟩, ⟨some 191, .bin .add (ci 5) (.t 190), some (185, false)⟩, ⟨some 192, .mv (.t 19), some (185, false)⟩, ⟨some 193, .bin .add (.t 191) (.t 192), some (185, false)⟩, ⟨some 194, .max [.t 189, .t 193], some (185, false)⟩, ⟨some 195, .bin .neq (.t 186) (.t 194), some (185, false)⟩, o 196 (.pick (.t 185) (cb true) (.t 195))] [2, 3, 5, 10, 11, 18, 22, 111, 112, 196])
 (.cond (.t 196)
 (.seq (.ops [o 4 (.mv (cb false))] [4])
 (.ret))
 (.skip)))
 (.seq (.ops [o 197 (.build [.p (.str []), .p (.str [])] [(0, 1, cs [111, 112, 101, 110]), (1, 1, cs [97, 114, 109])]), o 198 (.mv (ci 0))] [2, 3, 5, 10, 11, 18, 22, 111, 112, 197, 198])
 (.block 2 (.loop false [2, 3, 5, 10, 11, 18, 22, 111, 112, 197, 198] c3L0))))))))))))))))
 (.ops [o 268 (.bin .add (.t 112) (ci 1)), mt 112 268] [2, 3, 5, 10, 11, 111, 112])))
def c3 : AFunc := ⟨270, [.tmp 4],
 .seq (.ops [o 2 (.box false (.t 0)), o 3 (.box false (.t 1)), o 4 (.mv (cb false))] [2, 3])
 (.seq (.seq (.ops [o 32 (.ld true 5 (.t 2)), o 33 (.call true true 0 (.fn 7) [.t 32]), o 34 (.not (.t 33)), mt 35 34, ⟨some 36, .ld true 5 (.t 2), some (35, false)⟩, ⟨some 37, .call true true 0 (.fn 8) [.t 36], some (35, false)⟩, ⟨some 38, .bin .neq (.t 37) (ci 0), some (35, false)⟩, o 39 (.pick (.t 35) (cb true) (.t 38)), mt 40 39, ⟨some 41, .fadr 0 (.t 3), some (40, false)⟩, ⟨some 42, .ld true 5 (.t 41), some (40, false)⟩, ⟨some 43, .call true true 0 (.fn 9) [.t 42], some (40, false)⟩, ⟨some 44, .bin .neq (.t 43) (ci 0), some (40, false)⟩, o 45 (.pick (.t 40) (cb true) (.t 44)), mt 46 45, ⟨some 47, .fadr 5 (.t 3), some (46, false)⟩, ⟨some 48, .ld false 1 (.t 47), some (46, false)⟩, ⟨some 49, .len 1 (.t 48), some (46, false)⟩, ⟨some 50, .bin .gtr (.t 49) (ci 12), some (46, false)⟩, o 51 (.pick (.t 46) (cb true) (.t 50)), mt 52 51, ⟨some 53, .fadr 5 (.t 3), some (52, false)⟩, ⟨some 54, .ld false 1 (.t 53), some (52, false)⟩, ⟨some 55, .call true true 0 (.fn 10) [.t 54], some (52, false)⟩, ⟨some 56, .bin .neq (.t 55) (ci 0), some (52, false)⟩, o 57 (.pick (.t 52) (cb true) (.t 56))] [2, 3, 57])
 (.cond (.t 57)
 (.seq (.ops [o 58 (.call true true 0 (.fn 11) []), mt 4 58] [4])
 (.ret))
 (.skip)))
 (.seq (.opsd [(0, 1), (1, 1), (2, 1), (3, 1), (4, 1), (5, 1), (6, 1), (7, 1), (8, 1), (9, 1), (10, 1), (11, 1), (12, 1), (13, 1), (14, 1), (15, 1), (16, 1)] [o 59 (.fadr 6 (.t 3)), o 60 (.ld false 1 (.t 59)), o 61 (.conv (.int .i64) (.t 60)), o 62 (.bin .rem (.t 61) (ci 64)), o 63 (.bin .add (ci 1) (.t 62)), o 64 (.fadr 0 (.t 3)), o 65 (.fadr 0 (.t 64)), o 66 (.fadr 1 (.t 65)), o 67 (.ld false 1 (.t 66)), o 68 (.fadr 0 (.t 3)), o 69 (.fadr 0 (.t 68)), o 70 (.fadr 0 (.t 69)), o 71 (.ld false 1 (.t 70)), o 72 (.bin .sub (.t 67) (.t 71)), o 73 (.bin .add (.t 72) (ci 1)), mt 5 63, mt 6 73] [2, 3, 5, 6])
 (.seq (.opsd [(0, 1), (1, 1), (2, 1), (3, 1), (4, 1), (5, 1), (6, 1), (7, 1), (8, 1), (9, 1), (10, 1), (11, 1), (12, 1), (13, 1), (14, 1), (15, 1), (16, 1), (17, 1), (18, 1), (19, 1), (20, 1), (21, 1), (22, 1), (23, 1)] [o 74 (.fadr 0 (.t 3)), o 75 (.fadr 0 (.t 74)), o 76 (.fadr 0 (.t 75)), o 77 (.ld false 1 (.t 76)), o 78 (.fadr 7 (.t 3)), o 79 (.iadra 1 2 (.t 78) (ci 0)), o 80 (.ld false 1 (.t 79)), o 81 (.conv (.int .i64) (.t 80)), mt 82 6, o 83 (.bin .rem (.t 81) (.t 82)), o 84 (.bin .add (.t 77) (.t 83)), o 85 (.fadr 0 (.t 3)), o 86 (.fadr 0 (.t 85)), o 87 (.fadr 0 (.t 86)), o 88 (.ld false 1 (.t 87)), o 89 (.fadr 7 (.t 3)), o 90 (.iadra 1 2 (.t 89) (ci 1)), o 91 (.ld false 1 (.t 90)), o 92 (.conv (.int .i64) (.t 91)), mt 93 6, o 94 (.bin .rem (.t 92) (.t 93)), o 95 (.bin .add (.t 88) (.t 94)), mt 7 84, mt 8 95] [2, 3, 5, 7, 8])
 (.seq (.ops [o 96 (.fadr 0 (.t 3)), o 97 (.fadr 0 (.t 96)), o 98 (.fadr 0 (.t 97)), o 99 (.ld false 1 (.t 98)), mt 100 7, mt 101 8, o 102 (.min [.t 100, .t 101]), mt 103 7, mt 104 8, o 105 (.max [.t 103, .t 104]), o 106 (.fadr 0 (.t 3)), o 107 (.fadr 0 (.t 106)), o 108 (.fadr 1 (.t 107)), o 109 (.ld false 1 (.t 108)), o 110 (.build [.p (.int .i64 0), .p (.int .i64 0), .p (.int .i64 0), .p (.int .i64 0)] [(0, 1, .t 99), (1, 1, .t 102), (2, 1, .t 105), (3, 1, .t 109)]), o 9 (.alloc true 1 [.p (.int .i64 0), .p (.int .i64 0), .p (.int .i64 0), .p (.int .i64 0)]), u (.st 4 (.t 9) (.t 110))] [2, 3, 5, 9])
 (.seq (.ops [o 10 (.mv (ci 0)), o 11 (.mv (ci 0))] [2, 3, 5, 9, 10, 11])
 (.seq (.seq (.ops [o 111 (.ld true 4 (.t 9)), o 112 (.mv (ci 0))] [2, 3, 5, 10, 11, 111, 112])
 (.block 0 (.loop true [2, 3, 5, 10, 11, 111, 112] c3L1)))
 (.seq (.ops [o 269 (.call true true 0 (.fn 11) []), mt 4 269] [4])
 (.ret))))))))⟩

def c7 : AFunc := ⟨22, [.tmp 2],
 .seq (.ops [o 1 (.box false (.t 0)), o 2 (.mv (cb false))] [1])
 (.seq (.ops [o 3 (.fadr 2 (.t 1)), o 4 (.iadra 1 3 (.t 3) (ci 0)), o 5 (.ld false 1 (.t 4)), o 6 (.len 1 (.t 5)), o 7 (.bin .leq (.t 6) (ci 9)), mt 8 7, ⟨some 9, .fadr 2 (.t 1), some (8, true)⟩, ⟨some 10, .iadra 1 3 (.t 9) (ci 1), some (8, true)⟩, ⟨some 11, .ld false 1 (.t 10), some (8, true)⟩, ⟨some 12, .len 1 (.t 11), some (8, true)⟩, ⟨some 13, .bin .leq (.t 12) (ci 9), some (8, true)⟩, o 14 (.pick (.t 8) (.t 13) (cb false)), mt 15 14, ⟨some 16, .fadr 2 (.t 1), some (15, true)⟩, ⟨some 17, .iadra 1 3 (.t 16) (ci 2), some (15, true)⟩, ⟨some 18, .ld false 1 (.t 17), some (15, true)⟩, ⟨some 19, .len 1 (.t 18), some (15, true)⟩, ⟨some 20, .bin .leq (.t 19) (ci 9), some (15, true)⟩, o 21 (.pick (.t 15) (.t 20) (cb false)), mt 2 21] [2])
 (.ret))⟩

def c8 : AFunc := ⟨23, [.tmp 2],
 .seq (.ops [o 1 (.box false (.t 0)), o 2 (.mv (ci 0))] [1])
 (.seq (.opsd [(0, 1), (1, 1), (2, 1), (3, 1), (4, 1), (5, 1), (6, 1), (7, 1), (8, 1), (9, 1), (10, 1), (11, 1), (12, 1), (13, 1), (14, 1), (15, 1), (16, 1), (17, 0), (18, 0), (19, 0), (20, 1)] [o 3 (.fadr 0 (.t 1)), o 4 (.ld false 1 (.t 3)), o 5 (.call true true 0 (.fn 44) [.t 4, ci 1, ci 8]), o 6 (.fadr 1 (.t 1)), o 7 (.ld false 1 (.t 6)), o 8 (.call true true 0 (.fn 44) [.t 7, ci 0, ci 1000000]), o 9 (.fadr 2 (.t 1)), o 10 (.iadra 1 3 (.t 9) (ci 0)), o 11 (.ld false 1 (.t 10)), o 12 (.call true true 0 (.fn 45) [.t 11]), o 13 (.fadr 2 (.t 1)), o 14 (.iadra 1 3 (.t 13) (ci 1)), o 15 (.ld false 1 (.t 14)), o 16 (.call true true 0 (.fn 45) [.t 15]), o 17 (.fadr 2 (.t 1)), o 18 (.iadra 1 3 (.t 17) (ci 2)), o 19 (.ld false 1 (.t 18)), o 20 (.call true true 0 (.fn 45) [.t 19]), o 21 (.bslice false 1 zl6 5 [(0, .t 5), (1, .t 8), (2, .t 12), (3, .t 16), (4, .t 20)]), o 22 (.call true true 0 (.fn 43) [.t 21]), mt 2 22] [2])
 (.ret))⟩

def c9 : AFunc := ⟨17, [.tmp 2],
 .seq (.ops [o 1 (.box true (.t 0)), o 2 (.mv (ci 0))] [1])
 (.seq (.opsd [(0, 1), (1, 1), (2, 1), (3, 1), (4, 1), (5, 1), (6, 1), (7, 1), (8, 1), (9, 1), (10, 1), (11, 0), (12, 0), (13, 0), (14, 1)] [o 3 (.fadr 0 (.t 1)), o 4 (.ld true 2 (.t 3)), o 5 (.call true true 0 (.fn 46) [.t 4, ci 1, ci 10000]), o 6 (.fadr 2 (.t 1)), o 7 (.ld false 1 (.t 6)), o 8 (.call true true 0 (.fn 44) [.t 7, ci 1, ci 16]), o 9 (.fadr 3 (.t 1)), o 10 (.ld false 1 (.t 9)), o 11 (.call true true 0 (.fn 44) [.t 10, ci 0, ci 8]), o 12 (.fadr 4 (.t 1)), o 13 (.ld false 1 (.t 12)), o 14 (.call true true 0 (.fn 44) [.t 13, ci 1, ci 10000]), o 15 (.bslice false 1 zl6 4 [(0, .t 5), (1, .t 8), (2, .t 11), (3, .t 14)]), o 16 (.call true true 0 (.fn 43) [.t 15]), mt 2 16] [2])
 (.ret))⟩

def c10L0 : ACode :=
 .seq (.seq (.ops [mt 19 4, mt 20 0, o 21 (.len 1 (.t 20)), o 22 (.bin .lss (.t 19) (.t 21))] [0, 4, 22])
 (.cond (.t 22)
 (.skip)
 (.exit 0)))
 (.seq (.block 1 (.seq (.opsd [(0, 1), (1, 1), (2, 1), (3, 1), (4, 1), (5, 1), (6, 1), (7, 1), (8, 5), (9, 5), (10, 1), (12, 1), (13, 1), (11, 0), (14, 1), (15, 1), (16, 1), (17, 1), (18, 1), (19, 1), (20, 1), (21, 1), (22, 1), (23, 1), (24, 1), (25, 1), (26, 1), (27, 1), (28, 1), (29, 1), (30, 1), (31, 1), (32, 1), (33, 1), (34, 1), (35, 1), (36, 1), (37, 1), (38, 1), (39, 1), (40, 1), (41, 0), (42, 0), (43, 0), (44, 1)] [mt 25 0, mt 26 4, o 27 (.iadr 2 (.t 25) (.t 26)), o 28 (.fadr 0 (.t 27)), o 29 (.ld false 1 (.t 28)), o 30 (.call true true 0 (.fn 44) [.t 29, ci 0, ci 64]), mt 31 0, mt 32 4, o 33 (.iadr 2 (.t 31) (.t 32)), o 34 (.fadr 1 (.t 33)), o 35 (.ld false 1 (.t 34)), mt 37 4, o 38 (.bin .eql (.t 37) (ci 0)), o 36 (.call true true 0 (.fn 44) [.t 35, ci 0, ci 100]), mt 39 38, ⟨some 40, .mv (.t 0), some (39, true)⟩, ⟨some 41, .mv (.t 4), some (39, true)⟩, ⟨some 42, .iadr 2 (.t 40) (.t 41), some (39, true)⟩, ⟨some 43, .fadr 0 (.t 42), some (39, true)⟩, ⟨some 44, .ld false 1 (.t 43), some (39, true)⟩, ⟨some 45, .bin .neq (.t 44) (ci 0), some (39, true)⟩, o 46 (.pick (.t 39) (.t 45) (cb false)), mt 47 46, ⟨some 48, .mv (.t 4), some (47, false)⟩, ⟨some 49, .bin .gtr (.t 48) (ci 0), some (47, false)⟩, ⟨some 50, .mv (.t 49), some (47, false)⟩, ⟨some 51, .mv (.t 0), some (50, true)⟩, ⟨some 52, .mv (.t 4), some (50, true)⟩, ⟨some 53, .iadr 2 (.t 51) (.t 52), some (50, true)⟩, ⟨some 54, .fadr 0 (.t 53), some (50, true)⟩, ⟨some 55, .ld false 1 (.t 54), some (50, true)⟩, ⟨some 56, .mv (.t 0), some (50, true)⟩, ⟨some 57, .mv (.t 4), some (50, true)⟩, ⟨some 58, .bin .sub (.t 57) (ci 1), some (50, true)⟩, ⟨some 59, .max [ci 0, .t 58], some (50, true)⟩, ⟨some 60, .iadr 2 (.t 56) (.t 59), some (50, true)⟩, ⟨some 61, .fadr 0 (.t 60), some (50, true)⟩, ⟨some 62, .ld false 1 (.t 61), some (50, true)⟩, ⟨some 63, .bin .leq (.t 55) (.t 62), some (50, true)⟩, ⟨some 64, .pick (.t 50) (.t 63) (cb false), some (47, false)⟩, o 65 (.pick (.t 47) (cb true) (.t 64)), o 66 (.call true true 0 (.fn 47) [.t 65, ci 11]), o 67 (.bslice false 1 zl6 3 [(0, .t 30), (1, .t 36), (2, .t 66)]), o 68 (.call true true 0 (.fn 43) [.t 67]), mt 5 68] [0, 4, 5])
 (.seq (.ops [mt 69 5, o 70 (.bin .neq (.t 69) (ci 0))] [0, 4, 5, 70])
 (.cond (.t 70)
 (.seq (.ops [mt 71 5, mt 2 71] [2])
 (.ret))
 (.skip)))))
 (.ops [mt 23 4, o 24 (.bin .add (.t 23) (ci 1)), mt 4 24] [0, 4]))
def c10 : AFunc := ⟨72, [.tmp 2],
 .seq (.ops [o 2 (.mv (ci 0))] [0])
 (.seq (.seq (.ops [mt 6 0, o 7 (.len 1 (.t 6)), o 8 (.bin .eql (.t 7) (ci 0)), o 9 (.call true true 0 (.fn 47) [.t 8, ci 12]), mt 10 0, o 11 (.len 1 (.t 10)), o 12 (.bin .gtr (.t 11) (ci 12)), o 13 (.call true true 0 (.fn 47) [.t 12, ci 5]), o 14 (.bslice false 1 zl6 2 [(0, .t 9), (1, .t 13)]), o 15 (.call true true 0 (.fn 43) [.t 14]), mt 3 15] [0, 3])
 (.seq (.ops [mt 16 3, o 17 (.bin .neq (.t 16) (ci 0))] [0, 3, 17])
 (.cond (.t 17)
 (.seq (.ops [mt 18 3, mt 2 18] [2])
 (.ret))
 (.skip))))
 (.seq (.seq (.ops [o 4 (.mv (ci 0))] [0, 4])
 (.block 0 (.loop false [0, 4] c10L0)))
 (.seq (.ops [o 2 (.mv (ci 0))] [2])
 (.ret))))⟩

def c11 : AFunc := ⟨42, [.tmp 0],
 .seq (.ops [o 0 (.mv (cb false))] [])
 (.seq (.ops [o 7 (.build zl5 [(0, 1, ci 100), (1, 1, ci 200)]), o 8 (.build zl2 [(0, 2, .t 7), (2, 1, ci 2), (4, 1, ci 100)]), o 9 (.build zl5 [(1, 1, ci 40)]), o 10 (.bslice false 2 zl5 1 [(0, .t 9)]), o 11 (.call true false 0 (.fn 13) [.t 8, .t 10, ci 100, ci 2]), mt 6 11, o 12 (.ext (.t 6) 0), o 13 (.ext (.t 6) 1), mt 1 12, mt 2 13] [1, 2])
 (.seq (.ops [o 14 (.call true false 0 (.fn 48) []), o 3 (.alloc false 1 zl3), u (.st 5 (.t 3) (.t 14))] [1, 2, 3])
 (.seq (.ops [o 15 (.build zl5 []), o 16 (.build zl5 [(0, 1, ci 30), (1, 1, ci 9)]), o 17 (.bslice false 2 zl5 2 [(0, .t 15), (1, .t 16)]), o 18 (.fadr 2 (.t 3)), o 19 (.iadra 1 3 (.t 18) (ci 0)), u (.st 1 (.t 19) (.t 17))] [1, 2, 3])
 (.seq (.opsd [(0, 1), (1, 1), (2, 1), (3, 0), (4, 1), (5, 1), (6, 1), (7, 1), (8, 1)] [o 21 (.ld true 5 (.t 3)), o 22 (.build zl4 [(0, 1, ci 30), (1, 1, ci 0), (2, 1, ci 0)]), o 23 (.call true true 0 (.fn 18) [ci 5, ci 7, .t 22]), o 24 (.call true true 0 (.fn 19) [.t 21, .t 23]), mt 20 24, o 25 (.ext (.t 20) 0), o 26 (.ext (.t 20) 1), mt 4 25, mt 5 26] [1, 2, 4, 5])
 (.seq (.ops [mt 27 2, o 28 (.bin .eql (.t 27) (ci 0)), mt 29 28, ⟨some 30, .mv (.t 5), some (29, true)⟩, ⟨some 31, .bin .eql (.t 30) (ci 0), some (29, true)⟩, o 32 (.pick (.t 29) (.t 31) (cb false)), mt 33 32, ⟨some 34, .mv (.t 1), some (33, true)⟩, ⟨some 35, .bslice false 1 zl6 2 [(0, ci 20), (1, ci 30)], some (33, true)⟩, ⟨some 36, .call true true 0 (.fn 49) [.t 34, .t 35], some (33, true)⟩, o 37 (.pick (.t 33) (.t 36) (cb false)), mt 38 37, ⟨some 39, .mv (.t 4), some (38, true)⟩, ⟨some 40, .bin .eql (.t 39) (ci 16), some (38, true)⟩, o 41 (.pick (.t 38) (.t 40) (cb false)), mt 0 41] [0])
 (.ret))))))⟩

def c12L0 : ACode :=
 .seq (.ops [o 12 (.bin .lss (.t 11) (.t 10))] [2, 4, 6, 9, 10, 11, 12])
 (.seq (.cond (.t 12)
 (.skip)
 (.exit 0))
 (.seq (.block 1 (.seq (.ops [o 13 (.iadr 2 (.t 9) (.t 11)), o 14 (.ld true 2 (.t 13)), o 8 (.alloc true 1 zl5), u (.st 2 (.t 8) (.t 14))] [2, 4, 6, 8, 9, 10, 11])
 (.ops [mt 15 6, o 16 (.ld true 2 (.t 8)), o 17 (.bslice false 2 zl5 1 [(0, .t 16)]), o 18 (.app 2 16 zl5 (.t 15) (.t 17)), mt 6 18] [2, 4, 6, 9, 10, 11])))
 (.ops [o 19 (.bin .add (.t 11) (ci 1)), mt 11 19] [2, 4, 6, 9, 10, 11])))
def c12 : AFunc := ⟨22, [.cell 4 true 5, .tmp 5],
 .seq (.ops [o 2 (.box true (.t 0)), o 4 (.alloc true 1 zl2), o 5 (.mv (cn))] [1, 2, 4])
 (.seq (.ops [o 6 (.nilown 2)] [1, 2, 4, 6])
 (.seq (.seq (.ops [mt 9 1, o 10 (.len 1 (.t 9)), o 11 (.mv (ci 0))] [2, 4, 6, 9, 10, 11])
 (.block 0 (.loop true [2, 4, 6, 9, 10, 11] c12L0)))
 (.seq (.ops [o 20 (.ld true 5 (.t 2)), mt 21 6, u (.st 5 (.t 4) (.t 20)), mt 5 21] [4, 5])
 (.ret))))⟩

def c13 : AFunc := ⟨35, [.tmp 8, .tmp 9],
 .seq (.ops [o 4 (.box true (.t 0)), o 8 (.mv (cn)), o 9 (.mv (ci 0))] [1, 2, 3, 4])
 (.seq (.seq (.opsd [(0, 1), (1, 1), (2, 1), (3, 1), (4, 1), (5, 1), (6, 1), (7, 1), (8, 1), (9, 1), (10, 1), (12, 1), (11, 0), (13, 0), (14, 0), (15, 0), (16, 1)] [o 11 (.ld true 5 (.t 4)), o 12 (.call true true 0 (.fn 51) [.t 11]), mt 13 1, o 14 (.call true true 0 (.fn 52) [.t 13]), mt 15 2, o 16 (.fadr 0 (.t 4)), o 17 (.fadr 0 (.t 16)), o 18 (.ld false 1 (.t 17)), o 19 (.fadr 0 (.t 4)), o 20 (.fadr 1 (.t 19)), o 21 (.ld false 1 (.t 20)), mt 23 3, o 22 (.call true true 0 (.fn 53) [.t 15, .t 18, .t 21]), o 24 (.call true true 0 (.fn 54) [.t 23]), o 25 (.bslice false 1 zl6 4 [(0, .t 12), (1, .t 14), (2, .t 22), (3, .t 24)]), o 26 (.call true true 0 (.fn 50) [.t 25]), mt 10 26] [1, 2, 3, 4, 10])
 (.seq (.ops [mt 27 10, o 28 (.bin .neq (.t 27) (ci 0))] [1, 2, 3, 4, 10, 28])
 (.cond (.t 28)
 (.seq (.ops [mt 29 10, o 8 (.mv (cn)), mt 9 29] [8, 9])
 (.ret))
 (.skip))))
 (.seq (.ops [o 30 (.ld true 5 (.t 4)), mt 31 1, mt 32 2, mt 33 3, o 34 (.call true false 0 (.fn 55) [.t 30, .t 31, .t 32, .t 33]), mt 8 34, o 9 (.mv (ci 0))] [8, 9])
 (.ret)))⟩

def c14L0 : ACode :=
 .seq (.ops [o 10 (.bin .lss (.t 9) (.t 8))] [0, 2, 3, 4, 7, 8, 9, 10])
 (.seq (.cond (.t 10)
 (.skip)
 (.exit 0))
 (.seq (.block 1 (.seq (.ops [o 11 (.iadr 1 (.t 7) (.t 9)), o 12 (.ld false 1 (.t 11)), mt 6 12] [0, 2, 3, 4, 6, 7, 8, 9])
 (.ops [mt 13 3, mt 14 6, o 15 (.max [.t 13, .t 14]), mt 16 4, mt 17 6, o 18 (.bin .add (.t 16) (.t 17)), mt 3 15, mt 4 18] [0, 2, 3, 4, 7, 8, 9])))
 (.ops [o 19 (.bin .add (.t 9) (ci 1)), mt 9 19] [0, 2, 3, 4, 7, 8, 9])))
def c14 : AFunc := ⟨27, [.cell 2 true 3],
 .seq (.ops [o 2 (.alloc true 1 zl4)] [0, 2])
 (.seq (.ops [o 3 (.mv (ci 0)), o 4 (.mv (ci 0))] [0, 2, 3, 4])
 (.seq (.seq (.ops [mt 7 0, o 8 (.len 1 (.t 7)), o 9 (.mv (ci 0))] [0, 2, 3, 4, 7, 8, 9])
 (.block 0 (.loop false [0, 2, 3, 4, 7, 8, 9] c14L0)))
 (.seq (.ops [mt 20 3, mt 21 4, o 22 (.bin .quo (.t 21) (ci 10)), o 23 (.min [ci 100000, .t 22]), mt 24 0, o 25 (.len 1 (.t 24)), o 26 (.build zl4 [(0, 1, .t 20), (1, 1, .t 23), (2, 1, .t 25)]), u (.st 3 (.t 2) (.t 26))] [2])
 (.ret))))⟩

def c15 : AFunc := ⟨14, [.tmp 2],
 .seq (.ops [o 1 (.box true (.t 0)), o 2 (.mv (ci 0))] [1])
 (.seq (.opsd [(0, 1), (1, 1), (2, 1), (3, 1), (4, 1), (5, 1), (6, 1), (7, 1), (8, 0), (9, 0), (10, 0), (11, 1)] [o 3 (.iadra 1 3 (.t 1) (ci 0)), o 4 (.ld false 1 (.t 3)), o 5 (.call true true 0 (.fn 44) [.t 4, ci 0, ci 100000]), o 6 (.iadra 1 3 (.t 1) (ci 1)), o 7 (.ld false 1 (.t 6)), o 8 (.call true true 0 (.fn 44) [.t 7, ci 0, ci 100000]), o 9 (.iadra 1 3 (.t 1) (ci 2)), o 10 (.ld false 1 (.t 9)), o 11 (.call true true 0 (.fn 44) [.t 10, ci 0, ci 100000]), o 12 (.bslice false 1 zl6 3 [(0, .t 5), (1, .t 8), (2, .t 11)]), o 13 (.call true true 0 (.fn 43) [.t 12]), mt 2 13] [2])
 (.ret))⟩

def c16 : AFunc := ⟨19, [.tmp 4, .tmp 5],
 .seq (.ops [o 2 (.box false (.t 0)), o 3 (.box true (.t 1)), o 4 (.mv (ci 0)), o 5 (.mv (ci 0))] [2, 3])
 (.seq (.seq (.opsd [(0, 1), (1, 1), (2, 1), (3, 0), (4, 0), (5, 0), (6, 1)] [o 7 (.ld true 5 (.t 2)), o 8 (.call true true 0 (.fn 57) [.t 7]), o 9 (.ld true 3 (.t 3)), o 10 (.call true true 0 (.fn 58) [.t 9]), o 11 (.bslice false 1 zl6 2 [(0, .t 8), (1, .t 10)]), o 12 (.call true true 0 (.fn 56) [.t 11]), mt 6 12] [2, 3, 6])
 (.seq (.ops [mt 13 6, o 14 (.bin .neq (.t 13) (ci 0))] [2, 3, 6, 14])
 (.cond (.t 14)
 (.seq (.ops [mt 15 6, o 4 (.mv (ci 0)), mt 5 15] [4, 5])
 (.ret))
 (.skip))))
 (.seq (.ops [o 16 (.ld true 5 (.t 2)), o 17 (.ld true 3 (.t 3)), o 18 (.call true true 0 (.fn 59) [.t 16, .t 17]), mt 4 18, o 5 (.mv (ci 0))] [4, 5])
 (.ret)))⟩

def c17L0 : ACode :=
 .seq (.ops [o 22 (.bin .lss (.t 21) (.t 20))] [2, 3, 4, 14, 15, 19, 20, 21, 22])
 (.seq (.cond (.t 22)
 (.skip)
 (.exit 2))
 (.seq (.block 3 (.seq (.ops [o 23 (.iadr 2 (.t 19) (.t 21)), o 24 (.ld true 2 (.t 23)), o 7 (.alloc true 1 zl5), u (.st 2 (.t 7) (.t 24))] [2, 3, 4, 7, 14, 15, 19, 20, 21])
 (.opsd [(0, 1), (1, 1), (2, 1), (3, 1), (4, 1), (5, 1), (6, 1), (8, 4), (7, 3), (9, 1), (10, 0)] [mt 25 4, mt 26 4, o 27 (.fadr 2 (.t 3)), o 28 (.iadra 1 3 (.t 27) (.t 26)), o 29 (.ld false 1 (.t 28)), o 30 (.ld true 2 (.t 7)), o 31 (.bslice false 2 zl5 1 [(0, .t 30)]), o 33 (.fadr 2 (.t 3)), o 32 (.app 2 16 zl5 (.t 29) (.t 31)), o 34 (.iadra 1 3 (.t 33) (.t 25)), u (.st 1 (.t 34) (.t 32))] [2, 3, 4, 14, 15, 19, 20, 21])))
 (.ops [o 35 (.bin .add (.t 21) (ci 1)), mt 21 35] [2, 3, 4, 14, 15, 19, 20, 21])))
def c17L1 : ACode :=
 .seq (.ops [o 16 (.bin .lss (.t 15) (ci 3))] [2, 3, 14, 15, 16])
 (.seq (.cond (.t 16)
 (.skip)
 (.exit 0))
 (.seq (.block 1 (.seq (.ops [mt 17 15, o 18 (.idx false 1 3 (.t 14) (.t 15)), mt 4 17, mt 5 18] [2, 3, 4, 5, 14, 15])
 (.seq (.ops [mt 19 5, o 20 (.len 1 (.t 19)), o 21 (.mv (ci 0))] [2, 3, 4, 14, 15, 19, 20, 21])
 (.block 2 (.loop true [2, 3, 4, 14, 15, 19, 20, 21] c17L0)))))
 (.ops [o 36 (.bin .add (.t 15) (ci 1)), mt 15 36] [2, 3, 14, 15])))
def c17 : AFunc := ⟨38, [.cell 2 true 5],
 .seq (.ops [o 1 (.box false (.t 0)), o 2 (.alloc false 1 zl3)] [1, 2])
 (.seq (.ops [o 8 (.fadr 0 (.t 1)), o 9 (.ld false 1 (.t 8)), o 10 (.fadr 1 (.t 1)), o 11 (.ld false 1 (.t 10)), o 12 (.build zl3 [(0, 1, .t 9), (1, 1, .t 11)]), o 3 (.alloc false 1 zl3), u (.st 5 (.t 3) (.t 12))] [1, 2, 3])
 (.seq (.seq (.ops [o 13 (.fadr 2 (.t 1)), o 14 (.ld true 3 (.t 13)), o 15 (.mv (ci 0))] [2, 3, 14, 15])
 (.block 0 (.loop true [2, 3, 14, 15] c17L1)))
 (.seq (.ops [o 37 (.ld true 5 (.t 3)), u (.st 5 (.t 2) (.t 37))] [2])
 (.ret))))⟩

def c18 : AFunc := ⟨16, [.tmp 6],
 .seq (.ops [o 5 (.box true (.t 2)), o 6 (.mv (cn))] [0, 1, 5])
 (.seq (.ops [o 7 (.build zl1 [(1, 1, cs [105, 110, 115, 101, 114, 116])]), o 8 (.build zl1 [(1, 1, cs [105, 110, 115, 101, 114, 116]), (2, 1, ci 1)]), o 9 (.build zl1 [(0, 1, ci 1), (1, 1, cs [97, 114, 109])]), mt 10 0, o 11 (.build zl1 [(0, 1, .t 10), (1, 1, cs [115, 104, 111, 111, 116])]), mt 12 1, o 13 (.ld true 3 (.t 5)), o 14 (.build zl1 [(0, 1, .t 12), (1, 1, cs [109, 101, 97, 115, 117, 114, 101]), (3, 3, .t 13)]), o 15 (.bslice false 6 zl1 5 [(0, .t 7), (1, .t 8), (2, .t 9), (3, .t 11), (4, .t 14)]), mt 6 15] [6])
 (.ret))⟩

def c19 : AFunc := ⟨22, [.tmp 4, .tmp 5],
 .seq (.ops [o 2 (.box false (.t 0)), o 4 (.mv (ci 0)), o 5 (.mv (ci 0))] [1, 2])
 (.seq (.ops [o 10 (.ld true 5 (.t 2)), mt 11 1, o 12 (.call true false 0 (.fn 60) [.t 10, .t 11]), mt 9 12, o 13 (.ext (.t 9) 0), o 14 (.ext (.t 9) 1), o 15 (.ext (.t 9) 2), mt 6 13, mt 7 14, mt 8 15] [6, 8])
 (.seq (.seq (.ops [mt 16 8, o 17 (.bin .neq (.t 16) (ci 0))] [6, 8, 17])
 (.cond (.t 17)
 (.seq (.ops [mt 18 8, o 4 (.mv (ci 0)), mt 5 18] [4, 5])
 (.ret))
 (.skip)))
 (.seq (.ops [mt 19 6, o 20 (.call true true 0 (.fn 61) [.t 19]), o 21 (.fld false 14 1 (.t 20)), mt 4 21, o 5 (.mv (ci 0))] [4, 5])
 (.ret))))⟩

def c20 : AFunc := ⟨39, [.tmp 6, .tmp 7],
 .seq (.ops [o 3 (.box false (.t 0)), o 5 (.box true (.t 2)), o 6 (.mv (cn)), o 7 (.mv (ci 0))] [1, 3, 5])
 (.seq (.seq (.ops [o 13 (.ld true 5 (.t 3)), mt 14 1, o 15 (.call true true 0 (.fn 62) [.t 13, .t 14]), mt 8 15] [1, 3, 5, 8])
 (.seq (.ops [mt 16 8, o 17 (.bin .neq (.t 16) (ci 0))] [1, 3, 5, 8, 17])
 (.cond (.t 17)
 (.seq (.ops [mt 18 8, o 6 (.mv (cn)), mt 7 18] [6, 7])
 (.ret))
 (.skip))))
 (.seq (.seq (.ops [o 19 (.ld true 6 (.t 5)), o 20 (.ld true 5 (.t 3)), o 21 (.call true true 0 (.fn 63) [.t 19, .t 20]), mt 9 21] [1, 3, 5, 9])
 (.seq (.ops [mt 22 9, o 23 (.bin .neq (.t 22) (ci 0))] [1, 3, 5, 9, 23])
 (.cond (.t 23)
 (.seq (.ops [mt 24 9, o 6 (.mv (cn)), mt 7 24] [6, 7])
 (.ret))
 (.skip))))
 (.seq (.ops [o 26 (.ld true 5 (.t 3)), mt 27 1, o 28 (.call true false 0 (.fn 60) [.t 26, .t 27]), mt 25 28, o 29 (.ext (.t 25) 0), o 30 (.ext (.t 25) 1), o 31 (.ext (.t 25) 2), mt 10 29, mt 11 30, mt 12 31] [5, 10, 12])
 (.seq (.seq (.ops [mt 32 12, o 33 (.bin .neq (.t 32) (ci 0))] [5, 10, 12, 33])
 (.cond (.t 33)
 (.seq (.ops [mt 34 12, o 6 (.mv (cn)), mt 7 34] [6, 7])
 (.ret))
 (.skip)))
 (.seq (.opsd [(0, 1), (1, 1), (2, 1), (3, 0), (4, 1), (5, 1)] [mt 35 10, o 36 (.call true true 0 (.fn 61) [.t 35]), o 37 (.ld true 6 (.t 5)), o 38 (.call true false 0 (.fn 64) [.t 36, .t 37]), mt 6 38, o 7 (.mv (ci 0))] [6, 7])
 (.ret))))))⟩

def c21L0 : ACode :=
 .seq (.seq (.ops [mt 6 5, mt 7 0, o 8 (.len 1 (.t 7)), o 9 (.bin .lss (.t 6) (.t 8))] [0, 1, 5, 9])
 (.cond (.t 9)
 (.skip)
 (.exit 0)))
 (.seq (.block 1 (.seq (.ops [mt 12 0, mt 13 5, o 14 (.iadr 1 (.t 12) (.t 13)), o 15 (.ld false 1 (.t 14)), mt 16 1, o 17 (.bin .eql (.t 15) (.t 16))] [0, 1, 5, 17])
 (.cond (.t 17)
 (.seq (.ops [o 4 (.mv (cb true))] [4])
 (.ret))
 (.skip))))
 (.ops [mt 10 5, o 11 (.bin .add (.t 10) (ci 1)), mt 5 11] [0, 1, 5]))
def c21 : AFunc := ⟨18, [.tmp 4],
 .seq (.ops [o 4 (.mv (cb false))] [0, 1])
 (.seq (.seq (.ops [o 5 (.mv (ci 0))] [0, 1, 5])
 (.block 0 (.loop false [0, 1, 5] c21L0)))
 (.seq (.ops [o 4 (.mv (cb false))] [4])
 (.ret)))⟩

def c43L0 : ACode :=
 .seq (.seq (.ops [mt 4 3, mt 5 0, o 6 (.len 1 (.t 5)), o 7 (.bin .lss (.t 4) (.t 6))] [0, 3, 7])
 (.cond (.t 7)
 (.skip)
 (.exit 0)))
 (.seq (.block 1 (.seq (.ops [mt 10 0, mt 11 3, o 12 (.iadr 1 (.t 10) (.t 11)), o 13 (.ld false 1 (.t 12)), o 14 (.bin .neq (.t 13) (ci 0))] [0, 3, 14])
 (.cond (.t 14)
 (.seq (.ops [mt 15 0, mt 16 3, o 17 (.iadr 1 (.t 15) (.t 16)), o 18 (.ld false 1 (.t 17)), mt 2 18] [2])
 (.ret))
 (.skip))))
 (.ops [mt 8 3, o 9 (.bin .add (.t 8) (ci 1)), mt 3 9] [0, 3]))
def c43 : AFunc := ⟨19, [.tmp 2],
 .seq (.ops [o 2 (.mv (ci 0))] [0])
 (.seq (.seq (.ops [o 3 (.mv (ci 0))] [0, 3])
 (.block 0 (.loop false [0, 3] c43L0)))
 (.seq (.ops [o 2 (.mv (ci 0))] [2])
 (.ret)))⟩

def c44 : AFunc := ⟨16, [.tmp 6],
 .seq (.ops [o 6 (.mv (ci 0))] [0, 1, 2])
 (.seq (.ops [mt 7 0, mt 8 1, o 9 (.bin .lss (.t 7) (.t 8)), mt 10 9, ⟨some 11, .mv (.t 0), some (10, false)⟩, ⟨some 12, .mv (.t 2), some (10, false)⟩, ⟨some 13, .bin .gtr (.t 11) (.t 12), some (10, false)⟩, o 14 (.pick (.t 10) (cb true) (.t 13)), o 15 (.call true true 0 (.fn 47) [.t 14, ci 3]), mt 6 15] [6])
 (.ret))⟩

def c45L0 : ACode :=
 .seq (.seq (.ops [mt 19 4, mt 20 0, o 21 (.len 1 (.t 20)), o 22 (.bin .lss (.t 19) (.t 21))] [0, 4, 22])
 (.cond (.t 22)
 (.skip)
 (.exit 0)))
 (.seq (.block 1 (.seq (.seq (.opsd [(0, 1), (1, 1), (2, 1), (3, 1), (4, 1), (5, 1), (6, 1), (7, 1), (8, 5), (9, 5), (10, 1), (11, 0), (12, 0), (13, 0), (14, 1)] [mt 25 0, mt 26 4, o 27 (.iadr 2 (.t 25) (.t 26)), o 28 (.fadr 0 (.t 27)), o 29 (.ld false 1 (.t 28)), o 30 (.call true true 0 (.fn 44) [.t 29, ci 0, ci 100000]), mt 31 0, mt 32 4, o 33 (.iadr 2 (.t 31) (.t 32)), o 34 (.fadr 1 (.t 33)), o 35 (.ld false 1 (.t 34)), o 36 (.call true true 0 (.fn 44) [.t 35, ci 0, ci 1000000]), o 37 (.bslice false 1 zl6 2 [(0, .t 30), (1, .t 36)]), o 38 (.call true true 0 (.fn 43) [.t 37]), mt 5 38] [0, 4, 5])
 (.seq (.ops [mt 39 5, o 40 (.bin .neq (.t 39) (ci 0))] [0, 4, 5, 40])
 (.cond (.t 40)
 (.seq (.ops [mt 41 5, mt 2 41] [2])
 (.ret))
 (.skip))))
 (.seq (.opsd [(0, 1), (1, 1), (2, 1), (3, 1), (4, 1), (5, 1), (6, 1), (7, 1), (8, 1), (9, 1), (10, 1), (11, 1), (12, 1), (13, 1), (14, 1), (15, 1), (16, 1), (17, 1), (18, 1), (19, 1), (20, 1), (21, 1), (22, 1), (23, 1), (24, 1), (25, 1), (26, 1), (27, 1), (28, 1), (29, 1), (30, 1), (31, 1), (32, 1), (33, 1), (34, 1), (35, 1), (36, 1), (37, 1), (38, 1), (39, 1), (40, 1), (41, 1)] [mt 42 4, o 43 (.bin .eql (.t 42) (ci 0)), mt 44 43, ⟨some 45, .mv (.t 0), some (44, true)⟩, ⟨some 46, .mv (.t 4), some (44, true)⟩, ⟨some 47, .iadr 2 (.t 45) (.t 46), some (44, true)⟩, ⟨some 48, .fadr 0 (.t 47), some (44, true)⟩, ⟨some 49, .ld false 1 (.t 48), some (44, true)⟩, ⟨some 50, .bin .neq (.t 49) (ci 0), some (44, true)⟩, o 51 (.pick (.t 44) (.t 50) (cb false)), mt 52 51, ⟨some 53, .mv (.t 4), some (52, false)⟩, ⟨some 54, .bin .gtr (.t 53) (ci 0), some (52, false)⟩, ⟨some 55, .mv (.t 54), some (52, false)⟩, ⟨some 56, .mv (.t 0), some (55, true)⟩, ⟨some 57, .mv (.t 4), some (55, true)⟩, ⟨some 58, .iadr 2 (.t 56) (.t 57), some (55, true)⟩, ⟨some 59, .fadr 0 (.t 58), some (55, true)⟩, ⟨some 60, .ld false 1 (.t 59), some (55, true)⟩, ⟨some 61, .mv (.t 0), some (55, true)⟩, ⟨some 62, .mv (.t 4), some (55, true)⟩, ⟨some 63, .bin .sub (.t 62) (ci 1), some (55, true)⟩, ⟨some 64, .iadr 2 (.t 61) (.t 63), some (55, true)⟩, ⟨some 65, .fadr 0 (.t 64), some (55, true)⟩, ⟨some 66, .ld false 1 (.t 65), some (55, true)⟩, ⟨some 67, .bin .leq (.t 60) (.t 66), some (55, true)⟩, ⟨some 68, .mv (.t 67), some (55, true)⟩, ⟨some 69, .mv (.t 0), some (68, false)⟩, ⟨some 70, .mv (.t 4), some (68, false)⟩, ⟨some 71, .iadr 2 (.t 69) (.t 70), some (68, false)⟩, ⟨some 72, .fadr 1 (.t 71), some (68, false)⟩, ⟨some 73, .ld false 1 (.t 72), some (68, false)⟩, ⟨some 74, .mv (.t 0), some (68, false)⟩, ⟨some 75, .mv (.t 4), some (68, false)⟩, ⟨some 76, .bin .sub (.t 75) (ci 1), some (68, false)⟩, ⟨some 77, .iadr 2 (.t 74) (.t 76), some (68, false)⟩, ⟨some 78, .fadr 1 (.t 77), some (68, false)⟩, ⟨some 79, .ld false 1 (.t 78), some (68, false)⟩, ⟨some 80, .bin .lss (.t 73) (.t 79), some (68, false)⟩, ⟨some 81, .pick (.t 68) (cb true) (.t 80), some (55, true)⟩, ⟨some 82, .pick (.t 55) (.t 81) (cb false), some (52, false)⟩, o 83 (.pick (.t 52) (cb true) (.t 82))] [0, 4, 83])
 (.cond (.t 83)
 (.seq (.ops [o 2 (.mv (ci 11))] [2])
 (.ret))
 (.skip)))))
 (.ops [mt 23 4, o 24 (.bin .add (.t 23) (ci 1)), mt 4 24] [0, 4]))
def c45 : AFunc := ⟨84, [.tmp 2],
 .seq (.ops [o 2 (.mv (ci 0))] [0])
 (.seq (.seq (.ops [mt 6 0, o 7 (.len 1 (.t 6)), o 8 (.bin .eql (.t 7) (ci 0)), o 9 (.call true true 0 (.fn 47) [.t 8, ci 12]), mt 10 0, o 11 (.len 1 (.t 10)), o 12 (.bin .gtr (.t 11) (ci 8)), o 13 (.call true true 0 (.fn 47) [.t 12, ci 5]), o 14 (.bslice false 1 zl6 2 [(0, .t 9), (1, .t 13)]), o 15 (.call true true 0 (.fn 43) [.t 14]), mt 3 15] [0, 3])
 (.seq (.ops [mt 16 3, o 17 (.bin .neq (.t 16) (ci 0))] [0, 3, 17])
 (.cond (.t 17)
 (.seq (.ops [mt 18 3, mt 2 18] [2])
 (.ret))
 (.skip))))
 (.seq (.seq (.ops [o 4 (.mv (ci 0))] [0, 4])
 (.block 0 (.loop false [0, 4] c45L0)))
 (.seq (.ops [o 2 (.mv (ci 0))] [2])
 (.ret))))⟩

def c46 : AFunc := ⟨25, [.tmp 6],
 .seq (.ops [o 3 (.box true (.t 0)), o 6 (.mv (ci 0))] [1, 2, 3])
 (.seq (.opsd [(0, 1), (1, 1), (2, 1), (3, 1), (4, 1), (5, 1), (6, 1), (7, 1), (8, 1), (9, 1), (10, 1), (11, 1), (12, 1), (13, 1), (14, 1), (15, 0), (16, 0), (17, 0), (18, 1)] [o 7 (.fadr 0 (.t 3)), o 8 (.ld false 1 (.t 7)), mt 9 1, mt 10 2, o 11 (.call true true 0 (.fn 44) [.t 8, .t 9, .t 10]), o 12 (.fadr 1 (.t 3)), o 13 (.ld false 1 (.t 12)), mt 14 1, mt 15 2, o 16 (.call true true 0 (.fn 44) [.t 13, .t 14, .t 15]), o 17 (.fadr 0 (.t 3)), o 18 (.ld false 1 (.t 17)), o 19 (.fadr 1 (.t 3)), o 20 (.ld false 1 (.t 19)), o 21 (.bin .gtr (.t 18) (.t 20)), o 22 (.call true true 0 (.fn 47) [.t 21, ci 11]), o 23 (.bslice false 1 zl6 3 [(0, .t 11), (1, .t 16), (2, .t 22)]), o 24 (.call true true 0 (.fn 43) [.t 23]), mt 6 24] [6])
 (.ret))⟩

def c47 : AFunc := ⟨7, [.tmp 4],
 .seq (.ops [o 4 (.mv (ci 0))] [0, 1])
 (.seq (.seq (.ops [mt 5 0] [1, 5])
 (.cond (.t 5)
 (.seq (.ops [mt 6 1, mt 4 6] [4])
 (.ret))
 (.skip)))
 (.seq (.ops [o 4 (.mv (ci 0))] [4])
 (.ret)))⟩

def c48 : AFunc := ⟨9, [.cell 0 true 5],
 .seq (.ops [o 0 (.alloc false 1 zl3)] [0])
 (.seq (.ops [o 1 (.build zl5 []), o 2 (.bslice false 2 zl5 1 [(0, .t 1)]), o 3 (.build zl5 []), o 4 (.bslice false 2 zl5 1 [(0, .t 3)]), o 5 (.build zl5 []), o 6 (.bslice false 2 zl5 1 [(0, .t 5)]), o 7 (.build [.p (.nils), .p (.nils), .p (.nils)] [(0, 1, .t 2), (1, 1, .t 4), (2, 1, .t 6)]), o 8 (.build zl3 [(0, 1, ci 1), (2, 3, .t 7)]), u (.st 5 (.t 0) (.t 8))] [0])
 (.ret))⟩

def c49L0 : ACode :=
 .seq (.seq (.ops [mt 11 5, mt 12 0, o 13 (.len 1 (.t 12)), o 14 (.bin .lss (.t 11) (.t 13))] [0, 1, 5, 14])
 (.cond (.t 14)
 (.skip)
 (.exit 0)))
 (.seq (.block 1 (.seq (.opsd [(0, 1), (1, 1), (2, 1), (3, 1), (4, 1), (5, 1), (6, 1), (7, 1), (8, 1)] [mt 17 0, mt 18 5, o 19 (.iadr 1 (.t 17) (.t 18)), o 20 (.ld false 1 (.t 19)), mt 21 1, mt 22 5, o 23 (.iadr 1 (.t 21) (.t 22)), o 24 (.ld false 1 (.t 23)), o 25 (.bin .neq (.t 20) (.t 24))] [0, 1, 5, 25])
 (.cond (.t 25)
 (.seq (.ops [o 4 (.mv (cb false))] [4])
 (.ret))
 (.skip))))
 (.ops [mt 15 5, o 16 (.bin .add (.t 15) (ci 1)), mt 5 16] [0, 1, 5]))
def c49 : AFunc := ⟨26, [.tmp 4],
 .seq (.ops [o 4 (.mv (cb false))] [0, 1])
 (.seq (.seq (.ops [mt 6 0, o 7 (.len 1 (.t 6)), mt 8 1, o 9 (.len 1 (.t 8)), o 10 (.bin .neq (.t 7) (.t 9))] [0, 1, 10])
 (.cond (.t 10)
 (.seq (.ops [o 4 (.mv (cb false))] [4])
 (.ret))
 (.skip)))
 (.seq (.seq (.ops [o 5 (.mv (ci 0))] [0, 1, 5])
 (.block 0 (.loop false [0, 1, 5] c49L0)))
 (.seq (.ops [o 4 (.mv (cb true))] [4])
 (.ret))))⟩

def c50L0 : ACode :=
 .seq (.ops [o 8 (.bin .lss (.t 7) (.t 6))] [5, 6, 7, 8])
 (.seq (.cond (.t 8)
 (.skip)
 (.exit 0))
 (.seq (.block 1 (.seq (.ops [o 9 (.iadr 1 (.t 5) (.t 7)), o 10 (.ld false 1 (.t 9)), mt 4 10] [4, 5, 6, 7])
 (.seq (.ops [mt 11 4, o 12 (.bin .neq (.t 11) (ci 0))] [4, 5, 6, 7, 12])
 (.cond (.t 12)
 (.seq (.ops [mt 13 4, mt 2 13] [2])
 (.ret))
 (.skip)))))
 (.ops [o 14 (.bin .add (.t 7) (ci 1)), mt 7 14] [5, 6, 7])))
def c50 : AFunc := ⟨15, [.tmp 2],
 .seq (.ops [o 2 (.mv (ci 0))] [0])
 (.seq (.seq (.ops [mt 5 0, o 6 (.len 1 (.t 5)), o 7 (.mv (ci 0))] [5, 6, 7])
 (.block 0 (.loop false [5, 6, 7] c50L0)))
 (.seq (.ops [o 2 (.mv (ci 0))] [2])
 (.ret)))⟩

def c51 : AFunc := ⟨17, [.tmp 2],
 .seq (.ops [o 1 (.box true (.t 0)), o 2 (.mv (ci 0))] [1])
 (.seq (.opsd [(0, 1), (1, 1), (2, 1), (3, 1), (4, 1), (5, 1), (6, 1), (7, 1), (8, 1), (9, 1), (10, 1), (11, 0), (12, 0), (13, 0), (14, 1)] [o 3 (.fadr 0 (.t 1)), o 4 (.ld true 2 (.t 3)), o 5 (.call true true 0 (.fn 100) [.t 4, ci 1, ci 10000]), o 6 (.fadr 2 (.t 1)), o 7 (.ld false 1 (.t 6)), o 8 (.call true true 0 (.fn 53) [.t 7, ci 1, ci 16]), o 9 (.fadr 3 (.t 1)), o 10 (.ld false 1 (.t 9)), o 11 (.call true true 0 (.fn 53) [.t 10, ci 0, ci 8]), o 12 (.fadr 4 (.t 1)), o 13 (.ld false 1 (.t 12)), o 14 (.call true true 0 (.fn 53) [.t 13, ci 1, ci 10000]), o 15 (.bslice false 1 zl6 4 [(0, .t 5), (1, .t 8), (2, .t 11), (3, .t 14)]), o 16 (.call true true 0 (.fn 50) [.t 15]), mt 2 16] [2])
 (.ret))⟩

def c52L0 : ACode :=
 .seq (.ops [o 17 (.bin .lss (.t 16) (.t 15))] [0, 14, 15, 16, 17])
 (.seq (.cond (.t 17)
 (.skip)
 (.exit 0))
 (.seq (.block 1 (.seq (.ops [mt 18 16, o 19 (.iadr 2 (.t 14) (.t 16)), o 20 (.ld true 2 (.t 19)), o 5 (.alloc true 1 zl5), mt 4 18, u (.st 2 (.t 5) (.t 20))] [0, 4, 5, 14, 15, 16])
 (.seq (.opsd [(0, 1), (1, 1), (2, 1), (3, 1), (4, 1), (5, 1), (6, 1), (7, 1), (8, 1), (9, 1), (10, 1), (11, 1), (12, 1), (13, 1), (14, 1), (15, 1), (16, 1), (17, 1), (18, 1), (19, 1), (20, 1), (21, 1), (22, 1), (23, 1)] [mt 21 4, o 22 (.bin .eql (.t 21) (ci 0)), mt 23 22, ⟨some 24, .fadr 0 (.t 5), some (23, true)⟩, ⟨some 25, .ld false 1 (.t 24), some (23, true)⟩, ⟨some 26, .bin .neq (.t 25) (ci 0), some (23, true)⟩, o 27 (.pick (.t 23) (.t 26) (cb false)), mt 28 27, ⟨some 29, .mv (.t 4), some (28, false)⟩, ⟨some 30, .bin .gtr (.t 29) (ci 0), some (28, false)⟩, ⟨some 31, .mv (.t 30), some (28, false)⟩, ⟨some 32, .fadr 0 (.t 5), some (31, true)⟩, ⟨some 33, .ld false 1 (.t 32), some (31, true)⟩, ⟨some 34, .mv (.t 0), some (31, true)⟩, ⟨some 35, .mv (.t 4), some (31, true)⟩, ⟨some 36, .max [ci 1, .t 35], some (31, true)⟩, ⟨some 37, .bin .sub (.t 36) (ci 1), some (31, true)⟩, ⟨some 38, .iadr 2 (.t 34) (.t 37), some (31, true)⟩, ⟨some 39, .fadr 0 (.t 38), some (31, true)⟩, ⟨some 40, .ld false 1 (.t 39), some (31, true)⟩, ⟨some 41, .bin .leq (.t 33) (.t 40), some (31, true)⟩, ⟨some 42, .pick (.t 31) (.t 41) (cb false), some (28, false)⟩, o 43 (.pick (.t 28) (cb true) (.t 42)), mt 6 43] [0, 5, 6, 14, 15, 16])
 (.seq (.opsd [(0, 1), (1, 1), (2, 1), (3, 1), (4, 1), (6, 1), (5, 0), (7, 0), (8, 0), (9, 0), (10, 1)] [o 44 (.fadr 0 (.t 5)), o 45 (.ld false 1 (.t 44)), o 46 (.call true true 0 (.fn 53) [.t 45, ci 0, ci 64]), o 47 (.fadr 1 (.t 5)), o 48 (.ld false 1 (.t 47)), mt 50 6, o 49 (.call true true 0 (.fn 53) [.t 48, ci 0, ci 100]), o 51 (.call true true 0 (.fn 102) [.t 50, ci 11]), o 52 (.bslice false 1 zl6 3 [(0, .t 46), (1, .t 49), (2, .t 51)]), o 53 (.call true true 0 (.fn 50) [.t 52]), mt 7 53] [0, 7, 14, 15, 16])
 (.seq (.ops [mt 54 7, o 55 (.bin .neq (.t 54) (ci 0))] [0, 7, 14, 15, 16, 55])
 (.cond (.t 55)
 (.seq (.ops [mt 56 7, mt 2 56] [2])
 (.ret))
 (.skip)))))))
 (.ops [o 57 (.bin .add (.t 16) (ci 1)), mt 16 57] [0, 14, 15, 16])))
def c52 : AFunc := ⟨58, [.tmp 2],
 .seq (.ops [o 2 (.mv (ci 0))] [0])
 (.seq (.seq (.ops [mt 8 0, o 9 (.len 1 (.t 8)), o 10 (.call true true 0 (.fn 101) [.t 9, ci 12]), mt 3 10] [0, 3])
 (.seq (.ops [mt 11 3, o 12 (.bin .neq (.t 11) (ci 0))] [0, 3, 12])
 (.cond (.t 12)
 (.seq (.ops [mt 13 3, mt 2 13] [2])
 (.ret))
 (.skip))))
 (.seq (.seq (.ops [mt 14 0, o 15 (.len 1 (.t 14)), o 16 (.mv (ci 0))] [0, 14, 15, 16])
 (.block 0 (.loop true [0, 14, 15, 16] c52L0)))
 (.seq (.ops [o 2 (.mv (ci 0))] [2])
 (.ret))))⟩

def c53 : AFunc := ⟨16, [.tmp 6],
 .seq (.ops [o 6 (.mv (ci 0))] [0, 1, 2])
 (.seq (.ops [mt 7 0, mt 8 1, o 9 (.bin .lss (.t 7) (.t 8)), mt 10 9, ⟨some 11, .mv (.t 0), some (10, false)⟩, ⟨some 12, .mv (.t 2), some (10, false)⟩, ⟨some 13, .bin .gtr (.t 11) (.t 12), some (10, false)⟩, o 14 (.pick (.t 10) (cb true) (.t 13)), o 15 (.call true true 0 (.fn 102) [.t 14, ci 3]), mt 6 15] [6])
 (.ret))⟩

def c54 : AFunc := ⟨5, [.tmp 2],
 .seq (.ops [o 2 (.mv (ci 0))] [0])
 (.seq (.ops [mt 3 0, o 4 (.call true true 0 (.fn 53) [.t 3, ci 1, ci 64]), mt 2 4] [2])
 (.ret))⟩

def c55L0 : ACode :=
 .seq (.ops [o 15 (.bin .lss (.t 14) (.t 13))] [1, 2, 4, 9, 10, 13, 14, 15])
 (.seq (.cond (.t 15)
 (.skip)
 (.exit 0))
 (.seq (.block 1 (.seq (.ops [mt 16 14, mt 11 16] [1, 2, 4, 9, 10, 11, 13, 14])
 (.seq (.ops [mt 17 2, mt 18 1, mt 19 11, o 20 (.fadr 3 (.t 4)), o 21 (.ld false 1 (.t 20)), o 22 (.bin .sub (.t 19) (.t 21)), o 23 (.max [ci 0, .t 22]), o 24 (.call true true 0 (.fn 103) [.t 18, .t 23]), o 25 (.bin .mul (.t 17) (.t 24)), o 26 (.bin .quo (.t 25) (ci 100)), mt 12 26] [1, 2, 4, 9, 10, 12, 13, 14])
 (.seq (.ops [mt 27 10, mt 28 12, mt 29 10, o 30 (.bin .sub (.t 28) (.t 29)), o 31 (.fadr 2 (.t 4)), o 32 (.ld false 1 (.t 31)), o 33 (.call true true 0 (.fn 104) [.t 30, .t 32]), o 34 (.bin .add (.t 27) (.t 33)), mt 10 34] [1, 2, 4, 9, 10, 13, 14])
 (.ops [mt 35 9, mt 36 10, o 37 (.bslice false 1 zl6 1 [(0, .t 36)]), o 38 (.app 1 8 zl6 (.t 35) (.t 37)), mt 9 38] [1, 2, 4, 9, 10, 13, 14])))))
 (.ops [o 39 (.bin .add (.t 14) (ci 1)), mt 14 39] [1, 2, 4, 9, 10, 13, 14])))
def c55 : AFunc := ⟨41, [.tmp 8],
 .seq (.ops [o 4 (.box true (.t 0)), o 8 (.mv (cn))] [1, 2, 3, 4])
 (.seq (.ops [o 9 (.nilown 1)] [1, 2, 3, 4, 9])
 (.seq (.ops [o 10 (.mv (ci 0))] [1, 2, 3, 4, 9, 10])
 (.seq (.seq (.ops [mt 13 3, o 14 (.mv (ci 0))] [1, 2, 4, 9, 10, 13, 14])
 (.block 0 (.loop false [1, 2, 4, 9, 10, 13, 14] c55L0)))
 (.seq (.ops [mt 40 9, mt 8 40] [8])
 (.ret)))))⟩

def c56L0 : ACode :=
 .seq (.ops [o 8 (.bin .lss (.t 7) (.t 6))] [5, 6, 7, 8])
 (.seq (.cond (.t 8)
 (.skip)
 (.exit 0))
 (.seq (.block 1 (.seq (.ops [o 9 (.iadr 1 (.t 5) (.t 7)), o 10 (.ld false 1 (.t 9)), mt 4 10] [4, 5, 6, 7])
 (.seq (.ops [mt 11 4, o 12 (.bin .neq (.t 11) (ci 0))] [4, 5, 6, 7, 12])
 (.cond (.t 12)
 (.seq (.ops [mt 13 4, mt 2 13] [2])
 (.ret))
 (.skip)))))
 (.ops [o 14 (.bin .add (.t 7) (ci 1)), mt 7 14] [5, 6, 7])))
def c56 : AFunc := ⟨15, [.tmp 2],
 .seq (.ops [o 2 (.mv (ci 0))] [0])
 (.seq (.seq (.ops [mt 5 0, o 6 (.len 1 (.t 5)), o 7 (.mv (ci 0))] [5, 6, 7])
 (.block 0 (.loop false [5, 6, 7] c56L0)))
 (.seq (.ops [o 2 (.mv (ci 0))] [2])
 (.ret)))⟩

def c57 : AFunc := ⟨15, [.tmp 2],
 .seq (.ops [o 1 (.box true (.t 0)), o 2 (.mv (ci 0))] [1])
 (.seq (.opsd [(0, 1), (1, 1), (2, 1), (3, 1), (4, 1), (5, 1), (6, 1), (7, 1), (8, 0), (9, 0), (10, 0), (11, 0), (12, 1)] [o 3 (.fadr 0 (.t 1)), o 4 (.ld false 1 (.t 3)), o 5 (.call true true 0 (.fn 80) [.t 4, ci 1, ci 8]), o 6 (.fadr 1 (.t 1)), o 7 (.ld false 1 (.t 6)), o 8 (.call true true 0 (.fn 80) [.t 7, ci 0, ci 1000000]), o 9 (.fadr 2 (.t 1)), o 10 (.slca 1 3 (.t 9) none none), o 11 (.call true false 0 (.fn 105) [.t 10, cf 106]), o 12 (.call true true 0 (.fn 56) [.t 11]), o 13 (.bslice false 1 zl6 3 [(0, .t 5), (1, .t 8), (2, .t 12)]), o 14 (.call true true 0 (.fn 56) [.t 13]), mt 2 14] [2])
 (.ret))⟩

end Fw
