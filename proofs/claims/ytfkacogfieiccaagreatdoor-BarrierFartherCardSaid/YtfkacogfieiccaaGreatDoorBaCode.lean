/- The functions of the program, written for the evaluator, first part: definitions alone. -/
import Derived.Test.YtfkacogfieiccaaGreatDoorFwC
namespace Fw
open Go
abbrev o (d : Nat) (x : AOp) : AOper := ⟨some d, x, none⟩
abbrev u (x : AOp) : AOper := ⟨none, x, none⟩
abbrev mt (d x : Nat) : AOper := ⟨some d, .mv (.t x), none⟩
abbrev zl0 : List AVal := [.p (.str []), .p (.int .i64 0), .p (.int .i64 0), .p (.int .i64 0), .p (.int .i64 0), .p (.int .i64 0), .p (.int .i64 0), .p (.int .i64 0), .p (.int .i64 0), .p (.int .i64 0), .p (.int .i64 0)]
abbrev zl1 : List AVal := [.p (.str []), .p (.int .i64 0), .p (.int .i64 0), .p (.int .i64 0), .p (.int .i64 0), .p (.int .i64 0), .p (.int .i64 0)]
abbrev zl2 : List AVal := [.p (.nils), .p (.int .i64 0), .p (.int .i64 0), .p (.int .i64 0), .p (.int .i64 0), .p (.int .i64 0)]
abbrev zl3 : List AVal := [.p (.str []), .p (.int .i64 0), .p (.int .i64 0), .p (.int .i64 0), .p (.int .i64 0), .p (.nils)]
abbrev zl4 : List AVal := [.p (.str []), .p (.int .i64 0), .p (.int .i64 0), .p (.int .i64 0), .p (.int .i64 0)]
abbrev zl5 : List AVal := [.p (.int .i64 0), .p (.int .i64 0), .p (.int .i64 0), .p (.int .i64 0)]
abbrev zl6 : List AVal := [.p (.int .i64 0), .p (.int .i64 0), .p (.int .i64 0)]
abbrev zl7 : List AVal := [.p (.int .i64 0), .p (.int .i64 0)]
abbrev zl8 : List AVal := [.p (.int .i64 0)]
abbrev zl9 : List AVal := [.p (.str [])]
abbrev ci (n : Int) : Opd := .c (.p (.int .i64 n))
abbrev cb (b : Bool) : Opd := .c (.p (.bool b))
abbrev cs (l : List UInt8) : Opd := .c (.p (.str l))
abbrev cn : Opd := .c (.p .nils)
abbrev cf (f : Nat) : Opd := .c (.p (.clo f [] []))
inductive Tr where | leaf | node (k : Nat) (v : AFunc) (l r : Tr)
def Tr.find : Tr → Nat → Option AFunc
 | .leaf, _ => none
 | .node k v l r, n => if n = k then some v else if n < k then l.find n else r.find n
def c11L0 : ACode :=
 .seq (.ops [o 161 (.bin .lss (.t 160) (.t 159))] [2, 3, 17, 19, 159, 160, 161])
 (.seq (.cond (.t 161)
 (.skip)
 (.exit 0))
 (.seq (.block 1 (.seq (.ops [mt 162 160, mt 20 162] [2, 3, 17, 19, 20, 159, 160])
 (.seq (.ops [o 163 (.ld true 6 (.t 2)), o 164 (.call true false 0 (.fn 35) [.t 163]), mt 165 17, o 166 (.call true false 0 (.fn 52) [.t 165]), mt 167 20, o 168 (.call true true 0 (.fn 51) [.t 164, .t 166, .t 167]), mt 21 168] [2, 3, 17, 19, 21, 159, 160])
 (.seq (.seq (.ops [mt 169 21, o 170 (.bin .eql (.t 169) (ci 0)), mt 171 170, ⟨some 172, .mv (.t 19), some (171, true)⟩, ⟨some 173, .not (.t 172), some (171, true)⟩, o 174 (.pick (.t 171) (.t 173) (cb false))] [2, 3, 17, 21, 159, 160, 174])
 (.cond (.t 174)
 (.seq (.ops [o 4 (.mv (cb false))] [4])
 (.ret))
 (.skip)))
 (.ops [mt 175 21, o 176 (.bin .eql (.t 175) (ci 0)), mt 19 176] [2, 3, 17, 19, 159, 160])))))
 (.ops [o 177 (.bin .add (.t 160) (ci 1)), mt 160 177] [2, 3, 17, 19, 159, 160])))
def c11 : AFunc := ⟨253, [.tmp 4],
 .seq (.ops [o 2 (.box false (.t 0)), o 3 (.box true (.t 1)), o 4 (.mv (cb false))] [2, 3])
 (.seq (.seq (.ops [o 25 (.fadr 0 (.t 2)), o 26 (.ld false 1 (.t 25)), o 27 (.len 1 (.t 26)), o 28 (.bin .gtr (.t 27) (ci 12)), mt 29 28, ⟨some 30, .ld true 6 (.t 2), some (29, false)⟩, ⟨some 31, .call true true 0 (.fn 40) [.t 30], some (29, false)⟩, ⟨some 32, .bin .neq (.t 31) (ci 0), some (29, false)⟩, o 33 (.pick (.t 29) (cb true) (.t 32))] [2, 3, 33])
 (.cond (.t 33)
 (.seq (.ops [o 34 (.call true true 0 (.fn 13) []), mt 4 34] [4])
 (.ret))
 (.skip)))
 (.seq (.ops [o 36 (.ld true 6 (.t 2)), o 37 (.call true false 0 (.fn 35) [.t 36]), o 38 (.call true true 0 (.fn 39) [.t 37]), mt 35 38, o 39 (.ext (.t 35) 0), o 40 (.ext (.t 35) 1), mt 5 39, mt 6 40] [2, 3, 5, 6])
 (.seq (.ops [o 41 (.ld true 6 (.t 2)), o 42 (.call true false 0 (.fn 35) [.t 41]), o 7 (.alloc false 1 zl2), u (.st 6 (.t 7) (.t 42))] [2, 3, 5, 6, 7])
 (.seq (.ops [o 43 (.fadr 3 (.t 7)), o 44 (.fadr 0 (.t 43)), o 45 (.ld false 1 (.t 44)), o 46 (.iadra 1 3 (.t 3) (ci 0)), o 47 (.ld false 1 (.t 46)), o 48 (.conv (.int .i64) (.t 47)), o 49 (.bin .add (.t 45) (.t 48)), o 50 (.min [ci 100000, .t 49]), o 51 (.fadr 3 (.t 7)), o 52 (.fadr 0 (.t 51)), u (.st 1 (.t 52) (.t 50))] [2, 3, 5, 6, 7])
 (.seq (.ops [o 53 (.fadr 3 (.t 7)), o 54 (.fadr 0 (.t 53)), o 55 (.ld false 1 (.t 54)), o 56 (.fadr 3 (.t 7)), o 57 (.fadr 1 (.t 56)), o 58 (.ld false 1 (.t 57)), o 59 (.max [.t 55, .t 58]), o 60 (.fadr 3 (.t 7)), o 61 (.fadr 1 (.t 60)), u (.st 1 (.t 61) (.t 59))] [2, 3, 5, 6, 7])
 (.seq (.ops [o 63 (.ld true 6 (.t 7)), o 64 (.call true true 0 (.fn 39) [.t 63]), mt 62 64, o 65 (.ext (.t 62) 0), o 66 (.ext (.t 62) 1), mt 8 65, mt 9 66] [2, 3, 5, 6, 8, 9])
 (.seq (.ops [o 67 (.ld true 6 (.t 2)), o 68 (.call true false 1000 (.fn 35) [.t 67]), o 10 (.alloc false 1 zl2), u (.st 6 (.t 10) (.t 68))] [2, 3, 5, 6, 8, 9, 10])
 (.seq (.opsd [(0, 1), (1, 1), (2, 1), (4, 19), (5, 19), (6, 1), (3, 20), (7, 1), (8, 20), (9, 1), (10, 0)] [o 69 (.fadr 0 (.t 10)), o 70 (.ld false 1 (.t 69)), o 71 (.bslice false 1 zl8 1 [(0, ci 0)]), o 73 (.fadr 5 (.t 2)), o 74 (.ld false 1 (.t 73)), o 75 (.bin .add (.t 74) (ci 1)), o 72 (.app 1 8 zl8 (.t 70) (.t 71)), o 76 (.fadr 0 (.t 10)), u (.st 1 (.t 76) (.t 72)), o 77 (.fadr 5 (.t 10)), u (.st 1 (.t 77) (.t 75))] [2, 3, 5, 6, 8, 9, 10])
 (.seq (.ops [o 79 (.ld true 6 (.t 10)), o 80 (.call true true 0 (.fn 39) [.t 79]), mt 78 80, o 81 (.ext (.t 78) 0), o 82 (.ext (.t 78) 1), mt 11 81, mt 12 82] [2, 3, 5, 6, 8, 9, 11, 12])
 (.seq (.ops [o 83 (.ld true 6 (.t 2)), o 84 (.call true false 1000 (.fn 35) [.t 83]), o 13 (.alloc false 1 zl2), u (.st 6 (.t 13) (.t 84))] [2, 3, 5, 6, 8, 9, 11, 12, 13])
 (.seq (.ops [o 85 (.iadra 1 3 (.t 3) (ci 1)), o 86 (.ld false 1 (.t 85)), o 87 (.conv (.int .i64) (.t 86)), o 88 (.fadr 0 (.t 13)), o 89 (.ld false 1 (.t 88)), o 90 (.len 1 (.t 89)), o 91 (.bin .rem (.t 87) (.t 90)), mt 14 91] [2, 3, 5, 6, 8, 9, 11, 12, 13, 14])
 (.seq (.opsd [(0, 1), (1, 1), (2, 1), (3, 1), (4, 1), (5, 1), (6, 1), (7, 1), (8, 1), (9, 1), (10, 1), (11, 1), (12, 1), (13, 1), (14, 0)] [o 92 (.fadr 0 (.t 13)), o 93 (.ld false 1 (.t 92)), mt 94 14, o 95 (.fadr 0 (.t 13)), o 96 (.ld false 1 (.t 95)), mt 97 14, o 98 (.iadr 1 (.t 96) (.t 97)), o 99 (.ld false 1 (.t 98)), o 100 (.iadra 1 3 (.t 3) (ci 0)), o 101 (.ld false 1 (.t 100)), o 102 (.conv (.int .i64) (.t 101)), o 103 (.bin .add (.t 99) (.t 102)), o 104 (.min [ci 100000, .t 103]), o 105 (.iadr 1 (.t 93) (.t 94)), u (.st 1 (.t 105) (.t 104))] [2, 3, 5, 6, 8, 9, 11, 12, 13])
 (.seq (.ops [o 107 (.ld true 6 (.t 13)), o 108 (.call true true 0 (.fn 39) [.t 107]), mt 106 108, o 109 (.ext (.t 106) 0), o 110 (.ext (.t 106) 1), mt 15 109, mt 16 110] [2, 3, 5, 6, 8, 9, 11, 12, 15, 16])
 (.seq (.ops [o 112 (.ld true 6 (.t 2)), o 113 (.call true false 0 (.fn 35) [.t 112]), o 114 (.call true false 0 (.fn 50) [.t 113]), mt 111 114, o 115 (.ext (.t 111) 0), o 116 (.ext (.t 111) 1), mt 17 115, mt 18 116] [2, 3, 5, 6, 8, 9, 11, 12, 15, 16, 17, 18])
 (.seq (.seq (.ops [mt 117 6, o 118 (.bin .neq (.t 117) (ci 0)), mt 119 118, ⟨some 120, .mv (.t 9), some (119, false)⟩, ⟨some 121, .bin .neq (.t 120) (ci 0), some (119, false)⟩, o 122 (.pick (.t 119) (cb true) (.t 121)), mt 123 122, ⟨some 124, .mv (.t 12), some (123, false)⟩, ⟨some 125, .bin .neq (.t 124) (ci 0), some (123, false)⟩, o 126 (.pick (.t 123) (cb true) (.t 125)), mt 127 126, ⟨some 128, .mv (.t 16), some (127, false)⟩, ⟨some 129, .bin .neq (.t 128) (ci 0), some (127, false)⟩, o 130 (.pick (.t 127) (cb true) (.t 129)), mt 131 130, ⟨some 132, .mv (.t 18), some (131, false)⟩, ⟨some 133, .bin .neq (.t 132) (ci 0), some (131, false)⟩, o 134 (.pick (.t 131) (cb true) (.t 133)), mt 135 134, ⟨some 136, .mv (.t 8), some (135, false)⟩, ⟨some 137, .mv (.t 5), some (135, false)⟩, ⟨some 138, .bin .lss (.t 136) (.t 137), some (135, false)⟩, o 139 (.pick (.t 135) (cb true) (.t 138)), mt 140 139, ⟨some 141, .mv (.t 11), some (140, false)⟩, ⟨some 142, .mv (.t 5), some (140, false)⟩, ⟨some 143, .bin .lss (.t 141) (.t 142), some (140, false)⟩, o 144 (.pick (.t 140) (cb true) (.t 143)), mt 145 144, ⟨some 146, .mv (.t 15), some (145, false)⟩, ⟨some 147, .mv (.t 5), some (145, false)⟩, ⟨some 148, .bin .gtr (.t 146) (.t 147), some (145, false)⟩, o 149 (.pick (.t 145) (cb true) (.t 148)), mt 150 149, ⟨some 151, .mv (.t 17), some (150, false)⟩, ⟨some 152, .len 1 (.t 151), some (150, false)⟩, ⟨some 153, .fadr 5 (.t 2), some (150, false)⟩, ⟨some 154, .ld false 1 (.t 153), some (150, false)⟩, ⟨some 155, .bin .add (.t 154) (ci 1), some (150, false)⟩, ⟨some 156, .bin .neq (.t 152) (.t 155), some (150, false)⟩, o 157 (.pick (.t 150) (cb true) (.t 156))] [2, 3, 17, 157])
 (.cond (.t 157)
 (.seq (.ops [o 4 (.mv (cb false))] [4])
 (.ret))
 (.skip)))
 (.seq (.ops [o 19 (.mv (cb true))] [2, 3, 17, 19])
 (.seq (.seq (.ops [mt 158 17, o 159 (.len 1 (.t 158)), o 160 (.mv (ci 0))] [2, 3, 17, 19, 159, 160])
 (.block 0 (.loop false [2, 3, 17, 19, 159, 160] c11L0)))
 (.seq (.ops [o 178 (.iadra 1 3 (.t 3) (ci 2)), o 179 (.ld false 1 (.t 178)), o 180 (.conv (.int .i64) (.t 179)), o 181 (.fadr 5 (.t 2)), o 182 (.ld false 1 (.t 181)), o 183 (.bin .rem (.t 180) (.t 182)), o 184 (.bin .add (ci 1) (.t 183)), mt 22 184] [2, 3, 17, 22])
 (.seq (.ops [mt 185 17, o 186 (.call true false 1 (.fn 52) [.t 185]), mt 23 186] [2, 3, 17, 22, 23])
 (.seq (.opsd [(0, 1), (1, 1), (2, 1), (3, 1), (4, 1), (5, 1), (6, 1), (7, 1), (8, 1), (9, 1), (10, 0)] [mt 187 23, mt 188 22, o 189 (.iadr 1 (.t 187) (.t 188)), o 190 (.ld false 1 (.t 189)), o 191 (.iadra 1 3 (.t 3) (ci 0)), o 192 (.ld false 1 (.t 191)), o 193 (.conv (.int .i64) (.t 192)), o 194 (.bin .add (ci 1) (.t 193)), o 195 (.bin .sub (.t 190) (.t 194)), o 196 (.iadr 1 (.t 187) (.t 188)), u (.st 1 (.t 196) (.t 195))] [2, 17, 22, 23])
 (.seq (.seq (.opsd [(0, 1), (1, 1), (2, 1), (3, 1), (4, 1), (5, 1), (6, 1), (7, 1), (8, 1), (9, 1), (10, 1), (11, 1), (12, 1), (13, 1), (14, 1), (15, 1), (16, 1), (17, 1), (18, 1), (19, 1), (20, 1), (21, 1), (22, 1), (23, 1), (24, 1), (25, 1), (26, 1), (27, 1), (28, 1), (29, 1), (30, 1), (32, 1), (31, 0), (33, 0), (34, 1), (35, 1)] [mt 197 23, mt 198 22, o 199 (.iadr 1 (.t 197) (.t 198)), o 200 (.ld false 1 (.t 199)), o 201 (.bin .geq (.t 200) (ci 0)), mt 202 201, ⟨some 203, .mv (.t 17), some (202, true)⟩, ⟨some 204, .mv (.t 22), some (202, true)⟩, ⟨some 205, .iadr 1 (.t 203) (.t 204), some (202, true)⟩, ⟨some 206, .ld false 1 (.t 205), some (202, true)⟩, ⟨some 207, .mv (.t 17), some (202, true)⟩, ⟨some 208, .mv (.t 22), some (202, true)⟩, ⟨some 209, .bin .sub (.t 208) (ci 1), some (202, true)⟩, ⟨some 210, .iadr 1 (.t 207) (.t 209), some (202, true)⟩, ⟨some 211, .ld false 1 (.t 210), some (202, true)⟩, ⟨some 212, .fadr 0 (.t 2), some (202, true)⟩, ⟨some 213, .ld false 1 (.t 212), some (202, true)⟩, ⟨some 214, .mv (.t 22), some (202, true)⟩, ⟨some 215, .bin .sub (.t 214) (ci 1), some (202, true)⟩, ⟨some 216, .iadr 1 (.t 213) (.t 215), some (202, true)⟩, ⟨some 217, .ld false 1 (.t 216), some (202, true)⟩, ⟨some 218, .bin .add (.t 211) (.t 217), some (202, true)⟩, ⟨some 219, .fadr 1 (.t 2), some (202, true)⟩, ⟨some 220, .fadr 0 (.t 219), some (202, true)⟩, ⟨some 221, .ld false 1 (.t 220), some (202, true)⟩, ⟨some 222, .bin .sub (.t 218) (.t 221), some (202, true)⟩, ⟨some 223, .bin .sub (.t 222) (ci 1), some (202, true)⟩, ⟨some 224, .bin .gtr (.t 206) (.t 223), some (202, true)⟩, o 225 (.pick (.t 202) (.t 224) (cb false)), mt 226 225, ⟨some 227, .ld true 6 (.t 2), some (226, true)⟩, ⟨some 229, .mv (.t 23), some (226, true)⟩, ⟨some 228, .call true false 0 (.fn 35) [.t 227], some (226, true)⟩, ⟨some 230, .call true true 0 (.fn 51) [.t 228, .t 229, ci 0], some (226, true)⟩, ⟨some 231, .bin .neq (.t 230) (ci 19), some (226, true)⟩, o 232 (.pick (.t 226) (.t 231) (cb false))] [2, 17, 232])
 (.cond (.t 232)
 (.seq (.ops [o 4 (.mv (cb false))] [4])
 (.ret))
 (.skip)))
 (.seq (.ops [mt 233 17, o 234 (.call true false 1 (.fn 52) [.t 233]), mt 24 234] [2, 24])
 (.seq (.ops [mt 235 24, mt 236 24, o 237 (.len 1 (.t 236)), o 238 (.bin .sub (.t 237) (ci 1)), o 239 (.iadr 1 (.t 235) (.t 238)), o 240 (.ld false 1 (.t 239)), o 241 (.bin .add (.t 240) (ci 1)), o 242 (.iadr 1 (.t 235) (.t 238)), u (.st 1 (.t 242) (.t 241))] [2, 24])
 (.seq (.opsd [(0, 1), (1, 1), (2, 1), (3, 1), (4, 1), (5, 0), (6, 1), (7, 1), (8, 0), (9, 1), (10, 1)] [o 243 (.ld true 6 (.t 2)), o 244 (.call true false 0 (.fn 35) [.t 243]), mt 245 24, o 246 (.fadr 5 (.t 2)), o 247 (.ld false 1 (.t 246)), o 248 (.call true true 0 (.fn 51) [.t 244, .t 245, .t 247]), o 249 (.bin .eql (.t 248) (ci 19)), mt 250 249, ⟨some 251, .call true true 0 (.fn 13) [], some (250, true)⟩, o 252 (.pick (.t 250) (.t 251) (cb false)), mt 4 252] [4])
 (.ret)))))))))))))))))))))))))⟩

def c13 : AFunc := ⟨388, [.tmp 0],
 .seq (.ops [o 0 (.mv (cb false))] [])
 (.seq (.ops [o 53 (.call true true 0 (.fn 90) [ci 0, ci 10]), o 54 (.build zl6 [(1, 2, .t 53)]), o 55 (.call true true 0 (.fn 90) [ci 100010, ci 100020]), o 56 (.build zl6 [(0, 1, ci 1000), (1, 2, .t 55)]), o 57 (.call true true 0 (.fn 90) [ci 200030, ci 200040]), o 58 (.build zl6 [(0, 1, ci 2000), (1, 2, .t 57)]), o 59 (.bslice false 3 zl6 3 [(0, .t 54), (1, .t 56), (2, .t 58)]), mt 1 59] [1])
 (.seq (.ops [mt 61 1, o 62 (.call true false 0 (.fn 14) [.t 61]), mt 60 62, o 63 (.ext (.t 60) 0), o 64 (.ext (.t 60) 1), mt 2 63, mt 3 64] [1, 2, 3])
 (.seq (.ops [mt 66 1, o 67 (.call true true 0 (.fn 16) [.t 66]), mt 65 67, o 68 (.ext (.t 65) 0), o 69 (.ext (.t 65) 1), o 4 (.alloc true 1 zl7), u (.st 2 (.t 4) (.t 68)), mt 5 69] [2, 3, 4, 5])
 (.seq (.ops [o 71 (.build zl7 [(1, 1, ci 1800)]), o 72 (.build zl7 [(0, 1, ci 1000), (1, 1, ci 3000)]), o 73 (.call true true 0 (.fn 17) [.t 71, .t 72]), mt 70 73, o 74 (.ext (.t 70) 0), o 75 (.ext (.t 70) 1), o 6 (.alloc true 1 zl7), u (.st 2 (.t 6) (.t 74)), mt 7 75] [2, 3, 4, 5, 6, 7])
 (.seq (.ops [o 77 (.call true false 0 (.fn 94) []), o 78 (.call true false 0 (.fn 34) [.t 77, ci 2]), mt 76 78, o 79 (.ext (.t 76) 0), o 80 (.ext (.t 76) 1), mt 8 79, mt 9 80] [2, 3, 4, 5, 6, 7, 8, 9])
 (.seq (.ops [o 82 (.call true false 0 (.fn 94) []), o 83 (.call true false 0 (.fn 36) [.t 82]), mt 81 83, o 84 (.ext (.t 81) 0), o 85 (.ext (.t 81) 1), mt 10 84, mt 11 85] [2, 3, 4, 5, 6, 7, 8, 9, 10, 11])
 (.seq (.ops [o 87 (.call true false 0 (.fn 94) []), o 88 (.call true true 0 (.fn 37) [.t 87, ci 2, ci 1, ci 6]), mt 86 88, o 89 (.ext (.t 86) 0), o 90 (.ext (.t 86) 1), mt 12 89, mt 13 90] [2, 3, 4, 5, 6, 7, 8, 9, 10, 11, 12, 13])
 (.seq (.ops [o 92 (.call true false 0 (.fn 94) []), o 93 (.call true true 0 (.fn 37) [.t 92, ci 3, ci 1, ci 6]), mt 91 93, o 94 (.ext (.t 91) 0), o 95 (.ext (.t 91) 1), mt 14 94, mt 15 95] [2, 3, 4, 5, 6, 7, 8, 9, 10, 11, 12, 13, 14, 15])
 (.seq (.ops [o 97 (.call true false 0 (.fn 94) []), o 98 (.call true true 0 (.fn 38) [.t 97, ci 3]), mt 96 98, o 99 (.ext (.t 96) 0), o 100 (.ext (.t 96) 1), mt 16 99, mt 17 100] [2, 3, 4, 5, 6, 7, 8, 9, 10, 11, 12, 13, 14, 15, 16, 17])
 (.seq (.ops [o 102 (.call true false 0 (.fn 94) []), o 103 (.call true true 0 (.fn 39) [.t 102]), mt 101 103, o 104 (.ext (.t 101) 0), o 105 (.ext (.t 101) 1), mt 18 104, mt 19 105] [2, 3, 4, 5, 6, 7, 8, 9, 10, 11, 12, 13, 14, 15, 16, 17, 18, 19])
 (.seq (.ops [o 107 (.call true false 0 (.fn 94) []), o 108 (.call true false 0 (.fn 50) [.t 107]), mt 106 108, o 109 (.ext (.t 106) 0), o 110 (.ext (.t 106) 1), mt 20 109, mt 21 110] [2, 3, 4, 5, 6, 7, 8, 9, 10, 11, 12, 13, 14, 15, 16, 17, 18, 19, 20, 21])
 (.seq (.ops [o 111 (.call true false 0 (.fn 94) []), mt 112 20, o 113 (.call true true 0 (.fn 51) [.t 111, .t 112, ci 2]), mt 22 113] [2, 3, 4, 5, 6, 7, 8, 9, 10, 11, 12, 13, 14, 15, 16, 17, 18, 19, 20, 21, 22])
 (.seq (.ops [o 114 (.call true false 0 (.fn 94) []), mt 115 20, o 116 (.call true true 0 (.fn 51) [.t 114, .t 115, ci 3]), mt 23 116] [2, 3, 4, 5, 6, 7, 8, 9, 10, 11, 12, 13, 14, 15, 16, 17, 18, 19, 20, 21, 22, 23])
 (.seq (.seq (.opsd [(0, 1), (1, 1), (2, 1), (3, 1), (4, 1), (5, 1), (6, 1), (7, 1), (8, 1), (9, 1), (10, 1), (11, 1), (12, 1), (13, 1), (14, 1), (15, 1), (16, 1), (17, 1), (18, 1), (19, 1), (20, 1), (21, 1), (22, 1), (23, 1), (24, 1), (25, 1), (26, 1), (27, 1), (28, 1), (29, 1), (30, 1), (31, 1), (32, 1), (33, 1), (34, 1), (35, 1), (36, 1), (37, 1), (38, 1), (39, 1), (40, 1), (41, 1), (42, 1), (43, 1), (44, 1), (45, 1), (46, 1), (47, 1), (48, 1), (49, 1), (50, 1), (51, 1), (52, 1), (53, 1), (54, 1), (55, 1), (56, 1), (57, 0), (58, 0), (59, 1), (60, 1), (61, 1), (62, 1), (63, 1), (64, 1), (65, 1), (66, 1), (67, 1), (68, 1), (69, 1), (70, 1), (71, 1), (72, 1), (73, 1), (74, 1), (75, 1), (76, 1), (77, 1), (78, 1), (79, 1), (80, 1), (81, 1), (82, 1), (83, 1), (84, 1), (85, 1), (86, 1), (87, 1), (88, 1), (89, 1), (90, 0), (91, 0), (92, 1), (93, 1)] [mt 117 3, mt 118 5, o 119 (.bin .add (.t 117) (.t 118)), mt 120 7, o 121 (.bin .add (.t 119) (.t 120)), mt 122 9, o 123 (.bin .add (.t 121) (.t 122)), mt 124 11, o 125 (.bin .add (.t 123) (.t 124)), mt 126 13, o 127 (.bin .add (.t 125) (.t 126)), mt 128 15, o 129 (.bin .add (.t 127) (.t 128)), mt 130 17, o 131 (.bin .add (.t 129) (.t 130)), mt 132 19, o 133 (.bin .add (.t 131) (.t 132)), mt 134 21, o 135 (.bin .add (.t 133) (.t 134)), mt 136 22, o 137 (.bin .add (.t 135) (.t 136)), o 138 (.bin .neq (.t 137) (ci 0)), mt 139 138, ⟨some 140, .mv (.t 23), some (139, false)⟩, ⟨some 141, .bin .neq (.t 140) (ci 19), some (139, false)⟩, o 142 (.pick (.t 139) (cb true) (.t 141)), mt 143 142, ⟨some 144, .mv (.t 2), some (143, false)⟩, ⟨some 145, .len 1 (.t 144), some (143, false)⟩, ⟨some 146, .bin .neq (.t 145) (ci 2), some (143, false)⟩, o 147 (.pick (.t 143) (cb true) (.t 146)), mt 148 147, ⟨some 149, .mv (.t 2), some (148, false)⟩, ⟨some 150, .iadr 2 (.t 149) (ci 0), some (148, false)⟩, ⟨some 151, .ld true 2 (.t 150), some (148, false)⟩, ⟨some 152, .call true true 0 (.fn 90) [ci 9998, ci 10000], some (148, false)⟩, ⟨some 153, .eqagg [0, 0] true (.t 151) (.t 152), some (148, false)⟩, o 154 (.pick (.t 148) (cb true) (.t 153)), mt 155 154, ⟨some 156, .mv (.t 2), some (155, false)⟩, ⟨some 157, .iadr 2 (.t 156) (ci 1), some (155, false)⟩, ⟨some 158, .ld true 2 (.t 157), some (155, false)⟩, ⟨some 159, .call true true 0 (.fn 90) [ci 9997, ci 10000], some (155, false)⟩, ⟨some 160, .eqagg [0, 0] true (.t 158) (.t 159), some (155, false)⟩, o 161 (.pick (.t 155) (cb true) (.t 160)), mt 162 161, ⟨some 163, .ld true 2 (.t 4), some (162, false)⟩, ⟨some 164, .call true true 0 (.fn 90) [ci 9998, ci 10000], some (162, false)⟩, ⟨some 165, .eqagg [0, 0] true (.t 163) (.t 164), some (162, false)⟩, o 166 (.pick (.t 162) (cb true) (.t 165)), mt 167 166, ⟨some 168, .ld true 2 (.t 6), some (167, false)⟩, ⟨some 169, .build zl7 [(0, 1, ci 4), (1, 1, ci 9)], some (167, false)⟩, ⟨some 170, .eqagg [0, 0] true (.t 168) (.t 169), some (167, false)⟩, o 171 (.pick (.t 167) (cb true) (.t 170)), mt 172 171, ⟨some 173, .mv (.t 8), some (172, false)⟩, ⟨some 174, .bslice false 1 zl8 7 [(0, ci 0), (1, ci 8), (2, ci 16), (3, ci 24), (4, ci 22), (5, ci 20), (6, ci 18)], some (172, false)⟩, ⟨some 175, .call true true 0 (.fn 49) [.t 173, .t 174], some (172, false)⟩, ⟨some 176, .not (.t 175), some (172, false)⟩, o 177 (.pick (.t 172) (cb true) (.t 176)), mt 178 177, ⟨some 179, .mv (.t 10), some (178, false)⟩, ⟨some 180, .len 1 (.t 179), some (178, false)⟩, ⟨some 181, .bin .neq (.t 180) (ci 7), some (178, false)⟩, o 182 (.pick (.t 178) (cb true) (.t 181)), mt 183 182, ⟨some 184, .mv (.t 10), some (183, false)⟩, ⟨some 185, .iadr 2 (.t 184) (ci 3), some (183, false)⟩, ⟨some 186, .ld true 2 (.t 185), some (183, false)⟩, ⟨some 187, .call true true 0 (.fn 90) [ci 24, ci 27], some (183, false)⟩, ⟨some 188, .eqagg [0, 0] true (.t 186) (.t 187), some (183, false)⟩, o 189 (.pick (.t 183) (cb true) (.t 188)), mt 190 189, ⟨some 191, .mv (.t 12), some (190, false)⟩, ⟨some 192, .bin .neq (.t 191) (ci 5), some (190, false)⟩, o 193 (.pick (.t 190) (cb true) (.t 192)), mt 194 193, ⟨some 195, .mv (.t 14), some (194, false)⟩, ⟨some 196, .bin .neq (.t 195) (ci 7), some (194, false)⟩, o 197 (.pick (.t 194) (cb true) (.t 196)), mt 198 197, ⟨some 199, .mv (.t 16), some (198, false)⟩, o 200 (.pick (.t 198) (cb true) (.t 199)), mt 201 200, ⟨some 202, .mv (.t 18), some (201, false)⟩, ⟨some 203, .bin .neq (.t 202) (ci 2), some (201, false)⟩, o 204 (.pick (.t 201) (cb true) (.t 203)), mt 205 204, ⟨some 206, .mv (.t 20), some (205, false)⟩, ⟨some 207, .bslice false 1 zl8 7 [(0, ci 0), (1, ci 9), (2, ci 18), (3, ci 27), (4, ci 26), (5, ci 25), (6, ci 24)], some (205, false)⟩, ⟨some 208, .call true true 0 (.fn 49) [.t 206, .t 207], some (205, false)⟩, ⟨some 209, .not (.t 208), some (205, false)⟩, o 210 (.pick (.t 205) (cb true) (.t 209))] [210])
 (.cond (.t 210)
 (.seq (.ops [o 0 (.mv (cb false))] [0])
 (.ret))
 (.skip)))
 (.seq (.ops [o 212 (.call true false 0 (.fn 95) []), o 213 (.call false true 0 (.fn 59) [.t 212]), mt 211 213, o 214 (.ext (.t 211) 0), o 215 (.ext (.t 211) 1), o 216 (.ext (.t 211) 2), o 24 (.alloc true 1 zl7), o 25 (.alloc true 1 zl7), u (.st 2 (.t 24) (.t 214)), u (.st 2 (.t 25) (.t 215)), mt 26 216] [24, 25, 26])
 (.seq (.ops [o 218 (.call true false 0 (.fn 95) []), o 219 (.call false true 0 (.fn 61) [.t 218]), mt 217 219, o 220 (.ext (.t 217) 0), o 221 (.ext (.t 217) 1), o 27 (.alloc true 1 zl7), u (.st 2 (.t 27) (.t 220)), mt 28 221] [24, 25, 26, 27, 28])
 (.seq (.ops [o 223 (.bslice false 1 zl8 2 [(0, ci 40), (1, ci 90)]), o 224 (.call true false 0 (.fn 96) [ci 100, .t 223]), o 225 (.call true true 0 (.fn 72) [.t 224]), mt 222 225, o 226 (.ext (.t 222) 0), o 227 (.ext (.t 222) 1), o 29 (.alloc true 1 zl7), u (.st 2 (.t 29) (.t 226)), mt 30 227] [24, 25, 26, 27, 28, 29, 30])
 (.seq (.ops [o 229 (.call true false 0 (.fn 95) []), o 230 (.bslice false 1 zl8 2 [(0, ci 40), (1, ci 90)]), o 231 (.call true false 0 (.fn 96) [ci 100, .t 230]), o 232 (.call false true 0 (.fn 62) [.t 229, .t 231]), mt 228 232, o 233 (.ext (.t 228) 0), o 234 (.ext (.t 228) 1), mt 31 233, mt 32 234] [24, 25, 26, 27, 28, 29, 30, 31, 32])
 (.seq (.ops [o 236 (.call true false 0 (.fn 95) []), o 237 (.bslice false 1 zl8 2 [(0, ci 40), (1, ci 50)]), o 238 (.call true false 0 (.fn 96) [ci 100, .t 237]), o 239 (.call false false 0 (.fn 64) [.t 236, .t 238]), mt 235 239, o 240 (.ext (.t 235) 0), o 241 (.ext (.t 235) 1), mt 33 240, mt 34 241] [24, 25, 26, 27, 28, 29, 30, 31, 32, 33, 34])
 (.seq (.ops [o 243 (.call true false 0 (.fn 95) []), o 244 (.bslice false 1 zl8 2 [(0, ci 40), (1, ci 50)]), o 245 (.call true false 0 (.fn 96) [ci 50, .t 244]), o 246 (.call false false 0 (.fn 64) [.t 243, .t 245]), mt 242 246, o 247 (.ext (.t 242) 0), o 248 (.ext (.t 242) 1), mt 35 247, mt 36 248] [24, 25, 26, 27, 28, 29, 30, 31, 32, 33, 34, 35, 36])
 (.seq (.ops [o 250 (.bslice false 1 zl8 2 [(0, ci 40), (1, ci 90)]), o 251 (.call true false 0 (.fn 96) [ci 100, .t 250]), o 252 (.call true true 0 (.fn 73) [.t 251]), mt 249 252, o 253 (.ext (.t 249) 0), o 254 (.ext (.t 249) 1), o 255 (.ext (.t 249) 2), mt 37 253, mt 38 254, mt 39 255] [24, 25, 26, 27, 28, 29, 30, 31, 32, 33, 34, 35, 36, 37, 38, 39])
 (.seq (.ops [o 257 (.bslice false 1 zl8 3 [(0, ci 10), (1, ci 30), (2, ci 20)]), o 258 (.bslice false 1 zl8 3 [(0, ci 0), (1, ci 2), (2, ci 5)]), o 259 (.call true true 0 (.fn 75) [.t 257, .t 258]), mt 256 259, o 260 (.ext (.t 256) 0), o 261 (.ext (.t 256) 1), mt 40 260, mt 41 261] [24, 25, 26, 27, 28, 29, 30, 31, 32, 33, 34, 35, 36, 37, 38, 39, 40, 41])
 (.seq (.ops [o 263 (.call true true 0 (.fn 90) [ci 9000, ci 11000]), o 264 (.call true true 0 (.fn 90) [ci 900, ci 1000]), o 265 (.build zl4 [(0, 1, cs [102, 117, 108, 108]), (1, 2, .t 263), (3, 2, .t 264)]), o 266 (.bslice false 5 zl4 1 [(0, .t 265)]), o 267 (.call true true 0 (.fn 90) [ci 8900, ci 9100]), o 268 (.build zl7 [(0, 1, ci 1), (1, 1, ci 1)]), o 269 (.call true false 0 (.fn 27) [.t 266, .t 267, .t 268]), mt 262 269, o 270 (.ext (.t 262) 0), o 271 (.ext (.t 262) 1), o 272 (.ext (.t 262) 2), mt 42 270, mt 43 271, mt 44 272] [24, 25, 26, 27, 28, 29, 30, 31, 32, 33, 34, 35, 36, 37, 38, 39, 40, 41, 42, 43, 44])
 (.seq (.ops [o 274 (.bslice false 1 zl8 2 [(0, ci 40), (1, ci 90)]), o 275 (.call true false 0 (.fn 96) [ci 100, .t 274]), o 276 (.call true true 0 (.fn 74) [.t 275, ci 1]), mt 273 276, o 277 (.ext (.t 273) 0), o 278 (.ext (.t 273) 1), o 279 (.ext (.t 273) 2), o 45 (.alloc true 1 zl7), o 46 (.alloc true 1 zl7), u (.st 2 (.t 45) (.t 277)), u (.st 2 (.t 46) (.t 278)), mt 47 279] [24, 25, 26, 27, 28, 29, 30, 31, 32, 33, 34, 35, 36, 37, 38, 39, 40, 41, 42, 43, 44, 45, 46, 47])
 (.seq (.ops [o 281 (.call true false 0 (.fn 94) []), o 282 (.call true true 0 (.fn 83) [.t 281]), mt 280 282, o 283 (.ext (.t 280) 0), o 284 (.ext (.t 280) 1), mt 48 283, mt 49 284] [24, 25, 26, 27, 28, 29, 30, 31, 32, 33, 34, 35, 36, 37, 38, 39, 40, 41, 42, 43, 44, 45, 46, 47, 48, 49])
 (.seq (.ops [mt 286 48, o 287 (.call true false 0 (.fn 84) [.t 286]), mt 285 287, o 288 (.ext (.t 285) 0), o 289 (.ext (.t 285) 1), o 290 (.ext (.t 285) 2), o 50 (.alloc false 1 zl2), u (.st 6 (.t 50) (.t 288)), mt 51 289, mt 52 290] [24, 25, 26, 27, 28, 29, 30, 31, 32, 33, 34, 35, 36, 37, 38, 39, 40, 41, 42, 43, 44, 45, 46, 47, 48, 49, 51, 52])
 (.seq (.opsd [(0, 1), (1, 1), (2, 1), (3, 1), (4, 1), (5, 1), (6, 1), (7, 1), (8, 1), (9, 1), (10, 1), (11, 1), (12, 1), (13, 1), (14, 1), (15, 1), (16, 1), (17, 1), (18, 1), (19, 1), (20, 1), (21, 1), (22, 1), (23, 1), (24, 1), (25, 1), (26, 1), (27, 1), (28, 1), (29, 1), (30, 1), (31, 1), (32, 1), (33, 1), (34, 1), (35, 1), (36, 1), (37, 1), (38, 1), (39, 1), (40, 1), (41, 1), (42, 1), (43, 1), (44, 1), (45, 1), (46, 1), (47, 1), (48, 1), (49, 0), (50, 0), (51, 1), (52, 1), (53, 1), (54, 1), (55, 1), (56, 1), (57, 1), (58, 1), (59, 1), (60, 1), (61, 1), (62, 1), (63, 1), (64, 1), (65, 1), (66, 1), (67, 1), (68, 1), (69, 1), (70, 1), (71, 1), (72, 1), (73, 1), (74, 1), (75, 1), (76, 0), (77, 0), (78, 1), (79, 1), (80, 1), (81, 1), (82, 1), (83, 1), (84, 1), (85, 1), (86, 1), (87, 1), (88, 1), (89, 1), (90, 1), (91, 1), (92, 1), (93, 1), (94, 1), (95, 1), (96, 1), (97, 1)] [mt 291 26, mt 292 28, o 293 (.bin .add (.t 291) (.t 292)), mt 294 30, o 295 (.bin .add (.t 293) (.t 294)), mt 296 32, o 297 (.bin .add (.t 295) (.t 296)), mt 298 34, o 299 (.bin .add (.t 297) (.t 298)), mt 300 36, o 301 (.bin .add (.t 299) (.t 300)), mt 302 39, o 303 (.bin .add (.t 301) (.t 302)), mt 304 41, o 305 (.bin .add (.t 303) (.t 304)), mt 306 44, o 307 (.bin .add (.t 305) (.t 306)), mt 308 47, o 309 (.bin .add (.t 307) (.t 308)), mt 310 49, o 311 (.bin .add (.t 309) (.t 310)), mt 312 52, o 313 (.bin .add (.t 311) (.t 312)), o 314 (.bin .eql (.t 313) (ci 0)), mt 315 314, ⟨some 316, .ld true 2 (.t 24), some (315, true)⟩, ⟨some 317, .call true true 0 (.fn 90) [ci 10000, ci 11110], some (315, true)⟩, ⟨some 318, .eqagg [0, 0] false (.t 316) (.t 317), some (315, true)⟩, o 319 (.pick (.t 315) (.t 318) (cb false)), mt 320 319, ⟨some 321, .ld true 2 (.t 25), some (320, true)⟩, ⟨some 322, .call true true 0 (.fn 90) [ci (-2020), ci (-1000)], some (320, true)⟩, ⟨some 323, .eqagg [0, 0] false (.t 321) (.t 322), some (320, true)⟩, o 324 (.pick (.t 320) (.t 323) (cb false)), mt 325 324, ⟨some 326, .ld true 2 (.t 27), some (325, true)⟩, ⟨some 327, .call true true 0 (.fn 90) [ci (-13130), ci (-11000)], some (325, true)⟩, ⟨some 328, .eqagg [0, 0] false (.t 326) (.t 327), some (325, true)⟩, o 329 (.pick (.t 325) (.t 328) (cb false)), mt 330 329, ⟨some 331, .ld true 2 (.t 29), some (330, true)⟩, ⟨some 332, .call true true 0 (.fn 90) [ci 12800, ci 13200], some (330, true)⟩, ⟨some 333, .eqagg [0, 0] false (.t 331) (.t 332), some (330, true)⟩, o 334 (.pick (.t 330) (.t 333) (cb false)), mt 335 334, ⟨some 336, .mv (.t 31), some (335, true)⟩, o 337 (.pick (.t 335) (.t 336) (cb false)), mt 338 337, ⟨some 339, .mv (.t 33), some (338, true)⟩, ⟨some 340, .bslice false 1 zl9 1 [(0, cs [119])], some (338, true)⟩, ⟨some 341, .call true true 0 (.fn 33) [.t 339, .t 340], some (338, true)⟩, o 342 (.pick (.t 338) (.t 341) (cb false)), mt 343 342, ⟨some 344, .mv (.t 35), some (343, true)⟩, ⟨some 345, .len 1 (.t 344), some (343, true)⟩, ⟨some 346, .bin .eql (.t 345) (ci 0), some (343, true)⟩, o 347 (.pick (.t 343) (.t 346) (cb false)), mt 348 347, ⟨some 349, .mv (.t 37), some (348, true)⟩, ⟨some 350, .bin .eql (.t 349) (ci 90), some (348, true)⟩, o 351 (.pick (.t 348) (.t 350) (cb false)), mt 352 351, ⟨some 353, .mv (.t 38), some (352, true)⟩, ⟨some 354, .bin .eql (.t 353) (ci 1), some (352, true)⟩, o 355 (.pick (.t 352) (.t 354) (cb false)), mt 356 355, ⟨some 357, .mv (.t 40), some (356, true)⟩, ⟨some 358, .bin .eql (.t 357) (ci 230), some (356, true)⟩, o 359 (.pick (.t 356) (.t 358) (cb false)), mt 360 359, ⟨some 361, .mv (.t 42), some (360, true)⟩, ⟨some 362, .len 1 (.t 361), some (360, true)⟩, ⟨some 363, .bin .eql (.t 362) (ci 0), some (360, true)⟩, o 364 (.pick (.t 360) (.t 363) (cb false)), mt 365 364, ⟨some 366, .mv (.t 43), some (365, true)⟩, ⟨some 367, .bslice false 1 zl9 1 [(0, cs [102, 117, 108, 108])], some (365, true)⟩, ⟨some 368, .call true true 0 (.fn 33) [.t 366, .t 367], some (365, true)⟩, o 369 (.pick (.t 365) (.t 368) (cb false)), mt 370 369, ⟨some 371, .ld true 2 (.t 45), some (370, true)⟩, ⟨some 372, .build zl7 [(1, 1, ci 1)], some (370, true)⟩, ⟨some 373, .eqagg [0, 0] false (.t 371) (.t 372), some (370, true)⟩, o 374 (.pick (.t 370) (.t 373) (cb false)), mt 375 374, ⟨some 376, .ld true 2 (.t 46), some (375, true)⟩, ⟨some 377, .ld true 2 (.t 45), some (375, true)⟩, ⟨some 378, .eqagg [0, 0] false (.t 376) (.t 377), some (375, true)⟩, o 379 (.pick (.t 375) (.t 378) (cb false)), mt 380 379, ⟨some 381, .mv (.t 51), some (380, true)⟩, ⟨some 382, .bin .eql (.t 381) (ci 0), some (380, true)⟩, o 383 (.pick (.t 380) (.t 382) (cb false)), mt 384 383, ⟨some 385, .mv (.t 48), some (384, true)⟩, ⟨some 386, .bin .eql (.t 385) (cs [119, 97, 108, 108, 32, 54, 10, 102, 114, 105, 99, 116, 105, 111, 110, 32, 49, 32, 50, 10, 98, 114, 97, 107, 101, 32, 54, 32, 56, 10, 112, 117, 108, 108, 32, 49, 48, 10, 112, 117, 108, 108, 32, 49, 48, 10, 112, 117, 108, 108, 32, 49, 48, 10, 112, 117, 108, 108, 32, 48, 10, 112, 117, 108, 108, 32, 48, 10, 112, 117, 108, 108, 32, 48, 10]), some (384, true)⟩, o 387 (.pick (.t 384) (.t 386) (cb false)), mt 0 387] [0])
 (.ret))))))))))))))))))))))))))))⟩

def c14 : AFunc := ⟨12, [.tmp 2, .tmp 3],
 .seq (.ops [o 2 (.mv (cn)), o 3 (.mv (ci 0))] [0])
 (.seq (.seq (.ops [mt 5 0, o 6 (.call true true 0 (.fn 24) [.t 5]), mt 4 6] [0, 4])
 (.seq (.ops [mt 7 4, o 8 (.bin .neq (.t 7) (ci 0))] [0, 4, 8])
 (.cond (.t 8)
 (.seq (.ops [mt 9 4, o 2 (.mv (cn)), mt 3 9] [2, 3])
 (.ret))
 (.skip))))
 (.seq (.ops [mt 10 0, o 11 (.call true false 0 (.fn 97) [.t 10]), mt 2 11, o 3 (.mv (ci 0))] [2, 3])
 (.ret)))⟩

def c16L0 : ACode :=
 .seq (.ops [o 23 (.bin .lss (.t 22) (.t 21))] [2, 6, 20, 21, 22, 23])
 (.seq (.cond (.t 23)
 (.skip)
 (.exit 0))
 (.seq (.block 1 (.seq (.ops [o 24 (.iadr 2 (.t 20) (.t 22)), o 25 (.ld true 2 (.t 24)), o 8 (.alloc true 1 zl7), u (.st 2 (.t 8) (.t 25))] [2, 6, 8, 20, 21, 22])
 (.ops [o 26 (.fadr 0 (.t 6)), o 27 (.ld false 1 (.t 26)), o 28 (.fadr 0 (.t 8)), o 29 (.ld false 1 (.t 28)), o 30 (.max [.t 27, .t 29]), o 31 (.fadr 1 (.t 6)), o 32 (.ld false 1 (.t 31)), o 33 (.fadr 1 (.t 8)), o 34 (.ld false 1 (.t 33)), o 35 (.min [.t 32, .t 34]), o 36 (.build zl7 [(0, 1, .t 30), (1, 1, .t 35)]), u (.st 2 (.t 6) (.t 36))] [2, 6, 20, 21, 22])))
 (.ops [o 37 (.bin .add (.t 22) (ci 1)), mt 22 37] [2, 6, 20, 21, 22])))
def c16 : AFunc := ⟨45, [.cell 2 true 2, .tmp 3],
 .seq (.ops [o 2 (.alloc true 1 zl7), o 3 (.mv (ci 0))] [0, 2])
 (.seq (.seq (.ops [mt 9 0, o 10 (.call true true 0 (.fn 24) [.t 9]), mt 4 10] [0, 2, 4])
 (.seq (.ops [mt 11 4, o 12 (.bin .neq (.t 11) (ci 0))] [0, 2, 4, 12])
 (.cond (.t 12)
 (.seq (.ops [o 13 (.build zl7 []), mt 14 4, u (.st 2 (.t 2) (.t 13)), mt 3 14] [2, 3])
 (.ret))
 (.skip))))
 (.seq (.ops [mt 15 0, o 16 (.call true false 0 (.fn 97) [.t 15]), mt 5 16] [2, 5])
 (.seq (.ops [mt 17 5, o 18 (.iadr 2 (.t 17) (ci 0)), o 19 (.ld true 2 (.t 18)), o 6 (.alloc true 1 zl7), u (.st 2 (.t 6) (.t 19))] [2, 5, 6])
 (.seq (.seq (.ops [mt 20 5, o 21 (.len 1 (.t 20)), o 22 (.mv (ci 0))] [2, 6, 20, 21, 22])
 (.block 0 (.loop true [2, 6, 20, 21, 22] c16L0)))
 (.seq (.seq (.ops [o 38 (.fadr 0 (.t 6)), o 39 (.ld false 1 (.t 38)), o 40 (.fadr 1 (.t 6)), o 41 (.ld false 1 (.t 40)), o 42 (.bin .gtr (.t 39) (.t 41))] [2, 6, 42])
 (.cond (.t 42)
 (.seq (.ops [o 43 (.build zl7 []), u (.st 2 (.t 2) (.t 43)), o 3 (.mv (ci 24))] [2, 3])
 (.ret))
 (.skip)))
 (.seq (.ops [o 44 (.ld true 2 (.t 6)), u (.st 2 (.t 2) (.t 44)), o 3 (.mv (ci 0))] [2, 3])
 (.ret)))))))⟩

def c17 : AFunc := ⟨43, [.cell 4 true 2, .tmp 5],
 .seq (.ops [o 2 (.box true (.t 0)), o 3 (.box true (.t 1)), o 4 (.alloc true 1 zl7), o 5 (.mv (ci 0))] [2, 3, 4])
 (.seq (.seq (.opsd [(0, 1), (1, 1), (2, 1), (3, 0), (4, 0), (5, 0), (6, 1)] [o 8 (.ld true 2 (.t 2)), o 9 (.call true true 0 (.fn 99) [.t 8]), o 10 (.ld true 2 (.t 3)), o 11 (.call true true 0 (.fn 99) [.t 10]), o 12 (.bslice false 1 zl8 2 [(0, .t 9), (1, .t 11)]), o 13 (.call true true 0 (.fn 98) [.t 12]), mt 6 13] [2, 3, 4, 6])
 (.seq (.ops [mt 14 6, o 15 (.bin .neq (.t 14) (ci 0))] [2, 3, 4, 6, 15])
 (.cond (.t 15)
 (.seq (.ops [o 16 (.build zl7 []), mt 17 6, u (.st 2 (.t 4) (.t 16)), mt 5 17] [4, 5])
 (.ret))
 (.skip))))
 (.seq (.seq (.ops [o 18 (.ld true 2 (.t 2)), o 19 (.ld true 2 (.t 3)), o 20 (.eqagg [0, 0] false (.t 18) (.t 19))] [2, 3, 4, 20])
 (.cond (.t 20)
 (.seq (.ops [o 21 (.build zl7 [(0, 1, ci 1), (1, 1, ci 1)]), u (.st 2 (.t 4) (.t 21)), o 5 (.mv (ci 0))] [4, 5])
 (.ret))
 (.skip)))
 (.seq (.ops [o 22 (.fadr 1 (.t 2)), o 23 (.ld false 1 (.t 22)), o 24 (.fadr 1 (.t 3)), o 25 (.ld false 1 (.t 24)), o 26 (.min [.t 23, .t 25]), o 27 (.fadr 0 (.t 2)), o 28 (.ld false 1 (.t 27)), o 29 (.fadr 0 (.t 3)), o 30 (.ld false 1 (.t 29)), o 31 (.max [.t 28, .t 30]), o 32 (.bin .sub (.t 26) (.t 31)), mt 7 32] [2, 4, 7])
 (.seq (.seq (.ops [mt 33 7, o 34 (.bin .leq (.t 33) (ci 0))] [2, 4, 7, 34])
 (.cond (.t 34)
 (.seq (.ops [o 35 (.build zl7 []), u (.st 2 (.t 4) (.t 35)), o 5 (.mv (ci 7))] [4, 5])
 (.ret))
 (.skip)))
 (.seq (.ops [mt 36 7, o 37 (.fadr 1 (.t 2)), o 38 (.ld false 1 (.t 37)), o 39 (.fadr 0 (.t 2)), o 40 (.ld false 1 (.t 39)), o 41 (.bin .sub (.t 38) (.t 40)), o 42 (.call true true 0 (.fn 100) [.t 36, .t 41]), u (.st 2 (.t 4) (.t 42)), o 5 (.mv (ci 0))] [4, 5])
 (.ret))))))⟩

def c24L0 : ACode :=
 .seq (.ops [o 27 (.bin .lss (.t 26) (.t 25))] [4, 24, 25, 26, 27])
 (.seq (.cond (.t 27)
 (.skip)
 (.exit 0))
 (.seq (.block 1 (.seq (.ops [o 28 (.iadr 3 (.t 24) (.t 26)), o 29 (.ld true 3 (.t 28)), o 6 (.alloc true 1 zl6), u (.st 3 (.t 6) (.t 29))] [4, 6, 24, 25, 26])
 (.seq (.ops [o 30 (.fadr 0 (.t 6)), o 31 (.ld false 1 (.t 30)), o 32 (.fadr 0 (.t 4)), o 33 (.ld false 1 (.t 32)), o 34 (.bin .leq (.t 31) (.t 33)), mt 35 34, ⟨some 36, .fadr 1 (.t 6), some (35, false)⟩, ⟨some 37, .fadr 0 (.t 36), some (35, false)⟩, ⟨some 38, .ld false 1 (.t 37), some (35, false)⟩, ⟨some 39, .fadr 1 (.t 4), some (35, false)⟩, ⟨some 40, .fadr 1 (.t 39), some (35, false)⟩, ⟨some 41, .ld false 1 (.t 40), some (35, false)⟩, ⟨some 42, .bin .leq (.t 38) (.t 41), some (35, false)⟩, o 43 (.pick (.t 35) (cb true) (.t 42)), mt 7 43] [4, 6, 7, 24, 25, 26])
 (.seq (.seq (.opsd [(0, 1), (1, 1), (2, 1), (3, 1), (4, 1), (6, 1), (5, 0), (7, 0), (8, 0), (9, 0), (10, 1)] [o 44 (.fadr 0 (.t 6)), o 45 (.ld false 1 (.t 44)), o 46 (.call true true 0 (.fn 108) [.t 45, ci 0, ci 1000000]), o 47 (.fadr 1 (.t 6)), o 48 (.ld true 2 (.t 47)), mt 50 7, o 49 (.call true true 0 (.fn 109) [.t 48, ci 0, ci 100000000]), o 51 (.call true true 0 (.fn 107) [.t 50, ci 11]), o 52 (.bslice false 1 zl8 3 [(0, .t 46), (1, .t 49), (2, .t 51)]), o 53 (.call true true 0 (.fn 98) [.t 52]), mt 8 53] [4, 6, 8, 24, 25, 26])
 (.seq (.ops [mt 54 8, o 55 (.bin .neq (.t 54) (ci 0))] [4, 6, 8, 24, 25, 26, 55])
 (.cond (.t 55)
 (.seq (.ops [mt 56 8, mt 2 56] [2])
 (.ret))
 (.skip))))
 (.ops [o 57 (.ld true 3 (.t 6)), u (.st 3 (.t 4) (.t 57))] [4, 24, 25, 26])))))
 (.ops [o 58 (.bin .add (.t 26) (ci 1)), mt 26 58] [4, 24, 25, 26])))
def c24 : AFunc := ⟨59, [.tmp 2],
 .seq (.ops [o 2 (.mv (ci 0))] [0])
 (.seq (.seq (.ops [mt 9 0, o 10 (.len 1 (.t 9)), o 11 (.bin .lss (.t 10) (ci 2)), o 12 (.call true true 0 (.fn 107) [.t 11, ci 16]), mt 13 0, o 14 (.len 1 (.t 13)), o 15 (.bin .gtr (.t 14) (ci 8)), o 16 (.call true true 0 (.fn 107) [.t 15, ci 5]), o 17 (.bslice false 1 zl8 2 [(0, .t 12), (1, .t 16)]), o 18 (.call true true 0 (.fn 98) [.t 17]), mt 3 18] [0, 3])
 (.seq (.ops [mt 19 3, o 20 (.bin .neq (.t 19) (ci 0))] [0, 3, 20])
 (.cond (.t 20)
 (.seq (.ops [mt 21 3, mt 2 21] [2])
 (.ret))
 (.skip))))
 (.seq (.ops [o 22 (.build zl7 [(0, 1, ci (-1)), (1, 1, ci (-1))]), o 23 (.build zl6 [(0, 1, ci (-1)), (1, 2, .t 22)]), o 4 (.alloc true 1 zl6), u (.st 3 (.t 4) (.t 23))] [0, 4])
 (.seq (.seq (.ops [mt 24 0, o 25 (.len 1 (.t 24)), o 26 (.mv (ci 0))] [4, 24, 25, 26])
 (.block 0 (.loop true [4, 24, 25, 26] c24L0)))
 (.seq (.ops [o 2 (.mv (ci 0))] [2])
 (.ret)))))⟩

def c27L0 : ACode :=
 .seq (.ops [o 25 (.bin .lss (.t 24) (.t 23))] [0, 4, 5, 9, 22, 23, 24, 25])
 (.seq (.cond (.t 25)
 (.skip)
 (.exit 0))
 (.seq (.block 1 (.seq (.ops [o 26 (.iadr 5 (.t 22) (.t 24)), o 27 (.ld true 5 (.t 26)), o 11 (.alloc true 1 zl4), u (.st 5 (.t 11) (.t 27))] [0, 4, 5, 9, 11, 22, 23, 24])
 (.seq (.opsd [(0, 1), (1, 1), (3, 6151), (4, 6151), (6, 6151), (7, 6151), (2, 6152), (5, 1), (8, 0), (9, 0), (10, 0), (11, 1)] [o 28 (.fadr 0 (.t 11)), o 29 (.ld false 1 (.t 28)), o 31 (.fadr 1 (.t 11)), o 32 (.ld true 2 (.t 31)), o 34 (.fadr 3 (.t 11)), o 35 (.ld true 2 (.t 34)), o 30 (.call false true 0 (.fn 110) [.t 9, .t 29]), o 33 (.call true true 0 (.fn 109) [.t 32, ci 0, ci 100000]), o 36 (.call true true 0 (.fn 109) [.t 35, ci 0, ci 1000]), o 37 (.bslice false 1 zl8 3 [(0, .t 30), (1, .t 33), (2, .t 36)]), o 38 (.call true true 0 (.fn 98) [.t 37]), mt 12 38] [0, 4, 5, 9, 12, 22, 23, 24])
 (.seq (.ops [mt 39 12, o 40 (.bin .neq (.t 39) (ci 0))] [0, 4, 5, 9, 12, 22, 23, 24, 40])
 (.cond (.t 40)
 (.seq (.ops [mt 41 12, o 6 (.mv (cn)), o 7 (.mv (cn)), mt 8 41] [6, 7, 8])
 (.ret))
 (.skip))))))
 (.ops [o 42 (.bin .add (.t 24) (ci 1)), mt 24 42] [0, 4, 5, 9, 22, 23, 24])))
def c27L1 : ACode :=
 .seq (.ops [o 66 (.bin .lss (.t 65) (.t 64))] [4, 5, 14, 15, 63, 64, 65, 66])
 (.seq (.cond (.t 66)
 (.skip)
 (.exit 2))
 (.seq (.block 3 (.seq (.ops [o 67 (.iadr 5 (.t 63) (.t 65)), o 68 (.ld true 5 (.t 67)), o 17 (.alloc true 1 zl4), u (.st 5 (.t 17) (.t 68))] [4, 5, 14, 15, 17, 63, 64, 65])
 (.seq (.ops [o 69 (.fadr 0 (.t 5)), o 70 (.ld false 1 (.t 69)), o 71 (.bin .mul (ci 1000) (.t 70)), mt 18 71] [4, 5, 14, 15, 17, 18, 63, 64, 65])
 (.seq (.seq (.ops [mt 72 18, o 73 (.fadr 3 (.t 17)), o 74 (.fadr 0 (.t 73)), o 75 (.ld false 1 (.t 74)), o 76 (.fadr 1 (.t 5)), o 77 (.ld false 1 (.t 76)), o 78 (.bin .mul (.t 75) (.t 77)), o 79 (.bin .lss (.t 72) (.t 78)), mt 80 79, ⟨some 81, .mv (.t 18), some (80, false)⟩, ⟨some 82, .fadr 3 (.t 17), some (80, false)⟩, ⟨some 83, .fadr 1 (.t 82), some (80, false)⟩, ⟨some 84, .ld false 1 (.t 83), some (80, false)⟩, ⟨some 85, .fadr 1 (.t 5), some (80, false)⟩, ⟨some 86, .ld false 1 (.t 85), some (80, false)⟩, ⟨some 87, .bin .mul (.t 84) (.t 86), some (80, false)⟩, ⟨some 88, .bin .gtr (.t 81) (.t 87), some (80, false)⟩, o 89 (.pick (.t 80) (cb true) (.t 88)), mt 90 89, ⟨some 91, .fadr 1 (.t 17), some (90, false)⟩, ⟨some 92, .ld true 2 (.t 91), some (90, false)⟩, ⟨some 93, .ld true 2 (.t 4), some (90, false)⟩, ⟨some 94, .call true true 0 (.fn 112) [.t 92, .t 93], some (90, false)⟩, ⟨some 95, .not (.t 94), some (90, false)⟩, o 96 (.pick (.t 90) (cb true) (.t 95))] [4, 5, 14, 15, 17, 63, 64, 65, 96])
 (.cond (.t 96)
 (.exit 3)
 (.skip)))
 (.seq (.ops [mt 97 15, o 98 (.fadr 0 (.t 17)), o 99 (.ld false 1 (.t 98)), o 100 (.bslice false 1 zl9 1 [(0, .t 99)]), o 101 (.app 1 16 zl9 (.t 97) (.t 100)), mt 15 101] [4, 5, 14, 15, 17, 63, 64, 65])
 (.seq (.ops [o 102 (.fadr 0 (.t 4)), o 103 (.ld false 1 (.t 102)), o 104 (.fadr 1 (.t 17)), o 105 (.fadr 0 (.t 104)), o 106 (.ld false 1 (.t 105)), o 107 (.bin .geq (.t 103) (.t 106)), mt 108 107, ⟨some 109, .fadr 1 (.t 4), some (108, true)⟩, ⟨some 110, .ld false 1 (.t 109), some (108, true)⟩, ⟨some 111, .fadr 1 (.t 17), some (108, true)⟩, ⟨some 112, .fadr 1 (.t 111), some (108, true)⟩, ⟨some 113, .ld false 1 (.t 112), some (108, true)⟩, ⟨some 114, .bin .leq (.t 110) (.t 113), some (108, true)⟩, o 115 (.pick (.t 108) (.t 114) (cb false))] [4, 5, 14, 15, 17, 63, 64, 65, 115])
 (.cond (.t 115)
 (.ops [mt 116 14, o 117 (.fadr 0 (.t 17)), o 118 (.ld false 1 (.t 117)), o 119 (.bslice false 1 zl9 1 [(0, .t 118)]), o 120 (.app 1 16 zl9 (.t 116) (.t 119)), mt 14 120] [4, 5, 14, 15, 63, 64, 65])
 (.skip))))))))
 (.ops [o 121 (.bin .add (.t 65) (ci 1)), mt 65 121] [4, 5, 14, 15, 63, 64, 65])))
def c27 : AFunc := ⟨124, [.tmp 6, .tmp 7, .tmp 8],
 .seq (.ops [o 4 (.box true (.t 1)), o 5 (.box true (.t 2)), o 6 (.mv (cn)), o 7 (.mv (cn)), o 8 (.mv (ci 0))] [0, 4, 5])
 (.seq (.seq (.ops [mt 19 0, o 20 (.len 1 (.t 19)), o 21 (.bin .gtr (.t 20) (ci 16))] [0, 4, 5, 21])
 (.cond (.t 21)
 (.seq (.ops [o 6 (.mv (cn)), o 7 (.mv (cn)), o 8 (.mv (ci 5))] [6, 7, 8])
 (.ret))
 (.skip)))
 (.seq (.ops [o 9 (.alloc false 1 [.p (.nilm)])] [0, 4, 5, 9])
 (.seq (.seq (.ops [mt 22 0, o 23 (.len 1 (.t 22)), o 24 (.mv (ci 0))] [0, 4, 5, 9, 22, 23, 24])
 (.block 0 (.loop true [0, 4, 5, 9, 22, 23, 24] c27L0)))
 (.seq (.seq (.opsd [(0, 1), (1, 1), (2, 1), (3, 1), (4, 1), (5, 1), (6, 1), (7, 1), (8, 1), (9, 1), (10, 1), (11, 1), (12, 1), (13, 1), (14, 0), (15, 0), (16, 0), (17, 1)] [o 43 (.ld true 2 (.t 4)), o 44 (.call true true 0 (.fn 109) [.t 43, ci 0, ci 100000]), o 45 (.ld true 2 (.t 5)), o 46 (.call true true 0 (.fn 111) [.t 45]), o 47 (.fadr 0 (.t 5)), o 48 (.ld false 1 (.t 47)), o 49 (.bin .lss (.t 48) (ci 0)), mt 50 49, ⟨some 51, .fadr 0 (.t 5), some (50, false)⟩, ⟨some 52, .ld false 1 (.t 51), some (50, false)⟩, ⟨some 53, .fadr 1 (.t 5), some (50, false)⟩, ⟨some 54, .ld false 1 (.t 53), some (50, false)⟩, ⟨some 55, .bin .gtr (.t 52) (.t 54), some (50, false)⟩, o 56 (.pick (.t 50) (cb true) (.t 55)), o 57 (.call true true 0 (.fn 107) [.t 56, ci 3]), o 58 (.bslice false 1 zl8 3 [(0, .t 44), (1, .t 46), (2, .t 57)]), o 59 (.call true true 0 (.fn 98) [.t 58]), mt 13 59] [0, 4, 5, 13])
 (.seq (.ops [mt 60 13, o 61 (.bin .neq (.t 60) (ci 0))] [0, 4, 5, 13, 61])
 (.cond (.t 61)
 (.seq (.ops [mt 62 13, o 6 (.mv (cn)), o 7 (.mv (cn)), mt 8 62] [6, 7, 8])
 (.ret))
 (.skip))))
 (.seq (.ops [o 14 (.nilown 1), o 15 (.nilown 1)] [0, 4, 5, 14, 15])
 (.seq (.seq (.ops [mt 63 0, o 64 (.len 1 (.t 63)), o 65 (.mv (ci 0))] [4, 5, 14, 15, 63, 64, 65])
 (.block 2 (.loop true [4, 5, 14, 15, 63, 64, 65] c27L1)))
 (.seq (.ops [mt 122 14, mt 123 15, mt 6 122, mt 7 123, o 8 (.mv (ci 0))] [6, 7, 8])
 (.ret))))))))⟩

def c33L0 : ACode :=
 .seq (.seq (.ops [mt 11 5, mt 12 0, o 13 (.len 1 (.t 12)), o 14 (.bin .lss (.t 11) (.t 13))] [0, 1, 5, 14])
 (.cond (.t 14)
 (.skip)
 (.exit 0)))
 (.seq (.block 1 (.seq (.opsd [(0, 1), (1, 1), (2, 1), (3, 1), (4, 1), (5, 1), (6, 1), (7, 1), (8, 1)] [mt 17 0, mt 18 5, o 19 (.iadr 1 (.t 17) (.t 18)), o 20 (.ld false 1 (.t 19)), mt 21 1, mt 22 5, o 23 (.iadr 1 (.t 21) (.t 22)), o 24 (.ld false 1 (.t 23)), o 25 (.bin .neq (.t 20) (.t 24))] [0, 1, 5, 25])
 (.cond (.t 25)
 (.seq (.ops [o 4 (.mv (cb false))] [4])
 (.ret))
 (.skip))))
 (.ops [mt 15 5, o 16 (.bin .add (.t 15) (ci 1)), mt 5 16] [0, 1, 5]))
def c33 : AFunc := ⟨26, [.tmp 4],
 .seq (.ops [o 4 (.mv (cb false))] [0, 1])
 (.seq (.seq (.ops [mt 6 0, o 7 (.len 1 (.t 6)), mt 8 1, o 9 (.len 1 (.t 8)), o 10 (.bin .neq (.t 7) (.t 9))] [0, 1, 10])
 (.cond (.t 10)
 (.seq (.ops [o 4 (.mv (cb false))] [4])
 (.ret))
 (.skip)))
 (.seq (.seq (.ops [o 5 (.mv (ci 0))] [0, 1, 5])
 (.block 0 (.loop false [0, 1, 5] c33L0)))
 (.seq (.ops [o 4 (.mv (cb true))] [4])
 (.ret))))⟩

def c34 : AFunc := ⟨23, [.tmp 4, .tmp 5],
 .seq (.ops [o 2 (.box false (.t 0)), o 4 (.mv (cn)), o 5 (.mv (ci 0))] [1, 2])
 (.seq (.seq (.ops [o 8 (.ld true 6 (.t 2)), o 9 (.call true true 0 (.fn 48) [.t 8]), mt 6 9] [1, 2, 6])
 (.seq (.ops [mt 10 6, o 11 (.bin .neq (.t 10) (ci 0))] [1, 2, 6, 11])
 (.cond (.t 11)
 (.seq (.ops [mt 12 6, o 4 (.mv (cn)), mt 5 12] [4, 5])
 (.ret))
 (.skip))))
 (.seq (.seq (.ops [mt 13 1, o 14 (.fadr 1 (.t 2)), o 15 (.ld true 2 (.t 14)), o 16 (.call true true 0 (.fn 115) [.t 13, .t 15]), mt 7 16] [1, 2, 7])
 (.seq (.ops [mt 17 7, o 18 (.bin .neq (.t 17) (ci 0))] [1, 2, 7, 18])
 (.cond (.t 18)
 (.seq (.ops [mt 19 7, o 4 (.mv (cn)), mt 5 19] [4, 5])
 (.ret))
 (.skip))))
 (.seq (.ops [o 20 (.ld true 6 (.t 2)), mt 21 1, o 22 (.call true false 0 (.fn 116) [.t 20, .t 21]), mt 4 22, o 5 (.mv (ci 0))] [4, 5])
 (.ret))))⟩

def c35 : AFunc := ⟨13, [.cell 2 true 6],
 .seq (.ops [o 1 (.box false (.t 0)), o 2 (.alloc false 1 zl2)] [1, 2])
 (.seq (.opsd [(0, 1), (1, 1), (3, 1), (4, 1), (5, 1), (6, 1), (7, 1), (8, 1), (2, 2), (9, 1), (10, 0)] [o 3 (.fadr 0 (.t 1)), o 4 (.ld false 1 (.t 3)), o 6 (.fadr 1 (.t 1)), o 7 (.ld true 2 (.t 6)), o 8 (.fadr 3 (.t 1)), o 9 (.ld true 2 (.t 8)), o 10 (.fadr 5 (.t 1)), o 11 (.ld false 1 (.t 10)), o 5 (.callr 0 1 52 [.t 4]), o 12 (.build zl2 [(0, 1, .t 5), (1, 2, .t 7), (3, 2, .t 9), (5, 1, .t 11)]), u (.st 6 (.t 2) (.t 12))] [2])
 (.ret))⟩

def c36L0 : ACode :=
 .seq (.ops [o 27 (.bin .lss (.t 26) (.t 25))] [5, 6, 7, 25, 26, 27])
 (.seq (.cond (.t 27)
 (.skip)
 (.exit 0))
 (.seq (.block 1 (.seq (.ops [mt 28 26, mt 8 28] [5, 6, 7, 8, 25, 26])
 (.opsd [(0, 1), (1, 1), (2, 1), (3, 1), (4, 1), (5, 1), (6, 1), (7, 1), (8, 1), (9, 1), (10, 0), (11, 0), (12, 1)] [mt 29 7, mt 30 5, mt 31 8, o 32 (.iadr 1 (.t 30) (.t 31)), o 33 (.ld false 1 (.t 32)), mt 34 6, mt 35 8, o 36 (.iadr 1 (.t 34) (.t 35)), o 37 (.ld false 1 (.t 36)), o 38 (.build zl7 [(0, 1, .t 33), (1, 1, .t 37)]), o 39 (.bslice false 2 zl7 1 [(0, .t 38)]), o 40 (.app 2 16 zl7 (.t 29) (.t 39)), mt 7 40] [5, 6, 7, 25, 26])))
 (.ops [o 41 (.bin .add (.t 26) (ci 1)), mt 26 41] [5, 6, 7, 25, 26])))
def c36 : AFunc := ⟨43, [.tmp 2, .tmp 3],
 .seq (.ops [o 1 (.box false (.t 0)), o 2 (.mv (cn)), o 3 (.mv (ci 0))] [1])
 (.seq (.seq (.ops [o 9 (.ld true 6 (.t 1)), o 10 (.call true true 0 (.fn 48) [.t 9]), mt 4 10] [1, 4])
 (.seq (.ops [mt 11 4, o 12 (.bin .neq (.t 11) (ci 0))] [1, 4, 12])
 (.cond (.t 12)
 (.seq (.ops [mt 13 4, o 2 (.mv (cn)), mt 3 13] [2, 3])
 (.ret))
 (.skip))))
 (.seq (.opsd [(0, 1), (1, 1), (2, 1), (3, 1), (4, 1), (5, 1), (6, 1), (7, 1), (8, 1), (9, 0), (10, 1), (11, 1)] [o 14 (.ld true 6 (.t 1)), o 15 (.fadr 1 (.t 1)), o 16 (.fadr 1 (.t 15)), o 17 (.ld false 1 (.t 16)), o 18 (.call true false 0 (.fn 116) [.t 14, .t 17]), o 19 (.ld true 6 (.t 1)), o 20 (.fadr 1 (.t 1)), o 21 (.fadr 0 (.t 20)), o 22 (.ld false 1 (.t 21)), o 23 (.call true false 0 (.fn 116) [.t 19, .t 22]), mt 5 18, mt 6 23] [5, 6])
 (.seq (.ops [o 7 (.nilown 2)] [5, 6, 7])
 (.seq (.seq (.ops [mt 24 5, o 25 (.len 1 (.t 24)), o 26 (.mv (ci 0))] [5, 6, 7, 25, 26])
 (.block 0 (.loop false [5, 6, 7, 25, 26] c36L0)))
 (.seq (.ops [mt 42 7, mt 2 42, o 3 (.mv (ci 0))] [2, 3])
 (.ret))))))⟩

def c37 : AFunc := ⟨53, [.tmp 8, .tmp 9],
 .seq (.ops [o 4 (.box false (.t 0)), o 8 (.mv (ci 0)), o 9 (.mv (ci 0))] [1, 2, 3, 4])
 (.seq (.seq (.ops [o 14 (.ld true 6 (.t 4)), o 15 (.call true true 0 (.fn 48) [.t 14]), mt 10 15] [1, 2, 3, 4, 10])
 (.seq (.ops [mt 16 10, o 17 (.bin .neq (.t 16) (ci 0))] [1, 2, 3, 4, 10, 17])
 (.cond (.t 17)
 (.seq (.ops [mt 18 10, o 8 (.mv (ci 0)), mt 9 18] [8, 9])
 (.ret))
 (.skip))))
 (.seq (.seq (.opsd [(0, 1), (1, 1), (2, 1), (3, 1), (4, 1), (5, 1), (6, 1), (7, 1), (8, 1), (9, 1), (10, 0), (11, 0), (12, 0), (13, 1)] [o 19 (.ld true 6 (.t 4)), mt 20 1, o 21 (.call true true 0 (.fn 117) [.t 19, .t 20]), mt 22 2, o 23 (.fadr 1 (.t 4)), o 24 (.ld true 2 (.t 23)), o 25 (.call true true 0 (.fn 115) [.t 22, .t 24]), mt 26 3, o 27 (.fadr 3 (.t 4)), o 28 (.ld true 2 (.t 27)), o 29 (.call true true 0 (.fn 115) [.t 26, .t 28]), o 30 (.bslice false 1 zl8 3 [(0, .t 21), (1, .t 25), (2, .t 29)]), o 31 (.call true true 0 (.fn 98) [.t 30]), mt 11 31] [1, 2, 3, 4, 11])
 (.seq (.ops [mt 32 11, o 33 (.bin .neq (.t 32) (ci 0))] [1, 2, 3, 4, 11, 33])
 (.cond (.t 33)
 (.seq (.ops [mt 34 11, o 8 (.mv (ci 0)), mt 9 34] [8, 9])
 (.ret))
 (.skip))))
 (.seq (.ops [mt 36 1, o 37 (.ld true 6 (.t 4)), mt 38 2, o 39 (.call true false 0 (.fn 116) [.t 37, .t 38]), mt 40 1, o 41 (.iadr 1 (.t 39) (.t 40)), o 42 (.ld false 1 (.t 41)), mt 43 2, mt 44 3, o 45 (.bin .add (.t 43) (.t 44)), o 46 (.call true true 0 (.fn 118) [.t 36, .t 42, .t 45]), mt 35 46, o 47 (.ext (.t 35) 0), o 48 (.ext (.t 35) 1), mt 12 47, mt 13 48] [12, 13])
 (.seq (.ops [mt 49 12, mt 50 13, o 51 (.not (.t 50)), o 52 (.call true true 0 (.fn 107) [.t 51, ci 7]), mt 8 49, mt 9 52] [8, 9])
 (.ret)))))⟩

def c38 : AFunc := ⟨22, [.tmp 4, .tmp 5],
 .seq (.ops [o 2 (.box false (.t 0)), o 4 (.mv (cb false)), o 5 (.mv (ci 0))] [1, 2])
 (.seq (.seq (.ops [o 8 (.ld true 6 (.t 2)), o 9 (.call true true 0 (.fn 48) [.t 8]), mt 6 9] [1, 2, 6])
 (.seq (.ops [mt 10 6, o 11 (.bin .neq (.t 10) (ci 0))] [1, 2, 6, 11])
 (.cond (.t 11)
 (.seq (.ops [mt 12 6, o 4 (.mv (cb false)), mt 5 12] [4, 5])
 (.ret))
 (.skip))))
 (.seq (.seq (.ops [o 13 (.ld true 6 (.t 2)), mt 14 1, o 15 (.call true true 0 (.fn 117) [.t 13, .t 14]), mt 7 15] [1, 2, 7])
 (.seq (.ops [mt 16 7, o 17 (.bin .neq (.t 16) (ci 0))] [1, 2, 7, 17])
 (.cond (.t 17)
 (.seq (.ops [mt 18 7, o 4 (.mv (cb false)), mt 5 18] [4, 5])
 (.ret))
 (.skip))))
 (.seq (.ops [o 19 (.ld true 6 (.t 2)), mt 20 1, o 21 (.call true true 0 (.fn 119) [.t 19, .t 20]), mt 4 21, o 5 (.mv (ci 0))] [4, 5])
 (.ret))))⟩

def c39A0 : ACode :=
 .ops [mt 6 16] [5, 6]
def c39B0 : ACode :=
 .block 1 (.seq (.ops [mt 17 6, o 18 (.bin .sub (.t 17) (ci 1)), u (.st 1 (.t 5) (.t 18))] [])
 (.exit 0))
def c39 : AFunc := ⟨20, [.tmp 2, .tmp 3],
 .seq (.ops [o 1 (.box false (.t 0)), o 2 (.mv (ci 0)), o 3 (.mv (ci 0))] [1, 2, 3])
 (.scope (.seq (.seq (.ops [o 7 (.ld true 6 (.t 1)), o 8 (.call true true 0 (.fn 48) [.t 7]), mt 4 8] [1, 2, 3, 4])
 (.seq (.ops [mt 9 4, o 10 (.bin .neq (.t 9) (ci 0))] [1, 2, 3, 4, 10])
 (.cond (.t 10)
 (.seq (.ops [mt 11 4, o 2 (.mv (ci 0)), mt 3 11] [2, 3])
 (.ret))
 (.skip))))
 (.seq (.ops [o 12 (.fadr 5 (.t 1)), o 13 (.ld false 1 (.t 12)), o 5 (.alloc true 1 zl8), u (.st 1 (.t 5) (.t 13))] [1, 2, 3, 5])
 (.seq (.skip)
 (.seq (.seq (.ops [o 14 (.ld true 6 (.t 1)), o 15 (.call true false 0 (.fn 120) [.t 14])] [2, 3, 5, 15])
 (.block 0 (.rfun (.t 15) [16] c39A0 c39B0)))
 (.seq (.ops [o 19 (.ld false 1 (.t 5)), mt 2 19, o 3 (.mv (ci 0))] [2, 3])
 (.ret)))))))⟩

def c40 : AFunc := ⟨30, [.tmp 2],
 .seq (.ops [o 1 (.box false (.t 0)), o 2 (.mv (ci 0))] [1])
 (.seq (.opsd [(0, 1), (1, 1), (2, 1), (3, 1), (4, 1), (5, 1), (6, 1), (7, 1), (8, 1), (9, 1), (10, 1), (11, 1), (12, 1), (13, 1), (14, 1), (15, 1), (16, 1), (17, 1), (18, 1), (19, 1), (20, 1), (21, 1), (22, 1), (23, 1), (24, 0), (25, 0), (26, 0), (27, 1)] [o 3 (.fadr 0 (.t 1)), o 4 (.ld false 1 (.t 3)), o 5 (.len 1 (.t 4)), o 6 (.bin .eql (.t 5) (ci 0)), o 7 (.call true true 0 (.fn 55) [.t 6, ci 12]), o 8 (.fadr 0 (.t 1)), o 9 (.ld false 1 (.t 8)), o 10 (.len 1 (.t 9)), o 11 (.bin .gtr (.t 10) (ci 64)), o 12 (.call true true 0 (.fn 55) [.t 11, ci 5]), o 13 (.fadr 0 (.t 1)), o 14 (.ld false 1 (.t 13)), o 15 (.call true true 0 (.fn 121) [.t 14, ci 0, ci 100000]), o 16 (.fadr 1 (.t 1)), o 17 (.ld true 2 (.t 16)), o 18 (.call true true 0 (.fn 103) [.t 17, ci 0, ci 100000]), o 19 (.fadr 3 (.t 1)), o 20 (.ld true 2 (.t 19)), o 21 (.call true true 0 (.fn 103) [.t 20, ci 0, ci 100000]), o 22 (.fadr 5 (.t 1)), o 23 (.ld false 1 (.t 22)), o 24 (.fadr 0 (.t 1)), o 25 (.ld false 1 (.t 24)), o 26 (.len 1 (.t 25)), o 27 (.call true true 0 (.fn 102) [.t 23, ci 1, .t 26]), o 28 (.bslice false 1 zl8 6 [(0, .t 7), (1, .t 12), (2, .t 15), (3, .t 18), (4, .t 21), (5, .t 27)]), o 29 (.call true true 0 (.fn 101) [.t 28]), mt 2 29] [2])
 (.ret))⟩

def c48 : AFunc := ⟨36, [.tmp 2],
 .seq (.ops [o 1 (.box false (.t 0)), o 2 (.mv (ci 0))] [1])
 (.seq (.seq (.opsd [(0, 1), (1, 1), (2, 1), (3, 1), (4, 1), (5, 1), (6, 1), (7, 1), (8, 1), (9, 0), (10, 0), (11, 0), (12, 1)] [o 4 (.fadr 0 (.t 1)), o 5 (.ld false 1 (.t 4)), o 6 (.len 1 (.t 5)), o 7 (.bin .eql (.t 6) (ci 0)), o 8 (.call true true 0 (.fn 107) [.t 7, ci 12]), o 9 (.fadr 0 (.t 1)), o 10 (.ld false 1 (.t 9)), o 11 (.len 1 (.t 10)), o 12 (.bin .gtr (.t 11) (ci 64)), o 13 (.call true true 0 (.fn 107) [.t 12, ci 5]), o 14 (.bslice false 1 zl8 2 [(0, .t 8), (1, .t 13)]), o 15 (.call true true 0 (.fn 98) [.t 14]), mt 3 15] [1, 3])
 (.seq (.ops [mt 16 3, o 17 (.bin .neq (.t 16) (ci 0))] [1, 3, 17])
 (.cond (.t 17)
 (.seq (.ops [mt 18 3, mt 2 18] [2])
 (.ret))
 (.skip))))
 (.seq (.opsd [(0, 1), (1, 1), (2, 1), (3, 1), (4, 1), (5, 1), (6, 1), (7, 1), (8, 1), (9, 1), (10, 1), (11, 1), (12, 1), (13, 1), (14, 0), (15, 0), (16, 0), (17, 1)] [o 19 (.fadr 0 (.t 1)), o 20 (.ld false 1 (.t 19)), o 21 (.call true true 0 (.fn 122) [.t 20, ci 0, ci 100000]), o 22 (.fadr 1 (.t 1)), o 23 (.ld true 2 (.t 22)), o 24 (.call true true 0 (.fn 109) [.t 23, ci 0, ci 100000]), o 25 (.fadr 3 (.t 1)), o 26 (.ld true 2 (.t 25)), o 27 (.call true true 0 (.fn 109) [.t 26, ci 0, ci 100000]), o 28 (.fadr 5 (.t 1)), o 29 (.ld false 1 (.t 28)), o 30 (.fadr 0 (.t 1)), o 31 (.ld false 1 (.t 30)), o 32 (.len 1 (.t 31)), o 33 (.call true true 0 (.fn 108) [.t 29, ci 1, .t 32]), o 34 (.bslice false 1 zl8 4 [(0, .t 21), (1, .t 24), (2, .t 27), (3, .t 33)]), o 35 (.call true true 0 (.fn 98) [.t 34]), mt 2 35] [2])
 (.ret)))⟩

def c49L0 : ACode :=
 .seq (.seq (.ops [mt 11 5, mt 12 0, o 13 (.len 1 (.t 12)), o 14 (.bin .lss (.t 11) (.t 13))] [0, 1, 5, 14])
 (.cond (.t 14)
 (.skip)
 (.exit 0)))
 (.seq (.block 1 (.seq (.opsd [(0, 1), (1, 1), (2, 1), (3, 1), (4, 1), (5, 1), (6, 1), (7, 1), (8, 1)] [mt 17 0, mt 18 5, o 19 (.iadr 1 (.t 17) (.t 18)), o 20 (.ld false 1 (.t 19)), mt 21 1, mt 22 5, o 23 (.iadr 1 (.t 21) (.t 22)), o 24 (.ld false 1 (.t 23)), o 25 (.bin .neq (.t 20) (.t 24))] [0, 1, 5, 25])
 (.cond (.t 25)
 (.seq (.ops [o 4 (.mv (cb false))] [4])
 (.ret))
 (.skip))))
 (.ops [mt 15 5, o 16 (.bin .add (.t 15) (ci 1)), mt 5 16] [0, 1, 5]))
def c49 : AFunc := ⟨26, [.tmp 4],
 .seq (.ops [o 4 (.mv (cb false))] [0, 1])
 (.seq (.seq (.ops [mt 6 0, o 7 (.len 1 (.t 6)), mt 8 1, o 9 (.len 1 (.t 8)), o 10 (.bin .neq (.t 7) (.t 9))] [0, 1, 10])
 (.cond (.t 10)
 (.seq (.ops [o 4 (.mv (cb false))] [4])
 (.ret))
 (.skip)))
 (.seq (.seq (.ops [o 5 (.mv (ci 0))] [0, 1, 5])
 (.block 0 (.loop false [0, 1, 5] c49L0)))
 (.seq (.ops [o 4 (.mv (cb true))] [4])
 (.ret))))⟩

def c50 : AFunc := ⟨19, [.tmp 2, .tmp 3],
 .seq (.ops [o 1 (.box false (.t 0)), o 2 (.mv (cn)), o 3 (.mv (ci 0))] [1])
 (.seq (.seq (.ops [o 5 (.ld true 6 (.t 1)), o 6 (.call true true 0 (.fn 48) [.t 5]), mt 4 6] [1, 4])
 (.seq (.ops [mt 7 4, o 8 (.bin .neq (.t 7) (ci 0))] [1, 4, 8])
 (.cond (.t 8)
 (.seq (.ops [mt 9 4, o 2 (.mv (cn)), mt 3 9] [2, 3])
 (.ret))
 (.skip))))
 (.seq (.opsd [(0, 1), (1, 1), (2, 1), (3, 1), (4, 1), (5, 1), (6, 1), (7, 1), (8, 1), (9, 1), (10, 1)] [o 10 (.ld true 6 (.t 1)), o 11 (.fadr 1 (.t 1)), o 12 (.fadr 0 (.t 11)), o 13 (.ld false 1 (.t 12)), o 14 (.call true false 0 (.fn 116) [.t 10, .t 13]), o 15 (.fadr 5 (.t 1)), o 16 (.ld false 1 (.t 15)), o 17 (.bin .add (.t 16) (ci 1)), o 18 (.slc 1 (.t 14) none (some (.t 17))), mt 2 18, o 3 (.mv (ci 0))] [2, 3])
 (.ret)))⟩

def c51L0 : ACode :=
 .seq (.ops [o 36 (.bin .lss (.t 35) (.t 34))] [1, 2, 3, 33, 34, 35, 36])
 (.seq (.cond (.t 36)
 (.skip)
 (.exit 0))
 (.seq (.block 1 (.seq (.ops [mt 37 35, o 38 (.iadr 1 (.t 33) (.t 35)), o 39 (.ld false 1 (.t 38)), mt 9 37, mt 10 39] [1, 2, 3, 9, 10, 33, 34, 35])
 (.seq (.opsd [(0, 1), (1, 1), (2, 1), (3, 1), (4, 1), (5, 1), (6, 1), (7, 1), (8, 1), (9, 1), (10, 1), (11, 1), (12, 1), (13, 1), (14, 1), (15, 1), (16, 1), (17, 1), (18, 1), (19, 1), (20, 1), (21, 1), (22, 1), (23, 1), (24, 1), (25, 1), (26, 1), (27, 1), (28, 1), (29, 1), (30, 1), (31, 1), (32, 1), (33, 1), (34, 1), (35, 1), (36, 1), (37, 1), (38, 1), (39, 1), (40, 1), (41, 1), (42, 1)] [mt 40 9, o 41 (.bin .gtr (.t 40) (ci 0)), mt 42 41, ⟨some 43, .mv (.t 10), some (42, true)⟩, ⟨some 44, .mv (.t 1), some (42, true)⟩, ⟨some 45, .mv (.t 9), some (42, true)⟩, ⟨some 46, .bin .sub (.t 45) (ci 1), some (42, true)⟩, ⟨some 47, .iadr 1 (.t 44) (.t 46), some (42, true)⟩, ⟨some 48, .ld false 1 (.t 47), some (42, true)⟩, ⟨some 49, .fadr 0 (.t 3), some (42, true)⟩, ⟨some 50, .ld false 1 (.t 49), some (42, true)⟩, ⟨some 51, .mv (.t 9), some (42, true)⟩, ⟨some 52, .bin .sub (.t 51) (ci 1), some (42, true)⟩, ⟨some 53, .iadr 1 (.t 50) (.t 52), some (42, true)⟩, ⟨some 54, .ld false 1 (.t 53), some (42, true)⟩, ⟨some 55, .bin .add (.t 48) (.t 54), some (42, true)⟩, ⟨some 56, .fadr 1 (.t 3), some (42, true)⟩, ⟨some 57, .fadr 0 (.t 56), some (42, true)⟩, ⟨some 58, .ld false 1 (.t 57), some (42, true)⟩, ⟨some 59, .bin .sub (.t 55) (.t 58), some (42, true)⟩, ⟨some 60, .bin .lss (.t 43) (.t 59), some (42, true)⟩, o 61 (.pick (.t 42) (.t 60) (cb false)), mt 62 61, ⟨some 63, .mv (.t 9), some (62, false)⟩, ⟨some 64, .mv (.t 2), some (62, false)⟩, ⟨some 65, .bin .leq (.t 63) (.t 64), some (62, false)⟩, ⟨some 66, .mv (.t 65), some (62, false)⟩, ⟨some 67, .mv (.t 10), some (66, true)⟩, ⟨some 68, .fadr 5 (.t 3), some (66, true)⟩, ⟨some 69, .ld false 1 (.t 68), some (66, true)⟩, ⟨some 70, .mv (.t 9), some (66, true)⟩, ⟨some 71, .bin .sub (.t 69) (.t 70), some (66, true)⟩, ⟨some 72, .fadr 3 (.t 3), some (66, true)⟩, ⟨some 73, .fadr 0 (.t 72), some (66, true)⟩, ⟨some 74, .ld false 1 (.t 73), some (66, true)⟩, ⟨some 75, .fadr 1 (.t 3), some (66, true)⟩, ⟨some 76, .fadr 0 (.t 75), some (66, true)⟩, ⟨some 77, .ld false 1 (.t 76), some (66, true)⟩, ⟨some 78, .bin .add (.t 74) (.t 77), some (66, true)⟩, ⟨some 79, .bin .mul (.t 71) (.t 78), some (66, true)⟩, ⟨some 80, .bin .gtr (.t 67) (.t 79), some (66, true)⟩, ⟨some 81, .pick (.t 66) (.t 80) (cb false), some (62, false)⟩, o 82 (.pick (.t 62) (cb true) (.t 81))] [1, 2, 3, 33, 34, 35, 82])
 (.cond (.t 82)
 (.seq (.ops [o 6 (.mv (ci 19))] [6])
 (.ret))
 (.skip)))))
 (.ops [o 83 (.bin .add (.t 35) (ci 1)), mt 35 83] [1, 2, 3, 33, 34, 35])))
def c51 : AFunc := ⟨84, [.tmp 6],
 .seq (.ops [o 3 (.box false (.t 0)), o 6 (.mv (ci 0))] [1, 2, 3])
 (.seq (.seq (.ops [o 11 (.ld true 6 (.t 3)), o 12 (.call true true 0 (.fn 48) [.t 11]), mt 7 12] [1, 2, 3, 7])
 (.seq (.ops [mt 13 7, o 14 (.bin .neq (.t 13) (ci 0))] [1, 2, 3, 7, 14])
 (.cond (.t 14)
 (.seq (.ops [mt 15 7, mt 6 15] [6])
 (.ret))
 (.skip))))
 (.seq (.seq (.opsd [(0, 1), (1, 1), (2, 1), (3, 1), (4, 1), (5, 1), (6, 1), (7, 1), (8, 1), (9, 1), (10, 1), (11, 0), (12, 0), (13, 0), (14, 1)] [mt 16 1, o 17 (.len 1 (.t 16)), o 18 (.fadr 5 (.t 3)), o 19 (.ld false 1 (.t 18)), o 20 (.bin .add (.t 19) (ci 1)), o 21 (.bin .neq (.t 17) (.t 20)), o 22 (.call true true 0 (.fn 107) [.t 21, ci 2]), mt 23 1, o 24 (.call true true 0 (.fn 122) [.t 23, ci 0, ci 100000000]), o 25 (.ld true 6 (.t 3)), mt 26 2, o 27 (.call true true 0 (.fn 117) [.t 25, .t 26]), o 28 (.bslice false 1 zl8 3 [(0, .t 22), (1, .t 24), (2, .t 27)]), o 29 (.call true true 0 (.fn 98) [.t 28]), mt 8 29] [1, 2, 3, 8])
 (.seq (.ops [mt 30 8, o 31 (.bin .neq (.t 30) (ci 0))] [1, 2, 3, 8, 31])
 (.cond (.t 31)
 (.seq (.ops [mt 32 8, mt 6 32] [6])
 (.ret))
 (.skip))))
 (.seq (.seq (.ops [mt 33 1, o 34 (.len 1 (.t 33)), o 35 (.mv (ci 0))] [1, 2, 3, 33, 34, 35])
 (.block 0 (.loop false [1, 2, 3, 33, 34, 35] c51L0)))
 (.seq (.ops [o 6 (.mv (ci 0))] [6])
 (.ret)))))⟩

def c52 : AFunc := ⟨6, [.tmp 2],
 .seq (.ops [o 2 (.nilown 1)] [0])
 (.seq (.ops [o 3 (.bslice true 1 zl8 0 []), mt 4 0, o 5 (.app 1 8 zl8 (.t 3) (.t 4)), mt 2 5] [2])
 (.ret))⟩

def c55 : AFunc := ⟨7, [.tmp 4],
 .seq (.ops [o 4 (.mv (ci 0))] [0, 1])
 (.seq (.seq (.ops [mt 5 0] [1, 5])
 (.cond (.t 5)
 (.seq (.ops [mt 6 1, mt 4 6] [4])
 (.ret))
 (.skip)))
 (.seq (.ops [o 4 (.mv (ci 0))] [4])
 (.ret)))⟩

def c59 : AFunc := ⟨20, [.cell 2 true 2, .cell 3 true 2, .tmp 4],
 .seq (.ops [o 2 (.alloc true 1 zl7), o 3 (.alloc true 1 zl7), o 4 (.mv (ci 0))] [0, 2, 3])
 (.seq (.seq (.ops [mt 7 0, o 8 (.call false true 0 (.fn 71) [.t 7]), mt 5 8] [0, 2, 3, 5])
 (.seq (.ops [mt 9 5, o 10 (.bin .neq (.t 9) (ci 0))] [0, 2, 3, 5, 10])
 (.cond (.t 10)
 (.seq (.ops [o 11 (.build zl7 []), o 12 (.build zl7 []), mt 13 5, u (.st 2 (.t 2) (.t 11)), u (.st 2 (.t 3) (.t 12)), mt 4 13] [2, 3, 4])
 (.ret))
 (.skip))))
 (.seq (.ops [mt 14 0, o 15 (.call true true 0 (.fn 123) [.t 14]), o 6 (.alloc true 2 zl5), u (.st 4 (.t 6) (.t 15))] [2, 3, 6])
 (.seq (.opsd [(0, 1), (1, 1), (2, 18), (3, 18), (4, 3), (5, 0), (6, 1)] [o 16 (.iadra 2 2 (.t 6) (ci 0)), o 17 (.ld true 2 (.t 16)), o 18 (.iadra 2 2 (.t 6) (ci 1)), o 19 (.ld true 2 (.t 18)), u (.st 2 (.t 2) (.t 17)), u (.st 2 (.t 3) (.t 19)), o 4 (.mv (ci 0))] [2, 3, 4])
 (.ret))))⟩

def c61 : AFunc := ⟨13, [.cell 2 true 2, .tmp 3],
 .seq (.ops [o 2 (.alloc true 1 zl7), o 3 (.mv (ci 0))] [0, 2])
 (.seq (.seq (.ops [mt 5 0, o 6 (.call false true 0 (.fn 71) [.t 5]), mt 4 6] [0, 2, 4])
 (.seq (.ops [mt 7 4, o 8 (.bin .neq (.t 7) (ci 0))] [0, 2, 4, 8])
 (.cond (.t 8)
 (.seq (.ops [o 9 (.build zl7 []), mt 10 4, u (.st 2 (.t 2) (.t 9)), mt 3 10] [2, 3])
 (.ret))
 (.skip))))
 (.seq (.ops [mt 11 0, o 12 (.call true true 0 (.fn 124) [.t 11]), u (.st 2 (.t 2) (.t 12)), o 3 (.mv (ci 0))] [2, 3])
 (.ret)))⟩

def c62 : AFunc := ⟨19, [.tmp 4, .tmp 5],
 .seq (.ops [o 4 (.mv (cb false)), o 5 (.mv (ci 0))] [0, 1])
 (.seq (.seq (.ops [mt 7 0, mt 8 1, o 9 (.call false true 0 (.fn 125) [.t 7, .t 8]), mt 6 9] [0, 1, 6])
 (.seq (.ops [mt 10 6, o 11 (.bin .neq (.t 10) (ci 0))] [0, 1, 6, 11])
 (.cond (.t 11)
 (.seq (.ops [mt 12 6, o 4 (.mv (cb false)), mt 5 12] [4, 5])
 (.ret))
 (.skip))))
 (.seq (.ops [mt 13 0, o 14 (.call true true 0 (.fn 126) [.t 13]), mt 15 1, o 16 (.call true false 0 (.fn 128) [.t 15, cf 129]), o 17 (.call true true 0 (.fn 127) [.t 16]), o 18 (.call true true 0 (.fn 112) [.t 14, .t 17]), mt 4 18, o 5 (.mv (ci 0))] [4, 5])
 (.ret)))⟩

def c64L0 : ACode :=
 .seq (.ops [o 30 (.bin .lss (.t 29) (.t 28))] [7, 8, 9, 27, 28, 29, 30])
 (.seq (.cond (.t 30)
 (.skip)
 (.exit 0))
 (.seq (.block 1 (.seq (.ops [mt 31 29, o 32 (.iadr 6 (.t 27) (.t 29)), o 33 (.ld true 6 (.t 32)), o 11 (.alloc false 1 zl3), mt 10 31, u (.st 6 (.t 11) (.t 33))] [7, 8, 9, 10, 11, 27, 28, 29])
 (.seq (.ops [mt 34 7, o 35 (.len 1 (.t 34)), o 36 (.mkslice 2 zl7 (.t 35) (.t 35)), mt 12 36] [7, 8, 9, 10, 11, 12, 27, 28, 29])
 (.seq (.ops [mt 37 12, mt 38 7, o 39 (.copy 2 (.t 37) (.t 38))] [7, 8, 9, 10, 11, 12, 27, 28, 29])
 (.seq (.ops [mt 40 12, mt 41 10, o 42 (.ld true 6 (.t 11)), o 43 (.call true true 0 (.fn 130) [.t 42]), o 44 (.iadr 2 (.t 40) (.t 41)), u (.st 2 (.t 44) (.t 43))] [7, 8, 9, 11, 12, 27, 28, 29])
 (.seq (.opsd [(0, 1), (1, 1), (2, 1), (3, 0)] [o 45 (.ld true 2 (.t 8)), mt 46 12, o 47 (.call true true 0 (.fn 127) [.t 46]), o 48 (.call true true 0 (.fn 112) [.t 45, .t 47])] [7, 8, 9, 11, 27, 28, 29, 48])
 (.cond (.t 48)
 (.ops [mt 49 9, o 50 (.fadr 0 (.t 11)), o 51 (.ld false 1 (.t 50)), o 52 (.bslice false 1 zl9 1 [(0, .t 51)]), o 53 (.app 1 16 zl9 (.t 49) (.t 52)), mt 9 53] [7, 8, 9, 27, 28, 29])
 (.skip))))))))
 (.ops [o 54 (.bin .add (.t 29) (ci 1)), mt 29 54] [7, 8, 9, 27, 28, 29])))
def c64 : AFunc := ⟨56, [.tmp 4, .tmp 5],
 .seq (.ops [o 4 (.mv (cn)), o 5 (.mv (ci 0))] [0, 1])
 (.seq (.seq (.ops [mt 13 0, mt 14 1, o 15 (.call false true 0 (.fn 125) [.t 13, .t 14]), mt 6 15] [0, 1, 6])
 (.seq (.ops [mt 16 6, o 17 (.bin .neq (.t 16) (ci 0))] [0, 1, 6, 17])
 (.cond (.t 17)
 (.seq (.ops [mt 18 6, o 4 (.mv (cn)), mt 5 18] [4, 5])
 (.ret))
 (.skip))))
 (.seq (.ops [mt 19 1, o 20 (.call true false 0 (.fn 128) [.t 19, cf 129]), mt 7 20] [0, 1, 7])
 (.seq (.ops [mt 21 0, o 22 (.call true true 0 (.fn 126) [.t 21]), o 8 (.alloc true 1 zl7), u (.st 2 (.t 8) (.t 22))] [1, 7, 8])
 (.seq (.seq (.opsd [(0, 1), (1, 1), (2, 1), (3, 0)] [o 23 (.ld true 2 (.t 8)), mt 24 7, o 25 (.call true true 0 (.fn 127) [.t 24]), o 26 (.call true true 0 (.fn 112) [.t 23, .t 25])] [1, 7, 8, 26])
 (.cond (.t 26)
 (.seq (.ops [o 4 (.mv (cn)), o 5 (.mv (ci 21))] [4, 5])
 (.ret))
 (.skip)))
 (.seq (.ops [o 9 (.nilown 1)] [1, 7, 8, 9])
 (.seq (.seq (.ops [mt 27 1, o 28 (.len 1 (.t 27)), o 29 (.mv (ci 0))] [7, 8, 9, 27, 28, 29])
 (.block 0 (.loop true [7, 8, 9, 27, 28, 29] c64L0)))
 (.seq (.ops [mt 55 9, mt 4 55, o 5 (.mv (ci 0))] [4, 5])
 (.ret))))))))⟩

def c71L0 : ACode :=
 .seq (.ops [o 26 (.bin .lss (.t 25) (.t 24))] [5, 23, 24, 25, 26])
 (.seq (.cond (.t 26)
 (.skip)
 (.exit 0))
 (.seq (.block 1 (.seq (.ops [o 27 (.iadr 7 (.t 23) (.t 25)), o 28 (.ld true 7 (.t 27)), o 7 (.alloc true 1 zl1), u (.st 7 (.t 7) (.t 28))] [5, 7, 23, 24, 25])
 (.seq (.opsd [(0, 1), (1, 1), (2, 1), (4, 391), (5, 391), (7, 391), (8, 391), (10, 391), (11, 391), (3, 392), (6, 1), (9, 1), (12, 0), (13, 0), (14, 0), (15, 1)] [mt 29 5, o 30 (.fadr 0 (.t 7)), o 31 (.ld false 1 (.t 30)), o 33 (.fadr 1 (.t 7)), o 34 (.ld true 2 (.t 33)), o 36 (.fadr 3 (.t 7)), o 37 (.ld true 2 (.t 36)), o 39 (.fadr 5 (.t 7)), o 40 (.ld true 2 (.t 39)), o 32 (.call false true 0 (.val (.t 29)) [.t 31]), o 35 (.call true true 0 (.fn 109) [.t 34, ci 1, ci 10000000]), o 38 (.call true true 0 (.fn 109) [.t 37, ci (-100000), ci 100000]), o 41 (.call true true 0 (.fn 109) [.t 40, ci (-100000), ci 100000]), o 42 (.bslice false 1 zl8 4 [(0, .t 32), (1, .t 35), (2, .t 38), (3, .t 41)]), o 43 (.call true true 0 (.fn 98) [.t 42]), mt 8 43] [5, 8, 23, 24, 25])
 (.seq (.ops [mt 44 8, o 45 (.bin .neq (.t 44) (ci 0))] [5, 8, 23, 24, 25, 45])
 (.cond (.t 45)
 (.seq (.ops [mt 46 8, mt 2 46] [2])
 (.ret))
 (.skip))))))
 (.ops [o 47 (.bin .add (.t 25) (ci 1)), mt 25 47] [5, 23, 24, 25])))
def c71 : AFunc := ⟨48, [.tmp 2],
 .seq (.ops [o 2 (.mv (ci 0))] [0])
 (.seq (.seq (.ops [mt 9 0, o 10 (.len 1 (.t 9)), o 11 (.bin .eql (.t 10) (ci 0)), o 12 (.call true true 0 (.fn 107) [.t 11, ci 12]), mt 13 0, o 14 (.len 1 (.t 13)), o 15 (.bin .gtr (.t 14) (ci 8)), o 16 (.call true true 0 (.fn 107) [.t 15, ci 5]), o 17 (.bslice false 1 zl8 2 [(0, .t 12), (1, .t 16)]), o 18 (.call true true 0 (.fn 98) [.t 17]), mt 3 18] [0, 3])
 (.seq (.ops [mt 19 3, o 20 (.bin .neq (.t 19) (ci 0))] [0, 3, 20])
 (.cond (.t 20)
 (.seq (.ops [mt 21 3, mt 2 21] [2])
 (.ret))
 (.skip))))
 (.seq (.ops [o 4 (.alloc false 1 [.p (.nilm)])] [0, 4])
 (.seq (.ops [o 22 (.mkclo 110 [.t 4] []), mt 5 22] [0, 5])
 (.seq (.seq (.ops [mt 23 0, o 24 (.len 1 (.t 23)), o 25 (.mv (ci 0))] [5, 23, 24, 25])
 (.block 0 (.loop true [5, 23, 24, 25] c71L0)))
 (.seq (.ops [o 2 (.mv (ci 0))] [2])
 (.ret))))))⟩

def c72 : AFunc := ⟨14, [.cell 2 true 2, .tmp 3],
 .seq (.ops [o 2 (.alloc true 1 zl7), o 3 (.mv (ci 0))] [0, 2])
 (.seq (.seq (.ops [mt 5 0, o 6 (.call true true 0 (.fn 82) [.t 5]), mt 4 6] [0, 2, 4])
 (.seq (.ops [mt 7 4, o 8 (.bin .neq (.t 7) (ci 0))] [0, 2, 4, 8])
 (.cond (.t 8)
 (.seq (.ops [o 9 (.build zl7 []), mt 10 4, u (.st 2 (.t 2) (.t 9)), mt 3 10] [2, 3])
 (.ret))
 (.skip))))
 (.seq (.ops [mt 11 0, o 12 (.call true false 0 (.fn 128) [.t 11, cf 129]), o 13 (.call true true 0 (.fn 127) [.t 12]), u (.st 2 (.t 2) (.t 13)), o 3 (.mv (ci 0))] [2, 3])
 (.ret)))⟩

def c73 : AFunc := ⟨21, [.tmp 2, .tmp 3, .tmp 4],
 .seq (.ops [o 2 (.mv (ci 0)), o 3 (.mv (ci 0)), o 4 (.mv (ci 0))] [0])
 (.seq (.seq (.ops [mt 8 0, o 9 (.call true true 0 (.fn 82) [.t 8]), mt 5 9] [0, 5])
 (.seq (.ops [mt 10 5, o 11 (.bin .neq (.t 10) (ci 0))] [0, 5, 11])
 (.cond (.t 11)
 (.seq (.ops [mt 12 5, o 2 (.mv (ci 0)), o 3 (.mv (ci 0)), mt 4 12] [2, 3, 4])
 (.ret))
 (.skip))))
 (.seq (.ops [mt 13 0, o 14 (.call true false 0 (.fn 134) [.t 13]), mt 6 14] [6])
 (.seq (.ops [mt 15 6, o 16 (.call true true 0 (.fn 135) [.t 15]), mt 7 16] [6, 7])
 (.seq (.ops [mt 17 7, mt 18 6, mt 19 7, o 20 (.call true true 0 (.fn 136) [.t 18, .t 19]), mt 2 17, mt 3 20, o 4 (.mv (ci 0))] [2, 3, 4])
 (.ret)))))⟩

def c74L0 : ACode :=
 .seq (.ops [o 44 (.bin .lss (.t 43) (ci 2))] [0, 3, 4, 5, 8, 9, 42, 43, 44])
 (.seq (.cond (.t 44)
 (.skip)
 (.exit 0))
 (.seq (.block 1 (.seq (.ops [mt 45 43, o 46 (.idx true 1 2 (.t 42) (.t 43)), o 11 (.alloc false 1 [.p (.nilf)]), mt 10 45, u (.st 1 (.t 11) (.t 46))] [0, 3, 4, 5, 8, 9, 10, 11, 42, 43])
 (.seq (.ops [mt 47 0, o 48 (.mkclo 139 [] [.t 11, .t 3]), o 49 (.call true false 0 (.fn 138) [.t 47, .t 48]), o 50 (.call true true 0 (.fn 137) [.t 49]), mt 12 50] [0, 3, 4, 5, 8, 9, 10, 12, 42, 43])
 (.seq (.ops [mt 51 10, mt 52 12, mt 53 8, o 54 (.call true true 0 (.fn 100) [.t 52, .t 53]), o 55 (.iadra 2 2 (.t 9) (.t 51)), u (.st 2 (.t 55) (.t 54))] [0, 3, 4, 5, 8, 9, 10, 42, 43])
 (.seq (.ops [mt 56 10, o 57 (.iadra 2 2 (.t 9) (.t 56)), o 58 (.ld true 2 (.t 57)), o 59 (.call true true 0 (.fn 140) [.t 58])] [0, 3, 4, 5, 8, 9, 42, 43, 59])
 (.cond (.t 59)
 (.seq (.ops [o 60 (.build zl7 []), o 61 (.build zl7 []), u (.st 2 (.t 4) (.t 60)), u (.st 2 (.t 5) (.t 61)), o 6 (.mv (ci 4))] [4, 5, 6])
 (.ret))
 (.skip)))))))
 (.ops [o 62 (.bin .add (.t 43) (ci 1)), mt 43 62] [0, 3, 4, 5, 8, 9, 42, 43])))
def c74 : AFunc := ⟨67, [.cell 4 true 2, .cell 5 true 2, .tmp 6],
 .seq (.ops [o 3 (.box true (.t 1)), o 4 (.alloc true 1 zl7), o 5 (.alloc true 1 zl7), o 6 (.mv (ci 0))] [0, 3, 4, 5])
 (.seq (.seq (.ops [mt 13 0, o 14 (.call true true 0 (.fn 82) [.t 13]), mt 7 14] [0, 3, 4, 5, 7])
 (.seq (.ops [mt 15 7, o 16 (.bin .neq (.t 15) (ci 0))] [0, 3, 4, 5, 7, 16])
 (.cond (.t 16)
 (.seq (.ops [o 17 (.build zl7 []), o 18 (.build zl7 []), mt 19 7, u (.st 2 (.t 4) (.t 17)), u (.st 2 (.t 5) (.t 18)), mt 6 19] [4, 5, 6])
 (.ret))
 (.skip))))
 (.seq (.seq (.opsd [(0, 1), (1, 1), (2, 1), (3, 1), (4, 1), (5, 1), (6, 1), (7, 1), (8, 1), (9, 1), (10, 1)] [o 20 (.ld false 1 (.t 3)), o 21 (.bin .lss (.t 20) (ci 0)), mt 22 21, ⟨some 23, .ld false 1 (.t 3), some (22, false)⟩, ⟨some 24, .mv (.t 0), some (22, false)⟩, ⟨some 25, .iadr 6 (.t 24) (ci 0), some (22, false)⟩, ⟨some 26, .fadr 5 (.t 25), some (22, false)⟩, ⟨some 27, .ld false 1 (.t 26), some (22, false)⟩, ⟨some 28, .len 1 (.t 27), some (22, false)⟩, ⟨some 29, .bin .geq (.t 23) (.t 28), some (22, false)⟩, o 30 (.pick (.t 22) (cb true) (.t 29))] [0, 3, 4, 5, 30])
 (.cond (.t 30)
 (.seq (.ops [o 31 (.build zl7 []), o 32 (.build zl7 []), u (.st 2 (.t 4) (.t 31)), u (.st 2 (.t 5) (.t 32)), o 6 (.mv (ci 10))] [4, 5, 6])
 (.ret))
 (.skip)))
 (.seq (.opsd [(0, 1), (1, 1), (2, 1), (3, 1), (4, 1), (5, 1)] [mt 33 0, o 34 (.call true false 0 (.fn 134) [.t 33]), o 35 (.ld false 1 (.t 3)), o 36 (.iadr 1 (.t 34) (.t 35)), o 37 (.ld false 1 (.t 36)), mt 8 37] [0, 3, 4, 5, 8])
 (.seq (.seq (.ops [mt 38 8, o 39 (.bin .eql (.t 38) (ci 0))] [0, 3, 4, 5, 8, 39])
 (.cond (.t 39)
 (.seq (.ops [o 40 (.build zl7 []), o 41 (.build zl7 []), u (.st 2 (.t 4) (.t 40)), u (.st 2 (.t 5) (.t 41)), o 6 (.mv (ci 6))] [4, 5, 6])
 (.ret))
 (.skip)))
 (.seq (.ops [o 9 (.alloc true 2 zl5)] [0, 3, 4, 5, 8, 9])
 (.seq (.seq (.ops [o 42 (.ld true 2 (.g 0)), o 43 (.mv (ci 0))] [0, 3, 4, 5, 8, 9, 42, 43])
 (.block 0 (.loop true [0, 3, 4, 5, 8, 9, 42, 43] c74L0)))
 (.seq (.opsd [(0, 1), (1, 1), (2, 54), (3, 54), (4, 3), (5, 0), (6, 1)] [o 63 (.iadra 2 2 (.t 9) (ci 0)), o 64 (.ld true 2 (.t 63)), o 65 (.iadra 2 2 (.t 9) (ci 1)), o 66 (.ld true 2 (.t 65)), u (.st 2 (.t 4) (.t 64)), u (.st 2 (.t 5) (.t 66)), o 6 (.mv (ci 0))] [4, 5, 6])
 (.ret))))))))⟩

def c75L0 : ACode :=
 .seq (.seq (.ops [mt 35 8, mt 36 1, o 37 (.len 1 (.t 36)), o 38 (.bin .lss (.t 35) (.t 37))] [0, 1, 7, 8, 38])
 (.cond (.t 38)
 (.skip)
 (.exit 0)))
 (.seq (.block 1 (.opsd [(0, 1), (1, 1), (2, 1), (3, 1), (4, 1), (5, 1), (6, 1), (7, 1), (8, 1), (9, 1), (10, 1), (11, 1), (12, 1), (13, 1), (14, 1), (15, 1), (16, 1), (17, 1), (18, 1), (19, 1), (20, 1), (21, 1), (22, 1), (23, 1)] [mt 41 7, mt 42 0, mt 43 8, o 44 (.bin .sub (.t 43) (ci 1)), o 45 (.iadr 1 (.t 42) (.t 44)), o 46 (.ld false 1 (.t 45)), mt 47 0, mt 48 8, o 49 (.iadr 1 (.t 47) (.t 48)), o 50 (.ld false 1 (.t 49)), o 51 (.bin .add (.t 46) (.t 50)), mt 52 1, mt 53 8, o 54 (.iadr 1 (.t 52) (.t 53)), o 55 (.ld false 1 (.t 54)), mt 56 1, mt 57 8, o 58 (.bin .sub (.t 57) (ci 1)), o 59 (.iadr 1 (.t 56) (.t 58)), o 60 (.ld false 1 (.t 59)), o 61 (.bin .sub (.t 55) (.t 60)), o 62 (.bin .mul (.t 51) (.t 61)), o 63 (.bin .add (.t 41) (.t 62)), mt 7 63] [0, 1, 7, 8]))
 (.ops [mt 39 8, o 40 (.bin .add (.t 39) (ci 1)), mt 8 40] [0, 1, 7, 8]))
def c75 : AFunc := ⟨65, [.tmp 4, .tmp 5],
 .seq (.ops [o 4 (.mv (ci 0)), o 5 (.mv (ci 0))] [0, 1])
 (.seq (.seq (.ops [mt 9 0, o 10 (.len 1 (.t 9)), o 11 (.bin .eql (.t 10) (ci 0)), o 12 (.call true true 0 (.fn 107) [.t 11, ci 12]), mt 13 0, o 14 (.len 1 (.t 13)), o 15 (.bin .gtr (.t 14) (ci 64)), o 16 (.call true true 0 (.fn 107) [.t 15, ci 5]), mt 17 0, o 18 (.call true true 0 (.fn 122) [.t 17, ci (-1000000), ci 1000000]), mt 19 1, o 20 (.len 1 (.t 19)), mt 21 0, o 22 (.len 1 (.t 21)), o 23 (.bin .neq (.t 20) (.t 22)), o 24 (.call true true 0 (.fn 107) [.t 23, ci 2]), mt 25 1, o 26 (.call true true 0 (.fn 122) [.t 25, ci 0, ci 1000000]), o 27 (.bslice false 1 zl8 5 [(0, .t 12), (1, .t 16), (2, .t 18), (3, .t 24), (4, .t 26)]), o 28 (.call true true 0 (.fn 98) [.t 27]), mt 6 28] [0, 1, 6])
 (.seq (.ops [mt 29 6, o 30 (.bin .neq (.t 29) (ci 0))] [0, 1, 6, 30])
 (.cond (.t 30)
 (.seq (.ops [mt 31 6, o 4 (.mv (ci 0)), mt 5 31] [4, 5])
 (.ret))
 (.skip))))
 (.seq (.seq (.ops [mt 32 1, o 33 (.call true true 0 (.fn 141) [.t 32]), o 34 (.not (.t 33))] [0, 1, 34])
 (.cond (.t 34)
 (.seq (.ops [o 4 (.mv (ci 0)), o 5 (.mv (ci 11))] [4, 5])
 (.ret))
 (.skip)))
 (.seq (.ops [o 7 (.mv (ci 0))] [0, 1, 7])
 (.seq (.seq (.ops [o 8 (.mv (ci 1))] [0, 1, 7, 8])
 (.block 0 (.loop false [0, 1, 7, 8] c75L0)))
 (.seq (.ops [mt 64 7, mt 4 64, o 5 (.mv (ci 0))] [4, 5])
 (.ret))))))⟩

def c82L0 : ACode :=
 .seq (.ops [o 25 (.bin .lss (.t 24) (.t 23))] [0, 4, 22, 23, 24, 25])
 (.seq (.cond (.t 25)
 (.skip)
 (.exit 0))
 (.seq (.block 1 (.seq (.ops [o 26 (.iadr 6 (.t 22) (.t 24)), o 27 (.ld true 6 (.t 26)), o 6 (.alloc false 1 zl3), u (.st 6 (.t 6) (.t 27))] [0, 4, 6, 22, 23, 24])
 (.seq (.seq (.opsd [(0, 1), (1, 1), (3, 199), (4, 199), (5, 199), (7, 199), (8, 199), (9, 199), (11, 199), (12, 199), (14, 199), (15, 199), (2, 200), (6, 1), (10, 1), (13, 1), (16, 0), (17, 0), (18, 0), (19, 1)] [o 28 (.fadr 0 (.t 6)), o 29 (.ld false 1 (.t 28)), o 31 (.fadr 1 (.t 6)), o 32 (.fadr 0 (.t 31)), o 33 (.ld false 1 (.t 32)), o 35 (.fadr 1 (.t 6)), o 36 (.fadr 1 (.t 35)), o 37 (.ld false 1 (.t 36)), o 39 (.fadr 3 (.t 6)), o 40 (.ld false 1 (.t 39)), o 42 (.fadr 4 (.t 6)), o 43 (.ld false 1 (.t 42)), o 30 (.call false true 0 (.fn 110) [.t 4, .t 29]), o 34 (.call true true 0 (.fn 108) [.t 33, ci 0, ci 1000000]), o 38 (.call true true 0 (.fn 108) [.t 37, ci 0, ci 1000000]), o 41 (.call true true 0 (.fn 108) [.t 40, ci 1, ci 1000000]), o 44 (.call true true 0 (.fn 108) [.t 43, ci 0, ci 1000000]), o 45 (.bslice false 1 zl8 5 [(0, .t 30), (1, .t 34), (2, .t 38), (3, .t 41), (4, .t 44)]), o 46 (.call true true 0 (.fn 98) [.t 45]), mt 7 46] [0, 4, 6, 7, 22, 23, 24])
 (.seq (.ops [mt 47 7, o 48 (.bin .neq (.t 47) (ci 0))] [0, 4, 6, 7, 22, 23, 24, 48])
 (.cond (.t 48)
 (.seq (.ops [mt 49 7, mt 2 49] [2])
 (.ret))
 (.skip))))
 (.seq (.opsd [(0, 1), (1, 1), (2, 1), (3, 1), (4, 1), (5, 1), (6, 1), (7, 1), (8, 1), (9, 1), (10, 1), (11, 1), (12, 1), (13, 1), (14, 1), (15, 1), (16, 1), (17, 1), (18, 1), (19, 1), (20, 1), (21, 1), (22, 1), (23, 1), (24, 1), (25, 1), (26, 1), (27, 0), (28, 0), (29, 0), (30, 1)] [o 50 (.fadr 5 (.t 6)), o 51 (.ld false 1 (.t 50)), o 52 (.len 1 (.t 51)), o 53 (.bin .eql (.t 52) (ci 0)), o 54 (.call true true 0 (.fn 107) [.t 53, ci 12]), o 55 (.fadr 5 (.t 6)), o 56 (.ld false 1 (.t 55)), o 57 (.len 1 (.t 56)), o 58 (.bin .gtr (.t 57) (ci 64)), o 59 (.call true true 0 (.fn 107) [.t 58, ci 5]), o 60 (.fadr 5 (.t 6)), o 61 (.ld false 1 (.t 60)), o 62 (.len 1 (.t 61)), mt 63 0, o 64 (.iadr 6 (.t 63) (ci 0)), o 65 (.fadr 5 (.t 64)), o 66 (.ld false 1 (.t 65)), o 67 (.len 1 (.t 66)), o 68 (.bin .neq (.t 62) (.t 67)), o 69 (.call true true 0 (.fn 107) [.t 68, ci 2]), o 70 (.fadr 5 (.t 6)), o 71 (.ld false 1 (.t 70)), o 72 (.fadr 3 (.t 6)), o 73 (.ld false 1 (.t 72)), o 74 (.neg (.t 73)), o 75 (.fadr 3 (.t 6)), o 76 (.ld false 1 (.t 75)), o 77 (.call true true 0 (.fn 122) [.t 71, .t 74, .t 76]), o 78 (.bslice false 1 zl8 4 [(0, .t 54), (1, .t 59), (2, .t 69), (3, .t 77)]), o 79 (.call true true 0 (.fn 98) [.t 78]), mt 8 79] [0, 4, 8, 22, 23, 24])
 (.seq (.ops [mt 80 8, o 81 (.bin .neq (.t 80) (ci 0))] [0, 4, 8, 22, 23, 24, 81])
 (.cond (.t 81)
 (.seq (.ops [mt 82 8, mt 2 82] [2])
 (.ret))
 (.skip)))))))
 (.ops [o 83 (.bin .add (.t 24) (ci 1)), mt 24 83] [0, 4, 22, 23, 24])))
def c82 : AFunc := ⟨84, [.tmp 2],
 .seq (.ops [o 2 (.mv (ci 0))] [0])
 (.seq (.seq (.ops [mt 9 0, o 10 (.len 1 (.t 9)), o 11 (.bin .eql (.t 10) (ci 0)), o 12 (.call true true 0 (.fn 107) [.t 11, ci 12]), mt 13 0, o 14 (.len 1 (.t 13)), o 15 (.bin .gtr (.t 14) (ci 16)), o 16 (.call true true 0 (.fn 107) [.t 15, ci 5]), o 17 (.bslice false 1 zl8 2 [(0, .t 12), (1, .t 16)]), o 18 (.call true true 0 (.fn 98) [.t 17]), mt 3 18] [0, 3])
 (.seq (.ops [mt 19 3, o 20 (.bin .neq (.t 19) (ci 0))] [0, 3, 20])
 (.cond (.t 20)
 (.seq (.ops [mt 21 3, mt 2 21] [2])
 (.ret))
 (.skip))))
 (.seq (.ops [o 4 (.alloc false 1 [.p (.nilm)])] [0, 4])
 (.seq (.seq (.ops [mt 22 0, o 23 (.len 1 (.t 22)), o 24 (.mv (ci 0))] [0, 4, 22, 23, 24])
 (.block 0 (.loop true [0, 4, 22, 23, 24] c82L0)))
 (.seq (.ops [o 2 (.mv (ci 0))] [2])
 (.ret)))))⟩

def c83 : AFunc := ⟨45, [.tmp 2, .tmp 3],
 .seq (.ops [o 1 (.box false (.t 0)), o 2 (.mv (cs [])), o 3 (.mv (ci 0))] [1])
 (.seq (.seq (.ops [o 6 (.ld true 6 (.t 1)), o 7 (.call true true 0 (.fn 48) [.t 6]), mt 4 7] [1, 4])
 (.seq (.ops [mt 8 4, o 9 (.bin .neq (.t 8) (ci 0))] [1, 4, 9])
 (.cond (.t 9)
 (.seq (.ops [mt 10 4, o 2 (.mv (cs [])), mt 3 10] [2, 3])
 (.ret))
 (.skip))))
 (.seq (.opsd [(0, 1), (1, 1), (2, 1), (3, 1), (4, 1), (5, 1), (6, 1), (7, 1), (8, 1), (9, 1), (10, 1), (11, 1), (12, 1), (13, 1), (14, 1), (15, 1), (16, 1), (17, 1), (18, 1), (19, 1), (20, 1), (21, 1), (22, 1), (23, 1), (24, 1), (25, 1), (26, 0), (27, 1), (28, 1)] [o 11 (.iadra 2 4 (.g 1) (ci 0)), o 12 (.ld true 2 (.t 11)), o 13 (.fadr 5 (.t 1)), o 14 (.ld false 1 (.t 13)), o 15 (.bslice false 1 zl8 1 [(0, .t 14)]), o 16 (.call true true 0 (.fn 144) [.t 12, .t 15]), o 17 (.iadra 2 4 (.g 1) (ci 1)), o 18 (.ld true 2 (.t 17)), o 19 (.fadr 1 (.t 1)), o 20 (.fadr 0 (.t 19)), o 21 (.ld false 1 (.t 20)), o 22 (.fadr 1 (.t 1)), o 23 (.fadr 1 (.t 22)), o 24 (.ld false 1 (.t 23)), o 25 (.bslice false 1 zl8 2 [(0, .t 21), (1, .t 24)]), o 26 (.call true true 0 (.fn 144) [.t 18, .t 25]), o 27 (.bin .add (.t 16) (.t 26)), o 28 (.iadra 2 4 (.g 1) (ci 2)), o 29 (.ld true 2 (.t 28)), o 30 (.fadr 3 (.t 1)), o 31 (.fadr 0 (.t 30)), o 32 (.ld false 1 (.t 31)), o 33 (.fadr 3 (.t 1)), o 34 (.fadr 1 (.t 33)), o 35 (.ld false 1 (.t 34)), o 36 (.bslice false 1 zl8 2 [(0, .t 32), (1, .t 35)]), o 37 (.call true true 0 (.fn 144) [.t 29, .t 36]), o 38 (.bin .add (.t 27) (.t 37)), mt 5 38] [1, 5])
 (.seq (.ops [mt 39 5, o 40 (.fadr 0 (.t 1)), o 41 (.ld false 1 (.t 40)), o 42 (.call true false 0 (.fn 146) [.t 41, cf 147]), o 43 (.call true true 0 (.fn 145) [.t 42, cs []]), o 44 (.bin .add (.t 39) (.t 43)), mt 2 44, o 3 (.mv (ci 0))] [2, 3])
 (.ret))))⟩

def c84A0 : ACode :=
 .ops [mt 6 17] [2, 3, 4, 5, 6]
def c84B0 : ACode :=
 .block 1 (.seq (.ops [o 19 (.ld false 1 (.t 5)), o 20 (.len 1 (.t 19)), o 21 (.min [.t 20, ci 3]), o 22 (.iadra 2 4 (.g 1) (.t 21)), o 23 (.ld true 2 (.t 22)), mt 24 6, o 25 (.call true false 0 (.fn 149) [.t 23, .t 24]), mt 18 25, o 26 (.ext (.t 18) 0), o 27 (.ext (.t 18) 1), mt 7 26, mt 8 27] [2, 3, 4, 5, 7, 8])
 (.seq (.seq (.ops [mt 28 8, o 29 (.not (.t 28))] [2, 3, 4, 5, 7, 29])
 (.cond (.t 29)
 (.seq (.opsd [(0, 1), (1, 18), (2, 18), (3, 3), (4, 0), (5, 0)] [o 30 (.build zl2 []), o 31 (.ld false 1 (.t 5)), o 32 (.len 1 (.t 31)), u (.st 6 (.t 2) (.t 30)), u (.st 1 (.t 3) (.t 32)), u (.st 1 (.t 4) (ci 25))] [])
 (.ret))
 (.skip)))
 (.ops [o 33 (.ld false 1 (.t 5)), mt 34 7, o 35 (.bslice false 1 [.p (.nils)] 1 [(0, .t 34)]), o 36 (.app 1 24 [.p (.nils)] (.t 33) (.t 35)), u (.st 1 (.t 5) (.t 36))] [])))
def c84 : AFunc := ⟨83, [.cell 2 true 6, .cell 3 false 1, .cell 4 false 1],
 .seq (.ops [o 2 (.alloc false 1 zl2), o 3 (.alloc true 1 zl8), o 4 (.alloc true 1 zl8)] [0, 2, 3, 4])
 (.seq (.seq (.ops [mt 11 0, o 12 (.len 0 (.t 11)), o 13 (.bin .gtr (.t 12) (ci 4096))] [0, 2, 3, 4, 13])
 (.cond (.t 13)
 (.seq (.ops [o 14 (.build zl2 []), u (.st 6 (.t 2) (.t 14)), u (.st 1 (.t 3) (ci 0)), u (.st 1 (.t 4) (ci 26))] [2, 3, 4])
 (.ret))
 (.skip)))
 (.seq (.ops [o 5 (.allocown 1)] [0, 2, 3, 4, 5])
 (.seq (.seq (.ops [mt 15 0, o 16 (.call false false 1000 (.fn 148) [.t 15])] [2, 3, 4, 5, 16])
 (.block 0 (.rfun (.t 16) [17] c84A0 c84B0)))
 (.seq (.seq (.ops [o 37 (.ld false 1 (.t 5)), o 38 (.len 1 (.t 37)), o 39 (.bin .lss (.t 38) (ci 3))] [2, 3, 4, 5, 39])
 (.cond (.t 39)
 (.seq (.opsd [(0, 1), (1, 18), (2, 18), (3, 3), (4, 0), (5, 0)] [o 40 (.build zl2 []), o 41 (.ld false 1 (.t 5)), o 42 (.len 1 (.t 41)), u (.st 6 (.t 2) (.t 40)), u (.st 1 (.t 3) (.t 42)), u (.st 1 (.t 4) (ci 25))] [2, 3, 4])
 (.ret))
 (.skip)))
 (.seq (.opsd [(0, 1), (1, 1), (2, 1), (3, 1), (4, 1), (5, 1), (6, 1), (7, 1), (8, 1), (9, 1), (10, 1), (11, 1), (12, 1), (13, 1), (14, 1), (15, 1), (16, 1), (17, 1), (18, 1), (19, 1), (20, 1), (21, 1), (22, 1), (23, 1), (24, 1), (25, 1), (26, 1), (27, 1), (28, 1), (29, 1), (30, 1), (31, 2), (32, 0)] [o 43 (.ld false 1 (.t 5)), o 44 (.iadr 1 (.t 43) (ci 0)), o 45 (.ld false 1 (.t 44)), o 46 (.iadr 1 (.t 45) (ci 0)), o 47 (.ld false 1 (.t 46)), o 48 (.ld false 1 (.t 5)), o 49 (.iadr 1 (.t 48) (ci 1)), o 50 (.ld false 1 (.t 49)), o 51 (.iadr 1 (.t 50) (ci 0)), o 52 (.ld false 1 (.t 51)), o 53 (.ld false 1 (.t 5)), o 54 (.iadr 1 (.t 53) (ci 1)), o 55 (.ld false 1 (.t 54)), o 56 (.iadr 1 (.t 55) (ci 1)), o 57 (.ld false 1 (.t 56)), o 58 (.build zl7 [(0, 1, .t 52), (1, 1, .t 57)]), o 59 (.ld false 1 (.t 5)), o 60 (.iadr 1 (.t 59) (ci 2)), o 61 (.ld false 1 (.t 60)), o 62 (.iadr 1 (.t 61) (ci 0)), o 63 (.ld false 1 (.t 62)), o 64 (.ld false 1 (.t 5)), o 65 (.iadr 1 (.t 64) (ci 2)), o 66 (.ld false 1 (.t 65)), o 67 (.iadr 1 (.t 66) (ci 1)), o 68 (.ld false 1 (.t 67)), o 69 (.build zl7 [(0, 1, .t 63), (1, 1, .t 68)]), o 70 (.ld false 1 (.t 5)), o 71 (.slc 1 (.t 70) (some (ci 3)) none), o 72 (.call true true 0 (.fn 150) [.t 71]), o 73 (.build zl2 [(5, 1, .t 47), (1, 2, .t 58), (3, 2, .t 69), (0, 1, .t 72)]), o 9 (.alloc false 1 zl2), u (.st 6 (.t 9) (.t 73))] [2, 3, 4, 5, 9])
 (.seq (.seq (.ops [o 74 (.ld true 6 (.t 9)), o 75 (.call true true 0 (.fn 48) [.t 74]), mt 10 75] [2, 3, 4, 5, 9, 10])
 (.seq (.ops [mt 76 10, o 77 (.bin .neq (.t 76) (ci 0))] [2, 3, 4, 5, 9, 10, 77])
 (.cond (.t 77)
 (.seq (.opsd [(0, 1), (1, 18), (2, 18), (3, 1), (4, 3), (5, 0), (6, 0)] [o 78 (.build zl2 []), o 79 (.ld false 1 (.t 5)), o 80 (.len 1 (.t 79)), mt 81 10, u (.st 6 (.t 2) (.t 78)), u (.st 1 (.t 3) (.t 80)), u (.st 1 (.t 4) (.t 81))] [2, 3, 4])
 (.ret))
 (.skip))))
 (.seq (.ops [o 82 (.ld true 6 (.t 9)), u (.st 6 (.t 2) (.t 82)), u (.st 1 (.t 3) (ci 0)), u (.st 1 (.t 4) (ci 0))] [2, 3, 4])
 (.ret))))))))⟩

def c90 : AFunc := ⟨8, [.cell 4 true 2],
 .seq (.ops [o 4 (.alloc true 1 zl7)] [0, 1, 4])
 (.seq (.ops [mt 5 0, mt 6 1, o 7 (.build zl7 [(0, 1, .t 5), (1, 1, .t 6)]), u (.st 2 (.t 4) (.t 7))] [4])
 (.ret))⟩

def c94 : AFunc := ⟨5, [.cell 0 true 6],
 .seq (.ops [o 0 (.alloc false 1 zl2)] [0])
 (.seq (.ops [o 1 (.bslice false 1 zl8 6 [(0, ci 10), (1, ci 10), (2, ci 10), (3, ci 0), (4, ci 0), (5, ci 0)]), o 2 (.call true true 0 (.fn 90) [ci 1, ci 2]), o 3 (.call true true 0 (.fn 90) [ci 6, ci 8]), o 4 (.build zl2 [(0, 1, .t 1), (1, 2, .t 2), (3, 2, .t 3), (5, 1, ci 6)]), u (.st 6 (.t 0) (.t 4))] [0])
 (.ret))⟩

def c95 : AFunc := ⟨6, [.tmp 0],
 .seq (.ops [o 0 (.mv (cn))] [])
 (.seq (.ops [o 1 (.call true true 0 (.fn 90) [ci 1000, ci 1010]), o 2 (.call true true 0 (.fn 90) [ci 10, ci 11]), o 3 (.call true true 0 (.fn 90) [ci (-2), ci (-1)]), o 4 (.build zl1 [(0, 1, cs [99, 97, 114]), (1, 2, .t 1), (3, 2, .t 2), (5, 2, .t 3)]), o 5 (.bslice false 7 zl1 1 [(0, .t 4)]), mt 0 5] [0])
 (.ret))⟩

def c96 : AFunc := ⟨9, [.tmp 4],
 .seq (.ops [o 4 (.mv (cn))] [0, 1])
 (.seq (.ops [mt 5 0, mt 6 1, o 7 (.build zl3 [(0, 1, cs [119]), (3, 1, .t 5), (4, 1, ci 1), (5, 1, .t 6)]), o 8 (.bslice false 6 zl3 1 [(0, .t 7)]), mt 4 8] [4])
 (.ret))⟩

def c97L0 : ACode :=
 .seq (.seq (.ops [mt 8 4, mt 9 0, o 10 (.len 1 (.t 9)), o 11 (.bin .lss (.t 8) (.t 10))] [0, 3, 4, 11])
 (.cond (.t 11)
 (.skip)
 (.exit 0)))
 (.seq (.block 1 (.seq (.opsd [(0, 1), (1, 1), (2, 1), (3, 5), (4, 5), (5, 1), (6, 1), (7, 5), (8, 5), (9, 2), (10, 2), (11, 0), (12, 0)] [mt 14 0, mt 15 4, o 16 (.bin .sub (.t 15) (ci 1)), o 17 (.iadr 3 (.t 14) (.t 16)), o 18 (.ld true 3 (.t 17)), mt 19 0, mt 20 4, o 21 (.iadr 3 (.t 19) (.t 20)), o 22 (.ld true 3 (.t 21)), o 5 (.allocr 0 true 1 zl6), o 6 (.allocr 1 true 1 zl6), u (.st 3 (.t 5) (.t 18)), u (.st 3 (.t 6) (.t 22))] [0, 3, 4, 5, 6])
 (.seq (.ops [o 23 (.fadr 0 (.t 6)), o 24 (.ld false 1 (.t 23)), o 25 (.fadr 0 (.t 5)), o 26 (.ld false 1 (.t 25)), o 27 (.bin .sub (.t 24) (.t 26)), o 28 (.bin .mul (.t 27) (ci 1000000)), mt 7 28] [0, 3, 4, 5, 6, 7])
 (.opsd [(0, 1), (1, 1), (2, 1), (3, 1), (4, 1), (5, 1), (6, 1), (7, 1), (8, 1), (9, 1), (10, 1), (11, 1), (12, 1), (13, 1), (14, 1), (15, 1), (16, 1), (17, 1), (18, 1), (19, 1), (20, 0), (21, 0), (22, 1)] [mt 29 3, mt 30 7, o 31 (.fadr 1 (.t 6)), o 32 (.fadr 1 (.t 31)), o 33 (.ld false 1 (.t 32)), o 34 (.fadr 1 (.t 5)), o 35 (.fadr 0 (.t 34)), o 36 (.ld false 1 (.t 35)), o 37 (.bin .sub (.t 33) (.t 36)), o 38 (.bin .quo (.t 30) (.t 37)), mt 39 7, o 40 (.fadr 1 (.t 6)), o 41 (.fadr 0 (.t 40)), o 42 (.ld false 1 (.t 41)), o 43 (.fadr 1 (.t 5)), o 44 (.fadr 1 (.t 43)), o 45 (.ld false 1 (.t 44)), o 46 (.bin .sub (.t 42) (.t 45)), o 47 (.call true true 0 (.fn 153) [.t 39, .t 46]), o 48 (.build zl7 [(0, 1, .t 38), (1, 1, .t 47)]), o 49 (.bslice false 2 zl7 1 [(0, .t 48)]), o 50 (.app 2 16 zl7 (.t 29) (.t 49)), mt 3 50] [0, 3, 4]))))
 (.ops [mt 12 4, o 13 (.bin .add (.t 12) (ci 1)), mt 4 13] [0, 3, 4]))
def c97 : AFunc := ⟨52, [.tmp 2],
 .seq (.ops [o 2 (.mv (cn))] [0])
 (.seq (.ops [o 3 (.nilown 2)] [0, 3])
 (.seq (.seq (.ops [o 4 (.mv (ci 1))] [0, 3, 4])
 (.block 0 (.loop true [0, 3, 4] c97L0)))
 (.seq (.ops [mt 51 3, mt 2 51] [2])
 (.ret))))⟩

def c98L0 : ACode :=
 .seq (.ops [o 8 (.bin .lss (.t 7) (.t 6))] [5, 6, 7, 8])
 (.seq (.cond (.t 8)
 (.skip)
 (.exit 0))
 (.seq (.block 1 (.seq (.ops [o 9 (.iadr 1 (.t 5) (.t 7)), o 10 (.ld false 1 (.t 9)), mt 4 10] [4, 5, 6, 7])
 (.seq (.ops [mt 11 4, o 12 (.bin .neq (.t 11) (ci 0))] [4, 5, 6, 7, 12])
 (.cond (.t 12)
 (.seq (.ops [mt 13 4, mt 2 13] [2])
 (.ret))
 (.skip)))))
 (.ops [o 14 (.bin .add (.t 7) (ci 1)), mt 7 14] [5, 6, 7])))
def c98 : AFunc := ⟨15, [.tmp 2],
 .seq (.ops [o 2 (.mv (ci 0))] [0])
 (.seq (.seq (.ops [mt 5 0, o 6 (.len 1 (.t 5)), o 7 (.mv (ci 0))] [5, 6, 7])
 (.block 0 (.loop false [5, 6, 7] c98L0)))
 (.seq (.ops [o 2 (.mv (ci 0))] [2])
 (.ret)))⟩

def c99 : AFunc := ⟨19, [.tmp 2],
 .seq (.ops [o 1 (.box true (.t 0)), o 2 (.mv (ci 0))] [1])
 (.seq (.ops [o 3 (.fadr 0 (.t 1)), o 4 (.ld false 1 (.t 3)), o 5 (.bin .lss (.t 4) (ci 0)), mt 6 5, ⟨some 7, .fadr 0 (.t 1), some (6, false)⟩, ⟨some 8, .ld false 1 (.t 7), some (6, false)⟩, ⟨some 9, .fadr 1 (.t 1), some (6, false)⟩, ⟨some 10, .ld false 1 (.t 9), some (6, false)⟩, ⟨some 11, .bin .geq (.t 8) (.t 10), some (6, false)⟩, o 12 (.pick (.t 6) (cb true) (.t 11)), mt 13 12, ⟨some 14, .fadr 1 (.t 1), some (13, false)⟩, ⟨some 15, .ld false 1 (.t 14), some (13, false)⟩, ⟨some 16, .bin .gtr (.t 15) (ci 1000000), some (13, false)⟩, o 17 (.pick (.t 13) (cb true) (.t 16)), o 18 (.call true true 0 (.fn 107) [.t 17, ci 14]), mt 2 18] [2])
 (.ret))⟩

def c100L0 : ACode :=
 .seq (.seq (.ops [mt 18 6, o 19 (.bin .neq (.t 18) (ci 0))] [0, 1, 4, 5, 6, 19])
 (.cond (.t 19)
 (.skip)
 (.exit 0)))
 (.block 1 (.opsd [(0, 1), (1, 1), (2, 1), (3, 1), (4, 1), (5, 1)] [mt 20 6, mt 21 5, mt 22 6, o 23 (.bin .rem (.t 21) (.t 22)), mt 5 20, mt 6 23] [0, 1, 4, 5, 6]))
def c100 : AFunc := ⟨31, [.cell 4 true 2],
 .seq (.ops [o 4 (.alloc true 1 zl7)] [0, 1, 4])
 (.seq (.seq (.ops [mt 7 1, o 8 (.bin .lss (.t 7) (ci 0))] [0, 1, 4, 8])
 (.cond (.t 8)
 (.ops [mt 9 0, o 10 (.neg (.t 9)), mt 11 1, o 12 (.neg (.t 11)), mt 0 10, mt 1 12] [0, 1, 4])
 (.skip)))
 (.seq (.ops [mt 13 0, mt 14 0, o 15 (.neg (.t 14)), o 16 (.max [.t 13, .t 15]), mt 17 1, mt 5 16, mt 6 17] [0, 1, 4, 5, 6])
 (.seq (.block 0 (.loop false [0, 1, 4, 5, 6] c100L0))
 (.seq (.opsd [(0, 1), (1, 1), (2, 1), (3, 1), (4, 1), (5, 1), (6, 1), (7, 0)] [mt 24 0, mt 25 5, o 26 (.bin .quo (.t 24) (.t 25)), mt 27 1, mt 28 5, o 29 (.bin .quo (.t 27) (.t 28)), o 30 (.build zl7 [(0, 1, .t 26), (1, 1, .t 29)]), u (.st 2 (.t 4) (.t 30))] [4])
 (.ret)))))⟩

end Fw
