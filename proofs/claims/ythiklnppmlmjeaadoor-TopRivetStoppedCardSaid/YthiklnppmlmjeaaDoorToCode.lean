/- The functions of the program, written for the evaluator, first part: definitions alone. -/
import Derived.Test.YthiklnppmlmjeaaDoorFwC
namespace Fw
open Go
abbrev o (d : Nat) (x : AOp) : AOper := ⟨some d, x, none⟩
abbrev u (x : AOp) : AOper := ⟨none, x, none⟩
abbrev mt (d x : Nat) : AOper := ⟨some d, .mv (.t x), none⟩
abbrev zl0 : List AVal := [.p (.int .i64 0), .p (.bool false), .p (.bool false), .p (.bool false), .p (.bool false), .p (.bool false), .p (.bool false), .p (.bool false), .p (.bool false), .p (.bool false), .p (.bool false), .p (.int .i64 0), .p (.bool false), .p (.int .i64 0), .p (.int .i64 0)]
abbrev zl1 : List AVal := [.p (.int .i64 0), .p (.str []), .p (.int .i64 0), .p (.int .i64 0), .p (.int .i64 0), .p (.int .i64 0)]
abbrev zl2 : List AVal := [.p (.nils), .p (.int .i64 0), .p (.int .i64 0), .p (.int .i64 0), .p (.int .i64 0), .p (.int .i64 0)]
abbrev zl3 : List AVal := [.p (.int .i64 0), .p (.int .i64 0), .p (.nils), .p (.nils), .p (.nils)]
abbrev zl4 : List AVal := [.p (.int .i64 0), .p (.int .i64 0)]
abbrev zl5 : List AVal := [.p (.int .i64 0)]
abbrev zl6 : List AVal := [.p (.str [])]
abbrev ci (n : Int) : Opd := .c (.p (.int .i64 n))
abbrev cb (b : Bool) : Opd := .c (.p (.bool b))
abbrev cs (l : List UInt8) : Opd := .c (.p (.str l))
abbrev cn : Opd := .c (.p .nils)
abbrev cf (f : Nat) : Opd := .c (.p (.clo f [] []))
inductive Tr where | leaf | node (k : Nat) (v : AFunc) (l r : Tr)
def Tr.find : Tr → Nat → Option AFunc
 | .leaf, _ => none
 | .node k v l r, n => if n = k then some v else if n < k then l.find n else r.find n
def c4L0 : ACode :=
 .seq (.ops [o 66 (.bin .lss (.t 65) (.t 64))] [3, 7, 9, 11, 63, 64, 65, 66])
 (.seq (.cond (.t 66)
 (.skip)
 (.exit 0))
 (.seq (.block 1 (.seq (.ops [o 67 (.iadr 6 (.t 63) (.t 65)), o 68 (.ld true 6 (.t 67)), o 13 (.alloc true 1 zl1), u (.st 6 (.t 13) (.t 68))] [3, 7, 9, 11, 13, 63, 64, 65])
 (.seq (.ops [o 69 (.fadr 1 (.t 13)), o 70 (.ld false 1 (.t 69)), o 71 (.bin .eql (.t 70) (cs [97, 114, 109])), mt 72 71, ⟨some 73, .mv (.t 11), some (72, true)⟩, ⟨some 74, .bin .lss (.t 73) (ci 0), some (72, true)⟩, o 75 (.pick (.t 72) (.t 74) (cb false))] [3, 7, 9, 11, 13, 63, 64, 65, 75])
 (.cond (.t 75)
 (.ops [o 76 (.fadr 0 (.t 13)), o 77 (.ld false 1 (.t 76)), mt 11 77] [3, 7, 9, 11, 63, 64, 65])
 (.skip)))))
 (.ops [o 78 (.bin .add (.t 65) (ci 1)), mt 65 78] [3, 7, 9, 11, 63, 64, 65])))
def c4L1 : ACode :=
 .seq (.seq (.ops [mt 87 14, mt 88 7, o 89 (.bin .leq (.t 87) (.t 88)), mt 90 89, ⟨some 91, .mv (.t 9), some (90, true)⟩, ⟨some 92, .mv (.t 11), some (90, true)⟩, ⟨some 93, .mv (.t 14), some (90, true)⟩, ⟨some 94, .bin .add (.t 92) (.t 93), some (90, true)⟩, ⟨some 95, .call true true 0 (.fn 28) [.t 91, .t 94], some (90, true)⟩, o 96 (.pick (.t 90) (.t 95) (cb false))] [3, 7, 9, 11, 14, 96])
 (.cond (.t 96)
 (.skip)
 (.exit 2)))
 (.block 3 (.ops [mt 97 14, o 98 (.bin .add (.t 97) (ci 1)), mt 14 98] [3, 7, 9, 11, 14]))
def c4L2 : ACode :=
 .seq (.ops [o 150 (.bin .lss (.t 149) (.t 148))] [3, 9, 11, 14, 16, 19, 21, 109, 110, 119, 120, 148, 149, 150])
 (.seq (.cond (.t 150)
 (.skip)
 (.exit 8))
 (.seq (.block 9 (.seq (.ops [mt 151 149, mt 22 151] [3, 9, 11, 14, 16, 19, 21, 22, 109, 110, 119, 120, 148, 149])
 (.ops [mt 152 21, mt 153 22, mt 154 11, o 155 (.bin .sub (.t 153) (.t 154)), mt 156 19, o 157 (.min [.t 155, .t 156]), o 158 (.max [ci 0, .t 157]), o 159 (.bslice false 1 zl5 1 [(0, .t 158)]), o 160 (.app 1 8 zl5 (.t 152) (.t 159)), mt 21 160] [3, 9, 11, 14, 16, 19, 21, 109, 110, 119, 120, 148, 149])))
 (.ops [o 161 (.bin .add (.t 149) (ci 1)), mt 149 161] [3, 9, 11, 14, 16, 19, 21, 109, 110, 119, 120, 148, 149])))
def c4L3 : ACode :=
 .seq (.ops [o 184 (.bin .lss (.t 183) (.t 182))] [3, 9, 11, 14, 16, 19, 23, 109, 110, 119, 120, 181, 182, 183, 184])
 (.seq (.cond (.t 184)
 (.skip)
 (.exit 10))
 (.seq (.block 11 (.seq (.ops [o 185 (.iadr 1 (.t 181) (.t 183)), o 186 (.ld false 1 (.t 185)), mt 26 186] [3, 9, 11, 14, 16, 19, 23, 26, 109, 110, 119, 120, 181, 182, 183])
 (.seq (.ops [mt 187 26, mt 188 11, mt 189 14, o 190 (.bin .add (.t 188) (.t 189)), o 191 (.bin .lss (.t 187) (.t 190)), mt 192 191, ⟨some 193, .mv (.t 26), some (192, false)⟩, ⟨some 194, .mv (.t 11), some (192, false)⟩, ⟨some 195, .mv (.t 19), some (192, false)⟩, ⟨some 196, .bin .add (.t 194) (.t 195), some (192, false)⟩, ⟨some 197, .bin .gtr (.t 193) (.t 196), some (192, false)⟩, o 198 (.pick (.t 192) (cb true) (.t 197))] [3, 9, 11, 14, 16, 19, 23, 109, 110, 119, 120, 181, 182, 183, 198])
 (.cond (.t 198)
 (.seq (.ops [o 6 (.mv (cb false))] [6])
 (.ret))
 (.skip)))))
 (.ops [o 199 (.bin .add (.t 183) (ci 1)), mt 183 199] [3, 9, 11, 14, 16, 19, 23, 109, 110, 119, 120, 181, 182, 183])))
def c4L4 : ACode :=
 .seq (.ops [o 121 (.bin .lss (.t 120) (ci 2))] [3, 9, 11, 14, 16, 109, 110, 119, 120, 121])
 (.seq (.cond (.t 121)
 (.skip)
 (.exit 6))
 (.seq (.block 7 (.seq (.ops [o 122 (.idx false 1 2 (.t 119) (.t 120)), mt 18 122] [3, 9, 11, 14, 16, 18, 109, 110, 119, 120])
 (.seq (.ops [o 124 (.ld true 6 (.t 3)), o 125 (.call true false 0 (.fn 25) [.t 124]), mt 126 14, mt 127 16, mt 128 18, o 129 (.call true true 0 (.fn 29) [.t 125, .t 126, .t 127, .t 128]), mt 123 129, o 130 (.ext (.t 123) 0), o 131 (.ext (.t 123) 1), mt 19 130, mt 20 131] [3, 9, 11, 14, 16, 19, 20, 109, 110, 119, 120])
 (.seq (.seq (.ops [mt 132 20, o 133 (.bin .neq (.t 132) (ci 0)), mt 134 133, ⟨some 135, .mv (.t 19), some (134, false)⟩, ⟨some 136, .mv (.t 14), some (134, false)⟩, ⟨some 137, .bin .lss (.t 135) (.t 136), some (134, false)⟩, o 138 (.pick (.t 134) (cb true) (.t 137)), mt 139 138, ⟨some 140, .mv (.t 19), some (139, false)⟩, ⟨some 141, .fadr 5 (.t 3), some (139, false)⟩, ⟨some 142, .ld false 1 (.t 141), some (139, false)⟩, ⟨some 143, .bin .gtr (.t 140) (.t 142), some (139, false)⟩, o 144 (.pick (.t 139) (cb true) (.t 143))] [3, 9, 11, 14, 16, 19, 109, 110, 119, 120, 144])
 (.cond (.t 144)
 (.seq (.ops [o 6 (.mv (cb false))] [6])
 (.ret))
 (.skip)))
 (.seq (.ops [o 21 (.nilown 1)] [3, 9, 11, 14, 16, 19, 21, 109, 110, 119, 120])
 (.seq (.seq (.ops [mt 145 11, mt 146 19, o 147 (.bin .add (.t 145) (.t 146)), o 148 (.bin .add (.t 147) (ci 3)), o 149 (.mv (ci 0))] [3, 9, 11, 14, 16, 19, 21, 109, 110, 119, 120, 148, 149])
 (.block 8 (.loop false [3, 9, 11, 14, 16, 19, 21, 109, 110, 119, 120, 148, 149] c4L2)))
 (.seq (.ops [mt 163 21, o 164 (.bslice true 2 zl4 0 []), mt 165 9, o 166 (.app 2 16 zl4 (.t 164) (.t 165)), o 167 (.call true false 0 (.fn 30) [.t 163, .t 166]), mt 162 167, o 168 (.ext (.t 162) 0), o 169 (.ext (.t 162) 1), mt 23 168, mt 24 169] [3, 9, 11, 14, 16, 19, 23, 24, 109, 110, 119, 120])
 (.seq (.seq (.ops [mt 170 24, o 171 (.bin .neq (.t 170) (ci 0)), mt 172 171, ⟨some 173, .mv (.t 23), some (172, false)⟩, ⟨some 174, .len 1 (.t 173), some (172, false)⟩, ⟨some 175, .mv (.t 19), some (172, false)⟩, ⟨some 176, .mv (.t 14), some (172, false)⟩, ⟨some 177, .bin .sub (.t 175) (.t 176), some (172, false)⟩, ⟨some 178, .bin .add (.t 177) (ci 1), some (172, false)⟩, ⟨some 179, .bin .gtr (.t 174) (.t 178), some (172, false)⟩, o 180 (.pick (.t 172) (cb true) (.t 179))] [3, 9, 11, 14, 16, 19, 23, 109, 110, 119, 120, 180])
 (.cond (.t 180)
 (.seq (.ops [o 6 (.mv (cb false))] [6])
 (.ret))
 (.skip)))
 (.seq (.seq (.ops [mt 181 23, o 182 (.len 1 (.t 181)), o 183 (.mv (ci 0))] [3, 9, 11, 14, 16, 19, 23, 109, 110, 119, 120, 181, 182, 183])
 (.block 10 (.loop false [3, 9, 11, 14, 16, 19, 23, 109, 110, 119, 120, 181, 182, 183] c4L3)))
 (.seq (.ops [mt 200 14, o 201 (.bin .gtr (.t 200) (ci 0)), mt 202 201, ⟨some 203, .mv (.t 23), some (202, true)⟩, ⟨some 204, .len 1 (.t 203), some (202, true)⟩, ⟨some 205, .bin .eql (.t 204) (ci 0), some (202, true)⟩, ⟨some 206, .mv (.t 205), some (202, true)⟩, ⟨some 207, .mv (.t 23), some (206, false)⟩, ⟨some 208, .iadr 1 (.t 207) (ci 0), some (206, false)⟩, ⟨some 209, .ld false 1 (.t 208), some (206, false)⟩, ⟨some 210, .mv (.t 11), some (206, false)⟩, ⟨some 211, .mv (.t 14), some (206, false)⟩, ⟨some 212, .bin .add (.t 210) (.t 211), some (206, false)⟩, ⟨some 213, .bin .neq (.t 209) (.t 212), some (206, false)⟩, ⟨some 214, .pick (.t 206) (cb true) (.t 213), some (202, true)⟩, o 215 (.pick (.t 202) (.t 214) (cb false))] [3, 9, 11, 14, 16, 109, 110, 119, 120, 215])
 (.cond (.t 215)
 (.seq (.ops [o 6 (.mv (cb false))] [6])
 (.ret))
 (.skip))))))))))))
 (.ops [o 216 (.bin .add (.t 120) (ci 1)), mt 120 216] [3, 9, 11, 14, 16, 109, 110, 119, 120])))
def c4L5 : ACode :=
 .seq (.ops [o 111 (.bin .lss (.t 110) (ci 2))] [3, 9, 11, 14, 109, 110, 111])
 (.seq (.cond (.t 111)
 (.skip)
 (.exit 4))
 (.seq (.block 5 (.seq (.ops [o 112 (.idx false 1 2 (.t 109) (.t 110)), mt 16 112] [3, 9, 11, 14, 16, 109, 110])
 (.seq (.ops [o 113 (.fadr 3 (.t 3)), o 114 (.fadr 0 (.t 113)), o 115 (.ld false 1 (.t 114)), o 116 (.fadr 3 (.t 3)), o 117 (.fadr 1 (.t 116)), o 118 (.ld false 1 (.t 117)), o 119 (.build zl4 [(0, 1, .t 115), (1, 1, .t 118)]), o 120 (.mv (ci 0))] [3, 9, 11, 14, 16, 109, 110, 119, 120])
 (.block 6 (.loop true [3, 9, 11, 14, 16, 109, 110, 119, 120] c4L4)))))
 (.ops [o 217 (.bin .add (.t 110) (ci 1)), mt 110 217] [3, 9, 11, 14, 109, 110])))
def c4 : AFunc := ⟨219, [.tmp 6],
 .seq (.ops [o 3 (.box false (.t 0)), o 4 (.box false (.t 1)), o 6 (.mv (cb false))] [2, 3, 4])
 (.seq (.seq (.ops [o 27 (.ld true 6 (.t 3)), o 28 (.ld true 5 (.t 4)), mt 29 2, o 30 (.call true true 0 (.fn 22) [.t 27, .t 28, .t 29]), o 31 (.not (.t 30))] [2, 3, 4, 31])
 (.cond (.t 31)
 (.seq (.ops [o 32 (.call true true 0 (.fn 23) []), mt 6 32] [6])
 (.ret))
 (.skip)))
 (.seq (.ops [o 34 (.ld true 6 (.t 3)), o 35 (.call true false 0 (.fn 25) [.t 34]), o 36 (.call true true 0 (.fn 24) [.t 35]), mt 33 36, o 37 (.ext (.t 33) 0), o 38 (.ext (.t 33) 1), mt 7 37, mt 8 38] [2, 3, 4, 7, 8])
 (.seq (.ops [o 40 (.ld true 5 (.t 4)), o 41 (.call true false 0 (.fn 17) [.t 40]), mt 42 2, o 43 (.call true false 0 (.fn 27) [.t 42]), o 44 (.call true false 0 (.fn 26) [.t 41, .t 43]), mt 39 44, o 45 (.ext (.t 39) 0), o 46 (.ext (.t 39) 1), mt 9 45, mt 10 46] [2, 3, 7, 8, 9, 10])
 (.seq (.seq (.ops [mt 47 8, o 48 (.bin .neq (.t 47) (ci 0)), mt 49 48, ⟨some 50, .mv (.t 10), some (49, false)⟩, ⟨some 51, .bin .neq (.t 50) (ci 0), some (49, false)⟩, o 52 (.pick (.t 49) (cb true) (.t 51)), mt 53 52, ⟨some 54, .mv (.t 7), some (53, false)⟩, ⟨some 55, .bin .lss (.t 54) (ci 0), some (53, false)⟩, o 56 (.pick (.t 53) (cb true) (.t 55)), mt 57 56, ⟨some 58, .mv (.t 7), some (57, false)⟩, ⟨some 59, .fadr 5 (.t 3), some (57, false)⟩, ⟨some 60, .ld false 1 (.t 59), some (57, false)⟩, ⟨some 61, .bin .gtr (.t 58) (.t 60), some (57, false)⟩, o 62 (.pick (.t 57) (cb true) (.t 61))] [2, 3, 7, 9, 62])
 (.cond (.t 62)
 (.seq (.ops [o 6 (.mv (cb false))] [6])
 (.ret))
 (.skip)))
 (.seq (.ops [o 11 (.mv (ci (-1)))] [2, 3, 7, 9, 11])
 (.seq (.seq (.ops [mt 63 2, o 64 (.len 1 (.t 63)), o 65 (.mv (ci 0))] [3, 7, 9, 11, 63, 64, 65])
 (.block 0 (.loop true [3, 7, 9, 11, 63, 64, 65] c4L0)))
 (.seq (.seq (.ops [mt 79 11, o 80 (.bin .lss (.t 79) (ci 0))] [3, 7, 9, 11, 80])
 (.cond (.t 80)
 (.seq (.ops [mt 81 9, o 82 (.len 1 (.t 81)), o 83 (.bin .eql (.t 82) (ci 0)), mt 84 83, ⟨some 85, .call true true 0 (.fn 23) [], some (84, true)⟩, o 86 (.pick (.t 84) (.t 85) (cb false)), mt 6 86] [6])
 (.ret))
 (.skip)))
 (.seq (.ops [o 14 (.mv (ci 0))] [3, 7, 9, 11, 14])
 (.seq (.block 2 (.loop false [3, 7, 9, 11, 14] c4L1))
 (.seq (.seq (.ops [mt 99 14, mt 100 7, o 101 (.bin .gtr (.t 99) (.t 100))] [3, 9, 11, 14, 101])
 (.cond (.t 101)
 (.seq (.ops [o 102 (.call true true 0 (.fn 23) []), mt 6 102] [6])
 (.ret))
 (.skip)))
 (.seq (.seq (.ops [o 103 (.fadr 1 (.t 3)), o 104 (.fadr 0 (.t 103)), o 105 (.ld false 1 (.t 104)), o 106 (.fadr 1 (.t 3)), o 107 (.fadr 1 (.t 106)), o 108 (.ld false 1 (.t 107)), o 109 (.build zl4 [(0, 1, .t 105), (1, 1, .t 108)]), o 110 (.mv (ci 0))] [3, 9, 11, 14, 109, 110])
 (.block 4 (.loop true [3, 9, 11, 14, 109, 110] c4L5)))
 (.seq (.ops [o 218 (.call true true 0 (.fn 23) []), mt 6 218] [6])
 (.ret)))))))))))))⟩

def c7 : AFunc := ⟨22, [.tmp 2],
 .seq (.ops [o 1 (.box false (.t 0)), o 2 (.mv (cb false))] [1])
 (.seq (.ops [o 3 (.fadr 2 (.t 1)), o 4 (.iadra 1 3 (.t 3) (ci 0)), o 5 (.ld false 1 (.t 4)), o 6 (.len 1 (.t 5)), o 7 (.bin .leq (.t 6) (ci 9)), mt 8 7, ⟨some 9, .fadr 2 (.t 1), some (8, true)⟩, ⟨some 10, .iadra 1 3 (.t 9) (ci 1), some (8, true)⟩, ⟨some 11, .ld false 1 (.t 10), some (8, true)⟩, ⟨some 12, .len 1 (.t 11), some (8, true)⟩, ⟨some 13, .bin .leq (.t 12) (ci 9), some (8, true)⟩, o 14 (.pick (.t 8) (.t 13) (cb false)), mt 15 14, ⟨some 16, .fadr 2 (.t 1), some (15, true)⟩, ⟨some 17, .iadra 1 3 (.t 16) (ci 2), some (15, true)⟩, ⟨some 18, .ld false 1 (.t 17), some (15, true)⟩, ⟨some 19, .len 1 (.t 18), some (15, true)⟩, ⟨some 20, .bin .leq (.t 19) (ci 9), some (15, true)⟩, o 21 (.pick (.t 15) (.t 20) (cb false)), mt 2 21] [2])
 (.ret))⟩

def c8 : AFunc := ⟨23, [.tmp 2],
 .seq (.ops [o 1 (.box false (.t 0)), o 2 (.mv (ci 0))] [1])
 (.seq (.opsd [(0, 1), (1, 1), (2, 1), (3, 1), (4, 1), (5, 1), (6, 1), (7, 1), (8, 1), (9, 1), (10, 1), (11, 1), (12, 1), (13, 1), (14, 1), (15, 1), (16, 1), (17, 0), (18, 0), (19, 0), (20, 1)] [o 3 (.fadr 0 (.t 1)), o 4 (.ld false 1 (.t 3)), o 5 (.call true true 0 (.fn 44) [.t 4, ci 1, ci 8]), o 6 (.fadr 1 (.t 1)), o 7 (.ld false 1 (.t 6)), o 8 (.call true true 0 (.fn 44) [.t 7, ci 0, ci 1000000]), o 9 (.fadr 2 (.t 1)), o 10 (.iadra 1 3 (.t 9) (ci 0)), o 11 (.ld false 1 (.t 10)), o 12 (.call true true 0 (.fn 45) [.t 11]), o 13 (.fadr 2 (.t 1)), o 14 (.iadra 1 3 (.t 13) (ci 1)), o 15 (.ld false 1 (.t 14)), o 16 (.call true true 0 (.fn 45) [.t 15]), o 17 (.fadr 2 (.t 1)), o 18 (.iadra 1 3 (.t 17) (ci 2)), o 19 (.ld false 1 (.t 18)), o 20 (.call true true 0 (.fn 45) [.t 19]), o 21 (.bslice false 1 zl5 5 [(0, .t 5), (1, .t 8), (2, .t 12), (3, .t 16), (4, .t 20)]), o 22 (.call true true 0 (.fn 43) [.t 21]), mt 2 22] [2])
 (.ret))⟩

def c15 : AFunc := ⟨14, [.tmp 2],
 .seq (.ops [o 1 (.box true (.t 0)), o 2 (.mv (ci 0))] [1])
 (.seq (.opsd [(0, 1), (1, 1), (2, 1), (3, 1), (4, 1), (5, 1), (6, 1), (7, 1), (8, 0), (9, 0), (10, 0), (11, 1)] [o 3 (.iadra 1 3 (.t 1) (ci 0)), o 4 (.ld false 1 (.t 3)), o 5 (.call true true 0 (.fn 44) [.t 4, ci 0, ci 100000]), o 6 (.iadra 1 3 (.t 1) (ci 1)), o 7 (.ld false 1 (.t 6)), o 8 (.call true true 0 (.fn 44) [.t 7, ci 0, ci 100000]), o 9 (.iadra 1 3 (.t 1) (ci 2)), o 10 (.ld false 1 (.t 9)), o 11 (.call true true 0 (.fn 44) [.t 10, ci 0, ci 100000]), o 12 (.bslice false 1 zl5 3 [(0, .t 5), (1, .t 8), (2, .t 11)]), o 13 (.call true true 0 (.fn 43) [.t 12]), mt 2 13] [2])
 (.ret))⟩

def c17L0 : ACode :=
 .seq (.ops [o 22 (.bin .lss (.t 21) (.t 20))] [2, 3, 4, 14, 15, 19, 20, 21, 22])
 (.seq (.cond (.t 22)
 (.skip)
 (.exit 2))
 (.seq (.block 3 (.seq (.ops [o 23 (.iadr 2 (.t 19) (.t 21)), o 24 (.ld true 2 (.t 23)), o 7 (.alloc true 1 zl4), u (.st 2 (.t 7) (.t 24))] [2, 3, 4, 7, 14, 15, 19, 20, 21])
 (.opsd [(0, 1), (1, 1), (2, 1), (3, 1), (4, 1), (5, 1), (6, 1), (8, 4), (7, 3), (9, 1), (10, 0)] [mt 25 4, mt 26 4, o 27 (.fadr 2 (.t 3)), o 28 (.iadra 1 3 (.t 27) (.t 26)), o 29 (.ld false 1 (.t 28)), o 30 (.ld true 2 (.t 7)), o 31 (.bslice false 2 zl4 1 [(0, .t 30)]), o 33 (.fadr 2 (.t 3)), o 32 (.app 2 16 zl4 (.t 29) (.t 31)), o 34 (.iadra 1 3 (.t 33) (.t 25)), u (.st 1 (.t 34) (.t 32))] [2, 3, 4, 14, 15, 19, 20, 21])))
 (.ops [o 35 (.bin .add (.t 21) (ci 1)), mt 21 35] [2, 3, 4, 14, 15, 19, 20, 21])))
def c17L1 : ACode :=
 .seq (.ops [o 16 (.bin .lss (.t 15) (ci 3))] [2, 3, 14, 15, 16])
 (.seq (.cond (.t 16)
 (.skip)
 (.exit 0))
 (.seq (.block 1 (.seq (.ops [mt 17 15, o 18 (.idx false 1 3 (.t 14) (.t 15)), mt 4 17, mt 5 18] [2, 3, 4, 5, 14, 15])
 (.seq (.ops [mt 19 5, o 20 (.len 1 (.t 19)), o 21 (.mv (ci 0))] [2, 3, 4, 14, 15, 19, 20, 21])
 (.block 2 (.loop true [2, 3, 4, 14, 15, 19, 20, 21] c17L0)))))
 (.ops [o 36 (.bin .add (.t 15) (ci 1)), mt 15 36] [2, 3, 14, 15])))
def c17 : AFunc := ⟨38, [.cell 2 true 5],
 .seq (.ops [o 1 (.box false (.t 0)), o 2 (.alloc false 1 zl3)] [1, 2])
 (.seq (.ops [o 8 (.fadr 0 (.t 1)), o 9 (.ld false 1 (.t 8)), o 10 (.fadr 1 (.t 1)), o 11 (.ld false 1 (.t 10)), o 12 (.build zl3 [(0, 1, .t 9), (1, 1, .t 11)]), o 3 (.alloc false 1 zl3), u (.st 5 (.t 3) (.t 12))] [1, 2, 3])
 (.seq (.seq (.ops [o 13 (.fadr 2 (.t 1)), o 14 (.ld true 3 (.t 13)), o 15 (.mv (ci 0))] [2, 3, 14, 15])
 (.block 0 (.loop true [2, 3, 14, 15] c17L1)))
 (.seq (.ops [o 37 (.ld true 5 (.t 3)), u (.st 5 (.t 2) (.t 37))] [2])
 (.ret))))⟩

def c21L0 : ACode :=
 .seq (.seq (.ops [mt 6 5, mt 7 0, o 8 (.len 1 (.t 7)), o 9 (.bin .lss (.t 6) (.t 8))] [0, 1, 5, 9])
 (.cond (.t 9)
 (.skip)
 (.exit 0)))
 (.seq (.block 1 (.seq (.ops [mt 12 0, mt 13 5, o 14 (.iadr 1 (.t 12) (.t 13)), o 15 (.ld false 1 (.t 14)), mt 16 1, o 17 (.bin .eql (.t 15) (.t 16))] [0, 1, 5, 17])
 (.cond (.t 17)
 (.seq (.ops [o 4 (.mv (cb true))] [4])
 (.ret))
 (.skip))))
 (.ops [mt 10 5, o 11 (.bin .add (.t 10) (ci 1)), mt 5 11] [0, 1, 5]))
def c21 : AFunc := ⟨18, [.tmp 4],
 .seq (.ops [o 4 (.mv (cb false))] [0, 1])
 (.seq (.seq (.ops [o 5 (.mv (ci 0))] [0, 1, 5])
 (.block 0 (.loop false [0, 1, 5] c21L0)))
 (.seq (.ops [o 4 (.mv (cb false))] [4])
 (.ret)))⟩

def c22L0 : ACode :=
 .seq (.ops [o 42 (.bin .lss (.t 41) (.t 40))] [39, 40, 41, 42])
 (.seq (.cond (.t 42)
 (.skip)
 (.exit 0))
 (.seq (.block 1 (.seq (.ops [o 43 (.iadr 6 (.t 39) (.t 41)), o 44 (.ld true 6 (.t 43)), o 8 (.alloc true 1 zl1), u (.st 6 (.t 8) (.t 44))] [8, 39, 40, 41])
 (.seq (.ops [o 45 (.fadr 0 (.t 8)), o 46 (.ld false 1 (.t 45)), o 47 (.bin .gtr (.t 46) (ci 300))] [39, 40, 41, 47])
 (.cond (.t 47)
 (.seq (.ops [o 6 (.mv (cb false))] [6])
 (.ret))
 (.skip)))))
 (.ops [o 48 (.bin .add (.t 41) (ci 1)), mt 41 48] [39, 40, 41])))
def c22 : AFunc := ⟨49, [.tmp 6],
 .seq (.ops [o 3 (.box false (.t 0)), o 4 (.box false (.t 1)), o 6 (.mv (cb false))] [2, 3, 4])
 (.seq (.seq (.ops [o 9 (.fadr 0 (.t 3)), o 10 (.ld false 1 (.t 9)), o 11 (.len 1 (.t 10)), o 12 (.bin .gtr (.t 11) (ci 24)), mt 13 12, ⟨some 14, .ld true 6 (.t 3), some (13, false)⟩, ⟨some 15, .call true true 0 (.fn 65) [.t 14], some (13, false)⟩, ⟨some 16, .bin .neq (.t 15) (ci 0), some (13, false)⟩, o 17 (.pick (.t 13) (cb true) (.t 16)), mt 18 17, ⟨some 19, .ld true 5 (.t 4), some (18, false)⟩, ⟨some 20, .call true true 0 (.fn 7) [.t 19], some (18, false)⟩, ⟨some 21, .not (.t 20), some (18, false)⟩, o 22 (.pick (.t 18) (cb true) (.t 21)), mt 23 22, ⟨some 24, .mv (.t 2), some (23, false)⟩, ⟨some 25, .call true true 0 (.fn 66) [.t 24], some (23, false)⟩, ⟨some 26, .not (.t 25), some (23, false)⟩, o 27 (.pick (.t 23) (cb true) (.t 26)), mt 28 27, ⟨some 29, .mv (.t 2), some (28, false)⟩, ⟨some 30, .len 1 (.t 29), some (28, false)⟩, ⟨some 31, .bin .gtr (.t 30) (ci 24), some (28, false)⟩, o 32 (.pick (.t 28) (cb true) (.t 31)), mt 33 32, ⟨some 34, .ld true 5 (.t 4), some (33, false)⟩, ⟨some 35, .mv (.t 2), some (33, false)⟩, ⟨some 36, .call true true 0 (.fn 67) [.t 34, .t 35], some (33, false)⟩, ⟨some 37, .bin .neq (.t 36) (ci 0), some (33, false)⟩, o 38 (.pick (.t 33) (cb true) (.t 37))] [2, 38])
 (.cond (.t 38)
 (.seq (.ops [o 6 (.mv (cb false))] [6])
 (.ret))
 (.skip)))
 (.seq (.seq (.ops [mt 39 2, o 40 (.len 1 (.t 39)), o 41 (.mv (ci 0))] [39, 40, 41])
 (.block 0 (.loop true [39, 40, 41] c22L0)))
 (.seq (.ops [o 6 (.mv (cb true))] [6])
 (.ret))))⟩

def c23 : AFunc := ⟨56, [.tmp 0],
 .seq (.ops [o 0 (.mv (cb false))] [])
 (.seq (.ops [o 8 (.bslice false 1 zl5 6 [(0, ci 10), (1, ci 10), (2, ci 10), (3, ci 0), (4, ci 0), (5, ci 0)]), o 9 (.build zl4 [(0, 1, ci 1), (1, 1, ci 2)]), o 10 (.build zl4 [(0, 1, ci 6), (1, 1, ci 8)]), o 11 (.build zl2 [(0, 1, .t 8), (1, 2, .t 9), (3, 2, .t 10), (5, 1, ci 6)]), o 1 (.alloc false 1 zl2), u (.st 6 (.t 1) (.t 11))] [1])
 (.seq (.ops [o 13 (.ld true 6 (.t 1)), o 14 (.call true true 0 (.fn 24) [.t 13]), mt 12 14, o 15 (.ext (.t 12) 0), o 16 (.ext (.t 12) 1), mt 2 15, mt 3 16] [1, 2, 3])
 (.seq (.ops [o 18 (.ld true 6 (.t 1)), o 19 (.call true true 0 (.fn 29) [.t 18, ci 2, ci 1, ci 6]), mt 17 19, o 20 (.ext (.t 17) 0), o 21 (.ext (.t 17) 1), mt 4 20, mt 5 21] [2, 3, 4, 5])
 (.seq (.ops [o 23 (.call true false 0 (.fn 48) []), o 24 (.build zl1 [(1, 1, cs [105, 110, 115, 101, 114, 116])]), o 25 (.build zl1 [(1, 1, cs [105, 110, 115, 101, 114, 116]), (2, 1, ci 1)]), o 26 (.build zl1 [(0, 1, ci 1), (1, 1, cs [97, 114, 109])]), o 27 (.build zl1 [(0, 1, ci 3), (1, 1, cs [100, 105, 115, 97, 114, 109])]), o 28 (.bslice false 6 zl1 4 [(0, .t 24), (1, .t 25), (2, .t 26), (3, .t 27)]), o 29 (.call true false 0 (.fn 26) [.t 23, .t 28]), mt 22 29, o 30 (.ext (.t 22) 0), o 31 (.ext (.t 22) 1), mt 6 30, mt 7 31] [2, 3, 4, 5, 6, 7])
 (.seq (.ops [mt 32 3, o 33 (.bin .eql (.t 32) (ci 0)), mt 34 33, ⟨some 35, .mv (.t 5), some (34, true)⟩, ⟨some 36, .bin .eql (.t 35) (ci 0), some (34, true)⟩, o 37 (.pick (.t 34) (.t 36) (cb false)), mt 38 37, ⟨some 39, .mv (.t 7), some (38, true)⟩, ⟨some 40, .bin .eql (.t 39) (ci 0), some (38, true)⟩, o 41 (.pick (.t 38) (.t 40) (cb false)), mt 42 41, ⟨some 43, .mv (.t 2), some (42, true)⟩, ⟨some 44, .bin .eql (.t 43) (ci 2), some (42, true)⟩, o 45 (.pick (.t 42) (.t 44) (cb false)), mt 46 45, ⟨some 47, .mv (.t 4), some (46, true)⟩, ⟨some 48, .bin .eql (.t 47) (ci 5), some (46, true)⟩, o 49 (.pick (.t 46) (.t 48) (cb false)), mt 50 49, ⟨some 51, .mv (.t 6), some (50, true)⟩, ⟨some 52, .build zl4 [(0, 1, ci 1), (1, 1, ci 3)], some (50, true)⟩, ⟨some 53, .bslice false 2 zl4 1 [(0, .t 52)], some (50, true)⟩, ⟨some 54, .call true true 0 (.fn 68) [.t 51, .t 53], some (50, true)⟩, o 55 (.pick (.t 50) (.t 54) (cb false)), mt 0 55] [0])
 (.ret))))))⟩

def c24A0 : ACode :=
 .ops [mt 6 16] [5, 6]
def c24B0 : ACode :=
 .block 1 (.seq (.ops [mt 17 6, o 18 (.bin .sub (.t 17) (ci 1)), u (.st 1 (.t 5) (.t 18))] [])
 (.exit 0))
def c24 : AFunc := ⟨20, [.tmp 2, .tmp 3],
 .seq (.ops [o 1 (.box false (.t 0)), o 2 (.mv (ci 0)), o 3 (.mv (ci 0))] [1, 2, 3])
 (.scope (.seq (.seq (.ops [o 7 (.ld true 6 (.t 1)), o 8 (.call true true 0 (.fn 69) [.t 7]), mt 4 8] [1, 2, 3, 4])
 (.seq (.ops [mt 9 4, o 10 (.bin .neq (.t 9) (ci 0))] [1, 2, 3, 4, 10])
 (.cond (.t 10)
 (.seq (.ops [mt 11 4, o 2 (.mv (ci 0)), mt 3 11] [2, 3])
 (.ret))
 (.skip))))
 (.seq (.ops [o 12 (.fadr 5 (.t 1)), o 13 (.ld false 1 (.t 12)), o 5 (.alloc true 1 zl5), u (.st 1 (.t 5) (.t 13))] [1, 2, 3, 5])
 (.seq (.skip)
 (.seq (.seq (.ops [o 14 (.ld true 6 (.t 1)), o 15 (.call true false 0 (.fn 70) [.t 14])] [2, 3, 5, 15])
 (.block 0 (.rfun (.t 15) [16] c24A0 c24B0)))
 (.seq (.ops [o 19 (.ld false 1 (.t 5)), mt 2 19, o 3 (.mv (ci 0))] [2, 3])
 (.ret)))))))⟩

def c25 : AFunc := ⟨14, [.cell 2 true 6],
 .seq (.ops [o 1 (.box false (.t 0)), o 2 (.alloc false 1 zl2)] [1, 2])
 (.seq (.opsd [(1, 1), (2, 1), (4, 4), (5, 4), (6, 4), (7, 4), (8, 4), (9, 4), (0, 2), (3, 3), (10, 1), (11, 0)] [o 4 (.fadr 0 (.t 1)), o 5 (.ld false 1 (.t 4)), o 7 (.fadr 1 (.t 1)), o 8 (.ld true 2 (.t 7)), o 9 (.fadr 3 (.t 1)), o 10 (.ld true 2 (.t 9)), o 11 (.fadr 5 (.t 1)), o 12 (.ld false 1 (.t 11)), o 3 (.bslice true 1 zl5 0 []), o 6 (.app 1 8 zl5 (.t 3) (.t 5)), o 13 (.build zl2 [(0, 1, .t 6), (1, 2, .t 8), (3, 2, .t 10), (5, 1, .t 12)]), u (.st 6 (.t 2) (.t 13))] [2])
 (.ret))⟩

def c26 : AFunc := ⟨11, [.tmp 4, .tmp 5],
 .seq (.ops [o 2 (.box false (.t 0)), o 4 (.mv (cn)), o 5 (.mv (ci 0))] [1, 2])
 (.seq (.ops [o 6 (.ld true 5 (.t 2)), mt 7 1, o 8 (.call true false 0 (.fn 71) [.t 6, .t 7, cf 72]), o 9 (.ext (.t 8) 0), o 10 (.ext (.t 8) 1), mt 4 9, mt 5 10] [4, 5])
 (.ret))⟩

def c27L0 : ACode :=
 .seq (.ops [o 9 (.bin .lss (.t 8) (.t 7))] [3, 6, 7, 8, 9])
 (.seq (.cond (.t 9)
 (.skip)
 (.exit 0))
 (.seq (.block 1 (.seq (.ops [o 10 (.iadr 6 (.t 6) (.t 8)), o 11 (.ld true 6 (.t 10)), o 5 (.alloc true 1 zl1), u (.st 6 (.t 5) (.t 11))] [3, 5, 6, 7, 8])
 (.ops [mt 12 3, o 13 (.ld true 6 (.t 5)), o 14 (.bslice false 6 zl1 1 [(0, .t 13)]), o 15 (.app 6 56 zl1 (.t 12) (.t 14)), mt 3 15] [3, 6, 7, 8])))
 (.ops [o 16 (.bin .add (.t 8) (ci 1)), mt 8 16] [3, 6, 7, 8])))
def c27 : AFunc := ⟨18, [.tmp 2],
 .seq (.ops [o 2 (.mv (cn))] [0])
 (.seq (.ops [o 3 (.nilown 6)] [0, 3])
 (.seq (.seq (.ops [mt 6 0, o 7 (.len 1 (.t 6)), o 8 (.mv (ci 0))] [3, 6, 7, 8])
 (.block 0 (.loop true [3, 6, 7, 8] c27L0)))
 (.seq (.ops [mt 17 3, mt 2 17] [2])
 (.ret))))⟩

def c28L0 : ACode :=
 .seq (.ops [o 10 (.bin .lss (.t 9) (.t 8))] [1, 7, 8, 9, 10])
 (.seq (.cond (.t 10)
 (.skip)
 (.exit 0))
 (.seq (.block 1 (.seq (.ops [o 11 (.iadr 2 (.t 7) (.t 9)), o 12 (.ld true 2 (.t 11)), o 6 (.alloc true 1 zl4), u (.st 2 (.t 6) (.t 12))] [1, 6, 7, 8, 9])
 (.seq (.ops [mt 13 1, o 14 (.fadr 0 (.t 6)), o 15 (.ld false 1 (.t 14)), o 16 (.bin .geq (.t 13) (.t 15)), mt 17 16, ⟨some 18, .mv (.t 1), some (17, true)⟩, ⟨some 19, .fadr 1 (.t 6), some (17, true)⟩, ⟨some 20, .ld false 1 (.t 19), some (17, true)⟩, ⟨some 21, .bin .lss (.t 18) (.t 20), some (17, true)⟩, o 22 (.pick (.t 17) (.t 21) (cb false))] [1, 7, 8, 9, 22])
 (.cond (.t 22)
 (.seq (.ops [o 4 (.mv (cb true))] [4])
 (.ret))
 (.skip)))))
 (.ops [o 23 (.bin .add (.t 9) (ci 1)), mt 9 23] [1, 7, 8, 9])))
def c28 : AFunc := ⟨24, [.tmp 4],
 .seq (.ops [o 4 (.mv (cb false))] [0, 1])
 (.seq (.seq (.ops [mt 7 0, o 8 (.len 1 (.t 7)), o 9 (.mv (ci 0))] [1, 7, 8, 9])
 (.block 0 (.loop true [1, 7, 8, 9] c28L0)))
 (.seq (.ops [o 4 (.mv (cb false))] [4])
 (.ret)))⟩

def c29 : AFunc := ⟨53, [.tmp 8, .tmp 9],
 .seq (.ops [o 4 (.box false (.t 0)), o 8 (.mv (ci 0)), o 9 (.mv (ci 0))] [1, 2, 3, 4])
 (.seq (.seq (.ops [o 14 (.ld true 6 (.t 4)), o 15 (.call true true 0 (.fn 69) [.t 14]), mt 10 15] [1, 2, 3, 4, 10])
 (.seq (.ops [mt 16 10, o 17 (.bin .neq (.t 16) (ci 0))] [1, 2, 3, 4, 10, 17])
 (.cond (.t 17)
 (.seq (.ops [mt 18 10, o 8 (.mv (ci 0)), mt 9 18] [8, 9])
 (.ret))
 (.skip))))
 (.seq (.seq (.opsd [(0, 1), (1, 1), (2, 1), (3, 1), (4, 1), (5, 1), (6, 1), (7, 1), (8, 1), (9, 1), (10, 0), (11, 0), (12, 0), (13, 1)] [o 19 (.ld true 6 (.t 4)), mt 20 1, o 21 (.call true true 0 (.fn 74) [.t 19, .t 20]), mt 22 2, o 23 (.fadr 1 (.t 4)), o 24 (.ld true 2 (.t 23)), o 25 (.call true true 0 (.fn 75) [.t 22, .t 24]), mt 26 3, o 27 (.fadr 3 (.t 4)), o 28 (.ld true 2 (.t 27)), o 29 (.call true true 0 (.fn 75) [.t 26, .t 28]), o 30 (.bslice false 1 zl5 3 [(0, .t 21), (1, .t 25), (2, .t 29)]), o 31 (.call true true 0 (.fn 73) [.t 30]), mt 11 31] [1, 2, 3, 4, 11])
 (.seq (.ops [mt 32 11, o 33 (.bin .neq (.t 32) (ci 0))] [1, 2, 3, 4, 11, 33])
 (.cond (.t 33)
 (.seq (.ops [mt 34 11, o 8 (.mv (ci 0)), mt 9 34] [8, 9])
 (.ret))
 (.skip))))
 (.seq (.ops [mt 36 1, o 37 (.ld true 6 (.t 4)), mt 38 2, o 39 (.call true false 0 (.fn 77) [.t 37, .t 38]), mt 40 1, o 41 (.iadr 1 (.t 39) (.t 40)), o 42 (.ld false 1 (.t 41)), mt 43 2, mt 44 3, o 45 (.bin .add (.t 43) (.t 44)), o 46 (.call true true 0 (.fn 76) [.t 36, .t 42, .t 45]), mt 35 46, o 47 (.ext (.t 35) 0), o 48 (.ext (.t 35) 1), mt 12 47, mt 13 48] [12, 13])
 (.seq (.ops [mt 49 12, mt 50 13, o 51 (.not (.t 50)), o 52 (.call true true 0 (.fn 78) [.t 51, ci 7]), mt 8 49, mt 9 52] [8, 9])
 (.ret)))))⟩

def c30L0 : ACode :=
 .seq (.ops [o 35 (.bin .lss (.t 34) (.t 33))] [0, 1, 8, 32, 33, 34, 35])
 (.seq (.cond (.t 35)
 (.skip)
 (.exit 0))
 (.seq (.block 1 (.seq (.ops [o 36 (.iadr 2 (.t 32) (.t 34)), o 37 (.ld true 2 (.t 36)), o 10 (.alloc true 1 zl4), u (.st 2 (.t 10) (.t 37))] [0, 1, 8, 10, 32, 33, 34])
 (.seq (.seq (.opsd [(0, 1), (1, 1), (2, 1), (3, 1), (4, 1), (5, 1), (6, 1), (7, 1), (8, 1), (9, 1), (10, 1), (11, 1), (12, 1), (13, 1), (14, 1), (15, 1), (16, 1), (17, 1), (18, 1), (19, 1), (20, 0), (21, 0), (22, 0), (23, 1)] [o 38 (.fadr 0 (.t 10)), o 39 (.ld false 1 (.t 38)), o 40 (.bin .lss (.t 39) (ci 0)), mt 41 40, ⟨some 42, .fadr 0 (.t 10), some (41, false)⟩, ⟨some 43, .ld false 1 (.t 42), some (41, false)⟩, ⟨some 44, .fadr 1 (.t 10), some (41, false)⟩, ⟨some 45, .ld false 1 (.t 44), some (41, false)⟩, ⟨some 46, .bin .geq (.t 43) (.t 45), some (41, false)⟩, o 47 (.pick (.t 41) (cb true) (.t 46)), mt 48 47, ⟨some 49, .fadr 1 (.t 10), some (48, false)⟩, ⟨some 50, .ld false 1 (.t 49), some (48, false)⟩, ⟨some 51, .bin .gtr (.t 50) (ci 100000000), some (48, false)⟩, o 52 (.pick (.t 48) (cb true) (.t 51)), o 53 (.call true true 0 (.fn 81) [.t 52, ci 14]), o 54 (.fadr 0 (.t 10)), o 55 (.ld false 1 (.t 54)), mt 56 8, o 57 (.bin .lss (.t 55) (.t 56)), o 58 (.call true true 0 (.fn 81) [.t 57, ci 15]), o 59 (.bslice false 1 zl5 2 [(0, .t 53), (1, .t 58)]), o 60 (.call true true 0 (.fn 56) [.t 59]), mt 11 60] [0, 1, 10, 11, 32, 33, 34])
 (.seq (.ops [mt 61 11, o 62 (.bin .neq (.t 61) (ci 0))] [0, 1, 10, 11, 32, 33, 34, 62])
 (.cond (.t 62)
 (.seq (.ops [mt 63 11, o 4 (.mv (cn)), mt 5 63] [4, 5])
 (.ret))
 (.skip))))
 (.ops [o 64 (.fadr 1 (.t 10)), o 65 (.ld false 1 (.t 64)), mt 8 65] [0, 1, 8, 32, 33, 34]))))
 (.ops [o 66 (.bin .add (.t 34) (ci 1)), mt 34 66] [0, 1, 8, 32, 33, 34])))
def c30L1 : ACode :=
 .seq (.seq (.ops [o 67 (.ld false 1 (.t 13)), mt 68 0, o 69 (.len 1 (.t 68)), o 70 (.bin .lss (.t 67) (.t 69))] [0, 1, 12, 13, 70])
 (.cond (.t 70)
 (.skip)
 (.exit 2)))
 (.seq (.block 3 (.seq (.ops [o 73 (.mkclo 83 [] [.t 13]), mt 14 73] [0, 1, 12, 13, 14])
 (.seq (.opsd [(0, 1), (1, 1), (2, 1), (3, 1), (4, 1), (5, 1), (6, 1), (7, 1), (8, 1), (9, 1), (10, 1), (11, 1), (12, 1), (13, 0), (14, 1), (15, 1)] [mt 74 0, o 75 (.ld false 1 (.t 13)), o 76 (.iadr 1 (.t 74) (.t 75)), o 77 (.ld false 1 (.t 76)), mt 78 0, o 79 (.ld false 1 (.t 13)), o 80 (.bin .sub (.t 79) (ci 1)), o 81 (.iadr 1 (.t 78) (.t 80)), o 82 (.ld false 1 (.t 81)), o 83 (.bin .neq (.t 77) (.t 82)), mt 84 83, ⟨some 85, .mv (.t 1), some (84, true)⟩, ⟨some 86, .mv (.t 14), some (84, true)⟩, ⟨some 87, .call true true 0 (.fn 84) [.t 85, .t 86], some (84, true)⟩, ⟨some 88, .not (.t 87), some (84, true)⟩, o 89 (.pick (.t 84) (.t 88) (cb false))] [0, 1, 12, 13, 89])
 (.cond (.t 89)
 (.ops [mt 90 12, o 91 (.ld false 1 (.t 13)), o 92 (.bslice false 1 zl5 1 [(0, .t 91)]), o 93 (.app 1 8 zl5 (.t 90) (.t 92)), mt 12 93] [0, 1, 12, 13])
 (.skip)))))
 (.seq (.seq (.ops [o 94 (.ld false 1 (.t 13))] [0, 1, 12, 94])
 (.ops [o 13 (.alloc true 1 zl5), u (.st 1 (.t 13) (.t 94))] [0, 1, 12, 13]))
 (.ops [o 71 (.ld false 1 (.t 13)), o 72 (.bin .add (.t 71) (ci 1)), u (.st 1 (.t 13) (.t 72))] [0, 1, 12, 13])))
def c30 : AFunc := ⟨96, [.tmp 4, .tmp 5],
 .seq (.ops [o 4 (.mv (cn)), o 5 (.mv (ci 0))] [0, 1])
 (.seq (.ops [o 6 (.mv (cf 79))] [0, 1, 6])
 (.seq (.seq (.ops [mt 15 0, o 16 (.len 1 (.t 15)), o 17 (.bin .gtr (.t 16) (ci 1024)), o 18 (.call true true 0 (.fn 81) [.t 17, ci 5]), mt 19 0, mt 20 6, o 21 (.call true false 0 (.fn 82) [.t 19, .t 20]), o 22 (.call true true 0 (.fn 56) [.t 21]), mt 23 1, o 24 (.len 1 (.t 23)), o 25 (.bin .gtr (.t 24) (ci 32)), o 26 (.call true true 0 (.fn 81) [.t 25, ci 5]), o 27 (.bslice false 1 zl5 3 [(0, .t 18), (1, .t 22), (2, .t 26)]), o 28 (.call true true 0 (.fn 56) [.t 27]), mt 7 28] [0, 1, 7])
 (.seq (.ops [mt 29 7, o 30 (.bin .neq (.t 29) (ci 0))] [0, 1, 7, 30])
 (.cond (.t 30)
 (.seq (.ops [mt 31 7, o 4 (.mv (cn)), mt 5 31] [4, 5])
 (.ret))
 (.skip))))
 (.seq (.ops [o 8 (.mv (ci 0))] [0, 1, 8])
 (.seq (.seq (.ops [mt 32 1, o 33 (.len 1 (.t 32)), o 34 (.mv (ci 0))] [0, 1, 8, 32, 33, 34])
 (.block 0 (.loop true [0, 1, 8, 32, 33, 34] c30L0)))
 (.seq (.ops [o 12 (.nilown 1)] [0, 1, 12])
 (.seq (.seq (.ops [o 13 (.alloc true 1 zl5), u (.st 1 (.t 13) (ci 1))] [0, 1, 12, 13])
 (.block 2 (.loop true [0, 1, 12, 13] c30L1)))
 (.seq (.ops [mt 95 12, mt 4 95, o 5 (.mv (ci 0))] [4, 5])
 (.ret))))))))⟩

def c43L0 : ACode :=
 .seq (.seq (.ops [mt 4 3, mt 5 0, o 6 (.len 1 (.t 5)), o 7 (.bin .lss (.t 4) (.t 6))] [0, 3, 7])
 (.cond (.t 7)
 (.skip)
 (.exit 0)))
 (.seq (.block 1 (.seq (.ops [mt 10 0, mt 11 3, o 12 (.iadr 1 (.t 10) (.t 11)), o 13 (.ld false 1 (.t 12)), o 14 (.bin .neq (.t 13) (ci 0))] [0, 3, 14])
 (.cond (.t 14)
 (.seq (.ops [mt 15 0, mt 16 3, o 17 (.iadr 1 (.t 15) (.t 16)), o 18 (.ld false 1 (.t 17)), mt 2 18] [2])
 (.ret))
 (.skip))))
 (.ops [mt 8 3, o 9 (.bin .add (.t 8) (ci 1)), mt 3 9] [0, 3]))
def c43 : AFunc := ⟨19, [.tmp 2],
 .seq (.ops [o 2 (.mv (ci 0))] [0])
 (.seq (.seq (.ops [o 3 (.mv (ci 0))] [0, 3])
 (.block 0 (.loop false [0, 3] c43L0)))
 (.seq (.ops [o 2 (.mv (ci 0))] [2])
 (.ret)))⟩

def c44 : AFunc := ⟨16, [.tmp 6],
 .seq (.ops [o 6 (.mv (ci 0))] [0, 1, 2])
 (.seq (.ops [mt 7 0, mt 8 1, o 9 (.bin .lss (.t 7) (.t 8)), mt 10 9, ⟨some 11, .mv (.t 0), some (10, false)⟩, ⟨some 12, .mv (.t 2), some (10, false)⟩, ⟨some 13, .bin .gtr (.t 11) (.t 12), some (10, false)⟩, o 14 (.pick (.t 10) (cb true) (.t 13)), o 15 (.call true true 0 (.fn 47) [.t 14, ci 3]), mt 6 15] [6])
 (.ret))⟩

def c45L0 : ACode :=
 .seq (.seq (.ops [mt 19 4, mt 20 0, o 21 (.len 1 (.t 20)), o 22 (.bin .lss (.t 19) (.t 21))] [0, 4, 22])
 (.cond (.t 22)
 (.skip)
 (.exit 0)))
 (.seq (.block 1 (.seq (.seq (.opsd [(0, 1), (1, 1), (2, 1), (3, 1), (4, 1), (5, 1), (6, 1), (7, 1), (8, 5), (9, 5), (10, 1), (11, 0), (12, 0), (13, 0), (14, 1)] [mt 25 0, mt 26 4, o 27 (.iadr 2 (.t 25) (.t 26)), o 28 (.fadr 0 (.t 27)), o 29 (.ld false 1 (.t 28)), o 30 (.call true true 0 (.fn 44) [.t 29, ci 0, ci 100000]), mt 31 0, mt 32 4, o 33 (.iadr 2 (.t 31) (.t 32)), o 34 (.fadr 1 (.t 33)), o 35 (.ld false 1 (.t 34)), o 36 (.call true true 0 (.fn 44) [.t 35, ci 0, ci 1000000]), o 37 (.bslice false 1 zl5 2 [(0, .t 30), (1, .t 36)]), o 38 (.call true true 0 (.fn 43) [.t 37]), mt 5 38] [0, 4, 5])
 (.seq (.ops [mt 39 5, o 40 (.bin .neq (.t 39) (ci 0))] [0, 4, 5, 40])
 (.cond (.t 40)
 (.seq (.ops [mt 41 5, mt 2 41] [2])
 (.ret))
 (.skip))))
 (.seq (.opsd [(0, 1), (1, 1), (2, 1), (3, 1), (4, 1), (5, 1), (6, 1), (7, 1), (8, 1), (9, 1), (10, 1), (11, 1), (12, 1), (13, 1), (14, 1), (15, 1), (16, 1), (17, 1), (18, 1), (19, 1), (20, 1), (21, 1), (22, 1), (23, 1), (24, 1), (25, 1), (26, 1), (27, 1), (28, 1), (29, 1), (30, 1), (31, 1), (32, 1), (33, 1), (34, 1), (35, 1), (36, 1), (37, 1), (38, 1), (39, 1), (40, 1), (41, 1)] [mt 42 4, o 43 (.bin .eql (.t 42) (ci 0)), mt 44 43, ⟨some 45, .mv (.t 0), some (44, true)⟩, ⟨some 46, .mv (.t 4), some (44, true)⟩, ⟨some 47, .iadr 2 (.t 45) (.t 46), some (44, true)⟩, ⟨some 48, .fadr 0 (.t 47), some (44, true)⟩, ⟨some 49, .ld false 1 (.t 48), some (44, true)⟩, ⟨some 50, .bin .neq (.t 49) (ci 0), some (44, true)⟩, o 51 (.pick (.t 44) (.t 50) (cb false)), mt 52 51, ⟨some 53, .mv (.t 4), some (52, false)⟩, ⟨some 54, .bin .gtr (.t 53) (ci 0), some (52, false)⟩, ⟨some 55, .mv (.t 54), some (52, false)⟩, ⟨some 56, .mv (.t 0), some (55, true)⟩, ⟨some 57, .mv (.t 4), some (55, true)⟩, ⟨some 58, .iadr 2 (.t 56) (.t 57), some (55, true)⟩, ⟨some 59, .fadr 0 (.t 58), some (55, true)⟩, ⟨some 60, .ld false 1 (.t 59), some (55, true)⟩, ⟨some 61, .mv (.t 0), some (55, true)⟩, ⟨some 62, .mv (.t 4), some (55, true)⟩, ⟨some 63, .bin .sub (.t 62) (ci 1), some (55, true)⟩, ⟨some 64, .iadr 2 (.t 61) (.t 63), some (55, true)⟩, ⟨some 65, .fadr 0 (.t 64), some (55, true)⟩, ⟨some 66, .ld false 1 (.t 65), some (55, true)⟩, ⟨some 67, .bin .leq (.t 60) (.t 66), some (55, true)⟩, ⟨some 68, .mv (.t 67), some (55, true)⟩, ⟨some 69, .mv (.t 0), some (68, false)⟩, ⟨some 70, .mv (.t 4), some (68, false)⟩, ⟨some 71, .iadr 2 (.t 69) (.t 70), some (68, false)⟩, ⟨some 72, .fadr 1 (.t 71), some (68, false)⟩, ⟨some 73, .ld false 1 (.t 72), some (68, false)⟩, ⟨some 74, .mv (.t 0), some (68, false)⟩, ⟨some 75, .mv (.t 4), some (68, false)⟩, ⟨some 76, .bin .sub (.t 75) (ci 1), some (68, false)⟩, ⟨some 77, .iadr 2 (.t 74) (.t 76), some (68, false)⟩, ⟨some 78, .fadr 1 (.t 77), some (68, false)⟩, ⟨some 79, .ld false 1 (.t 78), some (68, false)⟩, ⟨some 80, .bin .lss (.t 73) (.t 79), some (68, false)⟩, ⟨some 81, .pick (.t 68) (cb true) (.t 80), some (55, true)⟩, ⟨some 82, .pick (.t 55) (.t 81) (cb false), some (52, false)⟩, o 83 (.pick (.t 52) (cb true) (.t 82))] [0, 4, 83])
 (.cond (.t 83)
 (.seq (.ops [o 2 (.mv (ci 11))] [2])
 (.ret))
 (.skip)))))
 (.ops [mt 23 4, o 24 (.bin .add (.t 23) (ci 1)), mt 4 24] [0, 4]))
def c45 : AFunc := ⟨84, [.tmp 2],
 .seq (.ops [o 2 (.mv (ci 0))] [0])
 (.seq (.seq (.ops [mt 6 0, o 7 (.len 1 (.t 6)), o 8 (.bin .eql (.t 7) (ci 0)), o 9 (.call true true 0 (.fn 47) [.t 8, ci 12]), mt 10 0, o 11 (.len 1 (.t 10)), o 12 (.bin .gtr (.t 11) (ci 8)), o 13 (.call true true 0 (.fn 47) [.t 12, ci 5]), o 14 (.bslice false 1 zl5 2 [(0, .t 9), (1, .t 13)]), o 15 (.call true true 0 (.fn 43) [.t 14]), mt 3 15] [0, 3])
 (.seq (.ops [mt 16 3, o 17 (.bin .neq (.t 16) (ci 0))] [0, 3, 17])
 (.cond (.t 17)
 (.seq (.ops [mt 18 3, mt 2 18] [2])
 (.ret))
 (.skip))))
 (.seq (.seq (.ops [o 4 (.mv (ci 0))] [0, 4])
 (.block 0 (.loop false [0, 4] c45L0)))
 (.seq (.ops [o 2 (.mv (ci 0))] [2])
 (.ret))))⟩

def c47 : AFunc := ⟨7, [.tmp 4],
 .seq (.ops [o 4 (.mv (ci 0))] [0, 1])
 (.seq (.seq (.ops [mt 5 0] [1, 5])
 (.cond (.t 5)
 (.seq (.ops [mt 6 1, mt 4 6] [4])
 (.ret))
 (.skip)))
 (.seq (.ops [o 4 (.mv (ci 0))] [4])
 (.ret)))⟩

def c48 : AFunc := ⟨9, [.cell 0 true 5],
 .seq (.ops [o 0 (.alloc false 1 zl3)] [0])
 (.seq (.ops [o 1 (.build zl4 []), o 2 (.bslice false 2 zl4 1 [(0, .t 1)]), o 3 (.build zl4 []), o 4 (.bslice false 2 zl4 1 [(0, .t 3)]), o 5 (.build zl4 []), o 6 (.bslice false 2 zl4 1 [(0, .t 5)]), o 7 (.build [.p (.nils), .p (.nils), .p (.nils)] [(0, 1, .t 2), (1, 1, .t 4), (2, 1, .t 6)]), o 8 (.build zl3 [(0, 1, ci 1), (2, 3, .t 7)]), u (.st 5 (.t 0) (.t 8))] [0])
 (.ret))⟩

def c50L0 : ACode :=
 .seq (.ops [o 8 (.bin .lss (.t 7) (.t 6))] [5, 6, 7, 8])
 (.seq (.cond (.t 8)
 (.skip)
 (.exit 0))
 (.seq (.block 1 (.seq (.ops [o 9 (.iadr 1 (.t 5) (.t 7)), o 10 (.ld false 1 (.t 9)), mt 4 10] [4, 5, 6, 7])
 (.seq (.ops [mt 11 4, o 12 (.bin .neq (.t 11) (ci 0))] [4, 5, 6, 7, 12])
 (.cond (.t 12)
 (.seq (.ops [mt 13 4, mt 2 13] [2])
 (.ret))
 (.skip)))))
 (.ops [o 14 (.bin .add (.t 7) (ci 1)), mt 7 14] [5, 6, 7])))
def c50 : AFunc := ⟨15, [.tmp 2],
 .seq (.ops [o 2 (.mv (ci 0))] [0])
 (.seq (.seq (.ops [mt 5 0, o 6 (.len 1 (.t 5)), o 7 (.mv (ci 0))] [5, 6, 7])
 (.block 0 (.loop false [5, 6, 7] c50L0)))
 (.seq (.ops [o 2 (.mv (ci 0))] [2])
 (.ret)))⟩

def c56L0 : ACode :=
 .seq (.ops [o 8 (.bin .lss (.t 7) (.t 6))] [5, 6, 7, 8])
 (.seq (.cond (.t 8)
 (.skip)
 (.exit 0))
 (.seq (.block 1 (.seq (.ops [o 9 (.iadr 1 (.t 5) (.t 7)), o 10 (.ld false 1 (.t 9)), mt 4 10] [4, 5, 6, 7])
 (.seq (.ops [mt 11 4, o 12 (.bin .neq (.t 11) (ci 0))] [4, 5, 6, 7, 12])
 (.cond (.t 12)
 (.seq (.ops [mt 13 4, mt 2 13] [2])
 (.ret))
 (.skip)))))
 (.ops [o 14 (.bin .add (.t 7) (ci 1)), mt 7 14] [5, 6, 7])))
def c56 : AFunc := ⟨15, [.tmp 2],
 .seq (.ops [o 2 (.mv (ci 0))] [0])
 (.seq (.seq (.ops [mt 5 0, o 6 (.len 1 (.t 5)), o 7 (.mv (ci 0))] [5, 6, 7])
 (.block 0 (.loop false [5, 6, 7] c56L0)))
 (.seq (.ops [o 2 (.mv (ci 0))] [2])
 (.ret)))⟩

def c57 : AFunc := ⟨15, [.tmp 2],
 .seq (.ops [o 1 (.box true (.t 0)), o 2 (.mv (ci 0))] [1])
 (.seq (.opsd [(0, 1), (1, 1), (2, 1), (3, 1), (4, 1), (5, 1), (6, 1), (7, 1), (8, 0), (9, 0), (10, 0), (11, 0), (12, 1)] [o 3 (.fadr 0 (.t 1)), o 4 (.ld false 1 (.t 3)), o 5 (.call true true 0 (.fn 80) [.t 4, ci 1, ci 8]), o 6 (.fadr 1 (.t 1)), o 7 (.ld false 1 (.t 6)), o 8 (.call true true 0 (.fn 80) [.t 7, ci 0, ci 1000000]), o 9 (.fadr 2 (.t 1)), o 10 (.slca 1 3 (.t 9) none none), o 11 (.call true false 0 (.fn 105) [.t 10, cf 106]), o 12 (.call true true 0 (.fn 56) [.t 11]), o 13 (.bslice false 1 zl5 3 [(0, .t 5), (1, .t 8), (2, .t 12)]), o 14 (.call true true 0 (.fn 56) [.t 13]), mt 2 14] [2])
 (.ret))⟩

def c58 : AFunc := ⟨6, [.tmp 2],
 .seq (.ops [o 1 (.box true (.t 0)), o 2 (.mv (ci 0))] [1])
 (.seq (.ops [o 3 (.slca 1 3 (.t 1) none none), o 4 (.call true false 0 (.fn 82) [.t 3, cf 107]), o 5 (.call true true 0 (.fn 56) [.t 4]), mt 2 5] [2])
 (.ret))⟩

def c59L0 : ACode :=
 .seq (.ops [o 19 (.bin .lss (.t 18) (.t 17))] [3, 5, 6, 11, 12, 16, 17, 18, 19])
 (.seq (.cond (.t 19)
 (.skip)
 (.exit 2))
 (.seq (.block 3 (.seq (.ops [o 20 (.iadr 2 (.t 16) (.t 18)), o 21 (.ld true 2 (.t 20)), o 9 (.alloc true 1 zl4), u (.st 2 (.t 9) (.t 21))] [3, 5, 6, 9, 11, 12, 16, 17, 18])
 (.seq (.opsd [(0, 1), (1, 1), (2, 1), (3, 1), (4, 1), (5, 1)] [o 22 (.fadr 0 (.t 9)), o 23 (.ld false 1 (.t 22)), mt 24 6, o 25 (.iadra 1 3 (.t 3) (.t 24)), o 26 (.ld false 1 (.t 25)), o 27 (.bin .leq (.t 23) (.t 26))] [3, 5, 6, 9, 11, 12, 16, 17, 18, 27])
 (.cond (.t 27)
 (.ops [mt 28 5, o 29 (.fadr 1 (.t 9)), o 30 (.ld false 1 (.t 29)), o 31 (.max [.t 28, .t 30]), mt 5 31] [3, 5, 6, 11, 12, 16, 17, 18])
 (.skip)))))
 (.ops [o 32 (.bin .add (.t 18) (ci 1)), mt 18 32] [3, 5, 6, 11, 12, 16, 17, 18])))
def c59L1 : ACode :=
 .seq (.ops [o 13 (.bin .lss (.t 12) (ci 3))] [3, 5, 11, 12, 13])
 (.seq (.cond (.t 13)
 (.skip)
 (.exit 0))
 (.seq (.block 1 (.seq (.ops [mt 14 12, o 15 (.idx false 1 3 (.t 11) (.t 12)), mt 6 14, mt 7 15] [3, 5, 6, 7, 11, 12])
 (.seq (.ops [mt 16 7, o 17 (.len 1 (.t 16)), o 18 (.mv (ci 0))] [3, 5, 6, 11, 12, 16, 17, 18])
 (.block 2 (.loop true [3, 5, 6, 11, 12, 16, 17, 18] c59L0)))))
 (.ops [o 33 (.bin .add (.t 12) (ci 1)), mt 12 33] [3, 5, 11, 12])))
def c59 : AFunc := ⟨35, [.tmp 4],
 .seq (.ops [o 2 (.box false (.t 0)), o 3 (.box true (.t 1)), o 4 (.mv (ci 0))] [2, 3])
 (.seq (.ops [o 5 (.mv (ci 0))] [2, 3, 5])
 (.seq (.seq (.ops [o 10 (.fadr 2 (.t 2)), o 11 (.ld true 3 (.t 10)), o 12 (.mv (ci 0))] [3, 5, 11, 12])
 (.block 0 (.loop true [3, 5, 11, 12] c59L1)))
 (.seq (.ops [mt 34 5, mt 4 34] [4])
 (.ret))))⟩

def c60A0 : ACode :=
 .ops [o 10 (.alloc true 1 zl0), u (.st 15 (.t 10) (.t 21))] [8, 10]
def c60B0 : ACode :=
 .block 1 (.ops [o 22 (.ld false 1 (.t 8)), o 23 (.ld true 15 (.t 10)), o 24 (.bslice false 15 zl0 1 [(0, .t 23)]), o 25 (.app 15 56 zl0 (.t 22) (.t 24)), u (.st 1 (.t 8) (.t 25))] [])
def c60 : AFunc := ⟨34, [.tmp 4, .tmp 5, .tmp 6],
 .seq (.ops [o 2 (.box false (.t 0)), o 4 (.mv (cn)), o 5 (.mv (ci 0)), o 6 (.mv (ci 0))] [1, 2, 4, 5, 6])
 (.seq (.seq (.ops [o 11 (.ld true 5 (.t 2)), mt 12 1, o 13 (.call true true 0 (.fn 62) [.t 11, .t 12]), mt 7 13] [1, 2, 4, 5, 6, 7])
 (.seq (.ops [mt 14 7, o 15 (.bin .neq (.t 14) (ci 0))] [1, 2, 4, 5, 6, 7, 15])
 (.cond (.t 15)
 (.seq (.ops [mt 16 7, o 4 (.mv (cn)), o 5 (.mv (ci 0)), mt 6 16] [4, 5, 6])
 (.ret))
 (.skip))))
 (.seq (.ops [o 8 (.allocown 15)] [1, 2, 4, 5, 6, 8])
 (.seq (.seq (.ops [o 17 (.ld true 5 (.t 2)), mt 18 1, o 19 (.call true false 0 (.fn 108) [.t 17, .t 18])] [1, 4, 5, 6, 8, 19])
 (.block 0 (.rfun (.t 19) [20, 21] c60A0 c60B0)))
 (.seq (.seq (.ops [o 26 (.ld false 1 (.t 8)), o 27 (.len 1 (.t 26)), mt 28 1, o 29 (.len 1 (.t 28)), o 30 (.bin .lss (.t 27) (.t 29))] [8, 30])
 (.cond (.t 30)
 (.seq (.opsd [(0, 1), (1, 1), (2, 1), (3, 1), (4, 1)] [o 31 (.ld false 1 (.t 8)), o 32 (.len 1 (.t 31)), o 4 (.mv (cn)), mt 5 32, o 6 (.mv (ci 21))] [4, 5, 6])
 (.ret))
 (.skip)))
 (.seq (.ops [o 33 (.ld false 1 (.t 8)), mt 4 33, o 5 (.mv (ci 0)), o 6 (.mv (ci 0))] [4, 5, 6])
 (.ret))))))⟩

def c62L0 : ACode :=
 .seq (.ops [o 23 (.bin .lss (.t 22) (.t 21))] [2, 20, 21, 22, 23])
 (.seq (.cond (.t 23)
 (.skip)
 (.exit 0))
 (.seq (.block 1 (.seq (.ops [o 24 (.iadr 6 (.t 20) (.t 22)), o 25 (.ld true 6 (.t 24)), o 7 (.alloc true 1 zl1), u (.st 6 (.t 7) (.t 25))] [2, 7, 20, 21, 22])
 (.seq (.ops [o 26 (.ld true 6 (.t 7)), o 27 (.ld true 5 (.t 2)), o 28 (.call true true 0 (.fn 63) [.t 26, .t 27]), mt 8 28] [2, 8, 20, 21, 22])
 (.seq (.ops [mt 29 8, o 30 (.bin .neq (.t 29) (ci 0))] [2, 8, 20, 21, 22, 30])
 (.cond (.t 30)
 (.seq (.ops [mt 31 8, mt 4 31] [4])
 (.ret))
 (.skip))))))
 (.ops [o 32 (.bin .add (.t 22) (ci 1)), mt 22 32] [2, 20, 21, 22])))
def c62 : AFunc := ⟨33, [.tmp 4],
 .seq (.ops [o 2 (.box false (.t 0)), o 4 (.mv (ci 0))] [1, 2])
 (.seq (.seq (.ops [o 9 (.ld true 5 (.t 2)), o 10 (.call true true 0 (.fn 57) [.t 9]), mt 11 1, o 12 (.len 1 (.t 11)), o 13 (.bin .gtr (.t 12) (ci 1000)), o 14 (.call true true 0 (.fn 81) [.t 13, ci 5]), o 15 (.bslice false 1 zl5 2 [(0, .t 10), (1, .t 14)]), o 16 (.call true true 0 (.fn 56) [.t 15]), mt 5 16] [1, 2, 5])
 (.seq (.ops [mt 17 5, o 18 (.bin .neq (.t 17) (ci 0))] [1, 2, 5, 18])
 (.cond (.t 18)
 (.seq (.ops [mt 19 5, mt 4 19] [4])
 (.ret))
 (.skip))))
 (.seq (.seq (.ops [mt 20 1, o 21 (.len 1 (.t 20)), o 22 (.mv (ci 0))] [2, 20, 21, 22])
 (.block 0 (.loop true [2, 20, 21, 22] c62L0)))
 (.seq (.ops [o 4 (.mv (ci 0))] [4])
 (.ret))))⟩

def c63 : AFunc := ⟨48, [.tmp 4],
 .seq (.ops [o 2 (.box true (.t 0)), o 3 (.box false (.t 1)), o 4 (.mv (ci 0))] [2, 3])
 (.seq (.seq (.ops [o 8 (.fadr 0 (.t 2)), o 9 (.ld false 1 (.t 8)), o 10 (.call true true 0 (.fn 80) [.t 9, ci 0, ci 100000000]), mt 5 10] [2, 3, 5])
 (.seq (.ops [mt 11 5, o 12 (.bin .neq (.t 11) (ci 0))] [2, 3, 5, 12])
 (.cond (.t 12)
 (.seq (.ops [mt 13 5, mt 4 13] [4])
 (.ret))
 (.skip))))
 (.seq (.opsd [(0, 1), (1, 1), (2, 1), (3, 1), (4, 1), (5, 1), (6, 1), (7, 1), (8, 1)] [o 15 (.call true false 0 (.fn 110) []), o 16 (.fadr 1 (.t 2)), o 17 (.ld false 1 (.t 16)), o 18 (.lkup 1 (.p (.int .i64 0)) (.t 15) (.t 17) true), mt 14 18, o 19 (.ext (.t 14) 0), o 20 (.ext (.t 14) 1), mt 6 19, mt 7 20] [2, 3, 6, 7])
 (.seq (.seq (.ops [mt 21 7, o 22 (.not (.t 21))] [2, 3, 6, 22])
 (.cond (.t 22)
 (.seq (.ops [o 4 (.mv (ci 13))] [4])
 (.ret))
 (.skip)))
 (.seq (.seq (.opsd [(0, 1), (1, 1), (2, 1), (3, 1), (4, 1), (5, 1), (6, 1), (7, 1), (8, 1), (9, 1), (10, 1), (11, 1), (12, 1), (13, 1)] [o 23 (.fadr 2 (.t 2)), o 24 (.ld false 1 (.t 23)), o 25 (.bin .lss (.t 24) (ci 0)), mt 26 25, ⟨some 27, .fadr 2 (.t 2), some (26, false)⟩, ⟨some 28, .ld false 1 (.t 27), some (26, false)⟩, ⟨some 29, .mv (.t 6), some (26, false)⟩, ⟨some 30, .iadra 4 10 (.g 0) (.t 29), some (26, false)⟩, ⟨some 31, .fadr 1 (.t 30), some (26, false)⟩, ⟨some 32, .ld false 1 (.t 31), some (26, false)⟩, ⟨some 33, .ld true 5 (.t 3), some (26, false)⟩, ⟨some 34, .call false true 0 (.val (.t 32)) [.t 33], some (26, false)⟩, ⟨some 35, .bin .geq (.t 28) (.t 34), some (26, false)⟩, o 36 (.pick (.t 26) (cb true) (.t 35))] [2, 36])
 (.cond (.t 36)
 (.seq (.ops [o 4 (.mv (ci 10))] [4])
 (.ret))
 (.skip)))
 (.seq (.seq (.ops [o 37 (.ld true 6 (.t 2)), o 38 (.bslice false 1 zl6 1 [(0, cs [109, 101, 97, 115, 117, 114, 101])]), o 39 (.call true true 0 (.fn 111) [.t 37, .t 38])] [2, 39])
 (.cond (.t 39)
 (.seq (.ops [o 40 (.fadr 3 (.t 2)), o 41 (.ld true 3 (.t 40)), o 42 (.call true true 0 (.fn 58) [.t 41]), mt 4 42] [4])
 (.ret))
 (.skip)))
 (.seq (.ops [o 43 (.fadr 3 (.t 2)), o 44 (.ld true 3 (.t 43)), o 45 (.build [.p (.int .i64 0), .p (.int .i64 0), .p (.int .i64 0)] []), o 46 (.eqagg [0, 0, 0] true (.t 44) (.t 45)), o 47 (.call true true 0 (.fn 81) [.t 46, ci 1]), mt 4 47] [4])
 (.ret)))))))⟩

def c64L0 : ACode :=
 .seq (.ops [o 10 (.bin .lss (.t 9) (ci 7))] [2, 3, 5, 8, 9, 10])
 (.seq (.cond (.t 10)
 (.skip)
 (.exit 0))
 (.seq (.block 1 (.seq (.ops [o 11 (.idx true 2 7 (.t 8) (.t 9)), o 7 (.alloc false 1 [.p (.str []), .p (.nilf)]), u (.st 2 (.t 7) (.t 11))] [2, 3, 5, 7, 8, 9])
 (.seq (.ops [o 12 (.fadr 1 (.t 7)), o 13 (.ld false 1 (.t 12)), o 14 (.ld true 15 (.t 2)), o 15 (.ld true 6 (.t 3)), o 16 (.call false true 0 (.val (.t 13)) [.t 14, .t 15])] [2, 3, 5, 7, 8, 9, 16])
 (.cond (.t 16)
 (.ops [mt 17 5, o 18 (.fadr 0 (.t 7)), o 19 (.ld false 1 (.t 18)), o 20 (.bslice false 1 zl6 1 [(0, .t 19)]), o 21 (.app 1 16 zl6 (.t 17) (.t 20)), mt 5 21] [2, 3, 5, 8, 9])
 (.skip)))))
 (.ops [o 22 (.bin .add (.t 9) (ci 1)), mt 9 22] [2, 3, 5, 8, 9])))
def c64 : AFunc := ⟨24, [.tmp 4],
 .seq (.ops [o 2 (.box true (.t 0)), o 3 (.box true (.t 1)), o 4 (.mv (cn))] [2, 3])
 (.seq (.ops [o 5 (.nilown 1)] [2, 3, 5])
 (.seq (.seq (.ops [o 8 (.ld true 14 (.g 1)), o 9 (.mv (ci 0))] [2, 3, 5, 8, 9])
 (.block 0 (.loop true [2, 3, 5, 8, 9] c64L0)))
 (.seq (.ops [mt 23 5, mt 4 23] [4])
 (.ret))))⟩

def c65 : AFunc := ⟨30, [.tmp 2],
 .seq (.ops [o 1 (.box false (.t 0)), o 2 (.mv (ci 0))] [1])
 (.seq (.opsd [(0, 1), (1, 1), (2, 1), (3, 1), (4, 1), (5, 1), (6, 1), (7, 1), (8, 1), (9, 1), (10, 1), (11, 1), (12, 1), (13, 1), (14, 1), (15, 1), (16, 1), (17, 1), (18, 1), (19, 1), (20, 1), (21, 1), (22, 1), (23, 1), (24, 0), (25, 0), (26, 0), (27, 1)] [o 3 (.fadr 0 (.t 1)), o 4 (.ld false 1 (.t 3)), o 5 (.len 1 (.t 4)), o 6 (.bin .eql (.t 5) (ci 0)), o 7 (.call true true 0 (.fn 47) [.t 6, ci 12]), o 8 (.fadr 0 (.t 1)), o 9 (.ld false 1 (.t 8)), o 10 (.len 1 (.t 9)), o 11 (.bin .gtr (.t 10) (ci 64)), o 12 (.call true true 0 (.fn 47) [.t 11, ci 5]), o 13 (.fadr 0 (.t 1)), o 14 (.ld false 1 (.t 13)), o 15 (.call true true 0 (.fn 112) [.t 14, ci 0, ci 100000]), o 16 (.fadr 1 (.t 1)), o 17 (.ld true 2 (.t 16)), o 18 (.call true true 0 (.fn 113) [.t 17, ci 0, ci 100000]), o 19 (.fadr 3 (.t 1)), o 20 (.ld true 2 (.t 19)), o 21 (.call true true 0 (.fn 113) [.t 20, ci 0, ci 100000]), o 22 (.fadr 5 (.t 1)), o 23 (.ld false 1 (.t 22)), o 24 (.fadr 0 (.t 1)), o 25 (.ld false 1 (.t 24)), o 26 (.len 1 (.t 25)), o 27 (.call true true 0 (.fn 44) [.t 23, ci 1, .t 26]), o 28 (.bslice false 1 zl5 6 [(0, .t 7), (1, .t 12), (2, .t 15), (3, .t 18), (4, .t 21), (5, .t 27)]), o 29 (.call true true 0 (.fn 43) [.t 28]), mt 2 29] [2])
 (.ret))⟩

def c66L0 : ACode :=
 .seq (.seq (.ops [mt 4 3, mt 5 0, o 6 (.len 1 (.t 5)), o 7 (.bin .lss (.t 4) (.t 6))] [0, 3, 7])
 (.cond (.t 7)
 (.skip)
 (.exit 0)))
 (.seq (.block 1 (.seq (.ops [mt 10 0, mt 11 3, o 12 (.iadr 6 (.t 10) (.t 11)), o 13 (.fadr 1 (.t 12)), o 14 (.ld false 1 (.t 13)), o 15 (.len 0 (.t 14)), o 16 (.bin .gtr (.t 15) (ci 40))] [0, 3, 16])
 (.cond (.t 16)
 (.seq (.ops [o 2 (.mv (cb false))] [2])
 (.ret))
 (.skip))))
 (.ops [mt 8 3, o 9 (.bin .add (.t 8) (ci 1)), mt 3 9] [0, 3]))
def c66 : AFunc := ⟨25, [.tmp 2],
 .seq (.ops [o 2 (.mv (cb false))] [0])
 (.seq (.seq (.ops [o 3 (.mv (ci 0))] [0, 3])
 (.block 0 (.loop false [0, 3] c66L0)))
 (.seq (.ops [mt 17 0, o 18 (.len 1 (.t 17)), o 19 (.bin .leq (.t 18) (ci 24)), mt 20 19, ⟨some 21, .mv (.t 0), some (20, false)⟩, ⟨some 22, .len 1 (.t 21), some (20, false)⟩, ⟨some 23, .bin .eql (.t 22) (ci 1001), some (20, false)⟩, o 24 (.pick (.t 20) (cb true) (.t 23)), mt 2 24] [2])
 (.ret)))⟩

def c67 : AFunc := ⟨23, [.tmp 4],
 .seq (.ops [o 2 (.box false (.t 0)), o 4 (.mv (ci 0))] [1, 2])
 (.seq (.seq (.ops [o 8 (.ld true 5 (.t 2)), mt 9 1, o 10 (.call true true 0 (.fn 114) [.t 8, .t 9]), mt 5 10] [1, 2, 5])
 (.seq (.ops [mt 11 5, o 12 (.bin .neq (.t 11) (ci 0))] [1, 2, 5, 12])
 (.cond (.t 12)
 (.seq (.ops [mt 13 5, mt 4 13] [4])
 (.ret))
 (.skip))))
 (.seq (.ops [o 15 (.ld true 5 (.t 2)), mt 16 1, o 17 (.call true false 0 (.fn 115) [.t 15, .t 16]), mt 14 17, o 18 (.ext (.t 14) 0), o 19 (.ext (.t 14) 1), mt 6 18, mt 7 19] [7])
 (.seq (.ops [mt 20 7, o 21 (.bin .neq (.t 20) (ci (-1))), o 22 (.call true true 0 (.fn 47) [.t 21, ci 21]), mt 4 22] [4])
 (.ret))))⟩

def c68L0 : ACode :=
 .seq (.seq (.ops [mt 11 5, mt 12 0, o 13 (.len 1 (.t 12)), o 14 (.bin .lss (.t 11) (.t 13))] [0, 1, 5, 14])
 (.cond (.t 14)
 (.skip)
 (.exit 0)))
 (.seq (.block 1 (.seq (.opsd [(0, 1), (1, 1), (2, 1), (3, 1), (4, 1), (5, 1), (6, 1), (7, 1), (8, 1)] [mt 17 0, mt 18 5, o 19 (.iadr 2 (.t 17) (.t 18)), o 20 (.ld true 2 (.t 19)), mt 21 1, mt 22 5, o 23 (.iadr 2 (.t 21) (.t 22)), o 24 (.ld true 2 (.t 23)), o 25 (.eqagg [0, 0] true (.t 20) (.t 24))] [0, 1, 5, 25])
 (.cond (.t 25)
 (.seq (.ops [o 4 (.mv (cb false))] [4])
 (.ret))
 (.skip))))
 (.ops [mt 15 5, o 16 (.bin .add (.t 15) (ci 1)), mt 5 16] [0, 1, 5]))
def c68 : AFunc := ⟨26, [.tmp 4],
 .seq (.ops [o 4 (.mv (cb false))] [0, 1])
 (.seq (.seq (.ops [mt 6 0, o 7 (.len 1 (.t 6)), mt 8 1, o 9 (.len 1 (.t 8)), o 10 (.bin .neq (.t 7) (.t 9))] [0, 1, 10])
 (.cond (.t 10)
 (.seq (.ops [o 4 (.mv (cb false))] [4])
 (.ret))
 (.skip)))
 (.seq (.seq (.ops [o 5 (.mv (ci 0))] [0, 1, 5])
 (.block 0 (.loop false [0, 1, 5] c68L0)))
 (.seq (.ops [o 4 (.mv (cb true))] [4])
 (.ret))))⟩

def c69 : AFunc := ⟨36, [.tmp 2],
 .seq (.ops [o 1 (.box false (.t 0)), o 2 (.mv (ci 0))] [1])
 (.seq (.seq (.opsd [(0, 1), (1, 1), (2, 1), (3, 1), (4, 1), (5, 1), (6, 1), (7, 1), (8, 1), (9, 0), (10, 0), (11, 0), (12, 1)] [o 4 (.fadr 0 (.t 1)), o 5 (.ld false 1 (.t 4)), o 6 (.len 1 (.t 5)), o 7 (.bin .eql (.t 6) (ci 0)), o 8 (.call true true 0 (.fn 78) [.t 7, ci 12]), o 9 (.fadr 0 (.t 1)), o 10 (.ld false 1 (.t 9)), o 11 (.len 1 (.t 10)), o 12 (.bin .gtr (.t 11) (ci 64)), o 13 (.call true true 0 (.fn 78) [.t 12, ci 5]), o 14 (.bslice false 1 zl5 2 [(0, .t 8), (1, .t 13)]), o 15 (.call true true 0 (.fn 73) [.t 14]), mt 3 15] [1, 3])
 (.seq (.ops [mt 16 3, o 17 (.bin .neq (.t 16) (ci 0))] [1, 3, 17])
 (.cond (.t 17)
 (.seq (.ops [mt 18 3, mt 2 18] [2])
 (.ret))
 (.skip))))
 (.seq (.opsd [(0, 1), (1, 1), (2, 1), (3, 1), (4, 1), (5, 1), (6, 1), (7, 1), (8, 1), (9, 1), (10, 1), (11, 1), (12, 1), (13, 1), (14, 0), (15, 0), (16, 0), (17, 1)] [o 19 (.fadr 0 (.t 1)), o 20 (.ld false 1 (.t 19)), o 21 (.call true true 0 (.fn 87) [.t 20, ci 0, ci 100000]), o 22 (.fadr 1 (.t 1)), o 23 (.ld true 2 (.t 22)), o 24 (.call true true 0 (.fn 116) [.t 23, ci 0, ci 100000]), o 25 (.fadr 3 (.t 1)), o 26 (.ld true 2 (.t 25)), o 27 (.call true true 0 (.fn 116) [.t 26, ci 0, ci 100000]), o 28 (.fadr 5 (.t 1)), o 29 (.ld false 1 (.t 28)), o 30 (.fadr 0 (.t 1)), o 31 (.ld false 1 (.t 30)), o 32 (.len 1 (.t 31)), o 33 (.call true true 0 (.fn 117) [.t 29, ci 1, .t 32]), o 34 (.bslice false 1 zl5 4 [(0, .t 21), (1, .t 24), (2, .t 27), (3, .t 33)]), o 35 (.call true true 0 (.fn 73) [.t 34]), mt 2 35] [2])
 (.ret)))⟩

def c70 : AFunc := ⟨4, [.tmp 2],
 .seq (.ops [o 1 (.box false (.t 0)), o 2 (.mv (.c (.p (.nilf))))] [1])
 (.seq (.ops [o 3 (.mkclo 118 [] [.t 1]), mt 2 3] [2])
 (.ret))⟩

def c71L0 : ACode :=
 .seq (.ops [o 28 (.bin .lss (.t 27) (.t 26))] [2, 8, 11, 25, 26, 27, 28])
 (.seq (.cond (.t 28)
 (.skip)
 (.exit 0))
 (.seq (.block 1 (.seq (.ops [mt 29 27, o 30 (.iadr 15 (.t 25) (.t 27)), o 31 (.ld true 15 (.t 30)), o 13 (.alloc true 1 zl0), mt 12 29, u (.st 15 (.t 13) (.t 31))] [2, 8, 11, 12, 13, 25, 26, 27])
 (.seq (.seq (.ops [mt 32 2, o 33 (.ld true 15 (.t 13)), o 34 (.call false true 0 (.val (.t 32)) [.t 33]), o 35 (.not (.t 34)), mt 36 35, ⟨some 37, .mv (.t 12), some (36, false)⟩, ⟨some 38, .bin .add (.t 37) (ci 1), some (36, false)⟩, ⟨some 39, .mv (.t 8), some (36, false)⟩, ⟨some 40, .len 1 (.t 39), some (36, false)⟩, ⟨some 41, .bin .eql (.t 38) (.t 40), some (36, false)⟩, o 42 (.pick (.t 36) (cb true) (.t 41))] [2, 8, 11, 12, 13, 25, 26, 27, 42])
 (.cond (.t 42)
 (.exit 1)
 (.skip)))
 (.seq (.opsd [(0, 1), (1, 1), (2, 1), (3, 1), (4, 1), (5, 1), (6, 1), (7, 1), (8, 1), (9, 2), (10, 0)] [o 43 (.fadr 0 (.t 13)), o 44 (.ld false 1 (.t 43)), mt 45 8, mt 46 12, o 47 (.bin .add (.t 46) (ci 1)), o 48 (.iadr 15 (.t 45) (.t 47)), o 49 (.fadr 0 (.t 48)), o 50 (.ld false 1 (.t 49)), o 51 (.build zl4 [(0, 1, .t 44), (1, 1, .t 50)]), o 14 (.alloc true 1 zl4), u (.st 2 (.t 14) (.t 51))] [2, 8, 11, 14, 25, 26, 27])
 (.block 2 (.seq (.ops [o 57 (.fadr 0 (.t 14)), o 58 (.ld false 1 (.t 57)), o 59 (.fadr 1 (.t 14)), o 60 (.ld false 1 (.t 59)), o 61 (.bin .eql (.t 58) (.t 60)), mt 56 61] [2, 8, 11, 14, 25, 26, 27, 56])
 (.cond (.t 56)
 (.skip)
 (.seq (.opsd [(0, 1), (1, 1), (2, 1), (3, 1), (4, 1), (5, 1), (6, 1), (7, 1), (8, 1), (9, 1), (10, 1), (11, 1), (12, 1), (13, 1), (14, 1), (15, 1)] [mt 63 11, o 64 (.len 1 (.t 63)), o 65 (.bin .gtr (.t 64) (ci 0)), mt 66 65, ⟨some 67, .mv (.t 11), some (66, true)⟩, ⟨some 68, .mv (.t 11), some (66, true)⟩, ⟨some 69, .len 1 (.t 68), some (66, true)⟩, ⟨some 70, .bin .sub (.t 69) (ci 1), some (66, true)⟩, ⟨some 71, .iadr 2 (.t 67) (.t 70), some (66, true)⟩, ⟨some 72, .fadr 1 (.t 71), some (66, true)⟩, ⟨some 73, .ld false 1 (.t 72), some (66, true)⟩, ⟨some 74, .fadr 0 (.t 14), some (66, true)⟩, ⟨some 75, .ld false 1 (.t 74), some (66, true)⟩, ⟨some 76, .bin .eql (.t 73) (.t 75), some (66, true)⟩, o 77 (.pick (.t 66) (.t 76) (cb false)), mt 62 77] [2, 8, 11, 14, 25, 26, 27, 62])
 (.cond (.t 62)
 (.ops [mt 78 11, mt 79 11, o 80 (.len 1 (.t 79)), o 81 (.bin .sub (.t 80) (ci 1)), o 82 (.fadr 1 (.t 14)), o 83 (.ld false 1 (.t 82)), o 84 (.iadr 2 (.t 78) (.t 81)), o 85 (.fadr 1 (.t 84)), u (.st 1 (.t 85) (.t 83))] [2, 8, 11, 25, 26, 27])
 (.ops [mt 52 11, o 53 (.ld true 2 (.t 14)), o 54 (.bslice false 2 zl4 1 [(0, .t 53)]), o 55 (.app 2 16 zl4 (.t 52) (.t 54)), mt 11 55] [2, 8, 11, 25, 26, 27]))))))))))
 (.ops [o 86 (.bin .add (.t 27) (ci 1)), mt 27 86] [2, 8, 11, 25, 26, 27])))
def c71 : AFunc := ⟨88, [.tmp 6, .tmp 7],
 .seq (.ops [o 3 (.box false (.t 0)), o 6 (.mv (cn)), o 7 (.mv (ci 0))] [1, 2, 3])
 (.seq (.ops [o 16 (.ld true 5 (.t 3)), mt 17 1, o 18 (.call true false 0 (.fn 60) [.t 16, .t 17]), mt 15 18, o 19 (.ext (.t 15) 0), o 20 (.ext (.t 15) 1), o 21 (.ext (.t 15) 2), mt 8 19, mt 9 20, mt 10 21] [2, 8, 10])
 (.seq (.seq (.ops [mt 22 10, o 23 (.bin .neq (.t 22) (ci 0))] [2, 8, 10, 23])
 (.cond (.t 23)
 (.seq (.ops [mt 24 10, o 6 (.mv (cn)), mt 7 24] [6, 7])
 (.ret))
 (.skip)))
 (.seq (.ops [o 11 (.nilown 2)] [2, 8, 11])
 (.seq (.seq (.ops [mt 25 8, o 26 (.len 1 (.t 25)), o 27 (.mv (ci 0))] [2, 8, 11, 25, 26, 27])
 (.block 0 (.loop true [2, 8, 11, 25, 26, 27] c71L0)))
 (.seq (.ops [mt 87 11, mt 6 87, o 7 (.mv (ci 0))] [6, 7])
 (.ret))))))⟩

def c72 : AFunc := ⟨5, [.tmp 2],
 .seq (.ops [o 1 (.box true (.t 0)), o 2 (.mv (cb false))] [1])
 (.seq (.ops [o 3 (.fadr 12 (.t 1)), o 4 (.ld false 1 (.t 3)), mt 2 4] [2])
 (.ret))⟩

def c73L0 : ACode :=
 .seq (.ops [o 8 (.bin .lss (.t 7) (.t 6))] [5, 6, 7, 8])
 (.seq (.cond (.t 8)
 (.skip)
 (.exit 0))
 (.seq (.block 1 (.seq (.ops [o 9 (.iadr 1 (.t 5) (.t 7)), o 10 (.ld false 1 (.t 9)), mt 4 10] [4, 5, 6, 7])
 (.seq (.ops [mt 11 4, o 12 (.bin .neq (.t 11) (ci 0))] [4, 5, 6, 7, 12])
 (.cond (.t 12)
 (.seq (.ops [mt 13 4, mt 2 13] [2])
 (.ret))
 (.skip)))))
 (.ops [o 14 (.bin .add (.t 7) (ci 1)), mt 7 14] [5, 6, 7])))
def c73 : AFunc := ⟨15, [.tmp 2],
 .seq (.ops [o 2 (.mv (ci 0))] [0])
 (.seq (.seq (.ops [mt 5 0, o 6 (.len 1 (.t 5)), o 7 (.mv (ci 0))] [5, 6, 7])
 (.block 0 (.loop false [5, 6, 7] c73L0)))
 (.seq (.ops [o 2 (.mv (ci 0))] [2])
 (.ret)))⟩

def c74 : AFunc := ⟨14, [.tmp 4],
 .seq (.ops [o 2 (.box false (.t 0)), o 4 (.mv (ci 0))] [1, 2])
 (.seq (.ops [mt 5 1, o 6 (.bin .lss (.t 5) (ci 0)), mt 7 6, ⟨some 8, .mv (.t 1), some (7, false)⟩, ⟨some 9, .fadr 5 (.t 2), some (7, false)⟩, ⟨some 10, .ld false 1 (.t 9), some (7, false)⟩, ⟨some 11, .bin .gtr (.t 8) (.t 10), some (7, false)⟩, o 12 (.pick (.t 7) (cb true) (.t 11)), o 13 (.call true true 0 (.fn 78) [.t 12, ci 10]), mt 4 13] [4])
 (.ret))⟩

def c75 : AFunc := ⟨11, [.tmp 4],
 .seq (.ops [o 3 (.box true (.t 1)), o 4 (.mv (ci 0))] [0, 3])
 (.seq (.ops [mt 5 0, o 6 (.fadr 0 (.t 3)), o 7 (.ld false 1 (.t 6)), o 8 (.fadr 1 (.t 3)), o 9 (.ld false 1 (.t 8)), o 10 (.call true true 0 (.fn 117) [.t 5, .t 7, .t 9]), mt 4 10] [4])
 (.ret))⟩

def c76 : AFunc := ⟨20, [.tmp 6, .tmp 7],
 .seq (.ops [o 6 (.mv (ci 0)), o 7 (.mv (cb false))] [0, 1, 2])
 (.seq (.block 0 (.seq (.ops [mt 9 1, o 10 (.bin .leq (.t 9) (ci 0)), mt 8 10] [0, 1, 2, 8])
 (.cond (.t 8)
 (.seq (.ops [mt 11 0, mt 6 11, o 7 (.mv (cb true))] [6, 7])
 (.ret))
 (.seq (.ops [mt 13 2, o 14 (.bin .eql (.t 13) (ci 0)), mt 12 14] [0, 1, 2, 12])
 (.cond (.t 12)
 (.seq (.ops [o 6 (.mv (ci 0)), o 7 (.mv (cb false))] [6, 7])
 (.ret))
 (.skip))))))
 (.seq (.ops [mt 15 0, mt 16 1, mt 17 2, o 18 (.call true true 0 (.fn 119) [.t 16, .t 17]), o 19 (.bin .add (.t 15) (.t 18)), mt 6 19, o 7 (.mv (cb true))] [6, 7])
 (.ret)))⟩

def c77L0 : ACode :=
 .seq (.ops [o 17 (.bin .lss (.t 16) (.t 15))] [1, 5, 14, 15, 16, 17])
 (.seq (.cond (.t 17)
 (.skip)
 (.exit 0))
 (.seq (.block 1 (.seq (.ops [mt 18 16, o 19 (.iadr 1 (.t 14) (.t 16)), o 20 (.ld false 1 (.t 19)), mt 6 18, mt 7 20] [1, 5, 6, 7, 14, 15, 16])
 (.ops [mt 21 5, mt 22 6, o 23 (.bin .add (.t 22) (ci 1)), mt 24 5, mt 25 6, o 26 (.iadr 1 (.t 24) (.t 25)), o 27 (.ld false 1 (.t 26)), mt 28 7, o 29 (.bin .add (.t 27) (.t 28)), mt 30 1, o 31 (.bin .sub (.t 29) (.t 30)), o 32 (.max [ci 0, .t 31]), o 33 (.iadr 1 (.t 21) (.t 23)), u (.st 1 (.t 33) (.t 32))] [1, 5, 14, 15, 16])))
 (.ops [o 34 (.bin .add (.t 16) (ci 1)), mt 16 34] [1, 5, 14, 15, 16])))
def c77 : AFunc := ⟨36, [.tmp 4],
 .seq (.ops [o 2 (.box false (.t 0)), o 4 (.mv (cn))] [1, 2])
 (.seq (.ops [o 8 (.fadr 0 (.t 2)), o 9 (.ld false 1 (.t 8)), o 10 (.len 1 (.t 9)), o 11 (.bin .add (.t 10) (ci 1)), o 12 (.mkslice 1 zl5 (.t 11) (.t 11)), mt 5 12] [1, 2, 5])
 (.seq (.seq (.ops [o 13 (.fadr 0 (.t 2)), o 14 (.ld false 1 (.t 13)), o 15 (.len 1 (.t 14)), o 16 (.mv (ci 0))] [1, 5, 14, 15, 16])
 (.block 0 (.loop false [1, 5, 14, 15, 16] c77L0)))
 (.seq (.ops [mt 35 5, mt 4 35] [4])
 (.ret))))⟩

def c78 : AFunc := ⟨7, [.tmp 4],
 .seq (.ops [o 4 (.mv (ci 0))] [0, 1])
 (.seq (.seq (.ops [mt 5 0] [1, 5])
 (.cond (.t 5)
 (.seq (.ops [mt 6 1, mt 4 6] [4])
 (.ret))
 (.skip)))
 (.seq (.ops [o 4 (.mv (ci 0))] [4])
 (.ret)))⟩

def c79 : AFunc := ⟨5, [.tmp 2],
 .seq (.ops [o 2 (.mv (ci 0))] [0])
 (.seq (.ops [mt 3 0, o 4 (.call true true 0 (.fn 80) [.t 3, ci (-100000), ci 100000]), mt 2 4] [2])
 (.ret))⟩

def c80 : AFunc := ⟨16, [.tmp 6],
 .seq (.ops [o 6 (.mv (ci 0))] [0, 1, 2])
 (.seq (.ops [mt 7 0, mt 8 1, o 9 (.bin .lss (.t 7) (.t 8)), mt 10 9, ⟨some 11, .mv (.t 0), some (10, false)⟩, ⟨some 12, .mv (.t 2), some (10, false)⟩, ⟨some 13, .bin .gtr (.t 11) (.t 12), some (10, false)⟩, o 14 (.pick (.t 10) (cb true) (.t 13)), o 15 (.call true true 0 (.fn 81) [.t 14, ci 3]), mt 6 15] [6])
 (.ret))⟩

def c81 : AFunc := ⟨7, [.tmp 4],
 .seq (.ops [o 4 (.mv (ci 0))] [0, 1])
 (.seq (.seq (.ops [mt 5 0] [1, 5])
 (.cond (.t 5)
 (.seq (.ops [mt 6 1, mt 4 6] [4])
 (.ret))
 (.skip)))
 (.seq (.ops [o 4 (.mv (ci 0))] [4])
 (.ret)))⟩

def c82L0 : ACode :=
 .seq (.ops [o 11 (.bin .lss (.t 10) (.t 9))] [1, 5, 8, 9, 10, 11])
 (.seq (.cond (.t 11)
 (.skip)
 (.exit 0))
 (.seq (.block 1 (.seq (.ops [o 12 (.iadr 1 (.t 8) (.t 10)), o 13 (.ld false 1 (.t 12)), mt 7 13] [1, 5, 7, 8, 9, 10])
 (.ops [mt 14 5, mt 15 1, mt 16 7, o 17 (.call false true 0 (.val (.t 15)) [.t 16]), o 18 (.bslice false 1 zl5 1 [(0, .t 17)]), o 19 (.app 1 8 zl5 (.t 14) (.t 18)), mt 5 19] [1, 5, 8, 9, 10])))
 (.ops [o 20 (.bin .add (.t 10) (ci 1)), mt 10 20] [1, 5, 8, 9, 10])))
def c82 : AFunc := ⟨22, [.tmp 4],
 .seq (.ops [o 4 (.mv (cn))] [0, 1])
 (.seq (.ops [o 5 (.nilown 1)] [0, 1, 5])
 (.seq (.seq (.ops [mt 8 0, o 9 (.len 1 (.t 8)), o 10 (.mv (ci 0))] [1, 5, 8, 9, 10])
 (.block 0 (.loop true [1, 5, 8, 9, 10] c82L0)))
 (.seq (.ops [mt 21 5, mt 4 21] [4])
 (.ret))))⟩

def c83 : AFunc := ⟨14, [.tmp 3],
 .seq (.ops [o 2 (.box true (.t 0)), o 3 (.mv (cb false))] [1, 2])
 (.seq (.ops [o 4 (.ld false 1 (.t 1)), o 5 (.fadr 0 (.t 2)), o 6 (.ld false 1 (.t 5)), o 7 (.bin .geq (.t 4) (.t 6)), mt 8 7, ⟨some 9, .ld false 1 (.t 1), some (8, true)⟩, ⟨some 10, .fadr 1 (.t 2), some (8, true)⟩, ⟨some 11, .ld false 1 (.t 10), some (8, true)⟩, ⟨some 12, .bin .lss (.t 9) (.t 11), some (8, true)⟩, o 13 (.pick (.t 8) (.t 12) (cb false)), mt 3 13] [3])
 (.ret))⟩

def c84 : AFunc := ⟨9, [.tmp 4],
 .seq (.ops [o 4 (.mv (cb false))] [0, 1])
 (.seq (.ops [mt 5 0, mt 6 1, o 7 (.call true true 0 (.fn 120) [.t 5, .t 6]), o 8 (.bin .geq (.t 7) (ci 0)), mt 4 8] [4])
 (.ret))⟩

def c86 : AFunc := ⟨34, [.tmp 4],
 .seq (.ops [o 2 (.box false (.t 0)), o 4 (.mv (cb false))] [1, 2])
 (.seq (.opsd [(0, 1), (1, 1), (2, 1), (3, 1), (4, 1), (5, 1), (6, 1), (7, 1), (8, 1), (9, 1), (10, 1), (11, 1), (12, 1), (13, 1), (14, 1), (15, 1), (16, 0), (17, 1), (18, 1), (19, 1), (20, 1), (21, 1)] [mt 8 1, o 9 (.ld true 6 (.t 2)), o 10 (.fadr 1 (.t 2)), o 11 (.fadr 0 (.t 10)), o 12 (.ld false 1 (.t 11)), o 13 (.call true false 0 (.fn 77) [.t 9, .t 12]), mt 14 1, o 15 (.iadr 1 (.t 13) (.t 14)), o 16 (.ld false 1 (.t 15)), o 17 (.fadr 1 (.t 2)), o 18 (.fadr 0 (.t 17)), o 19 (.ld false 1 (.t 18)), o 20 (.fadr 3 (.t 2)), o 21 (.fadr 0 (.t 20)), o 22 (.ld false 1 (.t 21)), o 23 (.bin .add (.t 19) (.t 22)), o 24 (.call true true 0 (.fn 76) [.t 8, .t 16, .t 23]), mt 7 24, o 25 (.ext (.t 7) 0), o 26 (.ext (.t 7) 1), mt 5 25, mt 6 26] [2, 5, 6])
 (.seq (.ops [mt 27 6, mt 28 27, ⟨some 29, .mv (.t 5), some (28, true)⟩, ⟨some 30, .fadr 5 (.t 2), some (28, true)⟩, ⟨some 31, .ld false 1 (.t 30), some (28, true)⟩, ⟨some 32, .bin .leq (.t 29) (.t 31), some (28, true)⟩, o 33 (.pick (.t 28) (.t 32) (cb false)), mt 4 33] [4])
 (.ret)))⟩

end Fw
