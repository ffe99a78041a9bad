/- The functions of the program, written for the evaluator, first part: definitions alone. -/
import Derived.Test.YtdjkleaojdeepaaGreatDoorFwC
namespace Fw
open Go
abbrev o (d : Nat) (x : AOp) : AOper := ⟨some d, x, none⟩
abbrev u (x : AOp) : AOper := ⟨none, x, none⟩
abbrev ci (n : Int) : Opd := .c (.p (.int .i64 n))
abbrev cb (b : Bool) : Opd := .c (.p (.bool b))
abbrev cs (l : List UInt8) : Opd := .c (.p (.str l))
abbrev cn : Opd := .c (.p .nils)
abbrev cf (f : Nat) : Opd := .c (.p (.clo f [] []))
inductive Tr where | leaf | node (k : Nat) (v : AFunc) (l r : Tr)
def Tr.find : Tr → Nat → Option AFunc
 | .leaf, _ => none
 | .node k v l r, n => if n = k then some v else if n < k then l.find n else r.find n
/-- crumple/crumplelaw09.GaragePlans -/
def c7 : AFunc := ⟨71, [.tmp 2],
 .seq (.ops [o 2 (.mv (cb false))] [0])
 (.seq (.seq (.ops [o 12 (.mv (.t 0)), o 13 (.call true true 0 (.fn 47) [.t 12]), o 14 (.not (.t 13)), o 15 (.mv (.t 14)), ⟨some 16, .mv (.t 0), some (15, false)⟩, ⟨some 17, .len 1 (.t 16), some (15, false)⟩, ⟨some 18, .bin .eql (.t 17) (ci 6), some (15, false)⟩, o 19 (.pick (.t 15) (cb true) (.t 18))] [0, 19])
 (.cond (.t 19)
 (.seq (.ops [o 20 (.call true true 0 (.fn 17) []), o 2 (.mv (.t 20))] [2])
 (.ret))
 (.skip)))
 (.seq (.ops [o 22 (.mv (.t 0)), o 23 (.call true false 0 (.fn 49) [.t 22]), o 24 (.call true false 0 (.fn 59) [.t 23]), o 21 (.mv (.t 24)), o 25 (.ext (.t 21) 0), o 26 (.ext (.t 21) 1), o 27 (.ext (.t 21) 2), o 3 (.mv (.t 25)), o 4 (.mv (.t 26)), o 5 (.mv (.t 27))] [0, 3, 4, 5])
 (.seq (.ops [o 29 (.mv (.t 0)), o 30 (.call true false 0 (.fn 49) [.t 29]), o 31 (.call true true 0 (.fn 60) [.t 30]), o 28 (.mv (.t 31)), o 32 (.ext (.t 28) 0), o 33 (.ext (.t 28) 1), o 6 (.mv (.t 32)), o 7 (.mv (.t 33))] [0, 3, 4, 5, 6, 7])
 (.seq (.ops [o 34 (.mv (.t 0)), o 35 (.call true true 0 (.fn 51) [.t 34]), o 8 (.mv (.t 35))] [0, 3, 4, 5, 6, 7, 8])
 (.seq (.ops [o 9 (.mv (cn))] [0, 3, 4, 5, 6, 7, 8, 9])
 (.seq (.ops [o 10 (.mv (ci 0)), o 11 (.mv (ci 0))] [0, 3, 4, 5, 6, 7, 8, 9, 10, 11])
 (.seq (.seq (.ops [o 36 (.mv (.t 8)), o 37 (.bin .eql (.t 36) (ci 0))] [0, 3, 4, 5, 6, 7, 8, 9, 10, 11, 37])
 (.cond (.t 37)
 (.seq (.ops [o 39 (.mv (.t 0)), o 40 (.call true false 0 (.fn 61) [.t 39]), o 38 (.mv (.t 40)), o 41 (.ext (.t 38) 0), o 42 (.ext (.t 38) 1), o 9 (.mv (.t 41)), o 10 (.mv (.t 42))] [0, 3, 4, 5, 6, 7, 8, 9, 10])
 (.ops [o 43 (.mv (.t 0)), o 44 (.call true true 0 (.fn 62) [.t 43]), o 11 (.mv (.t 44))] [3, 4, 5, 6, 7, 8, 9, 10, 11]))
 (.skip)))
 (.seq (.ops [o 45 (.mv (.t 3)), o 46 (.mv (.t 9)), o 47 (.call true true 0 (.fn 38) [.t 45, .t 46]), o 48 (.mv (.t 47)), ⟨some 49, .mv (.t 4), some (48, true)⟩, ⟨some 50, .mv (.t 10), some (48, true)⟩, ⟨some 51, .bin .eql (.t 49) (.t 50), some (48, true)⟩, o 52 (.pick (.t 48) (.t 51) (cb false)), o 53 (.mv (.t 52)), ⟨some 54, .mv (.t 5), some (53, true)⟩, ⟨some 55, .mv (.t 8), some (53, true)⟩, ⟨some 56, .bin .eql (.t 54) (.t 55), some (53, true)⟩, o 57 (.pick (.t 53) (.t 56) (cb false)), o 58 (.mv (.t 57)), ⟨some 59, .mv (.t 6), some (58, true)⟩, ⟨some 60, .mv (.t 11), some (58, true)⟩, ⟨some 61, .bin .eql (.t 59) (.t 60), some (58, true)⟩, o 62 (.pick (.t 58) (.t 61) (cb false)), o 63 (.mv (.t 62)), ⟨some 64, .mv (.t 7), some (63, true)⟩, ⟨some 65, .mv (.t 8), some (63, true)⟩, ⟨some 66, .bin .eql (.t 64) (.t 65), some (63, true)⟩, o 67 (.pick (.t 63) (.t 66) (cb false)), o 68 (.mv (.t 67)), ⟨some 69, .call true true 0 (.fn 17) [], some (68, true)⟩, o 70 (.pick (.t 68) (.t 69) (cb false)), o 2 (.mv (.t 70))] [2])
 (.ret)))))))))⟩

/-- crumple/crumplelaw09.awake -/
def c17 : AFunc := ⟨396, [.tmp 0],
 .seq (.ops [o 0 (.mv (cb false))] [])
 (.seq (.ops [o 52 (.call true false 0 (.fn 83) []), o 53 (.build [.p (.int .i64 0), .p (.int .i64 0), .p (.int .i64 0)] [(0, 1, ci 49), (1, 1, ci 80), (2, 1, ci 7)]), o 54 (.call true true 0 (.fn 72) [.t 52, .t 53]), o 51 (.mv (.t 54)), o 55 (.ext (.t 51) 0), o 56 (.ext (.t 51) 1), o 1 (.mv (.t 55)), o 2 (.mv (.t 56))] [1, 2])
 (.seq (.ops [o 58 (.call true false 0 (.fn 83) []), o 59 (.build [.p (.int .i64 0), .p (.int .i64 0), .p (.int .i64 0)] [(0, 1, ci 50), (1, 1, ci 80), (2, 1, ci 7)]), o 60 (.call true true 0 (.fn 72) [.t 58, .t 59]), o 57 (.mv (.t 60)), o 61 (.ext (.t 57) 0), o 62 (.ext (.t 57) 1), o 3 (.mv (.t 61)), o 4 (.mv (.t 62))] [1, 2, 3, 4])
 (.seq (.ops [o 64 (.call true false 0 (.fn 83) []), o 65 (.call true false 0 (.fn 84) []), o 66 (.call true true 0 (.fn 70) [.t 64, .t 65]), o 63 (.mv (.t 66)), o 67 (.ext (.t 63) 0), o 68 (.ext (.t 63) 1), o 69 (.ext (.t 63) 2), o 5 (.alloc true 1 [.p (.int .i64 0), .p (.bool false), .p (.bool false), .p (.bool false), .p (.bool false), .p (.bool false), .p (.bool false), .p (.bool false), .p (.bool false), .p (.bool false), .p (.bool false), .p (.int .i64 0), .p (.bool false), .p (.int .i64 0), .p (.int .i64 0)]), u (.st 15 (.t 5) (.t 67)), o 6 (.mv (.t 68)), o 7 (.mv (.t 69))] [1, 2, 3, 4, 5, 6, 7])
 (.seq (.ops [o 71 (.call true false 0 (.fn 83) []), o 72 (.bslice true 6 [.p (.int .i64 0), .p (.str []), .p (.int .i64 0), .p (.int .i64 0), .p (.int .i64 0), .p (.int .i64 0)] 0 []), o 73 (.call true false 0 (.fn 84) []), o 74 (.slc 6 (.t 73) none (some (ci 4))), o 75 (.app 6 56 [.p (.int .i64 0), .p (.str []), .p (.int .i64 0), .p (.int .i64 0), .p (.int .i64 0), .p (.int .i64 0)] (.t 72) (.t 74)), o 76 (.call true false 0 (.fn 84) []), o 77 (.iadr 6 (.t 76) (ci 5)), o 78 (.ld true 6 (.t 77)), o 79 (.bslice false 6 [.p (.int .i64 0), .p (.str []), .p (.int .i64 0), .p (.int .i64 0), .p (.int .i64 0), .p (.int .i64 0)] 1 [(0, .t 78)]), o 80 (.app 6 56 [.p (.int .i64 0), .p (.str []), .p (.int .i64 0), .p (.int .i64 0), .p (.int .i64 0), .p (.int .i64 0)] (.t 75) (.t 79)), o 81 (.call true false 0 (.fn 84) []), o 82 (.iadr 6 (.t 81) (ci 6)), o 83 (.ld true 6 (.t 82)), o 84 (.call true false 0 (.fn 18) [.t 71, .t 80, .t 83]), o 70 (.mv (.t 84)), o 85 (.ext (.t 70) 0), o 86 (.ext (.t 70) 1), o 8 (.mv (.t 85)), o 9 (.mv (.t 86))] [1, 2, 3, 4, 5, 6, 7, 8, 9])
 (.seq (.ops [o 88 (.call true false 0 (.fn 83) []), o 89 (.call true false 0 (.fn 84) []), o 90 (.build [.p (.int .i64 0), .p (.str []), .p (.int .i64 0), .p (.int .i64 0), .p (.int .i64 0), .p (.int .i64 0)] [(0, 1, ci 30), (1, 1, cs [111, 112, 101, 110])]), o 91 (.call true false 0 (.fn 18) [.t 88, .t 89, .t 90]), o 87 (.mv (.t 91)), o 92 (.ext (.t 87) 0), o 93 (.ext (.t 87) 1), o 10 (.mv (.t 92)), o 11 (.mv (.t 93))] [1, 2, 3, 4, 5, 6, 7, 8, 9, 10, 11])
 (.seq (.ops [o 95 (.call true false 0 (.fn 83) []), o 96 (.call true false 0 (.fn 84) []), o 97 (.build [.p (.int .i64 0), .p (.str []), .p (.int .i64 0), .p (.int .i64 0), .p (.int .i64 0), .p (.int .i64 0)] [(0, 1, ci 7), (1, 1, cs [97, 114, 109])]), o 98 (.call true false 0 (.fn 18) [.t 95, .t 96, .t 97]), o 94 (.mv (.t 98)), o 99 (.ext (.t 94) 0), o 100 (.ext (.t 94) 1), o 12 (.mv (.t 99)), o 13 (.mv (.t 100))] [1, 2, 3, 4, 5, 6, 7, 8, 9, 10, 11, 12, 13])
 (.seq (.ops [o 102 (.call true false 0 (.fn 83) []), o 103 (.call true false 6 (.fn 84) []), o 104 (.build [.p (.int .i64 0), .p (.str []), .p (.int .i64 0), .p (.int .i64 0), .p (.int .i64 0), .p (.int .i64 0)] [(0, 1, ci 8), (1, 1, cs [114, 101, 109, 111, 118, 101])]), o 105 (.bslice false 6 [.p (.int .i64 0), .p (.str []), .p (.int .i64 0), .p (.int .i64 0), .p (.int .i64 0), .p (.int .i64 0)] 1 [(0, .t 104)]), o 106 (.app 6 56 [.p (.int .i64 0), .p (.str []), .p (.int .i64 0), .p (.int .i64 0), .p (.int .i64 0), .p (.int .i64 0)] (.t 103) (.t 105)), o 107 (.build [.p (.int .i64 0), .p (.str []), .p (.int .i64 0), .p (.int .i64 0), .p (.int .i64 0), .p (.int .i64 0)] [(0, 1, ci 9), (1, 1, cs [97, 114, 109])]), o 108 (.call true false 0 (.fn 18) [.t 102, .t 106, .t 107]), o 101 (.mv (.t 108)), o 109 (.ext (.t 101) 0), o 110 (.ext (.t 101) 1), o 14 (.mv (.t 109)), o 15 (.mv (.t 110))] [1, 2, 3, 4, 5, 6, 7, 8, 9, 10, 11, 12, 13, 14, 15])
 (.seq (.ops [o 111 (.call true false 6 (.fn 84) []), o 112 (.build [.p (.int .i64 0), .p (.int .i64 0), .p (.int .i64 0)] [(0, 1, ci 50)]), o 113 (.build [.p (.int .i64 0), .p (.str []), .p (.int .i64 0), .p (.int .i64 0), .p (.int .i64 0), .p (.int .i64 0)] [(0, 1, ci 12), (1, 1, cs [109, 101, 97, 115, 117, 114, 101]), (3, 3, .t 112)]), o 114 (.bslice false 6 [.p (.int .i64 0), .p (.str []), .p (.int .i64 0), .p (.int .i64 0), .p (.int .i64 0), .p (.int .i64 0)] 1 [(0, .t 113)]), o 115 (.app 6 56 [.p (.int .i64 0), .p (.str []), .p (.int .i64 0), .p (.int .i64 0), .p (.int .i64 0), .p (.int .i64 0)] (.t 111) (.t 114)), o 16 (.mv (.t 115))] [1, 2, 3, 4, 5, 6, 7, 8, 9, 10, 11, 12, 13, 14, 15, 16])
 (.seq (.ops [o 117 (.call true false 0 (.fn 83) []), o 118 (.mv (.t 16)), o 119 (.call true true 0 (.fn 31) [.t 117, .t 118]), o 116 (.mv (.t 119)), o 120 (.ext (.t 116) 0), o 121 (.ext (.t 116) 1), o 17 (.mv (.t 120)), o 18 (.mv (.t 121))] [1, 2, 3, 4, 5, 6, 7, 8, 9, 10, 11, 12, 13, 14, 15, 16, 17, 18])
 (.seq (.ops [o 123 (.call true false 0 (.fn 83) []), o 124 (.mv (.t 16)), o 125 (.build [.p (.int .i64 0), .p (.str []), .p (.int .i64 0), .p (.int .i64 0), .p (.int .i64 0), .p (.int .i64 0)] [(0, 1, ci 20), (1, 1, cs [109, 101, 97, 115, 117, 114, 101])]), o 126 (.bslice false 6 [.p (.int .i64 0), .p (.str []), .p (.int .i64 0), .p (.int .i64 0), .p (.int .i64 0), .p (.int .i64 0)] 1 [(0, .t 125)]), o 127 (.app 6 56 [.p (.int .i64 0), .p (.str []), .p (.int .i64 0), .p (.int .i64 0), .p (.int .i64 0), .p (.int .i64 0)] (.t 124) (.t 126)), o 128 (.call true true 0 (.fn 31) [.t 123, .t 127]), o 122 (.mv (.t 128)), o 129 (.ext (.t 122) 0), o 130 (.ext (.t 122) 1), o 19 (.mv (.t 129)), o 20 (.mv (.t 130))] [1, 2, 3, 4, 5, 6, 7, 8, 9, 10, 11, 12, 13, 14, 15, 17, 18, 19, 20])
 (.seq (.ops [o 132 (.call true false 0 (.fn 83) []), o 133 (.call true false 0 (.fn 84) []), o 134 (.call true false 0 (.fn 21) [.t 132, .t 133, ci 9, ci 0]), o 131 (.mv (.t 134)), o 135 (.ext (.t 131) 0), o 136 (.ext (.t 131) 1), o 21 (.mv (.t 135)), o 22 (.mv (.t 136))] [1, 2, 3, 4, 5, 6, 7, 8, 9, 10, 11, 12, 13, 14, 15, 17, 18, 19, 20, 21, 22])
 (.seq (.ops [o 138 (.call true false 0 (.fn 83) []), o 139 (.call true false 0 (.fn 84) []), o 140 (.call true false 0 (.fn 32) [.t 138, .t 139]), o 137 (.mv (.t 140)), o 141 (.ext (.t 137) 0), o 142 (.ext (.t 137) 1), o 23 (.mv (.t 141)), o 24 (.mv (.t 142))] [1, 2, 3, 4, 5, 6, 7, 8, 9, 10, 11, 12, 13, 14, 15, 17, 18, 19, 20, 21, 22, 23, 24])
 (.seq (.seq (.ops [o 143 (.mv (.t 2)), o 144 (.mv (.t 4)), o 145 (.bin .add (.t 143) (.t 144)), o 146 (.mv (.t 7)), o 147 (.bin .add (.t 145) (.t 146)), o 148 (.mv (.t 9)), o 149 (.bin .add (.t 147) (.t 148)), o 150 (.mv (.t 11)), o 151 (.bin .add (.t 149) (.t 150)), o 152 (.mv (.t 13)), o 153 (.bin .add (.t 151) (.t 152)), o 154 (.mv (.t 15)), o 155 (.bin .add (.t 153) (.t 154)), o 156 (.mv (.t 18)), o 157 (.bin .add (.t 155) (.t 156)), o 158 (.mv (.t 20)), o 159 (.bin .add (.t 157) (.t 158)), o 160 (.mv (.t 22)), o 161 (.bin .add (.t 159) (.t 160)), o 162 (.mv (.t 24)), o 163 (.bin .add (.t 161) (.t 162)), o 164 (.bin .neq (.t 163) (ci 0)), o 165 (.mv (.t 164)), ⟨some 166, .mv (.t 1), some (165, false)⟩, ⟨some 167, .bin .neq (.t 166) (ci 20), some (165, false)⟩, o 168 (.pick (.t 165) (cb true) (.t 167)), o 169 (.mv (.t 168)), ⟨some 170, .mv (.t 3), some (169, false)⟩, ⟨some 171, .bin .neq (.t 170) (ci 30), some (169, false)⟩, o 172 (.pick (.t 169) (cb true) (.t 171)), o 173 (.mv (.t 172)), ⟨some 174, .mv (.t 6), some (173, false)⟩, ⟨some 175, .bin .neq (.t 174) (ci 0), some (173, false)⟩, o 176 (.pick (.t 173) (cb true) (.t 175)), o 177 (.mv (.t 176)), ⟨some 178, .ld true 15 (.t 5), some (177, false)⟩, ⟨some 179, .build [.p (.bool false), .p (.bool false)] [(0, 1, cb true), (1, 1, cb true)], some (177, false)⟩, ⟨some 180, .build [.p (.int .i64 0), .p (.bool false), .p (.bool false), .p (.bool false), .p (.bool false), .p (.bool false), .p (.bool false), .p (.bool false), .p (.bool false), .p (.bool false), .p (.bool false), .p (.int .i64 0), .p (.bool false), .p (.int .i64 0), .p (.int .i64 0)] [(0, 1, ci 8), (9, 2, .t 179), (13, 1, ci 8), (14, 1, ci (-1))], some (177, false)⟩, ⟨some 181, .eqagg [0, 2, 2, 2, 2, 2, 2, 2, 2, 2, 2, 0, 2, 0, 0] true (.t 178) (.t 180), some (177, false)⟩, o 182 (.pick (.t 177) (cb true) (.t 181)), o 183 (.mv (.t 182)), ⟨some 184, .mv (.t 8), some (183, false)⟩, ⟨some 185, .bslice false 1 [.p (.str [])] 1 [(0, cs [112, 101, 111, 112, 108, 101])], some (183, false)⟩, ⟨some 186, .call true true 0 (.fn 30) [.t 184, .t 185], some (183, false)⟩, ⟨some 187, .not (.t 186), some (183, false)⟩, o 188 (.pick (.t 183) (cb true) (.t 187)), o 189 (.mv (.t 188)), ⟨some 190, .mv (.t 10), some (189, false)⟩, ⟨some 191, .bslice false 1 [.p (.str [])] 1 [(0, cs [119, 97, 105, 116])], some (189, false)⟩, ⟨some 192, .call true true 0 (.fn 30) [.t 190, .t 191], some (189, false)⟩, ⟨some 193, .not (.t 192), some (189, false)⟩, o 194 (.pick (.t 189) (cb true) (.t 193)), o 195 (.mv (.t 194)), ⟨some 196, .mv (.t 12), some (195, false)⟩, ⟨some 197, .bslice false 1 [.p (.str [])] 2 [(0, cs [116, 105, 99, 107]), (1, cs [119, 97, 105, 116])], some (195, false)⟩, ⟨some 198, .call true true 0 (.fn 30) [.t 196, .t 197], some (195, false)⟩, ⟨some 199, .not (.t 198), some (195, false)⟩, o 200 (.pick (.t 195) (cb true) (.t 199)), o 201 (.mv (.t 200)), ⟨some 202, .mv (.t 14), some (201, false)⟩, ⟨some 203, .bslice false 1 [.p (.str [])] 2 [(0, cs [107, 101, 121]), (1, cs [119, 97, 105, 116])], some (201, false)⟩, ⟨some 204, .call true true 0 (.fn 30) [.t 202, .t 203], some (201, false)⟩, ⟨some 205, .not (.t 204), some (201, false)⟩, o 206 (.pick (.t 201) (cb true) (.t 205)), o 207 (.mv (.t 206)), ⟨some 208, .mv (.t 17), some (207, false)⟩, ⟨some 209, .bin .neq (.t 208) (ci 42), some (207, false)⟩, o 210 (.pick (.t 207) (cb true) (.t 209)), o 211 (.mv (.t 210)), ⟨some 212, .mv (.t 19), some (211, false)⟩, ⟨some 213, .bin .neq (.t 212) (ci 25), some (211, false)⟩, o 214 (.pick (.t 211) (cb true) (.t 213)), o 215 (.mv (.t 214)), ⟨some 216, .mv (.t 21), some (215, false)⟩, ⟨some 217, .bslice false 1 [.p (.str [])] 2 [(0, cs [114, 101, 109, 111, 118, 101]), (1, cs [109, 101, 97, 115, 117, 114, 101])], some (215, false)⟩, ⟨some 218, .call true true 0 (.fn 30) [.t 216, .t 217], some (215, false)⟩, ⟨some 219, .not (.t 218), some (215, false)⟩, o 220 (.pick (.t 215) (cb true) (.t 219)), o 221 (.mv (.t 220)), ⟨some 222, .mv (.t 23), some (221, false)⟩, ⟨some 223, .bslice false 1 [.p (.int .i64 0)] 1 [(0, ci 8)], some (221, false)⟩, ⟨some 224, .call true true 0 (.fn 38) [.t 222, .t 223], some (221, false)⟩, ⟨some 225, .not (.t 224), some (221, false)⟩, o 226 (.pick (.t 221) (cb true) (.t 225))] [226])
 (.cond (.t 226)
 (.seq (.ops [o 0 (.mv (cb false))] [0])
 (.ret))
 (.skip)))
 (.seq (.ops [o 228 (.call true false 0 (.fn 83) []), o 229 (.call true false 0 (.fn 84) []), o 230 (.call true false 0 (.fn 33) [.t 228, .t 229]), o 227 (.mv (.t 230)), o 231 (.ext (.t 227) 0), o 232 (.ext (.t 227) 1), o 25 (.mv (.t 231)), o 26 (.mv (.t 232))] [25, 26])
 (.seq (.ops [o 234 (.call true false 0 (.fn 83) []), o 235 (.call true false 0 (.fn 84) []), o 236 (.call true false 0 (.fn 34) [.t 234, .t 235]), o 233 (.mv (.t 236)), o 237 (.ext (.t 233) 0), o 238 (.ext (.t 233) 1), o 27 (.mv (.t 237)), o 28 (.mv (.t 238))] [25, 26, 27, 28])
 (.seq (.ops [o 240 (.bslice false 1 [.p (.int .i64 0)] 5 [(0, ci 0), (1, ci 0), (2, ci 1), (3, ci 1), (4, ci 2)]), o 241 (.call true false 0 (.fn 42) [.t 240, cn]), o 239 (.mv (.t 241)), o 242 (.ext (.t 239) 0), o 243 (.ext (.t 239) 1), o 29 (.mv (.t 242)), o 30 (.mv (.t 243))] [25, 26, 27, 28, 29, 30])
 (.seq (.ops [o 245 (.bslice false 1 [.p (.int .i64 0)] 5 [(0, ci 0), (1, ci 0), (2, ci 1), (3, ci 1), (4, ci 2)]), o 246 (.build [.p (.int .i64 0), .p (.int .i64 0)] [(0, 1, ci 2), (1, 1, ci 4)]), o 247 (.bslice false 2 [.p (.int .i64 0), .p (.int .i64 0)] 1 [(0, .t 246)]), o 248 (.call true false 0 (.fn 42) [.t 245, .t 247]), o 244 (.mv (.t 248)), o 249 (.ext (.t 244) 0), o 250 (.ext (.t 244) 1), o 31 (.mv (.t 249)), o 32 (.mv (.t 250))] [25, 26, 27, 28, 29, 30, 31, 32])
 (.seq (.ops [o 252 (.call true false 0 (.fn 85) []), o 253 (.bslice false 1 [.p (.int .i64 0)] 3 [(0, ci 0), (1, ci 1), (2, ci 2)]), o 254 (.call true false 0 (.fn 48) [.t 252, .t 253]), o 251 (.mv (.t 254)), o 255 (.ext (.t 251) 0), o 256 (.ext (.t 251) 1), o 33 (.mv (.t 255)), o 34 (.mv (.t 256))] [25, 26, 27, 28, 29, 30, 31, 32, 33, 34])
 (.seq (.ops [o 258 (.call true false 0 (.fn 85) []), o 259 (.bslice false 1 [.p (.int .i64 0)] 3 [(0, ci 1), (1, ci 0), (2, ci 2)]), o 260 (.call true false 0 (.fn 48) [.t 258, .t 259]), o 257 (.mv (.t 260)), o 261 (.ext (.t 257) 0), o 262 (.ext (.t 257) 1), o 35 (.mv (.t 261)), o 36 (.mv (.t 262))] [25, 26, 27, 28, 29, 30, 31, 32, 33, 34, 35, 36])
 (.seq (.ops [o 264 (.call true false 0 (.fn 85) []), o 265 (.bslice false 1 [.p (.int .i64 0)] 3 [(0, ci 0), (1, ci 2), (2, ci 1)]), o 266 (.call true false 0 (.fn 48) [.t 264, .t 265]), o 263 (.mv (.t 266)), o 267 (.ext (.t 263) 0), o 268 (.ext (.t 263) 1), o 37 (.mv (.t 267)), o 38 (.mv (.t 268))] [25, 26, 27, 28, 29, 30, 31, 32, 33, 34, 35, 36, 37, 38])
 (.seq (.ops [o 270 (.call true false 0 (.fn 85) []), o 271 (.call true false 0 (.fn 59) [.t 270]), o 269 (.mv (.t 271)), o 272 (.ext (.t 269) 0), o 273 (.ext (.t 269) 1), o 274 (.ext (.t 269) 2), o 39 (.mv (.t 272)), o 40 (.mv (.t 273)), o 41 (.mv (.t 274))] [25, 26, 27, 28, 29, 30, 31, 32, 33, 34, 35, 36, 37, 38, 39, 40, 41])
 (.seq (.ops [o 276 (.call true false 0 (.fn 85) []), o 277 (.call true true 0 (.fn 60) [.t 276]), o 275 (.mv (.t 277)), o 278 (.ext (.t 275) 0), o 279 (.ext (.t 275) 1), o 42 (.mv (.t 278)), o 43 (.mv (.t 279))] [25, 26, 27, 28, 29, 30, 31, 32, 33, 34, 35, 36, 37, 38, 39, 40, 41, 42, 43])
 (.seq (.ops [o 281 (.call true false 0 (.fn 85) []), o 282 (.bslice false 1 [.p (.int .i64 0)] 3 [(0, ci 0), (1, ci 8), (2, ci 12)]), o 283 (.call true true 0 (.fn 50) [.t 281, .t 282]), o 280 (.mv (.t 283)), o 284 (.ext (.t 280) 0), o 285 (.ext (.t 280) 1), o 44 (.mv (.t 284)), o 45 (.mv (.t 285))] [25, 26, 27, 28, 29, 30, 31, 32, 33, 34, 35, 36, 37, 38, 39, 40, 41, 42, 43, 44, 45])
 (.seq (.ops [o 287 (.call true false 0 (.fn 83) []), o 288 (.call true false 0 (.fn 84) []), o 289 (.call true true 0 (.fn 63) [.t 287, .t 288]), o 286 (.mv (.t 289)), o 290 (.ext (.t 286) 0), o 291 (.ext (.t 286) 1), o 46 (.mv (.t 290)), o 47 (.mv (.t 291))] [25, 26, 27, 28, 29, 30, 31, 32, 33, 34, 35, 36, 37, 38, 39, 40, 41, 42, 43, 44, 45, 46, 47])
 (.seq (.ops [o 293 (.call true false 0 (.fn 83) []), o 294 (.mv (.t 46)), o 295 (.call true false 0 (.fn 64) [.t 293, .t 294]), o 292 (.mv (.t 295)), o 296 (.ext (.t 292) 0), o 297 (.ext (.t 292) 1), o 298 (.ext (.t 292) 2), o 48 (.mv (.t 296)), o 49 (.mv (.t 297)), o 50 (.mv (.t 298))] [25, 26, 27, 28, 29, 30, 31, 32, 33, 34, 35, 36, 37, 38, 39, 40, 41, 42, 43, 44, 45, 46, 47, 48, 49, 50])
 (.seq (.ops [o 299 (.mv (.t 26)), o 300 (.mv (.t 28)), o 301 (.bin .add (.t 299) (.t 300)), o 302 (.mv (.t 30)), o 303 (.bin .add (.t 301) (.t 302)), o 304 (.mv (.t 32)), o 305 (.bin .add (.t 303) (.t 304)), o 306 (.mv (.t 34)), o 307 (.bin .add (.t 305) (.t 306)), o 308 (.mv (.t 36)), o 309 (.bin .add (.t 307) (.t 308)), o 310 (.mv (.t 38)), o 311 (.bin .add (.t 309) (.t 310)), o 312 (.mv (.t 41)), o 313 (.bin .add (.t 311) (.t 312)), o 314 (.mv (.t 43)), o 315 (.bin .add (.t 313) (.t 314)), o 316 (.mv (.t 45)), o 317 (.bin .add (.t 315) (.t 316)), o 318 (.mv (.t 47)), o 319 (.bin .add (.t 317) (.t 318)), o 320 (.mv (.t 50)), o 321 (.bin .add (.t 319) (.t 320)), o 322 (.bin .eql (.t 321) (ci 0)), o 323 (.mv (.t 322)), ⟨some 324, .mv (.t 25), some (323, true)⟩, ⟨some 325, .build [.p (.int .i64 0), .p (.int .i64 0)] [(0, 1, ci 2), (1, 1, ci 4)], some (323, true)⟩, ⟨some 326, .bslice false 2 [.p (.int .i64 0), .p (.int .i64 0)] 1 [(0, .t 325)], some (323, true)⟩, ⟨some 327, .call true true 0 (.fn 39) [.t 324, .t 326], some (323, true)⟩, o 328 (.pick (.t 323) (.t 327) (cb false)), o 329 (.mv (.t 328)), ⟨some 330, .mv (.t 27), some (329, true)⟩, ⟨some 331, .build [.p (.int .i64 0), .p (.int .i64 0)] [(0, 1, ci 6), (1, 1, ci 8)], some (329, true)⟩, ⟨some 332, .bslice false 2 [.p (.int .i64 0), .p (.int .i64 0)] 1 [(0, .t 331)], some (329, true)⟩, ⟨some 333, .call true true 0 (.fn 39) [.t 330, .t 332], some (329, true)⟩, o 334 (.pick (.t 329) (.t 333) (cb false)), o 335 (.mv (.t 334)), ⟨some 336, .mv (.t 29), some (335, true)⟩, ⟨some 337, .bslice false 1 [.p (.int .i64 0)] 2 [(0, ci 2), (1, ci 4)], some (335, true)⟩, ⟨some 338, .call true true 0 (.fn 38) [.t 336, .t 337], some (335, true)⟩, o 339 (.pick (.t 335) (.t 338) (cb false)), o 340 (.mv (.t 339)), ⟨some 341, .mv (.t 31), some (340, true)⟩, ⟨some 342, .bslice false 1 [.p (.int .i64 0)] 1 [(0, ci 4)], some (340, true)⟩, ⟨some 343, .call true true 0 (.fn 38) [.t 341, .t 342], some (340, true)⟩, o 344 (.pick (.t 340) (.t 343) (cb false)), o 345 (.mv (.t 344)), ⟨some 346, .mv (.t 33), some (345, true)⟩, ⟨some 347, .bslice false 1 [.p (.int .i64 0)] 3 [(0, ci 0), (1, ci 8), (2, ci 12)], some (345, true)⟩, ⟨some 348, .call true true 0 (.fn 38) [.t 346, .t 347], some (345, true)⟩, o 349 (.pick (.t 345) (.t 348) (cb false)), o 350 (.mv (.t 349)), ⟨some 351, .mv (.t 35), some (350, true)⟩, ⟨some 352, .bslice false 1 [.p (.int .i64 0)] 3 [(0, ci 4), (1, ci 0), (2, ci 9)], some (350, true)⟩, ⟨some 353, .call true true 0 (.fn 38) [.t 351, .t 352], some (350, true)⟩, o 354 (.pick (.t 350) (.t 353) (cb false)), o 355 (.mv (.t 354)), ⟨some 356, .mv (.t 37), some (355, true)⟩, ⟨some 357, .bslice false 1 [.p (.int .i64 0)] 3 [(0, ci 0), (1, ci 8), (2, ci 5)], some (355, true)⟩, ⟨some 358, .call true true 0 (.fn 38) [.t 356, .t 357], some (355, true)⟩, o 359 (.pick (.t 355) (.t 358) (cb false)), o 360 (.mv (.t 359)), ⟨some 361, .mv (.t 39), some (360, true)⟩, ⟨some 362, .bslice false 1 [.p (.int .i64 0)] 3 [(0, ci 1), (1, ci 0), (2, ci 2)], some (360, true)⟩, ⟨some 363, .call true true 0 (.fn 38) [.t 361, .t 362], some (360, true)⟩, o 364 (.pick (.t 360) (.t 363) (cb false)), o 365 (.mv (.t 364)), ⟨some 366, .mv (.t 40), some (365, true)⟩, ⟨some 367, .bin .eql (.t 366) (ci 11), some (365, true)⟩, o 368 (.pick (.t 365) (.t 367) (cb false)), o 369 (.mv (.t 368)), ⟨some 370, .mv (.t 42), some (369, true)⟩, ⟨some 371, .bin .eql (.t 370) (ci 9), some (369, true)⟩, o 372 (.pick (.t 369) (.t 371) (cb false)), o 373 (.mv (.t 372)), ⟨some 374, .mv (.t 44), some (373, true)⟩, ⟨some 375, .bin .eql (.t 374) (ci 14), some (373, true)⟩, o 376 (.pick (.t 373) (.t 375) (cb false)), o 377 (.mv (.t 376)), ⟨some 378, .call true false 0 (.fn 85) [], some (377, true)⟩, ⟨some 379, .bslice false 1 [.p (.int .i64 0)] 3 [(0, ci 0), (1, ci 7), (2, ci 12)], some (377, true)⟩, ⟨some 380, .call true true 0 (.fn 58) [.t 378, .t 379], some (377, true)⟩, ⟨some 381, .bin .eql (.t 380) (ci 24), some (377, true)⟩, o 382 (.pick (.t 377) (.t 381) (cb false)), o 383 (.mv (.t 382)), ⟨some 384, .mv (.t 46), some (383, true)⟩, ⟨some 385, .bin .eql (.t 384) (cs [111, 112, 101, 110, 32, 49, 32, 48, 10, 101, 110, 116, 101, 114, 32, 50, 32, 48, 10, 105, 110, 115, 101, 114, 116, 32, 51, 32, 48, 10, 105, 110, 115, 101, 114, 116, 32, 51, 32, 49, 10, 108, 101, 97, 118, 101, 32, 52, 32, 48, 10, 99, 108, 111, 115, 101, 32, 53, 32, 48, 10, 97, 114, 109, 32, 54, 10, 115, 104, 111, 111, 116, 32, 56, 10]), some (383, true)⟩, o 386 (.pick (.t 383) (.t 385) (cb false)), o 387 (.mv (.t 386)), ⟨some 388, .mv (.t 48), some (387, true)⟩, ⟨some 389, .len 1 (.t 388), some (387, true)⟩, ⟨some 390, .bin .eql (.t 389) (ci 8), some (387, true)⟩, o 391 (.pick (.t 387) (.t 390) (cb false)), o 392 (.mv (.t 391)), ⟨some 393, .mv (.t 49), some (392, true)⟩, ⟨some 394, .bin .eql (.t 393) (ci 0), some (392, true)⟩, o 395 (.pick (.t 392) (.t 394) (cb false)), o 0 (.mv (.t 395))] [0])
 (.ret)))))))))))))))))))))))))))⟩

/-- crumple/garage.Reasons -/
def c18 : AFunc := ⟨39, [.tmp 6, .tmp 7],
 .seq (.ops [o 3 (.box false (.t 0)), o 5 (.box true (.t 2)), o 6 (.mv (cn)), o 7 (.mv (ci 0))] [1, 3, 5])
 (.seq (.seq (.ops [o 13 (.ld true 5 (.t 3)), o 14 (.mv (.t 1)), o 15 (.call true true 0 (.fn 86) [.t 13, .t 14]), o 8 (.mv (.t 15))] [1, 3, 5, 8])
 (.seq (.ops [o 16 (.mv (.t 8)), o 17 (.bin .neq (.t 16) (ci 0))] [1, 3, 5, 8, 17])
 (.cond (.t 17)
 (.seq (.ops [o 18 (.mv (.t 8)), o 6 (.mv (cn)), o 7 (.mv (.t 18))] [6, 7])
 (.ret))
 (.skip))))
 (.seq (.seq (.ops [o 19 (.ld true 6 (.t 5)), o 20 (.ld true 5 (.t 3)), o 21 (.call true true 0 (.fn 87) [.t 19, .t 20]), o 9 (.mv (.t 21))] [1, 3, 5, 9])
 (.seq (.ops [o 22 (.mv (.t 9)), o 23 (.bin .neq (.t 22) (ci 0))] [1, 3, 5, 9, 23])
 (.cond (.t 23)
 (.seq (.ops [o 24 (.mv (.t 9)), o 6 (.mv (cn)), o 7 (.mv (.t 24))] [6, 7])
 (.ret))
 (.skip))))
 (.seq (.ops [o 26 (.ld true 5 (.t 3)), o 27 (.mv (.t 1)), o 28 (.call true false 0 (.fn 88) [.t 26, .t 27]), o 25 (.mv (.t 28)), o 29 (.ext (.t 25) 0), o 30 (.ext (.t 25) 1), o 31 (.ext (.t 25) 2), o 10 (.mv (.t 29)), o 11 (.mv (.t 30)), o 12 (.mv (.t 31))] [5, 10, 12])
 (.seq (.seq (.ops [o 32 (.mv (.t 12)), o 33 (.bin .neq (.t 32) (ci 0))] [5, 10, 12, 33])
 (.cond (.t 33)
 (.seq (.ops [o 34 (.mv (.t 12)), o 6 (.mv (cn)), o 7 (.mv (.t 34))] [6, 7])
 (.ret))
 (.skip)))
 (.seq (.opsd [(0, 1), (1, 1), (2, 1), (3, 0), (4, 1), (5, 1)] [o 35 (.mv (.t 10)), o 36 (.call true true 0 (.fn 89) [.t 35]), o 37 (.ld true 6 (.t 5)), o 38 (.call true false 0 (.fn 90) [.t 36, .t 37]), o 6 (.mv (.t 38)), o 7 (.mv (ci 0))] [6, 7])
 (.ret))))))⟩

/-- crumple/garage.Permitted -/
def c21L0 : ACode :=
 .seq (.ops [o 47 (.bin .lss (.t 46) (ci 10))] [2, 3, 4, 15, 16, 46, 47])
 (.seq (.cond (.t 47)
 (.skip)
 (.exit 0))
 (.seq (.block 1 (.seq (.ops [o 48 (.mv (.t 46)), o 17 (.mv (.t 48))] [2, 3, 4, 15, 16, 17, 46])
 (.seq (.ops [o 49 (.mv (.t 2)), o 50 (.mv (.t 17)), o 51 (.iadra 4 10 (.g 0) (.t 50)), o 52 (.fadr 0 (.t 51)), o 53 (.ld false 1 (.t 52)), o 54 (.mv (.t 3)), o 55 (.build [.p (.int .i64 0), .p (.str []), .p (.int .i64 0), .p (.int .i64 0), .p (.int .i64 0), .p (.int .i64 0)] [(0, 1, .t 49), (1, 1, .t 53), (2, 1, .t 54)]), o 18 (.alloc true 1 [.p (.int .i64 0), .p (.str []), .p (.int .i64 0), .p (.int .i64 0), .p (.int .i64 0), .p (.int .i64 0)]), u (.st 6 (.t 18) (.t 55))] [2, 3, 4, 15, 16, 17, 18, 46])
 (.seq (.seq (.opsd [(0, 1), (1, 1), (2, 1), (3, 1), (4, 1), (5, 0), (6, 1), (7, 1), (8, 1), (9, 1), (10, 0), (11, 1), (12, 1)] [o 56 (.mv (.t 17)), o 57 (.iadra 4 10 (.g 0) (.t 56)), o 58 (.fadr 1 (.t 57)), o 59 (.ld false 1 (.t 58)), o 60 (.ld true 5 (.t 4)), o 61 (.call false true 0 (.val (.t 59)) [.t 60]), o 62 (.bin .eql (.t 61) (ci 1)), o 63 (.mv (.t 62)), ⟨some 64, .ld true 6 (.t 18), some (63, true)⟩, ⟨some 65, .bslice false 1 [.p (.str [])] 4 [(0, cs [111, 112, 101, 110]), (1, cs [99, 108, 111, 115, 101]), (2, cs [101, 110, 116, 101, 114]), (3, cs [108, 101, 97, 118, 101])], some (63, true)⟩, ⟨some 66, .call true true 0 (.fn 93) [.t 64, .t 65], some (63, true)⟩, ⟨some 67, .not (.t 66), some (63, true)⟩, o 68 (.pick (.t 63) (.t 67) (cb false))] [2, 3, 4, 15, 16, 18, 46, 68])
 (.cond (.t 68)
 (.ops [o 69 (.fadr 2 (.t 18)), u (.st 1 (.t 69) (ci 0))] [2, 3, 4, 15, 16, 18, 46])
 (.skip)))
 (.seq (.ops [o 70 (.ld true 6 (.t 18)), o 71 (.ld true 5 (.t 4)), o 72 (.call true true 0 (.fn 87) [.t 70, .t 71]), o 73 (.bin .eql (.t 72) (ci 0)), o 74 (.mv (.t 73)), ⟨some 75, .ld true 15 (.t 15), some (74, true)⟩, ⟨some 76, .ld true 6 (.t 18), some (74, true)⟩, ⟨some 77, .call true false 0 (.fn 90) [.t 75, .t 76], some (74, true)⟩, ⟨some 78, .len 1 (.t 77), some (74, true)⟩, ⟨some 79, .bin .eql (.t 78) (ci 0), some (74, true)⟩, o 80 (.pick (.t 74) (.t 79) (cb false))] [2, 3, 4, 15, 16, 18, 46, 80])
 (.cond (.t 80)
 (.ops [o 81 (.mv (.t 16)), o 82 (.fadr 1 (.t 18)), o 83 (.ld false 1 (.t 82)), o 84 (.bslice false 1 [.p (.str [])] 1 [(0, .t 83)]), o 85 (.app 1 16 [.p (.str [])] (.t 81) (.t 84)), o 16 (.mv (.t 85))] [2, 3, 4, 15, 16, 46])
 (.skip)))))))
 (.ops [o 86 (.bin .add (.t 46) (ci 1)), o 46 (.mv (.t 86))] [2, 3, 4, 15, 16, 46])))
def c21 : AFunc := ⟨88, [.tmp 8, .tmp 9],
 .seq (.ops [o 4 (.box false (.t 0)), o 8 (.mv (cn)), o 9 (.mv (ci 0))] [1, 2, 3, 4])
 (.seq (.seq (.ops [o 19 (.ld true 5 (.t 4)), o 20 (.mv (.t 1)), o 21 (.call true true 0 (.fn 86) [.t 19, .t 20]), o 10 (.mv (.t 21))] [1, 2, 3, 4, 10])
 (.seq (.ops [o 22 (.mv (.t 10)), o 23 (.bin .neq (.t 22) (ci 0))] [1, 2, 3, 4, 10, 23])
 (.cond (.t 23)
 (.seq (.ops [o 24 (.mv (.t 10)), o 8 (.mv (cn)), o 9 (.mv (.t 24))] [8, 9])
 (.ret))
 (.skip))))
 (.seq (.seq (.ops [o 25 (.mv (.t 2)), o 26 (.call true true 0 (.fn 92) [.t 25, ci 0, ci 100000000]), o 27 (.mv (.t 3)), o 28 (.call true true 0 (.fn 92) [.t 27, ci 0, ci 7]), o 29 (.bslice false 1 [.p (.int .i64 0)] 2 [(0, .t 26), (1, .t 28)]), o 30 (.call true true 0 (.fn 91) [.t 29]), o 11 (.mv (.t 30))] [1, 2, 3, 4, 11])
 (.seq (.ops [o 31 (.mv (.t 11)), o 32 (.bin .neq (.t 31) (ci 0))] [1, 2, 3, 4, 11, 32])
 (.cond (.t 32)
 (.seq (.ops [o 33 (.mv (.t 11)), o 8 (.mv (cn)), o 9 (.mv (.t 33))] [8, 9])
 (.ret))
 (.skip))))
 (.seq (.ops [o 35 (.ld true 5 (.t 4)), o 36 (.mv (.t 1)), o 37 (.call true false 0 (.fn 88) [.t 35, .t 36]), o 34 (.mv (.t 37)), o 38 (.ext (.t 34) 0), o 39 (.ext (.t 34) 1), o 40 (.ext (.t 34) 2), o 12 (.mv (.t 38)), o 13 (.mv (.t 39)), o 14 (.mv (.t 40))] [2, 3, 4, 12, 14])
 (.seq (.seq (.ops [o 41 (.mv (.t 14)), o 42 (.bin .neq (.t 41) (ci 0))] [2, 3, 4, 12, 14, 42])
 (.cond (.t 42)
 (.seq (.ops [o 43 (.mv (.t 14)), o 8 (.mv (cn)), o 9 (.mv (.t 43))] [8, 9])
 (.ret))
 (.skip)))
 (.seq (.ops [o 44 (.mv (.t 12)), o 45 (.call true true 0 (.fn 89) [.t 44]), o 15 (.alloc true 1 [.p (.int .i64 0), .p (.bool false), .p (.bool false), .p (.bool false), .p (.bool false), .p (.bool false), .p (.bool false), .p (.bool false), .p (.bool false), .p (.bool false), .p (.bool false), .p (.int .i64 0), .p (.bool false), .p (.int .i64 0), .p (.int .i64 0)]), u (.st 15 (.t 15) (.t 45))] [2, 3, 4, 15])
 (.seq (.ops [o 16 (.nilown 1)] [2, 3, 4, 15, 16])
 (.seq (.seq (.ops [o 46 (.mv (ci 0))] [2, 3, 4, 15, 16, 46])
 (.block 0 (.loop true [2, 3, 4, 15, 16, 46] c21L0)))
 (.seq (.ops [o 87 (.mv (.t 16)), o 8 (.mv (.t 87)), o 9 (.mv (ci 0))] [8, 9])
 (.ret)))))))))⟩

/-- crumple/crumpleref01.First -/
def c23L0 : ACode :=
 .seq (.seq (.ops [o 4 (.mv (.t 3)), o 5 (.mv (.t 0)), o 6 (.len 1 (.t 5)), o 7 (.bin .lss (.t 4) (.t 6))] [0, 3, 7])
 (.cond (.t 7)
 (.skip)
 (.exit 0)))
 (.seq (.block 1 (.seq (.ops [o 10 (.mv (.t 0)), o 11 (.mv (.t 3)), o 12 (.iadr 1 (.t 10) (.t 11)), o 13 (.ld false 1 (.t 12)), o 14 (.bin .neq (.t 13) (ci 0))] [0, 3, 14])
 (.cond (.t 14)
 (.seq (.ops [o 15 (.mv (.t 0)), o 16 (.mv (.t 3)), o 17 (.iadr 1 (.t 15) (.t 16)), o 18 (.ld false 1 (.t 17)), o 2 (.mv (.t 18))] [2])
 (.ret))
 (.skip))))
 (.ops [o 8 (.mv (.t 3)), o 9 (.bin .add (.t 8) (ci 1)), o 3 (.mv (.t 9))] [0, 3]))
def c23 : AFunc := ⟨19, [.tmp 2],
 .seq (.ops [o 2 (.mv (ci 0))] [0])
 (.seq (.seq (.ops [o 3 (.mv (ci 0))] [0, 3])
 (.block 0 (.loop false [0, 3] c23L0)))
 (.seq (.ops [o 2 (.mv (ci 0))] [2])
 (.ret)))⟩

/-- crumple/crumpleref01.CheckRange -/
def c24 : AFunc := ⟨16, [.tmp 6],
 .seq (.ops [o 6 (.mv (ci 0))] [0, 1, 2])
 (.seq (.ops [o 7 (.mv (.t 0)), o 8 (.mv (.t 1)), o 9 (.bin .lss (.t 7) (.t 8)), o 10 (.mv (.t 9)), ⟨some 11, .mv (.t 0), some (10, false)⟩, ⟨some 12, .mv (.t 2), some (10, false)⟩, ⟨some 13, .bin .gtr (.t 11) (.t 12), some (10, false)⟩, o 14 (.pick (.t 10) (cb true) (.t 13)), o 15 (.call true true 0 (.fn 94) [.t 14, ci 3]), o 6 (.mv (.t 15))] [6])
 (.ret))⟩

/-- crumple/crumpleref01.SameWords -/
def c30L0 : ACode :=
 .seq (.seq (.ops [o 11 (.mv (.t 5)), o 12 (.mv (.t 0)), o 13 (.len 1 (.t 12)), o 14 (.bin .lss (.t 11) (.t 13))] [0, 1, 5, 14])
 (.cond (.t 14)
 (.skip)
 (.exit 0)))
 (.seq (.block 1 (.seq (.opsd [(0, 1), (1, 1), (2, 1), (3, 1), (4, 1), (5, 1), (6, 1), (7, 1), (8, 1)] [o 17 (.mv (.t 0)), o 18 (.mv (.t 5)), o 19 (.iadr 1 (.t 17) (.t 18)), o 20 (.ld false 1 (.t 19)), o 21 (.mv (.t 1)), o 22 (.mv (.t 5)), o 23 (.iadr 1 (.t 21) (.t 22)), o 24 (.ld false 1 (.t 23)), o 25 (.bin .neq (.t 20) (.t 24))] [0, 1, 5, 25])
 (.cond (.t 25)
 (.seq (.ops [o 4 (.mv (cb false))] [4])
 (.ret))
 (.skip))))
 (.ops [o 15 (.mv (.t 5)), o 16 (.bin .add (.t 15) (ci 1)), o 5 (.mv (.t 16))] [0, 1, 5]))
def c30 : AFunc := ⟨26, [.tmp 4],
 .seq (.ops [o 4 (.mv (cb false))] [0, 1])
 (.seq (.seq (.ops [o 6 (.mv (.t 0)), o 7 (.len 1 (.t 6)), o 8 (.mv (.t 1)), o 9 (.len 1 (.t 8)), o 10 (.bin .neq (.t 7) (.t 9))] [0, 1, 10])
 (.cond (.t 10)
 (.seq (.ops [o 4 (.mv (cb false))] [4])
 (.ret))
 (.skip)))
 (.seq (.seq (.ops [o 5 (.mv (ci 0))] [0, 1, 5])
 (.block 0 (.loop false [0, 1, 5] c30L0)))
 (.seq (.ops [o 4 (.mv (cb true))] [4])
 (.ret))))⟩

/-- crumple/garage.Admitted -/
def c31 : AFunc := ⟨22, [.tmp 4, .tmp 5],
 .seq (.ops [o 2 (.box false (.t 0)), o 4 (.mv (ci 0)), o 5 (.mv (ci 0))] [1, 2])
 (.seq (.ops [o 10 (.ld true 5 (.t 2)), o 11 (.mv (.t 1)), o 12 (.call true false 0 (.fn 88) [.t 10, .t 11]), o 9 (.mv (.t 12)), o 13 (.ext (.t 9) 0), o 14 (.ext (.t 9) 1), o 15 (.ext (.t 9) 2), o 6 (.mv (.t 13)), o 7 (.mv (.t 14)), o 8 (.mv (.t 15))] [6, 8])
 (.seq (.seq (.ops [o 16 (.mv (.t 8)), o 17 (.bin .neq (.t 16) (ci 0))] [6, 8, 17])
 (.cond (.t 17)
 (.seq (.ops [o 18 (.mv (.t 8)), o 4 (.mv (ci 0)), o 5 (.mv (.t 18))] [4, 5])
 (.ret))
 (.skip)))
 (.seq (.ops [o 19 (.mv (.t 6)), o 20 (.call true true 0 (.fn 89) [.t 19]), o 21 (.fld false 14 1 (.t 20)), o 4 (.mv (.t 21)), o 5 (.mv (ci 0))] [4, 5])
 (.ret))))⟩

/-- crumple/garage.Shots -/
def c32L0 : ACode :=
 .seq (.ops [o 25 (.bin .lss (.t 24) (.t 23))] [9, 22, 23, 24, 25])
 (.seq (.cond (.t 25)
 (.skip)
 (.exit 0))
 (.seq (.block 1 (.seq (.ops [o 26 (.iadr 6 (.t 22) (.t 24)), o 27 (.ld true 6 (.t 26)), o 11 (.alloc true 1 [.p (.int .i64 0), .p (.str []), .p (.int .i64 0), .p (.int .i64 0), .p (.int .i64 0), .p (.int .i64 0)]), u (.st 6 (.t 11) (.t 27))] [9, 11, 22, 23, 24])
 (.seq (.ops [o 28 (.ld true 6 (.t 11)), o 29 (.fadr 0 (.t 11)), o 30 (.ld false 1 (.t 29)), o 31 (.build [.p (.int .i64 0), .p (.str []), .p (.int .i64 0), .p (.int .i64 0), .p (.int .i64 0), .p (.int .i64 0)] [(0, 1, .t 30), (1, 1, cs [115, 104, 111, 111, 116])]), o 32 (.eqagg [0, 1, 0, 0, 0, 0] false (.t 28) (.t 31))] [9, 11, 22, 23, 24, 32])
 (.cond (.t 32)
 (.ops [o 33 (.mv (.t 9)), o 34 (.fadr 0 (.t 11)), o 35 (.ld false 1 (.t 34)), o 36 (.bslice false 1 [.p (.int .i64 0)] 1 [(0, .t 35)]), o 37 (.app 1 8 [.p (.int .i64 0)] (.t 33) (.t 36)), o 9 (.mv (.t 37))] [9, 22, 23, 24])
 (.skip)))))
 (.ops [o 38 (.bin .add (.t 24) (ci 1)), o 24 (.mv (.t 38))] [9, 22, 23, 24])))
def c32 : AFunc := ⟨40, [.tmp 4, .tmp 5],
 .seq (.ops [o 2 (.box false (.t 0)), o 4 (.mv (cn)), o 5 (.mv (ci 0))] [1, 2])
 (.seq (.seq (.ops [o 13 (.ld true 5 (.t 2)), o 14 (.mv (.t 1)), o 15 (.call true false 0 (.fn 88) [.t 13, .t 14]), o 12 (.mv (.t 15)), o 16 (.ext (.t 12) 0), o 17 (.ext (.t 12) 1), o 18 (.ext (.t 12) 2), o 6 (.mv (.t 16)), o 7 (.mv (.t 17)), o 8 (.mv (.t 18))] [1, 8])
 (.seq (.ops [o 19 (.mv (.t 8)), o 20 (.bin .neq (.t 19) (ci 0))] [1, 8, 20])
 (.cond (.t 20)
 (.seq (.ops [o 21 (.mv (.t 8)), o 4 (.mv (cn)), o 5 (.mv (.t 21))] [4, 5])
 (.ret))
 (.skip))))
 (.seq (.ops [o 9 (.nilown 1)] [1, 9])
 (.seq (.seq (.ops [o 22 (.mv (.t 1)), o 23 (.len 1 (.t 22)), o 24 (.mv (ci 0))] [9, 22, 23, 24])
 (.block 0 (.loop true [9, 22, 23, 24] c32L0)))
 (.seq (.ops [o 39 (.mv (.t 9)), o 4 (.mv (.t 39)), o 5 (.mv (ci 0))] [4, 5])
 (.ret)))))⟩

/-- crumple/garage.Occupied -/
def c33 : AFunc := ⟨11, [.tmp 4, .tmp 5],
 .seq (.ops [o 2 (.box false (.t 0)), o 4 (.mv (cn)), o 5 (.mv (ci 0))] [1, 2])
 (.seq (.ops [o 6 (.ld true 5 (.t 2)), o 7 (.mv (.t 1)), o 8 (.call true false 0 (.fn 99) [.t 6, .t 7, cf 100]), o 9 (.ext (.t 8) 0), o 10 (.ext (.t 8) 1), o 4 (.mv (.t 9)), o 5 (.mv (.t 10))] [4, 5])
 (.ret))⟩

/-- crumple/garage.Armed -/
def c34 : AFunc := ⟨11, [.tmp 4, .tmp 5],
 .seq (.ops [o 2 (.box false (.t 0)), o 4 (.mv (cn)), o 5 (.mv (ci 0))] [1, 2])
 (.seq (.ops [o 6 (.ld true 5 (.t 2)), o 7 (.mv (.t 1)), o 8 (.call true false 0 (.fn 99) [.t 6, .t 7, cf 101]), o 9 (.ext (.t 8) 0), o 10 (.ext (.t 8) 1), o 4 (.mv (.t 9)), o 5 (.mv (.t 10))] [4, 5])
 (.ret))⟩

/-- crumple/crumpleref01.SameInts -/
def c38L0 : ACode :=
 .seq (.seq (.ops [o 11 (.mv (.t 5)), o 12 (.mv (.t 0)), o 13 (.len 1 (.t 12)), o 14 (.bin .lss (.t 11) (.t 13))] [0, 1, 5, 14])
 (.cond (.t 14)
 (.skip)
 (.exit 0)))
 (.seq (.block 1 (.seq (.opsd [(0, 1), (1, 1), (2, 1), (3, 1), (4, 1), (5, 1), (6, 1), (7, 1), (8, 1)] [o 17 (.mv (.t 0)), o 18 (.mv (.t 5)), o 19 (.iadr 1 (.t 17) (.t 18)), o 20 (.ld false 1 (.t 19)), o 21 (.mv (.t 1)), o 22 (.mv (.t 5)), o 23 (.iadr 1 (.t 21) (.t 22)), o 24 (.ld false 1 (.t 23)), o 25 (.bin .neq (.t 20) (.t 24))] [0, 1, 5, 25])
 (.cond (.t 25)
 (.seq (.ops [o 4 (.mv (cb false))] [4])
 (.ret))
 (.skip))))
 (.ops [o 15 (.mv (.t 5)), o 16 (.bin .add (.t 15) (ci 1)), o 5 (.mv (.t 16))] [0, 1, 5]))
def c38 : AFunc := ⟨26, [.tmp 4],
 .seq (.ops [o 4 (.mv (cb false))] [0, 1])
 (.seq (.seq (.ops [o 6 (.mv (.t 0)), o 7 (.len 1 (.t 6)), o 8 (.mv (.t 1)), o 9 (.len 1 (.t 8)), o 10 (.bin .neq (.t 7) (.t 9))] [0, 1, 10])
 (.cond (.t 10)
 (.seq (.ops [o 4 (.mv (cb false))] [4])
 (.ret))
 (.skip)))
 (.seq (.seq (.ops [o 5 (.mv (ci 0))] [0, 1, 5])
 (.block 0 (.loop false [0, 1, 5] c38L0)))
 (.seq (.ops [o 4 (.mv (cb true))] [4])
 (.ret))))⟩

/-- crumple/crumpleref01.SameSpans -/
def c39L0 : ACode :=
 .seq (.seq (.ops [o 11 (.mv (.t 5)), o 12 (.mv (.t 0)), o 13 (.len 1 (.t 12)), o 14 (.bin .lss (.t 11) (.t 13))] [0, 1, 5, 14])
 (.cond (.t 14)
 (.skip)
 (.exit 0)))
 (.seq (.block 1 (.seq (.opsd [(0, 1), (1, 1), (2, 1), (3, 1), (4, 1), (5, 1), (6, 1), (7, 1), (8, 1)] [o 17 (.mv (.t 0)), o 18 (.mv (.t 5)), o 19 (.iadr 2 (.t 17) (.t 18)), o 20 (.ld true 2 (.t 19)), o 21 (.mv (.t 1)), o 22 (.mv (.t 5)), o 23 (.iadr 2 (.t 21) (.t 22)), o 24 (.ld true 2 (.t 23)), o 25 (.eqagg [0, 0] true (.t 20) (.t 24))] [0, 1, 5, 25])
 (.cond (.t 25)
 (.seq (.ops [o 4 (.mv (cb false))] [4])
 (.ret))
 (.skip))))
 (.ops [o 15 (.mv (.t 5)), o 16 (.bin .add (.t 15) (ci 1)), o 5 (.mv (.t 16))] [0, 1, 5]))
def c39 : AFunc := ⟨26, [.tmp 4],
 .seq (.ops [o 4 (.mv (cb false))] [0, 1])
 (.seq (.seq (.ops [o 6 (.mv (.t 0)), o 7 (.len 1 (.t 6)), o 8 (.mv (.t 1)), o 9 (.len 1 (.t 8)), o 10 (.bin .neq (.t 7) (.t 9))] [0, 1, 10])
 (.cond (.t 10)
 (.seq (.ops [o 4 (.mv (cb false))] [4])
 (.ret))
 (.skip)))
 (.seq (.seq (.ops [o 5 (.mv (ci 0))] [0, 1, 5])
 (.block 0 (.loop false [0, 1, 5] c39L0)))
 (.seq (.ops [o 4 (.mv (cb true))] [4])
 (.ret))))⟩

/-- crumple/garage.Moved -/
def c42L0 : ACode :=
 .seq (.ops [o 35 (.bin .lss (.t 34) (.t 33))] [0, 1, 8, 32, 33, 34, 35])
 (.seq (.cond (.t 35)
 (.skip)
 (.exit 0))
 (.seq (.block 1 (.seq (.ops [o 36 (.iadr 2 (.t 32) (.t 34)), o 37 (.ld true 2 (.t 36)), o 10 (.alloc true 1 [.p (.int .i64 0), .p (.int .i64 0)]), u (.st 2 (.t 10) (.t 37))] [0, 1, 8, 10, 32, 33, 34])
 (.seq (.seq (.opsd [(0, 1), (1, 1), (2, 1), (3, 1), (4, 1), (5, 1), (6, 1), (7, 1), (8, 1), (9, 1), (10, 1), (11, 1), (12, 1), (13, 1), (14, 1), (15, 1), (16, 1), (17, 1), (18, 1), (19, 1), (20, 0), (21, 0), (22, 0), (23, 1)] [o 38 (.fadr 0 (.t 10)), o 39 (.ld false 1 (.t 38)), o 40 (.bin .lss (.t 39) (ci 0)), o 41 (.mv (.t 40)), ⟨some 42, .fadr 0 (.t 10), some (41, false)⟩, ⟨some 43, .ld false 1 (.t 42), some (41, false)⟩, ⟨some 44, .fadr 1 (.t 10), some (41, false)⟩, ⟨some 45, .ld false 1 (.t 44), some (41, false)⟩, ⟨some 46, .bin .geq (.t 43) (.t 45), some (41, false)⟩, o 47 (.pick (.t 41) (cb true) (.t 46)), o 48 (.mv (.t 47)), ⟨some 49, .fadr 1 (.t 10), some (48, false)⟩, ⟨some 50, .ld false 1 (.t 49), some (48, false)⟩, ⟨some 51, .bin .gtr (.t 50) (ci 100000000), some (48, false)⟩, o 52 (.pick (.t 48) (cb true) (.t 51)), o 53 (.call true true 0 (.fn 104) [.t 52, ci 14]), o 54 (.fadr 0 (.t 10)), o 55 (.ld false 1 (.t 54)), o 56 (.mv (.t 8)), o 57 (.bin .lss (.t 55) (.t 56)), o 58 (.call true true 0 (.fn 104) [.t 57, ci 15]), o 59 (.bslice false 1 [.p (.int .i64 0)] 2 [(0, .t 53), (1, .t 58)]), o 60 (.call true true 0 (.fn 91) [.t 59]), o 11 (.mv (.t 60))] [0, 1, 10, 11, 32, 33, 34])
 (.seq (.ops [o 61 (.mv (.t 11)), o 62 (.bin .neq (.t 61) (ci 0))] [0, 1, 10, 11, 32, 33, 34, 62])
 (.cond (.t 62)
 (.seq (.ops [o 63 (.mv (.t 11)), o 4 (.mv (cn)), o 5 (.mv (.t 63))] [4, 5])
 (.ret))
 (.skip))))
 (.ops [o 64 (.fadr 1 (.t 10)), o 65 (.ld false 1 (.t 64)), o 8 (.mv (.t 65))] [0, 1, 8, 32, 33, 34]))))
 (.ops [o 66 (.bin .add (.t 34) (ci 1)), o 34 (.mv (.t 66))] [0, 1, 8, 32, 33, 34])))
def c42L1 : ACode :=
 .seq (.seq (.ops [o 67 (.ld false 1 (.t 13)), o 68 (.mv (.t 0)), o 69 (.len 1 (.t 68)), o 70 (.bin .lss (.t 67) (.t 69))] [0, 1, 12, 13, 70])
 (.cond (.t 70)
 (.skip)
 (.exit 2)))
 (.seq (.block 3 (.seq (.ops [o 73 (.mkclo 106 [] [.t 13]), o 14 (.mv (.t 73))] [0, 1, 12, 13, 14])
 (.seq (.opsd [(0, 1), (1, 1), (2, 1), (3, 1), (4, 1), (5, 1), (6, 1), (7, 1), (8, 1), (9, 1), (10, 1), (11, 1), (12, 1), (13, 0), (14, 1), (15, 1)] [o 74 (.mv (.t 0)), o 75 (.ld false 1 (.t 13)), o 76 (.iadr 1 (.t 74) (.t 75)), o 77 (.ld false 1 (.t 76)), o 78 (.mv (.t 0)), o 79 (.ld false 1 (.t 13)), o 80 (.bin .sub (.t 79) (ci 1)), o 81 (.iadr 1 (.t 78) (.t 80)), o 82 (.ld false 1 (.t 81)), o 83 (.bin .neq (.t 77) (.t 82)), o 84 (.mv (.t 83)), ⟨some 85, .mv (.t 1), some (84, true)⟩, ⟨some 86, .mv (.t 14), some (84, true)⟩, ⟨some 87, .call true true 0 (.fn 107) [.t 85, .t 86], some (84, true)⟩, ⟨some 88, .not (.t 87), some (84, true)⟩, o 89 (.pick (.t 84) (.t 88) (cb false))] [0, 1, 12, 13, 89])
 (.cond (.t 89)
 (.ops [o 90 (.mv (.t 12)), o 91 (.ld false 1 (.t 13)), o 92 (.bslice false 1 [.p (.int .i64 0)] 1 [(0, .t 91)]), o 93 (.app 1 8 [.p (.int .i64 0)] (.t 90) (.t 92)), o 12 (.mv (.t 93))] [0, 1, 12, 13])
 (.skip)))))
 (.seq (.seq (.ops [o 94 (.ld false 1 (.t 13))] [0, 1, 12, 94])
 (.ops [o 13 (.alloc true 1 [.p (.int .i64 0)]), u (.st 1 (.t 13) (.t 94))] [0, 1, 12, 13]))
 (.ops [o 71 (.ld false 1 (.t 13)), o 72 (.bin .add (.t 71) (ci 1)), u (.st 1 (.t 13) (.t 72))] [0, 1, 12, 13])))
def c42 : AFunc := ⟨96, [.tmp 4, .tmp 5],
 .seq (.ops [o 4 (.mv (cn)), o 5 (.mv (ci 0))] [0, 1])
 (.seq (.ops [o 6 (.mv (cf 103))] [0, 1, 6])
 (.seq (.seq (.ops [o 15 (.mv (.t 0)), o 16 (.len 1 (.t 15)), o 17 (.bin .gtr (.t 16) (ci 1024)), o 18 (.call true true 0 (.fn 104) [.t 17, ci 5]), o 19 (.mv (.t 0)), o 20 (.mv (.t 6)), o 21 (.call true false 0 (.fn 105) [.t 19, .t 20]), o 22 (.call true true 0 (.fn 91) [.t 21]), o 23 (.mv (.t 1)), o 24 (.len 1 (.t 23)), o 25 (.bin .gtr (.t 24) (ci 32)), o 26 (.call true true 0 (.fn 104) [.t 25, ci 5]), o 27 (.bslice false 1 [.p (.int .i64 0)] 3 [(0, .t 18), (1, .t 22), (2, .t 26)]), o 28 (.call true true 0 (.fn 91) [.t 27]), o 7 (.mv (.t 28))] [0, 1, 7])
 (.seq (.ops [o 29 (.mv (.t 7)), o 30 (.bin .neq (.t 29) (ci 0))] [0, 1, 7, 30])
 (.cond (.t 30)
 (.seq (.ops [o 31 (.mv (.t 7)), o 4 (.mv (cn)), o 5 (.mv (.t 31))] [4, 5])
 (.ret))
 (.skip))))
 (.seq (.ops [o 8 (.mv (ci 0))] [0, 1, 8])
 (.seq (.seq (.ops [o 32 (.mv (.t 1)), o 33 (.len 1 (.t 32)), o 34 (.mv (ci 0))] [0, 1, 8, 32, 33, 34])
 (.block 0 (.loop true [0, 1, 8, 32, 33, 34] c42L0)))
 (.seq (.ops [o 12 (.nilown 1)] [0, 1, 12])
 (.seq (.seq (.ops [o 13 (.alloc true 1 [.p (.int .i64 0)]), u (.st 1 (.t 13) (ci 1))] [0, 1, 12, 13])
 (.block 2 (.loop true [0, 1, 12, 13] c42L1)))
 (.seq (.ops [o 95 (.mv (.t 12)), o 4 (.mv (.t 95)), o 5 (.mv (ci 0))] [4, 5])
 (.ret))))))))⟩

/-- crumple/crumpleref09.ShortJobs -/
def c47L0 : ACode :=
 .seq (.seq (.ops [o 4 (.mv (.t 3)), o 5 (.mv (.t 0)), o 6 (.len 1 (.t 5)), o 7 (.bin .lss (.t 4) (.t 6))] [0, 3, 7])
 (.cond (.t 7)
 (.skip)
 (.exit 0)))
 (.seq (.block 1 (.seq (.ops [o 10 (.mv (.t 0)), o 11 (.mv (.t 3)), o 12 (.iadr 6 (.t 10) (.t 11)), o 13 (.fadr 0 (.t 12)), o 14 (.ld false 1 (.t 13)), o 15 (.len 0 (.t 14)), o 16 (.bin .gtr (.t 15) (ci 40))] [0, 3, 16])
 (.cond (.t 16)
 (.seq (.ops [o 2 (.mv (cb false))] [2])
 (.ret))
 (.skip))))
 (.ops [o 8 (.mv (.t 3)), o 9 (.bin .add (.t 8) (ci 1)), o 3 (.mv (.t 9))] [0, 3]))
def c47 : AFunc := ⟨25, [.tmp 2],
 .seq (.ops [o 2 (.mv (cb false))] [0])
 (.seq (.seq (.ops [o 3 (.mv (ci 0))] [0, 3])
 (.block 0 (.loop false [0, 3] c47L0)))
 (.seq (.ops [o 17 (.mv (.t 0)), o 18 (.len 1 (.t 17)), o 19 (.bin .leq (.t 18) (ci 6)), o 20 (.mv (.t 19)), ⟨some 21, .mv (.t 0), some (20, false)⟩, ⟨some 22, .len 1 (.t 21), some (20, false)⟩, ⟨some 23, .bin .eql (.t 22) (ci 9), some (20, false)⟩, o 24 (.pick (.t 20) (cb true) (.t 23)), o 2 (.mv (.t 24))] [2])
 (.ret)))⟩

/-- crumple/garage.Starts -/
def c48 : AFunc := ⟨22, [.tmp 4, .tmp 5],
 .seq (.ops [o 4 (.mv (cn)), o 5 (.mv (ci 0))] [0, 1])
 (.seq (.seq (.ops [o 8 (.mv (.t 0)), o 9 (.call true true 0 (.fn 57) [.t 8]), o 6 (.mv (.t 9))] [0, 1, 6])
 (.seq (.ops [o 10 (.mv (.t 6)), o 11 (.bin .neq (.t 10) (ci 0))] [0, 1, 6, 11])
 (.cond (.t 11)
 (.seq (.ops [o 12 (.mv (.t 6)), o 4 (.mv (cn)), o 5 (.mv (.t 12))] [4, 5])
 (.ret))
 (.skip))))
 (.seq (.seq (.ops [o 13 (.mv (.t 0)), o 14 (.mv (.t 1)), o 15 (.call true true 0 (.fn 109) [.t 13, .t 14]), o 7 (.mv (.t 15))] [0, 1, 7])
 (.seq (.ops [o 16 (.mv (.t 7)), o 17 (.bin .neq (.t 16) (ci 0))] [0, 1, 7, 17])
 (.cond (.t 17)
 (.seq (.ops [o 18 (.mv (.t 7)), o 4 (.mv (cn)), o 5 (.mv (.t 18))] [4, 5])
 (.ret))
 (.skip))))
 (.seq (.ops [o 19 (.mv (.t 0)), o 20 (.mv (.t 1)), o 21 (.call true true 0 (.fn 110) [.t 19, .t 20]), o 4 (.mv (.t 21)), o 5 (.mv (ci 0))] [4, 5])
 (.ret))))⟩

/-- crumple/crumplelaw09.tests -/
def c49L0 : ACode :=
 .seq (.ops [o 9 (.bin .lss (.t 8) (.t 7))] [3, 6, 7, 8, 9])
 (.seq (.cond (.t 9)
 (.skip)
 (.exit 0))
 (.seq (.block 1 (.seq (.ops [o 10 (.iadr 6 (.t 6) (.t 8)), o 11 (.ld true 6 (.t 10)), o 5 (.alloc true 1 [.p (.str []), .p (.int .i64 0), .p (.int .i64 0), .p (.int .i64 0), .p (.int .i64 0), .p (.int .i64 0)]), u (.st 6 (.t 5) (.t 11))] [3, 5, 6, 7, 8])
 (.ops [o 12 (.mv (.t 3)), o 13 (.ld true 6 (.t 5)), o 14 (.bslice false 6 [.p (.str []), .p (.int .i64 0), .p (.int .i64 0), .p (.int .i64 0), .p (.int .i64 0), .p (.int .i64 0)] 1 [(0, .t 13)]), o 15 (.app 6 56 [.p (.str []), .p (.int .i64 0), .p (.int .i64 0), .p (.int .i64 0), .p (.int .i64 0), .p (.int .i64 0)] (.t 12) (.t 14)), o 3 (.mv (.t 15))] [3, 6, 7, 8])))
 (.ops [o 16 (.bin .add (.t 8) (ci 1)), o 8 (.mv (.t 16))] [3, 6, 7, 8])))
def c49 : AFunc := ⟨18, [.tmp 2],
 .seq (.ops [o 2 (.mv (cn))] [0])
 (.seq (.ops [o 3 (.nilown 6)] [0, 3])
 (.seq (.seq (.ops [o 6 (.mv (.t 0)), o 7 (.len 1 (.t 6)), o 8 (.mv (ci 0))] [3, 6, 7, 8])
 (.block 0 (.loop true [3, 6, 7, 8] c49L0)))
 (.seq (.ops [o 17 (.mv (.t 3)), o 2 (.mv (.t 17))] [2])
 (.ret))))⟩

/-- crumple/garage.End -/
def c50 : AFunc := ⟨16, [.tmp 4, .tmp 5],
 .seq (.ops [o 4 (.mv (ci 0)), o 5 (.mv (ci 0))] [0, 1])
 (.seq (.seq (.ops [o 7 (.mv (.t 0)), o 8 (.mv (.t 1)), o 9 (.call true true 0 (.fn 58) [.t 7, .t 8]), o 6 (.mv (.t 9))] [0, 1, 6])
 (.seq (.ops [o 10 (.mv (.t 6)), o 11 (.bin .neq (.t 10) (ci 0))] [0, 1, 6, 11])
 (.cond (.t 11)
 (.seq (.ops [o 12 (.mv (.t 6)), o 4 (.mv (ci 0)), o 5 (.mv (.t 12))] [4, 5])
 (.ret))
 (.skip))))
 (.seq (.ops [o 13 (.mv (.t 0)), o 14 (.mv (.t 1)), o 15 (.call true true 0 (.fn 111) [.t 13, .t 14]), o 4 (.mv (.t 15)), o 5 (.mv (ci 0))] [4, 5])
 (.ret)))⟩

/-- crumple/crumpleref09.CheckJobs -/
def c51L0 : ACode :=
 .seq (.seq (.ops [o 25 (.mv (.t 5)), o 26 (.mv (.t 3)), o 27 (.bin .lss (.t 25) (.t 26))] [0, 3, 5, 27])
 (.cond (.t 27)
 (.skip)
 (.exit 2)))
 (.seq (.block 3 (.seq (.opsd [(0, 1), (1, 1), (2, 1), (3, 1), (4, 1), (5, 1), (6, 1), (7, 1), (8, 1), (9, 1), (10, 1)] [o 30 (.mv (.t 0)), o 31 (.mv (.t 5)), o 32 (.iadr 6 (.t 30) (.t 31)), o 33 (.fadr 0 (.t 32)), o 34 (.ld false 1 (.t 33)), o 35 (.mv (.t 0)), o 36 (.mv (.t 3)), o 37 (.iadr 6 (.t 35) (.t 36)), o 38 (.fadr 0 (.t 37)), o 39 (.ld false 1 (.t 38)), o 40 (.bin .eql (.t 34) (.t 39))] [0, 3, 5, 40])
 (.cond (.t 40)
 (.seq (.ops [o 2 (.mv (ci 9))] [2])
 (.ret))
 (.skip))))
 (.ops [o 28 (.mv (.t 5)), o 29 (.bin .add (.t 28) (ci 1)), o 5 (.mv (.t 29))] [0, 3, 5]))
def c51L1 : ACode :=
 .seq (.seq (.ops [o 10 (.mv (.t 3)), o 11 (.mv (.t 0)), o 12 (.len 1 (.t 11)), o 13 (.bin .lss (.t 10) (.t 12))] [0, 3, 13])
 (.cond (.t 13)
 (.skip)
 (.exit 0)))
 (.seq (.block 1 (.seq (.seq (.ops [o 16 (.mv (.t 0)), o 17 (.mv (.t 3)), o 18 (.iadr 6 (.t 16) (.t 17)), o 19 (.fadr 0 (.t 18)), o 20 (.ld false 1 (.t 19)), o 21 (.call true true 0 (.fn 112) [.t 20]), o 4 (.mv (.t 21))] [0, 3, 4])
 (.seq (.ops [o 22 (.mv (.t 4)), o 23 (.bin .neq (.t 22) (ci 0))] [0, 3, 4, 23])
 (.cond (.t 23)
 (.seq (.ops [o 24 (.mv (.t 4)), o 2 (.mv (.t 24))] [2])
 (.ret))
 (.skip))))
 (.seq (.seq (.ops [o 5 (.mv (ci 0))] [0, 3, 5])
 (.block 2 (.loop false [0, 3, 5] c51L0)))
 (.seq (.opsd [(0, 1), (1, 1), (2, 1), (3, 1), (4, 1), (5, 1), (6, 1), (7, 1), (8, 5), (9, 5), (10, 1), (11, 1), (12, 1), (13, 1), (14, 5), (15, 5), (16, 1), (17, 1), (18, 1), (19, 1), (20, 5), (21, 5), (22, 1), (23, 1), (24, 1), (25, 1), (26, 5), (27, 5), (28, 1), (29, 0), (30, 0), (31, 0), (32, 1)] [o 41 (.mv (.t 0)), o 42 (.mv (.t 3)), o 43 (.iadr 6 (.t 41) (.t 42)), o 44 (.fadr 1 (.t 43)), o 45 (.ld false 1 (.t 44)), o 46 (.call true true 0 (.fn 24) [.t 45, ci 0, ci 16]), o 47 (.mv (.t 0)), o 48 (.mv (.t 3)), o 49 (.iadr 6 (.t 47) (.t 48)), o 50 (.fadr 2 (.t 49)), o 51 (.ld false 1 (.t 50)), o 52 (.call true true 0 (.fn 24) [.t 51, ci 0, ci 16]), o 53 (.mv (.t 0)), o 54 (.mv (.t 3)), o 55 (.iadr 6 (.t 53) (.t 54)), o 56 (.fadr 3 (.t 55)), o 57 (.ld false 1 (.t 56)), o 58 (.call true true 0 (.fn 24) [.t 57, ci 0, ci 16]), o 59 (.mv (.t 0)), o 60 (.mv (.t 3)), o 61 (.iadr 6 (.t 59) (.t 60)), o 62 (.fadr 4 (.t 61)), o 63 (.ld false 1 (.t 62)), o 64 (.call true true 0 (.fn 24) [.t 63, ci 1, ci 10000]), o 65 (.mv (.t 0)), o 66 (.mv (.t 3)), o 67 (.iadr 6 (.t 65) (.t 66)), o 68 (.fadr 5 (.t 67)), o 69 (.ld false 1 (.t 68)), o 70 (.call true true 0 (.fn 24) [.t 69, ci 0, ci 10000]), o 71 (.bslice false 1 [.p (.int .i64 0)] 5 [(0, .t 46), (1, .t 52), (2, .t 58), (3, .t 64), (4, .t 70)]), o 72 (.call true true 0 (.fn 23) [.t 71]), o 6 (.mv (.t 72))] [0, 3, 6])
 (.seq (.ops [o 73 (.mv (.t 6)), o 74 (.bin .neq (.t 73) (ci 0))] [0, 3, 6, 74])
 (.cond (.t 74)
 (.seq (.ops [o 75 (.mv (.t 6)), o 2 (.mv (.t 75))] [2])
 (.ret))
 (.skip)))))))
 (.ops [o 14 (.mv (.t 3)), o 15 (.bin .add (.t 14) (ci 1)), o 3 (.mv (.t 15))] [0, 3]))
def c51 : AFunc := ⟨76, [.tmp 2],
 .seq (.ops [o 2 (.mv (ci 0))] [0])
 (.seq (.seq (.ops [o 7 (.mv (.t 0)), o 8 (.len 1 (.t 7)), o 9 (.bin .gtr (.t 8) (ci 8))] [0, 9])
 (.cond (.t 9)
 (.seq (.ops [o 2 (.mv (ci 5))] [2])
 (.ret))
 (.skip)))
 (.seq (.seq (.ops [o 3 (.mv (ci 0))] [0, 3])
 (.block 0 (.loop false [0, 3] c51L1)))
 (.seq (.ops [o 2 (.mv (ci 0))] [2])
 (.ret))))⟩

/-- crumple/crumpleref09.Starts -/
def c54L0 : ACode :=
 .seq (.seq (.ops [o 28 (.mv (.t 9)), o 29 (.mv (.t 6)), o 30 (.bin .lss (.t 28) (.t 29))] [0, 1, 5, 6, 7, 8, 9, 30])
 (.cond (.t 30)
 (.skip)
 (.exit 2)))
 (.seq (.block 3 (.seq (.ops [o 33 (.mv (.t 0)), o 34 (.mv (.t 1)), o 35 (.mv (.t 9)), o 36 (.iadr 1 (.t 34) (.t 35)), o 37 (.ld false 1 (.t 36)), o 38 (.iadr 6 (.t 33) (.t 37)), o 39 (.ld true 6 (.t 38)), o 10 (.alloc true 1 [.p (.str []), .p (.int .i64 0), .p (.int .i64 0), .p (.int .i64 0), .p (.int .i64 0), .p (.int .i64 0)]), u (.st 6 (.t 10) (.t 39))] [0, 1, 5, 6, 7, 8, 9, 10])
 (.seq (.opsd [(0, 1), (1, 1), (2, 1), (3, 1), (4, 1), (5, 1), (6, 1), (7, 1), (8, 1), (9, 1), (10, 1)] [o 40 (.mv (.t 5)), o 41 (.mv (.t 1)), o 42 (.mv (.t 9)), o 43 (.iadr 1 (.t 41) (.t 42)), o 44 (.ld false 1 (.t 43)), o 45 (.iadr 1 (.t 40) (.t 44)), o 46 (.ld false 1 (.t 45)), o 47 (.fadr 4 (.t 10)), o 48 (.ld false 1 (.t 47)), o 49 (.bin .add (.t 46) (.t 48)), o 11 (.mv (.t 49))] [0, 1, 5, 6, 7, 8, 9, 10, 11])
 (.seq (.seq (.ops [o 50 (.fadr 2 (.t 7)), o 51 (.ld false 1 (.t 50)), o 52 (.fadr 2 (.t 10)), o 53 (.ld false 1 (.t 52)), o 54 (.bin .eql (.t 51) (.t 53)), o 55 (.mv (.t 54)), ⟨some 56, .fadr 3 (.t 7), some (55, false)⟩, ⟨some 57, .ld false 1 (.t 56), some (55, false)⟩, ⟨some 58, .fadr 3 (.t 10), some (55, false)⟩, ⟨some 59, .ld false 1 (.t 58), some (55, false)⟩, ⟨some 60, .bin .eql (.t 57) (.t 59), some (55, false)⟩, o 61 (.pick (.t 55) (cb true) (.t 60))] [0, 1, 5, 6, 7, 8, 9, 10, 11, 61])
 (.cond (.t 61)
 (.ops [o 62 (.mv (.t 8)), o 63 (.mv (.t 11)), o 64 (.max [.t 62, .t 63]), o 8 (.mv (.t 64))] [0, 1, 5, 6, 7, 8, 9, 10, 11])
 (.skip)))
 (.seq (.ops [o 65 (.fadr 1 (.t 7)), o 66 (.ld false 1 (.t 65)), o 67 (.fadr 1 (.t 10)), o 68 (.ld false 1 (.t 67)), o 69 (.bin .eql (.t 66) (.t 68))] [0, 1, 5, 6, 7, 8, 9, 10, 11, 69])
 (.cond (.t 69)
 (.ops [o 70 (.mv (.t 8)), o 71 (.mv (.t 11)), o 72 (.fadr 5 (.t 10)), o 73 (.ld false 1 (.t 72)), o 74 (.bin .add (.t 71) (.t 73)), o 75 (.max [.t 70, .t 74]), o 8 (.mv (.t 75))] [0, 1, 5, 6, 7, 8, 9])
 (.skip)))))))
 (.ops [o 31 (.mv (.t 9)), o 32 (.bin .add (.t 31) (ci 1)), o 9 (.mv (.t 32))] [0, 1, 5, 6, 7, 8, 9]))
def c54L1 : ACode :=
 .seq (.seq (.ops [o 15 (.mv (.t 6)), o 16 (.mv (.t 1)), o 17 (.len 1 (.t 16)), o 18 (.bin .lss (.t 15) (.t 17))] [0, 1, 5, 6, 18])
 (.cond (.t 18)
 (.skip)
 (.exit 0)))
 (.seq (.block 1 (.seq (.ops [o 21 (.mv (.t 0)), o 22 (.mv (.t 1)), o 23 (.mv (.t 6)), o 24 (.iadr 1 (.t 22) (.t 23)), o 25 (.ld false 1 (.t 24)), o 26 (.iadr 6 (.t 21) (.t 25)), o 27 (.ld true 6 (.t 26)), o 7 (.alloc true 1 [.p (.str []), .p (.int .i64 0), .p (.int .i64 0), .p (.int .i64 0), .p (.int .i64 0), .p (.int .i64 0)]), u (.st 6 (.t 7) (.t 27))] [0, 1, 5, 6, 7])
 (.seq (.ops [o 8 (.mv (ci 0))] [0, 1, 5, 6, 7, 8])
 (.seq (.seq (.ops [o 9 (.mv (ci 0))] [0, 1, 5, 6, 7, 8, 9])
 (.block 2 (.loop true [0, 1, 5, 6, 7, 8, 9] c54L0)))
 (.ops [o 76 (.mv (.t 5)), o 77 (.mv (.t 1)), o 78 (.mv (.t 6)), o 79 (.iadr 1 (.t 77) (.t 78)), o 80 (.ld false 1 (.t 79)), o 81 (.mv (.t 8)), o 82 (.iadr 1 (.t 76) (.t 80)), u (.st 1 (.t 82) (.t 81))] [0, 1, 5, 6])))))
 (.ops [o 19 (.mv (.t 6)), o 20 (.bin .add (.t 19) (ci 1)), o 6 (.mv (.t 20))] [0, 1, 5, 6]))
def c54 : AFunc := ⟨84, [.tmp 4],
 .seq (.ops [o 4 (.mv (cn))] [0, 1])
 (.seq (.ops [o 12 (.mv (.t 0)), o 13 (.len 1 (.t 12)), o 14 (.mkslice 1 [.p (.int .i64 0)] (.t 13) (.t 13)), o 5 (.mv (.t 14))] [0, 1, 5])
 (.seq (.seq (.ops [o 6 (.mv (ci 0))] [0, 1, 5, 6])
 (.block 0 (.loop true [0, 1, 5, 6] c54L1)))
 (.seq (.ops [o 83 (.mv (.t 5)), o 4 (.mv (.t 83))] [4])
 (.ret))))⟩

/-- crumple/crumpleref09.End -/
def c55L0 : ACode :=
 .seq (.seq (.ops [o 7 (.mv (.t 6)), o 8 (.mv (.t 0)), o 9 (.len 1 (.t 8)), o 10 (.bin .lss (.t 7) (.t 9))] [0, 1, 5, 6, 10])
 (.cond (.t 10)
 (.skip)
 (.exit 0)))
 (.seq (.block 1 (.opsd [(0, 1), (1, 1), (2, 1), (3, 1), (4, 1), (5, 1), (6, 1), (7, 1), (8, 1), (9, 1), (10, 1), (11, 1), (12, 1)] [o 13 (.mv (.t 5)), o 14 (.mv (.t 1)), o 15 (.mv (.t 6)), o 16 (.iadr 1 (.t 14) (.t 15)), o 17 (.ld false 1 (.t 16)), o 18 (.mv (.t 0)), o 19 (.mv (.t 6)), o 20 (.iadr 6 (.t 18) (.t 19)), o 21 (.fadr 4 (.t 20)), o 22 (.ld false 1 (.t 21)), o 23 (.bin .add (.t 17) (.t 22)), o 24 (.max [.t 13, .t 23]), o 5 (.mv (.t 24))] [0, 1, 5, 6]))
 (.ops [o 11 (.mv (.t 6)), o 12 (.bin .add (.t 11) (ci 1)), o 6 (.mv (.t 12))] [0, 1, 5, 6]))
def c55 : AFunc := ⟨26, [.tmp 4],
 .seq (.ops [o 4 (.mv (ci 0))] [0, 1])
 (.seq (.ops [o 5 (.mv (ci 0))] [0, 1, 5])
 (.seq (.seq (.ops [o 6 (.mv (ci 0))] [0, 1, 5, 6])
 (.block 0 (.loop false [0, 1, 5, 6] c55L0)))
 (.seq (.ops [o 25 (.mv (.t 5)), o 4 (.mv (.t 25))] [4])
 (.ret))))⟩

/-- crumple/garage.CheckJobs -/
def c57L0 : ACode :=
 .seq (.ops [o 14 (.bin .lss (.t 13) (.t 12))] [3, 11, 12, 13, 14])
 (.seq (.cond (.t 14)
 (.skip)
 (.exit 0))
 (.seq (.block 1 (.seq (.ops [o 15 (.iadr 6 (.t 11) (.t 13)), o 16 (.ld true 6 (.t 15)), o 5 (.alloc true 1 [.p (.str []), .p (.int .i64 0), .p (.int .i64 0), .p (.int .i64 0), .p (.int .i64 0), .p (.int .i64 0)]), u (.st 6 (.t 5) (.t 16))] [3, 5, 11, 12, 13])
 (.seq (.seq (.opsd [(0, 1), (1, 1), (2, 1), (3, 1), (4, 1), (5, 1), (6, 1), (7, 1), (8, 0), (9, 0), (10, 0), (11, 1)] [o 17 (.ld true 6 (.t 5)), o 18 (.call true true 0 (.fn 113) [.t 17]), o 19 (.mv (.t 3)), o 20 (.fadr 0 (.t 5)), o 21 (.ld false 1 (.t 20)), o 22 (.lkup 1 (.p (.bool false)) (.t 19) (.t 21) false), o 23 (.call true true 0 (.fn 104) [.t 22, ci 9]), o 24 (.ld true 6 (.t 5)), o 25 (.call true true 0 (.fn 114) [.t 24]), o 26 (.bslice false 1 [.p (.int .i64 0)] 3 [(0, .t 18), (1, .t 23), (2, .t 25)]), o 27 (.call true true 0 (.fn 91) [.t 26]), o 6 (.mv (.t 27))] [3, 5, 6, 11, 12, 13])
 (.seq (.ops [o 28 (.mv (.t 6)), o 29 (.bin .neq (.t 28) (ci 0))] [3, 5, 6, 11, 12, 13, 29])
 (.cond (.t 29)
 (.seq (.ops [o 30 (.mv (.t 6)), o 2 (.mv (.t 30))] [2])
 (.ret))
 (.skip))))
 (.ops [o 31 (.mv (.t 3)), o 32 (.fadr 0 (.t 5)), o 33 (.ld false 1 (.t 32)), u (.mupd 1 (.t 31) (.t 33) (cb true))] [3, 11, 12, 13]))))
 (.ops [o 34 (.bin .add (.t 13) (ci 1)), o 13 (.mv (.t 34))] [3, 11, 12, 13])))
def c57 : AFunc := ⟨35, [.tmp 2],
 .seq (.ops [o 2 (.mv (ci 0))] [0])
 (.seq (.seq (.ops [o 7 (.mv (.t 0)), o 8 (.len 1 (.t 7)), o 9 (.bin .gtr (.t 8) (ci 8))] [0, 9])
 (.cond (.t 9)
 (.seq (.ops [o 2 (.mv (ci 5))] [2])
 (.ret))
 (.skip)))
 (.seq (.ops [o 10 (.mkmap), o 3 (.mv (.t 10))] [0, 3])
 (.seq (.seq (.ops [o 11 (.mv (.t 0)), o 12 (.len 1 (.t 11)), o 13 (.mv (ci 0))] [3, 11, 12, 13])
 (.block 0 (.loop true [3, 11, 12, 13] c57L0)))
 (.seq (.ops [o 2 (.mv (ci 0))] [2])
 (.ret)))))⟩

/-- crumple/garage.CheckSchedule -/
def c58L0 : ACode :=
 .seq (.ops [o 28 (.bin .lss (.t 27) (.t 26))] [0, 1, 6, 7, 16, 17, 18, 25, 26, 27, 28])
 (.seq (.cond (.t 28)
 (.skip)
 (.exit 2))
 (.seq (.block 3 (.seq (.ops [o 29 (.mv (.t 27)), o 30 (.iadr 6 (.t 25) (.t 27)), o 31 (.ld true 6 (.t 30)), o 9 (.alloc true 1 [.p (.str []), .p (.int .i64 0), .p (.int .i64 0), .p (.int .i64 0), .p (.int .i64 0), .p (.int .i64 0)]), o 8 (.mv (.t 29)), u (.st 6 (.t 9) (.t 31))] [0, 1, 6, 7, 8, 9, 16, 17, 18, 25, 26, 27])
 (.seq (.opsd [(0, 1), (1, 1), (2, 5), (3, 5), (4, 1), (5, 1), (6, 1), (7, 1), (8, 1), (9, 1), (10, 0), (11, 1), (12, 1), (13, 1), (14, 1), (15, 5), (16, 5), (17, 1), (18, 1), (19, 1), (20, 1), (21, 1), (22, 1), (23, 0), (24, 1), (25, 1)] [o 32 (.mv (.t 1)), o 33 (.mv (.t 6)), o 34 (.iadr 1 (.t 32) (.t 33)), o 35 (.ld false 1 (.t 34)), o 36 (.ld true 6 (.t 7)), o 37 (.ld true 6 (.t 9)), o 38 (.mv (.t 1)), o 39 (.mv (.t 8)), o 40 (.iadr 1 (.t 38) (.t 39)), o 41 (.ld false 1 (.t 40)), o 42 (.call true true 0 (.fn 116) [.t 36, .t 37, .t 41]), o 43 (.bin .lss (.t 35) (.t 42)), o 44 (.mv (.t 43)), ⟨some 45, .mv (.t 1), some (44, true)⟩, ⟨some 46, .mv (.t 8), some (44, true)⟩, ⟨some 47, .iadr 1 (.t 45) (.t 46), some (44, true)⟩, ⟨some 48, .ld false 1 (.t 47), some (44, true)⟩, ⟨some 49, .ld true 6 (.t 9), some (44, true)⟩, ⟨some 50, .ld true 6 (.t 7), some (44, true)⟩, ⟨some 51, .mv (.t 1), some (44, true)⟩, ⟨some 52, .mv (.t 6), some (44, true)⟩, ⟨some 53, .iadr 1 (.t 51) (.t 52), some (44, true)⟩, ⟨some 54, .ld false 1 (.t 53), some (44, true)⟩, ⟨some 55, .call true true 0 (.fn 116) [.t 49, .t 50, .t 54], some (44, true)⟩, ⟨some 56, .bin .lss (.t 48) (.t 55), some (44, true)⟩, o 57 (.pick (.t 44) (.t 56) (cb false))] [0, 1, 6, 7, 16, 17, 18, 25, 26, 27, 57])
 (.cond (.t 57)
 (.seq (.ops [o 4 (.mv (ci 24))] [4])
 (.ret))
 (.skip)))))
 (.ops [o 58 (.bin .add (.t 27) (ci 1)), o 27 (.mv (.t 58))] [0, 1, 6, 7, 16, 17, 18, 25, 26, 27])))
def c58L1 : ACode :=
 .seq (.ops [o 19 (.bin .lss (.t 18) (.t 17))] [0, 1, 16, 17, 18, 19])
 (.seq (.cond (.t 19)
 (.skip)
 (.exit 0))
 (.seq (.block 1 (.seq (.ops [o 20 (.mv (.t 18)), o 21 (.iadr 6 (.t 16) (.t 18)), o 22 (.ld true 6 (.t 21)), o 7 (.alloc true 1 [.p (.str []), .p (.int .i64 0), .p (.int .i64 0), .p (.int .i64 0), .p (.int .i64 0), .p (.int .i64 0)]), o 6 (.mv (.t 20)), u (.st 6 (.t 7) (.t 22))] [0, 1, 6, 7, 16, 17, 18])
 (.seq (.ops [o 23 (.mv (.t 0)), o 24 (.mv (.t 6)), o 25 (.slc 6 (.t 23) none (some (.t 24))), o 26 (.len 1 (.t 25)), o 27 (.mv (ci 0))] [0, 1, 6, 7, 16, 17, 18, 25, 26, 27])
 (.block 2 (.loop true [0, 1, 6, 7, 16, 17, 18, 25, 26, 27] c58L0)))))
 (.ops [o 59 (.bin .add (.t 18) (ci 1)), o 18 (.mv (.t 59))] [0, 1, 16, 17, 18])))
def c58 : AFunc := ⟨60, [.tmp 4],
 .seq (.ops [o 4 (.mv (ci 0))] [0, 1])
 (.seq (.seq (.ops [o 10 (.mv (.t 0)), o 11 (.mv (.t 1)), o 12 (.call true true 0 (.fn 115) [.t 10, .t 11]), o 5 (.mv (.t 12))] [0, 1, 5])
 (.seq (.ops [o 13 (.mv (.t 5)), o 14 (.bin .neq (.t 13) (ci 0))] [0, 1, 5, 14])
 (.cond (.t 14)
 (.seq (.ops [o 15 (.mv (.t 5)), o 4 (.mv (.t 15))] [4])
 (.ret))
 (.skip))))
 (.seq (.seq (.ops [o 16 (.mv (.t 0)), o 17 (.len 1 (.t 16)), o 18 (.mv (ci 0))] [0, 1, 16, 17, 18])
 (.block 0 (.loop true [0, 1, 16, 17, 18] c58L1)))
 (.seq (.ops [o 4 (.mv (ci 0))] [4])
 (.ret))))⟩

/-- crumple/garage.Plan -/
def c59L0 : ACode :=
 .seq (.ops [o 22 (.bin .lss (.t 21) (.t 20))] [0, 6, 20, 21, 22])
 (.seq (.cond (.t 22)
 (.skip)
 (.exit 0))
 (.seq (.block 1 (.seq (.ops [o 23 (.mv (.t 21)), o 7 (.mv (.t 23))] [0, 6, 7, 20, 21])
 (.ops [o 24 (.mv (.t 6)), o 25 (.mv (.t 7)), o 26 (.mv (.t 7)), o 27 (.iadr 1 (.t 24) (.t 25)), u (.st 1 (.t 27) (.t 26))] [0, 6, 20, 21])))
 (.ops [o 28 (.bin .add (.t 21) (ci 1)), o 21 (.mv (.t 28))] [0, 6, 20, 21])))
def c59L1 : ACode :=
 .seq (.seq (.ops [o 38 (.mv (.t 6)), o 39 (.call false true 0 (.fn 119) [.t 38])] [0, 6, 8, 9, 39])
 (.cond (.t 39)
 (.skip)
 (.exit 2)))
 (.block 3 (.seq (.opsd [(0, 1), (1, 1), (4, 1), (5, 1), (6, 1), (7, 1), (8, 1), (2, 2), (3, 1), (9, 1), (10, 2), (11, 0)] [o 40 (.mv (.t 6)), o 41 (.len 1 (.t 40)), o 44 (.mv (.t 0)), o 45 (.mv (.t 0)), o 46 (.mv (.t 6)), o 47 (.call true true 0 (.fn 110) [.t 45, .t 46]), o 48 (.call true true 0 (.fn 111) [.t 44, .t 47]), o 42 (.mkslicer 0 1 [.p (.int .i64 0)] (.t 41) (.t 41)), o 43 (.build [.p (.nils)] [(0, 1, .t 42)]), o 49 (.build [.p (.nils), .p (.int .i64 0)] [(0, 1, .t 43), (1, 1, .t 48)]), o 10 (.allocr 1 false 1 [.p (.nils), .p (.int .i64 0)]), u (.st 2 (.t 10) (.t 49))] [0, 6, 8, 9, 10])
 (.seq (.ops [o 50 (.fadr 0 (.t 10)), o 51 (.fadr 0 (.t 50)), o 52 (.ld false 1 (.t 51)), o 53 (.mv (.t 6)), o 54 (.copy 1 (.t 52) (.t 53))] [0, 6, 8, 9, 10])
 (.seq (.ops [o 55 (.mv (.t 9)), o 56 (.ld true 2 (.t 10)), o 57 (.ld true 2 (.t 8)), o 58 (.call false true 0 (.val (.t 55)) [.t 56, .t 57]), o 59 (.bin .lss (.t 58) (ci 0))] [0, 6, 8, 9, 10, 59])
 (.cond (.t 59)
 (.ops [o 60 (.ld true 2 (.t 10)), u (.st 2 (.t 8) (.t 60))] [0, 6, 8, 9])
 (.skip))))))
def c59 : AFunc := ⟨66, [.tmp 2, .tmp 3, .tmp 4],
 .seq (.ops [o 2 (.mv (cn)), o 3 (.mv (ci 0)), o 4 (.mv (ci 0))] [0])
 (.seq (.seq (.ops [o 11 (.mv (.t 0)), o 12 (.call true true 0 (.fn 57) [.t 11]), o 5 (.mv (.t 12))] [0, 5])
 (.seq (.ops [o 13 (.mv (.t 5)), o 14 (.bin .neq (.t 13) (ci 0))] [0, 5, 14])
 (.cond (.t 14)
 (.seq (.ops [o 15 (.mv (.t 5)), o 2 (.mv (cn)), o 3 (.mv (ci 0)), o 4 (.mv (.t 15))] [2, 3, 4])
 (.ret))
 (.skip))))
 (.seq (.ops [o 16 (.mv (.t 0)), o 17 (.len 1 (.t 16)), o 18 (.mkslice 1 [.p (.int .i64 0)] (.t 17) (.t 17)), o 6 (.mv (.t 18))] [0, 6])
 (.seq (.seq (.ops [o 19 (.mv (.t 0)), o 20 (.len 1 (.t 19)), o 21 (.mv (ci 0))] [0, 6, 20, 21])
 (.block 0 (.loop false [0, 6, 20, 21] c59L0)))
 (.seq (.ops [o 29 (.mv (.t 6)), o 30 (.call false false 1000 (.fn 117) [.t 29]), o 31 (.build [.p (.nils)] [(0, 1, .t 30)]), o 32 (.mv (.t 0)), o 33 (.mv (.t 0)), o 34 (.mv (.t 6)), o 35 (.call true true 0 (.fn 110) [.t 33, .t 34]), o 36 (.call true true 0 (.fn 111) [.t 32, .t 35]), o 37 (.build [.p (.nils), .p (.int .i64 0)] [(0, 1, .t 31), (1, 1, .t 36)]), o 8 (.alloc false 1 [.p (.nils), .p (.int .i64 0)]), u (.st 2 (.t 8) (.t 37))] [0, 6, 8])
 (.seq (.ops [o 9 (.mv (cf 118))] [0, 6, 8, 9])
 (.seq (.block 2 (.loop true [0, 6, 8, 9] c59L1))
 (.seq (.opsd [(0, 1), (1, 1), (2, 1), (3, 1), (4, 1), (5, 1), (6, 1), (7, 1)] [o 61 (.fadr 0 (.t 8)), o 62 (.fadr 0 (.t 61)), o 63 (.ld false 1 (.t 62)), o 64 (.fadr 1 (.t 8)), o 65 (.ld false 1 (.t 64)), o 2 (.mv (.t 63)), o 3 (.mv (.t 65)), o 4 (.mv (ci 0))] [2, 3, 4])
 (.ret))))))))⟩

/-- crumple/garage.Bound -/
def c60L0 : ACode :=
 .seq (.ops [o 22 (.bin .lss (.t 21) (.t 20))] [5, 6, 7, 8, 19, 20, 21, 22])
 (.seq (.cond (.t 22)
 (.skip)
 (.exit 0))
 (.seq (.block 1 (.seq (.ops [o 23 (.iadr 6 (.t 19) (.t 21)), o 24 (.ld true 6 (.t 23)), o 10 (.alloc true 1 [.p (.str []), .p (.int .i64 0), .p (.int .i64 0), .p (.int .i64 0), .p (.int .i64 0), .p (.int .i64 0)]), u (.st 6 (.t 10) (.t 24))] [5, 6, 7, 8, 10, 19, 20, 21])
 (.seq (.opsd [(0, 1), (1, 1), (2, 1), (3, 1), (4, 1), (5, 1), (6, 1), (7, 1), (8, 0)] [o 25 (.fadr 2 (.t 10)), o 26 (.ld false 1 (.t 25)), o 27 (.iadra 1 17 (.t 5) (.t 26)), o 28 (.ld false 1 (.t 27)), o 29 (.fadr 4 (.t 10)), o 30 (.ld false 1 (.t 29)), o 31 (.bin .add (.t 28) (.t 30)), o 32 (.iadra 1 17 (.t 5) (.t 26)), u (.st 1 (.t 32) (.t 31))] [5, 6, 7, 8, 10, 19, 20, 21])
 (.seq (.opsd [(0, 1), (1, 1), (2, 1), (3, 1), (4, 1), (5, 1), (6, 1), (7, 1), (8, 0)] [o 33 (.fadr 3 (.t 10)), o 34 (.ld false 1 (.t 33)), o 35 (.iadra 1 17 (.t 6) (.t 34)), o 36 (.ld false 1 (.t 35)), o 37 (.fadr 4 (.t 10)), o 38 (.ld false 1 (.t 37)), o 39 (.bin .add (.t 36) (.t 38)), o 40 (.iadra 1 17 (.t 6) (.t 34)), u (.st 1 (.t 40) (.t 39))] [5, 6, 7, 8, 10, 19, 20, 21])
 (.seq (.opsd [(0, 1), (1, 1), (2, 1), (3, 1), (4, 1), (5, 1), (6, 1), (7, 1), (8, 1), (9, 1), (10, 1), (11, 0)] [o 41 (.fadr 1 (.t 10)), o 42 (.ld false 1 (.t 41)), o 43 (.iadra 1 17 (.t 7) (.t 42)), o 44 (.ld false 1 (.t 43)), o 45 (.fadr 4 (.t 10)), o 46 (.ld false 1 (.t 45)), o 47 (.fadr 5 (.t 10)), o 48 (.ld false 1 (.t 47)), o 49 (.bin .add (.t 46) (.t 48)), o 50 (.bin .add (.t 44) (.t 49)), o 51 (.iadra 1 17 (.t 7) (.t 42)), u (.st 1 (.t 51) (.t 50))] [5, 6, 7, 8, 10, 19, 20, 21])
 (.opsd [(0, 1), (1, 1), (2, 1), (3, 1), (4, 1), (5, 1), (6, 1), (7, 1), (8, 1), (9, 1), (10, 0)] [o 52 (.fadr 1 (.t 10)), o 53 (.ld false 1 (.t 52)), o 54 (.fadr 1 (.t 10)), o 55 (.ld false 1 (.t 54)), o 56 (.iadra 1 17 (.t 8) (.t 55)), o 57 (.ld false 1 (.t 56)), o 58 (.fadr 5 (.t 10)), o 59 (.ld false 1 (.t 58)), o 60 (.max [.t 57, .t 59]), o 61 (.iadra 1 17 (.t 8) (.t 53)), u (.st 1 (.t 61) (.t 60))] [5, 6, 7, 8, 19, 20, 21]))))))
 (.ops [o 62 (.bin .add (.t 21) (ci 1)), o 21 (.mv (.t 62))] [5, 6, 7, 8, 19, 20, 21])))
def c60L1 : ACode :=
 .seq (.ops [o 65 (.bin .lss (.t 64) (ci 17))] [5, 6, 8, 11, 63, 64, 65])
 (.seq (.cond (.t 65)
 (.skip)
 (.exit 2))
 (.seq (.block 3 (.seq (.ops [o 66 (.mv (.t 64)), o 67 (.idx false 1 17 (.t 63) (.t 64)), o 12 (.mv (.t 66)), o 13 (.mv (.t 67))] [5, 6, 8, 11, 12, 13, 63, 64])
 (.opsd [(0, 1), (1, 1), (2, 1), (3, 1), (4, 1), (5, 1), (6, 1), (7, 1), (8, 1), (9, 1), (10, 1), (11, 1), (12, 1), (13, 1)] [o 68 (.mv (.t 11)), o 69 (.mv (.t 12)), o 70 (.iadra 1 17 (.t 5) (.t 69)), o 71 (.ld false 1 (.t 70)), o 72 (.mv (.t 12)), o 73 (.iadra 1 17 (.t 6) (.t 72)), o 74 (.ld false 1 (.t 73)), o 75 (.mv (.t 13)), o 76 (.mv (.t 12)), o 77 (.iadra 1 17 (.t 8) (.t 76)), o 78 (.ld false 1 (.t 77)), o 79 (.bin .sub (.t 75) (.t 78)), o 80 (.max [.t 68, .t 71, .t 74, .t 79]), o 11 (.mv (.t 80))] [5, 6, 8, 11, 63, 64])))
 (.ops [o 81 (.bin .add (.t 64) (ci 1)), o 64 (.mv (.t 81))] [5, 6, 8, 11, 63, 64])))
def c60 : AFunc := ⟨83, [.tmp 2, .tmp 3],
 .seq (.ops [o 2 (.mv (ci 0)), o 3 (.mv (ci 0))] [0])
 (.seq (.seq (.ops [o 14 (.mv (.t 0)), o 15 (.call true true 0 (.fn 57) [.t 14]), o 4 (.mv (.t 15))] [0, 4])
 (.seq (.ops [o 16 (.mv (.t 4)), o 17 (.bin .neq (.t 16) (ci 0))] [0, 4, 17])
 (.cond (.t 17)
 (.seq (.ops [o 18 (.mv (.t 4)), o 2 (.mv (ci 0)), o 3 (.mv (.t 18))] [2, 3])
 (.ret))
 (.skip))))
 (.seq (.ops [o 5 (.alloc true 1 [.p (.int .i64 0), .p (.int .i64 0), .p (.int .i64 0), .p (.int .i64 0), .p (.int .i64 0), .p (.int .i64 0), .p (.int .i64 0), .p (.int .i64 0), .p (.int .i64 0), .p (.int .i64 0), .p (.int .i64 0), .p (.int .i64 0), .p (.int .i64 0), .p (.int .i64 0), .p (.int .i64 0), .p (.int .i64 0), .p (.int .i64 0)]), o 6 (.alloc true 1 [.p (.int .i64 0), .p (.int .i64 0), .p (.int .i64 0), .p (.int .i64 0), .p (.int .i64 0), .p (.int .i64 0), .p (.int .i64 0), .p (.int .i64 0), .p (.int .i64 0), .p (.int .i64 0), .p (.int .i64 0), .p (.int .i64 0), .p (.int .i64 0), .p (.int .i64 0), .p (.int .i64 0), .p (.int .i64 0), .p (.int .i64 0)]), o 7 (.alloc true 1 [.p (.int .i64 0), .p (.int .i64 0), .p (.int .i64 0), .p (.int .i64 0), .p (.int .i64 0), .p (.int .i64 0), .p (.int .i64 0), .p (.int .i64 0), .p (.int .i64 0), .p (.int .i64 0), .p (.int .i64 0), .p (.int .i64 0), .p (.int .i64 0), .p (.int .i64 0), .p (.int .i64 0), .p (.int .i64 0), .p (.int .i64 0)]), o 8 (.alloc true 1 [.p (.int .i64 0), .p (.int .i64 0), .p (.int .i64 0), .p (.int .i64 0), .p (.int .i64 0), .p (.int .i64 0), .p (.int .i64 0), .p (.int .i64 0), .p (.int .i64 0), .p (.int .i64 0), .p (.int .i64 0), .p (.int .i64 0), .p (.int .i64 0), .p (.int .i64 0), .p (.int .i64 0), .p (.int .i64 0), .p (.int .i64 0)])] [0, 5, 6, 7, 8])
 (.seq (.seq (.ops [o 19 (.mv (.t 0)), o 20 (.len 1 (.t 19)), o 21 (.mv (ci 0))] [5, 6, 7, 8, 19, 20, 21])
 (.block 0 (.loop true [5, 6, 7, 8, 19, 20, 21] c60L0)))
 (.seq (.ops [o 11 (.mv (ci 0))] [5, 6, 7, 8, 11])
 (.seq (.seq (.ops [o 63 (.ld true 17 (.t 7)), o 64 (.mv (ci 0))] [5, 6, 8, 11, 63, 64])
 (.block 2 (.loop false [5, 6, 8, 11, 63, 64] c60L1)))
 (.seq (.ops [o 82 (.mv (.t 11)), o 2 (.mv (.t 82)), o 3 (.mv (ci 0))] [2, 3])
 (.ret)))))))⟩

/-- crumple/crumpleref09.Plan -/
def c61L0 : ACode :=
 .seq (.seq (.ops [o 19 (.mv (.t 7)), o 20 (.mv (.t 4)), o 21 (.len 1 (.t 20)), o 22 (.bin .lss (.t 19) (.t 21))] [0, 4, 5, 6, 7, 22])
 (.cond (.t 22)
 (.skip)
 (.exit 0)))
 (.seq (.block 1 (.seq (.ops [o 25 (.mv (.t 0)), o 26 (.mv (.t 0)), o 27 (.mv (.t 4)), o 28 (.mv (.t 7)), o 29 (.iadr 1 (.t 27) (.t 28)), o 30 (.ld false 1 (.t 29)), o 31 (.call true false 0 (.fn 54) [.t 26, .t 30]), o 32 (.call true true 0 (.fn 55) [.t 25, .t 31]), o 8 (.mv (.t 32))] [0, 4, 5, 6, 7, 8])
 (.seq (.ops [o 33 (.mv (.t 8)), o 34 (.mv (.t 6)), o 35 (.bin .lss (.t 33) (.t 34))] [0, 4, 5, 6, 7, 8, 35])
 (.cond (.t 35)
 (.ops [o 36 (.mv (.t 7)), o 37 (.mv (.t 8)), o 5 (.mv (.t 36)), o 6 (.mv (.t 37))] [0, 4, 5, 6, 7])
 (.skip)))))
 (.ops [o 23 (.mv (.t 7)), o 24 (.bin .add (.t 23) (ci 1)), o 7 (.mv (.t 24))] [0, 4, 5, 6, 7]))
def c61 : AFunc := ⟨43, [.tmp 2, .tmp 3],
 .seq (.ops [o 2 (.mv (cn)), o 3 (.mv (ci 0))] [0])
 (.seq (.ops [o 9 (.mv (.t 0)), o 10 (.len 1 (.t 9)), o 11 (.call true false 0 (.fn 120) [.t 10, cn]), o 4 (.mv (.t 11))] [0, 4])
 (.seq (.ops [o 12 (.mv (.t 0)), o 13 (.mv (.t 0)), o 14 (.mv (.t 4)), o 15 (.iadr 1 (.t 14) (ci 0)), o 16 (.ld false 1 (.t 15)), o 17 (.call true false 0 (.fn 54) [.t 13, .t 16]), o 18 (.call true true 0 (.fn 55) [.t 12, .t 17]), o 5 (.mv (ci 0)), o 6 (.mv (.t 18))] [0, 4, 5, 6])
 (.seq (.seq (.ops [o 7 (.mv (ci 1))] [0, 4, 5, 6, 7])
 (.block 0 (.loop false [0, 4, 5, 6, 7] c61L0)))
 (.seq (.ops [o 38 (.mv (.t 4)), o 39 (.mv (.t 5)), o 40 (.iadr 1 (.t 38) (.t 39)), o 41 (.ld false 1 (.t 40)), o 42 (.mv (.t 6)), o 2 (.mv (.t 41)), o 3 (.mv (.t 42))] [2, 3])
 (.ret)))))⟩

/-- crumple/crumpleref09.Bound -/
def c62L0 : ACode :=
 .seq (.seq (.ops [o 14 (.mv (.t 9)), o 15 (.mv (.t 0)), o 16 (.len 1 (.t 15)), o 17 (.bin .lss (.t 14) (.t 16))] [0, 3, 4, 5, 6, 7, 8, 9, 17])
 (.cond (.t 17)
 (.skip)
 (.exit 2)))
 (.seq (.block 3 (.seq (.seq (.ops [o 20 (.mv (.t 0)), o 21 (.mv (.t 9)), o 22 (.iadr 6 (.t 20) (.t 21)), o 23 (.fadr 2 (.t 22)), o 24 (.ld false 1 (.t 23)), o 25 (.mv (.t 4)), o 26 (.bin .eql (.t 24) (.t 25))] [0, 3, 4, 5, 6, 7, 8, 9, 26])
 (.cond (.t 26)
 (.ops [o 27 (.mv (.t 5)), o 28 (.mv (.t 0)), o 29 (.mv (.t 9)), o 30 (.iadr 6 (.t 28) (.t 29)), o 31 (.fadr 4 (.t 30)), o 32 (.ld false 1 (.t 31)), o 33 (.bin .add (.t 27) (.t 32)), o 5 (.mv (.t 33))] [0, 3, 4, 5, 6, 7, 8, 9])
 (.skip)))
 (.seq (.seq (.ops [o 34 (.mv (.t 0)), o 35 (.mv (.t 9)), o 36 (.iadr 6 (.t 34) (.t 35)), o 37 (.fadr 3 (.t 36)), o 38 (.ld false 1 (.t 37)), o 39 (.mv (.t 4)), o 40 (.bin .eql (.t 38) (.t 39))] [0, 3, 4, 5, 6, 7, 8, 9, 40])
 (.cond (.t 40)
 (.ops [o 41 (.mv (.t 6)), o 42 (.mv (.t 0)), o 43 (.mv (.t 9)), o 44 (.iadr 6 (.t 42) (.t 43)), o 45 (.fadr 4 (.t 44)), o 46 (.ld false 1 (.t 45)), o 47 (.bin .add (.t 41) (.t 46)), o 6 (.mv (.t 47))] [0, 3, 4, 5, 6, 7, 8, 9])
 (.skip)))
 (.seq (.ops [o 48 (.mv (.t 0)), o 49 (.mv (.t 9)), o 50 (.iadr 6 (.t 48) (.t 49)), o 51 (.fadr 1 (.t 50)), o 52 (.ld false 1 (.t 51)), o 53 (.mv (.t 4)), o 54 (.bin .eql (.t 52) (.t 53))] [0, 3, 4, 5, 6, 7, 8, 9, 54])
 (.cond (.t 54)
 (.seq (.opsd [(0, 1), (1, 1), (2, 1), (3, 1), (4, 1), (5, 1), (6, 1), (7, 1), (8, 1), (9, 1), (10, 1), (11, 1), (12, 1), (13, 1)] [o 55 (.mv (.t 7)), o 56 (.mv (.t 0)), o 57 (.mv (.t 9)), o 58 (.iadr 6 (.t 56) (.t 57)), o 59 (.fadr 4 (.t 58)), o 60 (.ld false 1 (.t 59)), o 61 (.bin .add (.t 55) (.t 60)), o 62 (.mv (.t 0)), o 63 (.mv (.t 9)), o 64 (.iadr 6 (.t 62) (.t 63)), o 65 (.fadr 5 (.t 64)), o 66 (.ld false 1 (.t 65)), o 67 (.bin .add (.t 61) (.t 66)), o 7 (.mv (.t 67))] [0, 3, 4, 5, 6, 7, 8, 9])
 (.ops [o 68 (.mv (.t 8)), o 69 (.mv (.t 0)), o 70 (.mv (.t 9)), o 71 (.iadr 6 (.t 69) (.t 70)), o 72 (.fadr 5 (.t 71)), o 73 (.ld false 1 (.t 72)), o 74 (.max [.t 68, .t 73]), o 8 (.mv (.t 74))] [0, 3, 4, 5, 6, 7, 8, 9]))
 (.skip))))))
 (.ops [o 18 (.mv (.t 9)), o 19 (.bin .add (.t 18) (ci 1)), o 9 (.mv (.t 19))] [0, 3, 4, 5, 6, 7, 8, 9]))
def c62L1 : ACode :=
 .seq (.seq (.ops [o 10 (.mv (.t 4)), o 11 (.bin .leq (.t 10) (ci 16))] [0, 3, 4, 11])
 (.cond (.t 11)
 (.skip)
 (.exit 0)))
 (.seq (.block 1 (.seq (.ops [o 5 (.mv (ci 0)), o 6 (.mv (ci 0)), o 7 (.mv (ci 0)), o 8 (.mv (ci 0))] [0, 3, 4, 5, 6, 7, 8])
 (.seq (.seq (.ops [o 9 (.mv (ci 0))] [0, 3, 4, 5, 6, 7, 8, 9])
 (.block 2 (.loop false [0, 3, 4, 5, 6, 7, 8, 9] c62L0)))
 (.ops [o 75 (.mv (.t 3)), o 76 (.mv (.t 5)), o 77 (.mv (.t 6)), o 78 (.mv (.t 7)), o 79 (.mv (.t 8)), o 80 (.bin .sub (.t 78) (.t 79)), o 81 (.max [.t 75, .t 76, .t 77, .t 80]), o 3 (.mv (.t 81))] [0, 3, 4]))))
 (.ops [o 12 (.mv (.t 4)), o 13 (.bin .add (.t 12) (ci 1)), o 4 (.mv (.t 13))] [0, 3, 4]))
def c62 : AFunc := ⟨83, [.tmp 2],
 .seq (.ops [o 2 (.mv (ci 0))] [0])
 (.seq (.ops [o 3 (.mv (ci 0))] [0, 3])
 (.seq (.seq (.ops [o 4 (.mv (ci 0))] [0, 3, 4])
 (.block 0 (.loop false [0, 3, 4] c62L1)))
 (.seq (.ops [o 82 (.mv (.t 3)), o 2 (.mv (.t 82))] [2])
 (.ret))))⟩

/-- crumple/garage.Print -/
def c63L0 : ACode :=
 .seq (.ops [o 25 (.bin .lss (.t 24) (.t 23))] [9, 22, 23, 24, 25])
 (.seq (.cond (.t 25)
 (.skip)
 (.exit 0))
 (.seq (.block 1 (.seq (.ops [o 26 (.iadr 6 (.t 22) (.t 24)), o 27 (.ld true 6 (.t 26)), o 11 (.alloc true 1 [.p (.int .i64 0), .p (.str []), .p (.int .i64 0), .p (.int .i64 0), .p (.int .i64 0), .p (.int .i64 0)]), u (.st 6 (.t 11) (.t 27))] [9, 11, 22, 23, 24])
 (.opsd [(0, 1), (1, 1), (2, 1), (4, 1), (5, 1), (6, 1), (3, 2), (7, 0), (8, 0), (9, 1), (10, 1), (11, 1)] [o 28 (.mv (.t 9)), o 29 (.fadr 1 (.t 11)), o 30 (.ld false 1 (.t 29)), o 32 (.ld true 6 (.t 11)), o 33 (.call true false 0 (.fn 123) [.t 32]), o 34 (.call true false 0 (.fn 122) [.t 33, cf 124]), o 31 (.bslice true 1 [.p (.str [])] 1 [(0, .t 30)]), o 35 (.app 1 16 [.p (.str [])] (.t 31) (.t 34)), o 36 (.call true true 0 (.fn 121) [.t 35, cs [32]]), o 37 (.bin .add (.t 36) (cs [10])), o 38 (.bin .add (.t 28) (.t 37)), o 9 (.mv (.t 38))] [9, 22, 23, 24])))
 (.ops [o 39 (.bin .add (.t 24) (ci 1)), o 24 (.mv (.t 39))] [9, 22, 23, 24])))
def c63 : AFunc := ⟨44, [.tmp 4, .tmp 5],
 .seq (.ops [o 2 (.box false (.t 0)), o 4 (.mv (cs [])), o 5 (.mv (ci 0))] [1, 2])
 (.seq (.seq (.ops [o 13 (.ld true 5 (.t 2)), o 14 (.mv (.t 1)), o 15 (.call true false 0 (.fn 88) [.t 13, .t 14]), o 12 (.mv (.t 15)), o 16 (.ext (.t 12) 0), o 17 (.ext (.t 12) 1), o 18 (.ext (.t 12) 2), o 6 (.mv (.t 16)), o 7 (.mv (.t 17)), o 8 (.mv (.t 18))] [1, 8])
 (.seq (.ops [o 19 (.mv (.t 8)), o 20 (.bin .neq (.t 19) (ci 0))] [1, 8, 20])
 (.cond (.t 20)
 (.seq (.ops [o 21 (.mv (.t 8)), o 4 (.mv (cs [])), o 5 (.mv (.t 21))] [4, 5])
 (.ret))
 (.skip))))
 (.seq (.ops [o 9 (.mv (cs []))] [1, 9])
 (.seq (.seq (.ops [o 22 (.mv (.t 1)), o 23 (.len 1 (.t 22)), o 24 (.mv (ci 0))] [9, 22, 23, 24])
 (.block 0 (.loop true [9, 22, 23, 24] c63L0)))
 (.seq (.seq (.ops [o 40 (.mv (.t 9)), o 41 (.len 0 (.t 40)), o 42 (.bin .gtr (.t 41) (ci 4096))] [9, 42])
 (.cond (.t 42)
 (.seq (.ops [o 4 (.mv (cs [])), o 5 (.mv (ci 26))] [4, 5])
 (.ret))
 (.skip)))
 (.seq (.ops [o 43 (.mv (.t 9)), o 4 (.mv (.t 43)), o 5 (.mv (ci 0))] [4, 5])
 (.ret))))))⟩

/-- crumple/garage.Parse -/
def c64A0 : ACode :=
 .ops [o 9 (.mv (.t 31))] [4, 5, 6, 8, 9]
def c64B0 : ACode :=
 .block 1 (.seq (.ops [o 33 (.mv (.t 9)), o 34 (.call true true 0 (.fn 126) [.t 33, cs [10]]), o 32 (.mv (.t 34)), o 35 (.ext (.t 32) 0), o 36 (.ext (.t 32) 1), o 10 (.mv (.t 35)), o 11 (.mv (.t 36))] [4, 5, 6, 8, 10, 11])
 (.seq (.ops [o 38 (.mv (.t 10)), o 39 (.call false true 0 (.fn 127) [.t 38]), o 37 (.mv (.t 39)), o 40 (.ext (.t 37) 0), o 41 (.ext (.t 37) 1), o 12 (.alloc true 1 [.p (.int .i64 0), .p (.str []), .p (.int .i64 0), .p (.int .i64 0), .p (.int .i64 0), .p (.int .i64 0)]), u (.st 6 (.t 12) (.t 40)), o 13 (.mv (.t 41))] [4, 5, 6, 8, 11, 12, 13])
 (.seq (.seq (.ops [o 42 (.mv (.t 11)), o 43 (.not (.t 42)), o 44 (.mv (.t 43)), ⟨some 45, .mv (.t 13), some (44, false)⟩, ⟨some 46, .not (.t 45), some (44, false)⟩, o 47 (.pick (.t 44) (cb true) (.t 46))] [4, 5, 6, 8, 12, 47])
 (.cond (.t 47)
 (.seq (.opsd [(0, 54), (1, 54), (2, 3), (3, 0), (4, 0)] [o 48 (.ld false 1 (.t 8)), o 49 (.len 1 (.t 48)), u (.st 1 (.t 4) (cn)), u (.st 1 (.t 5) (.t 49)), u (.st 1 (.t 6) (ci 25))] [])
 (.ret))
 (.skip)))
 (.ops [o 50 (.ld false 1 (.t 8)), o 51 (.ld true 6 (.t 12)), o 52 (.bslice false 6 [.p (.int .i64 0), .p (.str []), .p (.int .i64 0), .p (.int .i64 0), .p (.int .i64 0), .p (.int .i64 0)] 1 [(0, .t 51)]), o 53 (.app 6 56 [.p (.int .i64 0), .p (.str []), .p (.int .i64 0), .p (.int .i64 0), .p (.int .i64 0), .p (.int .i64 0)] (.t 50) (.t 52)), u (.st 1 (.t 8) (.t 53))] []))))
def c64 : AFunc := ⟨74, [.cell 4 false 1, .cell 5 false 1, .cell 6 false 1],
 .seq (.ops [o 2 (.box false (.t 0)), o 4 (.alloc false 1 [.p (.nils)]), o 5 (.alloc true 1 [.p (.int .i64 0)]), o 6 (.alloc true 1 [.p (.int .i64 0)])] [1, 2, 4, 5, 6])
 (.seq (.seq (.ops [o 18 (.ld true 5 (.t 2)), o 19 (.call true true 0 (.fn 81) [.t 18]), o 20 (.mv (.t 1)), o 21 (.len 0 (.t 20)), o 22 (.bin .gtr (.t 21) (ci 4096)), o 23 (.call true true 0 (.fn 104) [.t 22, ci 26]), o 24 (.bslice false 1 [.p (.int .i64 0)] 2 [(0, .t 19), (1, .t 23)]), o 25 (.call true true 0 (.fn 91) [.t 24]), o 7 (.mv (.t 25))] [1, 2, 4, 5, 6, 7])
 (.seq (.ops [o 26 (.mv (.t 7)), o 27 (.bin .neq (.t 26) (ci 0))] [1, 2, 4, 5, 6, 7, 27])
 (.cond (.t 27)
 (.seq (.ops [o 28 (.mv (.t 7)), u (.st 1 (.t 4) (cn)), u (.st 1 (.t 5) (ci 0)), u (.st 1 (.t 6) (.t 28))] [4, 5, 6])
 (.ret))
 (.skip))))
 (.seq (.ops [o 8 (.allocown 6)] [1, 2, 4, 5, 6, 8])
 (.seq (.seq (.ops [o 29 (.mv (.t 1)), o 30 (.call false false 1000 (.fn 125) [.t 29])] [2, 4, 5, 6, 8, 30])
 (.block 0 (.rfun (.t 30) [31] c64A0 c64B0)))
 (.seq (.seq (.ops [o 54 (.ld true 5 (.t 2)), o 55 (.ld false 1 (.t 8)), o 56 (.call true true 0 (.fn 86) [.t 54, .t 55]), o 14 (.mv (.t 56))] [2, 4, 5, 6, 8, 14])
 (.seq (.ops [o 57 (.mv (.t 14)), o 58 (.bin .neq (.t 57) (ci 0))] [2, 4, 5, 6, 8, 14, 58])
 (.cond (.t 58)
 (.seq (.opsd [(0, 54), (1, 54), (2, 1), (3, 3), (4, 0), (5, 0)] [o 59 (.ld false 1 (.t 8)), o 60 (.len 1 (.t 59)), o 61 (.mv (.t 14)), u (.st 1 (.t 4) (cn)), u (.st 1 (.t 5) (.t 60)), u (.st 1 (.t 6) (.t 61))] [4, 5, 6])
 (.ret))
 (.skip))))
 (.seq (.seq (.ops [o 63 (.ld true 5 (.t 2)), o 64 (.ld false 1 (.t 8)), o 65 (.call true false 0 (.fn 88) [.t 63, .t 64]), o 62 (.mv (.t 65)), o 66 (.ext (.t 62) 0), o 67 (.ext (.t 62) 1), o 68 (.ext (.t 62) 2), o 15 (.mv (.t 66)), o 16 (.mv (.t 67)), o 17 (.mv (.t 68))] [4, 5, 6, 8, 16, 17])
 (.seq (.ops [o 69 (.mv (.t 17)), o 70 (.bin .neq (.t 69) (ci 0))] [4, 5, 6, 8, 16, 17, 70])
 (.cond (.t 70)
 (.seq (.ops [o 71 (.mv (.t 16)), o 72 (.mv (.t 17)), u (.st 1 (.t 4) (cn)), u (.st 1 (.t 5) (.t 71)), u (.st 1 (.t 6) (.t 72))] [4, 5, 6])
 (.ret))
 (.skip))))
 (.seq (.ops [o 73 (.ld false 1 (.t 8)), u (.st 1 (.t 4) (.t 73)), u (.st 1 (.t 5) (ci 0)), u (.st 1 (.t 6) (ci 0))] [4, 5, 6])
 (.ret)))))))⟩

/-- crumple/garage.Run -/
def c70 : AFunc := ⟨24, [.cell 4 true 15, .tmp 5, .tmp 6],
 .seq (.ops [o 2 (.box false (.t 0)), o 4 (.alloc true 1 [.p (.int .i64 0), .p (.bool false), .p (.bool false), .p (.bool false), .p (.bool false), .p (.bool false), .p (.bool false), .p (.bool false), .p (.bool false), .p (.bool false), .p (.bool false), .p (.int .i64 0), .p (.bool false), .p (.int .i64 0), .p (.int .i64 0)]), o 5 (.mv (ci 0)), o 6 (.mv (ci 0))] [1, 2, 4])
 (.seq (.ops [o 11 (.ld true 5 (.t 2)), o 12 (.mv (.t 1)), o 13 (.call true false 0 (.fn 88) [.t 11, .t 12]), o 10 (.mv (.t 13)), o 14 (.ext (.t 10) 0), o 15 (.ext (.t 10) 1), o 16 (.ext (.t 10) 2), o 7 (.mv (.t 14)), o 8 (.mv (.t 15)), o 9 (.mv (.t 16))] [4, 7, 8, 9])
 (.seq (.seq (.ops [o 17 (.mv (.t 9)), o 18 (.bin .neq (.t 17) (ci 0))] [4, 7, 8, 9, 18])
 (.cond (.t 18)
 (.seq (.ops [o 19 (.build [.p (.int .i64 0), .p (.bool false), .p (.bool false), .p (.bool false), .p (.bool false), .p (.bool false), .p (.bool false), .p (.bool false), .p (.bool false), .p (.bool false), .p (.bool false), .p (.int .i64 0), .p (.bool false), .p (.int .i64 0), .p (.int .i64 0)] []), o 20 (.mv (.t 8)), o 21 (.mv (.t 9)), u (.st 15 (.t 4) (.t 19)), o 5 (.mv (.t 20)), o 6 (.mv (.t 21))] [4, 5, 6])
 (.ret))
 (.skip)))
 (.seq (.ops [o 22 (.mv (.t 7)), o 23 (.call true true 0 (.fn 89) [.t 22]), u (.st 15 (.t 4) (.t 23)), o 5 (.mv (ci 0)), o 6 (.mv (ci 0))] [4, 5, 6])
 (.ret))))⟩

/-- crumple/garage.Wait -/
def c72 : AFunc := ⟨19, [.tmp 4, .tmp 5],
 .seq (.ops [o 2 (.box false (.t 0)), o 3 (.box true (.t 1)), o 4 (.mv (ci 0)), o 5 (.mv (ci 0))] [2, 3])
 (.seq (.seq (.opsd [(0, 1), (1, 1), (2, 1), (3, 0), (4, 0), (5, 0), (6, 1)] [o 7 (.ld true 5 (.t 2)), o 8 (.call true true 0 (.fn 81) [.t 7]), o 9 (.ld true 3 (.t 3)), o 10 (.call true true 0 (.fn 131) [.t 9]), o 11 (.bslice false 1 [.p (.int .i64 0)] 2 [(0, .t 8), (1, .t 10)]), o 12 (.call true true 0 (.fn 91) [.t 11]), o 6 (.mv (.t 12))] [2, 3, 6])
 (.seq (.ops [o 13 (.mv (.t 6)), o 14 (.bin .neq (.t 13) (ci 0))] [2, 3, 6, 14])
 (.cond (.t 14)
 (.seq (.ops [o 15 (.mv (.t 6)), o 4 (.mv (ci 0)), o 5 (.mv (.t 15))] [4, 5])
 (.ret))
 (.skip))))
 (.seq (.ops [o 16 (.ld true 5 (.t 2)), o 17 (.ld true 3 (.t 3)), o 18 (.call true true 0 (.fn 132) [.t 16, .t 17]), o 4 (.mv (.t 18)), o 5 (.mv (ci 0))] [4, 5])
 (.ret)))⟩

/-- crumple/crumpleref01.HasInt -/
def c73L0 : ACode :=
 .seq (.seq (.ops [o 6 (.mv (.t 5)), o 7 (.mv (.t 0)), o 8 (.len 1 (.t 7)), o 9 (.bin .lss (.t 6) (.t 8))] [0, 1, 5, 9])
 (.cond (.t 9)
 (.skip)
 (.exit 0)))
 (.seq (.block 1 (.seq (.ops [o 12 (.mv (.t 0)), o 13 (.mv (.t 5)), o 14 (.iadr 1 (.t 12) (.t 13)), o 15 (.ld false 1 (.t 14)), o 16 (.mv (.t 1)), o 17 (.bin .eql (.t 15) (.t 16))] [0, 1, 5, 17])
 (.cond (.t 17)
 (.seq (.ops [o 4 (.mv (cb true))] [4])
 (.ret))
 (.skip))))
 (.ops [o 10 (.mv (.t 5)), o 11 (.bin .add (.t 10) (ci 1)), o 5 (.mv (.t 11))] [0, 1, 5]))
def c73 : AFunc := ⟨18, [.tmp 4],
 .seq (.ops [o 4 (.mv (cb false))] [0, 1])
 (.seq (.seq (.ops [o 5 (.mv (ci 0))] [0, 1, 5])
 (.block 0 (.loop false [0, 1, 5] c73L0)))
 (.seq (.ops [o 4 (.mv (cb false))] [4])
 (.ret)))⟩

/-- crumple/garage.CheckHall -/
def c81 : AFunc := ⟨15, [.tmp 2],
 .seq (.ops [o 1 (.box true (.t 0)), o 2 (.mv (ci 0))] [1])
 (.seq (.opsd [(0, 1), (1, 1), (2, 1), (3, 1), (4, 1), (5, 1), (6, 1), (7, 1), (8, 0), (9, 0), (10, 0), (11, 0), (12, 1)] [o 3 (.fadr 0 (.t 1)), o 4 (.ld false 1 (.t 3)), o 5 (.call true true 0 (.fn 92) [.t 4, ci 1, ci 8]), o 6 (.fadr 1 (.t 1)), o 7 (.ld false 1 (.t 6)), o 8 (.call true true 0 (.fn 92) [.t 7, ci 0, ci 1000000]), o 9 (.fadr 2 (.t 1)), o 10 (.slca 1 3 (.t 9) none none), o 11 (.call true false 0 (.fn 134) [.t 10, cf 135]), o 12 (.call true true 0 (.fn 91) [.t 11]), o 13 (.bslice false 1 [.p (.int .i64 0)] 3 [(0, .t 5), (1, .t 8), (2, .t 12)]), o 14 (.call true true 0 (.fn 91) [.t 13]), o 2 (.mv (.t 14))] [2])
 (.ret))⟩

/-- crumple/crumplelaw09.hall -/
def c83 : AFunc := ⟨11, [.cell 0 true 5],
 .seq (.ops [o 0 (.alloc false 1 [.p (.int .i64 0), .p (.int .i64 0), .p (.nils), .p (.nils), .p (.nils)])] [0])
 (.seq (.ops [o 1 (.build [.p (.int .i64 0), .p (.int .i64 0)] []), o 2 (.build [.p (.int .i64 0), .p (.int .i64 0)] [(0, 1, ci 50), (1, 1, ci 30)]), o 3 (.bslice false 2 [.p (.int .i64 0), .p (.int .i64 0)] 2 [(0, .t 1), (1, .t 2)]), o 4 (.build [.p (.int .i64 0), .p (.int .i64 0)] []), o 5 (.build [.p (.int .i64 0), .p (.int .i64 0)] [(0, 1, ci 80), (1, 1, ci 20)]), o 6 (.bslice false 2 [.p (.int .i64 0), .p (.int .i64 0)] 2 [(0, .t 4), (1, .t 5)]), o 7 (.build [.p (.int .i64 0), .p (.int .i64 0)] [(1, 1, ci 5)]), o 8 (.bslice false 2 [.p (.int .i64 0), .p (.int .i64 0)] 1 [(0, .t 7)]), o 9 (.build [.p (.nils), .p (.nils), .p (.nils)] [(0, 1, .t 3), (1, 1, .t 6), (2, 1, .t 8)]), o 10 (.build [.p (.int .i64 0), .p (.int .i64 0), .p (.nils), .p (.nils), .p (.nils)] [(0, 1, ci 2), (1, 1, ci 10), (2, 3, .t 9)]), u (.st 5 (.t 0) (.t 10))] [0])
 (.ret))⟩

/-- crumple/crumplelaw09.acts -/
def c84 : AFunc := ⟨10, [.tmp 0],
 .seq (.ops [o 0 (.nilown 6)] [])
 (.seq (.ops [o 1 (.build [.p (.int .i64 0), .p (.str []), .p (.int .i64 0), .p (.int .i64 0), .p (.int .i64 0), .p (.int .i64 0)] [(0, 1, ci 1), (1, 1, cs [111, 112, 101, 110])]), o 2 (.build [.p (.int .i64 0), .p (.str []), .p (.int .i64 0), .p (.int .i64 0), .p (.int .i64 0), .p (.int .i64 0)] [(0, 1, ci 2), (1, 1, cs [101, 110, 116, 101, 114])]), o 3 (.build [.p (.int .i64 0), .p (.str []), .p (.int .i64 0), .p (.int .i64 0), .p (.int .i64 0), .p (.int .i64 0)] [(0, 1, ci 3), (1, 1, cs [105, 110, 115, 101, 114, 116])]), o 4 (.build [.p (.int .i64 0), .p (.str []), .p (.int .i64 0), .p (.int .i64 0), .p (.int .i64 0), .p (.int .i64 0)] [(0, 1, ci 3), (1, 1, cs [105, 110, 115, 101, 114, 116]), (2, 1, ci 1)]), o 5 (.build [.p (.int .i64 0), .p (.str []), .p (.int .i64 0), .p (.int .i64 0), .p (.int .i64 0), .p (.int .i64 0)] [(0, 1, ci 4), (1, 1, cs [108, 101, 97, 118, 101])]), o 6 (.build [.p (.int .i64 0), .p (.str []), .p (.int .i64 0), .p (.int .i64 0), .p (.int .i64 0), .p (.int .i64 0)] [(0, 1, ci 5), (1, 1, cs [99, 108, 111, 115, 101])]), o 7 (.build [.p (.int .i64 0), .p (.str []), .p (.int .i64 0), .p (.int .i64 0), .p (.int .i64 0), .p (.int .i64 0)] [(0, 1, ci 6), (1, 1, cs [97, 114, 109])]), o 8 (.build [.p (.int .i64 0), .p (.str []), .p (.int .i64 0), .p (.int .i64 0), .p (.int .i64 0), .p (.int .i64 0)] [(0, 1, ci 8), (1, 1, cs [115, 104, 111, 111, 116])]), o 9 (.bslice true 6 [.p (.int .i64 0), .p (.str []), .p (.int .i64 0), .p (.int .i64 0), .p (.int .i64 0), .p (.int .i64 0)] 8 [(0, .t 1), (1, .t 2), (2, .t 3), (3, .t 4), (4, .t 5), (5, .t 6), (6, .t 7), (7, .t 8)]), o 0 (.mv (.t 9))] [0])
 (.ret))⟩

/-- crumple/crumplelaw09.jobs -/
def c85 : AFunc := ⟨5, [.tmp 0],
 .seq (.ops [o 0 (.mv (cn))] [])
 (.seq (.ops [o 1 (.build [.p (.str []), .p (.int .i64 0), .p (.int .i64 0), .p (.int .i64 0), .p (.int .i64 0), .p (.int .i64 0)] [(0, 1, cs [112]), (4, 1, ci 5), (5, 1, ci 3)]), o 2 (.build [.p (.str []), .p (.int .i64 0), .p (.int .i64 0), .p (.int .i64 0), .p (.int .i64 0), .p (.int .i64 0)] [(0, 1, cs [113]), (2, 1, ci 1), (3, 1, ci 1), (4, 1, ci 4)]), o 3 (.build [.p (.str []), .p (.int .i64 0), .p (.int .i64 0), .p (.int .i64 0), .p (.int .i64 0), .p (.int .i64 0)] [(0, 1, cs [114]), (1, 1, ci 1), (3, 1, ci 1), (4, 1, ci 2), (5, 1, ci 9)]), o 4 (.bslice false 6 [.p (.str []), .p (.int .i64 0), .p (.int .i64 0), .p (.int .i64 0), .p (.int .i64 0), .p (.int .i64 0)] 3 [(0, .t 1), (1, .t 2), (2, .t 3)]), o 0 (.mv (.t 4))] [0])
 (.ret))⟩

/-- crumple/garage.checkActs -/
def c86L0 : ACode :=
 .seq (.ops [o 23 (.bin .lss (.t 22) (.t 21))] [2, 20, 21, 22, 23])
 (.seq (.cond (.t 23)
 (.skip)
 (.exit 0))
 (.seq (.block 1 (.seq (.ops [o 24 (.iadr 6 (.t 20) (.t 22)), o 25 (.ld true 6 (.t 24)), o 7 (.alloc true 1 [.p (.int .i64 0), .p (.str []), .p (.int .i64 0), .p (.int .i64 0), .p (.int .i64 0), .p (.int .i64 0)]), u (.st 6 (.t 7) (.t 25))] [2, 7, 20, 21, 22])
 (.seq (.ops [o 26 (.ld true 6 (.t 7)), o 27 (.ld true 5 (.t 2)), o 28 (.call true true 0 (.fn 87) [.t 26, .t 27]), o 8 (.mv (.t 28))] [2, 8, 20, 21, 22])
 (.seq (.ops [o 29 (.mv (.t 8)), o 30 (.bin .neq (.t 29) (ci 0))] [2, 8, 20, 21, 22, 30])
 (.cond (.t 30)
 (.seq (.ops [o 31 (.mv (.t 8)), o 4 (.mv (.t 31))] [4])
 (.ret))
 (.skip))))))
 (.ops [o 32 (.bin .add (.t 22) (ci 1)), o 22 (.mv (.t 32))] [2, 20, 21, 22])))
def c86 : AFunc := ⟨33, [.tmp 4],
 .seq (.ops [o 2 (.box false (.t 0)), o 4 (.mv (ci 0))] [1, 2])
 (.seq (.seq (.ops [o 9 (.ld true 5 (.t 2)), o 10 (.call true true 0 (.fn 81) [.t 9]), o 11 (.mv (.t 1)), o 12 (.len 1 (.t 11)), o 13 (.bin .gtr (.t 12) (ci 1000)), o 14 (.call true true 0 (.fn 104) [.t 13, ci 5]), o 15 (.bslice false 1 [.p (.int .i64 0)] 2 [(0, .t 10), (1, .t 14)]), o 16 (.call true true 0 (.fn 91) [.t 15]), o 5 (.mv (.t 16))] [1, 2, 5])
 (.seq (.ops [o 17 (.mv (.t 5)), o 18 (.bin .neq (.t 17) (ci 0))] [1, 2, 5, 18])
 (.cond (.t 18)
 (.seq (.ops [o 19 (.mv (.t 5)), o 4 (.mv (.t 19))] [4])
 (.ret))
 (.skip))))
 (.seq (.seq (.ops [o 20 (.mv (.t 1)), o 21 (.len 1 (.t 20)), o 22 (.mv (ci 0))] [2, 20, 21, 22])
 (.block 0 (.loop true [2, 20, 21, 22] c86L0)))
 (.seq (.ops [o 4 (.mv (ci 0))] [4])
 (.ret))))⟩

/-- (crumple/garage.Act).check -/
def c87 : AFunc := ⟨48, [.tmp 4],
 .seq (.ops [o 2 (.box true (.t 0)), o 3 (.box false (.t 1)), o 4 (.mv (ci 0))] [2, 3])
 (.seq (.seq (.ops [o 8 (.fadr 0 (.t 2)), o 9 (.ld false 1 (.t 8)), o 10 (.call true true 0 (.fn 92) [.t 9, ci 0, ci 100000000]), o 5 (.mv (.t 10))] [2, 3, 5])
 (.seq (.ops [o 11 (.mv (.t 5)), o 12 (.bin .neq (.t 11) (ci 0))] [2, 3, 5, 12])
 (.cond (.t 12)
 (.seq (.ops [o 13 (.mv (.t 5)), o 4 (.mv (.t 13))] [4])
 (.ret))
 (.skip))))
 (.seq (.opsd [(0, 1), (1, 1), (2, 1), (3, 1), (4, 1), (5, 1), (6, 1), (7, 1), (8, 1)] [o 15 (.call true false 0 (.fn 136) []), o 16 (.fadr 1 (.t 2)), o 17 (.ld false 1 (.t 16)), o 18 (.lkup 1 (.p (.int .i64 0)) (.t 15) (.t 17) true), o 14 (.mv (.t 18)), o 19 (.ext (.t 14) 0), o 20 (.ext (.t 14) 1), o 6 (.mv (.t 19)), o 7 (.mv (.t 20))] [2, 3, 6, 7])
 (.seq (.seq (.ops [o 21 (.mv (.t 7)), o 22 (.not (.t 21))] [2, 3, 6, 22])
 (.cond (.t 22)
 (.seq (.ops [o 4 (.mv (ci 13))] [4])
 (.ret))
 (.skip)))
 (.seq (.seq (.opsd [(0, 1), (1, 1), (2, 1), (3, 1), (4, 1), (5, 1), (6, 1), (7, 1), (8, 1), (9, 1), (10, 1), (11, 1), (12, 1), (13, 1)] [o 23 (.fadr 2 (.t 2)), o 24 (.ld false 1 (.t 23)), o 25 (.bin .lss (.t 24) (ci 0)), o 26 (.mv (.t 25)), ⟨some 27, .fadr 2 (.t 2), some (26, false)⟩, ⟨some 28, .ld false 1 (.t 27), some (26, false)⟩, ⟨some 29, .mv (.t 6), some (26, false)⟩, ⟨some 30, .iadra 4 10 (.g 0) (.t 29), some (26, false)⟩, ⟨some 31, .fadr 1 (.t 30), some (26, false)⟩, ⟨some 32, .ld false 1 (.t 31), some (26, false)⟩, ⟨some 33, .ld true 5 (.t 3), some (26, false)⟩, ⟨some 34, .call false true 0 (.val (.t 32)) [.t 33], some (26, false)⟩, ⟨some 35, .bin .geq (.t 28) (.t 34), some (26, false)⟩, o 36 (.pick (.t 26) (cb true) (.t 35))] [2, 36])
 (.cond (.t 36)
 (.seq (.ops [o 4 (.mv (ci 10))] [4])
 (.ret))
 (.skip)))
 (.seq (.seq (.ops [o 37 (.ld true 6 (.t 2)), o 38 (.bslice false 1 [.p (.str [])] 1 [(0, cs [109, 101, 97, 115, 117, 114, 101])]), o 39 (.call true true 0 (.fn 93) [.t 37, .t 38])] [2, 39])
 (.cond (.t 39)
 (.seq (.ops [o 40 (.fadr 3 (.t 2)), o 41 (.ld true 3 (.t 40)), o 42 (.call true true 0 (.fn 131) [.t 41]), o 4 (.mv (.t 42))] [4])
 (.ret))
 (.skip)))
 (.seq (.ops [o 43 (.fadr 3 (.t 2)), o 44 (.ld true 3 (.t 43)), o 45 (.build [.p (.int .i64 0), .p (.int .i64 0), .p (.int .i64 0)] []), o 46 (.eqagg [0, 0, 0] true (.t 44) (.t 45)), o 47 (.call true true 0 (.fn 104) [.t 46, ci 1]), o 4 (.mv (.t 47))] [4])
 (.ret)))))))⟩

/-- crumple/garage.followed -/
def c88A0 : ACode :=
 .ops [o 10 (.alloc true 1 [.p (.int .i64 0), .p (.bool false), .p (.bool false), .p (.bool false), .p (.bool false), .p (.bool false), .p (.bool false), .p (.bool false), .p (.bool false), .p (.bool false), .p (.bool false), .p (.int .i64 0), .p (.bool false), .p (.int .i64 0), .p (.int .i64 0)]), u (.st 15 (.t 10) (.t 21))] [8, 10]
def c88B0 : ACode :=
 .block 1 (.ops [o 22 (.ld false 1 (.t 8)), o 23 (.ld true 15 (.t 10)), o 24 (.bslice false 15 [.p (.int .i64 0), .p (.bool false), .p (.bool false), .p (.bool false), .p (.bool false), .p (.bool false), .p (.bool false), .p (.bool false), .p (.bool false), .p (.bool false), .p (.bool false), .p (.int .i64 0), .p (.bool false), .p (.int .i64 0), .p (.int .i64 0)] 1 [(0, .t 23)]), o 25 (.app 15 56 [.p (.int .i64 0), .p (.bool false), .p (.bool false), .p (.bool false), .p (.bool false), .p (.bool false), .p (.bool false), .p (.bool false), .p (.bool false), .p (.bool false), .p (.bool false), .p (.int .i64 0), .p (.bool false), .p (.int .i64 0), .p (.int .i64 0)] (.t 22) (.t 24)), u (.st 1 (.t 8) (.t 25))] [])
def c88 : AFunc := ⟨34, [.tmp 4, .tmp 5, .tmp 6],
 .seq (.ops [o 2 (.box false (.t 0)), o 4 (.mv (cn)), o 5 (.mv (ci 0)), o 6 (.mv (ci 0))] [1, 2, 4, 5, 6])
 (.seq (.seq (.ops [o 11 (.ld true 5 (.t 2)), o 12 (.mv (.t 1)), o 13 (.call true true 0 (.fn 86) [.t 11, .t 12]), o 7 (.mv (.t 13))] [1, 2, 4, 5, 6, 7])
 (.seq (.ops [o 14 (.mv (.t 7)), o 15 (.bin .neq (.t 14) (ci 0))] [1, 2, 4, 5, 6, 7, 15])
 (.cond (.t 15)
 (.seq (.ops [o 16 (.mv (.t 7)), o 4 (.mv (cn)), o 5 (.mv (ci 0)), o 6 (.mv (.t 16))] [4, 5, 6])
 (.ret))
 (.skip))))
 (.seq (.ops [o 8 (.allocown 15)] [1, 2, 4, 5, 6, 8])
 (.seq (.seq (.ops [o 17 (.ld true 5 (.t 2)), o 18 (.mv (.t 1)), o 19 (.call true false 0 (.fn 137) [.t 17, .t 18])] [1, 4, 5, 6, 8, 19])
 (.block 0 (.rfun (.t 19) [20, 21] c88A0 c88B0)))
 (.seq (.seq (.ops [o 26 (.ld false 1 (.t 8)), o 27 (.len 1 (.t 26)), o 28 (.mv (.t 1)), o 29 (.len 1 (.t 28)), o 30 (.bin .lss (.t 27) (.t 29))] [8, 30])
 (.cond (.t 30)
 (.seq (.opsd [(0, 1), (1, 1), (2, 1), (3, 1), (4, 1)] [o 31 (.ld false 1 (.t 8)), o 32 (.len 1 (.t 31)), o 4 (.mv (cn)), o 5 (.mv (.t 32)), o 6 (.mv (ci 21))] [4, 5, 6])
 (.ret))
 (.skip)))
 (.seq (.ops [o 33 (.ld false 1 (.t 8)), o 4 (.mv (.t 33)), o 5 (.mv (ci 0)), o 6 (.mv (ci 0))] [4, 5, 6])
 (.ret))))))⟩

/-- crumple/garage.last -/
def c89 : AFunc := ⟨13, [.cell 2 true 15],
 .seq (.ops [o 2 (.alloc true 1 [.p (.int .i64 0), .p (.bool false), .p (.bool false), .p (.bool false), .p (.bool false), .p (.bool false), .p (.bool false), .p (.bool false), .p (.bool false), .p (.bool false), .p (.bool false), .p (.int .i64 0), .p (.bool false), .p (.int .i64 0), .p (.int .i64 0)])] [0, 2])
 (.seq (.seq (.ops [o 3 (.mv (.t 0)), o 4 (.len 1 (.t 3)), o 5 (.bin .eql (.t 4) (ci 0))] [0, 2, 5])
 (.cond (.t 5)
 (.seq (.ops [o 6 (.call true true 0 (.fn 138) []), u (.st 15 (.t 2) (.t 6))] [2])
 (.ret))
 (.skip)))
 (.seq (.ops [o 7 (.mv (.t 0)), o 8 (.mv (.t 0)), o 9 (.len 1 (.t 8)), o 10 (.bin .sub (.t 9) (ci 1)), o 11 (.iadr 15 (.t 7) (.t 10)), o 12 (.ld true 15 (.t 11)), u (.st 15 (.t 2) (.t 12))] [2])
 (.ret)))⟩

/-- (crumple/garage.State).reasons -/
def c90L0 : ACode :=
 .seq (.ops [o 10 (.bin .lss (.t 9) (ci 7))] [2, 3, 5, 8, 9, 10])
 (.seq (.cond (.t 10)
 (.skip)
 (.exit 0))
 (.seq (.block 1 (.seq (.ops [o 11 (.idx true 2 7 (.t 8) (.t 9)), o 7 (.alloc false 1 [.p (.str []), .p (.nilf)]), u (.st 2 (.t 7) (.t 11))] [2, 3, 5, 7, 8, 9])
 (.seq (.ops [o 12 (.fadr 1 (.t 7)), o 13 (.ld false 1 (.t 12)), o 14 (.ld true 15 (.t 2)), o 15 (.ld true 6 (.t 3)), o 16 (.call false true 0 (.val (.t 13)) [.t 14, .t 15])] [2, 3, 5, 7, 8, 9, 16])
 (.cond (.t 16)
 (.ops [o 17 (.mv (.t 5)), o 18 (.fadr 0 (.t 7)), o 19 (.ld false 1 (.t 18)), o 20 (.bslice false 1 [.p (.str [])] 1 [(0, .t 19)]), o 21 (.app 1 16 [.p (.str [])] (.t 17) (.t 20)), o 5 (.mv (.t 21))] [2, 3, 5, 8, 9])
 (.skip)))))
 (.ops [o 22 (.bin .add (.t 9) (ci 1)), o 9 (.mv (.t 22))] [2, 3, 5, 8, 9])))
def c90 : AFunc := ⟨24, [.tmp 4],
 .seq (.ops [o 2 (.box true (.t 0)), o 3 (.box true (.t 1)), o 4 (.mv (cn))] [2, 3])
 (.seq (.ops [o 5 (.nilown 1)] [2, 3, 5])
 (.seq (.seq (.ops [o 8 (.ld true 14 (.g 1)), o 9 (.mv (ci 0))] [2, 3, 5, 8, 9])
 (.block 0 (.loop true [2, 3, 5, 8, 9] c90L0)))
 (.seq (.ops [o 23 (.mv (.t 5)), o 4 (.mv (.t 23))] [4])
 (.ret))))⟩

/-- crumple/garage.first -/
def c91L0 : ACode :=
 .seq (.ops [o 8 (.bin .lss (.t 7) (.t 6))] [5, 6, 7, 8])
 (.seq (.cond (.t 8)
 (.skip)
 (.exit 0))
 (.seq (.block 1 (.seq (.ops [o 9 (.iadr 1 (.t 5) (.t 7)), o 10 (.ld false 1 (.t 9)), o 4 (.mv (.t 10))] [4, 5, 6, 7])
 (.seq (.ops [o 11 (.mv (.t 4)), o 12 (.bin .neq (.t 11) (ci 0))] [4, 5, 6, 7, 12])
 (.cond (.t 12)
 (.seq (.ops [o 13 (.mv (.t 4)), o 2 (.mv (.t 13))] [2])
 (.ret))
 (.skip)))))
 (.ops [o 14 (.bin .add (.t 7) (ci 1)), o 7 (.mv (.t 14))] [5, 6, 7])))
def c91 : AFunc := ⟨15, [.tmp 2],
 .seq (.ops [o 2 (.mv (ci 0))] [0])
 (.seq (.seq (.ops [o 5 (.mv (.t 0)), o 6 (.len 1 (.t 5)), o 7 (.mv (ci 0))] [5, 6, 7])
 (.block 0 (.loop false [5, 6, 7] c91L0)))
 (.seq (.ops [o 2 (.mv (ci 0))] [2])
 (.ret)))⟩

/-- crumple/garage.within -/
def c92 : AFunc := ⟨16, [.tmp 6],
 .seq (.ops [o 6 (.mv (ci 0))] [0, 1, 2])
 (.seq (.ops [o 7 (.mv (.t 0)), o 8 (.mv (.t 1)), o 9 (.bin .lss (.t 7) (.t 8)), o 10 (.mv (.t 9)), ⟨some 11, .mv (.t 0), some (10, false)⟩, ⟨some 12, .mv (.t 2), some (10, false)⟩, ⟨some 13, .bin .gtr (.t 11) (.t 12), some (10, false)⟩, o 14 (.pick (.t 10) (cb true) (.t 13)), o 15 (.call true true 0 (.fn 104) [.t 14, ci 3]), o 6 (.mv (.t 15))] [6])
 (.ret))⟩

/-- (crumple/garage.Act).is -/
def c93 : AFunc := ⟨9, [.tmp 4],
 .seq (.ops [o 2 (.box true (.t 0)), o 4 (.mv (cb false))] [1, 2])
 (.seq (.ops [o 5 (.mv (.t 1)), o 6 (.fadr 1 (.t 2)), o 7 (.ld false 1 (.t 6)), o 8 (.call true true 0 (.fn 139) [.t 5, .t 7]), o 4 (.mv (.t 8))] [4])
 (.ret))⟩

/-- crumple/crumpleref01.When -/
def c94 : AFunc := ⟨7, [.tmp 4],
 .seq (.ops [o 4 (.mv (ci 0))] [0, 1])
 (.seq (.seq (.ops [o 5 (.mv (.t 0))] [1, 5])
 (.cond (.t 5)
 (.seq (.ops [o 6 (.mv (.t 1)), o 4 (.mv (.t 6))] [4])
 (.ret))
 (.skip)))
 (.seq (.ops [o 4 (.mv (ci 0))] [4])
 (.ret)))⟩

/-- crumple/garage.during -/
def c99L0 : ACode :=
 .seq (.ops [o 28 (.bin .lss (.t 27) (.t 26))] [2, 8, 11, 25, 26, 27, 28])
 (.seq (.cond (.t 28)
 (.skip)
 (.exit 0))
 (.seq (.block 1 (.seq (.ops [o 29 (.mv (.t 27)), o 30 (.iadr 15 (.t 25) (.t 27)), o 31 (.ld true 15 (.t 30)), o 13 (.alloc true 1 [.p (.int .i64 0), .p (.bool false), .p (.bool false), .p (.bool false), .p (.bool false), .p (.bool false), .p (.bool false), .p (.bool false), .p (.bool false), .p (.bool false), .p (.bool false), .p (.int .i64 0), .p (.bool false), .p (.int .i64 0), .p (.int .i64 0)]), o 12 (.mv (.t 29)), u (.st 15 (.t 13) (.t 31))] [2, 8, 11, 12, 13, 25, 26, 27])
 (.seq (.seq (.ops [o 32 (.mv (.t 2)), o 33 (.ld true 15 (.t 13)), o 34 (.call false true 0 (.val (.t 32)) [.t 33]), o 35 (.not (.t 34)), o 36 (.mv (.t 35)), ⟨some 37, .mv (.t 12), some (36, false)⟩, ⟨some 38, .bin .add (.t 37) (ci 1), some (36, false)⟩, ⟨some 39, .mv (.t 8), some (36, false)⟩, ⟨some 40, .len 1 (.t 39), some (36, false)⟩, ⟨some 41, .bin .eql (.t 38) (.t 40), some (36, false)⟩, o 42 (.pick (.t 36) (cb true) (.t 41))] [2, 8, 11, 12, 13, 25, 26, 27, 42])
 (.cond (.t 42)
 (.exit 1)
 (.skip)))
 (.seq (.opsd [(0, 1), (1, 1), (2, 1), (3, 1), (4, 1), (5, 1), (6, 1), (7, 1), (8, 1), (9, 2), (10, 0)] [o 43 (.fadr 0 (.t 13)), o 44 (.ld false 1 (.t 43)), o 45 (.mv (.t 8)), o 46 (.mv (.t 12)), o 47 (.bin .add (.t 46) (ci 1)), o 48 (.iadr 15 (.t 45) (.t 47)), o 49 (.fadr 0 (.t 48)), o 50 (.ld false 1 (.t 49)), o 51 (.build [.p (.int .i64 0), .p (.int .i64 0)] [(0, 1, .t 44), (1, 1, .t 50)]), o 14 (.alloc true 1 [.p (.int .i64 0), .p (.int .i64 0)]), u (.st 2 (.t 14) (.t 51))] [2, 8, 11, 14, 25, 26, 27])
 (.block 2 (.seq (.ops [o 57 (.fadr 0 (.t 14)), o 58 (.ld false 1 (.t 57)), o 59 (.fadr 1 (.t 14)), o 60 (.ld false 1 (.t 59)), o 61 (.bin .eql (.t 58) (.t 60)), o 56 (.mv (.t 61))] [2, 8, 11, 14, 25, 26, 27, 56])
 (.cond (.t 56)
 (.skip)
 (.seq (.opsd [(0, 1), (1, 1), (2, 1), (3, 1), (4, 1), (5, 1), (6, 1), (7, 1), (8, 1), (9, 1), (10, 1), (11, 1), (12, 1), (13, 1), (14, 1), (15, 1)] [o 63 (.mv (.t 11)), o 64 (.len 1 (.t 63)), o 65 (.bin .gtr (.t 64) (ci 0)), o 66 (.mv (.t 65)), ⟨some 67, .mv (.t 11), some (66, true)⟩, ⟨some 68, .mv (.t 11), some (66, true)⟩, ⟨some 69, .len 1 (.t 68), some (66, true)⟩, ⟨some 70, .bin .sub (.t 69) (ci 1), some (66, true)⟩, ⟨some 71, .iadr 2 (.t 67) (.t 70), some (66, true)⟩, ⟨some 72, .fadr 1 (.t 71), some (66, true)⟩, ⟨some 73, .ld false 1 (.t 72), some (66, true)⟩, ⟨some 74, .fadr 0 (.t 14), some (66, true)⟩, ⟨some 75, .ld false 1 (.t 74), some (66, true)⟩, ⟨some 76, .bin .eql (.t 73) (.t 75), some (66, true)⟩, o 77 (.pick (.t 66) (.t 76) (cb false)), o 62 (.mv (.t 77))] [2, 8, 11, 14, 25, 26, 27, 62])
 (.cond (.t 62)
 (.ops [o 78 (.mv (.t 11)), o 79 (.mv (.t 11)), o 80 (.len 1 (.t 79)), o 81 (.bin .sub (.t 80) (ci 1)), o 82 (.fadr 1 (.t 14)), o 83 (.ld false 1 (.t 82)), o 84 (.iadr 2 (.t 78) (.t 81)), o 85 (.fadr 1 (.t 84)), u (.st 1 (.t 85) (.t 83))] [2, 8, 11, 25, 26, 27])
 (.ops [o 52 (.mv (.t 11)), o 53 (.ld true 2 (.t 14)), o 54 (.bslice false 2 [.p (.int .i64 0), .p (.int .i64 0)] 1 [(0, .t 53)]), o 55 (.app 2 16 [.p (.int .i64 0), .p (.int .i64 0)] (.t 52) (.t 54)), o 11 (.mv (.t 55))] [2, 8, 11, 25, 26, 27]))))))))))
 (.ops [o 86 (.bin .add (.t 27) (ci 1)), o 27 (.mv (.t 86))] [2, 8, 11, 25, 26, 27])))
def c99 : AFunc := ⟨88, [.tmp 6, .tmp 7],
 .seq (.ops [o 3 (.box false (.t 0)), o 6 (.mv (cn)), o 7 (.mv (ci 0))] [1, 2, 3])
 (.seq (.ops [o 16 (.ld true 5 (.t 3)), o 17 (.mv (.t 1)), o 18 (.call true false 0 (.fn 88) [.t 16, .t 17]), o 15 (.mv (.t 18)), o 19 (.ext (.t 15) 0), o 20 (.ext (.t 15) 1), o 21 (.ext (.t 15) 2), o 8 (.mv (.t 19)), o 9 (.mv (.t 20)), o 10 (.mv (.t 21))] [2, 8, 10])
 (.seq (.seq (.ops [o 22 (.mv (.t 10)), o 23 (.bin .neq (.t 22) (ci 0))] [2, 8, 10, 23])
 (.cond (.t 23)
 (.seq (.ops [o 24 (.mv (.t 10)), o 6 (.mv (cn)), o 7 (.mv (.t 24))] [6, 7])
 (.ret))
 (.skip)))
 (.seq (.ops [o 11 (.nilown 2)] [2, 8, 11])
 (.seq (.seq (.ops [o 25 (.mv (.t 8)), o 26 (.len 1 (.t 25)), o 27 (.mv (ci 0))] [2, 8, 11, 25, 26, 27])
 (.block 0 (.loop true [2, 8, 11, 25, 26, 27] c99L0)))
 (.seq (.ops [o 87 (.mv (.t 11)), o 6 (.mv (.t 87)), o 7 (.mv (ci 0))] [6, 7])
 (.ret))))))⟩

/-- crumple/garage.Occupied$1 -/
def c100 : AFunc := ⟨6, [.tmp 2],
 .seq (.ops [o 1 (.box true (.t 0)), o 2 (.mv (cb false))] [1])
 (.seq (.ops [o 3 (.fadr 11 (.t 1)), o 4 (.ld false 1 (.t 3)), o 5 (.bin .gtr (.t 4) (ci 0)), o 2 (.mv (.t 5))] [2])
 (.ret))⟩

/-- crumple/garage.Armed$1 -/
def c101 : AFunc := ⟨5, [.tmp 2],
 .seq (.ops [o 1 (.box true (.t 0)), o 2 (.mv (cb false))] [1])
 (.seq (.ops [o 3 (.fadr 12 (.t 1)), o 4 (.ld false 1 (.t 3)), o 2 (.mv (.t 4))] [2])
 (.ret))⟩

/-- crumple/garage.Moved$1 -/
def c103 : AFunc := ⟨5, [.tmp 2],
 .seq (.ops [o 2 (.mv (ci 0))] [0])
 (.seq (.ops [o 3 (.mv (.t 0)), o 4 (.call true true 0 (.fn 92) [.t 3, ci (-100000), ci 100000]), o 2 (.mv (.t 4))] [2])
 (.ret))⟩

/-- crumple/garage.when -/
def c104 : AFunc := ⟨7, [.tmp 4],
 .seq (.ops [o 4 (.mv (ci 0))] [0, 1])
 (.seq (.seq (.ops [o 5 (.mv (.t 0))] [1, 5])
 (.cond (.t 5)
 (.seq (.ops [o 6 (.mv (.t 1)), o 4 (.mv (.t 6))] [4])
 (.ret))
 (.skip)))
 (.seq (.ops [o 4 (.mv (ci 0))] [4])
 (.ret)))⟩

/-- crumple/garage.mapped[int,crumple/api.Errno] -/
def c105L0 : ACode :=
 .seq (.ops [o 11 (.bin .lss (.t 10) (.t 9))] [1, 5, 8, 9, 10, 11])
 (.seq (.cond (.t 11)
 (.skip)
 (.exit 0))
 (.seq (.block 1 (.seq (.ops [o 12 (.iadr 1 (.t 8) (.t 10)), o 13 (.ld false 1 (.t 12)), o 7 (.mv (.t 13))] [1, 5, 7, 8, 9, 10])
 (.ops [o 14 (.mv (.t 5)), o 15 (.mv (.t 1)), o 16 (.mv (.t 7)), o 17 (.call false true 0 (.val (.t 15)) [.t 16]), o 18 (.bslice false 1 [.p (.int .i64 0)] 1 [(0, .t 17)]), o 19 (.app 1 8 [.p (.int .i64 0)] (.t 14) (.t 18)), o 5 (.mv (.t 19))] [1, 5, 8, 9, 10])))
 (.ops [o 20 (.bin .add (.t 10) (ci 1)), o 10 (.mv (.t 20))] [1, 5, 8, 9, 10])))
def c105 : AFunc := ⟨22, [.tmp 4],
 .seq (.ops [o 4 (.mv (cn))] [0, 1])
 (.seq (.ops [o 5 (.nilown 1)] [0, 1, 5])
 (.seq (.seq (.ops [o 8 (.mv (.t 0)), o 9 (.len 1 (.t 8)), o 10 (.mv (ci 0))] [1, 5, 8, 9, 10])
 (.block 0 (.loop true [1, 5, 8, 9, 10] c105L0)))
 (.seq (.ops [o 21 (.mv (.t 5)), o 4 (.mv (.t 21))] [4])
 (.ret))))⟩

/-- crumple/garage.Moved$2 -/
def c106 : AFunc := ⟨14, [.tmp 3],
 .seq (.ops [o 2 (.box true (.t 0)), o 3 (.mv (cb false))] [1, 2])
 (.seq (.ops [o 4 (.ld false 1 (.t 1)), o 5 (.fadr 0 (.t 2)), o 6 (.ld false 1 (.t 5)), o 7 (.bin .geq (.t 4) (.t 6)), o 8 (.mv (.t 7)), ⟨some 9, .ld false 1 (.t 1), some (8, true)⟩, ⟨some 10, .fadr 1 (.t 2), some (8, true)⟩, ⟨some 11, .ld false 1 (.t 10), some (8, true)⟩, ⟨some 12, .bin .lss (.t 9) (.t 11), some (8, true)⟩, o 13 (.pick (.t 8) (.t 12) (cb false)), o 3 (.mv (.t 13))] [3])
 (.ret))⟩

/-- slices.ContainsFunc[[]crumple/api.Span,crumple/api.Span] -/
def c107 : AFunc := ⟨9, [.tmp 4],
 .seq (.ops [o 4 (.mv (cb false))] [0, 1])
 (.seq (.ops [o 5 (.mv (.t 0)), o 6 (.mv (.t 1)), o 7 (.call true true 0 (.fn 140) [.t 5, .t 6]), o 8 (.bin .geq (.t 7) (ci 0)), o 4 (.mv (.t 8))] [4])
 (.ret))⟩

/-- crumple/garage.checkOrder -/
def c109L0 : ACode :=
 .seq (.ops [o 16 (.bin .lss (.t 15) (.t 14))] [0, 1, 13, 14, 15, 16])
 (.seq (.cond (.t 16)
 (.skip)
 (.exit 0))
 (.seq (.block 1 (.seq (.ops [o 17 (.mv (.t 15)), o 18 (.iadr 1 (.t 13) (.t 15)), o 19 (.ld false 1 (.t 18)), o 5 (.mv (.t 17)), o 6 (.mv (.t 19))] [0, 1, 5, 6, 13, 14, 15])
 (.seq (.opsd [(0, 1), (1, 1), (2, 1), (3, 1), (4, 1), (5, 1), (6, 1), (7, 1), (9, 1), (10, 1), (11, 5), (12, 1), (8, 0), (13, 0), (14, 0), (15, 0), (16, 0), (17, 1)] [o 20 (.mv (.t 6)), o 21 (.bin .lss (.t 20) (ci 0)), o 22 (.mv (.t 21)), ⟨some 23, .mv (.t 6), some (22, false)⟩, ⟨some 24, .mv (.t 0), some (22, false)⟩, ⟨some 25, .len 1 (.t 24), some (22, false)⟩, ⟨some 26, .bin .geq (.t 23) (.t 25), some (22, false)⟩, o 27 (.pick (.t 22) (cb true) (.t 26)), o 29 (.mv (.t 1)), o 30 (.mv (.t 5)), o 31 (.slc 1 (.t 29) none (some (.t 30))), o 32 (.mv (.t 6)), o 28 (.call true true 0 (.fn 104) [.t 27, ci 10]), o 33 (.call true true 0 (.fn 141) [.t 31, .t 32]), o 34 (.call true true 0 (.fn 104) [.t 33, ci 9]), o 35 (.bslice false 1 [.p (.int .i64 0)] 2 [(0, .t 28), (1, .t 34)]), o 36 (.call true true 0 (.fn 91) [.t 35]), o 7 (.mv (.t 36))] [0, 1, 7, 13, 14, 15])
 (.seq (.ops [o 37 (.mv (.t 7)), o 38 (.bin .neq (.t 37) (ci 0))] [0, 1, 7, 13, 14, 15, 38])
 (.cond (.t 38)
 (.seq (.ops [o 39 (.mv (.t 7)), o 4 (.mv (.t 39))] [4])
 (.ret))
 (.skip))))))
 (.ops [o 40 (.bin .add (.t 15) (ci 1)), o 15 (.mv (.t 40))] [0, 1, 13, 14, 15])))
def c109 : AFunc := ⟨41, [.tmp 4],
 .seq (.ops [o 4 (.mv (ci 0))] [0, 1])
 (.seq (.seq (.ops [o 8 (.mv (.t 1)), o 9 (.len 1 (.t 8)), o 10 (.mv (.t 0)), o 11 (.len 1 (.t 10)), o 12 (.bin .neq (.t 9) (.t 11))] [0, 1, 12])
 (.cond (.t 12)
 (.seq (.ops [o 4 (.mv (ci 2))] [4])
 (.ret))
 (.skip)))
 (.seq (.seq (.ops [o 13 (.mv (.t 1)), o 14 (.len 1 (.t 13)), o 15 (.mv (ci 0))] [0, 1, 13, 14, 15])
 (.block 0 (.loop false [0, 1, 13, 14, 15] c109L0)))
 (.seq (.ops [o 4 (.mv (ci 0))] [4])
 (.ret))))⟩

/-- crumple/garage.starts -/
def c110L0 : ACode :=
 .seq (.ops [o 25 (.bin .lss (.t 24) (.t 23))] [0, 1, 5, 7, 13, 14, 15, 22, 23, 24, 25])
 (.seq (.cond (.t 25)
 (.skip)
 (.exit 2))
 (.seq (.block 3 (.seq (.ops [o 26 (.iadr 1 (.t 22) (.t 24)), o 27 (.ld false 1 (.t 26)), o 9 (.mv (.t 27))] [0, 1, 5, 7, 9, 13, 14, 15, 22, 23, 24])
 (.opsd [(0, 1), (1, 1), (2, 1), (3, 1), (4, 1), (5, 1), (6, 1), (7, 1), (8, 1), (9, 1), (10, 1), (11, 1), (12, 1), (13, 1), (14, 1), (15, 1), (16, 1), (17, 1), (18, 1), (19, 1), (20, 1), (21, 0)] [o 28 (.mv (.t 5)), o 29 (.mv (.t 7)), o 30 (.mv (.t 5)), o 31 (.mv (.t 7)), o 32 (.iadr 1 (.t 30) (.t 31)), o 33 (.ld false 1 (.t 32)), o 34 (.mv (.t 0)), o 35 (.mv (.t 7)), o 36 (.iadr 6 (.t 34) (.t 35)), o 37 (.ld true 6 (.t 36)), o 38 (.mv (.t 0)), o 39 (.mv (.t 9)), o 40 (.iadr 6 (.t 38) (.t 39)), o 41 (.ld true 6 (.t 40)), o 42 (.mv (.t 5)), o 43 (.mv (.t 9)), o 44 (.iadr 1 (.t 42) (.t 43)), o 45 (.ld false 1 (.t 44)), o 46 (.call true true 0 (.fn 116) [.t 37, .t 41, .t 45]), o 47 (.max [.t 33, .t 46]), o 48 (.iadr 1 (.t 28) (.t 29)), u (.st 1 (.t 48) (.t 47))] [0, 1, 5, 7, 13, 14, 15, 22, 23, 24])))
 (.ops [o 49 (.bin .add (.t 24) (ci 1)), o 24 (.mv (.t 49))] [0, 1, 5, 7, 13, 14, 15, 22, 23, 24])))
def c110L1 : ACode :=
 .seq (.ops [o 16 (.bin .lss (.t 15) (.t 14))] [0, 1, 5, 13, 14, 15, 16])
 (.seq (.cond (.t 16)
 (.skip)
 (.exit 0))
 (.seq (.block 1 (.seq (.ops [o 17 (.mv (.t 15)), o 18 (.iadr 1 (.t 13) (.t 15)), o 19 (.ld false 1 (.t 18)), o 6 (.mv (.t 17)), o 7 (.mv (.t 19))] [0, 1, 5, 6, 7, 13, 14, 15])
 (.seq (.ops [o 20 (.mv (.t 1)), o 21 (.mv (.t 6)), o 22 (.slc 1 (.t 20) none (some (.t 21))), o 23 (.len 1 (.t 22)), o 24 (.mv (ci 0))] [0, 1, 5, 7, 13, 14, 15, 22, 23, 24])
 (.block 2 (.loop false [0, 1, 5, 7, 13, 14, 15, 22, 23, 24] c110L0)))))
 (.ops [o 50 (.bin .add (.t 15) (ci 1)), o 15 (.mv (.t 50))] [0, 1, 5, 13, 14, 15])))
def c110 : AFunc := ⟨52, [.tmp 4],
 .seq (.ops [o 4 (.mv (cn))] [0, 1])
 (.seq (.ops [o 10 (.mv (.t 0)), o 11 (.len 1 (.t 10)), o 12 (.mkslice 1 [.p (.int .i64 0)] (.t 11) (.t 11)), o 5 (.mv (.t 12))] [0, 1, 5])
 (.seq (.seq (.ops [o 13 (.mv (.t 1)), o 14 (.len 1 (.t 13)), o 15 (.mv (ci 0))] [0, 1, 5, 13, 14, 15])
 (.block 0 (.loop false [0, 1, 5, 13, 14, 15] c110L1)))
 (.seq (.ops [o 51 (.mv (.t 5)), o 4 (.mv (.t 51))] [4])
 (.ret))))⟩

/-- crumple/garage.end -/
def c111L0 : ACode :=
 .seq (.ops [o 11 (.bin .lss (.t 10) (.t 9))] [1, 5, 8, 9, 10, 11])
 (.seq (.cond (.t 11)
 (.skip)
 (.exit 0))
 (.seq (.block 1 (.seq (.ops [o 12 (.mv (.t 10)), o 13 (.iadr 6 (.t 8) (.t 10)), o 14 (.ld true 6 (.t 13)), o 7 (.alloc true 1 [.p (.str []), .p (.int .i64 0), .p (.int .i64 0), .p (.int .i64 0), .p (.int .i64 0), .p (.int .i64 0)]), o 6 (.mv (.t 12)), u (.st 6 (.t 7) (.t 14))] [1, 5, 6, 7, 8, 9, 10])
 (.opsd [(0, 1), (1, 1), (2, 1), (3, 1), (4, 1), (5, 1), (6, 1), (7, 1), (8, 1), (9, 1)] [o 15 (.mv (.t 5)), o 16 (.mv (.t 1)), o 17 (.mv (.t 6)), o 18 (.iadr 1 (.t 16) (.t 17)), o 19 (.ld false 1 (.t 18)), o 20 (.fadr 4 (.t 7)), o 21 (.ld false 1 (.t 20)), o 22 (.bin .add (.t 19) (.t 21)), o 23 (.max [.t 15, .t 22]), o 5 (.mv (.t 23))] [1, 5, 8, 9, 10])))
 (.ops [o 24 (.bin .add (.t 10) (ci 1)), o 10 (.mv (.t 24))] [1, 5, 8, 9, 10])))
def c111 : AFunc := ⟨26, [.tmp 4],
 .seq (.ops [o 4 (.mv (ci 0))] [0, 1])
 (.seq (.ops [o 5 (.mv (ci 0))] [0, 1, 5])
 (.seq (.seq (.ops [o 8 (.mv (.t 0)), o 9 (.len 1 (.t 8)), o 10 (.mv (ci 0))] [1, 5, 8, 9, 10])
 (.block 0 (.loop true [1, 5, 8, 9, 10] c111L0)))
 (.seq (.ops [o 25 (.mv (.t 5)), o 4 (.mv (.t 25))] [4])
 (.ret))))⟩

/-- crumple/crumpleref01.CheckName -/
def c112 : AFunc := ⟨7, [.tmp 2],
 .seq (.ops [o 2 (.mv (ci 0))] [0])
 (.seq (.ops [o 3 (.mv (.t 0)), o 4 (.call true true 0 (.fn 142) [.t 3]), o 5 (.not (.t 4)), o 6 (.call true true 0 (.fn 94) [.t 5, ci 8]), o 2 (.mv (.t 6))] [2])
 (.ret))⟩

/-- (crumple/garage.Job).check -/
def c113 : AFunc := ⟨10, [.tmp 2],
 .seq (.ops [o 1 (.box true (.t 0)), o 2 (.mv (ci 0))] [1])
 (.seq (.ops [o 3 (.fadr 0 (.t 1)), o 4 (.ld false 1 (.t 3)), o 5 (.call true true 0 (.fn 143) [.t 4]), o 6 (.not (.t 5)), o 7 (.call true true 0 (.fn 104) [.t 6, ci 8]), o 8 (.bslice false 1 [.p (.int .i64 0)] 1 [(0, .t 7)]), o 9 (.call true true 0 (.fn 91) [.t 8]), o 2 (.mv (.t 9))] [2])
 (.ret))⟩

end Fw
