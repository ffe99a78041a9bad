/- The functions of the program, written for the evaluator, first part: definitions alone. -/
import Derived.Test.YtdjkleaojdeepaaGreatDoorFwC
namespace Fw
open Go
abbrev o (d : Nat) (x : AOp) : AOper := ⟨some d, x, none⟩
abbrev u (x : AOp) : AOper := ⟨none, x, none⟩
abbrev mt (d x : Nat) : AOper := ⟨some d, .mv (.t x), none⟩
abbrev zl0 : List AVal := [.p (.int .i64 0), .p (.int .i64 0), .p (.int .i64 0), .p (.int .i64 0), .p (.int .i64 0), .p (.int .i64 0), .p (.int .i64 0), .p (.int .i64 0), .p (.int .i64 0), .p (.int .i64 0), .p (.int .i64 0), .p (.int .i64 0), .p (.int .i64 0), .p (.int .i64 0), .p (.int .i64 0), .p (.int .i64 0), .p (.int .i64 0)]
abbrev zl1 : List AVal := [.p (.int .i64 0), .p (.bool false), .p (.bool false), .p (.bool false), .p (.bool false), .p (.bool false), .p (.bool false), .p (.bool false), .p (.bool false), .p (.bool false), .p (.bool false), .p (.int .i64 0), .p (.bool false), .p (.int .i64 0), .p (.int .i64 0)]
abbrev zl2 : List AVal := [.p (.int .i64 0), .p (.str []), .p (.int .i64 0), .p (.int .i64 0), .p (.int .i64 0), .p (.int .i64 0)]
abbrev zl3 : List AVal := [.p (.str []), .p (.int .i64 0), .p (.int .i64 0), .p (.int .i64 0), .p (.int .i64 0), .p (.int .i64 0)]
abbrev zl4 : List AVal := [.p (.int .i64 0), .p (.int .i64 0), .p (.nils), .p (.nils), .p (.nils)]
abbrev zl5 : List AVal := [.p (.int .i64 0), .p (.int .i64 0), .p (.int .i64 0)]
abbrev zl6 : List AVal := [.p (.int .i64 0), .p (.int .i64 0)]
abbrev zl7 : List AVal := [.p (.nils), .p (.int .i64 0)]
abbrev zl8 : List AVal := [.p (.int .i64 0)]
abbrev zl9 : List AVal := [.p (.str [])]
abbrev ci (n : Int) : Opd := .c (.p (.int .i64 n))
abbrev cb (b : Bool) : Opd := .c (.p (.bool b))
abbrev cs (l : List UInt8) : Opd := .c (.p (.str l))
abbrev cn : Opd := .c (.p .nils)
abbrev cf (f : Nat) : Opd := .c (.p (.clo f [] []))
inductive Tr where | leaf | node (k : Nat) (v : AFunc) (l r : Tr)
def Tr.find : Tr → Nat → Option AFunc
 | .leaf, _ => none
 | .node k v l r, n => if n = k then some v else if n < k then l.find n else r.find n
def c12 : AFunc := ⟨143, [.tmp 6],
 .seq (.ops [o 3 (.box false (.t 0)), o 6 (.mv (cb false))] [1, 2, 3])
 (.seq (.seq (.ops [o 20 (.ld true 5 (.t 3)), o 21 (.call true true 0 (.fn 15) [.t 20]), o 22 (.not (.t 21)), mt 23 22, ⟨some 24, .mv (.t 1), some (23, false)⟩, ⟨some 25, .call true true 0 (.fn 16) [.t 24], some (23, false)⟩, ⟨some 26, .not (.t 25), some (23, false)⟩, o 27 (.pick (.t 23) (cb true) (.t 26)), mt 28 27, ⟨some 29, .mv (.t 1), some (28, false)⟩, ⟨some 30, .len 1 (.t 29), some (28, false)⟩, ⟨some 31, .bin .gtr (.t 30) (ci 24), some (28, false)⟩, o 32 (.pick (.t 28) (cb true) (.t 31)), mt 33 32, ⟨some 34, .mv (.t 2), some (33, false)⟩, ⟨some 35, .len 0 (.t 34), some (33, false)⟩, ⟨some 36, .bin .gtr (.t 35) (ci 400), some (33, false)⟩, o 37 (.pick (.t 33) (cb true) (.t 36)), mt 38 37, ⟨some 39, .ld true 5 (.t 3), some (38, false)⟩, ⟨some 40, .mv (.t 1), some (38, false)⟩, ⟨some 41, .call true true 0 (.fn 26) [.t 39, .t 40], some (38, false)⟩, ⟨some 42, .bin .neq (.t 41) (ci 0), some (38, false)⟩, o 43 (.pick (.t 38) (cb true) (.t 42))] [1, 2, 3, 43])
 (.cond (.t 43)
 (.seq (.ops [o 44 (.call true true 0 (.fn 17) []), mt 6 44] [6])
 (.ret))
 (.skip)))
 (.seq (.ops [o 46 (.ld true 5 (.t 3)), o 47 (.call true false 0 (.fn 19) [.t 46]), mt 48 1, o 49 (.call true false 0 (.fn 20) [.t 48]), o 50 (.call true true 0 (.fn 63) [.t 47, .t 49]), mt 45 50, o 51 (.ext (.t 45) 0), o 52 (.ext (.t 45) 1), mt 7 51, mt 8 52] [1, 2, 3, 7, 8])
 (.seq (.ops [o 54 (.ld true 5 (.t 3)), o 55 (.call true false 0 (.fn 19) [.t 54]), mt 56 7, o 57 (.call true false 0 (.fn 64) [.t 55, .t 56]), mt 53 57, o 58 (.ext (.t 53) 0), o 59 (.ext (.t 53) 1), o 60 (.ext (.t 53) 2), mt 9 58, mt 10 59, mt 11 60] [1, 2, 3, 7, 8, 9, 10, 11])
 (.seq (.seq (.ops [mt 61 8, o 62 (.bin .neq (.t 61) (ci 0)), mt 63 62, ⟨some 64, .mv (.t 11), some (63, false)⟩, ⟨some 65, .bin .neq (.t 64) (ci 0), some (63, false)⟩, o 66 (.pick (.t 63) (cb true) (.t 65)), mt 67 66, ⟨some 68, .mv (.t 10), some (67, false)⟩, ⟨some 69, .bin .neq (.t 68) (ci 0), some (67, false)⟩, o 70 (.pick (.t 67) (cb true) (.t 69)), mt 71 70, ⟨some 72, .mv (.t 9), some (71, false)⟩, ⟨some 73, .call true false 0 (.fn 69) [.t 72], some (71, false)⟩, ⟨some 74, .mv (.t 1), some (71, false)⟩, ⟨some 75, .call true true 0 (.fn 68) [.t 73, .t 74], some (71, false)⟩, ⟨some 76, .not (.t 75), some (71, false)⟩, o 77 (.pick (.t 71) (cb true) (.t 76)), mt 78 77, ⟨some 79, .mv (.t 7), some (78, false)⟩, ⟨some 80, .call true false 0 (.fn 74) [.t 79, .c (.p (.int .u8 10))], some (78, false)⟩, ⟨some 81, .len 1 (.t 80), some (78, false)⟩, ⟨some 82, .mv (.t 1), some (78, false)⟩, ⟨some 83, .len 1 (.t 82), some (78, false)⟩, ⟨some 84, .bin .add (.t 83) (ci 1), some (78, false)⟩, ⟨some 85, .bin .neq (.t 81) (.t 84), some (78, false)⟩, o 86 (.pick (.t 78) (cb true) (.t 85))] [1, 2, 3, 7, 86])
 (.cond (.t 86)
 (.seq (.ops [o 6 (.mv (cb false))] [6])
 (.ret))
 (.skip)))
 (.seq (.seq (.ops [o 88 (.ld true 5 (.t 3)), o 89 (.call true false 0 (.fn 19) [.t 88]), mt 90 2, o 91 (.call true false 0 (.fn 64) [.t 89, .t 90]), mt 87 91, o 92 (.ext (.t 87) 0), o 93 (.ext (.t 87) 1), o 94 (.ext (.t 87) 2), mt 12 92, mt 13 93, mt 14 94] [1, 2, 3, 7, 12, 14])
 (.seq (.ops [mt 95 14, o 96 (.bin .eql (.t 95) (ci 0))] [1, 2, 3, 7, 12, 96])
 (.cond (.t 96)
 (.seq (.ops [o 98 (.ld true 5 (.t 3)), o 99 (.call true false 0 (.fn 19) [.t 98]), mt 100 12, o 101 (.call true true 0 (.fn 63) [.t 99, .t 100]), mt 97 101, o 102 (.ext (.t 97) 0), o 103 (.ext (.t 97) 1), mt 15 102, mt 16 103] [1, 2, 3, 7, 15, 16])
 (.seq (.ops [mt 104 16, o 105 (.bin .neq (.t 104) (ci 0)), mt 106 105, ⟨some 107, .mv (.t 15), some (106, false)⟩, ⟨some 108, .mv (.t 2), some (106, false)⟩, ⟨some 109, .bin .neq (.t 107) (.t 108), some (106, false)⟩, o 110 (.pick (.t 106) (cb true) (.t 109))] [1, 3, 7, 110])
 (.cond (.t 110)
 (.seq (.ops [o 6 (.mv (cb false))] [6])
 (.ret))
 (.skip))))
 (.skip))))
 (.seq (.seq (.ops [mt 111 1, o 112 (.len 1 (.t 111)), o 113 (.bin .eql (.t 112) (ci 0))] [1, 3, 7, 113])
 (.cond (.t 113)
 (.seq (.ops [mt 114 7, o 115 (.bin .eql (.t 114) (cs [])), mt 116 115, ⟨some 117, .call true true 0 (.fn 17) [], some (116, true)⟩, o 118 (.pick (.t 116) (.t 117) (cb false)), mt 6 118] [6])
 (.ret))
 (.skip)))
 (.seq (.opsd [(0, 1), (2, 1), (3, 1), (4, 1), (5, 1), (6, 1), (1, 0), (7, 0), (8, 1), (9, 1), (10, 1), (11, 1), (12, 1), (13, 1), (14, 1)] [o 120 (.ld true 5 (.t 3)), mt 122 7, mt 123 7, o 124 (.len 0 (.t 123)), o 125 (.bin .sub (.t 124) (ci 1)), o 126 (.slcs (.t 122) none (some (.t 125))), o 121 (.call true false 0 (.fn 19) [.t 120]), o 127 (.call true false 0 (.fn 64) [.t 121, .t 126]), mt 119 127, o 128 (.ext (.t 119) 0), o 129 (.ext (.t 119) 1), o 130 (.ext (.t 119) 2), mt 17 128, mt 18 129, mt 19 130] [1, 18, 19])
 (.seq (.ops [mt 131 19, o 132 (.bin .eql (.t 131) (ci 25)), mt 133 132, ⟨some 134, .mv (.t 18), some (133, true)⟩, ⟨some 135, .mv (.t 1), some (133, true)⟩, ⟨some 136, .len 1 (.t 135), some (133, true)⟩, ⟨some 137, .bin .sub (.t 136) (ci 1), some (133, true)⟩, ⟨some 138, .bin .eql (.t 134) (.t 137), some (133, true)⟩, o 139 (.pick (.t 133) (.t 138) (cb false)), mt 140 139, ⟨some 141, .call true true 0 (.fn 17) [], some (140, true)⟩, o 142 (.pick (.t 140) (.t 141) (cb false)), mt 6 142] [6])
 (.ret)))))))))⟩

def c15 : AFunc := ⟨22, [.tmp 2],
 .seq (.ops [o 1 (.box false (.t 0)), o 2 (.mv (cb false))] [1])
 (.seq (.ops [o 3 (.fadr 2 (.t 1)), o 4 (.iadra 1 3 (.t 3) (ci 0)), o 5 (.ld false 1 (.t 4)), o 6 (.len 1 (.t 5)), o 7 (.bin .leq (.t 6) (ci 9)), mt 8 7, ⟨some 9, .fadr 2 (.t 1), some (8, true)⟩, ⟨some 10, .iadra 1 3 (.t 9) (ci 1), some (8, true)⟩, ⟨some 11, .ld false 1 (.t 10), some (8, true)⟩, ⟨some 12, .len 1 (.t 11), some (8, true)⟩, ⟨some 13, .bin .leq (.t 12) (ci 9), some (8, true)⟩, o 14 (.pick (.t 8) (.t 13) (cb false)), mt 15 14, ⟨some 16, .fadr 2 (.t 1), some (15, true)⟩, ⟨some 17, .iadra 1 3 (.t 16) (ci 2), some (15, true)⟩, ⟨some 18, .ld false 1 (.t 17), some (15, true)⟩, ⟨some 19, .len 1 (.t 18), some (15, true)⟩, ⟨some 20, .bin .leq (.t 19) (ci 9), some (15, true)⟩, o 21 (.pick (.t 15) (.t 20) (cb false)), mt 2 21] [2])
 (.ret))⟩

def c16L0 : ACode :=
 .seq (.seq (.ops [mt 4 3, mt 5 0, o 6 (.len 1 (.t 5)), o 7 (.bin .lss (.t 4) (.t 6))] [0, 3, 7])
 (.cond (.t 7)
 (.skip)
 (.exit 0)))
 (.seq (.block 1 (.seq (.ops [mt 10 0, mt 11 3, o 12 (.iadr 6 (.t 10) (.t 11)), o 13 (.fadr 1 (.t 12)), o 14 (.ld false 1 (.t 13)), o 15 (.len 0 (.t 14)), o 16 (.bin .gtr (.t 15) (ci 40))] [0, 3, 16])
 (.cond (.t 16)
 (.seq (.ops [o 2 (.mv (cb false))] [2])
 (.ret))
 (.skip))))
 (.ops [mt 8 3, o 9 (.bin .add (.t 8) (ci 1)), mt 3 9] [0, 3]))
def c16 : AFunc := ⟨25, [.tmp 2],
 .seq (.ops [o 2 (.mv (cb false))] [0])
 (.seq (.seq (.ops [o 3 (.mv (ci 0))] [0, 3])
 (.block 0 (.loop false [0, 3] c16L0)))
 (.seq (.ops [mt 17 0, o 18 (.len 1 (.t 17)), o 19 (.bin .leq (.t 18) (ci 24)), mt 20 19, ⟨some 21, .mv (.t 0), some (20, false)⟩, ⟨some 22, .len 1 (.t 21), some (20, false)⟩, ⟨some 23, .bin .eql (.t 22) (ci 1001), some (20, false)⟩, o 24 (.pick (.t 20) (cb true) (.t 23)), mt 2 24] [2])
 (.ret)))⟩

def c17 : AFunc := ⟨396, [.tmp 0],
 .seq (.ops [o 0 (.mv (cb false))] [])
 (.seq (.ops [o 52 (.call true false 0 (.fn 83) []), o 53 (.build zl5 [(0, 1, ci 49), (1, 1, ci 80), (2, 1, ci 7)]), o 54 (.call true true 0 (.fn 72) [.t 52, .t 53]), mt 51 54, o 55 (.ext (.t 51) 0), o 56 (.ext (.t 51) 1), mt 1 55, mt 2 56] [1, 2])
 (.seq (.ops [o 58 (.call true false 0 (.fn 83) []), o 59 (.build zl5 [(0, 1, ci 50), (1, 1, ci 80), (2, 1, ci 7)]), o 60 (.call true true 0 (.fn 72) [.t 58, .t 59]), mt 57 60, o 61 (.ext (.t 57) 0), o 62 (.ext (.t 57) 1), mt 3 61, mt 4 62] [1, 2, 3, 4])
 (.seq (.ops [o 64 (.call true false 0 (.fn 83) []), o 65 (.call true false 0 (.fn 84) []), o 66 (.call true true 0 (.fn 70) [.t 64, .t 65]), mt 63 66, o 67 (.ext (.t 63) 0), o 68 (.ext (.t 63) 1), o 69 (.ext (.t 63) 2), o 5 (.alloc true 1 zl1), u (.st 15 (.t 5) (.t 67)), mt 6 68, mt 7 69] [1, 2, 3, 4, 5, 6, 7])
 (.seq (.ops [o 71 (.call true false 0 (.fn 83) []), o 72 (.bslice true 6 zl2 0 []), o 73 (.call true false 0 (.fn 84) []), o 74 (.slc 6 (.t 73) none (some (ci 4))), o 75 (.app 6 56 zl2 (.t 72) (.t 74)), o 76 (.call true false 0 (.fn 84) []), o 77 (.iadr 6 (.t 76) (ci 5)), o 78 (.ld true 6 (.t 77)), o 79 (.bslice false 6 zl2 1 [(0, .t 78)]), o 80 (.app 6 56 zl2 (.t 75) (.t 79)), o 81 (.call true false 0 (.fn 84) []), o 82 (.iadr 6 (.t 81) (ci 6)), o 83 (.ld true 6 (.t 82)), o 84 (.call true false 0 (.fn 18) [.t 71, .t 80, .t 83]), mt 70 84, o 85 (.ext (.t 70) 0), o 86 (.ext (.t 70) 1), mt 8 85, mt 9 86] [1, 2, 3, 4, 5, 6, 7, 8, 9])
 (.seq (.ops [o 88 (.call true false 0 (.fn 83) []), o 89 (.call true false 0 (.fn 84) []), o 90 (.build zl2 [(0, 1, ci 30), (1, 1, cs [111, 112, 101, 110])]), o 91 (.call true false 0 (.fn 18) [.t 88, .t 89, .t 90]), mt 87 91, o 92 (.ext (.t 87) 0), o 93 (.ext (.t 87) 1), mt 10 92, mt 11 93] [1, 2, 3, 4, 5, 6, 7, 8, 9, 10, 11])
 (.seq (.ops [o 95 (.call true false 0 (.fn 83) []), o 96 (.call true false 0 (.fn 84) []), o 97 (.build zl2 [(0, 1, ci 7), (1, 1, cs [97, 114, 109])]), o 98 (.call true false 0 (.fn 18) [.t 95, .t 96, .t 97]), mt 94 98, o 99 (.ext (.t 94) 0), o 100 (.ext (.t 94) 1), mt 12 99, mt 13 100] [1, 2, 3, 4, 5, 6, 7, 8, 9, 10, 11, 12, 13])
 (.seq (.ops [o 102 (.call true false 0 (.fn 83) []), o 103 (.call true false 6 (.fn 84) []), o 104 (.build zl2 [(0, 1, ci 8), (1, 1, cs [114, 101, 109, 111, 118, 101])]), o 105 (.bslice false 6 zl2 1 [(0, .t 104)]), o 106 (.app 6 56 zl2 (.t 103) (.t 105)), o 107 (.build zl2 [(0, 1, ci 9), (1, 1, cs [97, 114, 109])]), o 108 (.call true false 0 (.fn 18) [.t 102, .t 106, .t 107]), mt 101 108, o 109 (.ext (.t 101) 0), o 110 (.ext (.t 101) 1), mt 14 109, mt 15 110] [1, 2, 3, 4, 5, 6, 7, 8, 9, 10, 11, 12, 13, 14, 15])
 (.seq (.ops [o 111 (.call true false 6 (.fn 84) []), o 112 (.build zl5 [(0, 1, ci 50)]), o 113 (.build zl2 [(0, 1, ci 12), (1, 1, cs [109, 101, 97, 115, 117, 114, 101]), (3, 3, .t 112)]), o 114 (.bslice false 6 zl2 1 [(0, .t 113)]), o 115 (.app 6 56 zl2 (.t 111) (.t 114)), mt 16 115] [1, 2, 3, 4, 5, 6, 7, 8, 9, 10, 11, 12, 13, 14, 15, 16])
 (.seq (.ops [o 117 (.call true false 0 (.fn 83) []), mt 118 16, o 119 (.call true true 0 (.fn 31) [.t 117, .t 118]), mt 116 119, o 120 (.ext (.t 116) 0), o 121 (.ext (.t 116) 1), mt 17 120, mt 18 121] [1, 2, 3, 4, 5, 6, 7, 8, 9, 10, 11, 12, 13, 14, 15, 16, 17, 18])
 (.seq (.ops [o 123 (.call true false 0 (.fn 83) []), mt 124 16, o 125 (.build zl2 [(0, 1, ci 20), (1, 1, cs [109, 101, 97, 115, 117, 114, 101])]), o 126 (.bslice false 6 zl2 1 [(0, .t 125)]), o 127 (.app 6 56 zl2 (.t 124) (.t 126)), o 128 (.call true true 0 (.fn 31) [.t 123, .t 127]), mt 122 128, o 129 (.ext (.t 122) 0), o 130 (.ext (.t 122) 1), mt 19 129, mt 20 130] [1, 2, 3, 4, 5, 6, 7, 8, 9, 10, 11, 12, 13, 14, 15, 17, 18, 19, 20])
 (.seq (.ops [o 132 (.call true false 0 (.fn 83) []), o 133 (.call true false 0 (.fn 84) []), o 134 (.call true false 0 (.fn 21) [.t 132, .t 133, ci 9, ci 0]), mt 131 134, o 135 (.ext (.t 131) 0), o 136 (.ext (.t 131) 1), mt 21 135, mt 22 136] [1, 2, 3, 4, 5, 6, 7, 8, 9, 10, 11, 12, 13, 14, 15, 17, 18, 19, 20, 21, 22])
 (.seq (.ops [o 138 (.call true false 0 (.fn 83) []), o 139 (.call true false 0 (.fn 84) []), o 140 (.call true false 0 (.fn 32) [.t 138, .t 139]), mt 137 140, o 141 (.ext (.t 137) 0), o 142 (.ext (.t 137) 1), mt 23 141, mt 24 142] [1, 2, 3, 4, 5, 6, 7, 8, 9, 10, 11, 12, 13, 14, 15, 17, 18, 19, 20, 21, 22, 23, 24])
 (.seq (.seq (.ops [mt 143 2, mt 144 4, o 145 (.bin .add (.t 143) (.t 144)), mt 146 7, o 147 (.bin .add (.t 145) (.t 146)), mt 148 9, o 149 (.bin .add (.t 147) (.t 148)), mt 150 11, o 151 (.bin .add (.t 149) (.t 150)), mt 152 13, o 153 (.bin .add (.t 151) (.t 152)), mt 154 15, o 155 (.bin .add (.t 153) (.t 154)), mt 156 18, o 157 (.bin .add (.t 155) (.t 156)), mt 158 20, o 159 (.bin .add (.t 157) (.t 158)), mt 160 22, o 161 (.bin .add (.t 159) (.t 160)), mt 162 24, o 163 (.bin .add (.t 161) (.t 162)), o 164 (.bin .neq (.t 163) (ci 0)), mt 165 164, ⟨some 166, .mv (.t 1), some (165, false)⟩, ⟨some 167, .bin .neq (.t 166) (ci 20), some (165, false)⟩, o 168 (.pick (.t 165) (cb true) (.t 167)), mt 169 168, ⟨some 170, .mv (.t 3), some (169, false)⟩, ⟨some 171, .bin .neq (.t 170) (ci 30), some (169, false)⟩, o 172 (.pick (.t 169) (cb true) (.t 171)), mt 173 172, ⟨some 174, .mv (.t 6), some (173, false)⟩, ⟨some 175, .bin .neq (.t 174) (ci 0), some (173, false)⟩, o 176 (.pick (.t 173) (cb true) (.t 175)), mt 177 176, ⟨some 178, .ld true 15 (.t 5), some (177, false)⟩, ⟨some 179, .build [.p (.bool false), .p (.bool false)] [(0, 1, cb true), (1, 1, cb true)], some (177, false)⟩, ⟨some 180, .build zl1 [(0, 1, ci 8), (9, 2, .t 179), (13, 1, ci 8), (14, 1, ci (-1))], some (177, false)⟩, ⟨some 181, .eqagg [0, 2, 2, 2, 2, 2, 2, 2, 2, 2, 2, 0, 2, 0, 0] true (.t 178) (.t 180), some (177, false)⟩, o 182 (.pick (.t 177) (cb true) (.t 181)), mt 183 182, ⟨some 184, .mv (.t 8), some (183, false)⟩, ⟨some 185, .bslice false 1 zl9 1 [(0, cs [112, 101, 111, 112, 108, 101])], some (183, false)⟩, ⟨some 186, .call true true 0 (.fn 30) [.t 184, .t 185], some (183, false)⟩, ⟨some 187, .not (.t 186), some (183, false)⟩, o 188 (.pick (.t 183) (cb true) (.t 187)), mt 189 188, ⟨some 190, .mv (.t 10), some (189, false)⟩, ⟨some 191, .bslice false 1 zl9 1 [(0, cs [119, 97, 105, 116])], some (189, false)⟩, ⟨some 192, .call true true 0 (.fn 30) [.t 190, .t 191], some (189, false)⟩, ⟨some 193, .not (.t 192), some (189, false)⟩, o 194 (.pick (.t 189) (cb true) (.t 193)), mt 195 194, ⟨some 196, .mv (.t 12), some (195, false)⟩, ⟨some 197, .bslice false 1 zl9 2 [(0, cs [116, 105, 99, 107]), (1, cs [119, 97, 105, 116])], some (195, false)⟩, ⟨some 198, .call true true 0 (.fn 30) [.t 196, .t 197], some (195, false)⟩, ⟨some 199, .not (.t 198), some (195, false)⟩, o 200 (.pick (.t 195) (cb true) (.t 199)), mt 201 200, ⟨some 202, .mv (.t 14), some (201, false)⟩, ⟨some 203, .bslice false 1 zl9 2 [(0, cs [107, 101, 121]), (1, cs [119, 97, 105, 116])], some (201, false)⟩, ⟨some 204, .call true true 0 (.fn 30) [.t 202, .t 203], some (201, false)⟩, ⟨some 205, .not (.t 204), some (201, false)⟩, o 206 (.pick (.t 201) (cb true) (.t 205)), mt 207 206, ⟨some 208, .mv (.t 17), some (207, false)⟩, ⟨some 209, .bin .neq (.t 208) (ci 42), some (207, false)⟩, o 210 (.pick (.t 207) (cb true) (.t 209)), mt 211 210, ⟨some 212, .mv (.t 19), some (211, false)⟩, ⟨some 213, .bin .neq (.t 212) (ci 25), some (211, false)⟩, o 214 (.pick (.t 211) (cb true) (.t 213)), mt 215 214, ⟨some 216, .mv (.t 21), some (215, false)⟩, ⟨some 217, .bslice false 1 zl9 2 [(0, cs [114, 101, 109, 111, 118, 101]), (1, cs [109, 101, 97, 115, 117, 114, 101])], some (215, false)⟩, ⟨some 218, .call true true 0 (.fn 30) [.t 216, .t 217], some (215, false)⟩, ⟨some 219, .not (.t 218), some (215, false)⟩, o 220 (.pick (.t 215) (cb true) (.t 219)), mt 221 220, ⟨some 222, .mv (.t 23), some (221, false)⟩, ⟨some 223, .bslice false 1 zl8 1 [(0, ci 8)], some (221, false)⟩, ⟨some 224, .call true true 0 (.fn 38) [.t 222, .t 223], some (221, false)⟩, ⟨some 225, .not (.t 224), some (221, false)⟩, o 226 (.pick (.t 221) (cb true) (.t 225))] [226])
 (.cond (.t 226)
 (.seq (.ops [o 0 (.mv (cb false))] [0])
 (.ret))
 (.skip)))
 (.seq (.ops [o 228 (.call true false 0 (.fn 83) []), o 229 (.call true false 0 (.fn 84) []), o 230 (.call true false 0 (.fn 33) [.t 228, .t 229]), mt 227 230, o 231 (.ext (.t 227) 0), o 232 (.ext (.t 227) 1), mt 25 231, mt 26 232] [25, 26])
 (.seq (.ops [o 234 (.call true false 0 (.fn 83) []), o 235 (.call true false 0 (.fn 84) []), o 236 (.call true false 0 (.fn 34) [.t 234, .t 235]), mt 233 236, o 237 (.ext (.t 233) 0), o 238 (.ext (.t 233) 1), mt 27 237, mt 28 238] [25, 26, 27, 28])
 (.seq (.ops [o 240 (.bslice false 1 zl8 5 [(0, ci 0), (1, ci 0), (2, ci 1), (3, ci 1), (4, ci 2)]), o 241 (.call true false 0 (.fn 42) [.t 240, cn]), mt 239 241, o 242 (.ext (.t 239) 0), o 243 (.ext (.t 239) 1), mt 29 242, mt 30 243] [25, 26, 27, 28, 29, 30])
 (.seq (.ops [o 245 (.bslice false 1 zl8 5 [(0, ci 0), (1, ci 0), (2, ci 1), (3, ci 1), (4, ci 2)]), o 246 (.build zl6 [(0, 1, ci 2), (1, 1, ci 4)]), o 247 (.bslice false 2 zl6 1 [(0, .t 246)]), o 248 (.call true false 0 (.fn 42) [.t 245, .t 247]), mt 244 248, o 249 (.ext (.t 244) 0), o 250 (.ext (.t 244) 1), mt 31 249, mt 32 250] [25, 26, 27, 28, 29, 30, 31, 32])
 (.seq (.ops [o 252 (.call true false 0 (.fn 85) []), o 253 (.bslice false 1 zl8 3 [(0, ci 0), (1, ci 1), (2, ci 2)]), o 254 (.call true false 0 (.fn 48) [.t 252, .t 253]), mt 251 254, o 255 (.ext (.t 251) 0), o 256 (.ext (.t 251) 1), mt 33 255, mt 34 256] [25, 26, 27, 28, 29, 30, 31, 32, 33, 34])
 (.seq (.ops [o 258 (.call true false 0 (.fn 85) []), o 259 (.bslice false 1 zl8 3 [(0, ci 1), (1, ci 0), (2, ci 2)]), o 260 (.call true false 0 (.fn 48) [.t 258, .t 259]), mt 257 260, o 261 (.ext (.t 257) 0), o 262 (.ext (.t 257) 1), mt 35 261, mt 36 262] [25, 26, 27, 28, 29, 30, 31, 32, 33, 34, 35, 36])
 (.seq (.ops [o 264 (.call true false 0 (.fn 85) []), o 265 (.bslice false 1 zl8 3 [(0, ci 0), (1, ci 2), (2, ci 1)]), o 266 (.call true false 0 (.fn 48) [.t 264, .t 265]), mt 263 266, o 267 (.ext (.t 263) 0), o 268 (.ext (.t 263) 1), mt 37 267, mt 38 268] [25, 26, 27, 28, 29, 30, 31, 32, 33, 34, 35, 36, 37, 38])
 (.seq (.ops [o 270 (.call true false 0 (.fn 85) []), o 271 (.call true false 0 (.fn 59) [.t 270]), mt 269 271, o 272 (.ext (.t 269) 0), o 273 (.ext (.t 269) 1), o 274 (.ext (.t 269) 2), mt 39 272, mt 40 273, mt 41 274] [25, 26, 27, 28, 29, 30, 31, 32, 33, 34, 35, 36, 37, 38, 39, 40, 41])
 (.seq (.ops [o 276 (.call true false 0 (.fn 85) []), o 277 (.call true true 0 (.fn 60) [.t 276]), mt 275 277, o 278 (.ext (.t 275) 0), o 279 (.ext (.t 275) 1), mt 42 278, mt 43 279] [25, 26, 27, 28, 29, 30, 31, 32, 33, 34, 35, 36, 37, 38, 39, 40, 41, 42, 43])
 (.seq (.ops [o 281 (.call true false 0 (.fn 85) []), o 282 (.bslice false 1 zl8 3 [(0, ci 0), (1, ci 8), (2, ci 12)]), o 283 (.call true true 0 (.fn 50) [.t 281, .t 282]), mt 280 283, o 284 (.ext (.t 280) 0), o 285 (.ext (.t 280) 1), mt 44 284, mt 45 285] [25, 26, 27, 28, 29, 30, 31, 32, 33, 34, 35, 36, 37, 38, 39, 40, 41, 42, 43, 44, 45])
 (.seq (.ops [o 287 (.call true false 0 (.fn 83) []), o 288 (.call true false 0 (.fn 84) []), o 289 (.call true true 0 (.fn 63) [.t 287, .t 288]), mt 286 289, o 290 (.ext (.t 286) 0), o 291 (.ext (.t 286) 1), mt 46 290, mt 47 291] [25, 26, 27, 28, 29, 30, 31, 32, 33, 34, 35, 36, 37, 38, 39, 40, 41, 42, 43, 44, 45, 46, 47])
 (.seq (.ops [o 293 (.call true false 0 (.fn 83) []), mt 294 46, o 295 (.call true false 0 (.fn 64) [.t 293, .t 294]), mt 292 295, o 296 (.ext (.t 292) 0), o 297 (.ext (.t 292) 1), o 298 (.ext (.t 292) 2), mt 48 296, mt 49 297, mt 50 298] [25, 26, 27, 28, 29, 30, 31, 32, 33, 34, 35, 36, 37, 38, 39, 40, 41, 42, 43, 44, 45, 46, 47, 48, 49, 50])
 (.seq (.ops [mt 299 26, mt 300 28, o 301 (.bin .add (.t 299) (.t 300)), mt 302 30, o 303 (.bin .add (.t 301) (.t 302)), mt 304 32, o 305 (.bin .add (.t 303) (.t 304)), mt 306 34, o 307 (.bin .add (.t 305) (.t 306)), mt 308 36, o 309 (.bin .add (.t 307) (.t 308)), mt 310 38, o 311 (.bin .add (.t 309) (.t 310)), mt 312 41, o 313 (.bin .add (.t 311) (.t 312)), mt 314 43, o 315 (.bin .add (.t 313) (.t 314)), mt 316 45, o 317 (.bin .add (.t 315) (.t 316)), mt 318 47, o 319 (.bin .add (.t 317) (.t 318)), mt 320 50, o 321 (.bin .add (.t 319) (.t 320)), o 322 (.bin .eql (.t 321) (ci 0)), mt 323 322, ⟨some 324, .mv (.t 25), some (323, true)⟩, ⟨some 325, .build zl6 [(0, 1, ci 2), (1, 1, ci 4)], some (323, true)⟩, ⟨some 326, .bslice false 2 zl6 1 [(0, .t 325)], some (323, true)⟩, ⟨some 327, .call true true 0 (.fn 39) [.t 324, .t 326], some (323, true)⟩, o 328 (.pick (.t 323) (.t 327) (cb false)), mt 329 328, ⟨some 330, .mv (.t 27), some (329, true)⟩, ⟨some 331, .build zl6 [(0, 1, ci 6), (1, 1, ci 8)], some (329, true)⟩, ⟨some 332, .bslice false 2 zl6 1 [(0, .t 331)], some (329, true)⟩, ⟨some 333, .call true true 0 (.fn 39) [.t 330, .t 332], some (329, true)⟩, o 334 (.pick (.t 329) (.t 333) (cb false)), mt 335 334, ⟨some 336, .mv (.t 29), some (335, true)⟩, ⟨some 337, .bslice false 1 zl8 2 [(0, ci 2), (1, ci 4)], some (335, true)⟩, ⟨some 338, .call true true 0 (.fn 38) [.t 336, .t 337], some (335, true)⟩, o 339 (.pick (.t 335) (.t 338) (cb false)), mt 340 339, ⟨some 341, .mv (.t 31), some (340, true)⟩, ⟨some 342, .bslice false 1 zl8 1 [(0, ci 4)], some (340, true)⟩, ⟨some 343, .call true true 0 (.fn 38) [.t 341, .t 342], some (340, true)⟩, o 344 (.pick (.t 340) (.t 343) (cb false)), mt 345 344, ⟨some 346, .mv (.t 33), some (345, true)⟩, ⟨some 347, .bslice false 1 zl8 3 [(0, ci 0), (1, ci 8), (2, ci 12)], some (345, true)⟩, ⟨some 348, .call true true 0 (.fn 38) [.t 346, .t 347], some (345, true)⟩, o 349 (.pick (.t 345) (.t 348) (cb false)), mt 350 349, ⟨some 351, .mv (.t 35), some (350, true)⟩, ⟨some 352, .bslice false 1 zl8 3 [(0, ci 4), (1, ci 0), (2, ci 9)], some (350, true)⟩, ⟨some 353, .call true true 0 (.fn 38) [.t 351, .t 352], some (350, true)⟩, o 354 (.pick (.t 350) (.t 353) (cb false)), mt 355 354, ⟨some 356, .mv (.t 37), some (355, true)⟩, ⟨some 357, .bslice false 1 zl8 3 [(0, ci 0), (1, ci 8), (2, ci 5)], some (355, true)⟩, ⟨some 358, .call true true 0 (.fn 38) [.t 356, .t 357], some (355, true)⟩, o 359 (.pick (.t 355) (.t 358) (cb false)), mt 360 359, ⟨some 361, .mv (.t 39), some (360, true)⟩, ⟨some 362, .bslice false 1 zl8 3 [(0, ci 1), (1, ci 0), (2, ci 2)], some (360, true)⟩, ⟨some 363, .call true true 0 (.fn 38) [.t 361, .t 362], some (360, true)⟩, o 364 (.pick (.t 360) (.t 363) (cb false)), mt 365 364, ⟨some 366, .mv (.t 40), some (365, true)⟩, ⟨some 367, .bin .eql (.t 366) (ci 11), some (365, true)⟩, o 368 (.pick (.t 365) (.t 367) (cb false)), mt 369 368, ⟨some 370, .mv (.t 42), some (369, true)⟩, ⟨some 371, .bin .eql (.t 370) (ci 9), some (369, true)⟩, o 372 (.pick (.t 369) (.t 371) (cb false)), mt 373 372, ⟨some 374, .mv (.t 44), some (373, true)⟩, ⟨some 375, .bin .eql (.t 374) (ci 14), some (373, true)⟩, o 376 (.pick (.t 373) (.t 375) (cb false)), mt 377 376, ⟨some 378, .call true false 0 (.fn 85) [], some (377, true)⟩, ⟨some 379, .bslice false 1 zl8 3 [(0, ci 0), (1, ci 7), (2, ci 12)], some (377, true)⟩, ⟨some 380, .call true true 0 (.fn 58) [.t 378, .t 379], some (377, true)⟩, ⟨some 381, .bin .eql (.t 380) (ci 24), some (377, true)⟩, o 382 (.pick (.t 377) (.t 381) (cb false)), mt 383 382, ⟨some 384, .mv (.t 46), some (383, true)⟩, ⟨some 385, .bin .eql (.t 384) (cs [111, 112, 101, 110, 32, 49, 32, 48, 10, 101, 110, 116, 101, 114, 32, 50, 32, 48, 10, 105, 110, 115, 101, 114, 116, 32, 51, 32, 48, 10, 105, 110, 115, 101, 114, 116, 32, 51, 32, 49, 10, 108, 101, 97, 118, 101, 32, 52, 32, 48, 10, 99, 108, 111, 115, 101, 32, 53, 32, 48, 10, 97, 114, 109, 32, 54, 10, 115, 104, 111, 111, 116, 32, 56, 10]), some (383, true)⟩, o 386 (.pick (.t 383) (.t 385) (cb false)), mt 387 386, ⟨some 388, .mv (.t 48), some (387, true)⟩, ⟨some 389, .len 1 (.t 388), some (387, true)⟩, ⟨some 390, .bin .eql (.t 389) (ci 8), some (387, true)⟩, o 391 (.pick (.t 387) (.t 390) (cb false)), mt 392 391, ⟨some 393, .mv (.t 49), some (392, true)⟩, ⟨some 394, .bin .eql (.t 393) (ci 0), some (392, true)⟩, o 395 (.pick (.t 392) (.t 394) (cb false)), mt 0 395] [0])
 (.ret)))))))))))))))))))))))))))⟩

def c18 : AFunc := ⟨39, [.tmp 6, .tmp 7],
 .seq (.ops [o 3 (.box false (.t 0)), o 5 (.box true (.t 2)), o 6 (.mv (cn)), o 7 (.mv (ci 0))] [1, 3, 5])
 (.seq (.seq (.ops [o 13 (.ld true 5 (.t 3)), mt 14 1, o 15 (.call true true 0 (.fn 86) [.t 13, .t 14]), mt 8 15] [1, 3, 5, 8])
 (.seq (.ops [mt 16 8, o 17 (.bin .neq (.t 16) (ci 0))] [1, 3, 5, 8, 17])
 (.cond (.t 17)
 (.seq (.ops [mt 18 8, o 6 (.mv (cn)), mt 7 18] [6, 7])
 (.ret))
 (.skip))))
 (.seq (.seq (.ops [o 19 (.ld true 6 (.t 5)), o 20 (.ld true 5 (.t 3)), o 21 (.call true true 0 (.fn 87) [.t 19, .t 20]), mt 9 21] [1, 3, 5, 9])
 (.seq (.ops [mt 22 9, o 23 (.bin .neq (.t 22) (ci 0))] [1, 3, 5, 9, 23])
 (.cond (.t 23)
 (.seq (.ops [mt 24 9, o 6 (.mv (cn)), mt 7 24] [6, 7])
 (.ret))
 (.skip))))
 (.seq (.ops [o 26 (.ld true 5 (.t 3)), mt 27 1, o 28 (.call true false 0 (.fn 88) [.t 26, .t 27]), mt 25 28, o 29 (.ext (.t 25) 0), o 30 (.ext (.t 25) 1), o 31 (.ext (.t 25) 2), mt 10 29, mt 11 30, mt 12 31] [5, 10, 12])
 (.seq (.seq (.ops [mt 32 12, o 33 (.bin .neq (.t 32) (ci 0))] [5, 10, 12, 33])
 (.cond (.t 33)
 (.seq (.ops [mt 34 12, o 6 (.mv (cn)), mt 7 34] [6, 7])
 (.ret))
 (.skip)))
 (.seq (.opsd [(0, 1), (1, 1), (2, 1), (3, 0), (4, 1), (5, 1)] [mt 35 10, o 36 (.call true true 0 (.fn 89) [.t 35]), o 37 (.ld true 6 (.t 5)), o 38 (.call true false 0 (.fn 90) [.t 36, .t 37]), mt 6 38, o 7 (.mv (ci 0))] [6, 7])
 (.ret))))))⟩

def c19L0 : ACode :=
 .seq (.ops [o 22 (.bin .lss (.t 21) (.t 20))] [2, 3, 4, 14, 15, 19, 20, 21, 22])
 (.seq (.cond (.t 22)
 (.skip)
 (.exit 2))
 (.seq (.block 3 (.seq (.ops [o 23 (.iadr 2 (.t 19) (.t 21)), o 24 (.ld true 2 (.t 23)), o 7 (.alloc true 1 zl6), u (.st 2 (.t 7) (.t 24))] [2, 3, 4, 7, 14, 15, 19, 20, 21])
 (.opsd [(0, 1), (1, 1), (2, 1), (3, 1), (4, 1), (5, 1), (6, 1), (8, 4), (7, 3), (9, 1), (10, 0)] [mt 25 4, mt 26 4, o 27 (.fadr 2 (.t 3)), o 28 (.iadra 1 3 (.t 27) (.t 26)), o 29 (.ld false 1 (.t 28)), o 30 (.ld true 2 (.t 7)), o 31 (.bslice false 2 zl6 1 [(0, .t 30)]), o 33 (.fadr 2 (.t 3)), o 32 (.app 2 16 zl6 (.t 29) (.t 31)), o 34 (.iadra 1 3 (.t 33) (.t 25)), u (.st 1 (.t 34) (.t 32))] [2, 3, 4, 14, 15, 19, 20, 21])))
 (.ops [o 35 (.bin .add (.t 21) (ci 1)), mt 21 35] [2, 3, 4, 14, 15, 19, 20, 21])))
def c19L1 : ACode :=
 .seq (.ops [o 16 (.bin .lss (.t 15) (ci 3))] [2, 3, 14, 15, 16])
 (.seq (.cond (.t 16)
 (.skip)
 (.exit 0))
 (.seq (.block 1 (.seq (.ops [mt 17 15, o 18 (.idx false 1 3 (.t 14) (.t 15)), mt 4 17, mt 5 18] [2, 3, 4, 5, 14, 15])
 (.seq (.ops [mt 19 5, o 20 (.len 1 (.t 19)), o 21 (.mv (ci 0))] [2, 3, 4, 14, 15, 19, 20, 21])
 (.block 2 (.loop true [2, 3, 4, 14, 15, 19, 20, 21] c19L0)))))
 (.ops [o 36 (.bin .add (.t 15) (ci 1)), mt 15 36] [2, 3, 14, 15])))
def c19 : AFunc := ⟨38, [.cell 2 true 5],
 .seq (.ops [o 1 (.box false (.t 0)), o 2 (.alloc false 1 zl4)] [1, 2])
 (.seq (.ops [o 8 (.fadr 0 (.t 1)), o 9 (.ld false 1 (.t 8)), o 10 (.fadr 1 (.t 1)), o 11 (.ld false 1 (.t 10)), o 12 (.build zl4 [(0, 1, .t 9), (1, 1, .t 11)]), o 3 (.alloc false 1 zl4), u (.st 5 (.t 3) (.t 12))] [1, 2, 3])
 (.seq (.seq (.ops [o 13 (.fadr 2 (.t 1)), o 14 (.ld true 3 (.t 13)), o 15 (.mv (ci 0))] [2, 3, 14, 15])
 (.block 0 (.loop true [2, 3, 14, 15] c19L1)))
 (.seq (.ops [o 37 (.ld true 5 (.t 3)), u (.st 5 (.t 2) (.t 37))] [2])
 (.ret))))⟩

def c20L0 : ACode :=
 .seq (.ops [o 9 (.bin .lss (.t 8) (.t 7))] [3, 6, 7, 8, 9])
 (.seq (.cond (.t 9)
 (.skip)
 (.exit 0))
 (.seq (.block 1 (.seq (.ops [o 10 (.iadr 6 (.t 6) (.t 8)), o 11 (.ld true 6 (.t 10)), o 5 (.alloc true 1 zl2), u (.st 6 (.t 5) (.t 11))] [3, 5, 6, 7, 8])
 (.ops [mt 12 3, o 13 (.ld true 6 (.t 5)), o 14 (.bslice false 6 zl2 1 [(0, .t 13)]), o 15 (.app 6 56 zl2 (.t 12) (.t 14)), mt 3 15] [3, 6, 7, 8])))
 (.ops [o 16 (.bin .add (.t 8) (ci 1)), mt 8 16] [3, 6, 7, 8])))
def c20 : AFunc := ⟨18, [.tmp 2],
 .seq (.ops [o 2 (.nilown 6)] [0])
 (.seq (.ops [o 3 (.nilown 6)] [0, 3])
 (.seq (.seq (.ops [mt 6 0, o 7 (.len 1 (.t 6)), o 8 (.mv (ci 0))] [3, 6, 7, 8])
 (.block 0 (.loop true [3, 6, 7, 8] c20L0)))
 (.seq (.ops [mt 17 3, mt 2 17] [2])
 (.ret))))⟩

def c21L0 : ACode :=
 .seq (.ops [o 47 (.bin .lss (.t 46) (ci 10))] [2, 3, 4, 15, 16, 46, 47])
 (.seq (.cond (.t 47)
 (.skip)
 (.exit 0))
 (.seq (.block 1 (.seq (.ops [mt 48 46, mt 17 48] [2, 3, 4, 15, 16, 17, 46])
 (.seq (.ops [mt 49 2, mt 50 17, o 51 (.iadra 4 10 (.g 0) (.t 50)), o 52 (.fadr 0 (.t 51)), o 53 (.ld false 1 (.t 52)), mt 54 3, o 55 (.build zl2 [(0, 1, .t 49), (1, 1, .t 53), (2, 1, .t 54)]), o 18 (.alloc true 1 zl2), u (.st 6 (.t 18) (.t 55))] [2, 3, 4, 15, 16, 17, 18, 46])
 (.seq (.seq (.opsd [(0, 1), (1, 1), (2, 1), (3, 1), (4, 1), (5, 0), (6, 1), (7, 1), (8, 1), (9, 1), (10, 0), (11, 1), (12, 1)] [mt 56 17, o 57 (.iadra 4 10 (.g 0) (.t 56)), o 58 (.fadr 1 (.t 57)), o 59 (.ld false 1 (.t 58)), o 60 (.ld true 5 (.t 4)), o 61 (.call false true 0 (.val (.t 59)) [.t 60]), o 62 (.bin .eql (.t 61) (ci 1)), mt 63 62, ⟨some 64, .ld true 6 (.t 18), some (63, true)⟩, ⟨some 65, .bslice false 1 zl9 4 [(0, cs [111, 112, 101, 110]), (1, cs [99, 108, 111, 115, 101]), (2, cs [101, 110, 116, 101, 114]), (3, cs [108, 101, 97, 118, 101])], some (63, true)⟩, ⟨some 66, .call true true 0 (.fn 93) [.t 64, .t 65], some (63, true)⟩, ⟨some 67, .not (.t 66), some (63, true)⟩, o 68 (.pick (.t 63) (.t 67) (cb false))] [2, 3, 4, 15, 16, 18, 46, 68])
 (.cond (.t 68)
 (.ops [o 69 (.fadr 2 (.t 18)), u (.st 1 (.t 69) (ci 0))] [2, 3, 4, 15, 16, 18, 46])
 (.skip)))
 (.seq (.ops [o 70 (.ld true 6 (.t 18)), o 71 (.ld true 5 (.t 4)), o 72 (.call true true 0 (.fn 87) [.t 70, .t 71]), o 73 (.bin .eql (.t 72) (ci 0)), mt 74 73, ⟨some 75, .ld true 15 (.t 15), some (74, true)⟩, ⟨some 76, .ld true 6 (.t 18), some (74, true)⟩, ⟨some 77, .call true false 0 (.fn 90) [.t 75, .t 76], some (74, true)⟩, ⟨some 78, .len 1 (.t 77), some (74, true)⟩, ⟨some 79, .bin .eql (.t 78) (ci 0), some (74, true)⟩, o 80 (.pick (.t 74) (.t 79) (cb false))] [2, 3, 4, 15, 16, 18, 46, 80])
 (.cond (.t 80)
 (.ops [mt 81 16, o 82 (.fadr 1 (.t 18)), o 83 (.ld false 1 (.t 82)), o 84 (.bslice false 1 zl9 1 [(0, .t 83)]), o 85 (.app 1 16 zl9 (.t 81) (.t 84)), mt 16 85] [2, 3, 4, 15, 16, 46])
 (.skip)))))))
 (.ops [o 86 (.bin .add (.t 46) (ci 1)), mt 46 86] [2, 3, 4, 15, 16, 46])))
def c21 : AFunc := ⟨88, [.tmp 8, .tmp 9],
 .seq (.ops [o 4 (.box false (.t 0)), o 8 (.mv (cn)), o 9 (.mv (ci 0))] [1, 2, 3, 4])
 (.seq (.seq (.ops [o 19 (.ld true 5 (.t 4)), mt 20 1, o 21 (.call true true 0 (.fn 86) [.t 19, .t 20]), mt 10 21] [1, 2, 3, 4, 10])
 (.seq (.ops [mt 22 10, o 23 (.bin .neq (.t 22) (ci 0))] [1, 2, 3, 4, 10, 23])
 (.cond (.t 23)
 (.seq (.ops [mt 24 10, o 8 (.mv (cn)), mt 9 24] [8, 9])
 (.ret))
 (.skip))))
 (.seq (.seq (.ops [mt 25 2, o 26 (.call true true 0 (.fn 92) [.t 25, ci 0, ci 100000000]), mt 27 3, o 28 (.call true true 0 (.fn 92) [.t 27, ci 0, ci 7]), o 29 (.bslice false 1 zl8 2 [(0, .t 26), (1, .t 28)]), o 30 (.call true true 0 (.fn 91) [.t 29]), mt 11 30] [1, 2, 3, 4, 11])
 (.seq (.ops [mt 31 11, o 32 (.bin .neq (.t 31) (ci 0))] [1, 2, 3, 4, 11, 32])
 (.cond (.t 32)
 (.seq (.ops [mt 33 11, o 8 (.mv (cn)), mt 9 33] [8, 9])
 (.ret))
 (.skip))))
 (.seq (.ops [o 35 (.ld true 5 (.t 4)), mt 36 1, o 37 (.call true false 0 (.fn 88) [.t 35, .t 36]), mt 34 37, o 38 (.ext (.t 34) 0), o 39 (.ext (.t 34) 1), o 40 (.ext (.t 34) 2), mt 12 38, mt 13 39, mt 14 40] [2, 3, 4, 12, 14])
 (.seq (.seq (.ops [mt 41 14, o 42 (.bin .neq (.t 41) (ci 0))] [2, 3, 4, 12, 14, 42])
 (.cond (.t 42)
 (.seq (.ops [mt 43 14, o 8 (.mv (cn)), mt 9 43] [8, 9])
 (.ret))
 (.skip)))
 (.seq (.ops [mt 44 12, o 45 (.call true true 0 (.fn 89) [.t 44]), o 15 (.alloc true 1 zl1), u (.st 15 (.t 15) (.t 45))] [2, 3, 4, 15])
 (.seq (.ops [o 16 (.nilown 1)] [2, 3, 4, 15, 16])
 (.seq (.seq (.ops [o 46 (.mv (ci 0))] [2, 3, 4, 15, 16, 46])
 (.block 0 (.loop true [2, 3, 4, 15, 16, 46] c21L0)))
 (.seq (.ops [mt 87 16, mt 8 87, o 9 (.mv (ci 0))] [8, 9])
 (.ret)))))))))⟩

def c22L0 : ACode :=
 .seq (.seq (.ops [mt 19 6, mt 20 1, o 21 (.len 1 (.t 20)), o 22 (.bin .lss (.t 19) (.t 21))] [1, 2, 6, 22])
 (.cond (.t 22)
 (.skip)
 (.exit 0)))
 (.seq (.block 1 (.seq (.opsd [(0, 1), (1, 1), (2, 1), (3, 1), (4, 1), (5, 0), (6, 1)] [o 25 (.ld true 5 (.t 2)), mt 26 1, mt 27 6, o 28 (.iadr 6 (.t 26) (.t 27)), o 29 (.ld true 6 (.t 28)), o 30 (.call true true 0 (.fn 25) [.t 25, .t 29]), mt 7 30] [1, 2, 6, 7])
 (.seq (.ops [mt 31 7, o 32 (.bin .neq (.t 31) (ci 0))] [1, 2, 6, 7, 32])
 (.cond (.t 32)
 (.seq (.ops [mt 33 7, mt 4 33] [4])
 (.ret))
 (.skip)))))
 (.ops [mt 23 6, o 24 (.bin .add (.t 23) (ci 1)), mt 6 24] [1, 2, 6]))
def c22 : AFunc := ⟨34, [.tmp 4],
 .seq (.ops [o 2 (.box false (.t 0)), o 4 (.mv (ci 0))] [1, 2])
 (.seq (.seq (.ops [o 8 (.ld true 5 (.t 2)), o 9 (.call true true 0 (.fn 65) [.t 8]), mt 10 1, o 11 (.len 1 (.t 10)), o 12 (.bin .gtr (.t 11) (ci 1000)), o 13 (.call true true 0 (.fn 94) [.t 12, ci 5]), o 14 (.bslice false 1 zl8 2 [(0, .t 9), (1, .t 13)]), o 15 (.call true true 0 (.fn 23) [.t 14]), mt 5 15] [1, 2, 5])
 (.seq (.ops [mt 16 5, o 17 (.bin .neq (.t 16) (ci 0))] [1, 2, 5, 17])
 (.cond (.t 17)
 (.seq (.ops [mt 18 5, mt 4 18] [4])
 (.ret))
 (.skip))))
 (.seq (.seq (.ops [o 6 (.mv (ci 0))] [1, 2, 6])
 (.block 0 (.loop false [1, 2, 6] c22L0)))
 (.seq (.ops [o 4 (.mv (ci 0))] [4])
 (.ret))))⟩

def c23L0 : ACode :=
 .seq (.seq (.ops [mt 4 3, mt 5 0, o 6 (.len 1 (.t 5)), o 7 (.bin .lss (.t 4) (.t 6))] [0, 3, 7])
 (.cond (.t 7)
 (.skip)
 (.exit 0)))
 (.seq (.block 1 (.seq (.ops [mt 10 0, mt 11 3, o 12 (.iadr 1 (.t 10) (.t 11)), o 13 (.ld false 1 (.t 12)), o 14 (.bin .neq (.t 13) (ci 0))] [0, 3, 14])
 (.cond (.t 14)
 (.seq (.ops [mt 15 0, mt 16 3, o 17 (.iadr 1 (.t 15) (.t 16)), o 18 (.ld false 1 (.t 17)), mt 2 18] [2])
 (.ret))
 (.skip))))
 (.ops [mt 8 3, o 9 (.bin .add (.t 8) (ci 1)), mt 3 9] [0, 3]))
def c23 : AFunc := ⟨19, [.tmp 2],
 .seq (.ops [o 2 (.mv (ci 0))] [0])
 (.seq (.seq (.ops [o 3 (.mv (ci 0))] [0, 3])
 (.block 0 (.loop false [0, 3] c23L0)))
 (.seq (.ops [o 2 (.mv (ci 0))] [2])
 (.ret)))⟩

def c24 : AFunc := ⟨16, [.tmp 6],
 .seq (.ops [o 6 (.mv (ci 0))] [0, 1, 2])
 (.seq (.ops [mt 7 0, mt 8 1, o 9 (.bin .lss (.t 7) (.t 8)), mt 10 9, ⟨some 11, .mv (.t 0), some (10, false)⟩, ⟨some 12, .mv (.t 2), some (10, false)⟩, ⟨some 13, .bin .gtr (.t 11) (.t 12), some (10, false)⟩, o 14 (.pick (.t 10) (cb true) (.t 13)), o 15 (.call true true 0 (.fn 94) [.t 14, ci 3]), mt 6 15] [6])
 (.ret))⟩

def c25 : AFunc := ⟨50, [.tmp 4],
 .seq (.ops [o 2 (.box false (.t 0)), o 3 (.box true (.t 1)), o 4 (.mv (ci 0))] [2, 3])
 (.seq (.seq (.opsd [(0, 1), (1, 1), (2, 1), (3, 1), (4, 1), (5, 1), (6, 0), (7, 1), (8, 0), (9, 0), (10, 0), (11, 1)] [o 7 (.fadr 0 (.t 3)), o 8 (.ld false 1 (.t 7)), o 9 (.call true true 0 (.fn 24) [.t 8, ci 0, ci 100000000]), o 10 (.call true false 0 (.fn 95) []), o 11 (.fadr 1 (.t 3)), o 12 (.ld false 1 (.t 11)), o 13 (.call true true 0 (.fn 71) [.t 10, .t 12]), o 14 (.not (.t 13)), o 15 (.call true true 0 (.fn 94) [.t 14, ci 13]), o 16 (.bslice false 1 zl8 2 [(0, .t 9), (1, .t 15)]), o 17 (.call true true 0 (.fn 23) [.t 16]), mt 5 17] [2, 3, 5])
 (.seq (.ops [mt 18 5, o 19 (.bin .neq (.t 18) (ci 0))] [2, 3, 5, 19])
 (.cond (.t 19)
 (.seq (.ops [mt 20 5, mt 4 20] [4])
 (.ret))
 (.skip))))
 (.seq (.ops [o 6 (.mv (ci 0))] [2, 3, 6])
 (.seq (.seq (.ops [o 21 (.fadr 1 (.t 3)), o 22 (.ld false 1 (.t 21)), o 23 (.call true true 0 (.fn 96) [.t 22])] [2, 3, 6, 23])
 (.cond (.t 23)
 (.ops [o 24 (.fadr 0 (.t 2)), o 25 (.ld false 1 (.t 24)), o 26 (.bin .sub (.t 25) (ci 1)), mt 6 26] [3, 6])
 (.skip)))
 (.seq (.seq (.ops [o 27 (.fadr 1 (.t 3)), o 28 (.ld false 1 (.t 27)), o 29 (.call true true 0 (.fn 97) [.t 28])] [3, 6, 29])
 (.cond (.t 29)
 (.ops [o 6 (.mv (ci 1))] [3, 6])
 (.skip)))
 (.seq (.seq (.ops [o 30 (.fadr 2 (.t 3)), o 31 (.ld false 1 (.t 30)), o 32 (.bin .lss (.t 31) (ci 0)), mt 33 32, ⟨some 34, .fadr 2 (.t 3), some (33, false)⟩, ⟨some 35, .ld false 1 (.t 34), some (33, false)⟩, ⟨some 36, .mv (.t 6), some (33, false)⟩, ⟨some 37, .bin .gtr (.t 35) (.t 36), some (33, false)⟩, o 38 (.pick (.t 33) (cb true) (.t 37))] [3, 38])
 (.cond (.t 38)
 (.seq (.ops [o 4 (.mv (ci 10))] [4])
 (.ret))
 (.skip)))
 (.seq (.seq (.ops [o 39 (.fadr 1 (.t 3)), o 40 (.ld false 1 (.t 39)), o 41 (.bin .eql (.t 40) (cs [109, 101, 97, 115, 117, 114, 101]))] [3, 41])
 (.cond (.t 41)
 (.seq (.ops [o 42 (.fadr 3 (.t 3)), o 43 (.ld true 3 (.t 42)), o 44 (.call true true 0 (.fn 79) [.t 43]), mt 4 44] [4])
 (.ret))
 (.skip)))
 (.seq (.ops [o 45 (.fadr 3 (.t 3)), o 46 (.ld true 3 (.t 45)), o 47 (.build zl5 []), o 48 (.eqagg [0, 0, 0] true (.t 46) (.t 47)), o 49 (.call true true 0 (.fn 94) [.t 48, ci 1]), mt 4 49] [4])
 (.ret))))))))⟩

def c26 : AFunc := ⟨23, [.tmp 4],
 .seq (.ops [o 2 (.box false (.t 0)), o 4 (.mv (ci 0))] [1, 2])
 (.seq (.seq (.ops [o 8 (.ld true 5 (.t 2)), mt 9 1, o 10 (.call true true 0 (.fn 22) [.t 8, .t 9]), mt 5 10] [1, 2, 5])
 (.seq (.ops [mt 11 5, o 12 (.bin .neq (.t 11) (ci 0))] [1, 2, 5, 12])
 (.cond (.t 12)
 (.seq (.ops [mt 13 5, mt 4 13] [4])
 (.ret))
 (.skip))))
 (.seq (.ops [o 15 (.ld true 5 (.t 2)), mt 16 1, o 17 (.call true false 0 (.fn 76) [.t 15, .t 16]), mt 14 17, o 18 (.ext (.t 14) 0), o 19 (.ext (.t 14) 1), mt 6 18, mt 7 19] [7])
 (.seq (.ops [mt 20 7, o 21 (.bin .neq (.t 20) (ci (-1))), o 22 (.call true true 0 (.fn 94) [.t 21, ci 21]), mt 4 22] [4])
 (.ret))))⟩

def c27 : AFunc := ⟨184, [.tmp 4],
 .seq (.ops [o 2 (.box true (.t 0)), o 3 (.box true (.t 1)), o 4 (.mv (cn))] [2, 3])
 (.seq (.ops [o 5 (.nilown 1)] [2, 3, 5])
 (.seq (.seq (.ops [o 7 (.fadr 0 (.t 3)), o 8 (.ld false 1 (.t 7)), o 9 (.fadr 0 (.t 2)), o 10 (.ld false 1 (.t 9)), o 11 (.bin .lss (.t 8) (.t 10))] [2, 3, 5, 11])
 (.cond (.t 11)
 (.ops [mt 12 5, o 13 (.bslice false 1 zl9 1 [(0, cs [116, 105, 99, 107])]), o 14 (.app 1 16 zl9 (.t 12) (.t 13)), mt 5 14] [2, 3, 5])
 (.skip)))
 (.seq (.ops [o 6 (.mv (cb false))] [2, 3, 5, 6])
 (.seq (.seq (.ops [o 15 (.fadr 1 (.t 3)), o 16 (.ld false 1 (.t 15))] [2, 3, 5, 6, 16])
 (.block 0 (.seq (.ops [o 18 (.bin .eql (.t 16) (cs [111, 112, 101, 110])), mt 17 18] [2, 3, 5, 6, 16, 17])
 (.cond (.t 17)
 (.ops [o 19 (.fadr 2 (.t 3)), o 20 (.ld false 1 (.t 19)), o 21 (.fadr 1 (.t 2)), o 22 (.iadra 1 8 (.t 21) (.t 20)), o 23 (.ld false 1 (.t 22)), mt 6 23] [2, 3, 5, 6])
 (.seq (.ops [o 25 (.bin .eql (.t 16) (cs [99, 108, 111, 115, 101])), mt 24 25] [2, 3, 5, 6, 16, 24])
 (.cond (.t 24)
 (.ops [o 26 (.fadr 2 (.t 3)), o 27 (.ld false 1 (.t 26)), o 28 (.fadr 1 (.t 2)), o 29 (.iadra 1 8 (.t 28) (.t 27)), o 30 (.ld false 1 (.t 29)), o 31 (.not (.t 30)), mt 6 31] [2, 3, 5, 6])
 (.seq (.ops [o 33 (.bin .eql (.t 16) (cs [105, 110, 115, 101, 114, 116])), mt 32 33] [2, 3, 5, 6, 16, 32])
 (.cond (.t 32)
 (.ops [o 34 (.fadr 2 (.t 3)), o 35 (.ld false 1 (.t 34)), o 36 (.fadr 9 (.t 2)), o 37 (.iadra 1 2 (.t 36) (.t 35)), o 38 (.ld false 1 (.t 37)), mt 6 38] [2, 3, 5, 6])
 (.seq (.ops [o 40 (.bin .eql (.t 16) (cs [114, 101, 109, 111, 118, 101])), mt 39 40] [2, 3, 5, 6, 16, 39])
 (.cond (.t 39)
 (.ops [o 41 (.fadr 2 (.t 3)), o 42 (.ld false 1 (.t 41)), o 43 (.fadr 9 (.t 2)), o 44 (.iadra 1 2 (.t 43) (.t 42)), o 45 (.ld false 1 (.t 44)), o 46 (.not (.t 45)), mt 6 46] [2, 3, 5, 6])
 (.seq (.ops [o 48 (.bin .eql (.t 16) (cs [108, 101, 97, 118, 101])), mt 47 48] [2, 3, 5, 6, 16, 47])
 (.cond (.t 47)
 (.ops [o 49 (.fadr 11 (.t 2)), o 50 (.ld false 1 (.t 49)), o 51 (.bin .eql (.t 50) (ci 0)), mt 6 51] [2, 3, 5, 6])
 (.seq (.ops [o 53 (.bin .eql (.t 16) (cs [101, 110, 116, 101, 114])), mt 52 53] [2, 3, 5, 6, 16, 52])
 (.cond (.t 52)
 (.ops [o 54 (.fadr 11 (.t 2)), o 55 (.ld false 1 (.t 54)), o 56 (.bin .eql (.t 55) (ci 100)), mt 6 56] [2, 3, 5, 6])
 (.seq (.ops [o 58 (.bin .eql (.t 16) (cs [97, 114, 109])), mt 57 58] [2, 3, 5, 6, 16, 57])
 (.cond (.t 57)
 (.ops [o 59 (.fadr 12 (.t 2)), o 60 (.ld false 1 (.t 59)), mt 6 60] [2, 3, 5, 6])
 (.seq (.seq (.ops [o 62 (.bin .eql (.t 16) (cs [100, 105, 115, 97, 114, 109])), mt 61 62] [2, 3, 5, 6, 16, 61])
 (.cond (.t 61)
 (.skip)
 (.ops [o 63 (.bin .eql (.t 16) (cs [115, 104, 111, 111, 116])), mt 61 63] [2, 3, 5, 6, 16, 61])))
 (.cond (.t 61)
 (.ops [o 64 (.fadr 12 (.t 2)), o 65 (.ld false 1 (.t 64)), o 66 (.not (.t 65)), mt 6 66] [2, 3, 5, 6])
 (.seq (.ops [o 68 (.bin .eql (.t 16) (cs [109, 101, 97, 115, 117, 114, 101])), mt 67 68] [2, 3, 5, 6, 67])
 (.cond (.t 67)
 (.ops [o 69 (.fadr 13 (.t 2)), o 70 (.ld false 1 (.t 69)), o 71 (.bin .eql (.t 70) (ci (-1))), mt 6 71] [2, 3, 5, 6])
 (.skip)))))))))))))))))))))
 (.seq (.seq (.ops [mt 72 6] [2, 3, 5, 72])
 (.cond (.t 72)
 (.ops [mt 73 5, o 74 (.bslice false 1 zl9 1 [(0, cs [115, 116, 97, 116, 101])]), o 75 (.app 1 16 zl9 (.t 73) (.t 74)), mt 5 75] [2, 3, 5])
 (.skip)))
 (.seq (.seq (.ops [o 76 (.fadr 12 (.t 2)), o 77 (.ld false 1 (.t 76)), mt 78 77, ⟨some 79, .fadr 1 (.t 3), some (78, true)⟩, ⟨some 80, .ld false 1 (.t 79), some (78, true)⟩, ⟨some 81, .bin .eql (.t 80) (cs [111, 112, 101, 110]), some (78, true)⟩, ⟨some 82, .mv (.t 81), some (78, true)⟩, ⟨some 83, .fadr 1 (.t 3), some (82, false)⟩, ⟨some 84, .ld false 1 (.t 83), some (82, false)⟩, ⟨some 85, .bin .eql (.t 84) (cs [114, 101, 109, 111, 118, 101]), some (82, false)⟩, ⟨some 86, .pick (.t 82) (cb true) (.t 85), some (78, true)⟩, ⟨some 87, .mv (.t 86), some (78, true)⟩, ⟨some 88, .fadr 1 (.t 3), some (87, false)⟩, ⟨some 89, .ld false 1 (.t 88), some (87, false)⟩, ⟨some 90, .bin .eql (.t 89) (cs [101, 110, 116, 101, 114]), some (87, false)⟩, ⟨some 91, .pick (.t 87) (cb true) (.t 90), some (78, true)⟩, o 92 (.pick (.t 78) (.t 91) (cb false))] [2, 3, 5, 92])
 (.cond (.t 92)
 (.ops [mt 93 5, o 94 (.bslice false 1 zl9 1 [(0, cs [97, 114, 109, 101, 100])]), o 95 (.app 1 16 zl9 (.t 93) (.t 94)), mt 5 95] [2, 3, 5])
 (.skip)))
 (.seq (.seq (.ops [o 96 (.fadr 1 (.t 3)), o 97 (.ld false 1 (.t 96)), o 98 (.bin .eql (.t 97) (cs [101, 110, 116, 101, 114])), mt 99 98, ⟨some 100, .fadr 1 (.t 3), some (99, false)⟩, ⟨some 101, .ld false 1 (.t 100), some (99, false)⟩, ⟨some 102, .bin .eql (.t 101) (cs [108, 101, 97, 118, 101]), some (99, false)⟩, o 103 (.pick (.t 99) (cb true) (.t 102)), mt 104 103, ⟨some 105, .fadr 2 (.t 3), some (104, true)⟩, ⟨some 106, .ld false 1 (.t 105), some (104, true)⟩, ⟨some 107, .fadr 1 (.t 2), some (104, true)⟩, ⟨some 108, .iadra 1 8 (.t 107) (.t 106), some (104, true)⟩, ⟨some 109, .ld false 1 (.t 108), some (104, true)⟩, ⟨some 110, .not (.t 109), some (104, true)⟩, o 111 (.pick (.t 104) (.t 110) (cb false)), mt 112 111, ⟨some 113, .fadr 1 (.t 3), some (112, false)⟩, ⟨some 114, .ld false 1 (.t 113), some (112, false)⟩, ⟨some 115, .bin .eql (.t 114) (cs [97, 114, 109]), some (112, false)⟩, ⟨some 116, .mv (.t 115), some (112, false)⟩, ⟨some 117, .fadr 1 (.t 2), some (116, true)⟩, ⟨some 118, .ld true 8 (.t 117), some (116, true)⟩, ⟨some 119, .build [.p (.bool false), .p (.bool false), .p (.bool false), .p (.bool false), .p (.bool false), .p (.bool false), .p (.bool false), .p (.bool false)] [], some (116, true)⟩, ⟨some 120, .eqagg [2, 2, 2, 2, 2, 2, 2, 2] true (.t 118) (.t 119), some (116, true)⟩, ⟨some 121, .pick (.t 116) (.t 120) (cb false), some (112, false)⟩, o 122 (.pick (.t 112) (cb true) (.t 121))] [2, 3, 5, 122])
 (.cond (.t 122)
 (.ops [mt 123 5, o 124 (.bslice false 1 zl9 1 [(0, cs [100, 111, 111, 114])]), o 125 (.app 1 16 zl9 (.t 123) (.t 124)), mt 5 125] [2, 3, 5])
 (.skip)))
 (.seq (.seq (.ops [o 126 (.fadr 1 (.t 3)), o 127 (.ld false 1 (.t 126)), o 128 (.bin .eql (.t 127) (cs [97, 114, 109])), mt 129 128, ⟨some 130, .fadr 11 (.t 2), some (129, true)⟩, ⟨some 131, .ld false 1 (.t 130), some (129, true)⟩, ⟨some 132, .bin .gtr (.t 131) (ci 0), some (129, true)⟩, o 133 (.pick (.t 129) (.t 132) (cb false))] [2, 3, 5, 133])
 (.cond (.t 133)
 (.ops [mt 134 5, o 135 (.bslice false 1 zl9 1 [(0, cs [112, 101, 111, 112, 108, 101])]), o 136 (.app 1 16 zl9 (.t 134) (.t 135)), mt 5 136] [2, 3, 5])
 (.skip)))
 (.seq (.seq (.ops [o 137 (.fadr 1 (.t 3)), o 138 (.ld false 1 (.t 137)), o 139 (.bin .eql (.t 138) (cs [97, 114, 109])), mt 140 139, ⟨some 141, .fadr 9 (.t 2), some (140, true)⟩, ⟨some 142, .iadra 1 2 (.t 141) (ci 0), some (140, true)⟩, ⟨some 143, .ld false 1 (.t 142), some (140, true)⟩, ⟨some 144, .not (.t 143), some (140, true)⟩, ⟨some 145, .mv (.t 144), some (140, true)⟩, ⟨some 146, .fadr 9 (.t 2), some (145, false)⟩, ⟨some 147, .iadra 1 2 (.t 146) (ci 1), some (145, false)⟩, ⟨some 148, .ld false 1 (.t 147), some (145, false)⟩, ⟨some 149, .not (.t 148), some (145, false)⟩, ⟨some 150, .pick (.t 145) (cb true) (.t 149), some (140, true)⟩, o 151 (.pick (.t 140) (.t 150) (cb false))] [2, 3, 5, 151])
 (.cond (.t 151)
 (.ops [mt 152 5, o 153 (.bslice false 1 zl9 1 [(0, cs [107, 101, 121])]), o 154 (.app 1 16 zl9 (.t 152) (.t 153)), mt 5 154] [2, 3, 5])
 (.skip)))
 (.seq (.seq (.ops [o 155 (.fadr 1 (.t 3)), o 156 (.ld false 1 (.t 155)), o 157 (.bin .eql (.t 156) (cs [111, 112, 101, 110])), mt 158 157, ⟨some 159, .fadr 1 (.t 3), some (158, false)⟩, ⟨some 160, .ld false 1 (.t 159), some (158, false)⟩, ⟨some 161, .bin .eql (.t 160) (cs [101, 110, 116, 101, 114]), some (158, false)⟩, o 162 (.pick (.t 158) (cb true) (.t 161)), mt 163 162, ⟨some 164, .fadr 1 (.t 3), some (163, false)⟩, ⟨some 165, .ld false 1 (.t 164), some (163, false)⟩, ⟨some 166, .bin .eql (.t 165) (cs [97, 114, 109]), some (163, false)⟩, o 167 (.pick (.t 163) (cb true) (.t 166)), mt 168 167, ⟨some 169, .fadr 14 (.t 2), some (168, true)⟩, ⟨some 170, .ld false 1 (.t 169), some (168, true)⟩, ⟨some 171, .bin .eql (.t 170) (ci (-1)), some (168, true)⟩, ⟨some 172, .mv (.t 171), some (168, true)⟩, ⟨some 173, .fadr 14 (.t 2), some (172, false)⟩, ⟨some 174, .ld false 1 (.t 173), some (172, false)⟩, ⟨some 175, .fadr 0 (.t 3), some (172, false)⟩, ⟨some 176, .ld false 1 (.t 175), some (172, false)⟩, ⟨some 177, .bin .gtr (.t 174) (.t 176), some (172, false)⟩, ⟨some 178, .pick (.t 172) (cb true) (.t 177), some (168, true)⟩, o 179 (.pick (.t 168) (.t 178) (cb false))] [5, 179])
 (.cond (.t 179)
 (.ops [mt 180 5, o 181 (.bslice false 1 zl9 1 [(0, cs [119, 97, 105, 116])]), o 182 (.app 1 16 zl9 (.t 180) (.t 181)), mt 5 182] [5])
 (.skip)))
 (.seq (.ops [mt 183 5, mt 4 183] [4])
 (.ret))))))))))))⟩

def c28 : AFunc := ⟨23, [.cell 4 true 15],
 .seq (.ops [o 2 (.box false (.t 0)), o 4 (.alloc true 1 zl1)] [1, 2, 4])
 (.seq (.ops [o 8 (.ld true 5 (.t 2)), mt 9 1, o 10 (.call true false 0 (.fn 76) [.t 8, .t 9]), mt 7 10, o 11 (.ext (.t 7) 0), o 12 (.ext (.t 7) 1), mt 5 11, mt 6 12] [4, 5])
 (.seq (.seq (.ops [mt 13 5, o 14 (.len 1 (.t 13)), o 15 (.bin .eql (.t 14) (ci 0))] [4, 5, 15])
 (.cond (.t 15)
 (.seq (.ops [o 16 (.call true true 0 (.fn 98) []), u (.st 15 (.t 4) (.t 16))] [4])
 (.ret))
 (.skip)))
 (.seq (.ops [mt 17 5, mt 18 5, o 19 (.len 1 (.t 18)), o 20 (.bin .sub (.t 19) (ci 1)), o 21 (.iadr 15 (.t 17) (.t 20)), o 22 (.ld true 15 (.t 21)), u (.st 15 (.t 4) (.t 22))] [4])
 (.ret))))⟩

def c30L0 : ACode :=
 .seq (.seq (.ops [mt 11 5, mt 12 0, o 13 (.len 1 (.t 12)), o 14 (.bin .lss (.t 11) (.t 13))] [0, 1, 5, 14])
 (.cond (.t 14)
 (.skip)
 (.exit 0)))
 (.seq (.block 1 (.seq (.opsd [(0, 1), (1, 1), (2, 1), (3, 1), (4, 1), (5, 1), (6, 1), (7, 1), (8, 1)] [mt 17 0, mt 18 5, o 19 (.iadr 1 (.t 17) (.t 18)), o 20 (.ld false 1 (.t 19)), mt 21 1, mt 22 5, o 23 (.iadr 1 (.t 21) (.t 22)), o 24 (.ld false 1 (.t 23)), o 25 (.bin .neq (.t 20) (.t 24))] [0, 1, 5, 25])
 (.cond (.t 25)
 (.seq (.ops [o 4 (.mv (cb false))] [4])
 (.ret))
 (.skip))))
 (.ops [mt 15 5, o 16 (.bin .add (.t 15) (ci 1)), mt 5 16] [0, 1, 5]))
def c30 : AFunc := ⟨26, [.tmp 4],
 .seq (.ops [o 4 (.mv (cb false))] [0, 1])
 (.seq (.seq (.ops [mt 6 0, o 7 (.len 1 (.t 6)), mt 8 1, o 9 (.len 1 (.t 8)), o 10 (.bin .neq (.t 7) (.t 9))] [0, 1, 10])
 (.cond (.t 10)
 (.seq (.ops [o 4 (.mv (cb false))] [4])
 (.ret))
 (.skip)))
 (.seq (.seq (.ops [o 5 (.mv (ci 0))] [0, 1, 5])
 (.block 0 (.loop false [0, 1, 5] c30L0)))
 (.seq (.ops [o 4 (.mv (cb true))] [4])
 (.ret))))⟩

def c31 : AFunc := ⟨22, [.tmp 4, .tmp 5],
 .seq (.ops [o 2 (.box false (.t 0)), o 4 (.mv (ci 0)), o 5 (.mv (ci 0))] [1, 2])
 (.seq (.ops [o 10 (.ld true 5 (.t 2)), mt 11 1, o 12 (.call true false 0 (.fn 88) [.t 10, .t 11]), mt 9 12, o 13 (.ext (.t 9) 0), o 14 (.ext (.t 9) 1), o 15 (.ext (.t 9) 2), mt 6 13, mt 7 14, mt 8 15] [6, 8])
 (.seq (.seq (.ops [mt 16 8, o 17 (.bin .neq (.t 16) (ci 0))] [6, 8, 17])
 (.cond (.t 17)
 (.seq (.ops [mt 18 8, o 4 (.mv (ci 0)), mt 5 18] [4, 5])
 (.ret))
 (.skip)))
 (.seq (.ops [mt 19 6, o 20 (.call true true 0 (.fn 89) [.t 19]), o 21 (.fld false 14 1 (.t 20)), mt 4 21, o 5 (.mv (ci 0))] [4, 5])
 (.ret))))⟩

def c32L0 : ACode :=
 .seq (.ops [o 25 (.bin .lss (.t 24) (.t 23))] [9, 22, 23, 24, 25])
 (.seq (.cond (.t 25)
 (.skip)
 (.exit 0))
 (.seq (.block 1 (.seq (.ops [o 26 (.iadr 6 (.t 22) (.t 24)), o 27 (.ld true 6 (.t 26)), o 11 (.alloc true 1 zl2), u (.st 6 (.t 11) (.t 27))] [9, 11, 22, 23, 24])
 (.seq (.ops [o 28 (.ld true 6 (.t 11)), o 29 (.fadr 0 (.t 11)), o 30 (.ld false 1 (.t 29)), o 31 (.build zl2 [(0, 1, .t 30), (1, 1, cs [115, 104, 111, 111, 116])]), o 32 (.eqagg [0, 1, 0, 0, 0, 0] false (.t 28) (.t 31))] [9, 11, 22, 23, 24, 32])
 (.cond (.t 32)
 (.ops [mt 33 9, o 34 (.fadr 0 (.t 11)), o 35 (.ld false 1 (.t 34)), o 36 (.bslice false 1 zl8 1 [(0, .t 35)]), o 37 (.app 1 8 zl8 (.t 33) (.t 36)), mt 9 37] [9, 22, 23, 24])
 (.skip)))))
 (.ops [o 38 (.bin .add (.t 24) (ci 1)), mt 24 38] [9, 22, 23, 24])))
def c32 : AFunc := ⟨40, [.tmp 4, .tmp 5],
 .seq (.ops [o 2 (.box false (.t 0)), o 4 (.mv (cn)), o 5 (.mv (ci 0))] [1, 2])
 (.seq (.seq (.ops [o 13 (.ld true 5 (.t 2)), mt 14 1, o 15 (.call true false 0 (.fn 88) [.t 13, .t 14]), mt 12 15, o 16 (.ext (.t 12) 0), o 17 (.ext (.t 12) 1), o 18 (.ext (.t 12) 2), mt 6 16, mt 7 17, mt 8 18] [1, 8])
 (.seq (.ops [mt 19 8, o 20 (.bin .neq (.t 19) (ci 0))] [1, 8, 20])
 (.cond (.t 20)
 (.seq (.ops [mt 21 8, o 4 (.mv (cn)), mt 5 21] [4, 5])
 (.ret))
 (.skip))))
 (.seq (.ops [o 9 (.nilown 1)] [1, 9])
 (.seq (.seq (.ops [mt 22 1, o 23 (.len 1 (.t 22)), o 24 (.mv (ci 0))] [9, 22, 23, 24])
 (.block 0 (.loop true [9, 22, 23, 24] c32L0)))
 (.seq (.ops [mt 39 9, mt 4 39, o 5 (.mv (ci 0))] [4, 5])
 (.ret)))))⟩

def c33 : AFunc := ⟨11, [.tmp 4, .tmp 5],
 .seq (.ops [o 2 (.box false (.t 0)), o 4 (.mv (cn)), o 5 (.mv (ci 0))] [1, 2])
 (.seq (.ops [o 6 (.ld true 5 (.t 2)), mt 7 1, o 8 (.call true false 0 (.fn 99) [.t 6, .t 7, cf 100]), o 9 (.ext (.t 8) 0), o 10 (.ext (.t 8) 1), mt 4 9, mt 5 10] [4, 5])
 (.ret))⟩

def c34 : AFunc := ⟨11, [.tmp 4, .tmp 5],
 .seq (.ops [o 2 (.box false (.t 0)), o 4 (.mv (cn)), o 5 (.mv (ci 0))] [1, 2])
 (.seq (.ops [o 6 (.ld true 5 (.t 2)), mt 7 1, o 8 (.call true false 0 (.fn 99) [.t 6, .t 7, cf 101]), o 9 (.ext (.t 8) 0), o 10 (.ext (.t 8) 1), mt 4 9, mt 5 10] [4, 5])
 (.ret))⟩

def c38L0 : ACode :=
 .seq (.seq (.ops [mt 11 5, mt 12 0, o 13 (.len 1 (.t 12)), o 14 (.bin .lss (.t 11) (.t 13))] [0, 1, 5, 14])
 (.cond (.t 14)
 (.skip)
 (.exit 0)))
 (.seq (.block 1 (.seq (.opsd [(0, 1), (1, 1), (2, 1), (3, 1), (4, 1), (5, 1), (6, 1), (7, 1), (8, 1)] [mt 17 0, mt 18 5, o 19 (.iadr 1 (.t 17) (.t 18)), o 20 (.ld false 1 (.t 19)), mt 21 1, mt 22 5, o 23 (.iadr 1 (.t 21) (.t 22)), o 24 (.ld false 1 (.t 23)), o 25 (.bin .neq (.t 20) (.t 24))] [0, 1, 5, 25])
 (.cond (.t 25)
 (.seq (.ops [o 4 (.mv (cb false))] [4])
 (.ret))
 (.skip))))
 (.ops [mt 15 5, o 16 (.bin .add (.t 15) (ci 1)), mt 5 16] [0, 1, 5]))
def c38 : AFunc := ⟨26, [.tmp 4],
 .seq (.ops [o 4 (.mv (cb false))] [0, 1])
 (.seq (.seq (.ops [mt 6 0, o 7 (.len 1 (.t 6)), mt 8 1, o 9 (.len 1 (.t 8)), o 10 (.bin .neq (.t 7) (.t 9))] [0, 1, 10])
 (.cond (.t 10)
 (.seq (.ops [o 4 (.mv (cb false))] [4])
 (.ret))
 (.skip)))
 (.seq (.seq (.ops [o 5 (.mv (ci 0))] [0, 1, 5])
 (.block 0 (.loop false [0, 1, 5] c38L0)))
 (.seq (.ops [o 4 (.mv (cb true))] [4])
 (.ret))))⟩

def c39L0 : ACode :=
 .seq (.seq (.ops [mt 11 5, mt 12 0, o 13 (.len 1 (.t 12)), o 14 (.bin .lss (.t 11) (.t 13))] [0, 1, 5, 14])
 (.cond (.t 14)
 (.skip)
 (.exit 0)))
 (.seq (.block 1 (.seq (.opsd [(0, 1), (1, 1), (2, 1), (3, 1), (4, 1), (5, 1), (6, 1), (7, 1), (8, 1)] [mt 17 0, mt 18 5, o 19 (.iadr 2 (.t 17) (.t 18)), o 20 (.ld true 2 (.t 19)), mt 21 1, mt 22 5, o 23 (.iadr 2 (.t 21) (.t 22)), o 24 (.ld true 2 (.t 23)), o 25 (.eqagg [0, 0] true (.t 20) (.t 24))] [0, 1, 5, 25])
 (.cond (.t 25)
 (.seq (.ops [o 4 (.mv (cb false))] [4])
 (.ret))
 (.skip))))
 (.ops [mt 15 5, o 16 (.bin .add (.t 15) (ci 1)), mt 5 16] [0, 1, 5]))
def c39 : AFunc := ⟨26, [.tmp 4],
 .seq (.ops [o 4 (.mv (cb false))] [0, 1])
 (.seq (.seq (.ops [mt 6 0, o 7 (.len 1 (.t 6)), mt 8 1, o 9 (.len 1 (.t 8)), o 10 (.bin .neq (.t 7) (.t 9))] [0, 1, 10])
 (.cond (.t 10)
 (.seq (.ops [o 4 (.mv (cb false))] [4])
 (.ret))
 (.skip)))
 (.seq (.seq (.ops [o 5 (.mv (ci 0))] [0, 1, 5])
 (.block 0 (.loop false [0, 1, 5] c39L0)))
 (.seq (.ops [o 4 (.mv (cb true))] [4])
 (.ret))))⟩

def c42L0 : ACode :=
 .seq (.ops [o 35 (.bin .lss (.t 34) (.t 33))] [0, 1, 8, 32, 33, 34, 35])
 (.seq (.cond (.t 35)
 (.skip)
 (.exit 0))
 (.seq (.block 1 (.seq (.ops [o 36 (.iadr 2 (.t 32) (.t 34)), o 37 (.ld true 2 (.t 36)), o 10 (.alloc true 1 zl6), u (.st 2 (.t 10) (.t 37))] [0, 1, 8, 10, 32, 33, 34])
 (.seq (.seq (.opsd [(0, 1), (1, 1), (2, 1), (3, 1), (4, 1), (5, 1), (6, 1), (7, 1), (8, 1), (9, 1), (10, 1), (11, 1), (12, 1), (13, 1), (14, 1), (15, 1), (16, 1), (17, 1), (18, 1), (19, 1), (20, 0), (21, 0), (22, 0), (23, 1)] [o 38 (.fadr 0 (.t 10)), o 39 (.ld false 1 (.t 38)), o 40 (.bin .lss (.t 39) (ci 0)), mt 41 40, ⟨some 42, .fadr 0 (.t 10), some (41, false)⟩, ⟨some 43, .ld false 1 (.t 42), some (41, false)⟩, ⟨some 44, .fadr 1 (.t 10), some (41, false)⟩, ⟨some 45, .ld false 1 (.t 44), some (41, false)⟩, ⟨some 46, .bin .geq (.t 43) (.t 45), some (41, false)⟩, o 47 (.pick (.t 41) (cb true) (.t 46)), mt 48 47, ⟨some 49, .fadr 1 (.t 10), some (48, false)⟩, ⟨some 50, .ld false 1 (.t 49), some (48, false)⟩, ⟨some 51, .bin .gtr (.t 50) (ci 100000000), some (48, false)⟩, o 52 (.pick (.t 48) (cb true) (.t 51)), o 53 (.call true true 0 (.fn 104) [.t 52, ci 14]), o 54 (.fadr 0 (.t 10)), o 55 (.ld false 1 (.t 54)), mt 56 8, o 57 (.bin .lss (.t 55) (.t 56)), o 58 (.call true true 0 (.fn 104) [.t 57, ci 15]), o 59 (.bslice false 1 zl8 2 [(0, .t 53), (1, .t 58)]), o 60 (.call true true 0 (.fn 91) [.t 59]), mt 11 60] [0, 1, 10, 11, 32, 33, 34])
 (.seq (.ops [mt 61 11, o 62 (.bin .neq (.t 61) (ci 0))] [0, 1, 10, 11, 32, 33, 34, 62])
 (.cond (.t 62)
 (.seq (.ops [mt 63 11, o 4 (.mv (cn)), mt 5 63] [4, 5])
 (.ret))
 (.skip))))
 (.ops [o 64 (.fadr 1 (.t 10)), o 65 (.ld false 1 (.t 64)), mt 8 65] [0, 1, 8, 32, 33, 34]))))
 (.ops [o 66 (.bin .add (.t 34) (ci 1)), mt 34 66] [0, 1, 8, 32, 33, 34])))
def c42L1 : ACode :=
 .seq (.seq (.ops [o 67 (.ld false 1 (.t 13)), mt 68 0, o 69 (.len 1 (.t 68)), o 70 (.bin .lss (.t 67) (.t 69))] [0, 1, 12, 13, 70])
 (.cond (.t 70)
 (.skip)
 (.exit 2)))
 (.seq (.block 3 (.seq (.ops [o 73 (.mkclo 106 [] [.t 13]), mt 14 73] [0, 1, 12, 13, 14])
 (.seq (.opsd [(0, 1), (1, 1), (2, 1), (3, 1), (4, 1), (5, 1), (6, 1), (7, 1), (8, 1), (9, 1), (10, 1), (11, 1), (12, 1), (13, 0), (14, 1), (15, 1)] [mt 74 0, o 75 (.ld false 1 (.t 13)), o 76 (.iadr 1 (.t 74) (.t 75)), o 77 (.ld false 1 (.t 76)), mt 78 0, o 79 (.ld false 1 (.t 13)), o 80 (.bin .sub (.t 79) (ci 1)), o 81 (.iadr 1 (.t 78) (.t 80)), o 82 (.ld false 1 (.t 81)), o 83 (.bin .neq (.t 77) (.t 82)), mt 84 83, ⟨some 85, .mv (.t 1), some (84, true)⟩, ⟨some 86, .mv (.t 14), some (84, true)⟩, ⟨some 87, .call true true 0 (.fn 107) [.t 85, .t 86], some (84, true)⟩, ⟨some 88, .not (.t 87), some (84, true)⟩, o 89 (.pick (.t 84) (.t 88) (cb false))] [0, 1, 12, 13, 89])
 (.cond (.t 89)
 (.ops [mt 90 12, o 91 (.ld false 1 (.t 13)), o 92 (.bslice false 1 zl8 1 [(0, .t 91)]), o 93 (.app 1 8 zl8 (.t 90) (.t 92)), mt 12 93] [0, 1, 12, 13])
 (.skip)))))
 (.seq (.seq (.ops [o 94 (.ld false 1 (.t 13))] [0, 1, 12, 94])
 (.ops [o 13 (.alloc true 1 zl8), u (.st 1 (.t 13) (.t 94))] [0, 1, 12, 13]))
 (.ops [o 71 (.ld false 1 (.t 13)), o 72 (.bin .add (.t 71) (ci 1)), u (.st 1 (.t 13) (.t 72))] [0, 1, 12, 13])))
def c42 : AFunc := ⟨96, [.tmp 4, .tmp 5],
 .seq (.ops [o 4 (.mv (cn)), o 5 (.mv (ci 0))] [0, 1])
 (.seq (.ops [o 6 (.mv (cf 103))] [0, 1, 6])
 (.seq (.seq (.ops [mt 15 0, o 16 (.len 1 (.t 15)), o 17 (.bin .gtr (.t 16) (ci 1024)), o 18 (.call true true 0 (.fn 104) [.t 17, ci 5]), mt 19 0, mt 20 6, o 21 (.call true false 0 (.fn 105) [.t 19, .t 20]), o 22 (.call true true 0 (.fn 91) [.t 21]), mt 23 1, o 24 (.len 1 (.t 23)), o 25 (.bin .gtr (.t 24) (ci 32)), o 26 (.call true true 0 (.fn 104) [.t 25, ci 5]), o 27 (.bslice false 1 zl8 3 [(0, .t 18), (1, .t 22), (2, .t 26)]), o 28 (.call true true 0 (.fn 91) [.t 27]), mt 7 28] [0, 1, 7])
 (.seq (.ops [mt 29 7, o 30 (.bin .neq (.t 29) (ci 0))] [0, 1, 7, 30])
 (.cond (.t 30)
 (.seq (.ops [mt 31 7, o 4 (.mv (cn)), mt 5 31] [4, 5])
 (.ret))
 (.skip))))
 (.seq (.ops [o 8 (.mv (ci 0))] [0, 1, 8])
 (.seq (.seq (.ops [mt 32 1, o 33 (.len 1 (.t 32)), o 34 (.mv (ci 0))] [0, 1, 8, 32, 33, 34])
 (.block 0 (.loop true [0, 1, 8, 32, 33, 34] c42L0)))
 (.seq (.ops [o 12 (.nilown 1)] [0, 1, 12])
 (.seq (.seq (.ops [o 13 (.alloc true 1 zl8), u (.st 1 (.t 13) (ci 1))] [0, 1, 12, 13])
 (.block 2 (.loop true [0, 1, 12, 13] c42L1)))
 (.seq (.ops [mt 95 12, mt 4 95, o 5 (.mv (ci 0))] [4, 5])
 (.ret))))))))⟩

def c48 : AFunc := ⟨22, [.tmp 4, .tmp 5],
 .seq (.ops [o 4 (.mv (cn)), o 5 (.mv (ci 0))] [0, 1])
 (.seq (.seq (.ops [mt 8 0, o 9 (.call true true 0 (.fn 57) [.t 8]), mt 6 9] [0, 1, 6])
 (.seq (.ops [mt 10 6, o 11 (.bin .neq (.t 10) (ci 0))] [0, 1, 6, 11])
 (.cond (.t 11)
 (.seq (.ops [mt 12 6, o 4 (.mv (cn)), mt 5 12] [4, 5])
 (.ret))
 (.skip))))
 (.seq (.seq (.ops [mt 13 0, mt 14 1, o 15 (.call true true 0 (.fn 109) [.t 13, .t 14]), mt 7 15] [0, 1, 7])
 (.seq (.ops [mt 16 7, o 17 (.bin .neq (.t 16) (ci 0))] [0, 1, 7, 17])
 (.cond (.t 17)
 (.seq (.ops [mt 18 7, o 4 (.mv (cn)), mt 5 18] [4, 5])
 (.ret))
 (.skip))))
 (.seq (.ops [mt 19 0, mt 20 1, o 21 (.call true true 0 (.fn 110) [.t 19, .t 20]), mt 4 21, o 5 (.mv (ci 0))] [4, 5])
 (.ret))))⟩

def c50 : AFunc := ⟨16, [.tmp 4, .tmp 5],
 .seq (.ops [o 4 (.mv (ci 0)), o 5 (.mv (ci 0))] [0, 1])
 (.seq (.seq (.ops [mt 7 0, mt 8 1, o 9 (.call true true 0 (.fn 58) [.t 7, .t 8]), mt 6 9] [0, 1, 6])
 (.seq (.ops [mt 10 6, o 11 (.bin .neq (.t 10) (ci 0))] [0, 1, 6, 11])
 (.cond (.t 11)
 (.seq (.ops [mt 12 6, o 4 (.mv (ci 0)), mt 5 12] [4, 5])
 (.ret))
 (.skip))))
 (.seq (.ops [mt 13 0, mt 14 1, o 15 (.call true true 0 (.fn 111) [.t 13, .t 14]), mt 4 15, o 5 (.mv (ci 0))] [4, 5])
 (.ret)))⟩

def c57L0 : ACode :=
 .seq (.ops [o 14 (.bin .lss (.t 13) (.t 12))] [3, 11, 12, 13, 14])
 (.seq (.cond (.t 14)
 (.skip)
 (.exit 0))
 (.seq (.block 1 (.seq (.ops [o 15 (.iadr 6 (.t 11) (.t 13)), o 16 (.ld true 6 (.t 15)), o 5 (.alloc true 1 zl3), u (.st 6 (.t 5) (.t 16))] [3, 5, 11, 12, 13])
 (.seq (.seq (.opsd [(0, 1), (1, 1), (2, 1), (3, 1), (4, 1), (5, 1), (6, 1), (7, 1), (8, 0), (9, 0), (10, 0), (11, 1)] [o 17 (.ld true 6 (.t 5)), o 18 (.call true true 0 (.fn 113) [.t 17]), mt 19 3, o 20 (.fadr 0 (.t 5)), o 21 (.ld false 1 (.t 20)), o 22 (.lkup 1 (.p (.bool false)) (.t 19) (.t 21) false), o 23 (.call true true 0 (.fn 104) [.t 22, ci 9]), o 24 (.ld true 6 (.t 5)), o 25 (.call true true 0 (.fn 114) [.t 24]), o 26 (.bslice false 1 zl8 3 [(0, .t 18), (1, .t 23), (2, .t 25)]), o 27 (.call true true 0 (.fn 91) [.t 26]), mt 6 27] [3, 5, 6, 11, 12, 13])
 (.seq (.ops [mt 28 6, o 29 (.bin .neq (.t 28) (ci 0))] [3, 5, 6, 11, 12, 13, 29])
 (.cond (.t 29)
 (.seq (.ops [mt 30 6, mt 2 30] [2])
 (.ret))
 (.skip))))
 (.ops [mt 31 3, o 32 (.fadr 0 (.t 5)), o 33 (.ld false 1 (.t 32)), u (.mupd 1 (.t 31) (.t 33) (cb true))] [3, 11, 12, 13]))))
 (.ops [o 34 (.bin .add (.t 13) (ci 1)), mt 13 34] [3, 11, 12, 13])))
def c57 : AFunc := ⟨35, [.tmp 2],
 .seq (.ops [o 2 (.mv (ci 0))] [0])
 (.seq (.seq (.ops [mt 7 0, o 8 (.len 1 (.t 7)), o 9 (.bin .gtr (.t 8) (ci 8))] [0, 9])
 (.cond (.t 9)
 (.seq (.ops [o 2 (.mv (ci 5))] [2])
 (.ret))
 (.skip)))
 (.seq (.ops [o 10 (.mkmap), mt 3 10] [0, 3])
 (.seq (.seq (.ops [mt 11 0, o 12 (.len 1 (.t 11)), o 13 (.mv (ci 0))] [3, 11, 12, 13])
 (.block 0 (.loop true [3, 11, 12, 13] c57L0)))
 (.seq (.ops [o 2 (.mv (ci 0))] [2])
 (.ret)))))⟩

def c58L0 : ACode :=
 .seq (.ops [o 28 (.bin .lss (.t 27) (.t 26))] [0, 1, 6, 7, 16, 17, 18, 25, 26, 27, 28])
 (.seq (.cond (.t 28)
 (.skip)
 (.exit 2))
 (.seq (.block 3 (.seq (.ops [mt 29 27, o 30 (.iadr 6 (.t 25) (.t 27)), o 31 (.ld true 6 (.t 30)), o 9 (.alloc true 1 zl3), mt 8 29, u (.st 6 (.t 9) (.t 31))] [0, 1, 6, 7, 8, 9, 16, 17, 18, 25, 26, 27])
 (.seq (.opsd [(0, 1), (1, 1), (2, 5), (3, 5), (4, 1), (5, 1), (6, 1), (7, 1), (8, 1), (9, 1), (10, 0), (11, 1), (12, 1), (13, 1), (14, 1), (15, 5), (16, 5), (17, 1), (18, 1), (19, 1), (20, 1), (21, 1), (22, 1), (23, 0), (24, 1), (25, 1)] [mt 32 1, mt 33 6, o 34 (.iadr 1 (.t 32) (.t 33)), o 35 (.ld false 1 (.t 34)), o 36 (.ld true 6 (.t 7)), o 37 (.ld true 6 (.t 9)), mt 38 1, mt 39 8, o 40 (.iadr 1 (.t 38) (.t 39)), o 41 (.ld false 1 (.t 40)), o 42 (.call true true 0 (.fn 116) [.t 36, .t 37, .t 41]), o 43 (.bin .lss (.t 35) (.t 42)), mt 44 43, ⟨some 45, .mv (.t 1), some (44, true)⟩, ⟨some 46, .mv (.t 8), some (44, true)⟩, ⟨some 47, .iadr 1 (.t 45) (.t 46), some (44, true)⟩, ⟨some 48, .ld false 1 (.t 47), some (44, true)⟩, ⟨some 49, .ld true 6 (.t 9), some (44, true)⟩, ⟨some 50, .ld true 6 (.t 7), some (44, true)⟩, ⟨some 51, .mv (.t 1), some (44, true)⟩, ⟨some 52, .mv (.t 6), some (44, true)⟩, ⟨some 53, .iadr 1 (.t 51) (.t 52), some (44, true)⟩, ⟨some 54, .ld false 1 (.t 53), some (44, true)⟩, ⟨some 55, .call true true 0 (.fn 116) [.t 49, .t 50, .t 54], some (44, true)⟩, ⟨some 56, .bin .lss (.t 48) (.t 55), some (44, true)⟩, o 57 (.pick (.t 44) (.t 56) (cb false))] [0, 1, 6, 7, 16, 17, 18, 25, 26, 27, 57])
 (.cond (.t 57)
 (.seq (.ops [o 4 (.mv (ci 24))] [4])
 (.ret))
 (.skip)))))
 (.ops [o 58 (.bin .add (.t 27) (ci 1)), mt 27 58] [0, 1, 6, 7, 16, 17, 18, 25, 26, 27])))
def c58L1 : ACode :=
 .seq (.ops [o 19 (.bin .lss (.t 18) (.t 17))] [0, 1, 16, 17, 18, 19])
 (.seq (.cond (.t 19)
 (.skip)
 (.exit 0))
 (.seq (.block 1 (.seq (.ops [mt 20 18, o 21 (.iadr 6 (.t 16) (.t 18)), o 22 (.ld true 6 (.t 21)), o 7 (.alloc true 1 zl3), mt 6 20, u (.st 6 (.t 7) (.t 22))] [0, 1, 6, 7, 16, 17, 18])
 (.seq (.ops [mt 23 0, mt 24 6, o 25 (.slc 6 (.t 23) none (some (.t 24))), o 26 (.len 1 (.t 25)), o 27 (.mv (ci 0))] [0, 1, 6, 7, 16, 17, 18, 25, 26, 27])
 (.block 2 (.loop true [0, 1, 6, 7, 16, 17, 18, 25, 26, 27] c58L0)))))
 (.ops [o 59 (.bin .add (.t 18) (ci 1)), mt 18 59] [0, 1, 16, 17, 18])))
def c58 : AFunc := ⟨60, [.tmp 4],
 .seq (.ops [o 4 (.mv (ci 0))] [0, 1])
 (.seq (.seq (.ops [mt 10 0, mt 11 1, o 12 (.call true true 0 (.fn 115) [.t 10, .t 11]), mt 5 12] [0, 1, 5])
 (.seq (.ops [mt 13 5, o 14 (.bin .neq (.t 13) (ci 0))] [0, 1, 5, 14])
 (.cond (.t 14)
 (.seq (.ops [mt 15 5, mt 4 15] [4])
 (.ret))
 (.skip))))
 (.seq (.seq (.ops [mt 16 0, o 17 (.len 1 (.t 16)), o 18 (.mv (ci 0))] [0, 1, 16, 17, 18])
 (.block 0 (.loop true [0, 1, 16, 17, 18] c58L1)))
 (.seq (.ops [o 4 (.mv (ci 0))] [4])
 (.ret))))⟩

def c59L0 : ACode :=
 .seq (.ops [o 22 (.bin .lss (.t 21) (.t 20))] [0, 6, 20, 21, 22])
 (.seq (.cond (.t 22)
 (.skip)
 (.exit 0))
 (.seq (.block 1 (.seq (.ops [mt 23 21, mt 7 23] [0, 6, 7, 20, 21])
 (.ops [mt 24 6, mt 25 7, mt 26 7, o 27 (.iadr 1 (.t 24) (.t 25)), u (.st 1 (.t 27) (.t 26))] [0, 6, 20, 21])))
 (.ops [o 28 (.bin .add (.t 21) (ci 1)), mt 21 28] [0, 6, 20, 21])))
def c59L1 : ACode :=
 .seq (.seq (.ops [mt 38 6, o 39 (.call false true 0 (.fn 119) [.t 38])] [0, 6, 8, 9, 39])
 (.cond (.t 39)
 (.skip)
 (.exit 2)))
 (.block 3 (.seq (.opsd [(0, 1), (1, 1), (4, 1), (5, 1), (6, 1), (7, 1), (8, 1), (2, 2), (3, 1), (9, 1), (10, 2), (11, 0)] [mt 40 6, o 41 (.len 1 (.t 40)), mt 44 0, mt 45 0, mt 46 6, o 47 (.call true true 0 (.fn 110) [.t 45, .t 46]), o 48 (.call true true 0 (.fn 111) [.t 44, .t 47]), o 42 (.mkslicer 0 1 zl8 (.t 41) (.t 41)), o 43 (.build [.p (.nils)] [(0, 1, .t 42)]), o 49 (.build zl7 [(0, 1, .t 43), (1, 1, .t 48)]), o 10 (.allocr 1 false 1 zl7), u (.st 2 (.t 10) (.t 49))] [0, 6, 8, 9, 10])
 (.seq (.ops [o 50 (.fadr 0 (.t 10)), o 51 (.fadr 0 (.t 50)), o 52 (.ld false 1 (.t 51)), mt 53 6, o 54 (.copy 1 (.t 52) (.t 53))] [0, 6, 8, 9, 10])
 (.seq (.ops [mt 55 9, o 56 (.ld true 2 (.t 10)), o 57 (.ld true 2 (.t 8)), o 58 (.call false true 0 (.val (.t 55)) [.t 56, .t 57]), o 59 (.bin .lss (.t 58) (ci 0))] [0, 6, 8, 9, 10, 59])
 (.cond (.t 59)
 (.ops [o 60 (.ld true 2 (.t 10)), u (.st 2 (.t 8) (.t 60))] [0, 6, 8, 9])
 (.skip))))))
def c59 : AFunc := ⟨66, [.tmp 2, .tmp 3, .tmp 4],
 .seq (.ops [o 2 (.mv (cn)), o 3 (.mv (ci 0)), o 4 (.mv (ci 0))] [0])
 (.seq (.seq (.ops [mt 11 0, o 12 (.call true true 0 (.fn 57) [.t 11]), mt 5 12] [0, 5])
 (.seq (.ops [mt 13 5, o 14 (.bin .neq (.t 13) (ci 0))] [0, 5, 14])
 (.cond (.t 14)
 (.seq (.ops [mt 15 5, o 2 (.mv (cn)), o 3 (.mv (ci 0)), mt 4 15] [2, 3, 4])
 (.ret))
 (.skip))))
 (.seq (.ops [mt 16 0, o 17 (.len 1 (.t 16)), o 18 (.mkslice 1 zl8 (.t 17) (.t 17)), mt 6 18] [0, 6])
 (.seq (.seq (.ops [mt 19 0, o 20 (.len 1 (.t 19)), o 21 (.mv (ci 0))] [0, 6, 20, 21])
 (.block 0 (.loop false [0, 6, 20, 21] c59L0)))
 (.seq (.ops [mt 29 6, o 30 (.call false false 1000 (.fn 117) [.t 29]), o 31 (.build [.p (.nils)] [(0, 1, .t 30)]), mt 32 0, mt 33 0, mt 34 6, o 35 (.call true true 0 (.fn 110) [.t 33, .t 34]), o 36 (.call true true 0 (.fn 111) [.t 32, .t 35]), o 37 (.build zl7 [(0, 1, .t 31), (1, 1, .t 36)]), o 8 (.alloc false 1 zl7), u (.st 2 (.t 8) (.t 37))] [0, 6, 8])
 (.seq (.ops [o 9 (.mv (cf 118))] [0, 6, 8, 9])
 (.seq (.block 2 (.loop true [0, 6, 8, 9] c59L1))
 (.seq (.opsd [(0, 1), (1, 1), (2, 1), (3, 1), (4, 1), (5, 1), (6, 1), (7, 1)] [o 61 (.fadr 0 (.t 8)), o 62 (.fadr 0 (.t 61)), o 63 (.ld false 1 (.t 62)), o 64 (.fadr 1 (.t 8)), o 65 (.ld false 1 (.t 64)), mt 2 63, mt 3 65, o 4 (.mv (ci 0))] [2, 3, 4])
 (.ret))))))))⟩

def c60L0 : ACode :=
 .seq (.ops [o 22 (.bin .lss (.t 21) (.t 20))] [5, 6, 7, 8, 19, 20, 21, 22])
 (.seq (.cond (.t 22)
 (.skip)
 (.exit 0))
 (.seq (.block 1 (.seq (.ops [o 23 (.iadr 6 (.t 19) (.t 21)), o 24 (.ld true 6 (.t 23)), o 10 (.alloc true 1 zl3), u (.st 6 (.t 10) (.t 24))] [5, 6, 7, 8, 10, 19, 20, 21])
 (.seq (.opsd [(0, 1), (1, 1), (2, 1), (3, 1), (4, 1), (5, 1), (6, 1), (7, 1), (8, 0)] [o 25 (.fadr 2 (.t 10)), o 26 (.ld false 1 (.t 25)), o 27 (.iadra 1 17 (.t 5) (.t 26)), o 28 (.ld false 1 (.t 27)), o 29 (.fadr 4 (.t 10)), o 30 (.ld false 1 (.t 29)), o 31 (.bin .add (.t 28) (.t 30)), o 32 (.iadra 1 17 (.t 5) (.t 26)), u (.st 1 (.t 32) (.t 31))] [5, 6, 7, 8, 10, 19, 20, 21])
 (.seq (.opsd [(0, 1), (1, 1), (2, 1), (3, 1), (4, 1), (5, 1), (6, 1), (7, 1), (8, 0)] [o 33 (.fadr 3 (.t 10)), o 34 (.ld false 1 (.t 33)), o 35 (.iadra 1 17 (.t 6) (.t 34)), o 36 (.ld false 1 (.t 35)), o 37 (.fadr 4 (.t 10)), o 38 (.ld false 1 (.t 37)), o 39 (.bin .add (.t 36) (.t 38)), o 40 (.iadra 1 17 (.t 6) (.t 34)), u (.st 1 (.t 40) (.t 39))] [5, 6, 7, 8, 10, 19, 20, 21])
 (.seq (.opsd [(0, 1), (1, 1), (2, 1), (3, 1), (4, 1), (5, 1), (6, 1), (7, 1), (8, 1), (9, 1), (10, 1), (11, 0)] [o 41 (.fadr 1 (.t 10)), o 42 (.ld false 1 (.t 41)), o 43 (.iadra 1 17 (.t 7) (.t 42)), o 44 (.ld false 1 (.t 43)), o 45 (.fadr 4 (.t 10)), o 46 (.ld false 1 (.t 45)), o 47 (.fadr 5 (.t 10)), o 48 (.ld false 1 (.t 47)), o 49 (.bin .add (.t 46) (.t 48)), o 50 (.bin .add (.t 44) (.t 49)), o 51 (.iadra 1 17 (.t 7) (.t 42)), u (.st 1 (.t 51) (.t 50))] [5, 6, 7, 8, 10, 19, 20, 21])
 (.opsd [(0, 1), (1, 1), (2, 1), (3, 1), (4, 1), (5, 1), (6, 1), (7, 1), (8, 1), (9, 1), (10, 0)] [o 52 (.fadr 1 (.t 10)), o 53 (.ld false 1 (.t 52)), o 54 (.fadr 1 (.t 10)), o 55 (.ld false 1 (.t 54)), o 56 (.iadra 1 17 (.t 8) (.t 55)), o 57 (.ld false 1 (.t 56)), o 58 (.fadr 5 (.t 10)), o 59 (.ld false 1 (.t 58)), o 60 (.max [.t 57, .t 59]), o 61 (.iadra 1 17 (.t 8) (.t 53)), u (.st 1 (.t 61) (.t 60))] [5, 6, 7, 8, 19, 20, 21]))))))
 (.ops [o 62 (.bin .add (.t 21) (ci 1)), mt 21 62] [5, 6, 7, 8, 19, 20, 21])))
def c60L1 : ACode :=
 .seq (.ops [o 65 (.bin .lss (.t 64) (ci 17))] [5, 6, 8, 11, 63, 64, 65])
 (.seq (.cond (.t 65)
 (.skip)
 (.exit 2))
 (.seq (.block 3 (.seq (.ops [mt 66 64, o 67 (.idx false 1 17 (.t 63) (.t 64)), mt 12 66, mt 13 67] [5, 6, 8, 11, 12, 13, 63, 64])
 (.opsd [(0, 1), (1, 1), (2, 1), (3, 1), (4, 1), (5, 1), (6, 1), (7, 1), (8, 1), (9, 1), (10, 1), (11, 1), (12, 1), (13, 1)] [mt 68 11, mt 69 12, o 70 (.iadra 1 17 (.t 5) (.t 69)), o 71 (.ld false 1 (.t 70)), mt 72 12, o 73 (.iadra 1 17 (.t 6) (.t 72)), o 74 (.ld false 1 (.t 73)), mt 75 13, mt 76 12, o 77 (.iadra 1 17 (.t 8) (.t 76)), o 78 (.ld false 1 (.t 77)), o 79 (.bin .sub (.t 75) (.t 78)), o 80 (.max [.t 68, .t 71, .t 74, .t 79]), mt 11 80] [5, 6, 8, 11, 63, 64])))
 (.ops [o 81 (.bin .add (.t 64) (ci 1)), mt 64 81] [5, 6, 8, 11, 63, 64])))
def c60 : AFunc := ⟨83, [.tmp 2, .tmp 3],
 .seq (.ops [o 2 (.mv (ci 0)), o 3 (.mv (ci 0))] [0])
 (.seq (.seq (.ops [mt 14 0, o 15 (.call true true 0 (.fn 57) [.t 14]), mt 4 15] [0, 4])
 (.seq (.ops [mt 16 4, o 17 (.bin .neq (.t 16) (ci 0))] [0, 4, 17])
 (.cond (.t 17)
 (.seq (.ops [mt 18 4, o 2 (.mv (ci 0)), mt 3 18] [2, 3])
 (.ret))
 (.skip))))
 (.seq (.ops [o 5 (.alloc true 1 zl0), o 6 (.alloc true 1 zl0), o 7 (.alloc true 1 zl0), o 8 (.alloc true 1 zl0)] [0, 5, 6, 7, 8])
 (.seq (.seq (.ops [mt 19 0, o 20 (.len 1 (.t 19)), o 21 (.mv (ci 0))] [5, 6, 7, 8, 19, 20, 21])
 (.block 0 (.loop true [5, 6, 7, 8, 19, 20, 21] c60L0)))
 (.seq (.ops [o 11 (.mv (ci 0))] [5, 6, 7, 8, 11])
 (.seq (.seq (.ops [o 63 (.ld true 17 (.t 7)), o 64 (.mv (ci 0))] [5, 6, 8, 11, 63, 64])
 (.block 2 (.loop false [5, 6, 8, 11, 63, 64] c60L1)))
 (.seq (.ops [mt 82 11, mt 2 82, o 3 (.mv (ci 0))] [2, 3])
 (.ret)))))))⟩

def c63L0 : ACode :=
 .seq (.ops [o 25 (.bin .lss (.t 24) (.t 23))] [9, 22, 23, 24, 25])
 (.seq (.cond (.t 25)
 (.skip)
 (.exit 0))
 (.seq (.block 1 (.seq (.ops [o 26 (.iadr 6 (.t 22) (.t 24)), o 27 (.ld true 6 (.t 26)), o 11 (.alloc true 1 zl2), u (.st 6 (.t 11) (.t 27))] [9, 11, 22, 23, 24])
 (.opsd [(0, 1), (1, 1), (2, 1), (4, 1), (5, 1), (6, 1), (3, 2), (7, 0), (8, 0), (9, 1), (10, 1), (11, 1)] [mt 28 9, o 29 (.fadr 1 (.t 11)), o 30 (.ld false 1 (.t 29)), o 32 (.ld true 6 (.t 11)), o 33 (.call true false 0 (.fn 123) [.t 32]), o 34 (.call true false 0 (.fn 122) [.t 33, cf 124]), o 31 (.bslice true 1 zl9 1 [(0, .t 30)]), o 35 (.app 1 16 zl9 (.t 31) (.t 34)), o 36 (.call true true 0 (.fn 121) [.t 35, cs [32]]), o 37 (.bin .add (.t 36) (cs [10])), o 38 (.bin .add (.t 28) (.t 37)), mt 9 38] [9, 22, 23, 24])))
 (.ops [o 39 (.bin .add (.t 24) (ci 1)), mt 24 39] [9, 22, 23, 24])))
def c63 : AFunc := ⟨44, [.tmp 4, .tmp 5],
 .seq (.ops [o 2 (.box false (.t 0)), o 4 (.mv (cs [])), o 5 (.mv (ci 0))] [1, 2])
 (.seq (.seq (.ops [o 13 (.ld true 5 (.t 2)), mt 14 1, o 15 (.call true false 0 (.fn 88) [.t 13, .t 14]), mt 12 15, o 16 (.ext (.t 12) 0), o 17 (.ext (.t 12) 1), o 18 (.ext (.t 12) 2), mt 6 16, mt 7 17, mt 8 18] [1, 8])
 (.seq (.ops [mt 19 8, o 20 (.bin .neq (.t 19) (ci 0))] [1, 8, 20])
 (.cond (.t 20)
 (.seq (.ops [mt 21 8, o 4 (.mv (cs [])), mt 5 21] [4, 5])
 (.ret))
 (.skip))))
 (.seq (.ops [o 9 (.mv (cs []))] [1, 9])
 (.seq (.seq (.ops [mt 22 1, o 23 (.len 1 (.t 22)), o 24 (.mv (ci 0))] [9, 22, 23, 24])
 (.block 0 (.loop true [9, 22, 23, 24] c63L0)))
 (.seq (.seq (.ops [mt 40 9, o 41 (.len 0 (.t 40)), o 42 (.bin .gtr (.t 41) (ci 4096))] [9, 42])
 (.cond (.t 42)
 (.seq (.ops [o 4 (.mv (cs [])), o 5 (.mv (ci 26))] [4, 5])
 (.ret))
 (.skip)))
 (.seq (.ops [mt 43 9, mt 4 43, o 5 (.mv (ci 0))] [4, 5])
 (.ret))))))⟩

def c64A0 : ACode :=
 .ops [mt 9 31] [4, 5, 6, 8, 9]
def c64B0 : ACode :=
 .block 1 (.seq (.ops [mt 33 9, o 34 (.call true true 0 (.fn 126) [.t 33, cs [10]]), mt 32 34, o 35 (.ext (.t 32) 0), o 36 (.ext (.t 32) 1), mt 10 35, mt 11 36] [4, 5, 6, 8, 10, 11])
 (.seq (.ops [mt 38 10, o 39 (.call true true 0 (.fn 127) [.t 38]), mt 37 39, o 40 (.ext (.t 37) 0), o 41 (.ext (.t 37) 1), o 12 (.alloc true 1 zl2), u (.st 6 (.t 12) (.t 40)), mt 13 41] [4, 5, 6, 8, 11, 12, 13])
 (.seq (.seq (.ops [mt 42 11, o 43 (.not (.t 42)), mt 44 43, ⟨some 45, .mv (.t 13), some (44, false)⟩, ⟨some 46, .not (.t 45), some (44, false)⟩, o 47 (.pick (.t 44) (cb true) (.t 46))] [4, 5, 6, 8, 12, 47])
 (.cond (.t 47)
 (.seq (.opsd [(0, 54), (1, 54), (2, 3), (3, 0), (4, 0)] [o 48 (.ld false 1 (.t 8)), o 49 (.len 1 (.t 48)), u (.st 1 (.t 4) (cn)), u (.st 1 (.t 5) (.t 49)), u (.st 1 (.t 6) (ci 25))] [])
 (.ret))
 (.skip)))
 (.ops [o 50 (.ld false 1 (.t 8)), o 51 (.ld true 6 (.t 12)), o 52 (.bslice false 6 zl2 1 [(0, .t 51)]), o 53 (.app 6 56 zl2 (.t 50) (.t 52)), u (.st 1 (.t 8) (.t 53))] []))))
def c64 : AFunc := ⟨74, [.cell 4 false 1, .cell 5 false 1, .cell 6 false 1],
 .seq (.ops [o 2 (.box false (.t 0)), o 4 (.alloc false 1 [.p (.nils)]), o 5 (.alloc true 1 zl8), o 6 (.alloc true 1 zl8)] [1, 2, 4, 5, 6])
 (.seq (.seq (.ops [o 18 (.ld true 5 (.t 2)), o 19 (.call true true 0 (.fn 81) [.t 18]), mt 20 1, o 21 (.len 0 (.t 20)), o 22 (.bin .gtr (.t 21) (ci 4096)), o 23 (.call true true 0 (.fn 104) [.t 22, ci 26]), o 24 (.bslice false 1 zl8 2 [(0, .t 19), (1, .t 23)]), o 25 (.call true true 0 (.fn 91) [.t 24]), mt 7 25] [1, 2, 4, 5, 6, 7])
 (.seq (.ops [mt 26 7, o 27 (.bin .neq (.t 26) (ci 0))] [1, 2, 4, 5, 6, 7, 27])
 (.cond (.t 27)
 (.seq (.ops [mt 28 7, u (.st 1 (.t 4) (cn)), u (.st 1 (.t 5) (ci 0)), u (.st 1 (.t 6) (.t 28))] [4, 5, 6])
 (.ret))
 (.skip))))
 (.seq (.ops [o 8 (.allocown 6)] [1, 2, 4, 5, 6, 8])
 (.seq (.seq (.ops [mt 29 1, o 30 (.call false false 1000 (.fn 125) [.t 29])] [2, 4, 5, 6, 8, 30])
 (.block 0 (.rfun (.t 30) [31] c64A0 c64B0)))
 (.seq (.seq (.ops [o 54 (.ld true 5 (.t 2)), o 55 (.ld false 1 (.t 8)), o 56 (.call true true 0 (.fn 86) [.t 54, .t 55]), mt 14 56] [2, 4, 5, 6, 8, 14])
 (.seq (.ops [mt 57 14, o 58 (.bin .neq (.t 57) (ci 0))] [2, 4, 5, 6, 8, 14, 58])
 (.cond (.t 58)
 (.seq (.opsd [(0, 54), (1, 54), (2, 1), (3, 3), (4, 0), (5, 0)] [o 59 (.ld false 1 (.t 8)), o 60 (.len 1 (.t 59)), mt 61 14, u (.st 1 (.t 4) (cn)), u (.st 1 (.t 5) (.t 60)), u (.st 1 (.t 6) (.t 61))] [4, 5, 6])
 (.ret))
 (.skip))))
 (.seq (.seq (.ops [o 63 (.ld true 5 (.t 2)), o 64 (.ld false 1 (.t 8)), o 65 (.call true false 0 (.fn 88) [.t 63, .t 64]), mt 62 65, o 66 (.ext (.t 62) 0), o 67 (.ext (.t 62) 1), o 68 (.ext (.t 62) 2), mt 15 66, mt 16 67, mt 17 68] [4, 5, 6, 8, 16, 17])
 (.seq (.ops [mt 69 17, o 70 (.bin .neq (.t 69) (ci 0))] [4, 5, 6, 8, 16, 17, 70])
 (.cond (.t 70)
 (.seq (.ops [mt 71 16, mt 72 17, u (.st 1 (.t 4) (cn)), u (.st 1 (.t 5) (.t 71)), u (.st 1 (.t 6) (.t 72))] [4, 5, 6])
 (.ret))
 (.skip))))
 (.seq (.ops [o 73 (.ld false 1 (.t 8)), u (.st 1 (.t 4) (.t 73)), u (.st 1 (.t 5) (ci 0)), u (.st 1 (.t 6) (ci 0))] [4, 5, 6])
 (.ret)))))))⟩

def c65 : AFunc := ⟨23, [.tmp 2],
 .seq (.ops [o 1 (.box false (.t 0)), o 2 (.mv (ci 0))] [1])
 (.seq (.opsd [(0, 1), (1, 1), (2, 1), (3, 1), (4, 1), (5, 1), (6, 1), (7, 1), (8, 1), (9, 1), (10, 1), (11, 1), (12, 1), (13, 1), (14, 1), (15, 1), (16, 1), (17, 0), (18, 0), (19, 0), (20, 1)] [o 3 (.fadr 0 (.t 1)), o 4 (.ld false 1 (.t 3)), o 5 (.call true true 0 (.fn 24) [.t 4, ci 1, ci 8]), o 6 (.fadr 1 (.t 1)), o 7 (.ld false 1 (.t 6)), o 8 (.call true true 0 (.fn 24) [.t 7, ci 0, ci 1000000]), o 9 (.fadr 2 (.t 1)), o 10 (.iadra 1 3 (.t 9) (ci 0)), o 11 (.ld false 1 (.t 10)), o 12 (.call true true 0 (.fn 128) [.t 11]), o 13 (.fadr 2 (.t 1)), o 14 (.iadra 1 3 (.t 13) (ci 1)), o 15 (.ld false 1 (.t 14)), o 16 (.call true true 0 (.fn 128) [.t 15]), o 17 (.fadr 2 (.t 1)), o 18 (.iadra 1 3 (.t 17) (ci 2)), o 19 (.ld false 1 (.t 18)), o 20 (.call true true 0 (.fn 128) [.t 19]), o 21 (.bslice false 1 zl8 5 [(0, .t 5), (1, .t 8), (2, .t 12), (3, .t 16), (4, .t 20)]), o 22 (.call true true 0 (.fn 23) [.t 21]), mt 2 22] [2])
 (.ret))⟩

def c68L0 : ACode :=
 .seq (.seq (.ops [mt 11 5, mt 12 0, o 13 (.len 1 (.t 12)), o 14 (.bin .lss (.t 11) (.t 13))] [0, 1, 5, 14])
 (.cond (.t 14)
 (.skip)
 (.exit 0)))
 (.seq (.block 1 (.seq (.opsd [(0, 1), (1, 1), (2, 1), (3, 1), (4, 1), (5, 1), (6, 1), (7, 1), (8, 1)] [mt 17 0, mt 18 5, o 19 (.iadr 6 (.t 17) (.t 18)), o 20 (.ld true 6 (.t 19)), mt 21 1, mt 22 5, o 23 (.iadr 6 (.t 21) (.t 22)), o 24 (.ld true 6 (.t 23)), o 25 (.eqagg [0, 1, 0, 0, 0, 0] true (.t 20) (.t 24))] [0, 1, 5, 25])
 (.cond (.t 25)
 (.seq (.ops [o 4 (.mv (cb false))] [4])
 (.ret))
 (.skip))))
 (.ops [mt 15 5, o 16 (.bin .add (.t 15) (ci 1)), mt 5 16] [0, 1, 5]))
def c68 : AFunc := ⟨26, [.tmp 4],
 .seq (.ops [o 4 (.mv (cb false))] [0, 1])
 (.seq (.seq (.ops [mt 6 0, o 7 (.len 1 (.t 6)), mt 8 1, o 9 (.len 1 (.t 8)), o 10 (.bin .neq (.t 7) (.t 9))] [0, 1, 10])
 (.cond (.t 10)
 (.seq (.ops [o 4 (.mv (cb false))] [4])
 (.ret))
 (.skip)))
 (.seq (.seq (.ops [o 5 (.mv (ci 0))] [0, 1, 5])
 (.block 0 (.loop false [0, 1, 5] c68L0)))
 (.seq (.ops [o 4 (.mv (cb true))] [4])
 (.ret))))⟩

def c69L0 : ACode :=
 .seq (.ops [o 9 (.bin .lss (.t 8) (.t 7))] [3, 6, 7, 8, 9])
 (.seq (.cond (.t 9)
 (.skip)
 (.exit 0))
 (.seq (.block 1 (.seq (.ops [o 10 (.iadr 6 (.t 6) (.t 8)), o 11 (.ld true 6 (.t 10)), o 5 (.alloc true 1 zl2), u (.st 6 (.t 5) (.t 11))] [3, 5, 6, 7, 8])
 (.ops [mt 12 3, o 13 (.ld true 6 (.t 5)), o 14 (.bslice false 6 zl2 1 [(0, .t 13)]), o 15 (.app 6 56 zl2 (.t 12) (.t 14)), mt 3 15] [3, 6, 7, 8])))
 (.ops [o 16 (.bin .add (.t 8) (ci 1)), mt 8 16] [3, 6, 7, 8])))
def c69 : AFunc := ⟨18, [.tmp 2],
 .seq (.ops [o 2 (.mv (cn))] [0])
 (.seq (.ops [o 3 (.nilown 6)] [0, 3])
 (.seq (.seq (.ops [mt 6 0, o 7 (.len 1 (.t 6)), o 8 (.mv (ci 0))] [3, 6, 7, 8])
 (.block 0 (.loop true [3, 6, 7, 8] c69L0)))
 (.seq (.ops [mt 17 3, mt 2 17] [2])
 (.ret))))⟩

def c70 : AFunc := ⟨24, [.cell 4 true 15, .tmp 5, .tmp 6],
 .seq (.ops [o 2 (.box false (.t 0)), o 4 (.alloc true 1 zl1), o 5 (.mv (ci 0)), o 6 (.mv (ci 0))] [1, 2, 4])
 (.seq (.ops [o 11 (.ld true 5 (.t 2)), mt 12 1, o 13 (.call true false 0 (.fn 88) [.t 11, .t 12]), mt 10 13, o 14 (.ext (.t 10) 0), o 15 (.ext (.t 10) 1), o 16 (.ext (.t 10) 2), mt 7 14, mt 8 15, mt 9 16] [4, 7, 8, 9])
 (.seq (.seq (.ops [mt 17 9, o 18 (.bin .neq (.t 17) (ci 0))] [4, 7, 8, 9, 18])
 (.cond (.t 18)
 (.seq (.ops [o 19 (.build zl1 []), mt 20 8, mt 21 9, u (.st 15 (.t 4) (.t 19)), mt 5 20, mt 6 21] [4, 5, 6])
 (.ret))
 (.skip)))
 (.seq (.ops [mt 22 7, o 23 (.call true true 0 (.fn 89) [.t 22]), u (.st 15 (.t 4) (.t 23)), o 5 (.mv (ci 0)), o 6 (.mv (ci 0))] [4, 5, 6])
 (.ret))))⟩

def c71L0 : ACode :=
 .seq (.seq (.ops [mt 6 5, mt 7 0, o 8 (.len 1 (.t 7)), o 9 (.bin .lss (.t 6) (.t 8))] [0, 1, 5, 9])
 (.cond (.t 9)
 (.skip)
 (.exit 0)))
 (.seq (.block 1 (.seq (.ops [mt 12 0, mt 13 5, o 14 (.iadr 1 (.t 12) (.t 13)), o 15 (.ld false 1 (.t 14)), mt 16 1, o 17 (.bin .eql (.t 15) (.t 16))] [0, 1, 5, 17])
 (.cond (.t 17)
 (.seq (.ops [o 4 (.mv (cb true))] [4])
 (.ret))
 (.skip))))
 (.ops [mt 10 5, o 11 (.bin .add (.t 10) (ci 1)), mt 5 11] [0, 1, 5]))
def c71 : AFunc := ⟨18, [.tmp 4],
 .seq (.ops [o 4 (.mv (cb false))] [0, 1])
 (.seq (.seq (.ops [o 5 (.mv (ci 0))] [0, 1, 5])
 (.block 0 (.loop false [0, 1, 5] c71L0)))
 (.seq (.ops [o 4 (.mv (cb false))] [4])
 (.ret)))⟩

def c72 : AFunc := ⟨19, [.tmp 4, .tmp 5],
 .seq (.ops [o 2 (.box false (.t 0)), o 3 (.box true (.t 1)), o 4 (.mv (ci 0)), o 5 (.mv (ci 0))] [2, 3])
 (.seq (.seq (.opsd [(0, 1), (1, 1), (2, 1), (3, 0), (4, 0), (5, 0), (6, 1)] [o 7 (.ld true 5 (.t 2)), o 8 (.call true true 0 (.fn 81) [.t 7]), o 9 (.ld true 3 (.t 3)), o 10 (.call true true 0 (.fn 131) [.t 9]), o 11 (.bslice false 1 zl8 2 [(0, .t 8), (1, .t 10)]), o 12 (.call true true 0 (.fn 91) [.t 11]), mt 6 12] [2, 3, 6])
 (.seq (.ops [mt 13 6, o 14 (.bin .neq (.t 13) (ci 0))] [2, 3, 6, 14])
 (.cond (.t 14)
 (.seq (.ops [mt 15 6, o 4 (.mv (ci 0)), mt 5 15] [4, 5])
 (.ret))
 (.skip))))
 (.seq (.ops [o 16 (.ld true 5 (.t 2)), o 17 (.ld true 3 (.t 3)), o 18 (.call true true 0 (.fn 132) [.t 16, .t 17]), mt 4 18, o 5 (.mv (ci 0))] [4, 5])
 (.ret)))⟩

def c74L0 : ACode :=
 .seq (.seq (.ops [mt 8 7, mt 9 0, o 10 (.len 0 (.t 9)), o 11 (.bin .lss (.t 8) (.t 10))] [0, 1, 5, 6, 7, 11])
 (.cond (.t 11)
 (.skip)
 (.exit 0)))
 (.seq (.block 1 (.seq (.ops [mt 14 0, mt 15 7, o 16 (.idxs (.t 14) (.t 15)), mt 17 1, o 18 (.bin .eql (.t 16) (.t 17))] [0, 1, 5, 6, 7, 18])
 (.cond (.t 18)
 (.seq (.ops [mt 19 5, mt 20 0, mt 21 6, mt 22 7, o 23 (.slcs (.t 20) (some (.t 21)) (some (.t 22))), o 24 (.bslice false 1 zl9 1 [(0, .t 23)]), o 25 (.app 1 16 zl9 (.t 19) (.t 24)), mt 5 25] [0, 1, 5, 7])
 (.ops [mt 26 7, o 27 (.bin .add (.t 26) (ci 1)), mt 6 27] [0, 1, 5, 6, 7]))
 (.skip))))
 (.ops [mt 12 7, o 13 (.bin .add (.t 12) (ci 1)), mt 7 13] [0, 1, 5, 6, 7]))
def c74 : AFunc := ⟨34, [.tmp 4],
 .seq (.ops [o 4 (.mv (cn))] [0, 1])
 (.seq (.ops [o 5 (.nilown 1)] [0, 1, 5])
 (.seq (.ops [o 6 (.mv (ci 0))] [0, 1, 5, 6])
 (.seq (.seq (.ops [o 7 (.mv (ci 0))] [0, 1, 5, 6, 7])
 (.block 0 (.loop false [0, 1, 5, 6, 7] c74L0)))
 (.seq (.ops [mt 28 5, mt 29 0, mt 30 6, o 31 (.slcs (.t 29) (some (.t 30)) none), o 32 (.bslice false 1 zl9 1 [(0, .t 31)]), o 33 (.app 1 16 zl9 (.t 28) (.t 32)), mt 4 33] [4])
 (.ret)))))⟩

def c75 : AFunc := ⟨18, [.tmp 4, .tmp 5],
 .seq (.ops [o 2 (.box false (.t 0)), o 4 (.mv (cn)), o 5 (.mv (ci 0))] [1, 2])
 (.seq (.ops [o 10 (.ld true 5 (.t 2)), mt 11 1, o 12 (.call true false 0 (.fn 88) [.t 10, .t 11]), mt 9 12, o 13 (.ext (.t 9) 0), o 14 (.ext (.t 9) 1), o 15 (.ext (.t 9) 2), mt 6 13, mt 7 14, mt 8 15] [6, 8])
 (.seq (.ops [mt 16 6, mt 17 8, mt 4 16, mt 5 17] [4, 5])
 (.ret)))⟩

def c76L0 : ACode :=
 .seq (.seq (.ops [mt 10 8, mt 11 1, o 12 (.len 1 (.t 11)), o 13 (.bin .lss (.t 10) (.t 12))] [1, 2, 6, 7, 8, 13])
 (.cond (.t 13)
 (.skip)
 (.exit 0)))
 (.seq (.block 1 (.seq (.seq (.opsd [(0, 1), (1, 1), (2, 1), (3, 1), (4, 1), (5, 0), (6, 1), (7, 1)] [o 16 (.ld true 15 (.t 7)), mt 17 1, mt 18 8, o 19 (.iadr 6 (.t 17) (.t 18)), o 20 (.ld true 6 (.t 19)), o 21 (.call true false 0 (.fn 27) [.t 16, .t 20]), o 22 (.len 1 (.t 21)), o 23 (.bin .gtr (.t 22) (ci 0))] [1, 2, 6, 7, 8, 23])
 (.cond (.t 23)
 (.seq (.ops [mt 24 6, mt 25 8, mt 4 24, mt 5 25] [4, 5])
 (.ret))
 (.skip)))
 (.seq (.opsd [(0, 1), (1, 1), (2, 1), (3, 1), (4, 1), (5, 1), (6, 0), (7, 0)] [o 26 (.ld true 5 (.t 2)), o 27 (.ld true 15 (.t 7)), mt 28 1, mt 29 8, o 30 (.iadr 6 (.t 28) (.t 29)), o 31 (.ld true 6 (.t 30)), o 32 (.call true true 0 (.fn 133) [.t 26, .t 27, .t 31]), u (.st 15 (.t 7) (.t 32))] [1, 2, 6, 7, 8])
 (.ops [mt 33 6, o 34 (.ld true 15 (.t 7)), o 35 (.bslice false 15 zl1 1 [(0, .t 34)]), o 36 (.app 15 56 zl1 (.t 33) (.t 35)), mt 6 36] [1, 2, 6, 7, 8]))))
 (.ops [mt 14 8, o 15 (.bin .add (.t 14) (ci 1)), mt 8 15] [1, 2, 6, 7, 8]))
def c76 : AFunc := ⟨38, [.tmp 4, .tmp 5],
 .seq (.ops [o 2 (.box false (.t 0)), o 4 (.mv (cn)), o 5 (.mv (ci 0))] [1, 2])
 (.seq (.ops [o 6 (.nilown 15)] [1, 2, 6])
 (.seq (.ops [o 9 (.call true true 0 (.fn 98) []), o 7 (.alloc true 1 zl1), u (.st 15 (.t 7) (.t 9))] [1, 2, 6, 7])
 (.seq (.seq (.ops [o 8 (.mv (ci 0))] [1, 2, 6, 7, 8])
 (.block 0 (.loop false [1, 2, 6, 7, 8] c76L0)))
 (.seq (.ops [mt 37 6, mt 4 37, o 5 (.mv (ci (-1)))] [4, 5])
 (.ret)))))⟩

def c79 : AFunc := ⟨14, [.tmp 2],
 .seq (.ops [o 1 (.box true (.t 0)), o 2 (.mv (ci 0))] [1])
 (.seq (.opsd [(0, 1), (1, 1), (2, 1), (3, 1), (4, 1), (5, 1), (6, 1), (7, 1), (8, 0), (9, 0), (10, 0), (11, 1)] [o 3 (.iadra 1 3 (.t 1) (ci 0)), o 4 (.ld false 1 (.t 3)), o 5 (.call true true 0 (.fn 24) [.t 4, ci 0, ci 100000]), o 6 (.iadra 1 3 (.t 1) (ci 1)), o 7 (.ld false 1 (.t 6)), o 8 (.call true true 0 (.fn 24) [.t 7, ci 0, ci 100000]), o 9 (.iadra 1 3 (.t 1) (ci 2)), o 10 (.ld false 1 (.t 9)), o 11 (.call true true 0 (.fn 24) [.t 10, ci 0, ci 100000]), o 12 (.bslice false 1 zl8 3 [(0, .t 5), (1, .t 8), (2, .t 11)]), o 13 (.call true true 0 (.fn 23) [.t 12]), mt 2 13] [2])
 (.ret))⟩

def c80L0 : ACode :=
 .seq (.seq (.ops [mt 13 8, mt 14 6, o 15 (.fadr 2 (.t 2)), o 16 (.iadra 1 3 (.t 15) (.t 14)), o 17 (.ld false 1 (.t 16)), o 18 (.len 1 (.t 17)), o 19 (.bin .lss (.t 13) (.t 18))] [2, 3, 5, 6, 7, 8, 19])
 (.cond (.t 19)
 (.skip)
 (.exit 2)))
 (.seq (.block 3 (.seq (.opsd [(0, 1), (1, 1), (2, 1), (3, 1), (4, 1), (5, 1), (6, 1), (7, 1), (8, 1), (9, 1), (10, 1), (11, 1)] [mt 22 6, o 23 (.fadr 2 (.t 2)), o 24 (.iadra 1 3 (.t 23) (.t 22)), o 25 (.ld false 1 (.t 24)), mt 26 8, o 27 (.iadr 2 (.t 25) (.t 26)), o 28 (.fadr 0 (.t 27)), o 29 (.ld false 1 (.t 28)), mt 30 6, o 31 (.iadra 1 3 (.t 3) (.t 30)), o 32 (.ld false 1 (.t 31)), o 33 (.bin .leq (.t 29) (.t 32))] [2, 3, 5, 6, 7, 8, 33])
 (.cond (.t 33)
 (.ops [mt 34 6, o 35 (.fadr 2 (.t 2)), o 36 (.iadra 1 3 (.t 35) (.t 34)), o 37 (.ld false 1 (.t 36)), mt 38 8, o 39 (.iadr 2 (.t 37) (.t 38)), o 40 (.fadr 1 (.t 39)), o 41 (.ld false 1 (.t 40)), mt 7 41] [2, 3, 5, 6, 7, 8])
 (.skip))))
 (.ops [mt 20 8, o 21 (.bin .add (.t 20) (ci 1)), mt 8 21] [2, 3, 5, 6, 7, 8]))
def c80L1 : ACode :=
 .seq (.seq (.ops [mt 9 6, o 10 (.bin .lss (.t 9) (ci 3))] [2, 3, 5, 6, 10])
 (.cond (.t 10)
 (.skip)
 (.exit 0)))
 (.seq (.block 1 (.seq (.ops [o 7 (.mv (ci 0))] [2, 3, 5, 6, 7])
 (.seq (.seq (.ops [o 8 (.mv (ci 0))] [2, 3, 5, 6, 7, 8])
 (.block 2 (.loop false [2, 3, 5, 6, 7, 8] c80L0)))
 (.ops [mt 42 5, mt 43 7, o 44 (.max [.t 42, .t 43]), mt 5 44] [2, 3, 5, 6]))))
 (.ops [mt 11 6, o 12 (.bin .add (.t 11) (ci 1)), mt 6 12] [2, 3, 5, 6]))
def c80 : AFunc := ⟨46, [.tmp 4],
 .seq (.ops [o 2 (.box false (.t 0)), o 3 (.box true (.t 1)), o 4 (.mv (ci 0))] [2, 3])
 (.seq (.ops [o 5 (.mv (ci 0))] [2, 3, 5])
 (.seq (.seq (.ops [o 6 (.mv (ci 0))] [2, 3, 5, 6])
 (.block 0 (.loop false [2, 3, 5, 6] c80L1)))
 (.seq (.ops [mt 45 5, mt 4 45] [4])
 (.ret))))⟩

def c81 : AFunc := ⟨15, [.tmp 2],
 .seq (.ops [o 1 (.box true (.t 0)), o 2 (.mv (ci 0))] [1])
 (.seq (.opsd [(0, 1), (1, 1), (2, 1), (3, 1), (4, 1), (5, 1), (6, 1), (7, 1), (8, 0), (9, 0), (10, 0), (11, 0), (12, 1)] [o 3 (.fadr 0 (.t 1)), o 4 (.ld false 1 (.t 3)), o 5 (.call true true 0 (.fn 92) [.t 4, ci 1, ci 8]), o 6 (.fadr 1 (.t 1)), o 7 (.ld false 1 (.t 6)), o 8 (.call true true 0 (.fn 92) [.t 7, ci 0, ci 1000000]), o 9 (.fadr 2 (.t 1)), o 10 (.slca 1 3 (.t 9) none none), o 11 (.call true false 0 (.fn 134) [.t 10, cf 135]), o 12 (.call true true 0 (.fn 91) [.t 11]), o 13 (.bslice false 1 zl8 3 [(0, .t 5), (1, .t 8), (2, .t 12)]), o 14 (.call true true 0 (.fn 91) [.t 13]), mt 2 14] [2])
 (.ret))⟩

def c83 : AFunc := ⟨11, [.cell 0 true 5],
 .seq (.ops [o 0 (.alloc false 1 zl4)] [0])
 (.seq (.ops [o 1 (.build zl6 []), o 2 (.build zl6 [(0, 1, ci 50), (1, 1, ci 30)]), o 3 (.bslice false 2 zl6 2 [(0, .t 1), (1, .t 2)]), o 4 (.build zl6 []), o 5 (.build zl6 [(0, 1, ci 80), (1, 1, ci 20)]), o 6 (.bslice false 2 zl6 2 [(0, .t 4), (1, .t 5)]), o 7 (.build zl6 [(1, 1, ci 5)]), o 8 (.bslice false 2 zl6 1 [(0, .t 7)]), o 9 (.build [.p (.nils), .p (.nils), .p (.nils)] [(0, 1, .t 3), (1, 1, .t 6), (2, 1, .t 8)]), o 10 (.build zl4 [(0, 1, ci 2), (1, 1, ci 10), (2, 3, .t 9)]), u (.st 5 (.t 0) (.t 10))] [0])
 (.ret))⟩

def c84 : AFunc := ⟨10, [.tmp 0],
 .seq (.ops [o 0 (.nilown 6)] [])
 (.seq (.ops [o 1 (.build zl2 [(0, 1, ci 1), (1, 1, cs [111, 112, 101, 110])]), o 2 (.build zl2 [(0, 1, ci 2), (1, 1, cs [101, 110, 116, 101, 114])]), o 3 (.build zl2 [(0, 1, ci 3), (1, 1, cs [105, 110, 115, 101, 114, 116])]), o 4 (.build zl2 [(0, 1, ci 3), (1, 1, cs [105, 110, 115, 101, 114, 116]), (2, 1, ci 1)]), o 5 (.build zl2 [(0, 1, ci 4), (1, 1, cs [108, 101, 97, 118, 101])]), o 6 (.build zl2 [(0, 1, ci 5), (1, 1, cs [99, 108, 111, 115, 101])]), o 7 (.build zl2 [(0, 1, ci 6), (1, 1, cs [97, 114, 109])]), o 8 (.build zl2 [(0, 1, ci 8), (1, 1, cs [115, 104, 111, 111, 116])]), o 9 (.bslice true 6 zl2 8 [(0, .t 1), (1, .t 2), (2, .t 3), (3, .t 4), (4, .t 5), (5, .t 6), (6, .t 7), (7, .t 8)]), mt 0 9] [0])
 (.ret))⟩

def c85 : AFunc := ⟨5, [.tmp 0],
 .seq (.ops [o 0 (.mv (cn))] [])
 (.seq (.ops [o 1 (.build zl3 [(0, 1, cs [112]), (4, 1, ci 5), (5, 1, ci 3)]), o 2 (.build zl3 [(0, 1, cs [113]), (2, 1, ci 1), (3, 1, ci 1), (4, 1, ci 4)]), o 3 (.build zl3 [(0, 1, cs [114]), (1, 1, ci 1), (3, 1, ci 1), (4, 1, ci 2), (5, 1, ci 9)]), o 4 (.bslice false 6 zl3 3 [(0, .t 1), (1, .t 2), (2, .t 3)]), mt 0 4] [0])
 (.ret))⟩

def c86L0 : ACode :=
 .seq (.ops [o 23 (.bin .lss (.t 22) (.t 21))] [2, 20, 21, 22, 23])
 (.seq (.cond (.t 23)
 (.skip)
 (.exit 0))
 (.seq (.block 1 (.seq (.ops [o 24 (.iadr 6 (.t 20) (.t 22)), o 25 (.ld true 6 (.t 24)), o 7 (.alloc true 1 zl2), u (.st 6 (.t 7) (.t 25))] [2, 7, 20, 21, 22])
 (.seq (.ops [o 26 (.ld true 6 (.t 7)), o 27 (.ld true 5 (.t 2)), o 28 (.call true true 0 (.fn 87) [.t 26, .t 27]), mt 8 28] [2, 8, 20, 21, 22])
 (.seq (.ops [mt 29 8, o 30 (.bin .neq (.t 29) (ci 0))] [2, 8, 20, 21, 22, 30])
 (.cond (.t 30)
 (.seq (.ops [mt 31 8, mt 4 31] [4])
 (.ret))
 (.skip))))))
 (.ops [o 32 (.bin .add (.t 22) (ci 1)), mt 22 32] [2, 20, 21, 22])))
def c86 : AFunc := ⟨33, [.tmp 4],
 .seq (.ops [o 2 (.box false (.t 0)), o 4 (.mv (ci 0))] [1, 2])
 (.seq (.seq (.ops [o 9 (.ld true 5 (.t 2)), o 10 (.call true true 0 (.fn 81) [.t 9]), mt 11 1, o 12 (.len 1 (.t 11)), o 13 (.bin .gtr (.t 12) (ci 1000)), o 14 (.call true true 0 (.fn 104) [.t 13, ci 5]), o 15 (.bslice false 1 zl8 2 [(0, .t 10), (1, .t 14)]), o 16 (.call true true 0 (.fn 91) [.t 15]), mt 5 16] [1, 2, 5])
 (.seq (.ops [mt 17 5, o 18 (.bin .neq (.t 17) (ci 0))] [1, 2, 5, 18])
 (.cond (.t 18)
 (.seq (.ops [mt 19 5, mt 4 19] [4])
 (.ret))
 (.skip))))
 (.seq (.seq (.ops [mt 20 1, o 21 (.len 1 (.t 20)), o 22 (.mv (ci 0))] [2, 20, 21, 22])
 (.block 0 (.loop true [2, 20, 21, 22] c86L0)))
 (.seq (.ops [o 4 (.mv (ci 0))] [4])
 (.ret))))⟩

def c87 : AFunc := ⟨48, [.tmp 4],
 .seq (.ops [o 2 (.box true (.t 0)), o 3 (.box false (.t 1)), o 4 (.mv (ci 0))] [2, 3])
 (.seq (.seq (.ops [o 8 (.fadr 0 (.t 2)), o 9 (.ld false 1 (.t 8)), o 10 (.call true true 0 (.fn 92) [.t 9, ci 0, ci 100000000]), mt 5 10] [2, 3, 5])
 (.seq (.ops [mt 11 5, o 12 (.bin .neq (.t 11) (ci 0))] [2, 3, 5, 12])
 (.cond (.t 12)
 (.seq (.ops [mt 13 5, mt 4 13] [4])
 (.ret))
 (.skip))))
 (.seq (.opsd [(0, 1), (1, 1), (2, 1), (3, 1), (4, 1), (5, 1), (6, 1), (7, 1), (8, 1)] [o 15 (.call true false 0 (.fn 136) []), o 16 (.fadr 1 (.t 2)), o 17 (.ld false 1 (.t 16)), o 18 (.lkup 1 (.p (.int .i64 0)) (.t 15) (.t 17) true), mt 14 18, o 19 (.ext (.t 14) 0), o 20 (.ext (.t 14) 1), mt 6 19, mt 7 20] [2, 3, 6, 7])
 (.seq (.seq (.ops [mt 21 7, o 22 (.not (.t 21))] [2, 3, 6, 22])
 (.cond (.t 22)
 (.seq (.ops [o 4 (.mv (ci 13))] [4])
 (.ret))
 (.skip)))
 (.seq (.seq (.opsd [(0, 1), (1, 1), (2, 1), (3, 1), (4, 1), (5, 1), (6, 1), (7, 1), (8, 1), (9, 1), (10, 1), (11, 1), (12, 1), (13, 1)] [o 23 (.fadr 2 (.t 2)), o 24 (.ld false 1 (.t 23)), o 25 (.bin .lss (.t 24) (ci 0)), mt 26 25, ⟨some 27, .fadr 2 (.t 2), some (26, false)⟩, ⟨some 28, .ld false 1 (.t 27), some (26, false)⟩, ⟨some 29, .mv (.t 6), some (26, false)⟩, ⟨some 30, .iadra 4 10 (.g 0) (.t 29), some (26, false)⟩, ⟨some 31, .fadr 1 (.t 30), some (26, false)⟩, ⟨some 32, .ld false 1 (.t 31), some (26, false)⟩, ⟨some 33, .ld true 5 (.t 3), some (26, false)⟩, ⟨some 34, .call false true 0 (.val (.t 32)) [.t 33], some (26, false)⟩, ⟨some 35, .bin .geq (.t 28) (.t 34), some (26, false)⟩, o 36 (.pick (.t 26) (cb true) (.t 35))] [2, 36])
 (.cond (.t 36)
 (.seq (.ops [o 4 (.mv (ci 10))] [4])
 (.ret))
 (.skip)))
 (.seq (.seq (.ops [o 37 (.ld true 6 (.t 2)), o 38 (.bslice false 1 zl9 1 [(0, cs [109, 101, 97, 115, 117, 114, 101])]), o 39 (.call true true 0 (.fn 93) [.t 37, .t 38])] [2, 39])
 (.cond (.t 39)
 (.seq (.ops [o 40 (.fadr 3 (.t 2)), o 41 (.ld true 3 (.t 40)), o 42 (.call true true 0 (.fn 131) [.t 41]), mt 4 42] [4])
 (.ret))
 (.skip)))
 (.seq (.ops [o 43 (.fadr 3 (.t 2)), o 44 (.ld true 3 (.t 43)), o 45 (.build zl5 []), o 46 (.eqagg [0, 0, 0] true (.t 44) (.t 45)), o 47 (.call true true 0 (.fn 104) [.t 46, ci 1]), mt 4 47] [4])
 (.ret)))))))⟩

def c88A0 : ACode :=
 .ops [o 10 (.alloc true 1 zl1), u (.st 15 (.t 10) (.t 21))] [8, 10]
def c88B0 : ACode :=
 .block 1 (.ops [o 22 (.ld false 1 (.t 8)), o 23 (.ld true 15 (.t 10)), o 24 (.bslice false 15 zl1 1 [(0, .t 23)]), o 25 (.app 15 56 zl1 (.t 22) (.t 24)), u (.st 1 (.t 8) (.t 25))] [])
def c88 : AFunc := ⟨34, [.tmp 4, .tmp 5, .tmp 6],
 .seq (.ops [o 2 (.box false (.t 0)), o 4 (.mv (cn)), o 5 (.mv (ci 0)), o 6 (.mv (ci 0))] [1, 2, 4, 5, 6])
 (.seq (.seq (.ops [o 11 (.ld true 5 (.t 2)), mt 12 1, o 13 (.call true true 0 (.fn 86) [.t 11, .t 12]), mt 7 13] [1, 2, 4, 5, 6, 7])
 (.seq (.ops [mt 14 7, o 15 (.bin .neq (.t 14) (ci 0))] [1, 2, 4, 5, 6, 7, 15])
 (.cond (.t 15)
 (.seq (.ops [mt 16 7, o 4 (.mv (cn)), o 5 (.mv (ci 0)), mt 6 16] [4, 5, 6])
 (.ret))
 (.skip))))
 (.seq (.ops [o 8 (.allocown 15)] [1, 2, 4, 5, 6, 8])
 (.seq (.seq (.ops [o 17 (.ld true 5 (.t 2)), mt 18 1, o 19 (.call true false 0 (.fn 137) [.t 17, .t 18])] [1, 4, 5, 6, 8, 19])
 (.block 0 (.rfun (.t 19) [20, 21] c88A0 c88B0)))
 (.seq (.seq (.ops [o 26 (.ld false 1 (.t 8)), o 27 (.len 1 (.t 26)), mt 28 1, o 29 (.len 1 (.t 28)), o 30 (.bin .lss (.t 27) (.t 29))] [8, 30])
 (.cond (.t 30)
 (.seq (.opsd [(0, 1), (1, 1), (2, 1), (3, 1), (4, 1)] [o 31 (.ld false 1 (.t 8)), o 32 (.len 1 (.t 31)), o 4 (.mv (cn)), mt 5 32, o 6 (.mv (ci 21))] [4, 5, 6])
 (.ret))
 (.skip)))
 (.seq (.ops [o 33 (.ld false 1 (.t 8)), mt 4 33, o 5 (.mv (ci 0)), o 6 (.mv (ci 0))] [4, 5, 6])
 (.ret))))))⟩

def c89 : AFunc := ⟨13, [.cell 2 true 15],
 .seq (.ops [o 2 (.alloc true 1 zl1)] [0, 2])
 (.seq (.seq (.ops [mt 3 0, o 4 (.len 1 (.t 3)), o 5 (.bin .eql (.t 4) (ci 0))] [0, 2, 5])
 (.cond (.t 5)
 (.seq (.ops [o 6 (.call true true 0 (.fn 138) []), u (.st 15 (.t 2) (.t 6))] [2])
 (.ret))
 (.skip)))
 (.seq (.ops [mt 7 0, mt 8 0, o 9 (.len 1 (.t 8)), o 10 (.bin .sub (.t 9) (ci 1)), o 11 (.iadr 15 (.t 7) (.t 10)), o 12 (.ld true 15 (.t 11)), u (.st 15 (.t 2) (.t 12))] [2])
 (.ret)))⟩

def c90L0 : ACode :=
 .seq (.ops [o 10 (.bin .lss (.t 9) (ci 7))] [2, 3, 5, 8, 9, 10])
 (.seq (.cond (.t 10)
 (.skip)
 (.exit 0))
 (.seq (.block 1 (.seq (.ops [o 11 (.idx true 2 7 (.t 8) (.t 9)), o 7 (.alloc false 1 [.p (.str []), .p (.nilf)]), u (.st 2 (.t 7) (.t 11))] [2, 3, 5, 7, 8, 9])
 (.seq (.ops [o 12 (.fadr 1 (.t 7)), o 13 (.ld false 1 (.t 12)), o 14 (.ld true 15 (.t 2)), o 15 (.ld true 6 (.t 3)), o 16 (.call false true 0 (.val (.t 13)) [.t 14, .t 15])] [2, 3, 5, 7, 8, 9, 16])
 (.cond (.t 16)
 (.ops [mt 17 5, o 18 (.fadr 0 (.t 7)), o 19 (.ld false 1 (.t 18)), o 20 (.bslice false 1 zl9 1 [(0, .t 19)]), o 21 (.app 1 16 zl9 (.t 17) (.t 20)), mt 5 21] [2, 3, 5, 8, 9])
 (.skip)))))
 (.ops [o 22 (.bin .add (.t 9) (ci 1)), mt 9 22] [2, 3, 5, 8, 9])))
def c90 : AFunc := ⟨24, [.tmp 4],
 .seq (.ops [o 2 (.box true (.t 0)), o 3 (.box true (.t 1)), o 4 (.mv (cn))] [2, 3])
 (.seq (.ops [o 5 (.nilown 1)] [2, 3, 5])
 (.seq (.seq (.ops [o 8 (.ld true 14 (.g 1)), o 9 (.mv (ci 0))] [2, 3, 5, 8, 9])
 (.block 0 (.loop true [2, 3, 5, 8, 9] c90L0)))
 (.seq (.ops [mt 23 5, mt 4 23] [4])
 (.ret))))⟩

def c91L0 : ACode :=
 .seq (.ops [o 8 (.bin .lss (.t 7) (.t 6))] [5, 6, 7, 8])
 (.seq (.cond (.t 8)
 (.skip)
 (.exit 0))
 (.seq (.block 1 (.seq (.ops [o 9 (.iadr 1 (.t 5) (.t 7)), o 10 (.ld false 1 (.t 9)), mt 4 10] [4, 5, 6, 7])
 (.seq (.ops [mt 11 4, o 12 (.bin .neq (.t 11) (ci 0))] [4, 5, 6, 7, 12])
 (.cond (.t 12)
 (.seq (.ops [mt 13 4, mt 2 13] [2])
 (.ret))
 (.skip)))))
 (.ops [o 14 (.bin .add (.t 7) (ci 1)), mt 7 14] [5, 6, 7])))
def c91 : AFunc := ⟨15, [.tmp 2],
 .seq (.ops [o 2 (.mv (ci 0))] [0])
 (.seq (.seq (.ops [mt 5 0, o 6 (.len 1 (.t 5)), o 7 (.mv (ci 0))] [5, 6, 7])
 (.block 0 (.loop false [5, 6, 7] c91L0)))
 (.seq (.ops [o 2 (.mv (ci 0))] [2])
 (.ret)))⟩

def c92 : AFunc := ⟨16, [.tmp 6],
 .seq (.ops [o 6 (.mv (ci 0))] [0, 1, 2])
 (.seq (.ops [mt 7 0, mt 8 1, o 9 (.bin .lss (.t 7) (.t 8)), mt 10 9, ⟨some 11, .mv (.t 0), some (10, false)⟩, ⟨some 12, .mv (.t 2), some (10, false)⟩, ⟨some 13, .bin .gtr (.t 11) (.t 12), some (10, false)⟩, o 14 (.pick (.t 10) (cb true) (.t 13)), o 15 (.call true true 0 (.fn 104) [.t 14, ci 3]), mt 6 15] [6])
 (.ret))⟩

def c93 : AFunc := ⟨9, [.tmp 4],
 .seq (.ops [o 2 (.box true (.t 0)), o 4 (.mv (cb false))] [1, 2])
 (.seq (.ops [mt 5 1, o 6 (.fadr 1 (.t 2)), o 7 (.ld false 1 (.t 6)), o 8 (.call true true 0 (.fn 139) [.t 5, .t 7]), mt 4 8] [4])
 (.ret))⟩

def c94 : AFunc := ⟨7, [.tmp 4],
 .seq (.ops [o 4 (.mv (ci 0))] [0, 1])
 (.seq (.seq (.ops [mt 5 0] [1, 5])
 (.cond (.t 5)
 (.seq (.ops [mt 6 1, mt 4 6] [4])
 (.ret))
 (.skip)))
 (.seq (.ops [o 4 (.mv (ci 0))] [4])
 (.ret)))⟩

def c95 : AFunc := ⟨2, [.tmp 0],
 .seq (.ops [o 0 (.mv (cn))] [])
 (.seq (.ops [o 1 (.bslice false 1 zl9 10 [(0, cs [111, 112, 101, 110]), (1, cs [99, 108, 111, 115, 101]), (2, cs [105, 110, 115, 101, 114, 116]), (3, cs [114, 101, 109, 111, 118, 101]), (4, cs [101, 110, 116, 101, 114]), (5, cs [108, 101, 97, 118, 101]), (6, cs [97, 114, 109]), (7, cs [100, 105, 115, 97, 114, 109]), (8, cs [115, 104, 111, 111, 116]), (9, cs [109, 101, 97, 115, 117, 114, 101])]), mt 0 1] [0])
 (.ret))⟩

def c96 : AFunc := ⟨17, [.tmp 2],
 .seq (.ops [o 2 (.mv (cb false))] [0])
 (.seq (.ops [mt 3 0, o 4 (.bin .eql (.t 3) (cs [111, 112, 101, 110])), mt 5 4, ⟨some 6, .mv (.t 0), some (5, false)⟩, ⟨some 7, .bin .eql (.t 6) (cs [99, 108, 111, 115, 101]), some (5, false)⟩, o 8 (.pick (.t 5) (cb true) (.t 7)), mt 9 8, ⟨some 10, .mv (.t 0), some (9, false)⟩, ⟨some 11, .bin .eql (.t 10) (cs [101, 110, 116, 101, 114]), some (9, false)⟩, o 12 (.pick (.t 9) (cb true) (.t 11)), mt 13 12, ⟨some 14, .mv (.t 0), some (13, false)⟩, ⟨some 15, .bin .eql (.t 14) (cs [108, 101, 97, 118, 101]), some (13, false)⟩, o 16 (.pick (.t 13) (cb true) (.t 15)), mt 2 16] [2])
 (.ret))⟩

def c97 : AFunc := ⟨9, [.tmp 2],
 .seq (.ops [o 2 (.mv (cb false))] [0])
 (.seq (.ops [mt 3 0, o 4 (.bin .eql (.t 3) (cs [105, 110, 115, 101, 114, 116])), mt 5 4, ⟨some 6, .mv (.t 0), some (5, false)⟩, ⟨some 7, .bin .eql (.t 6) (cs [114, 101, 109, 111, 118, 101]), some (5, false)⟩, o 8 (.pick (.t 5) (cb true) (.t 7)), mt 2 8] [2])
 (.ret))⟩

def c98 : AFunc := ⟨2, [.cell 0 true 15],
 .seq (.ops [o 0 (.alloc true 1 zl1)] [0])
 (.seq (.ops [o 1 (.build zl1 [(13, 1, ci (-1))]), u (.st 15 (.t 0) (.t 1))] [0])
 (.ret))⟩

def c99L0 : ACode :=
 .seq (.ops [o 28 (.bin .lss (.t 27) (.t 26))] [2, 8, 11, 25, 26, 27, 28])
 (.seq (.cond (.t 28)
 (.skip)
 (.exit 0))
 (.seq (.block 1 (.seq (.ops [mt 29 27, o 30 (.iadr 15 (.t 25) (.t 27)), o 31 (.ld true 15 (.t 30)), o 13 (.alloc true 1 zl1), mt 12 29, u (.st 15 (.t 13) (.t 31))] [2, 8, 11, 12, 13, 25, 26, 27])
 (.seq (.seq (.ops [mt 32 2, o 33 (.ld true 15 (.t 13)), o 34 (.call false true 0 (.val (.t 32)) [.t 33]), o 35 (.not (.t 34)), mt 36 35, ⟨some 37, .mv (.t 12), some (36, false)⟩, ⟨some 38, .bin .add (.t 37) (ci 1), some (36, false)⟩, ⟨some 39, .mv (.t 8), some (36, false)⟩, ⟨some 40, .len 1 (.t 39), some (36, false)⟩, ⟨some 41, .bin .eql (.t 38) (.t 40), some (36, false)⟩, o 42 (.pick (.t 36) (cb true) (.t 41))] [2, 8, 11, 12, 13, 25, 26, 27, 42])
 (.cond (.t 42)
 (.exit 1)
 (.skip)))
 (.seq (.opsd [(0, 1), (1, 1), (2, 1), (3, 1), (4, 1), (5, 1), (6, 1), (7, 1), (8, 1), (9, 2), (10, 0)] [o 43 (.fadr 0 (.t 13)), o 44 (.ld false 1 (.t 43)), mt 45 8, mt 46 12, o 47 (.bin .add (.t 46) (ci 1)), o 48 (.iadr 15 (.t 45) (.t 47)), o 49 (.fadr 0 (.t 48)), o 50 (.ld false 1 (.t 49)), o 51 (.build zl6 [(0, 1, .t 44), (1, 1, .t 50)]), o 14 (.alloc true 1 zl6), u (.st 2 (.t 14) (.t 51))] [2, 8, 11, 14, 25, 26, 27])
 (.block 2 (.seq (.ops [o 57 (.fadr 0 (.t 14)), o 58 (.ld false 1 (.t 57)), o 59 (.fadr 1 (.t 14)), o 60 (.ld false 1 (.t 59)), o 61 (.bin .eql (.t 58) (.t 60)), mt 56 61] [2, 8, 11, 14, 25, 26, 27, 56])
 (.cond (.t 56)
 (.skip)
 (.seq (.opsd [(0, 1), (1, 1), (2, 1), (3, 1), (4, 1), (5, 1), (6, 1), (7, 1), (8, 1), (9, 1), (10, 1), (11, 1), (12, 1), (13, 1), (14, 1), (15, 1)] [mt 63 11, o 64 (.len 1 (.t 63)), o 65 (.bin .gtr (.t 64) (ci 0)), mt 66 65, ⟨some 67, .mv (.t 11), some (66, true)⟩, ⟨some 68, .mv (.t 11), some (66, true)⟩, ⟨some 69, .len 1 (.t 68), some (66, true)⟩, ⟨some 70, .bin .sub (.t 69) (ci 1), some (66, true)⟩, ⟨some 71, .iadr 2 (.t 67) (.t 70), some (66, true)⟩, ⟨some 72, .fadr 1 (.t 71), some (66, true)⟩, ⟨some 73, .ld false 1 (.t 72), some (66, true)⟩, ⟨some 74, .fadr 0 (.t 14), some (66, true)⟩, ⟨some 75, .ld false 1 (.t 74), some (66, true)⟩, ⟨some 76, .bin .eql (.t 73) (.t 75), some (66, true)⟩, o 77 (.pick (.t 66) (.t 76) (cb false)), mt 62 77] [2, 8, 11, 14, 25, 26, 27, 62])
 (.cond (.t 62)
 (.ops [mt 78 11, mt 79 11, o 80 (.len 1 (.t 79)), o 81 (.bin .sub (.t 80) (ci 1)), o 82 (.fadr 1 (.t 14)), o 83 (.ld false 1 (.t 82)), o 84 (.iadr 2 (.t 78) (.t 81)), o 85 (.fadr 1 (.t 84)), u (.st 1 (.t 85) (.t 83))] [2, 8, 11, 25, 26, 27])
 (.ops [mt 52 11, o 53 (.ld true 2 (.t 14)), o 54 (.bslice false 2 zl6 1 [(0, .t 53)]), o 55 (.app 2 16 zl6 (.t 52) (.t 54)), mt 11 55] [2, 8, 11, 25, 26, 27]))))))))))
 (.ops [o 86 (.bin .add (.t 27) (ci 1)), mt 27 86] [2, 8, 11, 25, 26, 27])))
def c99 : AFunc := ⟨88, [.tmp 6, .tmp 7],
 .seq (.ops [o 3 (.box false (.t 0)), o 6 (.mv (cn)), o 7 (.mv (ci 0))] [1, 2, 3])
 (.seq (.ops [o 16 (.ld true 5 (.t 3)), mt 17 1, o 18 (.call true false 0 (.fn 88) [.t 16, .t 17]), mt 15 18, o 19 (.ext (.t 15) 0), o 20 (.ext (.t 15) 1), o 21 (.ext (.t 15) 2), mt 8 19, mt 9 20, mt 10 21] [2, 8, 10])
 (.seq (.seq (.ops [mt 22 10, o 23 (.bin .neq (.t 22) (ci 0))] [2, 8, 10, 23])
 (.cond (.t 23)
 (.seq (.ops [mt 24 10, o 6 (.mv (cn)), mt 7 24] [6, 7])
 (.ret))
 (.skip)))
 (.seq (.ops [o 11 (.nilown 2)] [2, 8, 11])
 (.seq (.seq (.ops [mt 25 8, o 26 (.len 1 (.t 25)), o 27 (.mv (ci 0))] [2, 8, 11, 25, 26, 27])
 (.block 0 (.loop true [2, 8, 11, 25, 26, 27] c99L0)))
 (.seq (.ops [mt 87 11, mt 6 87, o 7 (.mv (ci 0))] [6, 7])
 (.ret))))))⟩

def c100 : AFunc := ⟨6, [.tmp 2],
 .seq (.ops [o 1 (.box true (.t 0)), o 2 (.mv (cb false))] [1])
 (.seq (.ops [o 3 (.fadr 11 (.t 1)), o 4 (.ld false 1 (.t 3)), o 5 (.bin .gtr (.t 4) (ci 0)), mt 2 5] [2])
 (.ret))⟩

def c101 : AFunc := ⟨5, [.tmp 2],
 .seq (.ops [o 1 (.box true (.t 0)), o 2 (.mv (cb false))] [1])
 (.seq (.ops [o 3 (.fadr 12 (.t 1)), o 4 (.ld false 1 (.t 3)), mt 2 4] [2])
 (.ret))⟩

def c103 : AFunc := ⟨5, [.tmp 2],
 .seq (.ops [o 2 (.mv (ci 0))] [0])
 (.seq (.ops [mt 3 0, o 4 (.call true true 0 (.fn 92) [.t 3, ci (-100000), ci 100000]), mt 2 4] [2])
 (.ret))⟩

def c104 : AFunc := ⟨7, [.tmp 4],
 .seq (.ops [o 4 (.mv (ci 0))] [0, 1])
 (.seq (.seq (.ops [mt 5 0] [1, 5])
 (.cond (.t 5)
 (.seq (.ops [mt 6 1, mt 4 6] [4])
 (.ret))
 (.skip)))
 (.seq (.ops [o 4 (.mv (ci 0))] [4])
 (.ret)))⟩

def c105L0 : ACode :=
 .seq (.ops [o 11 (.bin .lss (.t 10) (.t 9))] [1, 5, 8, 9, 10, 11])
 (.seq (.cond (.t 11)
 (.skip)
 (.exit 0))
 (.seq (.block 1 (.seq (.ops [o 12 (.iadr 1 (.t 8) (.t 10)), o 13 (.ld false 1 (.t 12)), mt 7 13] [1, 5, 7, 8, 9, 10])
 (.ops [mt 14 5, mt 15 1, mt 16 7, o 17 (.call false true 0 (.val (.t 15)) [.t 16]), o 18 (.bslice false 1 zl8 1 [(0, .t 17)]), o 19 (.app 1 8 zl8 (.t 14) (.t 18)), mt 5 19] [1, 5, 8, 9, 10])))
 (.ops [o 20 (.bin .add (.t 10) (ci 1)), mt 10 20] [1, 5, 8, 9, 10])))
def c105 : AFunc := ⟨22, [.tmp 4],
 .seq (.ops [o 4 (.mv (cn))] [0, 1])
 (.seq (.ops [o 5 (.nilown 1)] [0, 1, 5])
 (.seq (.seq (.ops [mt 8 0, o 9 (.len 1 (.t 8)), o 10 (.mv (ci 0))] [1, 5, 8, 9, 10])
 (.block 0 (.loop true [1, 5, 8, 9, 10] c105L0)))
 (.seq (.ops [mt 21 5, mt 4 21] [4])
 (.ret))))⟩

def c106 : AFunc := ⟨14, [.tmp 3],
 .seq (.ops [o 2 (.box true (.t 0)), o 3 (.mv (cb false))] [1, 2])
 (.seq (.ops [o 4 (.ld false 1 (.t 1)), o 5 (.fadr 0 (.t 2)), o 6 (.ld false 1 (.t 5)), o 7 (.bin .geq (.t 4) (.t 6)), mt 8 7, ⟨some 9, .ld false 1 (.t 1), some (8, true)⟩, ⟨some 10, .fadr 1 (.t 2), some (8, true)⟩, ⟨some 11, .ld false 1 (.t 10), some (8, true)⟩, ⟨some 12, .bin .lss (.t 9) (.t 11), some (8, true)⟩, o 13 (.pick (.t 8) (.t 12) (cb false)), mt 3 13] [3])
 (.ret))⟩

def c107 : AFunc := ⟨9, [.tmp 4],
 .seq (.ops [o 4 (.mv (cb false))] [0, 1])
 (.seq (.ops [mt 5 0, mt 6 1, o 7 (.call true true 0 (.fn 140) [.t 5, .t 6]), o 8 (.bin .geq (.t 7) (ci 0)), mt 4 8] [4])
 (.ret))⟩

def c109L0 : ACode :=
 .seq (.ops [o 16 (.bin .lss (.t 15) (.t 14))] [0, 1, 13, 14, 15, 16])
 (.seq (.cond (.t 16)
 (.skip)
 (.exit 0))
 (.seq (.block 1 (.seq (.ops [mt 17 15, o 18 (.iadr 1 (.t 13) (.t 15)), o 19 (.ld false 1 (.t 18)), mt 5 17, mt 6 19] [0, 1, 5, 6, 13, 14, 15])
 (.seq (.opsd [(0, 1), (1, 1), (2, 1), (3, 1), (4, 1), (5, 1), (6, 1), (7, 1), (9, 1), (10, 1), (11, 5), (12, 1), (8, 0), (13, 0), (14, 0), (15, 0), (16, 0), (17, 1)] [mt 20 6, o 21 (.bin .lss (.t 20) (ci 0)), mt 22 21, ⟨some 23, .mv (.t 6), some (22, false)⟩, ⟨some 24, .mv (.t 0), some (22, false)⟩, ⟨some 25, .len 1 (.t 24), some (22, false)⟩, ⟨some 26, .bin .geq (.t 23) (.t 25), some (22, false)⟩, o 27 (.pick (.t 22) (cb true) (.t 26)), mt 29 1, mt 30 5, o 31 (.slc 1 (.t 29) none (some (.t 30))), mt 32 6, o 28 (.call true true 0 (.fn 104) [.t 27, ci 10]), o 33 (.call true true 0 (.fn 141) [.t 31, .t 32]), o 34 (.call true true 0 (.fn 104) [.t 33, ci 9]), o 35 (.bslice false 1 zl8 2 [(0, .t 28), (1, .t 34)]), o 36 (.call true true 0 (.fn 91) [.t 35]), mt 7 36] [0, 1, 7, 13, 14, 15])
 (.seq (.ops [mt 37 7, o 38 (.bin .neq (.t 37) (ci 0))] [0, 1, 7, 13, 14, 15, 38])
 (.cond (.t 38)
 (.seq (.ops [mt 39 7, mt 4 39] [4])
 (.ret))
 (.skip))))))
 (.ops [o 40 (.bin .add (.t 15) (ci 1)), mt 15 40] [0, 1, 13, 14, 15])))
def c109 : AFunc := ⟨41, [.tmp 4],
 .seq (.ops [o 4 (.mv (ci 0))] [0, 1])
 (.seq (.seq (.ops [mt 8 1, o 9 (.len 1 (.t 8)), mt 10 0, o 11 (.len 1 (.t 10)), o 12 (.bin .neq (.t 9) (.t 11))] [0, 1, 12])
 (.cond (.t 12)
 (.seq (.ops [o 4 (.mv (ci 2))] [4])
 (.ret))
 (.skip)))
 (.seq (.seq (.ops [mt 13 1, o 14 (.len 1 (.t 13)), o 15 (.mv (ci 0))] [0, 1, 13, 14, 15])
 (.block 0 (.loop false [0, 1, 13, 14, 15] c109L0)))
 (.seq (.ops [o 4 (.mv (ci 0))] [4])
 (.ret))))⟩

end Fw
