/- The functions of the program, written for the evaluator, first part: definitions alone. -/
import Derived.Test.YtbaedpfgjpkabaaGreatDoorFwC
namespace Fw
open Go
abbrev o (d : Nat) (x : AOp) : AOper := ⟨some d, x, none⟩
abbrev u (x : AOp) : AOper := ⟨none, x, none⟩
abbrev ci (n : Int) : Opd := .c (.p (.int .i64 n))
abbrev cb (b : Bool) : Opd := .c (.p (.bool b))
abbrev cs (l : List UInt8) : Opd := .c (.p (.str l))
abbrev cn : Opd := .c (.p .nils)
abbrev cf (f : Nat) : Opd := .c (.p (.clo f [] []))
inductive Tr where | leaf | node (k : Nat) (v : AFunc) (l r : Tr)
def Tr.find : Tr → Nat → Option AFunc
 | .leaf, _ => none
 | .node k v l r, n => if n = k then some v else if n < k then l.find n else r.find n
/-- crumple/crumplelaw02.ChannelValues -/
def c7 : AFunc := ⟨70, [.tmp 2],
 .seq (.ops [o 2 (.mv (cb false))] [0])
 (.seq (.seq (.ops [o 13 (.mv (.t 0)), o 14 (.call true true 0 (.fn 56) [.t 13]), o 15 (.not (.t 14))] [0, 15])
 (.cond (.t 15)
 (.seq (.ops [o 16 (.call true true 0 (.fn 15) []), o 2 (.mv (.t 16))] [2])
 (.ret))
 (.skip)))
 (.seq (.ops [o 18 (.mv (.t 0)), o 19 (.call true false 0 (.fn 58) [.t 18]), o 20 (.call true true 0 (.fn 57) [.t 19]), o 17 (.mv (.t 20)), o 21 (.ext (.t 17) 0), o 22 (.ext (.t 17) 1), o 23 (.ext (.t 17) 2), o 3 (.alloc true 1 [.p (.int .i64 0), .p (.int .i64 0)]), u (.st 2 (.t 3) (.t 21)), o 4 (.mv (.t 22)), o 5 (.mv (.t 23))] [0, 3, 4, 5])
 (.seq (.ops [o 25 (.mv (.t 0)), o 26 (.call true false 0 (.fn 58) [.t 25]), o 27 (.call true false 0 (.fn 59) [.t 26]), o 24 (.mv (.t 27)), o 28 (.ext (.t 24) 0), o 29 (.ext (.t 24) 1), o 6 (.mv (.t 28)), o 7 (.mv (.t 29))] [0, 3, 4, 5, 6, 7])
 (.seq (.ops [o 30 (.mv (.t 0)), o 31 (.call true true 0 (.fn 60) [.t 30]), o 8 (.mv (.t 31))] [0, 3, 4, 5, 6, 7, 8])
 (.seq (.ops [o 32 (.mv (.t 8)), o 9 (.mv (.t 32))] [0, 3, 4, 5, 6, 7, 8, 9])
 (.seq (.ops [o 33 (.build [.p (.int .i64 0), .p (.int .i64 0)] []), o 10 (.alloc true 1 [.p (.int .i64 0), .p (.int .i64 0)]), u (.st 2 (.t 10) (.t 33)), o 11 (.mv (cb false))] [0, 3, 4, 5, 6, 7, 8, 9, 10, 11])
 (.seq (.ops [o 12 (.mv (cn))] [0, 3, 4, 5, 6, 7, 8, 9, 10, 11, 12])
 (.seq (.seq (.ops [o 34 (.mv (.t 8)), o 35 (.bin .eql (.t 34) (ci 0))] [0, 3, 4, 5, 6, 7, 8, 9, 10, 11, 12, 35])
 (.cond (.t 35)
 (.seq (.ops [o 37 (.mv (.t 0)), o 38 (.call true true 0 (.fn 61) [.t 37]), o 36 (.mv (.t 38)), o 39 (.ext (.t 36) 0), o 40 (.ext (.t 36) 1), o 41 (.ext (.t 36) 2), u (.st 2 (.t 10) (.t 39)), o 11 (.mv (.t 40)), o 9 (.mv (.t 41))] [0, 3, 4, 5, 6, 7, 8, 9, 10, 11])
 (.ops [o 42 (.mv (.t 0)), o 43 (.call true false 0 (.fn 62) [.t 42]), o 12 (.mv (.t 43))] [3, 4, 5, 6, 7, 8, 9, 10, 11, 12]))
 (.skip)))
 (.seq (.ops [o 44 (.ld true 2 (.t 3)), o 45 (.ld true 2 (.t 10)), o 46 (.eqagg [0, 0] false (.t 44) (.t 45)), o 47 (.mv (.t 46)), ⟨some 48, .mv (.t 4), some (47, true)⟩, ⟨some 49, .mv (.t 11), some (47, true)⟩, ⟨some 50, .eqb false (.t 48) (.t 49), some (47, true)⟩, o 51 (.pick (.t 47) (.t 50) (cb false)), o 52 (.mv (.t 51)), ⟨some 53, .mv (.t 5), some (52, true)⟩, ⟨some 54, .mv (.t 9), some (52, true)⟩, ⟨some 55, .bin .eql (.t 53) (.t 54), some (52, true)⟩, o 56 (.pick (.t 52) (.t 55) (cb false)), o 57 (.mv (.t 56)), ⟨some 58, .mv (.t 6), some (57, true)⟩, ⟨some 59, .mv (.t 12), some (57, true)⟩, ⟨some 60, .call true true 0 (.fn 63) [.t 58, .t 59], some (57, true)⟩, o 61 (.pick (.t 57) (.t 60) (cb false)), o 62 (.mv (.t 61)), ⟨some 63, .mv (.t 7), some (62, true)⟩, ⟨some 64, .mv (.t 8), some (62, true)⟩, ⟨some 65, .bin .eql (.t 63) (.t 64), some (62, true)⟩, o 66 (.pick (.t 62) (.t 65) (cb false)), o 67 (.mv (.t 66)), ⟨some 68, .call true true 0 (.fn 15) [], some (67, true)⟩, o 69 (.pick (.t 67) (.t 68) (cb false)), o 2 (.mv (.t 69))] [2])
 (.ret))))))))))⟩

/-- crumple/crumplelaw02.awake -/
def c15 : AFunc := ⟨387, [.tmp 0],
 .seq (.ops [o 0 (.mv (cb false))] [])
 (.seq (.ops [o 51 (.build [.p (.str []), .p (.int .i64 0), .p (.int .i64 0)] [(0, 1, cs [104, 101, 97, 100]), (2, 1, ci 1)]), o 52 (.call true true 0 (.fn 16) [.t 51]), o 50 (.mv (.t 52)), o 53 (.ext (.t 50) 0), o 54 (.ext (.t 50) 1), o 1 (.mv (.t 53)), o 2 (.mv (.t 54))] [1, 2])
 (.seq (.ops [o 56 (.call true true 0 (.fn 17) [cs [104, 101, 97, 100, 45, 120, 43, 77]]), o 55 (.mv (.t 56)), o 57 (.ext (.t 55) 0), o 58 (.ext (.t 55) 1), o 3 (.alloc true 1 [.p (.str []), .p (.int .i64 0), .p (.int .i64 0)]), u (.st 3 (.t 3) (.t 57)), o 4 (.mv (.t 58))] [1, 2, 3, 4])
 (.seq (.ops [o 60 (.bslice false 1 [.p (.flt .f32 0)] 4 [(0, .c (.p (.flt .f32 1040187392))), (1, .c (.p (.flt .f32 0))), (2, .c (.p (.flt .f32 1092616192))), (3, .c (.p (.flt .f32 3267887104)))]), o 61 (.call true true 0 (.fn 23) [.t 60, ci 2]), o 59 (.mv (.t 61)), o 62 (.ext (.t 59) 0), o 63 (.ext (.t 59) 1), o 5 (.alloc true 1 [.p (.int .i64 0), .p (.int .i64 0)]), u (.st 2 (.t 5) (.t 62)), o 6 (.mv (.t 63))] [1, 2, 3, 4, 5, 6])
 (.seq (.ops [o 65 (.call true true 0 (.fn 101) []), o 66 (.bslice false 1 [.p (.flt .f32 0)] 4 [(0, .c (.p (.flt .f32 1040187392))), (1, .c (.p (.flt .f32 0))), (2, .c (.p (.flt .f32 1092616192))), (3, .c (.p (.flt .f32 3267887104)))]), o 67 (.call true false 0 (.fn 25) [.t 65, .t 66, ci 2]), o 64 (.mv (.t 67)), o 68 (.ext (.t 64) 0), o 69 (.ext (.t 64) 1), o 7 (.mv (.t 68)), o 8 (.mv (.t 69))] [1, 2, 3, 4, 5, 6, 7, 8])
 (.seq (.ops [o 71 (.call true true 0 (.fn 101) []), o 72 (.call true true 0 (.fn 26) [.t 71, ci 100, ci 99]), o 70 (.mv (.t 72)), o 73 (.ext (.t 70) 0), o 74 (.ext (.t 70) 1), o 9 (.mv (.t 73)), o 10 (.mv (.t 74))] [1, 2, 3, 4, 5, 6, 7, 8, 9, 10])
 (.seq (.ops [o 76 (.call true true 0 (.fn 101) []), o 77 (.call true true 0 (.fn 26) [.t 76, ci 100, ci 97]), o 75 (.mv (.t 77)), o 78 (.ext (.t 75) 0), o 79 (.ext (.t 75) 1), o 11 (.mv (.t 78)), o 12 (.mv (.t 79))] [1, 2, 3, 4, 5, 6, 7, 8, 9, 10, 11, 12])
 (.seq (.ops [o 81 (.bslice false 1 [.p (.int .i64 0)] 3 [(0, ci 1), (1, ci 2), (2, ci 1)]), o 82 (.call true false 0 (.fn 41) [.t 81]), o 80 (.mv (.t 82)), o 83 (.ext (.t 80) 0), o 84 (.ext (.t 80) 1), o 85 (.ext (.t 80) 2), o 13 (.mv (.t 83)), o 14 (.mv (.t 84)), o 15 (.mv (.t 85))] [1, 2, 3, 4, 5, 6, 7, 8, 9, 10, 11, 12, 13, 14, 15])
 (.seq (.ops [o 87 (.bslice false 1 [.p (.flt .f32 0)] 5 [(0, .c (.p (.flt .f32 0))), (1, .c (.p (.flt .f32 0))), (2, .c (.p (.flt .f32 1065353216))), (3, .c (.p (.flt .f32 0))), (4, .c (.p (.flt .f32 0)))]), o 88 (.bslice false 1 [.p (.int .i64 0)] 3 [(0, ci 1), (1, ci 2), (2, ci 1)]), o 89 (.call true false 0 (.fn 40) [.t 87, .t 88]), o 86 (.mv (.t 89)), o 90 (.ext (.t 86) 0), o 91 (.ext (.t 86) 1), o 16 (.mv (.t 90)), o 17 (.mv (.t 91))] [1, 2, 3, 4, 5, 6, 7, 8, 9, 10, 11, 12, 13, 14, 15, 16, 17])
 (.seq (.ops [o 93 (.bslice false 1 [.p (.flt .f32 0)] 5 [(0, .c (.p (.flt .f32 0))), (1, .c (.p (.flt .f32 0))), (2, .c (.p (.flt .f32 1065353216))), (3, .c (.p (.flt .f32 0))), (4, .c (.p (.flt .f32 0)))]), o 94 (.bslice false 1 [.p (.int .i64 0)] 3 [(0, ci 1), (1, ci 2), (2, ci 1)]), o 95 (.call true false 0 (.fn 38) [.t 93, .t 94]), o 92 (.mv (.t 95)), o 96 (.ext (.t 92) 0), o 97 (.ext (.t 92) 1), o 18 (.mv (.t 96)), o 19 (.mv (.t 97))] [1, 2, 3, 4, 5, 6, 7, 8, 9, 10, 11, 12, 13, 14, 15, 16, 17, 18, 19])
 (.seq (.ops [o 99 (.bslice false 1 [.p (.flt .f32 0)] 2 [(0, .c (.p (.flt .f32 1065353216))), (1, .c (.p (.flt .f32 0)))]), o 100 (.bslice false 1 [.p (.int .i64 0)] 3 [(0, ci 1), (1, ci 2), (2, ci 1)]), o 101 (.call true false 0 (.fn 40) [.t 99, .t 100]), o 98 (.mv (.t 101)), o 102 (.ext (.t 98) 0), o 103 (.ext (.t 98) 1), o 20 (.mv (.t 102)), o 21 (.mv (.t 103))] [1, 2, 3, 4, 5, 6, 7, 8, 9, 10, 11, 12, 13, 14, 15, 16, 17, 18, 19, 20, 21])
 (.seq (.ops [o 105 (.call true true 0 (.fn 90) [ci 0, ci 16]), o 106 (.build [.p (.int .i64 0), .p (.int .i64 0)] []), o 107 (.bslice false 2 [.p (.int .i64 0), .p (.int .i64 0)] 2 [(0, .t 105), (1, .t 106)]), o 108 (.bslice false 1 [.p (.int .i64 0)] 3 [(0, ci 1), (1, ci 2), (2, ci 1)]), o 109 (.call true false 0 (.fn 51) [.t 107, .t 108]), o 104 (.mv (.t 109)), o 110 (.ext (.t 104) 0), o 111 (.ext (.t 104) 1), o 22 (.mv (.t 110)), o 23 (.mv (.t 111))] [1, 2, 3, 4, 5, 6, 7, 8, 9, 10, 11, 12, 13, 14, 15, 16, 17, 18, 19, 20, 21, 22, 23])
 (.seq (.ops [o 113 (.call true true 0 (.fn 90) [ci 0, ci 1]), o 114 (.build [.p (.int .i64 0), .p (.int .i64 0)] []), o 115 (.call true true 0 (.fn 90) [ci 3, ci 3]), o 116 (.bslice false 2 [.p (.int .i64 0), .p (.int .i64 0)] 3 [(0, .t 113), (1, .t 114), (2, .t 115)]), o 117 (.bslice false 1 [.p (.int .i64 0)] 2 [(0, ci 2), (1, ci (-1))]), o 118 (.call true false 0 (.fn 51) [.t 116, .t 117]), o 112 (.mv (.t 118)), o 119 (.ext (.t 112) 0), o 120 (.ext (.t 112) 1), o 24 (.mv (.t 119)), o 25 (.mv (.t 120))] [1, 2, 3, 4, 5, 6, 7, 8, 9, 10, 11, 12, 13, 14, 15, 16, 17, 18, 19, 20, 21, 22, 23, 24, 25])
 (.seq (.seq (.opsd [(0, 1), (1, 1), (2, 1), (3, 1), (4, 1), (5, 1), (6, 1), (7, 1), (8, 1), (9, 1), (10, 1), (11, 1), (12, 1), (13, 1), (14, 1), (15, 1), (16, 1), (17, 1), (18, 1), (19, 1), (20, 1), (21, 1), (22, 1), (23, 1), (24, 1), (25, 1), (26, 1), (27, 1), (28, 1), (29, 1), (30, 1), (31, 1), (32, 1), (33, 1), (34, 1), (35, 1), (36, 1), (37, 1), (38, 1), (39, 1), (40, 1), (41, 1), (42, 1), (43, 1), (44, 1), (45, 1), (46, 0), (47, 1), (48, 1), (49, 1), (50, 1), (51, 1), (52, 1), (53, 1), (54, 1), (55, 1), (56, 1), (57, 1), (58, 0), (59, 0), (60, 1), (61, 1), (62, 1), (63, 1), (64, 1), (65, 1), (66, 1), (67, 1), (68, 1), (69, 1), (70, 0), (71, 1), (72, 1), (73, 1), (74, 1), (75, 1), (76, 1), (77, 0), (78, 1), (79, 1), (80, 1), (81, 1), (82, 1), (83, 1), (84, 0), (85, 1), (86, 1), (87, 1), (88, 1), (89, 0), (90, 0), (91, 0), (92, 0), (93, 1), (94, 1), (95, 1), (96, 1), (97, 0), (98, 0), (99, 0), (100, 0), (101, 0), (102, 1), (103, 1)] [o 121 (.mv (.t 2)), o 122 (.mv (.t 4)), o 123 (.bin .add (.t 121) (.t 122)), o 124 (.mv (.t 6)), o 125 (.bin .add (.t 123) (.t 124)), o 126 (.mv (.t 8)), o 127 (.bin .add (.t 125) (.t 126)), o 128 (.mv (.t 10)), o 129 (.bin .add (.t 127) (.t 128)), o 130 (.mv (.t 12)), o 131 (.bin .add (.t 129) (.t 130)), o 132 (.mv (.t 15)), o 133 (.bin .add (.t 131) (.t 132)), o 134 (.mv (.t 17)), o 135 (.bin .add (.t 133) (.t 134)), o 136 (.mv (.t 19)), o 137 (.bin .add (.t 135) (.t 136)), o 138 (.mv (.t 21)), o 139 (.bin .add (.t 137) (.t 138)), o 140 (.mv (.t 23)), o 141 (.bin .add (.t 139) (.t 140)), o 142 (.mv (.t 25)), o 143 (.bin .add (.t 141) (.t 142)), o 144 (.bin .neq (.t 143) (ci 0)), o 145 (.mv (.t 144)), ⟨some 146, .mv (.t 1), some (145, false)⟩, ⟨some 147, .bin .neq (.t 146) (cs [104, 101, 97, 100, 45, 120, 43, 77]), some (145, false)⟩, o 148 (.pick (.t 145) (cb true) (.t 147)), o 149 (.mv (.t 148)), ⟨some 150, .ld true 3 (.t 3), some (149, false)⟩, ⟨some 151, .build [.p (.str []), .p (.int .i64 0), .p (.int .i64 0)] [(0, 1, cs [104, 101, 97, 100]), (2, 1, ci 1)], some (149, false)⟩, ⟨some 152, .eqagg [1, 0, 0] true (.t 150) (.t 151), some (149, false)⟩, o 153 (.pick (.t 149) (cb true) (.t 152)), o 154 (.mv (.t 153)), ⟨some 155, .ld true 2 (.t 5), some (154, false)⟩, ⟨some 156, .call true true 0 (.fn 90) [ci 0, ci 2], some (154, false)⟩, ⟨some 157, .eqagg [0, 0] true (.t 155) (.t 156), some (154, false)⟩, o 158 (.pick (.t 154) (cb true) (.t 157)), o 159 (.mv (.t 158)), ⟨some 160, .mv (.t 7), some (159, false)⟩, ⟨some 161, .call true false 0 (.fn 36) [.t 160], some (159, false)⟩, ⟨some 162, .build [.p (.int .i64 0), .p (.int .i64 0), .p (.bool false), .p (.bool false)] [(0, 1, ci 0), (1, 1, ci 3)], some (159, false)⟩, ⟨some 163, .build [.p (.int .i64 0), .p (.int .i64 0), .p (.bool false), .p (.bool false)] [(0, 1, ci (-3)), (1, 1, ci 0)], some (159, false)⟩, ⟨some 164, .build [.p (.int .i64 0), .p (.int .i64 0), .p (.bool false), .p (.bool false)] [(0, 1, ci 156), (1, 1, ci 162)], some (159, false)⟩, ⟨some 165, .build [.p (.int .i64 0), .p (.int .i64 0), .p (.bool false), .p (.bool false)] [(0, 1, ci (-1619)), (1, 1, ci (-1584)), (2, 1, cb true)], some (159, false)⟩, ⟨some 166, .bslice false 4 [.p (.int .i64 0), .p (.int .i64 0), .p (.bool false), .p (.bool false)] 4 [(0, .t 162), (1, .t 163), (2, .t 164), (3, .t 165)], some (159, false)⟩, ⟨some 167, .call true true 0 (.fn 35) [.t 161, .t 166], some (159, false)⟩, ⟨some 168, .not (.t 167), some (159, false)⟩, o 169 (.pick (.t 159) (cb true) (.t 168)), o 170 (.mv (.t 169)), ⟨some 171, .mv (.t 9), some (170, false)⟩, ⟨some 172, .not (.t 171), some (170, false)⟩, o 173 (.pick (.t 170) (cb true) (.t 172)), o 174 (.mv (.t 173)), ⟨some 175, .mv (.t 11), some (174, false)⟩, o 176 (.pick (.t 174) (cb true) (.t 175)), o 177 (.mv (.t 176)), ⟨some 178, .mv (.t 13), some (177, false)⟩, ⟨some 179, .bslice false 1 [.p (.int .i64 0)] 5 [(0, ci 1), (1, ci 4), (2, ci 6), (3, ci 4), (4, ci 1)], some (177, false)⟩, ⟨some 180, .call true true 0 (.fn 49) [.t 178, .t 179], some (177, false)⟩, ⟨some 181, .not (.t 180), some (177, false)⟩, o 182 (.pick (.t 177) (cb true) (.t 181)), o 183 (.mv (.t 182)), ⟨some 184, .mv (.t 14), some (183, false)⟩, ⟨some 185, .bin .neq (.t 184) (ci 16), some (183, false)⟩, o 186 (.pick (.t 183) (cb true) (.t 185)), o 187 (.mv (.t 186)), ⟨some 188, .mv (.t 16), some (187, false)⟩, ⟨some 189, .call true false 0 (.fn 88) [.t 188], some (187, false)⟩, ⟨some 190, .bslice false 1 [.p (.int .i64 0)] 5 [(0, ci 1), (1, ci 4), (2, ci 6), (3, ci 4), (4, ci 1)], some (187, false)⟩, ⟨some 191, .call true true 0 (.fn 49) [.t 189, .t 190], some (187, false)⟩, ⟨some 192, .not (.t 191), some (187, false)⟩, o 193 (.pick (.t 187) (cb true) (.t 192)), o 194 (.mv (.t 193)), ⟨some 195, .mv (.t 18), some (194, false)⟩, ⟨some 196, .call true false 0 (.fn 88) [.t 195], some (194, false)⟩, ⟨some 197, .bslice false 1 [.p (.int .i64 0)] 5 [(0, ci 0), (1, ci 0), (2, ci 4), (3, ci 8), (4, ci 4)], some (194, false)⟩, ⟨some 198, .call true true 0 (.fn 49) [.t 196, .t 197], some (194, false)⟩, ⟨some 199, .not (.t 198), some (194, false)⟩, o 200 (.pick (.t 194) (cb true) (.t 199)), o 201 (.mv (.t 200)), ⟨some 202, .mv (.t 20), some (201, false)⟩, ⟨some 203, .call true false 0 (.fn 88) [.t 202], some (201, false)⟩, ⟨some 204, .bslice false 1 [.p (.int .i64 0)] 2 [(0, ci 11), (1, ci 5)], some (201, false)⟩, ⟨some 205, .call true true 0 (.fn 49) [.t 203, .t 204], some (201, false)⟩, ⟨some 206, .not (.t 205), some (201, false)⟩, o 207 (.pick (.t 201) (cb true) (.t 206)), o 208 (.mv (.t 207)), ⟨some 209, .mv (.t 22), some (208, false)⟩, ⟨some 210, .call true true 0 (.fn 90) [ci 0, ci 11], some (208, false)⟩, ⟨some 211, .call true true 0 (.fn 90) [ci 0, ci 5], some (208, false)⟩, ⟨some 212, .bslice false 2 [.p (.int .i64 0), .p (.int .i64 0)] 2 [(0, .t 210), (1, .t 211)], some (208, false)⟩, ⟨some 213, .call true true 0 (.fn 55) [.t 209, .t 212], some (208, false)⟩, ⟨some 214, .not (.t 213), some (208, false)⟩, o 215 (.pick (.t 208) (cb true) (.t 214)), o 216 (.mv (.t 215)), ⟨some 217, .mv (.t 24), some (216, false)⟩, ⟨some 218, .call true true 0 (.fn 90) [ci 0, ci 3], some (216, false)⟩, ⟨some 219, .call true true 0 (.fn 90) [ci (-8), ci (-6)], some (216, false)⟩, ⟨some 220, .call true true 0 (.fn 90) [ci 9, ci 9], some (216, false)⟩, ⟨some 221, .bslice false 2 [.p (.int .i64 0), .p (.int .i64 0)] 3 [(0, .t 218), (1, .t 219), (2, .t 220)], some (216, false)⟩, ⟨some 222, .call true true 0 (.fn 55) [.t 217, .t 221], some (216, false)⟩, ⟨some 223, .not (.t 222), some (216, false)⟩, o 224 (.pick (.t 216) (cb true) (.t 223))] [224])
 (.cond (.t 224)
 (.seq (.ops [o 0 (.mv (cb false))] [0])
 (.ret))
 (.skip)))
 (.seq (.ops [o 225 (.build [.p (.int .i64 0), .p (.int .i64 0), .p (.bool false), .p (.bool false)] [(0, 1, ci (-3)), (1, 1, ci 0)]), o 226 (.build [.p (.int .i64 0), .p (.int .i64 0), .p (.bool false), .p (.bool false)] [(0, 1, ci 156), (1, 1, ci 162)]), o 227 (.build [.p (.int .i64 0), .p (.int .i64 0), .p (.bool false), .p (.bool false)] [(0, 1, ci 5), (1, 1, ci 900), (3, 1, cb true)]), o 228 (.bslice false 4 [.p (.int .i64 0), .p (.int .i64 0), .p (.bool false), .p (.bool false)] 3 [(0, .t 225), (1, .t 226), (2, .t 227)]), o 26 (.mv (.t 228))] [26])
 (.seq (.ops [o 230 (.mv (.t 26)), o 231 (.call true true 0 (.fn 57) [.t 230]), o 229 (.mv (.t 231)), o 232 (.ext (.t 229) 0), o 233 (.ext (.t 229) 1), o 234 (.ext (.t 229) 2), o 27 (.alloc true 1 [.p (.int .i64 0), .p (.int .i64 0)]), u (.st 2 (.t 27) (.t 232)), o 28 (.mv (.t 233)), o 29 (.mv (.t 234))] [26, 27, 28, 29])
 (.seq (.ops [o 236 (.mv (.t 26)), o 237 (.call true false 0 (.fn 59) [.t 236]), o 235 (.mv (.t 237)), o 238 (.ext (.t 235) 0), o 239 (.ext (.t 235) 1), o 30 (.mv (.t 238)), o 31 (.mv (.t 239))] [27, 28, 29, 30, 31])
 (.seq (.ops [o 241 (.bslice false 1 [.p (.int .i64 0)] 4 [(0, ci 0), (1, ci 9), (2, ci 9), (3, ci 6)]), o 242 (.call true false 0 (.fn 86) [.t 241]), o 243 (.build [.p (.int .i64 0), .p (.int .i64 0)] [(0, 1, ci 1), (1, 1, ci 3)]), o 244 (.bslice false 2 [.p (.int .i64 0), .p (.int .i64 0)] 1 [(0, .t 243)]), o 245 (.call true false 0 (.fn 65) [.t 242, .t 244, ci 3]), o 240 (.mv (.t 245)), o 246 (.ext (.t 240) 0), o 247 (.ext (.t 240) 1), o 32 (.mv (.t 246)), o 33 (.mv (.t 247))] [27, 28, 29, 30, 31, 32, 33])
 (.seq (.ops [o 249 (.bslice false 1 [.p (.int .i64 0)] 2 [(0, ci 9), (1, ci 5)]), o 250 (.call true false 0 (.fn 86) [.t 249]), o 251 (.build [.p (.int .i64 0), .p (.int .i64 0)] [(0, 1, ci 0), (1, 1, ci 1)]), o 252 (.bslice false 2 [.p (.int .i64 0), .p (.int .i64 0)] 1 [(0, .t 251)]), o 253 (.call true false 0 (.fn 65) [.t 250, .t 252, ci 3]), o 248 (.mv (.t 253)), o 254 (.ext (.t 248) 0), o 255 (.ext (.t 248) 1), o 34 (.mv (.t 254)), o 35 (.mv (.t 255))] [27, 28, 29, 30, 31, 32, 33, 34, 35])
 (.seq (.ops [o 257 (.bslice false 1 [.p (.int .i64 0)] 4 [(0, ci 0), (1, ci 9), (2, ci 9), (3, ci 6)]), o 258 (.call true false 0 (.fn 86) [.t 257]), o 259 (.build [.p (.int .i64 0), .p (.int .i64 0)] [(0, 1, ci 1), (1, 1, ci 3)]), o 260 (.bslice false 2 [.p (.int .i64 0), .p (.int .i64 0)] 1 [(0, .t 259)]), o 261 (.call true false 0 (.fn 65) [.t 258, .t 260, ci 1]), o 256 (.mv (.t 261)), o 262 (.ext (.t 256) 0), o 263 (.ext (.t 256) 1), o 36 (.mv (.t 262)), o 37 (.mv (.t 263))] [27, 28, 29, 30, 31, 32, 33, 34, 35, 37])
 (.seq (.ops [o 265 (.bslice false 1 [.p (.int .i64 0)] 3 [(0, ci 1), (1, ci (-2)), (2, ci 3)]), o 266 (.call true false 0 (.fn 86) [.t 265]), o 267 (.call true false 0 (.fn 72) [.t 266, ci 10]), o 264 (.mv (.t 267)), o 268 (.ext (.t 264) 0), o 269 (.ext (.t 264) 1), o 38 (.mv (.t 268)), o 39 (.mv (.t 269))] [27, 28, 29, 30, 31, 32, 33, 34, 35, 37, 38, 39])
 (.seq (.ops [o 271 (.bslice false 1 [.p (.int .i64 0)] 3 [(0, ci 1), (1, ci (-2)), (2, ci 3)]), o 272 (.call true false 0 (.fn 86) [.t 271]), o 273 (.call true false 0 (.fn 73) [.t 272, ci 10]), o 270 (.mv (.t 273)), o 274 (.ext (.t 270) 0), o 275 (.ext (.t 270) 1), o 40 (.mv (.t 274)), o 41 (.mv (.t 275))] [27, 28, 29, 30, 31, 32, 33, 34, 35, 37, 38, 39, 40, 41])
 (.seq (.ops [o 277 (.bslice false 1 [.p (.int .i64 0)] 3 [(0, ci 1), (1, ci (-2)), (2, ci 3)]), o 278 (.call true false 0 (.fn 86) [.t 277]), o 279 (.bslice false 1 [.p (.int .i64 0)] 3 [(0, ci (-1)), (1, ci 2), (2, ci (-3))]), o 280 (.call true false 0 (.fn 86) [.t 279]), o 281 (.call true true 0 (.fn 71) [.t 278, .t 280]), o 276 (.mv (.t 281)), o 282 (.ext (.t 276) 0), o 283 (.ext (.t 276) 1), o 42 (.mv (.t 282)), o 43 (.mv (.t 283))] [27, 28, 29, 30, 31, 32, 33, 34, 35, 37, 38, 39, 40, 41, 42, 43])
 (.seq (.ops [o 285 (.bslice false 1 [.p (.int .i64 0)] 3 [(0, ci 1), (1, ci (-2)), (2, ci 3)]), o 286 (.call true false 0 (.fn 86) [.t 285]), o 287 (.bslice false 1 [.p (.int .i64 0)] 3 [(0, ci (-1)), (1, ci 2), (2, ci (-3))]), o 288 (.call true false 0 (.fn 86) [.t 287]), o 289 (.bslice false 1 [.p (.nils)] 2 [(0, .t 286), (1, .t 288)]), o 290 (.call true false 0 (.fn 74) [.t 289]), o 284 (.mv (.t 290)), o 291 (.ext (.t 284) 0), o 292 (.ext (.t 284) 1), o 44 (.mv (.t 291)), o 45 (.mv (.t 292))] [27, 28, 29, 30, 31, 32, 33, 34, 35, 37, 38, 39, 40, 41, 42, 43, 44, 45])
 (.seq (.ops [o 294 (.bslice false 1 [.p (.flt .f32 0)] 2 [(0, .c (.p (.flt .f32 1065353216))), (1, .c (.p (.flt .f32 3221225472)))]), o 295 (.build [.p (.str []), .p (.int .i64 0), .p (.int .i64 0)] [(0, 1, cs [97]), (2, 1, ci (-1))]), o 296 (.call true false 0 (.fn 70) [.t 294, .t 295]), o 293 (.mv (.t 296)), o 297 (.ext (.t 293) 0), o 298 (.ext (.t 293) 1), o 46 (.mv (.t 297)), o 47 (.mv (.t 298))] [27, 28, 29, 30, 31, 32, 33, 34, 35, 37, 38, 39, 40, 41, 42, 43, 44, 45, 46, 47])
 (.seq (.ops [o 300 (.call true true 0 (.fn 101) []), o 301 (.bslice false 4 [.p (.str []), .p (.int .i64 0), .p (.int .i64 0), .p (.int .i64 0)] 1 [(0, .t 300)]), o 302 (.call true true 0 (.fn 92) [.t 301]), o 299 (.mv (.t 302)), o 303 (.ext (.t 299) 0), o 304 (.ext (.t 299) 1), o 48 (.mv (.t 303)), o 49 (.mv (.t 304))] [27, 28, 29, 30, 31, 32, 33, 34, 35, 37, 38, 39, 40, 41, 42, 43, 44, 45, 46, 47, 48, 49])
 (.seq (.opsd [(0, 1), (1, 1), (2, 1), (3, 1), (4, 1), (5, 1), (6, 1), (7, 1), (8, 1), (9, 1), (10, 1), (11, 1), (12, 1), (13, 1), (14, 1), (15, 1), (16, 1), (17, 1), (18, 1), (19, 1), (20, 1), (21, 1), (22, 1), (23, 1), (24, 1), (25, 1), (26, 1), (27, 1), (28, 1), (29, 1), (30, 1), (31, 1), (32, 1), (33, 1), (34, 1), (35, 0), (36, 0), (37, 1), (38, 1), (39, 1), (40, 1), (41, 0), (42, 0), (43, 0), (44, 0), (45, 0), (46, 1), (47, 1), (48, 1), (49, 0), (50, 0), (51, 0), (52, 0), (53, 1), (54, 1), (55, 1), (56, 0), (57, 0), (58, 1), (59, 1), (60, 1), (61, 0), (62, 0), (63, 1), (64, 1), (65, 1), (66, 1), (67, 1), (68, 1), (69, 1), (70, 0), (71, 0), (72, 1), (73, 1), (74, 1), (75, 0), (76, 0), (77, 1), (78, 1), (79, 1), (80, 1), (81, 1), (82, 1)] [o 305 (.mv (.t 29)), o 306 (.mv (.t 31)), o 307 (.bin .add (.t 305) (.t 306)), o 308 (.mv (.t 33)), o 309 (.bin .add (.t 307) (.t 308)), o 310 (.mv (.t 35)), o 311 (.bin .add (.t 309) (.t 310)), o 312 (.mv (.t 39)), o 313 (.bin .add (.t 311) (.t 312)), o 314 (.mv (.t 41)), o 315 (.bin .add (.t 313) (.t 314)), o 316 (.mv (.t 43)), o 317 (.bin .add (.t 315) (.t 316)), o 318 (.mv (.t 45)), o 319 (.bin .add (.t 317) (.t 318)), o 320 (.mv (.t 47)), o 321 (.bin .add (.t 319) (.t 320)), o 322 (.mv (.t 49)), o 323 (.bin .add (.t 321) (.t 322)), o 324 (.bin .eql (.t 323) (ci 0)), o 325 (.mv (.t 324)), ⟨some 326, .mv (.t 37), some (325, true)⟩, ⟨some 327, .bin .eql (.t 326) (ci 24), some (325, true)⟩, o 328 (.pick (.t 325) (.t 327) (cb false)), o 329 (.mv (.t 328)), ⟨some 330, .ld true 2 (.t 27), some (329, true)⟩, ⟨some 331, .call true true 0 (.fn 90) [ci 156, ci 900], some (329, true)⟩, ⟨some 332, .eqagg [0, 0] false (.t 330) (.t 331), some (329, true)⟩, o 333 (.pick (.t 329) (.t 332) (cb false)), o 334 (.mv (.t 333)), ⟨some 335, .mv (.t 28), some (334, true)⟩, o 336 (.pick (.t 334) (.t 335) (cb false)), o 337 (.mv (.t 336)), ⟨some 338, .mv (.t 30), some (337, true)⟩, ⟨some 339, .build [.p (.int .i64 0), .p (.int .i64 0)] [(0, 1, ci 2), (1, 1, ci 3)], some (337, true)⟩, ⟨some 340, .bslice false 2 [.p (.int .i64 0), .p (.int .i64 0)] 1 [(0, .t 339)], some (337, true)⟩, ⟨some 341, .call true true 0 (.fn 63) [.t 338, .t 340], some (337, true)⟩, o 342 (.pick (.t 337) (.t 341) (cb false)), o 343 (.mv (.t 342)), ⟨some 344, .mv (.t 32), some (343, true)⟩, ⟨some 345, .build [.p (.int .i64 0), .p (.int .i64 0)] [], some (343, true)⟩, ⟨some 346, .call true true 0 (.fn 90) [ci 0, ci 3], some (343, true)⟩, ⟨some 347, .call true true 0 (.fn 90) [ci 3, ci 6], some (343, true)⟩, ⟨some 348, .call true true 0 (.fn 90) [ci 6, ci 6], some (343, true)⟩, ⟨some 349, .bslice false 2 [.p (.int .i64 0), .p (.int .i64 0)] 4 [(0, .t 345), (1, .t 346), (2, .t 347), (3, .t 348)], some (343, true)⟩, ⟨some 350, .call true true 0 (.fn 55) [.t 344, .t 349], some (343, true)⟩, o 351 (.pick (.t 343) (.t 350) (cb false)), o 352 (.mv (.t 351)), ⟨some 353, .mv (.t 34), some (352, true)⟩, ⟨some 354, .call true true 0 (.fn 90) [ci 2, ci 8], some (352, true)⟩, ⟨some 355, .call true true 0 (.fn 90) [ci 5, ci 5], some (352, true)⟩, ⟨some 356, .bslice false 2 [.p (.int .i64 0), .p (.int .i64 0)] 2 [(0, .t 354), (1, .t 355)], some (352, true)⟩, ⟨some 357, .call true true 0 (.fn 55) [.t 353, .t 356], some (352, true)⟩, o 358 (.pick (.t 352) (.t 357) (cb false)), o 359 (.mv (.t 358)), ⟨some 360, .mv (.t 38), some (359, true)⟩, ⟨some 361, .bslice false 1 [.p (.int .i64 0)] 3 [(0, ci 11), (1, ci 9), (2, ci 12)], some (359, true)⟩, ⟨some 362, .call true true 0 (.fn 49) [.t 360, .t 361], some (359, true)⟩, o 363 (.pick (.t 359) (.t 362) (cb false)), o 364 (.mv (.t 363)), ⟨some 365, .mv (.t 40), some (364, true)⟩, ⟨some 366, .bslice false 1 [.p (.int .i64 0)] 3 [(0, ci 11), (1, ci 20), (2, ci 32)], some (364, true)⟩, ⟨some 367, .call true true 0 (.fn 49) [.t 365, .t 366], some (364, true)⟩, o 368 (.pick (.t 364) (.t 367) (cb false)), o 369 (.mv (.t 368)), ⟨some 370, .mv (.t 42), some (369, true)⟩, ⟨some 371, .bin .eql (.t 370) (ci (-1)), some (369, true)⟩, o 372 (.pick (.t 369) (.t 371) (cb false)), o 373 (.mv (.t 372)), ⟨some 374, .mv (.t 44), some (373, true)⟩, ⟨some 375, .bslice false 1 [.p (.int .i64 0)] 3 [(0, ci 2), (1, ci 8), (2, ci 18)], some (373, true)⟩, ⟨some 376, .call true true 0 (.fn 49) [.t 374, .t 375], some (373, true)⟩, o 377 (.pick (.t 373) (.t 376) (cb false)), o 378 (.mv (.t 377)), ⟨some 379, .mv (.t 46), some (378, true)⟩, ⟨some 380, .bslice false 1 [.p (.flt .f32 0)] 2 [(0, .c (.p (.flt .f32 3212836864))), (1, .c (.p (.flt .f32 1073741824)))], some (378, true)⟩, ⟨some 381, .call true true 0 (.fn 48) [.t 379, .t 380], some (378, true)⟩, o 382 (.pick (.t 378) (.t 381) (cb false)), o 383 (.mv (.t 382)), ⟨some 384, .mv (.t 48), some (383, true)⟩, ⟨some 385, .bin .eql (.t 384) (cs [115, 101, 110, 115, 111, 114, 32, 115, 32, 49, 54, 48, 48, 32, 57, 57, 48, 32, 49, 48, 49, 48, 10]), some (383, true)⟩, o 386 (.pick (.t 383) (.t 385) (cb false)), o 0 (.mv (.t 386))] [0])
 (.ret)))))))))))))))))))))))))))⟩

/-- crumple/channel.Coded -/
def c16 : AFunc := ⟨33, [.tmp 2, .tmp 3],
 .seq (.ops [o 1 (.box true (.t 0)), o 2 (.mv (cs [])), o 3 (.mv (ci 0))] [1])
 (.seq (.seq (.ops [o 6 (.ld true 3 (.t 1)), o 7 (.call true true 0 (.fn 21) [.t 6]), o 4 (.mv (.t 7))] [1, 4])
 (.seq (.ops [o 8 (.mv (.t 4)), o 9 (.bin .neq (.t 8) (ci 0))] [1, 4, 9])
 (.cond (.t 9)
 (.seq (.ops [o 10 (.mv (.t 4)), o 2 (.mv (cs [])), o 3 (.mv (.t 10))] [2, 3])
 (.ret))
 (.skip))))
 (.seq (.opsd [(0, 1), (1, 1), (2, 1), (3, 1), (4, 1), (5, 1), (6, 1), (7, 1), (8, 1), (9, 1), (10, 1), (11, 1), (12, 1), (13, 1), (14, 1), (15, 1), (16, 1)] [o 11 (.fadr 0 (.t 1)), o 12 (.ld false 1 (.t 11)), o 13 (.bin .add (.t 12) (cs [45])), o 14 (.fadr 1 (.t 1)), o 15 (.ld false 1 (.t 14)), o 16 (.iadra 1 3 (.g 0) (.t 15)), o 17 (.ld false 1 (.t 16)), o 18 (.fadr 2 (.t 1)), o 19 (.ld false 1 (.t 18)), o 20 (.bin .sub (ci 1) (.t 19)), o 21 (.bin .quo (.t 20) (ci 2)), o 22 (.iadra 1 2 (.g 1) (.t 21)), o 23 (.ld false 1 (.t 22)), o 24 (.bslice false 1 [.p (.int .u8 0)] 2 [(0, .t 17), (1, .t 23)]), o 25 (.conv .b2s (.t 24)), o 26 (.bin .add (.t 13) (.t 25)), o 5 (.mv (.t 26))] [5])
 (.seq (.ops [o 27 (.mv (.t 5)), o 28 (.mv (.t 5)), o 29 (.call true true 0 (.fn 102) [.t 28]), o 30 (.bslice false 1 [.p (.int .u8 0)] 1 [(0, .t 29)]), o 31 (.conv .b2s (.t 30)), o 32 (.bin .add (.t 27) (.t 31)), o 2 (.mv (.t 32)), o 3 (.mv (ci 0))] [2, 3])
 (.ret))))⟩

/-- crumple/channel.Decoded -/
def c17 : AFunc := ⟨96, [.cell 2 true 3, .tmp 3],
 .seq (.ops [o 2 (.alloc true 1 [.p (.str []), .p (.int .i64 0), .p (.int .i64 0)]), o 3 (.mv (ci 0))] [0, 2])
 (.seq (.seq (.ops [o 9 (.mv (.t 0)), o 10 (.len 0 (.t 9)), o 11 (.bin .gtr (.t 10) (ci 28)), o 12 (.call true true 0 (.fn 104) [.t 11, ci 26]), o 13 (.mv (.t 0)), o 14 (.len 0 (.t 13)), o 15 (.bin .leq (.t 14) (ci 4)), o 16 (.call true true 0 (.fn 104) [.t 15, ci 25]), o 17 (.bslice false 1 [.p (.int .i64 0)] 2 [(0, .t 12), (1, .t 16)]), o 18 (.call true true 0 (.fn 103) [.t 17]), o 4 (.mv (.t 18))] [0, 2, 4])
 (.seq (.ops [o 19 (.mv (.t 4)), o 20 (.bin .neq (.t 19) (ci 0))] [0, 2, 4, 20])
 (.cond (.t 20)
 (.seq (.ops [o 21 (.build [.p (.str []), .p (.int .i64 0), .p (.int .i64 0)] []), o 22 (.mv (.t 4)), u (.st 3 (.t 2) (.t 21)), o 3 (.mv (.t 22))] [2, 3])
 (.ret))
 (.skip))))
 (.seq (.ops [o 23 (.mv (.t 0)), o 24 (.len 0 (.t 23)), o 25 (.bin .sub (.t 24) (ci 4)), o 5 (.mv (.t 25))] [0, 2, 5])
 (.seq (.opsd [(0, 1), (1, 1), (2, 1), (3, 1), (4, 1), (5, 1), (6, 1), (7, 1), (8, 1), (9, 1), (10, 1), (11, 0), (12, 1), (13, 1)] [o 26 (.slca 1 3 (.g 0) none none), o 27 (.mv (.t 0)), o 28 (.mv (.t 5)), o 29 (.bin .add (.t 28) (ci 1)), o 30 (.idxs (.t 27) (.t 29)), o 31 (.call true true 0 (.fn 105) [.t 26, .t 30]), o 32 (.slca 1 2 (.g 1) none none), o 33 (.mv (.t 0)), o 34 (.mv (.t 5)), o 35 (.bin .add (.t 34) (ci 2)), o 36 (.idxs (.t 33) (.t 35)), o 37 (.call true true 0 (.fn 105) [.t 32, .t 36]), o 6 (.mv (.t 31)), o 7 (.mv (.t 37))] [0, 2, 5, 6, 7])
 (.seq (.seq (.ops [o 38 (.mv (.t 0)), o 39 (.mv (.t 5)), o 40 (.idxs (.t 38) (.t 39)), o 41 (.bin .neq (.t 40) (.c (.p (.int .u8 45)))), o 42 (.mv (.t 41)), ⟨some 43, .mv (.t 6), some (42, false)⟩, ⟨some 44, .bin .lss (.t 43) (ci 0), some (42, false)⟩, o 45 (.pick (.t 42) (cb true) (.t 44)), o 46 (.mv (.t 45)), ⟨some 47, .mv (.t 7), some (46, false)⟩, ⟨some 48, .bin .lss (.t 47) (ci 0), some (46, false)⟩, o 49 (.pick (.t 46) (cb true) (.t 48)), o 50 (.mv (.t 49)), ⟨some 51, .mv (.t 0), some (50, false)⟩, ⟨some 52, .mv (.t 5), some (50, false)⟩, ⟨some 53, .bin .add (.t 52) (ci 3), some (50, false)⟩, ⟨some 54, .idxs (.t 51) (.t 53), some (50, false)⟩, ⟨some 55, .bin .lss (.t 54) (.c (.p (.int .u8 65))), some (50, false)⟩, o 56 (.pick (.t 50) (cb true) (.t 55)), o 57 (.mv (.t 56)), ⟨some 58, .mv (.t 0), some (57, false)⟩, ⟨some 59, .mv (.t 5), some (57, false)⟩, ⟨some 60, .bin .add (.t 59) (ci 3), some (57, false)⟩, ⟨some 61, .idxs (.t 58) (.t 60), some (57, false)⟩, ⟨some 62, .bin .gtr (.t 61) (.c (.p (.int .u8 90))), some (57, false)⟩, o 63 (.pick (.t 57) (cb true) (.t 62))] [0, 2, 5, 6, 7, 63])
 (.cond (.t 63)
 (.seq (.ops [o 64 (.build [.p (.str []), .p (.int .i64 0), .p (.int .i64 0)] []), u (.st 3 (.t 2) (.t 64)), o 3 (.mv (ci 25))] [2, 3])
 (.ret))
 (.skip)))
 (.seq (.seq (.opsd [(0, 1), (1, 1), (2, 1), (6, 1), (7, 1), (8, 1), (9, 1), (11, 1), (12, 1), (13, 1), (14, 1), (3, 0), (4, 1), (5, 0), (10, 0), (15, 1), (16, 0), (17, 0), (18, 0), (19, 1)] [o 65 (.mv (.t 0)), o 66 (.mv (.t 5)), o 67 (.slcs (.t 65) none (some (.t 66))), o 71 (.mv (.t 0)), o 72 (.mv (.t 5)), o 73 (.bin .add (.t 72) (ci 3)), o 74 (.slcs (.t 71) none (some (.t 73))), o 76 (.mv (.t 0)), o 77 (.mv (.t 5)), o 78 (.bin .add (.t 77) (ci 3)), o 79 (.idxs (.t 76) (.t 78)), o 68 (.call true true 0 (.fn 106) [.t 67]), o 69 (.not (.t 68)), o 70 (.call true true 0 (.fn 104) [.t 69, ci 8]), o 75 (.call true true 0 (.fn 102) [.t 74]), o 80 (.bin .neq (.t 75) (.t 79)), o 81 (.call true true 0 (.fn 104) [.t 80, ci 27]), o 82 (.bslice false 1 [.p (.int .i64 0)] 2 [(0, .t 70), (1, .t 81)]), o 83 (.call true true 0 (.fn 103) [.t 82]), o 8 (.mv (.t 83))] [0, 2, 5, 6, 7, 8])
 (.seq (.ops [o 84 (.mv (.t 8)), o 85 (.bin .neq (.t 84) (ci 0))] [0, 2, 5, 6, 7, 8, 85])
 (.cond (.t 85)
 (.seq (.ops [o 86 (.build [.p (.str []), .p (.int .i64 0), .p (.int .i64 0)] []), o 87 (.mv (.t 8)), u (.st 3 (.t 2) (.t 86)), o 3 (.mv (.t 87))] [2, 3])
 (.ret))
 (.skip))))
 (.seq (.ops [o 88 (.mv (.t 0)), o 89 (.mv (.t 5)), o 90 (.slcs (.t 88) none (some (.t 89))), o 91 (.mv (.t 6)), o 92 (.mv (.t 7)), o 93 (.bin .mul (ci 2) (.t 92)), o 94 (.bin .sub (ci 1) (.t 93)), o 95 (.build [.p (.str []), .p (.int .i64 0), .p (.int .i64 0)] [(0, 1, .t 90), (1, 1, .t 91), (2, 1, .t 94)]), u (.st 3 (.t 2) (.t 95)), o 3 (.mv (ci 0))] [2, 3])
 (.ret)))))))⟩

/-- crumple/channel.CheckCode -/
def c21 : AFunc := ⟨22, [.tmp 2],
 .seq (.ops [o 1 (.box true (.t 0)), o 2 (.mv (ci 0))] [1])
 (.seq (.opsd [(0, 1), (1, 1), (2, 1), (3, 1), (4, 1), (5, 1), (6, 1), (7, 1), (8, 1), (9, 1), (10, 1), (11, 1), (12, 1), (13, 1), (14, 1), (15, 1), (16, 0), (17, 0), (18, 0), (19, 1)] [o 3 (.fadr 0 (.t 1)), o 4 (.ld false 1 (.t 3)), o 5 (.call true true 0 (.fn 106) [.t 4]), o 6 (.not (.t 5)), o 7 (.call true true 0 (.fn 104) [.t 6, ci 8]), o 8 (.fadr 1 (.t 1)), o 9 (.ld false 1 (.t 8)), o 10 (.call true true 0 (.fn 111) [.t 9, ci 0, ci 2]), o 11 (.fadr 2 (.t 1)), o 12 (.ld false 1 (.t 11)), o 13 (.bin .neq (.t 12) (ci 1)), o 14 (.mv (.t 13)), ⟨some 15, .fadr 2 (.t 1), some (14, true)⟩, ⟨some 16, .ld false 1 (.t 15), some (14, true)⟩, ⟨some 17, .bin .neq (.t 16) (ci (-1)), some (14, true)⟩, o 18 (.pick (.t 14) (.t 17) (cb false)), o 19 (.call true true 0 (.fn 104) [.t 18, ci 3]), o 20 (.bslice false 1 [.p (.int .i64 0)] 3 [(0, .t 7), (1, .t 10), (2, .t 19)]), o 21 (.call true true 0 (.fn 103) [.t 20]), o 2 (.mv (.t 21))] [2])
 (.ret))⟩

/-- crumple/channel.Offset -/
def c23 : AFunc := ⟨17, [.cell 4 true 2, .tmp 5],
 .seq (.ops [o 4 (.alloc true 1 [.p (.int .i64 0), .p (.int .i64 0)]), o 5 (.mv (ci 0))] [0, 1, 4])
 (.seq (.seq (.ops [o 7 (.mv (.t 0)), o 8 (.mv (.t 1)), o 9 (.call true true 0 (.fn 112) [.t 7, .t 8]), o 6 (.mv (.t 9))] [0, 1, 4, 6])
 (.seq (.ops [o 10 (.mv (.t 6)), o 11 (.bin .neq (.t 10) (ci 0))] [0, 1, 4, 6, 11])
 (.cond (.t 11)
 (.seq (.ops [o 12 (.build [.p (.int .i64 0), .p (.int .i64 0)] []), o 13 (.mv (.t 6)), u (.st 2 (.t 4) (.t 12)), o 5 (.mv (.t 13))] [4, 5])
 (.ret))
 (.skip))))
 (.seq (.ops [o 14 (.mv (.t 0)), o 15 (.mv (.t 1)), o 16 (.call true true 0 (.fn 113) [.t 14, .t 15]), u (.st 2 (.t 4) (.t 16)), o 5 (.mv (ci 0))] [4, 5])
 (.ret)))⟩

/-- crumple/channel.Converted -/
def c25 : AFunc := ⟨27, [.tmp 6, .tmp 7],
 .seq (.ops [o 3 (.box true (.t 0)), o 6 (.mv (cn)), o 7 (.mv (ci 0))] [1, 2, 3])
 (.seq (.seq (.ops [o 10 (.ld true 4 (.t 3)), o 11 (.call true true 0 (.fn 34) [.t 10]), o 12 (.mv (.t 1)), o 13 (.mv (.t 2)), o 14 (.call true true 0 (.fn 112) [.t 12, .t 13]), o 15 (.bslice false 1 [.p (.int .i64 0)] 2 [(0, .t 11), (1, .t 14)]), o 16 (.call true true 0 (.fn 103) [.t 15]), o 8 (.mv (.t 16))] [1, 2, 3, 8])
 (.seq (.ops [o 17 (.mv (.t 8)), o 18 (.bin .neq (.t 17) (ci 0))] [1, 2, 3, 8, 18])
 (.cond (.t 18)
 (.seq (.ops [o 19 (.mv (.t 8)), o 6 (.mv (cn)), o 7 (.mv (.t 19))] [6, 7])
 (.ret))
 (.skip))))
 (.seq (.ops [o 20 (.mv (.t 1)), o 21 (.mv (.t 2)), o 22 (.call true true 0 (.fn 113) [.t 20, .t 21]), o 9 (.alloc true 1 [.p (.int .i64 0), .p (.int .i64 0)]), u (.st 2 (.t 9) (.t 22))] [1, 3, 9])
 (.seq (.ops [o 23 (.mv (.t 1)), o 24 (.call true false 0 (.fn 115) [.t 23]), o 25 (.mkclo 116 [] [.t 9, .t 3]), o 26 (.call true false 0 (.fn 114) [.t 24, .t 25]), o 6 (.mv (.t 26)), o 7 (.mv (ci 0))] [6, 7])
 (.ret))))⟩

/-- crumple/channel.Shunted -/
def c26 : AFunc := ⟨42, [.tmp 6, .tmp 7],
 .seq (.ops [o 3 (.box true (.t 0)), o 6 (.mv (cb false)), o 7 (.mv (ci 0))] [1, 2, 3])
 (.seq (.seq (.ops [o 9 (.ld true 4 (.t 3)), o 10 (.call true true 0 (.fn 34) [.t 9]), o 11 (.mv (.t 1)), o 12 (.call true true 0 (.fn 111) [.t 11, ci 1, ci 16384]), o 13 (.mv (.t 2)), o 14 (.call true true 0 (.fn 111) [.t 13, ci 1, ci 16384]), o 15 (.bslice false 1 [.p (.int .i64 0)] 3 [(0, .t 10), (1, .t 12), (2, .t 14)]), o 16 (.call true true 0 (.fn 103) [.t 15]), o 8 (.mv (.t 16))] [1, 2, 3, 8])
 (.seq (.ops [o 17 (.mv (.t 8)), o 18 (.bin .neq (.t 17) (ci 0))] [1, 2, 3, 8, 18])
 (.cond (.t 18)
 (.seq (.ops [o 19 (.mv (.t 8)), o 6 (.mv (cb false)), o 7 (.mv (.t 19))] [6, 7])
 (.ret))
 (.skip))))
 (.seq (.ops [o 20 (.mv (.t 1)), o 21 (.fadr 0 (.g 2)), o 22 (.ld false 1 (.t 21)), o 23 (.mv (.t 2)), o 24 (.fadr 2 (.t 3)), o 25 (.fadr 0 (.t 24)), o 26 (.ld false 1 (.t 25)), o 27 (.bin .mul (.t 23) (.t 26)), o 28 (.call false true 0 (.val (.t 22)) [.t 27, ci 1000]), o 29 (.bin .geq (.t 20) (.t 28)), o 30 (.mv (.t 29)), ⟨some 31, .mv (.t 1), some (30, true)⟩, ⟨some 32, .fadr 0 (.g 3), some (30, true)⟩, ⟨some 33, .ld false 1 (.t 32), some (30, true)⟩, ⟨some 34, .mv (.t 2), some (30, true)⟩, ⟨some 35, .fadr 2 (.t 3), some (30, true)⟩, ⟨some 36, .fadr 1 (.t 35), some (30, true)⟩, ⟨some 37, .ld false 1 (.t 36), some (30, true)⟩, ⟨some 38, .bin .mul (.t 34) (.t 37), some (30, true)⟩, ⟨some 39, .call false true 0 (.val (.t 33)) [.t 38, ci 1000], some (30, true)⟩, ⟨some 40, .bin .leq (.t 31) (.t 39), some (30, true)⟩, o 41 (.pick (.t 30) (.t 40) (cb false)), o 6 (.mv (.t 41)), o 7 (.mv (ci 0))] [6, 7])
 (.ret)))⟩

/-- crumple/crumpleref01.First -/
def c29L0 : ACode :=
 .seq (.seq (.ops [o 4 (.mv (.t 3)), o 5 (.mv (.t 0)), o 6 (.len 1 (.t 5)), o 7 (.bin .lss (.t 4) (.t 6))] [0, 3, 7])
 (.cond (.t 7)
 (.skip)
 (.exit 0)))
 (.seq (.block 1 (.seq (.ops [o 10 (.mv (.t 0)), o 11 (.mv (.t 3)), o 12 (.iadr 1 (.t 10) (.t 11)), o 13 (.ld false 1 (.t 12)), o 14 (.bin .neq (.t 13) (ci 0))] [0, 3, 14])
 (.cond (.t 14)
 (.seq (.ops [o 15 (.mv (.t 0)), o 16 (.mv (.t 3)), o 17 (.iadr 1 (.t 15) (.t 16)), o 18 (.ld false 1 (.t 17)), o 2 (.mv (.t 18))] [2])
 (.ret))
 (.skip))))
 (.ops [o 8 (.mv (.t 3)), o 9 (.bin .add (.t 8) (ci 1)), o 3 (.mv (.t 9))] [0, 3]))
def c29 : AFunc := ⟨19, [.tmp 2],
 .seq (.ops [o 2 (.mv (ci 0))] [0])
 (.seq (.seq (.ops [o 3 (.mv (ci 0))] [0, 3])
 (.block 0 (.loop false [0, 3] c29L0)))
 (.seq (.ops [o 2 (.mv (ci 0))] [2])
 (.ret)))⟩

/-- crumple/channel.CheckSensor -/
def c34 : AFunc := ⟨16, [.tmp 2],
 .seq (.ops [o 1 (.box true (.t 0)), o 2 (.mv (ci 0))] [1])
 (.seq (.opsd [(0, 1), (1, 1), (2, 1), (3, 1), (4, 1), (5, 1), (6, 1), (7, 1), (8, 1), (9, 1), (10, 0), (11, 0), (12, 0), (13, 1)] [o 3 (.fadr 0 (.t 1)), o 4 (.ld false 1 (.t 3)), o 5 (.call true true 0 (.fn 106) [.t 4]), o 6 (.not (.t 5)), o 7 (.call true true 0 (.fn 104) [.t 6, ci 8]), o 8 (.fadr 1 (.t 1)), o 9 (.ld false 1 (.t 8)), o 10 (.call true true 0 (.fn 111) [.t 9, ci 1, ci 16384]), o 11 (.fadr 2 (.t 1)), o 12 (.ld true 2 (.t 11)), o 13 (.call true true 0 (.fn 121) [.t 12, ci 1, ci 4000]), o 14 (.bslice false 1 [.p (.int .i64 0)] 3 [(0, .t 7), (1, .t 10), (2, .t 13)]), o 15 (.call true true 0 (.fn 103) [.t 14]), o 2 (.mv (.t 15))] [2])
 (.ret))⟩

/-- crumple/crumpleref02.SameValues -/
def c35L0 : ACode :=
 .seq (.seq (.ops [o 11 (.mv (.t 5)), o 12 (.mv (.t 0)), o 13 (.len 1 (.t 12)), o 14 (.bin .lss (.t 11) (.t 13))] [0, 1, 5, 14])
 (.cond (.t 14)
 (.skip)
 (.exit 0)))
 (.seq (.block 1 (.seq (.opsd [(0, 1), (1, 1), (2, 1), (3, 1), (4, 1), (5, 1), (6, 1), (7, 1), (8, 1)] [o 17 (.mv (.t 0)), o 18 (.mv (.t 5)), o 19 (.iadr 4 (.t 17) (.t 18)), o 20 (.ld true 4 (.t 19)), o 21 (.mv (.t 1)), o 22 (.mv (.t 5)), o 23 (.iadr 4 (.t 21) (.t 22)), o 24 (.ld true 4 (.t 23)), o 25 (.eqagg [0, 0, 2, 2] true (.t 20) (.t 24))] [0, 1, 5, 25])
 (.cond (.t 25)
 (.seq (.ops [o 4 (.mv (cb false))] [4])
 (.ret))
 (.skip))))
 (.ops [o 15 (.mv (.t 5)), o 16 (.bin .add (.t 15) (ci 1)), o 5 (.mv (.t 16))] [0, 1, 5]))
def c35 : AFunc := ⟨26, [.tmp 4],
 .seq (.ops [o 4 (.mv (cb false))] [0, 1])
 (.seq (.seq (.ops [o 6 (.mv (.t 0)), o 7 (.len 1 (.t 6)), o 8 (.mv (.t 1)), o 9 (.len 1 (.t 8)), o 10 (.bin .neq (.t 7) (.t 9))] [0, 1, 10])
 (.cond (.t 10)
 (.seq (.ops [o 4 (.mv (cb false))] [4])
 (.ret))
 (.skip)))
 (.seq (.seq (.ops [o 5 (.mv (ci 0))] [0, 1, 5])
 (.block 0 (.loop false [0, 1, 5] c35L0)))
 (.seq (.ops [o 4 (.mv (cb true))] [4])
 (.ret))))⟩

/-- crumple/crumplelaw02.told -/
def c36L0 : ACode :=
 .seq (.ops [o 9 (.bin .lss (.t 8) (.t 7))] [3, 6, 7, 8, 9])
 (.seq (.cond (.t 9)
 (.skip)
 (.exit 0))
 (.seq (.block 1 (.seq (.ops [o 10 (.iadr 4 (.t 6) (.t 8)), o 11 (.ld true 4 (.t 10)), o 5 (.alloc true 1 [.p (.int .i64 0), .p (.int .i64 0), .p (.bool false), .p (.bool false)]), u (.st 4 (.t 5) (.t 11))] [3, 5, 6, 7, 8])
 (.ops [o 12 (.mv (.t 3)), o 13 (.ld true 4 (.t 5)), o 14 (.bslice false 4 [.p (.int .i64 0), .p (.int .i64 0), .p (.bool false), .p (.bool false)] 1 [(0, .t 13)]), o 15 (.app 4 24 [.p (.int .i64 0), .p (.int .i64 0), .p (.bool false), .p (.bool false)] (.t 12) (.t 14)), o 3 (.mv (.t 15))] [3, 6, 7, 8])))
 (.ops [o 16 (.bin .add (.t 8) (ci 1)), o 8 (.mv (.t 16))] [3, 6, 7, 8])))
def c36 : AFunc := ⟨18, [.tmp 2],
 .seq (.ops [o 2 (.mv (cn))] [0])
 (.seq (.ops [o 3 (.nilown 4)] [0, 3])
 (.seq (.seq (.ops [o 6 (.mv (.t 0)), o 7 (.len 1 (.t 6)), o 8 (.mv (ci 0))] [3, 6, 7, 8])
 (.block 0 (.loop true [3, 6, 7, 8] c36L0)))
 (.seq (.ops [o 17 (.mv (.t 3)), o 2 (.mv (.t 17))] [2])
 (.ret))))⟩

/-- crumple/channel.Passed -/
def c38L0 : ACode :=
 .seq (.ops [o 23 (.bin .lss (.t 22) (.t 21))] [0, 1, 7, 20, 21, 22, 23])
 (.seq (.cond (.t 23)
 (.skip)
 (.exit 0))
 (.seq (.block 1 (.seq (.ops [o 24 (.mv (.t 22)), o 25 (.iadr 1 (.t 20) (.t 22)), o 26 (.ld false 1 (.t 25)), o 8 (.mv (.t 24)), o 9 (.mv (.t 26))] [0, 1, 7, 8, 9, 20, 21, 22])
 (.ops [o 27 (.mv (.t 7)), o 28 (.mv (.t 8)), o 29 (.neg (.t 28)), o 30 (.mv (.t 9)), u (.mupd 0 (.t 27) (.t 29) (.t 30))] [0, 1, 7, 20, 21, 22])))
 (.ops [o 31 (.bin .add (.t 22) (ci 1)), o 22 (.mv (.t 31))] [0, 1, 7, 20, 21, 22])))
def c38 : AFunc := ⟨39, [.tmp 4, .tmp 5],
 .seq (.ops [o 4 (.mv (cn)), o 5 (.mv (ci 0))] [0, 1])
 (.seq (.seq (.ops [o 10 (.mv (.t 0)), o 11 (.call true true 0 (.fn 122) [.t 10]), o 12 (.mv (.t 1)), o 13 (.call true true 0 (.fn 47) [.t 12]), o 14 (.bslice false 1 [.p (.int .i64 0)] 2 [(0, .t 11), (1, .t 13)]), o 15 (.call true true 0 (.fn 103) [.t 14]), o 6 (.mv (.t 15))] [0, 1, 6])
 (.seq (.ops [o 16 (.mv (.t 6)), o 17 (.bin .neq (.t 16) (ci 0))] [0, 1, 6, 17])
 (.cond (.t 17)
 (.seq (.ops [o 18 (.mv (.t 6)), o 4 (.mv (cn)), o 5 (.mv (.t 18))] [4, 5])
 (.ret))
 (.skip))))
 (.seq (.ops [o 19 (.mkmap), o 7 (.mv (.t 19))] [0, 1, 7])
 (.seq (.seq (.ops [o 20 (.mv (.t 1)), o 21 (.len 1 (.t 20)), o 22 (.mv (ci 0))] [0, 1, 7, 20, 21, 22])
 (.block 0 (.loop false [0, 1, 7, 20, 21, 22] c38L0)))
 (.seq (.ops [o 32 (.mv (.t 0)), o 33 (.mv (.t 7)), o 34 (.mv (.t 1)), o 35 (.call true true 0 (.fn 124) [.t 34]), o 36 (.call true false 0 (.fn 123) [.t 32, .t 33, .t 35]), o 37 (.ext (.t 36) 0), o 38 (.ext (.t 36) 1), o 4 (.mv (.t 37)), o 5 (.mv (.t 38))] [4, 5])
 (.ret)))))⟩

/-- crumple/channel.Filtered -/
def c40 : AFunc := ⟨27, [.tmp 4, .tmp 5],
 .seq (.ops [o 4 (.mv (cn)), o 5 (.mv (ci 0))] [0, 1])
 (.seq (.seq (.ops [o 7 (.mv (.t 0)), o 8 (.call true true 0 (.fn 122) [.t 7]), o 9 (.mv (.t 1)), o 10 (.call true true 0 (.fn 47) [.t 9]), o 11 (.bslice false 1 [.p (.int .i64 0)] 2 [(0, .t 8), (1, .t 10)]), o 12 (.call true true 0 (.fn 103) [.t 11]), o 6 (.mv (.t 12))] [0, 1, 6])
 (.seq (.ops [o 13 (.mv (.t 6)), o 14 (.bin .neq (.t 13) (ci 0))] [0, 1, 6, 14])
 (.cond (.t 14)
 (.seq (.ops [o 15 (.mv (.t 6)), o 4 (.mv (cn)), o 5 (.mv (.t 15))] [4, 5])
 (.ret))
 (.skip))))
 (.seq (.ops [o 16 (.mv (.t 0)), o 17 (.mv (.t 1)), o 18 (.call true false 0 (.fn 125) [.t 17]), o 19 (.mv (.t 1)), o 20 (.call true true 0 (.fn 124) [.t 19]), o 21 (.mv (.t 1)), o 22 (.call true true 0 (.fn 124) [.t 21]), o 23 (.bin .mul (.t 20) (.t 22)), o 24 (.call true false 0 (.fn 123) [.t 16, .t 18, .t 23]), o 25 (.ext (.t 24) 0), o 26 (.ext (.t 24) 1), o 4 (.mv (.t 25)), o 5 (.mv (.t 26))] [4, 5])
 (.ret)))⟩

/-- crumple/channel.Weights -/
def c41L0 : ACode :=
 .seq (.ops [o 24 (.bin .lss (.t 23) (.t 22))] [0, 6, 7, 22, 23, 24])
 (.seq (.cond (.t 24)
 (.skip)
 (.exit 0))
 (.seq (.block 1 (.seq (.ops [o 25 (.mv (.t 23)), o 8 (.mv (.t 25))] [0, 6, 7, 8, 22, 23])
 (.ops [o 26 (.mv (.t 7)), o 27 (.mv (.t 8)), o 28 (.mv (.t 6)), o 29 (.mv (.t 8)), o 30 (.mv (.t 0)), o 31 (.len 1 (.t 30)), o 32 (.bin .sub (.t 29) (.t 31)), o 33 (.bin .add (.t 32) (ci 1)), o 34 (.lkup 0 (.p (.int .i64 0)) (.t 28) (.t 33) false), o 35 (.iadr 1 (.t 26) (.t 27)), u (.st 1 (.t 35) (.t 34))] [0, 6, 7, 22, 23])))
 (.ops [o 36 (.bin .add (.t 23) (ci 1)), o 23 (.mv (.t 36))] [0, 6, 7, 22, 23])))
def c41 : AFunc := ⟨43, [.tmp 2, .tmp 3, .tmp 4],
 .seq (.ops [o 2 (.mv (cn)), o 3 (.mv (ci 0)), o 4 (.mv (ci 0))] [0])
 (.seq (.seq (.ops [o 9 (.mv (.t 0)), o 10 (.call true true 0 (.fn 47) [.t 9]), o 5 (.mv (.t 10))] [0, 5])
 (.seq (.ops [o 11 (.mv (.t 5)), o 12 (.bin .neq (.t 11) (ci 0))] [0, 5, 12])
 (.cond (.t 12)
 (.seq (.ops [o 13 (.mv (.t 5)), o 2 (.mv (cn)), o 3 (.mv (ci 0)), o 4 (.mv (.t 13))] [2, 3, 4])
 (.ret))
 (.skip))))
 (.seq (.ops [o 14 (.mv (.t 0)), o 15 (.call true false 0 (.fn 125) [.t 14]), o 6 (.mv (.t 15))] [0, 6])
 (.seq (.ops [o 16 (.mv (.t 0)), o 17 (.len 1 (.t 16)), o 18 (.bin .mul (ci 2) (.t 17)), o 19 (.bin .sub (.t 18) (ci 1)), o 20 (.mkslice 1 [.p (.int .i64 0)] (.t 19) (.t 19)), o 7 (.mv (.t 20))] [0, 6, 7])
 (.seq (.seq (.ops [o 21 (.mv (.t 7)), o 22 (.len 1 (.t 21)), o 23 (.mv (ci 0))] [0, 6, 7, 22, 23])
 (.block 0 (.loop false [0, 6, 7, 22, 23] c41L0)))
 (.seq (.ops [o 37 (.mv (.t 7)), o 38 (.mv (.t 0)), o 39 (.call true true 0 (.fn 124) [.t 38]), o 40 (.mv (.t 0)), o 41 (.call true true 0 (.fn 124) [.t 40]), o 42 (.bin .mul (.t 39) (.t 41)), o 2 (.mv (.t 37)), o 3 (.mv (.t 42)), o 4 (.mv (ci 0))] [2, 3, 4])
 (.ret))))))⟩

/-- crumple/channel.CheckKernel -/
def c47 : AFunc := ⟨26, [.tmp 2],
 .seq (.ops [o 2 (.mv (ci 0))] [0])
 (.seq (.seq (.ops [o 4 (.mv (.t 0)), o 5 (.len 1 (.t 4)), o 6 (.bin .eql (.t 5) (ci 0)), o 7 (.call true true 0 (.fn 104) [.t 6, ci 12]), o 8 (.mv (.t 0)), o 9 (.len 1 (.t 8)), o 10 (.bin .gtr (.t 9) (ci 7)), o 11 (.call true true 0 (.fn 104) [.t 10, ci 5]), o 12 (.bslice false 1 [.p (.int .i64 0)] 2 [(0, .t 7), (1, .t 11)]), o 13 (.call true true 0 (.fn 103) [.t 12]), o 3 (.mv (.t 13))] [0, 3])
 (.seq (.ops [o 14 (.mv (.t 3)), o 15 (.bin .neq (.t 14) (ci 0))] [0, 3, 15])
 (.cond (.t 15)
 (.seq (.ops [o 16 (.mv (.t 3)), o 2 (.mv (.t 16))] [2])
 (.ret))
 (.skip))))
 (.seq (.ops [o 17 (.mv (.t 0)), o 18 (.call true false 0 (.fn 131) [.t 17, cf 132]), o 19 (.call true true 0 (.fn 103) [.t 18]), o 20 (.mv (.t 0)), o 21 (.call true true 0 (.fn 124) [.t 20]), o 22 (.bin .leq (.t 21) (ci 0)), o 23 (.call true true 0 (.fn 104) [.t 22, ci 6]), o 24 (.bslice false 1 [.p (.int .i64 0)] 2 [(0, .t 19), (1, .t 23)]), o 25 (.call true true 0 (.fn 103) [.t 24]), o 2 (.mv (.t 25))] [2])
 (.ret)))⟩

/-- crumple/crumpleref01.SameSamples -/
def c48L0 : ACode :=
 .seq (.seq (.ops [o 11 (.mv (.t 5)), o 12 (.mv (.t 0)), o 13 (.len 1 (.t 12)), o 14 (.bin .lss (.t 11) (.t 13))] [0, 1, 5, 14])
 (.cond (.t 14)
 (.skip)
 (.exit 0)))
 (.seq (.block 1 (.seq (.opsd [(0, 1), (1, 1), (2, 1), (3, 1), (4, 1), (5, 1), (6, 1), (7, 1), (8, 1)] [o 17 (.mv (.t 0)), o 18 (.mv (.t 5)), o 19 (.iadr 1 (.t 17) (.t 18)), o 20 (.ld false 1 (.t 19)), o 21 (.mv (.t 1)), o 22 (.mv (.t 5)), o 23 (.iadr 1 (.t 21) (.t 22)), o 24 (.ld false 1 (.t 23)), o 25 (.bin .neq (.t 20) (.t 24))] [0, 1, 5, 25])
 (.cond (.t 25)
 (.seq (.ops [o 4 (.mv (cb false))] [4])
 (.ret))
 (.skip))))
 (.ops [o 15 (.mv (.t 5)), o 16 (.bin .add (.t 15) (ci 1)), o 5 (.mv (.t 16))] [0, 1, 5]))
def c48 : AFunc := ⟨26, [.tmp 4],
 .seq (.ops [o 4 (.mv (cb false))] [0, 1])
 (.seq (.seq (.ops [o 6 (.mv (.t 0)), o 7 (.len 1 (.t 6)), o 8 (.mv (.t 1)), o 9 (.len 1 (.t 8)), o 10 (.bin .neq (.t 7) (.t 9))] [0, 1, 10])
 (.cond (.t 10)
 (.seq (.ops [o 4 (.mv (cb false))] [4])
 (.ret))
 (.skip)))
 (.seq (.seq (.ops [o 5 (.mv (ci 0))] [0, 1, 5])
 (.block 0 (.loop false [0, 1, 5] c48L0)))
 (.seq (.ops [o 4 (.mv (cb true))] [4])
 (.ret))))⟩

/-- crumple/crumpleref01.SameInts -/
def c49L0 : ACode :=
 .seq (.seq (.ops [o 11 (.mv (.t 5)), o 12 (.mv (.t 0)), o 13 (.len 1 (.t 12)), o 14 (.bin .lss (.t 11) (.t 13))] [0, 1, 5, 14])
 (.cond (.t 14)
 (.skip)
 (.exit 0)))
 (.seq (.block 1 (.seq (.opsd [(0, 1), (1, 1), (2, 1), (3, 1), (4, 1), (5, 1), (6, 1), (7, 1), (8, 1)] [o 17 (.mv (.t 0)), o 18 (.mv (.t 5)), o 19 (.iadr 1 (.t 17) (.t 18)), o 20 (.ld false 1 (.t 19)), o 21 (.mv (.t 1)), o 22 (.mv (.t 5)), o 23 (.iadr 1 (.t 21) (.t 22)), o 24 (.ld false 1 (.t 23)), o 25 (.bin .neq (.t 20) (.t 24))] [0, 1, 5, 25])
 (.cond (.t 25)
 (.seq (.ops [o 4 (.mv (cb false))] [4])
 (.ret))
 (.skip))))
 (.ops [o 15 (.mv (.t 5)), o 16 (.bin .add (.t 15) (ci 1)), o 5 (.mv (.t 16))] [0, 1, 5]))
def c49 : AFunc := ⟨26, [.tmp 4],
 .seq (.ops [o 4 (.mv (cb false))] [0, 1])
 (.seq (.seq (.ops [o 6 (.mv (.t 0)), o 7 (.len 1 (.t 6)), o 8 (.mv (.t 1)), o 9 (.len 1 (.t 8)), o 10 (.bin .neq (.t 7) (.t 9))] [0, 1, 10])
 (.cond (.t 10)
 (.seq (.ops [o 4 (.mv (cb false))] [4])
 (.ret))
 (.skip)))
 (.seq (.seq (.ops [o 5 (.mv (ci 0))] [0, 1, 5])
 (.block 0 (.loop false [0, 1, 5] c49L0)))
 (.seq (.ops [o 4 (.mv (cb true))] [4])
 (.ret))))⟩

/-- crumple/channel.Enclosed -/
def c51A0 : ACode :=
 .seq (.ops [o 13 (.mv (.t 52))] [12, 13, 53])
 (.ops [o 14 (.mv (.t 53))] [12, 13, 14])
def c51B0 : ACode :=
 .block 3 (.ops [o 54 (.ld false 1 (.t 12)), o 55 (.mv (.t 13)), o 56 (.lkup 0 (.p (.int .i64 0)) (.t 54) (.t 55) false), o 57 (.mv (.t 14)), o 58 (.bin .add (.t 56) (.t 57)), u (.mupd 0 (.t 54) (.t 55) (.t 58))] [])
def c51L1 : ACode :=
 .seq (.ops [o 61 (.nxt (.t 60) false), o 62 (.ext (.t 61) 0)] [0, 4, 5, 8, 9, 10, 15, 42, 43, 60, 62])
 (.seq (.cond (.t 62)
 (.skip)
 (.exit 4))
 (.block 5 (.seq (.ops [o 63 (.entry (.t 60)), o 64 (.ext (.t 63) 0), o 65 (.ext (.t 63) 1), o 16 (.mv (.t 64)), o 17 (.mv (.t 65))] [0, 4, 5, 8, 9, 10, 15, 16, 17, 42, 43, 60])
 (.seq (.ops [o 66 (.mv (.t 0)), o 67 (.mv (.t 16)), o 68 (.iadr 2 (.t 66) (.t 67)), o 69 (.ld true 2 (.t 68)), o 70 (.mv (.t 17)), o 71 (.mv (.t 17)), o 72 (.build [.p (.int .i64 0), .p (.int .i64 0)] [(0, 1, .t 70), (1, 1, .t 71)]), o 73 (.call true true 0 (.fn 117) [.t 69, .t 72]), o 18 (.alloc true 1 [.p (.int .i64 0), .p (.int .i64 0)]), u (.st 2 (.t 18) (.t 73))] [0, 4, 5, 8, 9, 10, 15, 18, 42, 43, 60])
 (.ops [o 74 (.iadra 1 2 (.t 15) (ci 0)), o 75 (.ld false 1 (.t 74)), o 76 (.iadra 1 2 (.t 18) (ci 0)), o 77 (.ld false 1 (.t 76)), o 78 (.bin .add (.t 75) (.t 77)), o 79 (.iadra 1 2 (.t 15) (ci 1)), o 80 (.ld false 1 (.t 79)), o 81 (.iadra 1 2 (.t 18) (ci 1)), o 82 (.ld false 1 (.t 81)), o 83 (.bin .add (.t 80) (.t 82)), o 84 (.build [.p (.int .i64 0), .p (.int .i64 0)] [(0, 1, .t 78), (1, 1, .t 83)]), u (.st 2 (.t 15) (.t 84))] [0, 4, 5, 8, 9, 10, 15, 42, 43, 60])))))
def c51L2 : ACode :=
 .seq (.ops [o 44 (.bin .lss (.t 43) (.t 42))] [0, 4, 5, 8, 9, 10, 42, 43, 44])
 (.seq (.cond (.t 44)
 (.skip)
 (.exit 0))
 (.seq (.block 1 (.seq (.ops [o 45 (.mv (.t 43)), o 11 (.mv (.t 45))] [0, 4, 5, 8, 9, 10, 11, 42, 43])
 (.seq (.ops [o 46 (.mkmap), o 12 (.alloc false 1 [.p (.nilm)]), u (.st 1 (.t 12) (.t 46))] [0, 4, 5, 8, 9, 10, 11, 12, 42, 43])
 (.seq (.seq (.ops [o 47 (.mv (.t 8)), o 48 (.mv (.t 11)), o 49 (.mv (.t 0)), o 50 (.len 1 (.t 49)), o 51 (.call true false 0 (.fn 136) [.t 47, .t 48, .t 50])] [0, 4, 5, 8, 9, 10, 12, 42, 43, 51])
 (.block 2 (.rfun (.t 51) [52, 53] c51A0 c51B0)))
 (.seq (.ops [o 15 (.alloc true 1 [.p (.int .i64 0), .p (.int .i64 0)])] [0, 4, 5, 8, 9, 10, 12, 15, 42, 43])
 (.seq (.seq (.ops [o 59 (.ld false 1 (.t 12)), o 60 (.rngm (.t 59))] [0, 4, 5, 8, 9, 10, 15, 42, 43, 60])
 (.block 4 (.loop true [0, 4, 5, 8, 9, 10, 15, 42, 43, 60] c51L1)))
 (.seq (.opsd [(0, 1), (1, 1), (2, 1), (3, 1), (4, 1), (5, 1), (6, 1), (7, 1), (8, 1), (9, 1), (10, 1), (11, 1), (12, 1), (13, 2), (14, 0)] [o 85 (.fadr 0 (.g 2)), o 86 (.ld false 1 (.t 85)), o 87 (.iadra 1 2 (.t 15) (ci 0)), o 88 (.ld false 1 (.t 87)), o 89 (.mv (.t 9)), o 90 (.call false true 0 (.val (.t 86)) [.t 88, .t 89]), o 91 (.fadr 0 (.g 3)), o 92 (.ld false 1 (.t 91)), o 93 (.iadra 1 2 (.t 15) (ci 1)), o 94 (.ld false 1 (.t 93)), o 95 (.mv (.t 9)), o 96 (.call false true 0 (.val (.t 92)) [.t 94, .t 95]), o 97 (.build [.p (.int .i64 0), .p (.int .i64 0)] [(0, 1, .t 90), (1, 1, .t 96)]), o 19 (.alloc true 1 [.p (.int .i64 0), .p (.int .i64 0)]), u (.st 2 (.t 19) (.t 97))] [0, 4, 5, 8, 9, 10, 19, 42, 43])
 (.seq (.seq (.ops [o 98 (.fadr 0 (.t 19)), o 99 (.ld false 1 (.t 98)), o 100 (.bin .lss (.t 99) (ci (-200000))), o 101 (.mv (.t 100)), ⟨some 102, .fadr 1 (.t 19), some (101, false)⟩, ⟨some 103, .ld false 1 (.t 102), some (101, false)⟩, ⟨some 104, .bin .gtr (.t 103) (ci 200000), some (101, false)⟩, o 105 (.pick (.t 101) (cb true) (.t 104))] [0, 4, 5, 8, 9, 10, 19, 42, 43, 105])
 (.cond (.t 105)
 (.seq (.ops [o 4 (.mv (cn)), o 5 (.mv (ci 4))] [4, 5])
 (.ret))
 (.skip)))
 (.ops [o 106 (.mv (.t 10)), o 107 (.ld true 2 (.t 19)), o 108 (.bslice false 2 [.p (.int .i64 0), .p (.int .i64 0)] 1 [(0, .t 107)]), o 109 (.app 2 16 [.p (.int .i64 0), .p (.int .i64 0)] (.t 106) (.t 108)), o 10 (.mv (.t 109))] [0, 4, 5, 8, 9, 10, 42, 43])))))))))
 (.ops [o 110 (.bin .add (.t 43) (ci 1)), o 43 (.mv (.t 110))] [0, 4, 5, 8, 9, 10, 42, 43])))
def c51 : AFunc := ⟨112, [.tmp 4, .tmp 5],
 .seq (.ops [o 4 (.mv (cn)), o 5 (.mv (ci 0))] [0, 1, 4, 5])
 (.seq (.ops [o 6 (.mv (cf 133))] [0, 1, 4, 5, 6])
 (.seq (.seq (.ops [o 20 (.mv (.t 0)), o 21 (.len 1 (.t 20)), o 22 (.call true true 0 (.fn 134) [.t 21]), o 23 (.mv (.t 0)), o 24 (.mv (.t 6)), o 25 (.call true false 0 (.fn 135) [.t 23, .t 24]), o 26 (.call true true 0 (.fn 103) [.t 25]), o 27 (.mv (.t 1)), o 28 (.call true true 0 (.fn 47) [.t 27]), o 29 (.bslice false 1 [.p (.int .i64 0)] 3 [(0, .t 22), (1, .t 26), (2, .t 28)]), o 30 (.call true true 0 (.fn 103) [.t 29]), o 7 (.mv (.t 30))] [0, 1, 4, 5, 7])
 (.seq (.ops [o 31 (.mv (.t 7)), o 32 (.bin .neq (.t 31) (ci 0))] [0, 1, 4, 5, 7, 32])
 (.cond (.t 32)
 (.seq (.ops [o 33 (.mv (.t 7)), o 4 (.mv (cn)), o 5 (.mv (.t 33))] [4, 5])
 (.ret))
 (.skip))))
 (.seq (.ops [o 34 (.mv (.t 1)), o 35 (.call true false 0 (.fn 125) [.t 34]), o 36 (.mv (.t 1)), o 37 (.call true true 0 (.fn 124) [.t 36]), o 38 (.mv (.t 1)), o 39 (.call true true 0 (.fn 124) [.t 38]), o 40 (.bin .mul (.t 37) (.t 39)), o 8 (.mv (.t 35)), o 9 (.mv (.t 40))] [0, 4, 5, 8, 9])
 (.seq (.ops [o 10 (.nilown 2)] [0, 4, 5, 8, 9, 10])
 (.seq (.seq (.ops [o 41 (.mv (.t 0)), o 42 (.len 1 (.t 41)), o 43 (.mv (ci 0))] [0, 4, 5, 8, 9, 10, 42, 43])
 (.block 0 (.loop true [0, 4, 5, 8, 9, 10, 42, 43] c51L2)))
 (.seq (.ops [o 111 (.mv (.t 10)), o 4 (.mv (.t 111)), o 5 (.mv (ci 0))] [4, 5])
 (.ret)))))))⟩

/-- crumple/crumpleref02.CheckIntervals -/
def c53L0 : ACode :=
 .seq (.seq (.ops [o 19 (.mv (.t 4)), o 20 (.mv (.t 0)), o 21 (.len 1 (.t 20)), o 22 (.bin .lss (.t 19) (.t 21))] [0, 4, 22])
 (.cond (.t 22)
 (.skip)
 (.exit 0)))
 (.seq (.block 1 (.seq (.ops [o 25 (.mv (.t 0)), o 26 (.mv (.t 4)), o 27 (.iadr 2 (.t 25) (.t 26)), o 28 (.ld true 2 (.t 27)), o 29 (.call true true 0 (.fn 84) [.t 28, ci (-200000), ci 200000]), o 5 (.mv (.t 29))] [0, 4, 5])
 (.seq (.ops [o 30 (.mv (.t 5)), o 31 (.bin .neq (.t 30) (ci 0))] [0, 4, 5, 31])
 (.cond (.t 31)
 (.seq (.ops [o 32 (.mv (.t 5)), o 2 (.mv (.t 32))] [2])
 (.ret))
 (.skip)))))
 (.ops [o 23 (.mv (.t 4)), o 24 (.bin .add (.t 23) (ci 1)), o 4 (.mv (.t 24))] [0, 4]))
def c53 : AFunc := ⟨33, [.tmp 2],
 .seq (.ops [o 2 (.mv (ci 0))] [0])
 (.seq (.seq (.ops [o 6 (.mv (.t 0)), o 7 (.len 1 (.t 6)), o 8 (.bin .eql (.t 7) (ci 0)), o 9 (.call true true 0 (.fn 109) [.t 8, ci 12]), o 10 (.mv (.t 0)), o 11 (.len 1 (.t 10)), o 12 (.bin .gtr (.t 11) (ci 4096)), o 13 (.call true true 0 (.fn 109) [.t 12, ci 5]), o 14 (.bslice false 1 [.p (.int .i64 0)] 2 [(0, .t 9), (1, .t 13)]), o 15 (.call true true 0 (.fn 29) [.t 14]), o 3 (.mv (.t 15))] [0, 3])
 (.seq (.ops [o 16 (.mv (.t 3)), o 17 (.bin .neq (.t 16) (ci 0))] [0, 3, 17])
 (.cond (.t 17)
 (.seq (.ops [o 18 (.mv (.t 3)), o 2 (.mv (.t 18))] [2])
 (.ret))
 (.skip))))
 (.seq (.seq (.ops [o 4 (.mv (ci 0))] [0, 4])
 (.block 0 (.loop false [0, 4] c53L0)))
 (.seq (.ops [o 2 (.mv (ci 0))] [2])
 (.ret))))⟩

/-- crumple/crumpleref01.SameIntervals -/
def c55L0 : ACode :=
 .seq (.seq (.ops [o 11 (.mv (.t 5)), o 12 (.mv (.t 0)), o 13 (.len 1 (.t 12)), o 14 (.bin .lss (.t 11) (.t 13))] [0, 1, 5, 14])
 (.cond (.t 14)
 (.skip)
 (.exit 0)))
 (.seq (.block 1 (.seq (.opsd [(0, 1), (1, 1), (2, 1), (3, 1), (4, 1), (5, 1), (6, 1), (7, 1), (8, 1)] [o 17 (.mv (.t 0)), o 18 (.mv (.t 5)), o 19 (.iadr 2 (.t 17) (.t 18)), o 20 (.ld true 2 (.t 19)), o 21 (.mv (.t 1)), o 22 (.mv (.t 5)), o 23 (.iadr 2 (.t 21) (.t 22)), o 24 (.ld true 2 (.t 23)), o 25 (.eqagg [0, 0] true (.t 20) (.t 24))] [0, 1, 5, 25])
 (.cond (.t 25)
 (.seq (.ops [o 4 (.mv (cb false))] [4])
 (.ret))
 (.skip))))
 (.ops [o 15 (.mv (.t 5)), o 16 (.bin .add (.t 15) (ci 1)), o 5 (.mv (.t 16))] [0, 1, 5]))
def c55 : AFunc := ⟨26, [.tmp 4],
 .seq (.ops [o 4 (.mv (cb false))] [0, 1])
 (.seq (.seq (.ops [o 6 (.mv (.t 0)), o 7 (.len 1 (.t 6)), o 8 (.mv (.t 1)), o 9 (.len 1 (.t 8)), o 10 (.bin .neq (.t 7) (.t 9))] [0, 1, 10])
 (.cond (.t 10)
 (.seq (.ops [o 4 (.mv (cb false))] [4])
 (.ret))
 (.skip)))
 (.seq (.seq (.ops [o 5 (.mv (ci 0))] [0, 1, 5])
 (.block 0 (.loop false [0, 1, 5] c55L0)))
 (.seq (.ops [o 4 (.mv (cb true))] [4])
 (.ret))))⟩

/-- crumple/crumpleref02.ShortValues -/
def c56 : AFunc := ⟨11, [.tmp 2],
 .seq (.ops [o 2 (.mv (cb false))] [0])
 (.seq (.ops [o 3 (.mv (.t 0)), o 4 (.len 1 (.t 3)), o 5 (.bin .leq (.t 4) (ci 40)), o 6 (.mv (.t 5)), ⟨some 7, .mv (.t 0), some (6, false)⟩, ⟨some 8, .len 1 (.t 7), some (6, false)⟩, ⟨some 9, .bin .eql (.t 8) (ci 4097), some (6, false)⟩, o 10 (.pick (.t 6) (cb true) (.t 9)), o 2 (.mv (.t 10))] [2])
 (.ret))⟩

/-- crumple/channel.Peak -/
def c57 : AFunc := ⟨33, [.cell 2 true 2, .tmp 3, .tmp 4],
 .seq (.ops [o 2 (.alloc true 1 [.p (.int .i64 0), .p (.int .i64 0)]), o 3 (.mv (cb false)), o 4 (.mv (ci 0))] [0, 2])
 (.seq (.seq (.ops [o 9 (.mv (.t 0)), o 10 (.call true true 0 (.fn 137) [.t 9]), o 5 (.mv (.t 10))] [0, 2, 5])
 (.seq (.ops [o 11 (.mv (.t 5)), o 12 (.bin .neq (.t 11) (ci 0))] [0, 2, 5, 12])
 (.cond (.t 12)
 (.seq (.ops [o 13 (.build [.p (.int .i64 0), .p (.int .i64 0)] []), o 14 (.mv (.t 5)), u (.st 2 (.t 2) (.t 13)), o 3 (.mv (cb false)), o 4 (.mv (.t 14))] [2, 3, 4])
 (.ret))
 (.skip))))
 (.seq (.ops [o 15 (.mv (.t 0)), o 16 (.call true false 4 (.fn 139) [.t 15]), o 17 (.call false false 0 (.fn 138) [.t 16, cf 140]), o 6 (.mv (.t 17))] [0, 2, 6])
 (.seq (.seq (.ops [o 18 (.mv (.t 6)), o 19 (.len 1 (.t 18)), o 20 (.bin .eql (.t 19) (ci 0))] [0, 2, 6, 20])
 (.cond (.t 20)
 (.seq (.ops [o 21 (.build [.p (.int .i64 0), .p (.int .i64 0)] []), u (.st 2 (.t 2) (.t 21)), o 3 (.mv (cb false)), o 4 (.mv (ci 7))] [2, 3, 4])
 (.ret))
 (.skip)))
 (.seq (.ops [o 22 (.mv (.t 6)), o 23 (.call true true 0 (.fn 141) [.t 22, cf 142]), o 7 (.alloc true 1 [.p (.int .i64 0), .p (.int .i64 0), .p (.bool false), .p (.bool false)]), u (.st 4 (.t 7) (.t 23))] [0, 2, 7])
 (.seq (.ops [o 24 (.mv (.t 0)), o 25 (.call true true 0 (.fn 141) [.t 24, cf 144]), o 8 (.alloc true 1 [.p (.int .i64 0), .p (.int .i64 0), .p (.bool false), .p (.bool false)]), u (.st 4 (.t 8) (.t 25))] [0, 2, 7, 8])
 (.seq (.opsd [(0, 1), (1, 1), (2, 1), (3, 1), (4, 1), (5, 1), (6, 1), (7, 0), (8, 1), (9, 1)] [o 26 (.fadr 0 (.t 7)), o 27 (.ld false 1 (.t 26)), o 28 (.fadr 1 (.t 8)), o 29 (.ld false 1 (.t 28)), o 30 (.build [.p (.int .i64 0), .p (.int .i64 0)] [(0, 1, .t 27), (1, 1, .t 29)]), o 31 (.mv (.t 0)), o 32 (.call true true 0 (.fn 145) [.t 31, cf 146]), u (.st 2 (.t 2) (.t 30)), o 3 (.mv (.t 32)), o 4 (.mv (ci 0))] [2, 3, 4])
 (.ret)))))))⟩

/-- crumple/crumplelaw02.given -/
def c58L0 : ACode :=
 .seq (.ops [o 9 (.bin .lss (.t 8) (.t 7))] [3, 6, 7, 8, 9])
 (.seq (.cond (.t 9)
 (.skip)
 (.exit 0))
 (.seq (.block 1 (.seq (.ops [o 10 (.iadr 4 (.t 6) (.t 8)), o 11 (.ld true 4 (.t 10)), o 5 (.alloc true 1 [.p (.int .i64 0), .p (.int .i64 0), .p (.bool false), .p (.bool false)]), u (.st 4 (.t 5) (.t 11))] [3, 5, 6, 7, 8])
 (.ops [o 12 (.mv (.t 3)), o 13 (.ld true 4 (.t 5)), o 14 (.bslice false 4 [.p (.int .i64 0), .p (.int .i64 0), .p (.bool false), .p (.bool false)] 1 [(0, .t 13)]), o 15 (.app 4 24 [.p (.int .i64 0), .p (.int .i64 0), .p (.bool false), .p (.bool false)] (.t 12) (.t 14)), o 3 (.mv (.t 15))] [3, 6, 7, 8])))
 (.ops [o 16 (.bin .add (.t 8) (ci 1)), o 8 (.mv (.t 16))] [3, 6, 7, 8])))
def c58 : AFunc := ⟨18, [.tmp 2],
 .seq (.ops [o 2 (.mv (cn))] [0])
 (.seq (.ops [o 3 (.nilown 4)] [0, 3])
 (.seq (.seq (.ops [o 6 (.mv (.t 0)), o 7 (.len 1 (.t 6)), o 8 (.mv (ci 0))] [3, 6, 7, 8])
 (.block 0 (.loop true [3, 6, 7, 8] c58L0)))
 (.seq (.ops [o 17 (.mv (.t 3)), o 2 (.mv (.t 17))] [2])
 (.ret))))⟩

/-- crumple/channel.Clipped -/
def c59L0 : ACode :=
 .seq (.ops [o 19 (.bin .lss (.t 18) (.t 17))] [5, 6, 16, 17, 18, 19])
 (.seq (.cond (.t 19)
 (.skip)
 (.exit 0))
 (.seq (.block 1 (.seq (.ops [o 20 (.mv (.t 18)), o 21 (.iadr 4 (.t 16) (.t 18)), o 22 (.ld true 4 (.t 21)), o 8 (.alloc true 1 [.p (.int .i64 0), .p (.int .i64 0), .p (.bool false), .p (.bool false)]), o 7 (.mv (.t 20)), u (.st 4 (.t 8) (.t 22))] [5, 6, 7, 8, 16, 17, 18])
 (.seq (.ops [o 23 (.ld true 4 (.t 8)), o 24 (.mv (.t 7)), o 25 (.build [.p (.int .i64 0), .p (.int .i64 0), .p (.bool false), .p (.bool false), .p (.int .i64 0)] [(0, 4, .t 23), (4, 1, .t 24)]), o 9 (.alloc true 1 [.p (.int .i64 0), .p (.int .i64 0), .p (.bool false), .p (.bool false), .p (.int .i64 0)]), u (.st 5 (.t 9) (.t 25))] [5, 6, 9, 16, 17, 18])
 (.seq (.seq (.ops [o 26 (.mv (.t 5)), o 27 (.fadr 0 (.t 9)), o 28 (.ld true 4 (.t 27)), o 29 (.call false true 0 (.val (.t 26)) [.t 28]), o 30 (.not (.t 29)), o 31 (.mv (.t 30)), ⟨some 32, .fadr 0 (.t 9), some (31, false)⟩, ⟨some 33, .fadr 2 (.t 32), some (31, false)⟩, ⟨some 34, .ld false 1 (.t 33), some (31, false)⟩, ⟨some 35, .not (.t 34), some (31, false)⟩, ⟨some 36, .mv (.t 35), some (31, false)⟩, ⟨some 37, .fadr 0 (.t 9), some (36, true)⟩, ⟨some 38, .fadr 3 (.t 37), some (36, true)⟩, ⟨some 39, .ld false 1 (.t 38), some (36, true)⟩, ⟨some 40, .not (.t 39), some (36, true)⟩, ⟨some 41, .pick (.t 36) (.t 40) (cb false), some (31, false)⟩, o 42 (.pick (.t 31) (cb true) (.t 41))] [5, 6, 9, 16, 17, 18, 42])
 (.cond (.t 42)
 (.exit 1)
 (.skip)))
 (.seq (.seq (.ops [o 43 (.mv (.t 6)), o 44 (.len 1 (.t 43)), o 45 (.bin .sub (.t 44) (ci 1)), o 10 (.mv (.t 45))] [5, 6, 9, 10, 16, 17, 18])
 (.seq (.opsd [(0, 1), (1, 1), (2, 1), (3, 1), (4, 1), (5, 1), (6, 1), (7, 1), (8, 1), (9, 1), (10, 1), (11, 1)] [o 46 (.mv (.t 10)), o 47 (.bin .geq (.t 46) (ci 0)), o 48 (.mv (.t 47)), ⟨some 49, .mv (.t 6), some (48, true)⟩, ⟨some 50, .mv (.t 10), some (48, true)⟩, ⟨some 51, .iadr 2 (.t 49) (.t 50), some (48, true)⟩, ⟨some 52, .fadr 1 (.t 51), some (48, true)⟩, ⟨some 53, .ld false 1 (.t 52), some (48, true)⟩, ⟨some 54, .fadr 4 (.t 9), some (48, true)⟩, ⟨some 55, .ld false 1 (.t 54), some (48, true)⟩, ⟨some 56, .bin .eql (.t 53) (.t 55), some (48, true)⟩, o 57 (.pick (.t 48) (.t 56) (cb false))] [5, 6, 9, 10, 16, 17, 18, 57])
 (.cond (.t 57)
 (.seq (.ops [o 58 (.mv (.t 6)), o 59 (.mv (.t 10)), o 60 (.iadr 2 (.t 58) (.t 59)), o 61 (.fadr 1 (.t 60)), o 62 (.ld false 1 (.t 61)), o 63 (.bin .add (.t 62) (ci 1)), o 64 (.iadr 2 (.t 58) (.t 59)), o 65 (.fadr 1 (.t 64)), u (.st 1 (.t 65) (.t 63))] [5, 6, 16, 17, 18])
 (.exit 1))
 (.skip))))
 (.ops [o 66 (.mv (.t 6)), o 67 (.fadr 4 (.t 9)), o 68 (.ld false 1 (.t 67)), o 69 (.fadr 4 (.t 9)), o 70 (.ld false 1 (.t 69)), o 71 (.bin .add (.t 70) (ci 1)), o 72 (.build [.p (.int .i64 0), .p (.int .i64 0)] [(0, 1, .t 68), (1, 1, .t 71)]), o 73 (.bslice false 2 [.p (.int .i64 0), .p (.int .i64 0)] 1 [(0, .t 72)]), o 74 (.app 2 16 [.p (.int .i64 0), .p (.int .i64 0)] (.t 66) (.t 73)), o 6 (.mv (.t 74))] [5, 6, 16, 17, 18]))))))
 (.ops [o 75 (.bin .add (.t 18) (ci 1)), o 18 (.mv (.t 75))] [5, 6, 16, 17, 18])))
def c59 : AFunc := ⟨77, [.tmp 2, .tmp 3],
 .seq (.ops [o 2 (.mv (cn)), o 3 (.mv (ci 0))] [0])
 (.seq (.seq (.ops [o 11 (.mv (.t 0)), o 12 (.call true true 0 (.fn 137) [.t 11]), o 4 (.mv (.t 12))] [0, 4])
 (.seq (.ops [o 13 (.mv (.t 4)), o 14 (.bin .neq (.t 13) (ci 0))] [0, 4, 14])
 (.cond (.t 14)
 (.seq (.ops [o 15 (.mv (.t 4)), o 2 (.mv (cn)), o 3 (.mv (.t 15))] [2, 3])
 (.ret))
 (.skip))))
 (.seq (.ops [o 5 (.mv (cf 147))] [0, 5])
 (.seq (.ops [o 6 (.nilown 2)] [0, 5, 6])
 (.seq (.seq (.ops [o 16 (.mv (.t 0)), o 17 (.len 1 (.t 16)), o 18 (.mv (ci 0))] [5, 6, 16, 17, 18])
 (.block 0 (.loop true [5, 6, 16, 17, 18] c59L0)))
 (.seq (.ops [o 76 (.mv (.t 6)), o 2 (.mv (.t 76)), o 3 (.mv (ci 0))] [2, 3])
 (.ret))))))⟩

/-- crumple/crumpleref02.CheckValues -/
def c60L0 : ACode :=
 .seq (.seq (.ops [o 5 (.mv (.t 4)), o 6 (.mv (.t 0)), o 7 (.len 1 (.t 6)), o 8 (.bin .lss (.t 5) (.t 7))] [0, 3, 4, 8])
 (.cond (.t 8)
 (.skip)
 (.exit 0)))
 (.seq (.block 1 (.opsd [(0, 1), (1, 1), (2, 1), (3, 1), (4, 1), (5, 1), (6, 1), (7, 1), (8, 1), (9, 1), (10, 1), (11, 1), (12, 0), (13, 0), (14, 1)] [o 11 (.mv (.t 3)), o 12 (.mv (.t 0)), o 13 (.mv (.t 4)), o 14 (.iadr 4 (.t 12) (.t 13)), o 15 (.fadr 0 (.t 14)), o 16 (.ld false 1 (.t 15)), o 17 (.mv (.t 0)), o 18 (.mv (.t 4)), o 19 (.iadr 4 (.t 17) (.t 18)), o 20 (.fadr 1 (.t 19)), o 21 (.ld false 1 (.t 20)), o 22 (.build [.p (.int .i64 0), .p (.int .i64 0)] [(0, 1, .t 16), (1, 1, .t 21)]), o 23 (.bslice false 2 [.p (.int .i64 0), .p (.int .i64 0)] 1 [(0, .t 22)]), o 24 (.app 2 16 [.p (.int .i64 0), .p (.int .i64 0)] (.t 11) (.t 23)), o 3 (.mv (.t 24))] [0, 3, 4]))
 (.ops [o 9 (.mv (.t 4)), o 10 (.bin .add (.t 9) (ci 1)), o 4 (.mv (.t 10))] [0, 3, 4]))
def c60 : AFunc := ⟨27, [.tmp 2],
 .seq (.ops [o 2 (.mv (ci 0))] [0])
 (.seq (.ops [o 3 (.nilown 2)] [0, 3])
 (.seq (.seq (.ops [o 4 (.mv (ci 0))] [0, 3, 4])
 (.block 0 (.loop false [0, 3, 4] c60L0)))
 (.seq (.ops [o 25 (.mv (.t 3)), o 26 (.call true true 0 (.fn 53) [.t 25]), o 2 (.mv (.t 26))] [2])
 (.ret))))⟩

/-- crumple/crumpleref02.Peak -/
def c61L0 : ACode :=
 .seq (.seq (.ops [o 10 (.mv (.t 8)), o 11 (.mv (.t 0)), o 12 (.len 1 (.t 11)), o 13 (.bin .lss (.t 10) (.t 12))] [0, 2, 5, 6, 7, 8, 13])
 (.cond (.t 13)
 (.skip)
 (.exit 0)))
 (.seq (.block 1 (.seq (.seq (.ops [o 16 (.mv (.t 0)), o 17 (.mv (.t 8)), o 18 (.iadr 4 (.t 16) (.t 17)), o 19 (.fadr 2 (.t 18)), o 20 (.ld false 1 (.t 19)), o 21 (.not (.t 20))] [0, 2, 5, 6, 7, 8, 21])
 (.cond (.t 21)
 (.seq (.ops [o 6 (.mv (cb true))] [0, 2, 5, 6, 7, 8])
 (.opsd [(0, 1), (1, 1), (2, 1), (3, 1), (4, 1), (5, 1), (6, 1), (7, 1), (8, 1), (9, 0)] [o 22 (.fadr 0 (.t 5)), o 23 (.ld false 1 (.t 22)), o 24 (.mv (.t 0)), o 25 (.mv (.t 8)), o 26 (.iadr 4 (.t 24) (.t 25)), o 27 (.fadr 0 (.t 26)), o 28 (.ld false 1 (.t 27)), o 29 (.max [.t 23, .t 28]), o 30 (.fadr 0 (.t 5)), u (.st 1 (.t 30) (.t 29))] [0, 2, 5, 6, 7, 8]))
 (.skip)))
 (.seq (.opsd [(0, 1), (1, 1), (2, 1), (3, 1), (4, 1), (5, 1), (6, 1), (7, 1), (8, 1), (9, 0)] [o 31 (.fadr 1 (.t 5)), o 32 (.ld false 1 (.t 31)), o 33 (.mv (.t 0)), o 34 (.mv (.t 8)), o 35 (.iadr 4 (.t 33) (.t 34)), o 36 (.fadr 1 (.t 35)), o 37 (.ld false 1 (.t 36)), o 38 (.max [.t 32, .t 37]), o 39 (.fadr 1 (.t 5)), u (.st 1 (.t 39) (.t 38))] [0, 2, 5, 6, 7, 8])
 (.ops [o 40 (.mv (.t 7)), o 41 (.mv (.t 40)), ⟨some 42, .mv (.t 0), some (41, false)⟩, ⟨some 43, .mv (.t 8), some (41, false)⟩, ⟨some 44, .iadr 4 (.t 42) (.t 43), some (41, false)⟩, ⟨some 45, .fadr 3 (.t 44), some (41, false)⟩, ⟨some 46, .ld false 1 (.t 45), some (41, false)⟩, o 47 (.pick (.t 41) (cb true) (.t 46)), o 7 (.mv (.t 47))] [0, 2, 5, 6, 7, 8]))))
 (.ops [o 14 (.mv (.t 8)), o 15 (.bin .add (.t 14) (ci 1)), o 8 (.mv (.t 15))] [0, 2, 5, 6, 7, 8]))
def c61 : AFunc := ⟨53, [.cell 2 true 2, .tmp 3, .tmp 4],
 .seq (.ops [o 2 (.alloc true 1 [.p (.int .i64 0), .p (.int .i64 0)]), o 3 (.mv (cb false)), o 4 (.mv (ci 0))] [0, 2])
 (.seq (.ops [o 9 (.build [.p (.int .i64 0), .p (.int .i64 0)] [(0, 1, ci (-200000)), (1, 1, ci (-200000))]), o 5 (.alloc true 1 [.p (.int .i64 0), .p (.int .i64 0)]), u (.st 2 (.t 5) (.t 9))] [0, 2, 5])
 (.seq (.ops [o 6 (.mv (cb false)), o 7 (.mv (cb false))] [0, 2, 5, 6, 7])
 (.seq (.seq (.ops [o 8 (.mv (ci 0))] [0, 2, 5, 6, 7, 8])
 (.block 0 (.loop false [0, 2, 5, 6, 7, 8] c61L0)))
 (.seq (.seq (.ops [o 48 (.mv (.t 6)), o 49 (.not (.t 48))] [2, 5, 7, 49])
 (.cond (.t 49)
 (.seq (.ops [o 50 (.build [.p (.int .i64 0), .p (.int .i64 0)] []), u (.st 2 (.t 2) (.t 50)), o 3 (.mv (cb false)), o 4 (.mv (ci 7))] [2, 3, 4])
 (.ret))
 (.skip)))
 (.seq (.ops [o 51 (.ld true 2 (.t 5)), o 52 (.mv (.t 7)), u (.st 2 (.t 2) (.t 51)), o 3 (.mv (.t 52)), o 4 (.mv (ci 0))] [2, 3, 4])
 (.ret))))))⟩

/-- crumple/crumpleref02.Clipped -/
def c62L0 : ACode :=
 .seq (.seq (.ops [o 6 (.mv (.t 4)), o 7 (.mv (.t 0)), o 8 (.len 1 (.t 7)), o 9 (.bin .lss (.t 6) (.t 8))] [0, 3, 4, 9])
 (.cond (.t 9)
 (.skip)
 (.exit 0)))
 (.seq (.block 1 (.seq (.seq (.ops [o 12 (.mv (.t 0)), o 13 (.mv (.t 4)), o 14 (.iadr 4 (.t 12) (.t 13)), o 15 (.fadr 2 (.t 14)), o 16 (.ld false 1 (.t 15)), o 17 (.not (.t 16)), o 18 (.mv (.t 17)), ⟨some 19, .mv (.t 0), some (18, true)⟩, ⟨some 20, .mv (.t 4), some (18, true)⟩, ⟨some 21, .iadr 4 (.t 19) (.t 20), some (18, true)⟩, ⟨some 22, .fadr 3 (.t 21), some (18, true)⟩, ⟨some 23, .ld false 1 (.t 22), some (18, true)⟩, ⟨some 24, .not (.t 23), some (18, true)⟩, o 25 (.pick (.t 18) (.t 24) (cb false))] [0, 3, 4, 25])
 (.cond (.t 25)
 (.exit 1)
 (.skip)))
 (.seq (.ops [o 26 (.mv (.t 3)), o 27 (.len 1 (.t 26)), o 5 (.mv (.t 27))] [0, 3, 4, 5])
 (.seq (.ops [o 28 (.mv (.t 5)), o 29 (.bin .gtr (.t 28) (ci 0)), o 30 (.mv (.t 29)), ⟨some 31, .mv (.t 3), some (30, true)⟩, ⟨some 32, .mv (.t 5), some (30, true)⟩, ⟨some 33, .bin .sub (.t 32) (ci 1), some (30, true)⟩, ⟨some 34, .iadr 2 (.t 31) (.t 33), some (30, true)⟩, ⟨some 35, .fadr 1 (.t 34), some (30, true)⟩, ⟨some 36, .ld false 1 (.t 35), some (30, true)⟩, ⟨some 37, .mv (.t 4), some (30, true)⟩, ⟨some 38, .bin .eql (.t 36) (.t 37), some (30, true)⟩, o 39 (.pick (.t 30) (.t 38) (cb false))] [0, 3, 4, 5, 39])
 (.cond (.t 39)
 (.ops [o 40 (.mv (.t 3)), o 41 (.mv (.t 5)), o 42 (.bin .sub (.t 41) (ci 1)), o 43 (.mv (.t 4)), o 44 (.bin .add (.t 43) (ci 1)), o 45 (.iadr 2 (.t 40) (.t 42)), o 46 (.fadr 1 (.t 45)), u (.st 1 (.t 46) (.t 44))] [0, 3, 4])
 (.ops [o 47 (.mv (.t 3)), o 48 (.mv (.t 4)), o 49 (.mv (.t 4)), o 50 (.bin .add (.t 49) (ci 1)), o 51 (.build [.p (.int .i64 0), .p (.int .i64 0)] [(0, 1, .t 48), (1, 1, .t 50)]), o 52 (.bslice false 2 [.p (.int .i64 0), .p (.int .i64 0)] 1 [(0, .t 51)]), o 53 (.app 2 16 [.p (.int .i64 0), .p (.int .i64 0)] (.t 47) (.t 52)), o 3 (.mv (.t 53))] [0, 3, 4]))))))
 (.ops [o 10 (.mv (.t 4)), o 11 (.bin .add (.t 10) (ci 1)), o 4 (.mv (.t 11))] [0, 3, 4]))
def c62 : AFunc := ⟨55, [.tmp 2],
 .seq (.ops [o 2 (.mv (cn))] [0])
 (.seq (.ops [o 3 (.nilown 2)] [0, 3])
 (.seq (.seq (.ops [o 4 (.mv (ci 0))] [0, 3, 4])
 (.block 0 (.loop false [0, 3, 4] c62L0)))
 (.seq (.ops [o 54 (.mv (.t 3)), o 2 (.mv (.t 54))] [2])
 (.ret))))⟩

/-- crumple/crumpleref01.SameSpans -/
def c63L0 : ACode :=
 .seq (.seq (.ops [o 11 (.mv (.t 5)), o 12 (.mv (.t 0)), o 13 (.len 1 (.t 12)), o 14 (.bin .lss (.t 11) (.t 13))] [0, 1, 5, 14])
 (.cond (.t 14)
 (.skip)
 (.exit 0)))
 (.seq (.block 1 (.seq (.opsd [(0, 1), (1, 1), (2, 1), (3, 1), (4, 1), (5, 1), (6, 1), (7, 1), (8, 1)] [o 17 (.mv (.t 0)), o 18 (.mv (.t 5)), o 19 (.iadr 2 (.t 17) (.t 18)), o 20 (.ld true 2 (.t 19)), o 21 (.mv (.t 1)), o 22 (.mv (.t 5)), o 23 (.iadr 2 (.t 21) (.t 22)), o 24 (.ld true 2 (.t 23)), o 25 (.eqagg [0, 0] true (.t 20) (.t 24))] [0, 1, 5, 25])
 (.cond (.t 25)
 (.seq (.ops [o 4 (.mv (cb false))] [4])
 (.ret))
 (.skip))))
 (.ops [o 15 (.mv (.t 5)), o 16 (.bin .add (.t 15) (ci 1)), o 5 (.mv (.t 16))] [0, 1, 5]))
def c63 : AFunc := ⟨26, [.tmp 4],
 .seq (.ops [o 4 (.mv (cb false))] [0, 1])
 (.seq (.seq (.ops [o 6 (.mv (.t 0)), o 7 (.len 1 (.t 6)), o 8 (.mv (.t 1)), o 9 (.len 1 (.t 8)), o 10 (.bin .neq (.t 7) (.t 9))] [0, 1, 10])
 (.cond (.t 10)
 (.seq (.ops [o 4 (.mv (cb false))] [4])
 (.ret))
 (.skip)))
 (.seq (.seq (.ops [o 5 (.mv (ci 0))] [0, 1, 5])
 (.block 0 (.loop false [0, 1, 5] c63L0)))
 (.seq (.ops [o 4 (.mv (cb true))] [4])
 (.ret))))⟩

/-- crumple/channel.Filled -/
def c65L0 : ACode :=
 .seq (.seq (.ops [o 45 (.mv (.t 12)), o 46 (.fadr 1 (.t 11)), o 47 (.ld false 1 (.t 46)), o 48 (.bin .lss (.t 45) (.t 47))] [0, 2, 9, 11, 12, 37, 38, 39, 48])
 (.cond (.t 48)
 (.skip)
 (.exit 2)))
 (.seq (.block 3 (.ops [o 51 (.mv (.t 9)), o 52 (.mv (.t 12)), o 53 (.iadr 1 (.t 51) (.t 52)), u (.st 1 (.t 53) (cb true))] [0, 2, 9, 11, 12, 37, 38, 39]))
 (.ops [o 49 (.mv (.t 12)), o 50 (.bin .add (.t 49) (ci 1)), o 12 (.mv (.t 50))] [0, 2, 9, 11, 12, 37, 38, 39]))
def c65L1 : ACode :=
 .seq (.ops [o 40 (.bin .lss (.t 39) (.t 38))] [0, 2, 9, 37, 38, 39, 40])
 (.seq (.cond (.t 40)
 (.skip)
 (.exit 0))
 (.seq (.block 1 (.seq (.ops [o 41 (.iadr 2 (.t 37) (.t 39)), o 42 (.ld true 2 (.t 41)), o 11 (.alloc true 1 [.p (.int .i64 0), .p (.int .i64 0)]), u (.st 2 (.t 11) (.t 42))] [0, 2, 9, 11, 37, 38, 39])
 (.seq (.ops [o 43 (.fadr 0 (.t 11)), o 44 (.ld false 1 (.t 43)), o 12 (.mv (.t 44))] [0, 2, 9, 11, 12, 37, 38, 39])
 (.block 2 (.loop false [0, 2, 9, 11, 12, 37, 38, 39] c65L0)))))
 (.ops [o 54 (.bin .add (.t 39) (ci 1)), o 39 (.mv (.t 54))] [0, 2, 9, 37, 38, 39])))
def c65L2 : ACode :=
 .seq (.ops [o 68 (.bin .lss (.t 67) (ci 2))] [2, 9, 13, 14, 15, 16, 61, 62, 66, 67, 68])
 (.seq (.cond (.t 68)
 (.skip)
 (.exit 6))
 (.seq (.block 7 (.seq (.ops [o 69 (.idx false 1 2 (.t 66) (.t 67)), o 18 (.mv (.t 69))] [2, 9, 13, 14, 15, 16, 18, 61, 62, 66, 67])
 (.seq (.ops [o 70 (.mv (.t 9)), o 71 (.mv (.t 15)), o 72 (.mv (.t 18)), o 73 (.call true true 0 (.fn 150) [.t 70, .t 71, .t 72]), o 19 (.mv (.t 73))] [2, 9, 13, 14, 15, 16, 19, 61, 62, 66, 67])
 (.seq (.ops [o 74 (.mv (.t 19)), o 75 (.bin .geq (.t 74) (ci 0))] [2, 9, 13, 14, 15, 16, 19, 61, 62, 66, 67, 75])
 (.cond (.t 75)
 (.seq (.ops [o 76 (.mv (.t 2)), o 77 (.mv (.t 15)), o 78 (.mv (.t 19)), o 79 (.bin .sub (.t 77) (.t 78)), o 80 (.mv (.t 19)), o 81 (.mv (.t 15)), o 82 (.bin .sub (.t 80) (.t 81)), o 83 (.max [.t 79, .t 82]), o 84 (.bin .mul (.t 76) (.t 83)), o 20 (.mv (.t 84))] [2, 9, 13, 14, 15, 16, 19, 20, 61, 62, 66, 67])
 (.opsd [(0, 1), (1, 1), (2, 1), (3, 1), (4, 1), (5, 1), (6, 1), (7, 1), (8, 1), (9, 1), (10, 1), (11, 1), (12, 1), (13, 1), (14, 1), (15, 1), (16, 1), (17, 1), (18, 1), (19, 0)] [o 85 (.fadr 0 (.t 16)), o 86 (.ld false 1 (.t 85)), o 87 (.mv (.t 13)), o 88 (.mv (.t 19)), o 89 (.iadr 1 (.t 87) (.t 88)), o 90 (.ld false 1 (.t 89)), o 91 (.mv (.t 20)), o 92 (.bin .sub (.t 90) (.t 91)), o 93 (.max [.t 86, .t 92]), o 94 (.fadr 1 (.t 16)), o 95 (.ld false 1 (.t 94)), o 96 (.mv (.t 13)), o 97 (.mv (.t 19)), o 98 (.iadr 1 (.t 96) (.t 97)), o 99 (.ld false 1 (.t 98)), o 100 (.mv (.t 20)), o 101 (.bin .add (.t 99) (.t 100)), o 102 (.min [.t 95, .t 101]), o 103 (.build [.p (.int .i64 0), .p (.int .i64 0)] [(0, 1, .t 93), (1, 1, .t 102)]), u (.st 2 (.t 16) (.t 103))] [2, 9, 13, 14, 15, 16, 61, 62, 66, 67]))
 (.skip))))))
 (.ops [o 104 (.bin .add (.t 67) (ci 1)), o 67 (.mv (.t 104))] [2, 9, 13, 14, 15, 16, 61, 62, 66, 67])))
def c65L3 : ACode :=
 .seq (.ops [o 63 (.bin .lss (.t 62) (.t 61))] [2, 9, 13, 14, 61, 62, 63])
 (.seq (.cond (.t 63)
 (.skip)
 (.exit 4))
 (.seq (.block 5 (.seq (.ops [o 64 (.mv (.t 62)), o 15 (.mv (.t 64))] [2, 9, 13, 14, 15, 61, 62])
 (.seq (.ops [o 65 (.build [.p (.int .i64 0), .p (.int .i64 0)] [(0, 1, ci (-16384)), (1, 1, ci 16384)]), o 16 (.alloc true 1 [.p (.int .i64 0), .p (.int .i64 0)]), u (.st 2 (.t 16) (.t 65))] [2, 9, 13, 14, 15, 16, 61, 62])
 (.seq (.seq (.ops [o 66 (.build [.p (.int .i64 0), .p (.int .i64 0)] [(0, 1, ci (-1)), (1, 1, ci 1)]), o 67 (.mv (ci 0))] [2, 9, 13, 14, 15, 16, 61, 62, 66, 67])
 (.block 6 (.loop false [2, 9, 13, 14, 15, 16, 61, 62, 66, 67] c65L2)))
 (.seq (.seq (.ops [o 105 (.fadr 0 (.t 16)), o 106 (.ld false 1 (.t 105)), o 107 (.fadr 1 (.t 16)), o 108 (.ld false 1 (.t 107)), o 109 (.bin .gtr (.t 106) (.t 108))] [2, 9, 13, 14, 16, 61, 62, 109])
 (.cond (.t 109)
 (.seq (.ops [o 6 (.mv (cn)), o 7 (.mv (ci 24))] [6, 7])
 (.ret))
 (.skip)))
 (.ops [o 110 (.mv (.t 14)), o 111 (.ld true 2 (.t 16)), o 112 (.bslice false 2 [.p (.int .i64 0), .p (.int .i64 0)] 1 [(0, .t 111)]), o 113 (.app 2 16 [.p (.int .i64 0), .p (.int .i64 0)] (.t 110) (.t 112)), o 14 (.mv (.t 113))] [2, 9, 13, 14, 61, 62]))))))
 (.ops [o 114 (.bin .add (.t 62) (ci 1)), o 62 (.mv (.t 114))] [2, 9, 13, 14, 61, 62])))
def c65 : AFunc := ⟨116, [.tmp 6, .tmp 7],
 .seq (.ops [o 6 (.mv (cn)), o 7 (.mv (ci 0))] [0, 1, 2])
 (.seq (.seq (.ops [o 21 (.mv (.t 0)), o 22 (.call true true 0 (.fn 122) [.t 21]), o 23 (.mv (.t 1)), o 24 (.mv (.t 0)), o 25 (.len 1 (.t 24)), o 26 (.call true true 0 (.fn 148) [.t 23, .t 25]), o 27 (.mv (.t 2)), o 28 (.call true true 0 (.fn 111) [.t 27, ci 0, ci 16384]), o 29 (.bslice false 1 [.p (.int .i64 0)] 3 [(0, .t 22), (1, .t 26), (2, .t 28)]), o 30 (.call true true 0 (.fn 103) [.t 29]), o 8 (.mv (.t 30))] [0, 1, 2, 8])
 (.seq (.ops [o 31 (.mv (.t 8)), o 32 (.bin .neq (.t 31) (ci 0))] [0, 1, 2, 8, 32])
 (.cond (.t 32)
 (.seq (.ops [o 33 (.mv (.t 8)), o 6 (.mv (cn)), o 7 (.mv (.t 33))] [6, 7])
 (.ret))
 (.skip))))
 (.seq (.ops [o 34 (.mv (.t 0)), o 35 (.len 1 (.t 34)), o 36 (.mkslice 1 [.p (.bool false)] (.t 35) (.t 35)), o 9 (.mv (.t 36))] [0, 1, 2, 9])
 (.seq (.seq (.ops [o 37 (.mv (.t 1)), o 38 (.len 1 (.t 37)), o 39 (.mv (ci 0))] [0, 2, 9, 37, 38, 39])
 (.block 0 (.loop true [0, 2, 9, 37, 38, 39] c65L1)))
 (.seq (.seq (.ops [o 55 (.mv (.t 9)), o 56 (.call true true 0 (.fn 149) [.t 55, cb false]), o 57 (.not (.t 56))] [0, 2, 9, 57])
 (.cond (.t 57)
 (.seq (.ops [o 6 (.mv (cn)), o 7 (.mv (ci 12))] [6, 7])
 (.ret))
 (.skip)))
 (.seq (.ops [o 58 (.mv (.t 0)), o 59 (.call true false 0 (.fn 115) [.t 58]), o 13 (.mv (.t 59))] [0, 2, 9, 13])
 (.seq (.ops [o 14 (.nilown 2)] [0, 2, 9, 13, 14])
 (.seq (.seq (.ops [o 60 (.mv (.t 0)), o 61 (.len 1 (.t 60)), o 62 (.mv (ci 0))] [2, 9, 13, 14, 61, 62])
 (.block 4 (.loop true [2, 9, 13, 14, 61, 62] c65L3)))
 (.seq (.ops [o 115 (.mv (.t 14)), o 6 (.mv (.t 115)), o 7 (.mv (ci 0))] [6, 7])
 (.ret)))))))))⟩

/-- crumple/channel.Turned -/
def c70L0 : ACode :=
 .seq (.ops [o 32 (.bin .lss (.t 31) (.t 30))] [7, 29, 30, 31, 32])
 (.seq (.cond (.t 32)
 (.skip)
 (.exit 0))
 (.seq (.block 1 (.seq (.ops [o 33 (.mv (.t 31)), o 34 (.iadr 1 (.t 29) (.t 31)), o 35 (.ld false 1 (.t 34)), o 8 (.mv (.t 33)), o 9 (.mv (.t 35))] [7, 8, 9, 29, 30, 31])
 (.ops [o 36 (.mv (.t 7)), o 37 (.mv (.t 8)), o 38 (.mv (.t 9)), o 39 (.neg (.t 38)), o 40 (.call true true 0 (.fn 154) [.t 39]), o 41 (.iadr 1 (.t 36) (.t 37)), u (.st 1 (.t 41) (.t 40))] [7, 29, 30, 31])))
 (.ops [o 42 (.bin .add (.t 31) (ci 1)), o 31 (.mv (.t 42))] [7, 29, 30, 31])))
def c70 : AFunc := ⟨44, [.tmp 4, .tmp 5],
 .seq (.ops [o 3 (.box true (.t 1)), o 4 (.mv (cn)), o 5 (.mv (ci 0))] [0, 3])
 (.seq (.seq (.opsd [(0, 1), (1, 1), (2, 1), (3, 0), (4, 0), (5, 0), (6, 1)] [o 10 (.mv (.t 0)), o 11 (.call true true 0 (.fn 122) [.t 10]), o 12 (.ld true 3 (.t 3)), o 13 (.call true true 0 (.fn 21) [.t 12]), o 14 (.bslice false 1 [.p (.int .i64 0)] 2 [(0, .t 11), (1, .t 13)]), o 15 (.call true true 0 (.fn 103) [.t 14]), o 6 (.mv (.t 15))] [0, 3, 6])
 (.seq (.ops [o 16 (.mv (.t 6)), o 17 (.bin .neq (.t 16) (ci 0))] [0, 3, 6, 17])
 (.cond (.t 17)
 (.seq (.ops [o 18 (.mv (.t 6)), o 4 (.mv (cn)), o 5 (.mv (.t 18))] [4, 5])
 (.ret))
 (.skip))))
 (.seq (.ops [o 19 (.mv (.t 0)), o 20 (.len 1 (.t 19)), o 21 (.mkslice 1 [.p (.flt .f32 0)] (.t 20) (.t 20)), o 7 (.mv (.t 21))] [0, 3, 7])
 (.seq (.ops [o 22 (.mv (.t 7)), o 23 (.mv (.t 0)), o 24 (.copy 1 (.t 22) (.t 23))] [0, 3, 7])
 (.seq (.seq (.ops [o 25 (.fadr 2 (.t 3)), o 26 (.ld false 1 (.t 25)), o 27 (.bin .lss (.t 26) (ci 0))] [0, 7, 27])
 (.cond (.t 27)
 (.seq (.ops [o 28 (.mv (.t 0)), o 29 (.call true false 0 (.fn 115) [.t 28]), o 30 (.len 1 (.t 29)), o 31 (.mv (ci 0))] [7, 29, 30, 31])
 (.block 0 (.loop false [7, 29, 30, 31] c70L0)))
 (.skip)))
 (.seq (.ops [o 43 (.mv (.t 7)), o 4 (.mv (.t 43)), o 5 (.mv (ci 0))] [4, 5])
 (.ret))))))⟩

/-- crumple/channel.Agreement -/
def c71L0 : ACode :=
 .seq (.ops [o 29 (.bin .lss (.t 28) (.t 27))] [1, 7, 26, 27, 28, 29])
 (.seq (.cond (.t 29)
 (.skip)
 (.exit 0))
 (.seq (.block 1 (.seq (.ops [o 30 (.mv (.t 28)), o 31 (.iadr 1 (.t 26) (.t 28)), o 32 (.ld false 1 (.t 31)), o 8 (.mv (.t 30)), o 9 (.mv (.t 32))] [1, 7, 8, 9, 26, 27, 28])
 (.ops [o 33 (.mv (.t 7)), o 34 (.mv (.t 9)), o 35 (.mv (.t 1)), o 36 (.mv (.t 8)), o 37 (.iadr 1 (.t 35) (.t 36)), o 38 (.ld false 1 (.t 37)), o 39 (.call true true 0 (.fn 155) [.t 38]), o 40 (.bin .mul (.t 34) (.t 39)), o 41 (.bin .add (.t 33) (.t 40)), o 7 (.mv (.t 41))] [1, 7, 26, 27, 28])))
 (.ops [o 42 (.bin .add (.t 28) (ci 1)), o 28 (.mv (.t 42))] [1, 7, 26, 27, 28])))
def c71 : AFunc := ⟨45, [.tmp 4, .tmp 5],
 .seq (.ops [o 4 (.mv (ci 0)), o 5 (.mv (ci 0))] [0, 1])
 (.seq (.seq (.ops [o 10 (.mv (.t 0)), o 11 (.call true true 0 (.fn 122) [.t 10]), o 12 (.mv (.t 1)), o 13 (.call true true 0 (.fn 122) [.t 12]), o 14 (.mv (.t 0)), o 15 (.len 1 (.t 14)), o 16 (.mv (.t 1)), o 17 (.len 1 (.t 16)), o 18 (.bin .neq (.t 15) (.t 17)), o 19 (.call true true 0 (.fn 104) [.t 18, ci 2]), o 20 (.bslice false 1 [.p (.int .i64 0)] 3 [(0, .t 11), (1, .t 13), (2, .t 19)]), o 21 (.call true true 0 (.fn 103) [.t 20]), o 6 (.mv (.t 21))] [0, 1, 6])
 (.seq (.ops [o 22 (.mv (.t 6)), o 23 (.bin .neq (.t 22) (ci 0))] [0, 1, 6, 23])
 (.cond (.t 23)
 (.seq (.ops [o 24 (.mv (.t 6)), o 4 (.mv (ci 0)), o 5 (.mv (.t 24))] [4, 5])
 (.ret))
 (.skip))))
 (.seq (.ops [o 7 (.mv (ci 0))] [0, 1, 7])
 (.seq (.seq (.ops [o 25 (.mv (.t 0)), o 26 (.call true false 0 (.fn 115) [.t 25]), o 27 (.len 1 (.t 26)), o 28 (.mv (ci 0))] [1, 7, 26, 27, 28])
 (.block 0 (.loop false [1, 7, 26, 27, 28] c71L0)))
 (.seq (.ops [o 43 (.mv (.t 7)), o 44 (.call true true 0 (.fn 143) [.t 43, ci 0]), o 4 (.mv (.t 44)), o 5 (.mv (ci 0))] [4, 5])
 (.ret)))))⟩

/-- crumple/channel.Speeds -/
def c72 : AFunc := ⟨17, [.tmp 4, .tmp 5],
 .seq (.ops [o 4 (.mv (cn)), o 5 (.mv (ci 0))] [0, 1])
 (.seq (.seq (.ops [o 7 (.mv (.t 0)), o 8 (.mv (.t 1)), o 9 (.call true true 0 (.fn 156) [.t 7, .t 8]), o 6 (.mv (.t 9))] [0, 1, 6])
 (.seq (.ops [o 10 (.mv (.t 6)), o 11 (.bin .neq (.t 10) (ci 0))] [0, 1, 6, 11])
 (.cond (.t 11)
 (.seq (.ops [o 12 (.mv (.t 6)), o 4 (.mv (cn)), o 5 (.mv (.t 12))] [4, 5])
 (.ret))
 (.skip))))
 (.seq (.ops [o 13 (.mv (.t 0)), o 14 (.call true false 0 (.fn 115) [.t 13]), o 15 (.mv (.t 1)), o 16 (.call true false 0 (.fn 157) [.t 14, .t 15]), o 4 (.mv (.t 16)), o 5 (.mv (ci 0))] [4, 5])
 (.ret)))⟩

/-- crumple/channel.Ways -/
def c73 : AFunc := ⟨18, [.tmp 4, .tmp 5],
 .seq (.ops [o 4 (.mv (cn)), o 5 (.mv (ci 0))] [0, 1])
 (.seq (.seq (.ops [o 7 (.mv (.t 0)), o 8 (.mv (.t 1)), o 9 (.call true true 0 (.fn 156) [.t 7, .t 8]), o 6 (.mv (.t 9))] [0, 1, 6])
 (.seq (.ops [o 10 (.mv (.t 6)), o 11 (.bin .neq (.t 10) (ci 0))] [0, 1, 6, 11])
 (.cond (.t 11)
 (.seq (.ops [o 12 (.mv (.t 6)), o 4 (.mv (cn)), o 5 (.mv (.t 12))] [4, 5])
 (.ret))
 (.skip))))
 (.seq (.ops [o 13 (.mv (.t 0)), o 14 (.call true false 0 (.fn 115) [.t 13]), o 15 (.mv (.t 1)), o 16 (.call true false 0 (.fn 157) [.t 14, .t 15]), o 17 (.call true false 0 (.fn 157) [.t 16, ci 0]), o 4 (.mv (.t 17)), o 5 (.mv (ci 0))] [4, 5])
 (.ret)))⟩

/-- crumple/channel.Squares -/
def c74L0 : ACode :=
 .seq (.ops [o 48 (.bin .lss (.t 47) (.t 46))] [7, 38, 39, 40, 45, 46, 47, 48])
 (.seq (.cond (.t 48)
 (.skip)
 (.exit 2))
 (.seq (.block 3 (.seq (.ops [o 49 (.mv (.t 47)), o 50 (.iadr 1 (.t 45) (.t 47)), o 51 (.ld false 1 (.t 50)), o 10 (.mv (.t 49)), o 11 (.mv (.t 51))] [7, 10, 11, 38, 39, 40, 45, 46, 47])
 (.ops [o 52 (.mv (.t 7)), o 53 (.mv (.t 10)), o 54 (.iadr 1 (.t 52) (.t 53)), o 55 (.ld false 1 (.t 54)), o 56 (.mv (.t 11)), o 57 (.mv (.t 11)), o 58 (.bin .mul (.t 56) (.t 57)), o 59 (.bin .add (.t 55) (.t 58)), o 60 (.iadr 1 (.t 52) (.t 53)), u (.st 1 (.t 60) (.t 59))] [7, 38, 39, 40, 45, 46, 47])))
 (.ops [o 61 (.bin .add (.t 47) (ci 1)), o 47 (.mv (.t 61))] [7, 38, 39, 40, 45, 46, 47])))
def c74L1 : ACode :=
 .seq (.ops [o 41 (.bin .lss (.t 40) (.t 39))] [7, 38, 39, 40, 41])
 (.seq (.cond (.t 41)
 (.skip)
 (.exit 0))
 (.seq (.block 1 (.seq (.ops [o 42 (.iadr 1 (.t 38) (.t 40)), o 43 (.ld false 1 (.t 42)), o 9 (.mv (.t 43))] [7, 9, 38, 39, 40])
 (.seq (.ops [o 44 (.mv (.t 9)), o 45 (.call true false 0 (.fn 115) [.t 44]), o 46 (.len 1 (.t 45)), o 47 (.mv (ci 0))] [7, 38, 39, 40, 45, 46, 47])
 (.block 2 (.loop false [7, 38, 39, 40, 45, 46, 47] c74L0)))))
 (.ops [o 62 (.bin .add (.t 40) (ci 1)), o 40 (.mv (.t 62))] [7, 38, 39, 40])))
def c74 : AFunc := ⟨64, [.tmp 2, .tmp 3],
 .seq (.ops [o 1 (.box false (.t 0)), o 2 (.mv (cn)), o 3 (.mv (ci 0))] [1])
 (.seq (.seq (.opsd [(0, 1), (1, 1), (2, 1), (3, 1), (4, 1), (5, 1), (6, 1), (7, 0), (8, 0), (9, 0), (10, 1)] [o 12 (.ld false 1 (.t 1)), o 13 (.len 1 (.t 12)), o 14 (.bin .eql (.t 13) (ci 0)), o 15 (.call true true 0 (.fn 104) [.t 14, ci 12]), o 16 (.ld false 1 (.t 1)), o 17 (.len 1 (.t 16)), o 18 (.bin .gtr (.t 17) (ci 16)), o 19 (.call true true 0 (.fn 104) [.t 18, ci 5]), o 20 (.bslice false 1 [.p (.int .i64 0)] 2 [(0, .t 15), (1, .t 19)]), o 21 (.call true true 0 (.fn 103) [.t 20]), o 4 (.mv (.t 21))] [1, 4])
 (.seq (.ops [o 22 (.mv (.t 4)), o 23 (.bin .neq (.t 22) (ci 0))] [1, 4, 23])
 (.cond (.t 23)
 (.seq (.ops [o 24 (.mv (.t 4)), o 2 (.mv (cn)), o 3 (.mv (.t 24))] [2, 3])
 (.ret))
 (.skip))))
 (.seq (.ops [o 25 (.mkclo 158 [] [.t 1]), o 5 (.mv (.t 25))] [1, 5])
 (.seq (.seq (.ops [o 26 (.ld false 1 (.t 1)), o 27 (.mv (.t 5)), o 28 (.call true false 0 (.fn 159) [.t 26, .t 27]), o 29 (.call true true 0 (.fn 103) [.t 28]), o 6 (.mv (.t 29))] [1, 6])
 (.seq (.ops [o 30 (.mv (.t 6)), o 31 (.bin .neq (.t 30) (ci 0))] [1, 6, 31])
 (.cond (.t 31)
 (.seq (.ops [o 32 (.mv (.t 6)), o 2 (.mv (cn)), o 3 (.mv (.t 32))] [2, 3])
 (.ret))
 (.skip))))
 (.seq (.ops [o 33 (.ld false 1 (.t 1)), o 34 (.iadr 1 (.t 33) (ci 0)), o 35 (.ld false 1 (.t 34)), o 36 (.len 1 (.t 35)), o 37 (.mkslice 1 [.p (.int .i64 0)] (.t 36) (.t 36)), o 7 (.mv (.t 37))] [1, 7])
 (.seq (.seq (.ops [o 38 (.ld false 1 (.t 1)), o 39 (.len 1 (.t 38)), o 40 (.mv (ci 0))] [7, 38, 39, 40])
 (.block 0 (.loop false [7, 38, 39, 40] c74L1)))
 (.seq (.ops [o 63 (.mv (.t 7)), o 2 (.mv (.t 63)), o 3 (.mv (ci 0))] [2, 3])
 (.ret)))))))⟩

/-- crumple/crumpleref01.Sample -/
def c83 : AFunc := ⟨6, [.tmp 2],
 .seq (.ops [o 2 (.mv (.c (.p (.flt .f32 0))))] [0])
 (.seq (.ops [o 3 (.mv (.t 0)), o 4 (.conv (.flt .f32) (.t 3)), o 5 (.bin .quo (.t 4) (.c (.p (.flt .f32 1098907648)))), o 2 (.mv (.t 5))] [2])
 (.ret))⟩

/-- crumple/crumpleref01.CheckInterval -/
def c84 : AFunc := ⟨25, [.tmp 6],
 .seq (.ops [o 3 (.box true (.t 0)), o 6 (.mv (ci 0))] [1, 2, 3])
 (.seq (.opsd [(0, 1), (1, 1), (2, 1), (3, 1), (4, 1), (5, 1), (6, 1), (7, 1), (8, 1), (9, 1), (10, 1), (11, 1), (12, 1), (13, 1), (14, 1), (15, 0), (16, 0), (17, 0), (18, 1)] [o 7 (.fadr 0 (.t 3)), o 8 (.ld false 1 (.t 7)), o 9 (.mv (.t 1)), o 10 (.mv (.t 2)), o 11 (.call true true 0 (.fn 108) [.t 8, .t 9, .t 10]), o 12 (.fadr 1 (.t 3)), o 13 (.ld false 1 (.t 12)), o 14 (.mv (.t 1)), o 15 (.mv (.t 2)), o 16 (.call true true 0 (.fn 108) [.t 13, .t 14, .t 15]), o 17 (.fadr 0 (.t 3)), o 18 (.ld false 1 (.t 17)), o 19 (.fadr 1 (.t 3)), o 20 (.ld false 1 (.t 19)), o 21 (.bin .gtr (.t 18) (.t 20)), o 22 (.call true true 0 (.fn 109) [.t 21, ci 11]), o 23 (.bslice false 1 [.p (.int .i64 0)] 3 [(0, .t 11), (1, .t 16), (2, .t 22)]), o 24 (.call true true 0 (.fn 29) [.t 23]), o 6 (.mv (.t 24))] [6])
 (.ret))⟩

end Fw
