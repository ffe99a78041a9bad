/- The functions of the program, written for the evaluator, first part: definitions alone. -/
import Derived.Test.YtombnimlolbekaaGreatDoorFwC
namespace Fw
open Go
abbrev o (d : Nat) (x : AOp) : AOper := ⟨some d, x, none⟩
abbrev u (x : AOp) : AOper := ⟨none, x, none⟩
abbrev ci (n : Int) : Opd := .c (.p (.int .i64 n))
abbrev cb (b : Bool) : Opd := .c (.p (.bool b))
abbrev cs (l : List UInt8) : Opd := .c (.p (.str l))
abbrev cn : Opd := .c (.p .nils)
abbrev cf (f : Nat) : Opd := .c (.p (.clo f [] []))
inductive Tr where | leaf | node (k : Nat) (v : AFunc) (l r : Tr)
def Tr.find : Tr → Nat → Option AFunc
 | .leaf, _ => none
 | .node k v l r, n => if n = k then some v else if n < k then l.find n else r.find n
/-- crumple/crumplelaw08.PulseRuns -/
def c3 : AFunc := ⟨175, [.tmp 6],
 .seq (.ops [o 3 (.box true (.t 0)), o 5 (.box true (.t 2)), o 6 (.mv (cb false))] [1, 3, 5])
 (.seq (.seq (.ops [o 22 (.mv (.t 1)), o 23 (.len 1 (.t 22)), o 24 (.bin .gtr (.t 23) (ci 13))] [1, 3, 5, 24])
 (.cond (.t 24)
 (.seq (.ops [o 25 (.call true true 0 (.fn 12) []), o 6 (.mv (.t 25))] [6])
 (.ret))
 (.skip)))
 (.seq (.opsd [(0, 1), (1, 1), (2, 1), (3, 1), (4, 0), (5, 1), (6, 1), (7, 1), (8, 1), (9, 1)] [o 27 (.mv (.t 1)), o 28 (.call true false 0 (.fn 14) [.t 27]),
 o 29 (.iadra 1 2 (.t 5) (ci 1)), o 30 (.ld false 1 (.t 29)), o 31 (.call true false 0 (.fn 13) [.t 28, .t 30]), o 26 (.mv (.t 31)), o 32 (.ext (.t 26) 0),
 o 33 (.ext (.t 26) 1), o 7 (.mv (.t 32)), o 8 (.mv (.t 33))] [1, 3, 5, 7, 8])
 (.seq (.opsd [(0, 1), (1, 1), (2, 1), (3, 1), (4, 1), (5, 1), (6, 1), (7, 0), (8, 1), (9, 1), (10, 1), (11, 1), (12, 1)] [o 35 (.ld true 5 (.t 3)), o 36 (.mv (.t 1)),
 o 37 (.call true false 0 (.fn 14) [.t 36]), o 38 (.iadra 1 2 (.t 5) (ci 0)), o 39 (.ld false 1 (.t 38)), o 40 (.iadra 1 2 (.t 5) (ci 1)), o 41 (.ld false 1 (.t 40)),
 o 42 (.call true false 0 (.fn 15) [.t 35, .t 37, .t 39, .t 41]), o 34 (.mv (.t 42)), o 43 (.ext (.t 34) 0), o 44 (.ext (.t 34) 1), o 9 (.mv (.t 43)),
 o 10 (.mv (.t 44))] [1, 3, 5, 7, 8, 9, 10])
 (.seq (.opsd [(0, 1), (1, 1), (2, 1), (3, 1), (4, 1), (5, 0), (6, 1), (7, 1), (8, 1), (9, 1), (10, 1)] [o 46 (.ld true 5 (.t 3)), o 47 (.mv (.t 1)),
 o 48 (.call true false 0 (.fn 14) [.t 47]), o 49 (.iadra 1 2 (.t 5) (ci 1)), o 50 (.ld false 1 (.t 49)), o 51 (.call true false 0 (.fn 16) [.t 46, .t 48, .t 50]),
 o 45 (.mv (.t 51)), o 52 (.ext (.t 45) 0), o 53 (.ext (.t 45) 1), o 11 (.mv (.t 52)), o 12 (.mv (.t 53))] [1, 3, 5, 7, 8, 9, 10, 11, 12])
 (.seq (.opsd [(0, 1), (1, 1), (2, 1), (3, 1), (4, 1), (5, 0), (6, 1), (7, 1), (8, 1), (9, 1), (10, 1)] [o 55 (.ld true 5 (.t 3)), o 56 (.mv (.t 1)),
 o 57 (.call true false 0 (.fn 14) [.t 56]), o 58 (.iadra 1 2 (.t 5) (ci 1)), o 59 (.ld false 1 (.t 58)), o 60 (.call true true 0 (.fn 17) [.t 55, .t 57, .t 59]),
 o 54 (.mv (.t 60)), o 61 (.ext (.t 54) 0), o 62 (.ext (.t 54) 1), o 13 (.mv (.t 61)), o 14 (.mv (.t 62))] [1, 3, 5, 7, 8, 9, 10, 11, 12, 13, 14])
 (.seq (.opsd [(0, 1), (1, 1), (2, 1), (3, 1), (4, 1), (5, 1), (6, 1), (7, 1), (8, 1), (9, 1), (10, 1), (11, 1), (12, 1), (13, 0), (14, 0), (15, 0), (16, 1), (17, 1)] [o 63 (.mv (.t 1)),
 o 64 (.call true true 0 (.fn 19) [.t 63]), o 65 (.iadra 1 2 (.t 5) (ci 1)), o 66 (.ld false 1 (.t 65)), o 67 (.call true true 0 (.fn 20) [.t 66]),
 o 68 (.bslice false 1 [.p (.int .i64 0)] 2 [(0, .t 64), (1, .t 67)]), o 69 (.call true true 0 (.fn 18) [.t 68]), o 70 (.ld true 5 (.t 3)),
 o 71 (.call true true 0 (.fn 21) [.t 70]), o 72 (.mv (.t 1)), o 73 (.call true true 0 (.fn 19) [.t 72]), o 74 (.iadra 1 2 (.t 5) (ci 1)), o 75 (.ld false 1 (.t 74)),
 o 76 (.call true true 0 (.fn 20) [.t 75]), o 77 (.bslice false 1 [.p (.int .i64 0)] 3 [(0, .t 71), (1, .t 73), (2, .t 76)]), o 78 (.call true true 0 (.fn 18) [.t 77]),
 o 15 (.mv (.t 69)), o 16 (.mv (.t 78))] [1, 3, 5, 7, 8, 9, 10, 11, 12, 13, 14, 15, 16])
 (.seq (.opsd [(0, 1), (1, 1), (2, 1), (3, 1), (4, 1), (5, 1), (6, 1), (7, 1), (8, 1), (9, 1), (10, 0), (11, 0), (12, 0), (13, 1)] [o 79 (.ld true 5 (.t 3)),
 o 80 (.call true true 0 (.fn 21) [.t 79]), o 81 (.mv (.t 1)), o 82 (.call true true 0 (.fn 19) [.t 81]), o 83 (.ld true 5 (.t 3)), o 84 (.iadra 1 2 (.t 5) (ci 0)),
 o 85 (.ld false 1 (.t 84)), o 86 (.call true true 0 (.fn 22) [.t 83, .t 85]), o 87 (.iadra 1 2 (.t 5) (ci 1)), o 88 (.ld false 1 (.t 87)),
 o 89 (.call true true 0 (.fn 20) [.t 88]), o 90 (.bslice false 1 [.p (.int .i64 0)] 4 [(0, .t 80), (1, .t 82), (2, .t 86), (3, .t 89)]),
 o 91 (.call true true 0 (.fn 18) [.t 90]), o 17 (.mv (.t 91))] [1, 3, 5, 7, 8, 9, 10, 11, 12, 13, 14, 15, 16, 17])
 (.seq (.ops [o 18 (.mv (cn)), o 19 (.mv (cn))] [1, 3, 5, 7, 8, 9, 10, 11, 12, 13, 14, 15, 16, 17, 18, 19])
 (.seq (.ops [o 20 (.mv (cn))] [1, 3, 5, 7, 8, 9, 10, 11, 12, 13, 14, 15, 16, 17, 18, 19, 20])
 (.seq (.ops [o 21 (.mv (cb false))] [1, 3, 5, 7, 8, 9, 10, 11, 12, 13, 14, 15, 16, 17, 18, 19, 20, 21])
 (.seq (.seq (.ops [o 92 (.mv (.t 15)), o 93 (.bin .eql (.t 92) (ci 0))] [1, 3, 5, 7, 8, 9, 10, 11, 12, 13, 14, 15, 16, 17, 18, 19, 20, 21, 93])
 (.cond (.t 93)
 (.ops [o 94 (.mv (.t 1)), o 95 (.iadra 1 2 (.t 5) (ci 1)), o 96 (.ld false 1 (.t 95)), o 97 (.call true false 0 (.fn 23) [.t 94, .t 96]),
 o 18 (.mv (.t 97))] [1, 3, 5, 7, 8, 9, 10, 11, 12, 13, 14, 15, 16, 17, 18, 19, 20, 21])
 (.skip)))
 (.seq (.seq (.ops [o 98 (.mv (.t 17)), o 99 (.bin .eql (.t 98) (ci 0))] [1, 3, 5, 7, 8, 9, 10, 11, 12, 13, 14, 15, 16, 17, 18, 19, 20, 21, 99])
 (.cond (.t 99)
 (.ops [o 100 (.ld true 5 (.t 3)), o 101 (.mv (.t 1)), o 102 (.iadra 1 2 (.t 5) (ci 0)), o 103 (.ld false 1 (.t 102)), o 104 (.iadra 1 2 (.t 5) (ci 1)),
 o 105 (.ld false 1 (.t 104)), o 106 (.call true false 0 (.fn 24) [.t 100, .t 101, .t 103, .t 105]),
 o 19 (.mv (.t 106))] [1, 3, 5, 7, 8, 9, 10, 11, 12, 13, 14, 15, 16, 17, 18, 19, 20, 21])
 (.skip)))
 (.seq (.seq (.ops [o 107 (.mv (.t 16)), o 108 (.bin .eql (.t 107) (ci 0))] [1, 3, 5, 7, 8, 9, 10, 11, 12, 13, 14, 15, 16, 17, 18, 19, 20, 21, 108])
 (.cond (.t 108)
 (.opsd [(0, 1), (1, 1), (2, 1), (3, 1), (4, 1), (5, 1), (6, 1), (7, 1), (8, 1), (9, 0), (10, 1), (11, 1)] [o 109 (.ld true 5 (.t 3)), o 110 (.mv (.t 1)),
 o 111 (.iadra 1 2 (.t 5) (ci 1)), o 112 (.ld false 1 (.t 111)), o 113 (.call true false 0 (.fn 25) [.t 109, .t 110, .t 112]), o 114 (.ld true 5 (.t 3)),
 o 115 (.mv (.t 1)), o 116 (.iadra 1 2 (.t 5) (ci 1)), o 117 (.ld false 1 (.t 116)), o 118 (.call true true 0 (.fn 26) [.t 114, .t 115, .t 117]), o 20 (.mv (.t 113)),
 o 21 (.mv (.t 118))] [1, 3, 7, 8, 9, 10, 11, 12, 13, 14, 15, 16, 17, 18, 19, 20, 21])
 (.skip)))
 (.seq (.opsd [(0, 1), (1, 1), (2, 1), (3, 0), (4, 1), (5, 1), (6, 1), (9, 1), (7, 0), (8, 0), (10, 0), (11, 1), (12, 1), (13, 1), (14, 1), (15, 1), (16, 0), (17, 1), (18, 1), (19, 1), (20, 1), (21, 1), (22, 1), (23, 1), (24, 1), (25, 1), (26, 0), (27, 1), (28, 1), (29, 1), (30, 1), (31, 1), (32, 1), (33, 1), (34, 1), (35, 1), (36, 0), (37, 1), (38, 1), (39, 1), (40, 1), (41, 1), (42, 1), (43, 1), (44, 1), (45, 1), (46, 1), (47, 1), (48, 1), (49, 1), (50, 1), (51, 1), (52, 1), (53, 1), (54, 0), (55, 1), (56, 1)] [o 119 (.ld true 5 (.t 3)),
 o 120 (.call true true 0 (.fn 27) [.t 119]), o 121 (.ld true 5 (.t 3)), o 122 (.call true true 0 (.fn 21) [.t 121]), o 123 (.bin .eql (.t 120) (.t 122)),
 o 124 (.mv (.t 123)), ⟨some 125, .mv (.t 1), some (124, true)⟩, ⟨some 128, .mv (.t 1), some (124, true)⟩, ⟨some 126, .call true false 0 (.fn 14) [.t 125], some (124, true)⟩,
 ⟨some 127, .call true true 0 (.fn 28) [.t 126], some (124, true)⟩, ⟨some 129, .call true true 0 (.fn 19) [.t 128], some (124, true)⟩,
 ⟨some 130, .bin .eql (.t 127) (.t 129), some (124, true)⟩, o 131 (.pick (.t 124) (.t 130) (cb false)), o 132 (.mv (.t 131)), ⟨some 133, .mv (.t 7), some (132, true)⟩,
 ⟨some 134, .mv (.t 18), some (132, true)⟩, ⟨some 135, .call true true 0 (.fn 29) [.t 133, .t 134], some (132, true)⟩, o 136 (.pick (.t 132) (.t 135) (cb false)),
 o 137 (.mv (.t 136)), ⟨some 138, .mv (.t 8), some (137, true)⟩, ⟨some 139, .mv (.t 15), some (137, true)⟩, ⟨some 140, .bin .eql (.t 138) (.t 139), some (137, true)⟩,
 o 141 (.pick (.t 137) (.t 140) (cb false)), o 142 (.mv (.t 141)), ⟨some 143, .mv (.t 9), some (142, true)⟩, ⟨some 144, .mv (.t 19), some (142, true)⟩,
 ⟨some 145, .call true true 0 (.fn 29) [.t 143, .t 144], some (142, true)⟩, o 146 (.pick (.t 142) (.t 145) (cb false)), o 147 (.mv (.t 146)),
 ⟨some 148, .mv (.t 10), some (147, true)⟩, ⟨some 149, .mv (.t 17), some (147, true)⟩, ⟨some 150, .bin .eql (.t 148) (.t 149), some (147, true)⟩,
 o 151 (.pick (.t 147) (.t 150) (cb false)), o 152 (.mv (.t 151)), ⟨some 153, .mv (.t 11), some (152, true)⟩, ⟨some 154, .mv (.t 20), some (152, true)⟩,
 ⟨some 155, .call true true 0 (.fn 30) [.t 153, .t 154], some (152, true)⟩, o 156 (.pick (.t 152) (.t 155) (cb false)), o 157 (.mv (.t 156)),
 ⟨some 158, .mv (.t 12), some (157, true)⟩, ⟨some 159, .mv (.t 16), some (157, true)⟩, ⟨some 160, .bin .eql (.t 158) (.t 159), some (157, true)⟩,
 o 161 (.pick (.t 157) (.t 160) (cb false)), o 162 (.mv (.t 161)), ⟨some 163, .mv (.t 13), some (162, true)⟩, ⟨some 164, .mv (.t 21), some (162, true)⟩,
 ⟨some 165, .eqb false (.t 163) (.t 164), some (162, true)⟩, o 166 (.pick (.t 162) (.t 165) (cb false)), o 167 (.mv (.t 166)), ⟨some 168, .mv (.t 14), some (167, true)⟩,
 ⟨some 169, .mv (.t 16), some (167, true)⟩, ⟨some 170, .bin .eql (.t 168) (.t 169), some (167, true)⟩, o 171 (.pick (.t 167) (.t 170) (cb false)), o 172 (.mv (.t 171)),
 ⟨some 173, .call true true 0 (.fn 12) [], some (172, true)⟩, o 174 (.pick (.t 172) (.t 173) (cb false)), o 6 (.mv (.t 174))] [6])
 (.ret)))))))))))))))⟩

/-- crumple/crumplelaw08.PulseLanes -/
def c4 : AFunc := ⟨149, [.tmp 4],
 .seq (.ops [o 4 (.mv (cb false))] [0, 1])
 (.seq (.seq (.ops [o 21 (.mv (.t 0)), o 22 (.len 1 (.t 21)), o 23 (.bin .gtr (.t 22) (ci 20)), o 24 (.mv (.t 23)), ⟨some 25, .mv (.t 0), some (24, true)⟩,
 ⟨some 26, .len 1 (.t 25), some (24, true)⟩, ⟨some 27, .bin .neq (.t 26) (ci 65), some (24, true)⟩, o 28 (.pick (.t 24) (.t 27) (cb false)), o 29 (.mv (.t 28)),
 ⟨some 30, .mv (.t 1), some (29, false)⟩, ⟨some 31, .len 1 (.t 30), some (29, false)⟩, ⟨some 32, .bin .gtr (.t 31) (ci 20), some (29, false)⟩,
 ⟨some 33, .mv (.t 32), some (29, false)⟩, ⟨some 34, .mv (.t 1), some (33, true)⟩, ⟨some 35, .len 1 (.t 34), some (33, true)⟩,
 ⟨some 36, .bin .neq (.t 35) (ci 65), some (33, true)⟩, ⟨some 37, .pick (.t 33) (.t 36) (cb false), some (29, false)⟩, o 38 (.pick (.t 29) (cb true) (.t 37))] [0, 1, 38])
 (.cond (.t 38)
 (.seq (.ops [o 39 (.call true true 0 (.fn 12) []), o 4 (.mv (.t 39))] [4])
 (.ret))
 (.skip)))
 (.seq (.ops [o 41 (.mv (.t 0)), o 42 (.call true false 0 (.fn 32) [.t 41]), o 43 (.mv (.t 1)), o 44 (.call true false 0 (.fn 33) [.t 43]),
 o 45 (.call true true 0 (.fn 31) [.t 42, .t 44]), o 40 (.mv (.t 45)), o 46 (.ext (.t 40) 0), o 47 (.ext (.t 40) 1), o 5 (.mv (.t 46)), o 6 (.mv (.t 47))] [0, 1, 5, 6])
 (.seq (.ops [o 49 (.mv (.t 0)), o 50 (.call true false 0 (.fn 32) [.t 49]), o 51 (.mv (.t 1)), o 52 (.call true false 0 (.fn 33) [.t 51]),
 o 53 (.call true true 0 (.fn 34) [.t 50, .t 52]), o 48 (.mv (.t 53)), o 54 (.ext (.t 48) 0), o 55 (.ext (.t 48) 1), o 56 (.ext (.t 48) 2), o 7 (.mv (.t 54)),
 o 8 (.mv (.t 55)), o 9 (.mv (.t 56))] [0, 1, 5, 6, 7, 8, 9])
 (.seq (.ops [o 58 (.mv (.t 1)), o 59 (.call true false 0 (.fn 33) [.t 58]), o 60 (.call true false 0 (.fn 35) [.t 59]), o 57 (.mv (.t 60)), o 61 (.ext (.t 57) 0),
 o 62 (.ext (.t 57) 1), o 10 (.mv (.t 61)), o 11 (.mv (.t 62))] [0, 1, 5, 6, 7, 8, 9, 10, 11])
 (.seq (.ops [o 64 (.mv (.t 1)), o 65 (.call true false 0 (.fn 33) [.t 64]), o 66 (.call true false 0 (.fn 36) [.t 65]), o 63 (.mv (.t 66)), o 67 (.ext (.t 63) 0),
 o 68 (.ext (.t 63) 1), o 12 (.mv (.t 67)), o 13 (.mv (.t 68))] [0, 1, 5, 6, 7, 8, 9, 10, 11, 12, 13])
 (.seq (.ops [o 69 (.mv (.t 0)), o 70 (.call true true 0 (.fn 37) [.t 69]), o 71 (.mv (.t 0)), o 72 (.mv (.t 1)), o 73 (.call true true 0 (.fn 38) [.t 71, .t 72]),
 o 74 (.bslice false 1 [.p (.int .i64 0)] 2 [(0, .t 70), (1, .t 73)]), o 75 (.call true true 0 (.fn 18) [.t 74]), o 76 (.mv (.t 1)),
 o 77 (.call true true 0 (.fn 39) [.t 76]), o 14 (.mv (.t 75)), o 15 (.mv (.t 77))] [0, 1, 5, 6, 7, 8, 9, 10, 11, 12, 13, 14, 15])
 (.seq (.ops [o 16 (.mv (cb false)), o 17 (.mv (ci 0)), o 18 (.mv (ci 0))] [0, 1, 5, 6, 7, 8, 9, 10, 11, 12, 13, 14, 15, 16, 17, 18])
 (.seq (.ops [o 19 (.mv (cn)), o 20 (.mv (cn))] [0, 1, 5, 6, 7, 8, 9, 10, 11, 12, 13, 14, 15, 16, 17, 18, 19, 20])
 (.seq (.seq (.ops [o 78 (.mv (.t 14)), o 79 (.bin .eql (.t 78) (ci 0))] [0, 1, 5, 6, 7, 8, 9, 10, 11, 12, 13, 14, 15, 16, 17, 18, 19, 20, 79])
 (.cond (.t 79)
 (.seq (.ops [o 80 (.mv (.t 0)), o 81 (.mv (.t 1)), o 82 (.call true true 0 (.fn 40) [.t 80, .t 81]),
 o 16 (.mv (.t 82))] [0, 1, 5, 6, 7, 8, 9, 10, 11, 12, 13, 14, 15, 16, 19, 20])
 (.ops [o 84 (.mv (.t 0)), o 85 (.mv (.t 1)), o 86 (.call true true 0 (.fn 41) [.t 84, .t 85]), o 83 (.mv (.t 86)), o 87 (.ext (.t 83) 0), o 88 (.ext (.t 83) 1),
 o 17 (.mv (.t 87)), o 18 (.mv (.t 88))] [0, 1, 5, 6, 7, 8, 9, 10, 11, 12, 13, 14, 15, 16, 17, 18, 19, 20]))
 (.skip)))
 (.seq (.seq (.ops [o 89 (.mv (.t 15)), o 90 (.bin .eql (.t 89) (ci 0))] [0, 1, 5, 6, 7, 8, 9, 10, 11, 12, 13, 14, 15, 16, 17, 18, 19, 20, 90])
 (.cond (.t 90)
 (.seq (.ops [o 91 (.mv (.t 1)), o 92 (.call true false 0 (.fn 42) [.t 91]), o 19 (.mv (.t 92))] [0, 5, 6, 7, 8, 9, 10, 11, 12, 13, 14, 15, 16, 17, 18, 19])
 (.ops [o 93 (.mv (.t 19)), o 94 (.call true false 0 (.fn 42) [.t 93]), o 20 (.mv (.t 94))] [0, 5, 6, 7, 8, 9, 10, 11, 12, 13, 14, 15, 16, 17, 18, 19, 20]))
 (.skip)))
 (.seq (.ops [o 95 (.mv (.t 0)), o 96 (.call true false 0 (.fn 32) [.t 95]), o 97 (.call true true 0 (.fn 43) [.t 96]), o 98 (.mv (.t 0)),
 o 99 (.call true true 0 (.fn 37) [.t 98]), o 100 (.bin .eql (.t 97) (.t 99)), o 101 (.mv (.t 100)), ⟨some 102, .mv (.t 5), some (101, true)⟩,
 ⟨some 103, .mv (.t 16), some (101, true)⟩, ⟨some 104, .eqb false (.t 102) (.t 103), some (101, true)⟩, o 105 (.pick (.t 101) (.t 104) (cb false)), o 106 (.mv (.t 105)),
 ⟨some 107, .mv (.t 6), some (106, true)⟩, ⟨some 108, .mv (.t 14), some (106, true)⟩, ⟨some 109, .bin .eql (.t 107) (.t 108), some (106, true)⟩,
 o 110 (.pick (.t 106) (.t 109) (cb false)), o 111 (.mv (.t 110)), ⟨some 112, .mv (.t 7), some (111, true)⟩, ⟨some 113, .mv (.t 17), some (111, true)⟩,
 ⟨some 114, .bin .eql (.t 112) (.t 113), some (111, true)⟩, o 115 (.pick (.t 111) (.t 114) (cb false)), o 116 (.mv (.t 115)), ⟨some 117, .mv (.t 8), some (116, true)⟩,
 ⟨some 118, .mv (.t 18), some (116, true)⟩, ⟨some 119, .bin .eql (.t 117) (.t 118), some (116, true)⟩, o 120 (.pick (.t 116) (.t 119) (cb false)), o 121 (.mv (.t 120)),
 ⟨some 122, .mv (.t 9), some (121, true)⟩, ⟨some 123, .mv (.t 14), some (121, true)⟩, ⟨some 124, .bin .eql (.t 122) (.t 123), some (121, true)⟩,
 o 125 (.pick (.t 121) (.t 124) (cb false)), o 126 (.mv (.t 125)), ⟨some 127, .mv (.t 10), some (126, true)⟩, ⟨some 128, .mv (.t 19), some (126, true)⟩,
 ⟨some 129, .call true true 0 (.fn 29) [.t 127, .t 128], some (126, true)⟩, o 130 (.pick (.t 126) (.t 129) (cb false)), o 131 (.mv (.t 130)),
 ⟨some 132, .mv (.t 11), some (131, true)⟩, ⟨some 133, .mv (.t 15), some (131, true)⟩, ⟨some 134, .bin .eql (.t 132) (.t 133), some (131, true)⟩,
 o 135 (.pick (.t 131) (.t 134) (cb false)), o 136 (.mv (.t 135)), ⟨some 137, .mv (.t 12), some (136, true)⟩, ⟨some 138, .mv (.t 20), some (136, true)⟩,
 ⟨some 139, .call true true 0 (.fn 29) [.t 137, .t 138], some (136, true)⟩, o 140 (.pick (.t 136) (.t 139) (cb false)), o 141 (.mv (.t 140)),
 ⟨some 142, .mv (.t 13), some (141, true)⟩, ⟨some 143, .mv (.t 15), some (141, true)⟩, ⟨some 144, .bin .eql (.t 142) (.t 143), some (141, true)⟩,
 o 145 (.pick (.t 141) (.t 144) (cb false)), o 146 (.mv (.t 145)), ⟨some 147, .call true true 0 (.fn 12) [], some (146, true)⟩, o 148 (.pick (.t 146) (.t 147) (cb false)),
 o 4 (.mv (.t 148))] [4])
 (.ret))))))))))))⟩

/-- crumple/crumplelaw08.PulseLearns -/
def c5 : AFunc := ⟨166, [.tmp 6],
 .seq (.ops [o 3 (.box true (.t 0)), o 5 (.box false (.t 2)), o 6 (.mv (cb false))] [1, 3, 5])
 (.seq (.seq (.ops [o 16 (.mv (.t 1)), o 17 (.len 1 (.t 16)), o 18 (.bin .gtr (.t 17) (ci 13)), o 19 (.mv (.t 18)), ⟨some 20, .fadr 0 (.t 5), some (19, false)⟩,
 ⟨some 21, .ld false 1 (.t 20), some (19, false)⟩, ⟨some 22, .len 1 (.t 21), some (19, false)⟩, ⟨some 23, .bin .gtr (.t 22) (ci 20), some (19, false)⟩,
 ⟨some 24, .mv (.t 23), some (19, false)⟩, ⟨some 25, .fadr 0 (.t 5), some (24, true)⟩, ⟨some 26, .ld false 1 (.t 25), some (24, true)⟩,
 ⟨some 27, .len 1 (.t 26), some (24, true)⟩, ⟨some 28, .bin .neq (.t 27) (ci 65), some (24, true)⟩, ⟨some 29, .pick (.t 24) (.t 28) (cb false), some (19, false)⟩,
 o 30 (.pick (.t 19) (cb true) (.t 29)), o 31 (.mv (.t 30)), ⟨some 32, .fadr 1 (.t 5), some (31, false)⟩, ⟨some 33, .ld false 1 (.t 32), some (31, false)⟩,
 ⟨some 34, .len 1 (.t 33), some (31, false)⟩, ⟨some 35, .bin .gtr (.t 34) (ci 20), some (31, false)⟩, ⟨some 36, .mv (.t 35), some (31, false)⟩,
 ⟨some 37, .fadr 1 (.t 5), some (36, true)⟩, ⟨some 38, .ld false 1 (.t 37), some (36, true)⟩, ⟨some 39, .len 1 (.t 38), some (36, true)⟩,
 ⟨some 40, .bin .neq (.t 39) (ci 65), some (36, true)⟩, ⟨some 41, .pick (.t 36) (.t 40) (cb false), some (31, false)⟩, o 42 (.pick (.t 31) (cb true) (.t 41))] [1, 3, 5, 42])
 (.cond (.t 42)
 (.seq (.ops [o 43 (.call true true 0 (.fn 12) []), o 6 (.mv (.t 43))] [6])
 (.ret))
 (.skip)))
 (.seq (.opsd [(0, 1), (1, 1), (2, 1), (3, 1), (4, 1), (5, 1), (6, 1), (7, 1), (8, 1), (9, 1), (10, 1), (11, 0), (12, 1), (13, 1), (14, 1), (15, 1), (16, 1)] [o 45 (.ld true 5 (.t 3)),
 o 46 (.mv (.t 1)), o 47 (.call true false 0 (.fn 14) [.t 46]), o 48 (.fadr 0 (.t 5)), o 49 (.ld false 1 (.t 48)), o 50 (.call true false 0 (.fn 32) [.t 49]),
 o 51 (.fadr 1 (.t 5)), o 52 (.ld false 1 (.t 51)), o 53 (.call true false 0 (.fn 33) [.t 52]), o 54 (.fadr 2 (.t 5)), o 55 (.ld false 1 (.t 54)),
 o 56 (.call true false 0 (.fn 44) [.t 45, .t 47, .t 50, .t 53, .t 55]), o 44 (.mv (.t 56)), o 57 (.ext (.t 44) 0), o 58 (.ext (.t 44) 1), o 7 (.mv (.t 57)),
 o 8 (.mv (.t 58))] [1, 3, 5, 7, 8])
 (.seq (.opsd [(0, 1), (1, 1), (2, 1), (3, 1), (4, 1), (5, 1), (6, 1), (7, 1), (8, 1), (9, 1), (10, 1), (11, 1), (12, 1), (13, 0), (14, 1), (15, 1), (16, 1), (17, 1), (18, 1)] [o 60 (.ld true 5 (.t 3)),
 o 61 (.mv (.t 1)), o 62 (.call true false 0 (.fn 14) [.t 61]), o 63 (.fadr 0 (.t 5)), o 64 (.ld false 1 (.t 63)), o 65 (.call true false 0 (.fn 32) [.t 64]),
 o 66 (.fadr 3 (.t 5)), o 67 (.ld false 1 (.t 66)), o 68 (.fadr 4 (.t 5)), o 69 (.ld false 1 (.t 68)), o 70 (.fadr 2 (.t 5)), o 71 (.ld false 1 (.t 70)),
 o 72 (.build [.p (.int .i64 0), .p (.int .i64 0)] [(0, 1, .t 69), (1, 1, .t 71)]), o 73 (.call true false 0 (.fn 45) [.t 60, .t 62, .t 65, .t 67, .t 72]),
 o 59 (.mv (.t 73)), o 74 (.ext (.t 59) 0), o 75 (.ext (.t 59) 1), o 9 (.mv (.t 74)), o 10 (.mv (.t 75))] [1, 3, 5, 7, 8, 9, 10])
 (.seq (.opsd [(0, 1), (1, 1), (2, 1), (3, 1), (4, 1), (5, 1), (6, 0), (7, 0), (8, 0), (9, 1)] [o 76 (.ld true 5 (.t 3)), o 77 (.call true true 0 (.fn 21) [.t 76]),
 o 78 (.mv (.t 1)), o 79 (.call true true 0 (.fn 19) [.t 78]), o 80 (.fadr 0 (.t 5)), o 81 (.ld false 1 (.t 80)), o 82 (.call true true 0 (.fn 37) [.t 81]),
 o 83 (.bslice false 1 [.p (.int .i64 0)] 3 [(0, .t 77), (1, .t 79), (2, .t 82)]), o 84 (.call true true 0 (.fn 18) [.t 83]), o 11 (.mv (.t 84))] [1, 3, 5, 7, 8, 9, 10, 11])
 (.seq (.seq (.ops [o 85 (.mv (.t 11)), o 86 (.bin .eql (.t 85) (ci 0))] [1, 3, 5, 7, 8, 9, 10, 11, 86])
 (.cond (.t 86)
 (.ops [o 87 (.ld true 5 (.t 3)), o 88 (.mv (.t 1)), o 89 (.fadr 0 (.t 5)), o 90 (.ld false 1 (.t 89)), o 91 (.len 1 (.t 90)),
 o 92 (.call true true 0 (.fn 26) [.t 87, .t 88, .t 91]), o 93 (.not (.t 92)), o 94 (.call true true 0 (.fn 46) [.t 93, ci 21]),
 o 11 (.mv (.t 94))] [1, 3, 5, 7, 8, 9, 10, 11])
 (.skip)))
 (.seq (.opsd [(0, 1), (1, 1), (2, 1), (3, 1), (4, 1), (5, 1), (6, 1), (7, 1), (8, 1), (9, 1), (10, 1), (11, 1), (12, 1), (13, 1), (14, 1), (15, 1), (16, 1), (17, 1), (18, 1), (19, 1), (20, 1), (21, 0), (22, 0), (23, 0), (24, 1), (25, 1)] [o 95 (.mv (.t 11)),
 o 96 (.fadr 0 (.t 5)), o 97 (.ld false 1 (.t 96)), o 98 (.fadr 1 (.t 5)), o 99 (.ld false 1 (.t 98)), o 100 (.call true true 0 (.fn 38) [.t 97, .t 99]),
 o 101 (.fadr 2 (.t 5)), o 102 (.ld false 1 (.t 101)), o 103 (.call true true 0 (.fn 47) [.t 102]),
 o 104 (.bslice false 1 [.p (.int .i64 0)] 3 [(0, .t 95), (1, .t 100), (2, .t 103)]), o 105 (.call true true 0 (.fn 18) [.t 104]), o 106 (.mv (.t 11)),
 o 107 (.ld true 5 (.t 3)), o 108 (.fadr 3 (.t 5)), o 109 (.ld false 1 (.t 108)), o 110 (.call true true 0 (.fn 22) [.t 107, .t 109]), o 111 (.fadr 4 (.t 5)),
 o 112 (.ld false 1 (.t 111)), o 113 (.call true true 0 (.fn 48) [.t 112]), o 114 (.fadr 2 (.t 5)), o 115 (.ld false 1 (.t 114)), o 116 (.call true true 0 (.fn 47) [.t 115]),
 o 117 (.bslice false 1 [.p (.int .i64 0)] 4 [(0, .t 106), (1, .t 110), (2, .t 113), (3, .t 116)]), o 118 (.call true true 0 (.fn 18) [.t 117]), o 12 (.mv (.t 105)),
 o 13 (.mv (.t 118))] [1, 3, 5, 7, 8, 9, 10, 12, 13])
 (.seq (.ops [o 14 (.mv (cn))] [1, 3, 5, 7, 8, 9, 10, 12, 13, 14])
 (.seq (.ops [o 15 (.mv (cn))] [1, 3, 5, 7, 8, 9, 10, 12, 13, 14, 15])
 (.seq (.seq (.ops [o 119 (.mv (.t 12)), o 120 (.bin .eql (.t 119) (ci 0))] [1, 3, 5, 7, 8, 9, 10, 12, 13, 14, 15, 120])
 (.cond (.t 120)
 (.ops [o 121 (.ld true 5 (.t 3)), o 122 (.mv (.t 1)), o 123 (.fadr 0 (.t 5)), o 124 (.ld false 1 (.t 123)), o 125 (.fadr 1 (.t 5)), o 126 (.ld false 1 (.t 125)),
 o 127 (.fadr 2 (.t 5)), o 128 (.ld false 1 (.t 127)), o 129 (.call true false 0 (.fn 49) [.t 121, .t 122, .t 124, .t 126, .t 128]),
 o 14 (.mv (.t 129))] [1, 3, 5, 7, 8, 9, 10, 12, 13, 14, 15])
 (.skip)))
 (.seq (.seq (.ops [o 130 (.mv (.t 13)), o 131 (.bin .eql (.t 130) (ci 0))] [1, 3, 5, 7, 8, 9, 10, 12, 13, 14, 15, 131])
 (.cond (.t 131)
 (.ops [o 132 (.ld true 5 (.t 3)), o 133 (.mv (.t 1)), o 134 (.fadr 0 (.t 5)), o 135 (.ld false 1 (.t 134)), o 136 (.fadr 3 (.t 5)), o 137 (.ld false 1 (.t 136)),
 o 138 (.fadr 4 (.t 5)), o 139 (.ld false 1 (.t 138)), o 140 (.fadr 2 (.t 5)), o 141 (.ld false 1 (.t 140)),
 o 142 (.call true false 0 (.fn 50) [.t 132, .t 133, .t 135, .t 137, .t 139, .t 141]), o 15 (.mv (.t 142))] [7, 8, 9, 10, 12, 13, 14, 15])
 (.skip)))
 (.seq (.ops [o 143 (.mv (.t 7)), o 144 (.call true false 0 (.fn 52) [.t 143]), o 145 (.mv (.t 14)), o 146 (.call true true 0 (.fn 51) [.t 144, .t 145]),
 o 147 (.mv (.t 146)), ⟨some 148, .mv (.t 8), some (147, true)⟩, ⟨some 149, .mv (.t 12), some (147, true)⟩, ⟨some 150, .bin .eql (.t 148) (.t 149), some (147, true)⟩,
 o 151 (.pick (.t 147) (.t 150) (cb false)), o 152 (.mv (.t 151)), ⟨some 153, .mv (.t 9), some (152, true)⟩,
 ⟨some 154, .call true false 0 (.fn 54) [.t 153], some (152, true)⟩, ⟨some 155, .mv (.t 15), some (152, true)⟩,
 ⟨some 156, .call true true 0 (.fn 53) [.t 154, .t 155], some (152, true)⟩, o 157 (.pick (.t 152) (.t 156) (cb false)), o 158 (.mv (.t 157)),
 ⟨some 159, .mv (.t 10), some (158, true)⟩, ⟨some 160, .mv (.t 13), some (158, true)⟩, ⟨some 161, .bin .eql (.t 159) (.t 160), some (158, true)⟩,
 o 162 (.pick (.t 158) (.t 161) (cb false)), o 163 (.mv (.t 162)), ⟨some 164, .call true true 0 (.fn 12) [], some (163, true)⟩, o 165 (.pick (.t 163) (.t 164) (cb false)),
 o 6 (.mv (.t 165))] [6])
 (.ret))))))))))))⟩

/-- crumple/crumplelaw08.PulseSpreads -/
def c6 : AFunc := ⟨147, [.tmp 6],
 .seq (.ops [o 5 (.box true (.t 2)), o 6 (.mv (cb false))] [0, 1, 5])
 (.seq (.seq (.ops [o 25 (.mv (.t 0)), o 26 (.call true true 0 (.fn 55) [.t 25]), o 27 (.not (.t 26))] [0, 1, 5, 27])
 (.cond (.t 27)
 (.seq (.ops [o 28 (.call true true 0 (.fn 12) []), o 6 (.mv (.t 28))] [6])
 (.ret))
 (.skip)))
 (.seq (.ops [o 7 (.mv (cn))] [0, 1, 5, 7])
 (.seq (.seq (.ops [o 29 (.mv (.t 0)), o 30 (.len 1 (.t 29)), o 31 (.bin .gtr (.t 30) (ci 0))] [0, 1, 5, 7, 31])
 (.cond (.t 31)
 (.ops [o 32 (.mv (.t 0)), o 33 (.iadr 1 (.t 32) (ci 0)), o 34 (.ld false 1 (.t 33)), o 7 (.mv (.t 34))] [0, 1, 5, 7])
 (.skip)))
 (.seq (.ops [o 36 (.mv (.t 0)), o 37 (.call true false 0 (.fn 57) [.t 36]), o 38 (.call true false 0 (.fn 56) [.t 37]), o 35 (.mv (.t 38)), o 39 (.ext (.t 35) 0),
 o 40 (.ext (.t 35) 1), o 8 (.mv (.t 39)), o 9 (.mv (.t 40))] [0, 1, 5, 7, 8, 9])
 (.seq (.ops [o 42 (.mv (.t 0)), o 43 (.call true false 0 (.fn 57) [.t 42]), o 44 (.call true false 0 (.fn 58) [.t 43]), o 41 (.mv (.t 44)), o 45 (.ext (.t 41) 0),
 o 46 (.ext (.t 41) 1), o 10 (.mv (.t 45)), o 11 (.mv (.t 46))] [0, 1, 5, 7, 8, 9, 10, 11])
 (.seq (.ops [o 48 (.mv (.t 0)), o 49 (.call true false 0 (.fn 57) [.t 48]), o 50 (.mv (.t 1)), o 51 (.call true true 0 (.fn 59) [.t 49, .t 50]), o 47 (.mv (.t 51)),
 o 52 (.ext (.t 47) 0), o 53 (.ext (.t 47) 1), o 12 (.mv (.t 52)), o 13 (.mv (.t 53))] [0, 1, 5, 7, 8, 9, 10, 11, 12, 13])
 (.seq (.opsd [(0, 1), (1, 1), (2, 1), (3, 0), (4, 1), (5, 1), (6, 1), (7, 1), (8, 1), (9, 1), (10, 1)] [o 55 (.ld true 3 (.t 5)), o 56 (.mv (.t 7)),
 o 57 (.call true false 0 (.fn 33) [.t 56]), o 58 (.call true false 0 (.fn 60) [.t 55, .t 57]), o 54 (.mv (.t 58)), o 59 (.ext (.t 54) 0), o 60 (.ext (.t 54) 1),
 o 61 (.ext (.t 54) 2), o 14 (.mv (.t 59)), o 15 (.mv (.t 60)), o 16 (.mv (.t 61))] [0, 1, 5, 7, 8, 9, 10, 11, 12, 13, 14, 15, 16])
 (.seq (.ops [o 62 (.mv (.t 0)), o 63 (.call true true 0 (.fn 61) [.t 62]), o 17 (.mv (.t 63))] [0, 1, 5, 7, 8, 9, 10, 11, 12, 13, 14, 15, 16, 17])
 (.seq (.opsd [(0, 1), (1, 1), (2, 1), (3, 1), (4, 1), (5, 1), (7, 1), (6, 0), (8, 0), (9, 0), (10, 0), (11, 1), (12, 1)] [o 64 (.mv (.t 17)), o 65 (.mv (.t 1)),
 o 66 (.call true true 0 (.fn 62) [.t 65]), o 67 (.bslice false 1 [.p (.int .i64 0)] 2 [(0, .t 64), (1, .t 66)]), o 68 (.call true true 0 (.fn 18) [.t 67]),
 o 69 (.ld true 3 (.t 5)), o 71 (.mv (.t 7)), o 70 (.call true true 0 (.fn 63) [.t 69]), o 72 (.call true true 0 (.fn 39) [.t 71]),
 o 73 (.bslice false 1 [.p (.int .i64 0)] 2 [(0, .t 70), (1, .t 72)]), o 74 (.call true true 0 (.fn 18) [.t 73]), o 18 (.mv (.t 68)),
 o 19 (.mv (.t 74))] [0, 1, 5, 7, 8, 9, 10, 11, 12, 13, 14, 15, 16, 17, 18, 19])
 (.seq (.ops [o 20 (.mv (cn)), o 21 (.mv (cn)), o 22 (.mv (cn))] [0, 1, 5, 7, 8, 9, 10, 11, 12, 13, 14, 15, 16, 17, 18, 19, 20, 21, 22])
 (.seq (.ops [o 23 (.mv (cn))] [0, 1, 5, 7, 8, 9, 10, 11, 12, 13, 14, 15, 16, 17, 18, 19, 20, 21, 22, 23])
 (.seq (.ops [o 24 (.mv (cb false))] [0, 1, 5, 7, 8, 9, 10, 11, 12, 13, 14, 15, 16, 17, 18, 19, 20, 21, 22, 23, 24])
 (.seq (.seq (.ops [o 75 (.mv (.t 17)), o 76 (.bin .eql (.t 75) (ci 0))] [0, 1, 5, 7, 8, 9, 10, 11, 12, 13, 14, 15, 16, 17, 18, 19, 20, 21, 22, 23, 24, 76])
 (.cond (.t 76)
 (.ops [o 77 (.mv (.t 0)), o 78 (.call true false 0 (.fn 64) [.t 77]), o 79 (.mv (.t 0)), o 80 (.call true false 0 (.fn 65) [.t 79]), o 20 (.mv (.t 78)),
 o 23 (.mv (.t 80))] [0, 1, 5, 7, 8, 9, 10, 11, 12, 13, 14, 15, 16, 17, 18, 19, 20, 21, 22, 23, 24])
 (.skip)))
 (.seq (.seq (.ops [o 81 (.mv (.t 18)), o 82 (.bin .eql (.t 81) (ci 0))] [0, 1, 5, 7, 8, 9, 10, 11, 12, 13, 14, 15, 16, 17, 18, 19, 20, 21, 22, 23, 24, 82])
 (.cond (.t 82)
 (.ops [o 83 (.mv (.t 0)), o 84 (.mv (.t 1)), o 85 (.call true true 0 (.fn 66) [.t 83, .t 84]),
 o 24 (.mv (.t 85))] [5, 7, 8, 9, 10, 11, 12, 13, 14, 15, 16, 17, 18, 19, 20, 21, 22, 23, 24])
 (.skip)))
 (.seq (.seq (.ops [o 86 (.mv (.t 19)), o 87 (.bin .eql (.t 86) (ci 0))] [5, 7, 8, 9, 10, 11, 12, 13, 14, 15, 16, 17, 18, 19, 20, 21, 22, 23, 24, 87])
 (.cond (.t 87)
 (.ops [o 89 (.ld true 3 (.t 5)), o 90 (.mv (.t 7)), o 91 (.call true false 0 (.fn 67) [.t 89, .t 90]), o 88 (.mv (.t 91)), o 92 (.ext (.t 88) 0), o 93 (.ext (.t 88) 1),
 o 21 (.mv (.t 92)), o 22 (.mv (.t 93))] [5, 8, 9, 10, 11, 12, 13, 14, 15, 16, 17, 18, 19, 20, 21, 22, 23, 24])
 (.skip)))
 (.seq (.opsd [(0, 1), (1, 1), (2, 1), (3, 0), (4, 1), (5, 1), (6, 1), (7, 1), (8, 0), (9, 1), (10, 1), (11, 1), (12, 1), (13, 1), (14, 1), (15, 1), (16, 1), (17, 1), (18, 0), (19, 1), (20, 1), (21, 1), (22, 1), (23, 1), (24, 1), (25, 1), (26, 1), (27, 1), (28, 1), (29, 1), (30, 1), (31, 1), (32, 1), (33, 1), (34, 1), (35, 1), (36, 1), (37, 1), (38, 0), (39, 1), (40, 1), (41, 1), (42, 1), (43, 0), (44, 1), (45, 1), (46, 1), (47, 1), (48, 1), (49, 1), (50, 1), (51, 0), (52, 1), (53, 1)] [o 94 (.ld true 3 (.t 5)),
 o 95 (.call true true 0 (.fn 68) [.t 94]), o 96 (.ld true 3 (.t 5)), o 97 (.call true true 0 (.fn 63) [.t 96]), o 98 (.bin .eql (.t 95) (.t 97)), o 99 (.mv (.t 98)),
 ⟨some 100, .mv (.t 8), some (99, true)⟩, ⟨some 101, .mv (.t 20), some (99, true)⟩, ⟨some 102, .call true true 0 (.fn 30) [.t 100, .t 101], some (99, true)⟩,
 o 103 (.pick (.t 99) (.t 102) (cb false)), o 104 (.mv (.t 103)), ⟨some 105, .mv (.t 9), some (104, true)⟩, ⟨some 106, .mv (.t 17), some (104, true)⟩,
 ⟨some 107, .bin .eql (.t 105) (.t 106), some (104, true)⟩, o 108 (.pick (.t 104) (.t 107) (cb false)), o 109 (.mv (.t 108)), ⟨some 110, .mv (.t 10), some (109, true)⟩,
 ⟨some 111, .mv (.t 23), some (109, true)⟩, ⟨some 112, .call true true 0 (.fn 29) [.t 110, .t 111], some (109, true)⟩, o 113 (.pick (.t 109) (.t 112) (cb false)),
 o 114 (.mv (.t 113)), ⟨some 115, .mv (.t 11), some (114, true)⟩, ⟨some 116, .mv (.t 17), some (114, true)⟩, ⟨some 117, .bin .eql (.t 115) (.t 116), some (114, true)⟩,
 o 118 (.pick (.t 114) (.t 117) (cb false)), o 119 (.mv (.t 118)), ⟨some 120, .mv (.t 12), some (119, true)⟩, ⟨some 121, .mv (.t 24), some (119, true)⟩,
 ⟨some 122, .eqb false (.t 120) (.t 121), some (119, true)⟩, o 123 (.pick (.t 119) (.t 122) (cb false)), o 124 (.mv (.t 123)), ⟨some 125, .mv (.t 13), some (124, true)⟩,
 ⟨some 126, .mv (.t 18), some (124, true)⟩, ⟨some 127, .bin .eql (.t 125) (.t 126), some (124, true)⟩, o 128 (.pick (.t 124) (.t 127) (cb false)), o 129 (.mv (.t 128)),
 ⟨some 130, .mv (.t 14), some (129, true)⟩, ⟨some 131, .mv (.t 21), some (129, true)⟩, ⟨some 132, .call true true 0 (.fn 30) [.t 130, .t 131], some (129, true)⟩,
 o 133 (.pick (.t 129) (.t 132) (cb false)), o 134 (.mv (.t 133)), ⟨some 135, .mv (.t 15), some (134, true)⟩, ⟨some 136, .mv (.t 22), some (134, true)⟩,
 ⟨some 137, .call true true 0 (.fn 30) [.t 135, .t 136], some (134, true)⟩, o 138 (.pick (.t 134) (.t 137) (cb false)), o 139 (.mv (.t 138)),
 ⟨some 140, .mv (.t 16), some (139, true)⟩, ⟨some 141, .mv (.t 19), some (139, true)⟩, ⟨some 142, .bin .eql (.t 140) (.t 141), some (139, true)⟩,
 o 143 (.pick (.t 139) (.t 142) (cb false)), o 144 (.mv (.t 143)), ⟨some 145, .call true true 0 (.fn 12) [], some (144, true)⟩, o 146 (.pick (.t 144) (.t 145) (cb false)),
 o 6 (.mv (.t 146))] [6])
 (.ret)))))))))))))))))⟩

/-- crumple/crumplelaw08.PulseStrings -/
def c7 : AFunc := ⟨80, [.tmp 4],
 .seq (.ops [o 4 (.mv (cb false))] [0, 1])
 (.seq (.seq (.ops [o 15 (.mv (.t 0)), o 16 (.len 1 (.t 15)), o 17 (.bin .gtr (.t 16) (ci 13)), o 18 (.mv (.t 17)), ⟨some 19, .mv (.t 1), some (18, false)⟩,
 ⟨some 20, .len 0 (.t 19), some (18, false)⟩, ⟨some 21, .bin .gtr (.t 20) (ci 300), some (18, false)⟩, ⟨some 22, .mv (.t 21), some (18, false)⟩,
 ⟨some 23, .mv (.t 1), some (22, true)⟩, ⟨some 24, .len 0 (.t 23), some (22, true)⟩, ⟨some 25, .bin .neq (.t 24) (ci 4097), some (22, true)⟩,
 ⟨some 26, .pick (.t 22) (.t 25) (cb false), some (18, false)⟩, o 27 (.pick (.t 18) (cb true) (.t 26))] [0, 1, 27])
 (.cond (.t 27)
 (.seq (.ops [o 28 (.call true true 0 (.fn 12) []), o 4 (.mv (.t 28))] [4])
 (.ret))
 (.skip)))
 (.seq (.ops [o 30 (.mv (.t 0)), o 31 (.call true false 0 (.fn 14) [.t 30]), o 32 (.call true true 0 (.fn 69) [.t 31]), o 29 (.mv (.t 32)), o 33 (.ext (.t 29) 0),
 o 34 (.ext (.t 29) 1), o 5 (.mv (.t 33)), o 6 (.mv (.t 34))] [0, 1, 5, 6])
 (.seq (.ops [o 36 (.mv (.t 1)), o 37 (.call false false 0 (.fn 70) [.t 36]), o 35 (.mv (.t 37)), o 38 (.ext (.t 35) 0), o 39 (.ext (.t 35) 1), o 40 (.ext (.t 35) 2),
 o 7 (.mv (.t 38)), o 8 (.mv (.t 39)), o 9 (.mv (.t 40))] [0, 1, 5, 6, 7, 8, 9])
 (.seq (.ops [o 41 (.mv (.t 0)), o 42 (.call true true 0 (.fn 19) [.t 41]), o 10 (.mv (.t 42))] [0, 1, 5, 6, 7, 8, 9, 10])
 (.seq (.ops [o 11 (.mv (cs []))] [0, 1, 5, 6, 7, 8, 9, 10, 11])
 (.seq (.seq (.ops [o 43 (.mv (.t 10)), o 44 (.bin .eql (.t 43) (ci 0))] [0, 1, 5, 6, 7, 8, 9, 10, 11, 44])
 (.cond (.t 44)
 (.ops [o 45 (.mv (.t 0)), o 46 (.call true true 0 (.fn 71) [.t 45]), o 11 (.mv (.t 46))] [1, 5, 6, 7, 8, 9, 10, 11])
 (.skip)))
 (.seq (.ops [o 48 (.mv (.t 1)), o 49 (.call true false 0 (.fn 72) [.t 48]), o 47 (.mv (.t 49)), o 50 (.ext (.t 47) 0), o 51 (.ext (.t 47) 1), o 52 (.ext (.t 47) 2),
 o 12 (.mv (.t 50)), o 13 (.mv (.t 51)), o 14 (.mv (.t 52))] [5, 6, 7, 8, 9, 10, 11, 12, 13, 14])
 (.seq (.ops [o 53 (.mv (.t 5)), o 54 (.mv (.t 11)), o 55 (.bin .eql (.t 53) (.t 54)), o 56 (.mv (.t 55)), ⟨some 57, .mv (.t 6), some (56, true)⟩,
 ⟨some 58, .mv (.t 10), some (56, true)⟩, ⟨some 59, .bin .eql (.t 57) (.t 58), some (56, true)⟩, o 60 (.pick (.t 56) (.t 59) (cb false)), o 61 (.mv (.t 60)),
 ⟨some 62, .mv (.t 7), some (61, true)⟩, ⟨some 63, .call true false 0 (.fn 52) [.t 62], some (61, true)⟩, ⟨some 64, .mv (.t 12), some (61, true)⟩,
 ⟨some 65, .call true true 0 (.fn 51) [.t 63, .t 64], some (61, true)⟩, o 66 (.pick (.t 61) (.t 65) (cb false)), o 67 (.mv (.t 66)), ⟨some 68, .mv (.t 8), some (67, true)⟩,
 ⟨some 69, .mv (.t 13), some (67, true)⟩, ⟨some 70, .bin .eql (.t 68) (.t 69), some (67, true)⟩, o 71 (.pick (.t 67) (.t 70) (cb false)), o 72 (.mv (.t 71)),
 ⟨some 73, .mv (.t 9), some (72, true)⟩, ⟨some 74, .mv (.t 14), some (72, true)⟩, ⟨some 75, .bin .eql (.t 73) (.t 74), some (72, true)⟩,
 o 76 (.pick (.t 72) (.t 75) (cb false)), o 77 (.mv (.t 76)), ⟨some 78, .call true true 0 (.fn 12) [], some (77, true)⟩, o 79 (.pick (.t 77) (.t 78) (cb false)),
 o 4 (.mv (.t 79))] [4])
 (.ret)))))))))⟩

/-- crumple/crumplelaw08.PulseBelow -/
def c8L0 : ACode :=
 .seq (.ops [o 139 (.bin .lss (.t 138) (.t 137))] [1, 3, 5, 7, 8, 9, 10, 11, 13, 15, 17, 18, 136, 137, 138, 139])
 (.seq (.cond (.t 139)
 (.skip)
 (.exit 0))
 (.seq (.block 1 (.seq (.ops [o 140 (.mv (.t 138)), o 141 (.iadr 1 (.t 136) (.t 138)), o 142 (.ld false 1 (.t 141)), o 19 (.mv (.t 140)),
 o 20 (.mv (.t 142))] [1, 3, 5, 7, 8, 9, 10, 11, 13, 15, 17, 18, 19, 20, 136, 137, 138])
 (.seq (.seq (.ops [o 143 (.mv (.t 20)), o 144 (.mv (.t 13)), o 145 (.mv (.t 19)), o 146 (.iadr 2 (.t 144) (.t 145)), o 147 (.fadr 0 (.t 146)),
 o 148 (.ld false 1 (.t 147)), o 149 (.bin .lss (.t 143) (.t 148)), o 150 (.mv (.t 149)), ⟨some 151, .mv (.t 20), some (150, false)⟩,
 ⟨some 152, .mv (.t 13), some (150, false)⟩, ⟨some 153, .mv (.t 19), some (150, false)⟩, ⟨some 154, .iadr 2 (.t 152) (.t 153), some (150, false)⟩,
 ⟨some 155, .fadr 1 (.t 154), some (150, false)⟩, ⟨some 156, .ld false 1 (.t 155), some (150, false)⟩, ⟨some 157, .bin .gtr (.t 151) (.t 156), some (150, false)⟩,
 o 158 (.pick (.t 150) (cb true) (.t 157)), o 159 (.mv (.t 158)), ⟨some 160, .mv (.t 20), some (159, false)⟩, ⟨some 161, .mv (.t 17), some (159, false)⟩,
 ⟨some 162, .mv (.t 8), some (159, false)⟩, ⟨some 163, .max [.t 161, .t 162], some (159, false)⟩, ⟨some 164, .bin .gtr (.t 160) (.t 163), some (159, false)⟩,
 o 165 (.pick (.t 159) (cb true) (.t 164)), o 166 (.mv (.t 165)), ⟨some 167, .mv (.t 20), some (166, false)⟩, ⟨some 168, .bin .lss (.t 167) (ci 0), some (166, false)⟩,
 o 169 (.pick (.t 166) (cb true) (.t 168))] [1, 3, 5, 7, 8, 9, 10, 11, 13, 15, 18, 19, 20, 136, 137, 138, 169])
 (.cond (.t 169)
 (.seq (.ops [o 6 (.mv (cb false))] [6])
 (.ret))
 (.skip)))
 (.opsd [(0, 1), (1, 1), (2, 1), (3, 1), (4, 1), (5, 1), (6, 1), (7, 1), (8, 1), (9, 1), (10, 1), (11, 1), (12, 1), (13, 1)] [o 170 (.mv (.t 20)), o 171 (.mv (.t 18)),
 o 172 (.mv (.t 171)), ⟨some 173, .mv (.t 13), some (172, true)⟩, ⟨some 174, .mv (.t 19), some (172, true)⟩, ⟨some 175, .iadr 2 (.t 173) (.t 174), some (172, true)⟩,
 ⟨some 176, .fadr 1 (.t 175), some (172, true)⟩, ⟨some 177, .ld false 1 (.t 176), some (172, true)⟩, ⟨some 178, .fadr 4 (.t 3), some (172, true)⟩,
 ⟨some 179, .ld false 1 (.t 178), some (172, true)⟩, ⟨some 180, .bin .leq (.t 177) (.t 179), some (172, true)⟩, o 181 (.pick (.t 172) (.t 180) (cb false)),
 o 17 (.mv (.t 170)), o 18 (.mv (.t 181))] [1, 3, 5, 7, 8, 9, 10, 11, 13, 15, 17, 18, 136, 137, 138]))))
 (.ops [o 182 (.bin .add (.t 138) (ci 1)), o 138 (.mv (.t 182))] [1, 3, 5, 7, 8, 9, 10, 11, 13, 15, 17, 18, 136, 137, 138])))
def c8L1 : ACode :=
 .seq (.ops [o 192 (.bin .lss (.t 191) (.t 190))] [1, 3, 5, 7, 8, 9, 10, 11, 15, 21, 190, 191, 192])
 (.seq (.cond (.t 192)
 (.skip)
 (.exit 2))
 (.seq (.block 3 (.seq (.ops [o 193 (.mv (.t 191)), o 22 (.mv (.t 193))] [1, 3, 5, 7, 8, 9, 10, 11, 15, 21, 22, 190, 191])
 (.opsd [(0, 1), (1, 1), (2, 1), (3, 1), (4, 1), (5, 1), (6, 1), (7, 1), (8, 1), (9, 1), (10, 1), (11, 1), (12, 1), (13, 1), (14, 1), (15, 0)] [o 194 (.mv (.t 21)),
 o 195 (.mv (.t 22)), o 196 (.mv (.t 21)), o 197 (.mv (.t 22)), o 198 (.iadr 2 (.t 196) (.t 197)), o 199 (.fadr 1 (.t 198)), o 200 (.ld false 1 (.t 199)),
 o 201 (.fadr 3 (.t 5)), o 202 (.ld false 1 (.t 201)), o 203 (.conv (.int .i64) (.t 202)), o 204 (.bin .rem (.t 203) (ci 7)), o 205 (.bin .add (.t 200) (.t 204)),
 o 206 (.min [ci 100, .t 205]), o 207 (.iadr 2 (.t 194) (.t 195)), o 208 (.fadr 1 (.t 207)), u (.st 1 (.t 208) (.t 206))] [1, 3, 5, 7, 8, 9, 10, 11, 15, 21, 190, 191])))
 (.ops [o 209 (.bin .add (.t 191) (ci 1)), o 191 (.mv (.t 209))] [1, 3, 5, 7, 8, 9, 10, 11, 15, 21, 190, 191])))
def c8L2 : ACode :=
 .seq (.ops [o 230 (.bin .lss (.t 229) (.t 228))] [1, 3, 5, 7, 8, 9, 10, 11, 15, 227, 228, 229, 230])
 (.seq (.cond (.t 230)
 (.skip)
 (.exit 4))
 (.seq (.block 5 (.seq (.ops [o 231 (.mv (.t 229)), o 232 (.iadr 1 (.t 227) (.t 229)), o 233 (.ld false 1 (.t 232)), o 25 (.mv (.t 231)),
 o 26 (.mv (.t 233))] [1, 3, 5, 7, 8, 9, 10, 11, 15, 25, 26, 227, 228, 229])
 (.seq (.ops [o 234 (.mv (.t 26)), o 235 (.mv (.t 11)), o 236 (.mv (.t 25)), o 237 (.iadr 1 (.t 235) (.t 236)), o 238 (.ld false 1 (.t 237)),
 o 239 (.bin .lss (.t 234) (.t 238))] [1, 3, 5, 7, 8, 9, 10, 11, 15, 227, 228, 229, 239])
 (.cond (.t 239)
 (.seq (.ops [o 6 (.mv (cb false))] [6])
 (.ret))
 (.skip)))))
 (.ops [o 240 (.bin .add (.t 229) (ci 1)), o 229 (.mv (.t 240))] [1, 3, 5, 7, 8, 9, 10, 11, 15, 227, 228, 229])))
def c8L3 : ACode :=
 .seq (.ops [o 341 (.bin .lss (.t 340) (.t 339))] [1, 3, 5, 7, 8, 10, 27, 29, 30, 33, 285, 286, 287, 338, 339, 340, 341])
 (.seq (.cond (.t 341)
 (.skip)
 (.exit 8))
 (.seq (.block 9 (.seq (.ops [o 342 (.iadr 1 (.t 338) (.t 340)), o 343 (.ld false 1 (.t 342)),
 o 36 (.mv (.t 343))] [1, 3, 5, 7, 8, 10, 27, 29, 30, 33, 36, 285, 286, 287, 338, 339, 340])
 (.seq (.ops [o 344 (.mv (.t 36)), o 345 (.fadr 4 (.t 3)), o 346 (.ld false 1 (.t 345)),
 o 347 (.bin .gtr (.t 344) (.t 346))] [1, 3, 5, 7, 8, 10, 27, 29, 30, 33, 285, 286, 287, 338, 339, 340, 347])
 (.cond (.t 347)
 (.seq (.ops [o 6 (.mv (cb false))] [6])
 (.ret))
 (.skip)))))
 (.ops [o 348 (.bin .add (.t 340) (ci 1)), o 340 (.mv (.t 348))] [1, 3, 5, 7, 8, 10, 27, 29, 30, 33, 285, 286, 287, 338, 339, 340])))
def c8L4 : ACode :=
 .seq (.ops [o 352 (.bin .lss (.t 351) (.t 350))] [1, 3, 5, 7, 8, 10, 27, 29, 30, 33, 285, 286, 287, 350, 351, 352])
 (.seq (.cond (.t 352)
 (.skip)
 (.exit 10))
 (.seq (.block 11 (.seq (.ops [o 353 (.mv (.t 351)), o 37 (.mv (.t 353))] [1, 3, 5, 7, 8, 10, 27, 29, 30, 33, 37, 285, 286, 287, 350, 351])
 (.seq (.opsd [(0, 1), (1, 1), (2, 1), (3, 1), (4, 1), (5, 1), (6, 1), (7, 1), (8, 1), (9, 1), (10, 1), (11, 1), (12, 1), (13, 1), (14, 1), (15, 1), (16, 1), (17, 1), (18, 1), (19, 1), (20, 1), (21, 1), (22, 1), (23, 1), (24, 1), (25, 1), (26, 1), (27, 1), (28, 1), (29, 1), (30, 1), (31, 1), (32, 1), (33, 1), (34, 1), (35, 1), (36, 1), (37, 1), (38, 1), (39, 1), (40, 1), (41, 1), (42, 1), (43, 1), (44, 1), (45, 1), (46, 1), (47, 1), (48, 1), (49, 1)] [o 354 (.mv (.t 30)),
 o 355 (.mv (.t 37)), o 356 (.iadr 2 (.t 354) (.t 355)), o 357 (.fadr 0 (.t 356)), o 358 (.ld false 1 (.t 357)), o 359 (.mv (.t 1)), o 360 (.mv (.t 37)),
 o 361 (.iadr 2 (.t 359) (.t 360)), o 362 (.fadr 0 (.t 361)), o 363 (.ld false 1 (.t 362)), o 364 (.bin .neq (.t 358) (.t 363)), o 365 (.mv (.t 364)),
 ⟨some 366, .mv (.t 29), some (365, false)⟩, ⟨some 367, .bin .gtr (.t 366) (ci 0), some (365, false)⟩, ⟨some 368, .mv (.t 367), some (365, false)⟩,
 ⟨some 369, .mv (.t 30), some (368, true)⟩, ⟨some 370, .mv (.t 37), some (368, true)⟩, ⟨some 371, .iadr 2 (.t 369) (.t 370), some (368, true)⟩,
 ⟨some 372, .fadr 1 (.t 371), some (368, true)⟩, ⟨some 373, .ld false 1 (.t 372), some (368, true)⟩, ⟨some 374, .mv (.t 27), some (368, true)⟩,
 ⟨some 375, .mv (.t 29), some (368, true)⟩, ⟨some 376, .bin .sub (.t 375) (ci 1), some (368, true)⟩, ⟨some 377, .iadr 1 (.t 374) (.t 376), some (368, true)⟩,
 ⟨some 378, .ld false 1 (.t 377), some (368, true)⟩, ⟨some 379, .mv (.t 37), some (368, true)⟩, ⟨some 380, .iadr 2 (.t 378) (.t 379), some (368, true)⟩,
 ⟨some 381, .fadr 1 (.t 380), some (368, true)⟩, ⟨some 382, .ld false 1 (.t 381), some (368, true)⟩, ⟨some 383, .bin .sub (.t 373) (.t 382), some (368, true)⟩,
 ⟨some 384, .mv (.t 27), some (368, true)⟩, ⟨some 385, .mv (.t 29), some (368, true)⟩, ⟨some 386, .bin .sub (.t 385) (ci 1), some (368, true)⟩,
 ⟨some 387, .iadr 1 (.t 384) (.t 386), some (368, true)⟩, ⟨some 388, .ld false 1 (.t 387), some (368, true)⟩, ⟨some 389, .mv (.t 37), some (368, true)⟩,
 ⟨some 390, .iadr 2 (.t 388) (.t 389), some (368, true)⟩, ⟨some 391, .fadr 1 (.t 390), some (368, true)⟩, ⟨some 392, .ld false 1 (.t 391), some (368, true)⟩,
 ⟨some 393, .mv (.t 30), some (368, true)⟩, ⟨some 394, .mv (.t 37), some (368, true)⟩, ⟨some 395, .iadr 2 (.t 393) (.t 394), some (368, true)⟩,
 ⟨some 396, .fadr 1 (.t 395), some (368, true)⟩, ⟨some 397, .ld false 1 (.t 396), some (368, true)⟩, ⟨some 398, .bin .sub (.t 392) (.t 397), some (368, true)⟩,
 ⟨some 399, .max [.t 383, .t 398], some (368, true)⟩, ⟨some 400, .mv (.t 10), some (368, true)⟩, ⟨some 401, .bin .gtr (.t 399) (.t 400), some (368, true)⟩,
 ⟨some 402, .pick (.t 368) (.t 401) (cb false), some (365, false)⟩,
 o 403 (.pick (.t 365) (cb true) (.t 402))] [1, 3, 5, 7, 8, 10, 27, 29, 30, 33, 285, 286, 287, 350, 351, 403])
 (.cond (.t 403)
 (.seq (.ops [o 6 (.mv (cb false))] [6])
 (.ret))
 (.skip)))))
 (.ops [o 404 (.bin .add (.t 351) (ci 1)), o 351 (.mv (.t 404))] [1, 3, 5, 7, 8, 10, 27, 29, 30, 33, 285, 286, 287, 350, 351])))
def c8L5 : ACode :=
 .seq (.ops [o 288 (.bin .lss (.t 287) (.t 286))] [1, 3, 5, 7, 8, 10, 27, 285, 286, 287, 288])
 (.seq (.cond (.t 288)
 (.skip)
 (.exit 6))
 (.seq (.block 7 (.seq (.ops [o 289 (.mv (.t 287)), o 290 (.iadr 1 (.t 285) (.t 287)), o 291 (.ld false 1 (.t 290)), o 29 (.mv (.t 289)),
 o 30 (.mv (.t 291))] [1, 3, 5, 7, 8, 10, 27, 29, 30, 285, 286, 287])
 (.seq (.seq (.ops [o 292 (.mv (.t 30)), o 293 (.call true false 0 (.fn 52) [.t 292]), o 294 (.call true true 0 (.fn 19) [.t 293]), o 295 (.bin .neq (.t 294) (ci 0)),
 o 296 (.mv (.t 295)), ⟨some 297, .mv (.t 30), some (296, false)⟩, ⟨some 298, .len 1 (.t 297), some (296, false)⟩, ⟨some 299, .mv (.t 1), some (296, false)⟩,
 ⟨some 300, .len 1 (.t 299), some (296, false)⟩, ⟨some 301, .bin .neq (.t 298) (.t 300), some (296, false)⟩,
 o 302 (.pick (.t 296) (cb true) (.t 301))] [1, 3, 5, 7, 8, 10, 27, 29, 30, 285, 286, 287, 302])
 (.cond (.t 302)
 (.seq (.ops [o 6 (.mv (cb false))] [6])
 (.ret))
 (.skip)))
 (.seq (.opsd [(0, 1), (1, 1), (2, 1), (3, 1), (4, 1), (5, 0), (6, 1), (7, 1), (8, 1), (9, 1), (10, 1)] [o 304 (.ld true 5 (.t 3)), o 305 (.mv (.t 30)),
 o 306 (.call true false 0 (.fn 52) [.t 305]), o 307 (.call true false 0 (.fn 14) [.t 306]), o 308 (.mv (.t 7)),
 o 309 (.call true true 0 (.fn 17) [.t 304, .t 307, .t 308]), o 303 (.mv (.t 309)), o 310 (.ext (.t 303) 0), o 311 (.ext (.t 303) 1), o 31 (.mv (.t 310)),
 o 32 (.mv (.t 311))] [1, 3, 5, 7, 8, 10, 27, 29, 30, 31, 32, 285, 286, 287])
 (.seq (.opsd [(0, 1), (1, 1), (2, 1), (3, 1), (4, 1), (5, 1), (6, 0), (7, 1), (8, 1), (9, 1), (10, 1), (11, 1)] [o 313 (.ld true 5 (.t 3)), o 314 (.mv (.t 30)),
 o 315 (.call true false 0 (.fn 52) [.t 314]), o 316 (.call true false 0 (.fn 14) [.t 315]), o 317 (.mv (.t 8)), o 318 (.mv (.t 7)),
 o 319 (.call true false 0 (.fn 15) [.t 313, .t 316, .t 317, .t 318]), o 312 (.mv (.t 319)), o 320 (.ext (.t 312) 0), o 321 (.ext (.t 312) 1), o 33 (.mv (.t 320)),
 o 34 (.mv (.t 321))] [1, 3, 5, 7, 8, 10, 27, 29, 30, 31, 32, 33, 34, 285, 286, 287])
 (.seq (.seq (.ops [o 322 (.mv (.t 32)), o 323 (.bin .neq (.t 322) (ci 0)), o 324 (.mv (.t 323)), ⟨some 325, .mv (.t 34), some (324, false)⟩,
 ⟨some 326, .bin .neq (.t 325) (ci 0), some (324, false)⟩, o 327 (.pick (.t 324) (cb true) (.t 326)), o 328 (.mv (.t 327)), ⟨some 329, .mv (.t 31), some (328, false)⟩,
 ⟨some 330, .not (.t 329), some (328, false)⟩, o 331 (.pick (.t 328) (cb true) (.t 330)), o 332 (.mv (.t 331)), ⟨some 333, .mv (.t 33), some (332, false)⟩,
 ⟨some 334, .len 1 (.t 333), some (332, false)⟩, ⟨some 335, .mv (.t 7), some (332, false)⟩, ⟨some 336, .bin .neq (.t 334) (.t 335), some (332, false)⟩,
 o 337 (.pick (.t 332) (cb true) (.t 336))] [1, 3, 5, 7, 8, 10, 27, 29, 30, 33, 285, 286, 287, 337])
 (.cond (.t 337)
 (.seq (.ops [o 6 (.mv (cb false))] [6])
 (.ret))
 (.skip)))
 (.seq (.seq (.ops [o 338 (.mv (.t 33)), o 339 (.len 1 (.t 338)), o 340 (.mv (ci 0))] [1, 3, 5, 7, 8, 10, 27, 29, 30, 33, 285, 286, 287, 338, 339, 340])
 (.block 8 (.loop false [1, 3, 5, 7, 8, 10, 27, 29, 30, 33, 285, 286, 287, 338, 339, 340] c8L3)))
 (.seq (.seq (.ops [o 349 (.mv (.t 30)), o 350 (.len 1 (.t 349)), o 351 (.mv (ci 0))] [1, 3, 5, 7, 8, 10, 27, 29, 30, 33, 285, 286, 287, 350, 351])
 (.block 10 (.loop false [1, 3, 5, 7, 8, 10, 27, 29, 30, 33, 285, 286, 287, 350, 351] c8L4)))
 (.seq (.ops [o 405 (.mv (.t 29)), o 406 (.bin .add (.t 405) (ci 1)), o 407 (.mv (.t 27)), o 408 (.len 1 (.t 407)),
 o 409 (.bin .lss (.t 406) (.t 408))] [1, 3, 5, 7, 8, 10, 27, 29, 30, 33, 285, 286, 287, 409])
 (.cond (.t 409)
 (.seq (.opsd [(0, 1), (1, 1), (2, 1), (3, 1), (4, 1), (5, 1), (6, 1), (7, 1), (8, 1), (9, 1), (10, 0), (11, 1), (12, 1), (13, 1), (14, 1), (15, 1)] [o 411 (.ld true 5 (.t 3)),
 o 412 (.mv (.t 30)), o 413 (.call true false 0 (.fn 52) [.t 412]), o 414 (.call true false 0 (.fn 14) [.t 413]), o 415 (.fadr 0 (.t 5)), o 416 (.ld false 1 (.t 415)),
 o 417 (.call true false 0 (.fn 32) [.t 416]), o 418 (.mv (.t 33)), o 419 (.call true false 0 (.fn 33) [.t 418]), o 420 (.mv (.t 10)),
 o 421 (.call true false 0 (.fn 44) [.t 411, .t 414, .t 417, .t 419, .t 420]), o 410 (.mv (.t 421)), o 422 (.ext (.t 410) 0), o 423 (.ext (.t 410) 1),
 o 38 (.mv (.t 422)), o 39 (.mv (.t 423))] [1, 3, 5, 7, 8, 10, 27, 29, 38, 39, 285, 286, 287])
 (.seq (.opsd [(0, 1), (1, 1), (2, 1), (3, 1), (4, 1), (5, 1), (6, 1), (7, 1), (8, 1), (9, 1), (10, 0), (11, 0), (12, 1), (13, 1)] [o 424 (.mv (.t 39)),
 o 425 (.bin .neq (.t 424) (ci 0)), o 426 (.mv (.t 425)), ⟨some 427, .mv (.t 38), some (426, false)⟩, ⟨some 428, .call true false 0 (.fn 52) [.t 427], some (426, false)⟩,
 ⟨some 429, .mv (.t 27), some (426, false)⟩, ⟨some 430, .mv (.t 29), some (426, false)⟩, ⟨some 431, .bin .add (.t 430) (ci 1), some (426, false)⟩,
 ⟨some 432, .iadr 1 (.t 429) (.t 431), some (426, false)⟩, ⟨some 433, .ld false 1 (.t 432), some (426, false)⟩,
 ⟨some 434, .call true false 0 (.fn 52) [.t 433], some (426, false)⟩, ⟨some 435, .call true true 0 (.fn 51) [.t 428, .t 434], some (426, false)⟩,
 ⟨some 436, .not (.t 435), some (426, false)⟩, o 437 (.pick (.t 426) (cb true) (.t 436))] [1, 3, 5, 7, 8, 10, 27, 285, 286, 287, 437])
 (.cond (.t 437)
 (.seq (.ops [o 6 (.mv (cb false))] [6])
 (.ret))
 (.skip))))
 (.skip)))))))))))
 (.ops [o 438 (.bin .add (.t 287) (ci 1)), o 287 (.mv (.t 438))] [1, 3, 5, 7, 8, 10, 27, 285, 286, 287])))
def c8 : AFunc := ⟨440, [.tmp 6],
 .seq (.ops [o 3 (.box true (.t 0)), o 5 (.box false (.t 2)), o 6 (.mv (cb false))] [1, 3, 5])
 (.seq (.seq (.ops [o 40 (.ld true 5 (.t 3)), o 41 (.call true true 0 (.fn 21) [.t 40]), o 42 (.bin .neq (.t 41) (ci 0)), o 43 (.mv (.t 42)),
 ⟨some 44, .mv (.t 1), some (43, false)⟩, ⟨some 45, .call true true 0 (.fn 19) [.t 44], some (43, false)⟩, ⟨some 46, .bin .neq (.t 45) (ci 0), some (43, false)⟩,
 o 47 (.pick (.t 43) (cb true) (.t 46)), o 48 (.mv (.t 47)), ⟨some 49, .fadr 0 (.t 5), some (48, false)⟩, ⟨some 50, .ld false 1 (.t 49), some (48, false)⟩,
 ⟨some 51, .len 1 (.t 50), some (48, false)⟩, ⟨some 52, .bin .gtr (.t 51) (ci 16), some (48, false)⟩, o 53 (.pick (.t 48) (cb true) (.t 52)), o 54 (.mv (.t 53)),
 ⟨some 55, .fadr 0 (.t 5), some (54, false)⟩, ⟨some 56, .ld false 1 (.t 55), some (54, false)⟩, ⟨some 57, .call true true 0 (.fn 37) [.t 56], some (54, false)⟩,
 ⟨some 58, .bin .neq (.t 57) (ci 0), some (54, false)⟩, o 59 (.pick (.t 54) (cb true) (.t 58))] [1, 3, 5, 59])
 (.cond (.t 59)
 (.seq (.ops [o 60 (.call true true 0 (.fn 12) []), o 6 (.mv (.t 60))] [6])
 (.ret))
 (.skip)))
 (.seq (.ops [o 61 (.fadr 0 (.t 5)), o 62 (.ld false 1 (.t 61)), o 63 (.len 1 (.t 62)), o 7 (.mv (.t 63))] [1, 3, 5, 7])
 (.seq (.opsd [(0, 1), (1, 1), (2, 1), (3, 1), (4, 1), (5, 1), (6, 1), (7, 1), (8, 1), (9, 1), (10, 1), (11, 1), (12, 1), (13, 1), (14, 1), (15, 1), (16, 1)] [o 64 (.fadr 0 (.t 3)),
 o 65 (.fadr 0 (.t 64)), o 66 (.ld false 1 (.t 65)), o 67 (.fadr 1 (.t 5)), o 68 (.ld false 1 (.t 67)), o 69 (.conv (.int .i64) (.t 68)), o 70 (.fadr 0 (.t 3)),
 o 71 (.fadr 1 (.t 70)), o 72 (.ld false 1 (.t 71)), o 73 (.fadr 0 (.t 3)), o 74 (.fadr 0 (.t 73)), o 75 (.ld false 1 (.t 74)), o 76 (.bin .sub (.t 72) (.t 75)),
 o 77 (.bin .add (.t 76) (ci 1)), o 78 (.bin .rem (.t 69) (.t 77)), o 79 (.bin .add (.t 66) (.t 78)), o 8 (.mv (.t 79))] [1, 3, 5, 7, 8])
 (.seq (.opsd [(0, 1), (1, 1), (2, 1), (3, 1), (4, 1), (5, 1), (6, 1), (7, 1), (8, 1), (9, 1), (10, 1)] [o 80 (.fadr 2 (.t 5)), o 81 (.ld false 1 (.t 80)),
 o 82 (.conv (.int .i64) (.t 81)), o 83 (.bin .rem (.t 82) (ci 5)), o 84 (.fadr 3 (.t 5)), o 85 (.ld false 1 (.t 84)), o 86 (.conv (.int .i64) (.t 85)),
 o 87 (.bin .rem (.t 86) (ci 100)), o 88 (.bin .add (ci 1) (.t 87)), o 9 (.mv (.t 83)), o 10 (.mv (.t 88))] [1, 3, 5, 7, 8, 9, 10])
 (.seq (.opsd [(0, 1), (1, 1), (2, 1), (3, 1), (4, 1), (5, 0), (6, 1), (7, 1), (8, 1), (9, 1), (10, 1)] [o 90 (.ld true 5 (.t 3)), o 91 (.mv (.t 1)),
 o 92 (.call true false 0 (.fn 14) [.t 91]), o 93 (.mv (.t 8)), o 94 (.mv (.t 7)), o 95 (.call true false 0 (.fn 15) [.t 90, .t 92, .t 93, .t 94]), o 89 (.mv (.t 95)),
 o 96 (.ext (.t 89) 0), o 97 (.ext (.t 89) 1), o 11 (.mv (.t 96)), o 12 (.mv (.t 97))] [1, 3, 5, 7, 8, 9, 10, 11, 12])
 (.seq (.opsd [(0, 1), (1, 1), (2, 1), (3, 1), (4, 0), (5, 1), (6, 1), (7, 1), (8, 1), (9, 1)] [o 99 (.ld true 5 (.t 3)), o 100 (.mv (.t 1)),
 o 101 (.call true false 0 (.fn 14) [.t 100]), o 102 (.mv (.t 7)), o 103 (.call true false 0 (.fn 16) [.t 99, .t 101, .t 102]), o 98 (.mv (.t 103)), o 104 (.ext (.t 98) 0),
 o 105 (.ext (.t 98) 1), o 13 (.mv (.t 104)), o 14 (.mv (.t 105))] [1, 3, 5, 7, 8, 9, 10, 11, 12, 13, 14])
 (.seq (.opsd [(0, 1), (1, 1), (2, 1), (3, 1), (4, 0), (5, 1), (6, 1), (7, 1), (8, 1), (9, 1)] [o 107 (.ld true 5 (.t 3)), o 108 (.mv (.t 1)),
 o 109 (.call true false 0 (.fn 14) [.t 108]), o 110 (.mv (.t 7)), o 111 (.call true true 0 (.fn 17) [.t 107, .t 109, .t 110]), o 106 (.mv (.t 111)), o 112 (.ext (.t 106) 0),
 o 113 (.ext (.t 106) 1), o 15 (.mv (.t 112)), o 16 (.mv (.t 113))] [1, 3, 5, 7, 8, 9, 10, 11, 12, 13, 14, 15, 16])
 (.seq (.seq (.ops [o 114 (.mv (.t 12)), o 115 (.bin .neq (.t 114) (ci 0)), o 116 (.mv (.t 115)), ⟨some 117, .mv (.t 14), some (116, false)⟩,
 ⟨some 118, .bin .neq (.t 117) (ci 0), some (116, false)⟩, o 119 (.pick (.t 116) (cb true) (.t 118)), o 120 (.mv (.t 119)), ⟨some 121, .mv (.t 16), some (120, false)⟩,
 ⟨some 122, .bin .neq (.t 121) (ci 0), some (120, false)⟩, o 123 (.pick (.t 120) (cb true) (.t 122)), o 124 (.mv (.t 123)), ⟨some 125, .mv (.t 11), some (124, false)⟩,
 ⟨some 126, .len 1 (.t 125), some (124, false)⟩, ⟨some 127, .mv (.t 7), some (124, false)⟩, ⟨some 128, .bin .neq (.t 126) (.t 127), some (124, false)⟩,
 o 129 (.pick (.t 124) (cb true) (.t 128)), o 130 (.mv (.t 129)), ⟨some 131, .mv (.t 13), some (130, false)⟩, ⟨some 132, .len 1 (.t 131), some (130, false)⟩,
 ⟨some 133, .mv (.t 7), some (130, false)⟩, ⟨some 134, .bin .neq (.t 132) (.t 133), some (130, false)⟩,
 o 135 (.pick (.t 130) (cb true) (.t 134))] [1, 3, 5, 7, 8, 9, 10, 11, 13, 15, 135])
 (.cond (.t 135)
 (.seq (.ops [o 6 (.mv (cb false))] [6])
 (.ret))
 (.skip)))
 (.seq (.ops [o 17 (.mv (ci 0)), o 18 (.mv (cb true))] [1, 3, 5, 7, 8, 9, 10, 11, 13, 15, 17, 18])
 (.seq (.seq (.ops [o 136 (.mv (.t 11)), o 137 (.len 1 (.t 136)), o 138 (.mv (ci 0))] [1, 3, 5, 7, 8, 9, 10, 11, 13, 15, 17, 18, 136, 137, 138])
 (.block 0 (.loop false [1, 3, 5, 7, 8, 9, 10, 11, 13, 15, 17, 18, 136, 137, 138] c8L0)))
 (.seq (.seq (.ops [o 183 (.mv (.t 15)), o 184 (.mv (.t 18)), o 185 (.eqb true (.t 183) (.t 184))] [1, 3, 5, 7, 8, 9, 10, 11, 15, 185])
 (.cond (.t 185)
 (.seq (.ops [o 6 (.mv (cb false))] [6])
 (.ret))
 (.skip)))
 (.seq (.ops [o 186 (.bslice true 2 [.p (.int .i64 0), .p (.int .i64 0)] 0 []), o 187 (.mv (.t 1)), o 188 (.app 2 16 [.p (.int .i64 0), .p (.int .i64 0)] (.t 186) (.t 187)),
 o 21 (.mv (.t 188))] [1, 3, 5, 7, 8, 9, 10, 11, 15, 21])
 (.seq (.seq (.ops [o 189 (.mv (.t 21)), o 190 (.len 1 (.t 189)), o 191 (.mv (ci 0))] [1, 3, 5, 7, 8, 9, 10, 11, 15, 21, 190, 191])
 (.block 2 (.loop false [1, 3, 5, 7, 8, 9, 10, 11, 15, 21, 190, 191] c8L1)))
 (.seq (.opsd [(0, 1), (1, 1), (2, 1), (3, 1), (4, 1), (5, 0), (6, 1), (7, 1), (8, 1), (9, 1), (10, 1)] [o 211 (.ld true 5 (.t 3)), o 212 (.mv (.t 21)),
 o 213 (.call true false 0 (.fn 14) [.t 212]), o 214 (.mv (.t 8)), o 215 (.mv (.t 7)), o 216 (.call true false 0 (.fn 15) [.t 211, .t 213, .t 214, .t 215]),
 o 210 (.mv (.t 216)), o 217 (.ext (.t 210) 0), o 218 (.ext (.t 210) 1), o 23 (.mv (.t 217)), o 24 (.mv (.t 218))] [1, 3, 5, 7, 8, 9, 10, 11, 15, 23, 24])
 (.seq (.seq (.ops [o 219 (.mv (.t 24)), o 220 (.bin .neq (.t 219) (ci 0)), o 221 (.mv (.t 220)), ⟨some 222, .mv (.t 23), some (221, false)⟩,
 ⟨some 223, .len 1 (.t 222), some (221, false)⟩, ⟨some 224, .mv (.t 7), some (221, false)⟩, ⟨some 225, .bin .neq (.t 223) (.t 224), some (221, false)⟩,
 o 226 (.pick (.t 221) (cb true) (.t 225))] [1, 3, 5, 7, 8, 9, 10, 11, 15, 23, 226])
 (.cond (.t 226)
 (.seq (.ops [o 6 (.mv (cb false))] [6])
 (.ret))
 (.skip)))
 (.seq (.seq (.ops [o 227 (.mv (.t 23)), o 228 (.len 1 (.t 227)), o 229 (.mv (ci 0))] [1, 3, 5, 7, 8, 9, 10, 11, 15, 227, 228, 229])
 (.block 4 (.loop false [1, 3, 5, 7, 8, 9, 10, 11, 15, 227, 228, 229] c8L2)))
 (.seq (.opsd [(0, 1), (1, 1), (2, 1), (3, 1), (4, 1), (5, 1), (6, 1), (7, 1), (8, 1), (9, 1), (10, 0), (11, 1), (12, 1), (13, 1), (14, 1), (15, 1)] [o 242 (.ld true 5 (.t 3)),
 o 243 (.mv (.t 1)), o 244 (.call true false 0 (.fn 14) [.t 243]), o 245 (.fadr 0 (.t 5)), o 246 (.ld false 1 (.t 245)), o 247 (.call true false 0 (.fn 32) [.t 246]),
 o 248 (.mv (.t 8)), o 249 (.mv (.t 9)), o 250 (.mv (.t 10)), o 251 (.build [.p (.int .i64 0), .p (.int .i64 0)] [(0, 1, .t 249), (1, 1, .t 250)]),
 o 252 (.call true false 0 (.fn 45) [.t 242, .t 244, .t 247, .t 248, .t 251]), o 241 (.mv (.t 252)), o 253 (.ext (.t 241) 0), o 254 (.ext (.t 241) 1), o 27 (.mv (.t 253)),
 o 28 (.mv (.t 254))] [1, 3, 5, 7, 8, 9, 10, 15, 27, 28])
 (.seq (.seq (.ops [o 255 (.mv (.t 15)), o 256 (.not (.t 255))] [1, 3, 5, 7, 8, 9, 10, 27, 28, 256])
 (.cond (.t 256)
 (.seq (.ops [o 257 (.mv (.t 28)), o 258 (.bin .eql (.t 257) (ci 21)), o 259 (.mv (.t 258)), ⟨some 260, .mv (.t 27), some (259, true)⟩,
 ⟨some 261, .len 1 (.t 260), some (259, true)⟩, ⟨some 262, .bin .eql (.t 261) (ci 0), some (259, true)⟩, o 263 (.pick (.t 259) (.t 262) (cb false)), o 264 (.mv (.t 263)),
 ⟨some 265, .call true true 0 (.fn 12) [], some (264, true)⟩, o 266 (.pick (.t 264) (.t 265) (cb false)), o 6 (.mv (.t 266))] [6])
 (.ret))
 (.skip)))
 (.seq (.seq (.ops [o 267 (.mv (.t 28)), o 268 (.bin .neq (.t 267) (ci 0)), o 269 (.mv (.t 268)), ⟨some 270, .mv (.t 27), some (269, false)⟩,
 ⟨some 271, .len 1 (.t 270), some (269, false)⟩, ⟨some 272, .mv (.t 9), some (269, false)⟩, ⟨some 273, .bin .add (.t 272) (ci 1), some (269, false)⟩,
 ⟨some 274, .bin .neq (.t 271) (.t 273), some (269, false)⟩, o 275 (.pick (.t 269) (cb true) (.t 274)), o 276 (.mv (.t 275)), ⟨some 277, .mv (.t 27), some (276, false)⟩,
 ⟨some 278, .iadr 1 (.t 277) (ci 0), some (276, false)⟩, ⟨some 279, .ld false 1 (.t 278), some (276, false)⟩,
 ⟨some 280, .call true false 0 (.fn 52) [.t 279], some (276, false)⟩, ⟨some 281, .mv (.t 1), some (276, false)⟩,
 ⟨some 282, .call true true 0 (.fn 51) [.t 280, .t 281], some (276, false)⟩, ⟨some 283, .not (.t 282), some (276, false)⟩,
 o 284 (.pick (.t 276) (cb true) (.t 283))] [1, 3, 5, 7, 8, 10, 27, 284])
 (.cond (.t 284)
 (.seq (.ops [o 6 (.mv (cb false))] [6])
 (.ret))
 (.skip)))
 (.seq (.seq (.ops [o 285 (.mv (.t 27)), o 286 (.len 1 (.t 285)), o 287 (.mv (ci 0))] [1, 3, 5, 7, 8, 10, 27, 285, 286, 287])
 (.block 6 (.loop false [1, 3, 5, 7, 8, 10, 27, 285, 286, 287] c8L5)))
 (.seq (.ops [o 439 (.call true true 0 (.fn 12) []), o 6 (.mv (.t 439))] [6])
 (.ret))))))))))))))))))))))⟩

/-- crumple/crumplelaw08.PulseApart -/
def c9L0 : ACode :=
 .seq (.ops [o 116 (.bin .lss (.t 115) (.t 114))] [0, 1, 5, 107, 108, 109, 113, 114, 115, 116])
 (.seq (.cond (.t 116)
 (.skip)
 (.exit 2))
 (.seq (.block 3 (.seq (.ops [o 117 (.iadr 1 (.t 113) (.t 115)), o 118 (.ld false 1 (.t 117)), o 10 (.mv (.t 118))] [0, 1, 5, 10, 107, 108, 109, 113, 114, 115])
 (.seq (.ops [o 119 (.mv (.t 10)), o 120 (.bin .lss (.t 119) (ci (-40000))), o 121 (.mv (.t 120)), ⟨some 122, .mv (.t 10), some (121, false)⟩,
 ⟨some 123, .bin .gtr (.t 122) (ci 40000), some (121, false)⟩, o 124 (.pick (.t 121) (cb true) (.t 123))] [0, 1, 5, 107, 108, 109, 113, 114, 115, 124])
 (.cond (.t 124)
 (.seq (.ops [o 125 (.call true true 0 (.fn 12) []), o 6 (.mv (.t 125))] [6])
 (.ret))
 (.skip)))))
 (.ops [o 126 (.bin .add (.t 115) (ci 1)), o 115 (.mv (.t 126))] [0, 1, 5, 107, 108, 109, 113, 114, 115])))
def c9L1 : ACode :=
 .seq (.ops [o 110 (.bin .lss (.t 109) (.t 108))] [0, 1, 5, 107, 108, 109, 110])
 (.seq (.cond (.t 110)
 (.skip)
 (.exit 0))
 (.seq (.block 1 (.seq (.ops [o 111 (.iadr 1 (.t 107) (.t 109)), o 112 (.ld false 1 (.t 111)), o 8 (.mv (.t 112))] [0, 1, 5, 8, 107, 108, 109])
 (.seq (.ops [o 113 (.mv (.t 8)), o 114 (.len 1 (.t 113)), o 115 (.mv (ci 0))] [0, 1, 5, 107, 108, 109, 113, 114, 115])
 (.block 2 (.loop false [0, 1, 5, 107, 108, 109, 113, 114, 115] c9L0)))))
 (.ops [o 127 (.bin .add (.t 109) (ci 1)), o 109 (.mv (.t 127))] [0, 1, 5, 107, 108, 109])))
def c9L2 : ACode :=
 .seq (.ops [o 185 (.bin .lss (.t 184) (.t 183))] [0, 1, 5, 11, 12, 15, 16, 18, 19, 20, 183, 184, 185])
 (.seq (.cond (.t 185)
 (.skip)
 (.exit 4))
 (.seq (.block 5 (.seq (.ops [o 186 (.mv (.t 184)), o 21 (.mv (.t 186))] [0, 1, 5, 11, 12, 15, 16, 18, 19, 20, 21, 183, 184])
 (.seq (.opsd [(0, 1), (1, 1), (2, 1), (3, 1), (4, 1), (5, 1), (6, 1), (7, 1), (8, 1), (9, 1), (10, 1), (11, 1), (12, 1), (13, 1), (14, 1), (15, 1), (16, 1), (17, 1), (18, 1), (19, 1), (20, 1), (21, 1)] [o 187 (.mv (.t 1)),
 o 188 (.mv (.t 21)), o 189 (.iadr 2 (.t 187) (.t 188)), o 190 (.fadr 0 (.t 189)), o 191 (.ld false 1 (.t 190)), o 192 (.mv (.t 11)), o 193 (.mv (.t 21)),
 o 194 (.iadr 1 (.t 192) (.t 193)), o 195 (.ld false 1 (.t 194)), o 196 (.bin .sub (.t 191) (.t 195)), o 197 (.mv (.t 11)), o 198 (.mv (.t 21)),
 o 199 (.iadr 1 (.t 197) (.t 198)), o 200 (.ld false 1 (.t 199)), o 201 (.mv (.t 1)), o 202 (.mv (.t 21)), o 203 (.iadr 2 (.t 201) (.t 202)), o 204 (.fadr 1 (.t 203)),
 o 205 (.ld false 1 (.t 204)), o 206 (.bin .sub (.t 200) (.t 205)), o 207 (.max [ci 0, .t 196, .t 206]),
 o 22 (.mv (.t 207))] [0, 1, 5, 11, 12, 15, 16, 18, 19, 20, 21, 22, 183, 184])
 (.seq (.ops [o 208 (.mv (.t 18)), o 209 (.mv (.t 208)), ⟨some 210, .mv (.t 22), some (209, true)⟩, ⟨some 211, .mv (.t 15), some (209, true)⟩,
 ⟨some 212, .bin .leq (.t 210) (.t 211), some (209, true)⟩, o 213 (.pick (.t 209) (.t 212) (cb false)), o 214 (.mv (.t 213)), ⟨some 215, .mv (.t 22), some (214, true)⟩,
 ⟨some 216, .mv (.t 15), some (214, true)⟩, ⟨some 217, .bin .lss (.t 215) (.t 216), some (214, true)⟩, ⟨some 218, .mv (.t 217), some (214, true)⟩,
 ⟨some 219, .mv (.t 15), some (218, false)⟩, ⟨some 220, .bin .eql (.t 219) (ci 0), some (218, false)⟩, ⟨some 221, .pick (.t 218) (cb true) (.t 220), some (214, true)⟩,
 ⟨some 222, .mv (.t 221), some (214, true)⟩, ⟨some 223, .mv (.t 21), some (222, false)⟩, ⟨some 224, .mv (.t 16), some (222, false)⟩,
 ⟨some 225, .bin .geq (.t 223) (.t 224), some (222, false)⟩, ⟨some 226, .pick (.t 222) (cb true) (.t 225), some (214, true)⟩, o 227 (.pick (.t 214) (.t 226) (cb false)),
 o 18 (.mv (.t 227))] [0, 1, 5, 11, 12, 15, 16, 18, 19, 20, 21, 183, 184])
 (.seq (.opsd [(0, 1), (1, 1), (2, 1), (3, 1), (4, 1), (5, 1), (6, 1), (7, 1), (8, 1), (9, 1), (10, 1), (11, 1), (12, 1), (13, 1), (14, 1), (15, 1), (16, 1), (17, 1), (18, 1), (19, 1), (20, 1), (21, 1), (22, 1), (23, 1), (24, 0), (25, 1), (26, 0)] [o 228 (.mv (.t 19)),
 o 229 (.mv (.t 21)), o 230 (.mv (.t 19)), o 231 (.mv (.t 21)), o 232 (.iadr 2 (.t 230) (.t 231)), o 233 (.fadr 0 (.t 232)), o 234 (.ld false 1 (.t 233)),
 o 235 (.mv (.t 11)), o 236 (.mv (.t 21)), o 237 (.iadr 1 (.t 235) (.t 236)), o 238 (.ld false 1 (.t 237)), o 239 (.max [ci 0, .t 238]), o 240 (.min [.t 234, .t 239]),
 o 241 (.mv (.t 19)), o 242 (.mv (.t 21)), o 243 (.iadr 2 (.t 241) (.t 242)), o 244 (.fadr 1 (.t 243)), o 245 (.ld false 1 (.t 244)), o 246 (.mv (.t 11)),
 o 247 (.mv (.t 21)), o 248 (.iadr 1 (.t 246) (.t 247)), o 249 (.ld false 1 (.t 248)), o 250 (.min [ci 10000, .t 249]), o 251 (.max [.t 245, .t 250]),
 o 252 (.call true true 0 (.fn 73) [.t 240, .t 251]), o 253 (.iadr 2 (.t 228) (.t 229)), u (.st 2 (.t 253) (.t 252))] [0, 1, 5, 11, 12, 15, 16, 18, 19, 20, 21, 183, 184])
 (.opsd [(0, 1), (1, 1), (2, 1), (3, 1), (4, 1), (5, 1), (6, 1), (7, 1), (8, 1), (9, 1), (10, 0), (11, 0), (12, 1)] [o 254 (.mv (.t 20)), o 255 (.mv (.t 11)),
 o 256 (.mv (.t 21)), o 257 (.iadr 1 (.t 255) (.t 256)), o 258 (.ld false 1 (.t 257)), o 259 (.mv (.t 12)), o 260 (.mv (.t 21)), o 261 (.iadr 1 (.t 259) (.t 260)),
 o 262 (.ld false 1 (.t 261)), o 263 (.bin .add (.t 258) (.t 262)), o 264 (.bslice false 1 [.p (.int .i64 0)] 1 [(0, .t 263)]),
 o 265 (.app 1 8 [.p (.int .i64 0)] (.t 254) (.t 264)), o 20 (.mv (.t 265))] [0, 1, 5, 11, 12, 15, 16, 18, 19, 20, 183, 184]))))))
 (.ops [o 266 (.bin .add (.t 184) (ci 1)), o 184 (.mv (.t 266))] [0, 1, 5, 11, 12, 15, 16, 18, 19, 20, 183, 184])))
def c9L3 : ACode :=
 .seq (.ops [o 270 (.bin .lss (.t 269) (.t 268))] [0, 5, 11, 12, 18, 19, 20, 23, 267, 268, 269, 270])
 (.seq (.cond (.t 270)
 (.skip)
 (.exit 6))
 (.seq (.block 7 (.seq (.ops [o 271 (.iadr 1 (.t 267) (.t 269)), o 272 (.ld false 1 (.t 271)), o 25 (.mv (.t 272))] [0, 5, 11, 12, 18, 19, 20, 23, 25, 267, 268, 269])
 (.ops [o 273 (.mv (.t 23)), o 274 (.mv (.t 273)), ⟨some 275, .mv (.t 25), some (274, true)⟩, ⟨some 276, .bin .geq (.t 275) (ci 0), some (274, true)⟩,
 o 277 (.pick (.t 274) (.t 276) (cb false)), o 278 (.mv (.t 277)), ⟨some 279, .mv (.t 25), some (278, true)⟩, ⟨some 280, .bin .leq (.t 279) (ci 10000), some (278, true)⟩,
 o 281 (.pick (.t 278) (.t 280) (cb false)), o 23 (.mv (.t 281))] [0, 5, 11, 12, 18, 19, 20, 23, 267, 268, 269])))
 (.ops [o 282 (.bin .add (.t 269) (ci 1)), o 269 (.mv (.t 282))] [0, 5, 11, 12, 18, 19, 20, 23, 267, 268, 269])))
def c9L4 : ACode :=
 .seq (.ops [o 373 (.bin .lss (.t 372) (.t 371))] [0, 5, 11, 28, 30, 32, 34, 36, 371, 372, 373])
 (.seq (.cond (.t 373)
 (.skip)
 (.exit 8))
 (.seq (.block 9 (.seq (.ops [o 374 (.mv (.t 372)), o 37 (.mv (.t 374))] [0, 5, 11, 28, 30, 32, 34, 36, 37, 371, 372])
 (.seq (.ops [o 375 (.mv (.t 36)), o 376 (.mv (.t 28)), o 377 (.mv (.t 37)), o 378 (.iadr 1 (.t 376) (.t 377)), o 379 (.ld false 1 (.t 378)),
 o 380 (.bin .add (.t 375) (.t 379)), o 36 (.mv (.t 380))] [0, 5, 11, 28, 30, 32, 34, 36, 37, 371, 372])
 (.seq (.opsd [(0, 1), (1, 1), (2, 1), (3, 1), (4, 1), (5, 1), (6, 1), (7, 1), (8, 1), (9, 1), (10, 1), (11, 1), (12, 1), (13, 1), (14, 1), (15, 1), (16, 1), (17, 1), (18, 1), (19, 1), (20, 1), (21, 1)] [o 381 (.mv (.t 32)),
 o 382 (.mv (.t 37)), o 383 (.iadr 1 (.t 381) (.t 382)), o 384 (.ld false 1 (.t 383)), o 385 (.mv (.t 28)), o 386 (.mv (.t 37)), o 387 (.iadr 1 (.t 385) (.t 386)),
 o 388 (.ld false 1 (.t 387)), o 389 (.mv (.t 30)), o 390 (.mv (.t 37)), o 391 (.iadr 1 (.t 389) (.t 390)), o 392 (.ld false 1 (.t 391)),
 o 393 (.bin .add (.t 388) (.t 392)), o 394 (.bin .neq (.t 384) (.t 393)), o 395 (.mv (.t 394)), ⟨some 396, .mv (.t 34), some (395, false)⟩,
 ⟨some 397, .mv (.t 37), some (395, false)⟩, ⟨some 398, .iadr 1 (.t 396) (.t 397), some (395, false)⟩, ⟨some 399, .ld false 1 (.t 398), some (395, false)⟩,
 ⟨some 400, .mv (.t 36), some (395, false)⟩, ⟨some 401, .bin .neq (.t 399) (.t 400), some (395, false)⟩,
 o 402 (.pick (.t 395) (cb true) (.t 401))] [0, 5, 11, 28, 30, 32, 34, 36, 371, 372, 402])
 (.cond (.t 402)
 (.seq (.ops [o 6 (.mv (cb false))] [6])
 (.ret))
 (.skip))))))
 (.ops [o 403 (.bin .add (.t 372) (ci 1)), o 372 (.mv (.t 403))] [0, 5, 11, 28, 30, 32, 34, 36, 371, 372])))
def c9L5 : ACode :=
 .seq (.ops [o 483 (.bin .lss (.t 482) (.t 481))] [0, 5, 11, 41, 45, 46, 47, 466, 467, 468, 480, 481, 482, 483])
 (.seq (.cond (.t 483)
 (.skip)
 (.exit 12))
 (.seq (.block 13 (.seq (.ops [o 484 (.iadr 1 (.t 480) (.t 482)), o 485 (.ld false 1 (.t 484)),
 o 49 (.mv (.t 485))] [0, 5, 11, 41, 45, 46, 47, 49, 466, 467, 468, 480, 481, 482])
 (.seq (.opsd [(0, 1), (1, 1), (2, 1), (3, 1), (4, 1), (5, 1), (6, 1), (7, 1), (8, 1), (9, 1), (10, 1), (11, 1), (12, 1), (13, 1), (14, 1), (15, 1)] [o 486 (.mv (.t 49)),
 o 487 (.mv (.t 46)), o 488 (.iadr 1 (.t 486) (.t 487)), o 489 (.ld false 1 (.t 488)), o 490 (.fadr 0 (.t 47)), o 491 (.ld false 1 (.t 490)),
 o 492 (.bin .lss (.t 489) (.t 491)), o 493 (.mv (.t 492)), ⟨some 494, .mv (.t 49), some (493, false)⟩, ⟨some 495, .mv (.t 46), some (493, false)⟩,
 ⟨some 496, .iadr 1 (.t 494) (.t 495), some (493, false)⟩, ⟨some 497, .ld false 1 (.t 496), some (493, false)⟩, ⟨some 498, .fadr 1 (.t 47), some (493, false)⟩,
 ⟨some 499, .ld false 1 (.t 498), some (493, false)⟩, ⟨some 500, .bin .gtr (.t 497) (.t 499), some (493, false)⟩,
 o 501 (.pick (.t 493) (cb true) (.t 500))] [0, 5, 11, 41, 45, 46, 47, 466, 467, 468, 480, 481, 482, 501])
 (.cond (.t 501)
 (.seq (.ops [o 6 (.mv (cb false))] [6])
 (.ret))
 (.skip)))))
 (.ops [o 502 (.bin .add (.t 482) (ci 1)), o 482 (.mv (.t 502))] [0, 5, 11, 41, 45, 46, 47, 466, 467, 468, 480, 481, 482])))
def c9L6 : ACode :=
 .seq (.ops [o 469 (.bin .lss (.t 468) (.t 467))] [0, 5, 11, 41, 45, 466, 467, 468, 469])
 (.seq (.cond (.t 469)
 (.skip)
 (.exit 10))
 (.seq (.block 11 (.seq (.ops [o 470 (.mv (.t 468)), o 471 (.iadr 2 (.t 466) (.t 468)), o 472 (.ld true 2 (.t 471)),
 o 47 (.alloc true 1 [.p (.int .i64 0), .p (.int .i64 0)]), o 46 (.mv (.t 470)), u (.st 2 (.t 47) (.t 472))] [0, 5, 11, 41, 45, 46, 47, 466, 467, 468])
 (.seq (.ops [o 473 (.mv (.t 45)), o 474 (.fadr 1 (.t 47)), o 475 (.ld false 1 (.t 474)), o 476 (.fadr 0 (.t 47)), o 477 (.ld false 1 (.t 476)),
 o 478 (.bin .sub (.t 475) (.t 477)), o 479 (.max [.t 473, .t 478]), o 45 (.mv (.t 479))] [0, 5, 11, 41, 45, 46, 47, 466, 467, 468])
 (.seq (.seq (.ops [o 480 (.mv (.t 0)), o 481 (.len 1 (.t 480)), o 482 (.mv (ci 0))] [0, 5, 11, 41, 45, 46, 47, 466, 467, 468, 480, 481, 482])
 (.block 12 (.loop false [0, 5, 11, 41, 45, 46, 47, 466, 467, 468, 480, 481, 482] c9L5)))
 (.seq (.opsd [(0, 1), (1, 1), (2, 1), (3, 1), (4, 1), (5, 1), (6, 1), (7, 1), (8, 1), (9, 1), (10, 1), (11, 1), (12, 1), (13, 1), (14, 1), (15, 1)] [o 503 (.mv (.t 41)),
 o 504 (.mv (.t 46)), o 505 (.iadr 1 (.t 503) (.t 504)), o 506 (.ld false 1 (.t 505)), o 507 (.fadr 0 (.t 47)), o 508 (.ld false 1 (.t 507)),
 o 509 (.bin .lss (.t 506) (.t 508)), o 510 (.mv (.t 509)), ⟨some 511, .mv (.t 41), some (510, false)⟩, ⟨some 512, .mv (.t 46), some (510, false)⟩,
 ⟨some 513, .iadr 1 (.t 511) (.t 512), some (510, false)⟩, ⟨some 514, .ld false 1 (.t 513), some (510, false)⟩, ⟨some 515, .fadr 1 (.t 47), some (510, false)⟩,
 ⟨some 516, .ld false 1 (.t 515), some (510, false)⟩, ⟨some 517, .bin .gtr (.t 514) (.t 516), some (510, false)⟩,
 o 518 (.pick (.t 510) (cb true) (.t 517))] [0, 5, 11, 41, 45, 466, 467, 468, 518])
 (.cond (.t 518)
 (.seq (.ops [o 6 (.mv (cb false))] [6])
 (.ret))
 (.skip)))))))
 (.ops [o 519 (.bin .add (.t 468) (ci 1)), o 468 (.mv (.t 519))] [0, 5, 11, 41, 45, 466, 467, 468])))
def c9L7 : ACode :=
 .seq (.ops [o 579 (.bin .lss (.t 578) (.t 577))] [5, 52, 53, 54, 576, 577, 578, 579])
 (.seq (.cond (.t 579)
 (.skip)
 (.exit 14))
 (.seq (.block 15 (.seq (.ops [o 580 (.mv (.t 578)), o 581 (.iadr 1 (.t 576) (.t 578)), o 582 (.ld false 1 (.t 581)), o 56 (.mv (.t 580)),
 o 57 (.mv (.t 582))] [5, 52, 53, 54, 56, 57, 576, 577, 578])
 (.seq (.opsd [(0, 1), (1, 1), (2, 1), (3, 1), (4, 1), (5, 1), (6, 1), (7, 1), (8, 1), (9, 1), (10, 1), (11, 1), (12, 1), (13, 1), (14, 1), (15, 1), (16, 1), (17, 1), (18, 1), (19, 1), (20, 1), (21, 1), (22, 1), (23, 1), (24, 1), (25, 1), (26, 1), (27, 1), (28, 1), (29, 1), (30, 1), (31, 1), (32, 1), (33, 1), (34, 1), (35, 1), (36, 1), (37, 1), (38, 1), (39, 1), (40, 1), (41, 1), (42, 1), (43, 1), (44, 1), (45, 1), (46, 1), (47, 1), (48, 1), (49, 1), (50, 1), (51, 1), (52, 1), (53, 1), (54, 1), (55, 1), (56, 1), (57, 1), (58, 1), (59, 1), (60, 1), (61, 1), (62, 1), (63, 1), (64, 1), (65, 1), (66, 1), (67, 1), (68, 1), (69, 1), (70, 1), (71, 1), (72, 1), (73, 1)] [o 583 (.fadr 0 (.t 52)),
 o 584 (.ld false 1 (.t 583)), o 585 (.mv (.t 53)), o 586 (.mv (.t 56)), o 587 (.iadr 2 (.t 585) (.t 586)), o 588 (.fadr 0 (.t 587)), o 589 (.ld false 1 (.t 588)),
 o 590 (.bin .mul (.t 584) (.t 589)), o 591 (.fadr 1 (.t 52)), o 592 (.ld false 1 (.t 591)), o 593 (.mv (.t 54)), o 594 (.mv (.t 56)), o 595 (.iadr 2 (.t 593) (.t 594)),
 o 596 (.fadr 0 (.t 595)), o 597 (.ld false 1 (.t 596)), o 598 (.bin .mul (.t 592) (.t 597)), o 599 (.bin .add (.t 590) (.t 598)), o 600 (.mv (.t 57)),
 o 601 (.fadr 2 (.t 52)), o 602 (.ld false 1 (.t 601)), o 603 (.bin .mul (.t 600) (.t 602)), o 604 (.bin .gtr (.t 599) (.t 603)), o 605 (.mv (.t 604)),
 ⟨some 606, .fadr 0 (.t 52), some (605, false)⟩, ⟨some 607, .ld false 1 (.t 606), some (605, false)⟩, ⟨some 608, .mv (.t 53), some (605, false)⟩,
 ⟨some 609, .mv (.t 56), some (605, false)⟩, ⟨some 610, .iadr 2 (.t 608) (.t 609), some (605, false)⟩, ⟨some 611, .fadr 1 (.t 610), some (605, false)⟩,
 ⟨some 612, .ld false 1 (.t 611), some (605, false)⟩, ⟨some 613, .bin .mul (.t 607) (.t 612), some (605, false)⟩, ⟨some 614, .fadr 1 (.t 52), some (605, false)⟩,
 ⟨some 615, .ld false 1 (.t 614), some (605, false)⟩, ⟨some 616, .mv (.t 54), some (605, false)⟩, ⟨some 617, .mv (.t 56), some (605, false)⟩,
 ⟨some 618, .iadr 2 (.t 616) (.t 617), some (605, false)⟩, ⟨some 619, .fadr 1 (.t 618), some (605, false)⟩, ⟨some 620, .ld false 1 (.t 619), some (605, false)⟩,
 ⟨some 621, .bin .mul (.t 615) (.t 620), some (605, false)⟩, ⟨some 622, .bin .add (.t 613) (.t 621), some (605, false)⟩, ⟨some 623, .mv (.t 57), some (605, false)⟩,
 ⟨some 624, .fadr 2 (.t 52), some (605, false)⟩, ⟨some 625, .ld false 1 (.t 624), some (605, false)⟩, ⟨some 626, .bin .mul (.t 623) (.t 625), some (605, false)⟩,
 ⟨some 627, .bin .lss (.t 622) (.t 626), some (605, false)⟩, o 628 (.pick (.t 605) (cb true) (.t 627)), o 629 (.mv (.t 628)), ⟨some 630, .mv (.t 53), some (629, false)⟩,
 ⟨some 631, .mv (.t 56), some (629, false)⟩, ⟨some 632, .iadr 2 (.t 630) (.t 631), some (629, false)⟩, ⟨some 633, .fadr 1 (.t 632), some (629, false)⟩,
 ⟨some 634, .ld false 1 (.t 633), some (629, false)⟩, ⟨some 635, .mv (.t 53), some (629, false)⟩, ⟨some 636, .mv (.t 56), some (629, false)⟩,
 ⟨some 637, .iadr 2 (.t 635) (.t 636), some (629, false)⟩, ⟨some 638, .fadr 0 (.t 637), some (629, false)⟩, ⟨some 639, .ld false 1 (.t 638), some (629, false)⟩,
 ⟨some 640, .bin .sub (.t 634) (.t 639), some (629, false)⟩, ⟨some 641, .bin .gtr (.t 640) (ci 1), some (629, false)⟩, o 642 (.pick (.t 629) (cb true) (.t 641)),
 o 643 (.mv (.t 642)), ⟨some 644, .mv (.t 54), some (643, false)⟩, ⟨some 645, .mv (.t 56), some (643, false)⟩, ⟨some 646, .iadr 2 (.t 644) (.t 645), some (643, false)⟩,
 ⟨some 647, .fadr 1 (.t 646), some (643, false)⟩, ⟨some 648, .ld false 1 (.t 647), some (643, false)⟩, ⟨some 649, .mv (.t 54), some (643, false)⟩,
 ⟨some 650, .mv (.t 56), some (643, false)⟩, ⟨some 651, .iadr 2 (.t 649) (.t 650), some (643, false)⟩, ⟨some 652, .fadr 0 (.t 651), some (643, false)⟩,
 ⟨some 653, .ld false 1 (.t 652), some (643, false)⟩, ⟨some 654, .bin .sub (.t 648) (.t 653), some (643, false)⟩, ⟨some 655, .bin .gtr (.t 654) (ci 1), some (643, false)⟩,
 o 656 (.pick (.t 643) (cb true) (.t 655))] [5, 52, 53, 54, 576, 577, 578, 656])
 (.cond (.t 656)
 (.seq (.ops [o 6 (.mv (cb false))] [6])
 (.ret))
 (.skip)))))
 (.ops [o 657 (.bin .add (.t 578) (ci 1)), o 578 (.mv (.t 657))] [5, 52, 53, 54, 576, 577, 578])))
def c9 : AFunc := ⟨722, [.tmp 6],
 .seq (.ops [o 5 (.box false (.t 2)), o 6 (.mv (cb false))] [0, 1, 5])
 (.seq (.seq (.ops [o 66 (.mv (.t 0)), o 67 (.len 1 (.t 66)), o 68 (.bin .gtr (.t 67) (ci 4)), o 69 (.mv (.t 68)), ⟨some 70, .mv (.t 0), some (69, false)⟩,
 ⟨some 71, .call true true 0 (.fn 55) [.t 70], some (69, false)⟩, ⟨some 72, .not (.t 71), some (69, false)⟩, o 73 (.pick (.t 69) (cb true) (.t 72)), o 74 (.mv (.t 73)),
 ⟨some 75, .mv (.t 0), some (74, false)⟩, ⟨some 76, .call true true 0 (.fn 61) [.t 75], some (74, false)⟩, ⟨some 77, .bin .neq (.t 76) (ci 0), some (74, false)⟩,
 o 78 (.pick (.t 74) (cb true) (.t 77)), o 79 (.mv (.t 78)), ⟨some 80, .mv (.t 0), some (79, false)⟩, ⟨some 81, .iadr 1 (.t 80) (ci 0), some (79, false)⟩,
 ⟨some 82, .ld false 1 (.t 81), some (79, false)⟩, ⟨some 83, .len 1 (.t 82), some (79, false)⟩, ⟨some 84, .bin .gtr (.t 83) (ci 16), some (79, false)⟩,
 o 85 (.pick (.t 79) (cb true) (.t 84)), o 86 (.mv (.t 85)), ⟨some 87, .mv (.t 1), some (86, false)⟩, ⟨some 88, .len 1 (.t 87), some (86, false)⟩,
 ⟨some 89, .mv (.t 0), some (86, false)⟩, ⟨some 90, .iadr 1 (.t 89) (ci 0), some (86, false)⟩, ⟨some 91, .ld false 1 (.t 90), some (86, false)⟩,
 ⟨some 92, .len 1 (.t 91), some (86, false)⟩, ⟨some 93, .bin .neq (.t 88) (.t 92), some (86, false)⟩, o 94 (.pick (.t 86) (cb true) (.t 93)), o 95 (.mv (.t 94)),
 ⟨some 96, .mv (.t 1), some (95, false)⟩, ⟨some 97, .call true true 0 (.fn 37) [.t 96], some (95, false)⟩, ⟨some 98, .bin .neq (.t 97) (ci 0), some (95, false)⟩,
 o 99 (.pick (.t 95) (cb true) (.t 98)), o 100 (.mv (.t 99)), ⟨some 101, .fadr 0 (.t 5), some (100, false)⟩, ⟨some 102, .ld false 1 (.t 101), some (100, false)⟩,
 ⟨some 103, .call true true 0 (.fn 19) [.t 102], some (100, false)⟩, ⟨some 104, .bin .neq (.t 103) (ci 0), some (100, false)⟩,
 o 105 (.pick (.t 100) (cb true) (.t 104))] [0, 1, 5, 105])
 (.cond (.t 105)
 (.seq (.ops [o 106 (.call true true 0 (.fn 12) []), o 6 (.mv (.t 106))] [6])
 (.ret))
 (.skip)))
 (.seq (.seq (.ops [o 107 (.mv (.t 0)), o 108 (.len 1 (.t 107)), o 109 (.mv (ci 0))] [0, 1, 5, 107, 108, 109])
 (.block 0 (.loop false [0, 1, 5, 107, 108, 109] c9L1)))
 (.seq (.opsd [(0, 1), (1, 1), (2, 1), (3, 1), (4, 1), (5, 1), (6, 1), (7, 1), (8, 1), (9, 1), (10, 1)] [o 128 (.mv (.t 0)), o 129 (.iadr 1 (.t 128) (ci 0)),
 o 130 (.ld false 1 (.t 129)), o 131 (.mv (.t 0)), o 132 (.mv (.t 0)), o 133 (.len 1 (.t 132)), o 134 (.bin .sub (.t 133) (ci 1)), o 135 (.iadr 1 (.t 131) (.t 134)),
 o 136 (.ld false 1 (.t 135)), o 11 (.mv (.t 130)), o 12 (.mv (.t 136))] [0, 1, 5, 11, 12])
 (.seq (.ops [o 138 (.mv (.t 1)), o 139 (.call true false 0 (.fn 32) [.t 138]), o 140 (.mv (.t 11)), o 141 (.call true false 0 (.fn 33) [.t 140]),
 o 142 (.call true true 0 (.fn 31) [.t 139, .t 141]), o 137 (.mv (.t 142)), o 143 (.ext (.t 137) 0), o 144 (.ext (.t 137) 1), o 13 (.mv (.t 143)),
 o 14 (.mv (.t 144))] [0, 1, 5, 11, 12, 13, 14])
 (.seq (.ops [o 146 (.mv (.t 1)), o 147 (.call true false 0 (.fn 32) [.t 146]), o 148 (.mv (.t 11)), o 149 (.call true false 0 (.fn 33) [.t 148]),
 o 150 (.call true true 0 (.fn 34) [.t 147, .t 149]), o 145 (.mv (.t 150)), o 151 (.ext (.t 145) 0), o 152 (.ext (.t 145) 1), o 153 (.ext (.t 145) 2), o 15 (.mv (.t 151)),
 o 16 (.mv (.t 152)), o 17 (.mv (.t 153))] [0, 1, 5, 11, 12, 13, 14, 15, 16, 17])
 (.seq (.seq (.ops [o 154 (.mv (.t 14)), o 155 (.bin .neq (.t 154) (ci 0)), o 156 (.mv (.t 155)), ⟨some 157, .mv (.t 17), some (156, false)⟩,
 ⟨some 158, .bin .neq (.t 157) (ci 0), some (156, false)⟩, o 159 (.pick (.t 156) (cb true) (.t 158)), o 160 (.mv (.t 159)), ⟨some 161, .mv (.t 13), some (160, false)⟩,
 ⟨some 162, .mv (.t 15), some (160, false)⟩, ⟨some 163, .bin .eql (.t 162) (ci 0), some (160, false)⟩, ⟨some 164, .eqb true (.t 161) (.t 163), some (160, false)⟩,
 o 165 (.pick (.t 160) (cb true) (.t 164)), o 166 (.mv (.t 165)), ⟨some 167, .mv (.t 15), some (166, false)⟩, ⟨some 168, .bin .lss (.t 167) (ci 0), some (166, false)⟩,
 o 169 (.pick (.t 166) (cb true) (.t 168)), o 170 (.mv (.t 169)), ⟨some 171, .mv (.t 16), some (170, false)⟩, ⟨some 172, .bin .lss (.t 171) (ci 0), some (170, false)⟩,
 o 173 (.pick (.t 170) (cb true) (.t 172)), o 174 (.mv (.t 173)), ⟨some 175, .mv (.t 16), some (174, false)⟩, ⟨some 176, .mv (.t 1), some (174, false)⟩,
 ⟨some 177, .len 1 (.t 176), some (174, false)⟩, ⟨some 178, .bin .geq (.t 175) (.t 177), some (174, false)⟩,
 o 179 (.pick (.t 174) (cb true) (.t 178))] [0, 1, 5, 11, 12, 15, 16, 179])
 (.cond (.t 179)
 (.seq (.ops [o 6 (.mv (cb false))] [6])
 (.ret))
 (.skip)))
 (.seq (.ops [o 18 (.mv (cb true))] [0, 1, 5, 11, 12, 15, 16, 18])
 (.seq (.ops [o 180 (.mv (.t 1)), o 181 (.call true false 2 (.fn 32) [.t 180]), o 19 (.mv (.t 181))] [0, 1, 5, 11, 12, 15, 16, 18, 19])
 (.seq (.ops [o 20 (.nilown 1)] [0, 1, 5, 11, 12, 15, 16, 18, 19, 20])
 (.seq (.seq (.ops [o 182 (.mv (.t 19)), o 183 (.len 1 (.t 182)), o 184 (.mv (ci 0))] [0, 1, 5, 11, 12, 15, 16, 18, 19, 20, 183, 184])
 (.block 4 (.loop false [0, 1, 5, 11, 12, 15, 16, 18, 19, 20, 183, 184] c9L2)))
 (.seq (.ops [o 23 (.mv (cb true))] [0, 5, 11, 12, 18, 19, 20, 23])
 (.seq (.seq (.ops [o 267 (.mv (.t 11)), o 268 (.len 1 (.t 267)), o 269 (.mv (ci 0))] [0, 5, 11, 12, 18, 19, 20, 23, 267, 268, 269])
 (.block 6 (.loop false [0, 5, 11, 12, 18, 19, 20, 23, 267, 268, 269] c9L3)))
 (.seq (.ops [o 284 (.mv (.t 19)), o 285 (.call true false 0 (.fn 32) [.t 284]), o 286 (.mv (.t 11)), o 287 (.call true false 0 (.fn 33) [.t 286]),
 o 288 (.call true true 0 (.fn 31) [.t 285, .t 287]), o 283 (.mv (.t 288)), o 289 (.ext (.t 283) 0), o 290 (.ext (.t 283) 1), o 26 (.mv (.t 289)),
 o 27 (.mv (.t 290))] [0, 5, 11, 12, 18, 20, 23, 26, 27])
 (.seq (.ops [o 292 (.mv (.t 11)), o 293 (.call true false 0 (.fn 33) [.t 292]), o 294 (.call true false 0 (.fn 35) [.t 293]), o 291 (.mv (.t 294)), o 295 (.ext (.t 291) 0),
 o 296 (.ext (.t 291) 1), o 28 (.mv (.t 295)), o 29 (.mv (.t 296))] [0, 5, 11, 12, 18, 20, 23, 26, 27, 28, 29])
 (.seq (.ops [o 298 (.mv (.t 12)), o 299 (.call true false 0 (.fn 33) [.t 298]), o 300 (.call true false 0 (.fn 35) [.t 299]), o 297 (.mv (.t 300)), o 301 (.ext (.t 297) 0),
 o 302 (.ext (.t 297) 1), o 30 (.mv (.t 301)), o 31 (.mv (.t 302))] [0, 5, 11, 18, 20, 23, 26, 27, 28, 29, 30, 31])
 (.seq (.ops [o 304 (.mv (.t 20)), o 305 (.call true false 0 (.fn 33) [.t 304]), o 306 (.call true false 0 (.fn 35) [.t 305]), o 303 (.mv (.t 306)), o 307 (.ext (.t 303) 0),
 o 308 (.ext (.t 303) 1), o 32 (.mv (.t 307)), o 33 (.mv (.t 308))] [0, 5, 11, 18, 23, 26, 27, 28, 29, 30, 31, 32, 33])
 (.seq (.ops [o 310 (.mv (.t 11)), o 311 (.call true false 0 (.fn 33) [.t 310]), o 312 (.call true false 0 (.fn 36) [.t 311]), o 309 (.mv (.t 312)), o 313 (.ext (.t 309) 0),
 o 314 (.ext (.t 309) 1), o 34 (.mv (.t 313)), o 35 (.mv (.t 314))] [0, 5, 11, 18, 23, 26, 27, 28, 29, 30, 31, 32, 33, 34, 35])
 (.seq (.seq (.ops [o 315 (.mv (.t 27)), o 316 (.bin .neq (.t 315) (ci 0)), o 317 (.mv (.t 316)), ⟨some 318, .mv (.t 29), some (317, false)⟩,
 ⟨some 319, .bin .neq (.t 318) (ci 0), some (317, false)⟩, o 320 (.pick (.t 317) (cb true) (.t 319)), o 321 (.mv (.t 320)), ⟨some 322, .mv (.t 31), some (321, false)⟩,
 ⟨some 323, .bin .neq (.t 322) (ci 0), some (321, false)⟩, o 324 (.pick (.t 321) (cb true) (.t 323)), o 325 (.mv (.t 324)), ⟨some 326, .mv (.t 33), some (325, false)⟩,
 ⟨some 327, .bin .neq (.t 326) (ci 0), some (325, false)⟩, o 328 (.pick (.t 325) (cb true) (.t 327)), o 329 (.mv (.t 328)), ⟨some 330, .mv (.t 35), some (329, false)⟩,
 ⟨some 331, .bin .neq (.t 330) (ci 0), some (329, false)⟩, o 332 (.pick (.t 329) (cb true) (.t 331)), o 333 (.mv (.t 332)), ⟨some 334, .mv (.t 18), some (333, false)⟩,
 ⟨some 335, .not (.t 334), some (333, false)⟩, o 336 (.pick (.t 333) (cb true) (.t 335)), o 337 (.mv (.t 336)), ⟨some 338, .mv (.t 23), some (337, false)⟩,
 ⟨some 339, .mv (.t 26), some (337, false)⟩, ⟨some 340, .eqb true (.t 338) (.t 339), some (337, false)⟩, o 341 (.pick (.t 337) (cb true) (.t 340)), o 342 (.mv (.t 341)),
 ⟨some 343, .mv (.t 28), some (342, false)⟩, ⟨some 344, .len 1 (.t 343), some (342, false)⟩, ⟨some 345, .mv (.t 11), some (342, false)⟩,
 ⟨some 346, .len 1 (.t 345), some (342, false)⟩, ⟨some 347, .bin .neq (.t 344) (.t 346), some (342, false)⟩, o 348 (.pick (.t 342) (cb true) (.t 347)), o 349 (.mv (.t 348)),
 ⟨some 350, .mv (.t 30), some (349, false)⟩, ⟨some 351, .len 1 (.t 350), some (349, false)⟩, ⟨some 352, .mv (.t 11), some (349, false)⟩,
 ⟨some 353, .len 1 (.t 352), some (349, false)⟩, ⟨some 354, .bin .neq (.t 351) (.t 353), some (349, false)⟩, o 355 (.pick (.t 349) (cb true) (.t 354)), o 356 (.mv (.t 355)),
 ⟨some 357, .mv (.t 32), some (356, false)⟩, ⟨some 358, .len 1 (.t 357), some (356, false)⟩, ⟨some 359, .mv (.t 11), some (356, false)⟩,
 ⟨some 360, .len 1 (.t 359), some (356, false)⟩, ⟨some 361, .bin .neq (.t 358) (.t 360), some (356, false)⟩, o 362 (.pick (.t 356) (cb true) (.t 361)), o 363 (.mv (.t 362)),
 ⟨some 364, .mv (.t 34), some (363, false)⟩, ⟨some 365, .len 1 (.t 364), some (363, false)⟩, ⟨some 366, .mv (.t 11), some (363, false)⟩,
 ⟨some 367, .len 1 (.t 366), some (363, false)⟩, ⟨some 368, .bin .neq (.t 365) (.t 367), some (363, false)⟩,
 o 369 (.pick (.t 363) (cb true) (.t 368))] [0, 5, 11, 28, 30, 32, 34, 369])
 (.cond (.t 369)
 (.seq (.ops [o 6 (.mv (cb false))] [6])
 (.ret))
 (.skip)))
 (.seq (.ops [o 36 (.mv (ci 0))] [0, 5, 11, 28, 30, 32, 34, 36])
 (.seq (.seq (.ops [o 370 (.mv (.t 11)), o 371 (.len 1 (.t 370)), o 372 (.mv (ci 0))] [0, 5, 11, 28, 30, 32, 34, 36, 371, 372])
 (.block 8 (.loop false [0, 5, 11, 28, 30, 32, 34, 36, 371, 372] c9L4)))
 (.seq (.ops [o 404 (.fadr 1 (.t 5)), o 405 (.ld false 1 (.t 404)), o 406 (.conv (.int .i64) (.t 405)), o 407 (.mv (.t 0)), o 408 (.len 1 (.t 407)),
 o 409 (.bin .rem (.t 406) (.t 408)), o 38 (.mv (.t 409))] [0, 5, 11, 38])
 (.seq (.ops [o 411 (.mv (.t 0)), o 412 (.call true false 0 (.fn 57) [.t 411]), o 413 (.call true false 0 (.fn 56) [.t 412]), o 410 (.mv (.t 413)), o 414 (.ext (.t 410) 0),
 o 415 (.ext (.t 410) 1), o 39 (.mv (.t 414)), o 40 (.mv (.t 415))] [0, 5, 11, 38, 39, 40])
 (.seq (.ops [o 417 (.mv (.t 0)), o 418 (.call true false 0 (.fn 57) [.t 417]), o 419 (.call true false 0 (.fn 58) [.t 418]), o 416 (.mv (.t 419)), o 420 (.ext (.t 416) 0),
 o 421 (.ext (.t 416) 1), o 41 (.mv (.t 420)), o 42 (.mv (.t 421))] [0, 5, 11, 38, 39, 40, 41, 42])
 (.seq (.ops [u (.fail), o 423 (.bslice true 1 [.p (.nils)] 0 []), o 424 (.mv (.t 0)), o 425 (.mv (.t 38)), o 426 (.slc 1 (.t 424) (some (.t 425)) none),
 o 427 (.app 1 24 [.p (.nils)] (.t 423) (.t 426)), o 428 (.mv (.t 0)), o 429 (.mv (.t 38)), o 430 (.slc 1 (.t 428) none (some (.t 429))),
 o 431 (.app 1 24 [.p (.nils)] (.t 427) (.t 430)), o 432 (.call true false 0 (.fn 57) [.t 431]), o 433 (.call true false 0 (.fn 56) [.t 432]), o 422 (.mv (.t 433)),
 o 434 (.ext (.t 422) 0), o 435 (.ext (.t 422) 1), o 43 (.mv (.t 434)), o 44 (.mv (.t 435))] [0, 5, 11, 39, 40, 41, 42, 43, 44])
 (.seq (.seq (.ops [o 436 (.mv (.t 40)), o 437 (.bin .neq (.t 436) (ci 0)), o 438 (.mv (.t 437)), ⟨some 439, .mv (.t 42), some (438, false)⟩,
 ⟨some 440, .bin .neq (.t 439) (ci 0), some (438, false)⟩, o 441 (.pick (.t 438) (cb true) (.t 440)), o 442 (.mv (.t 441)), ⟨some 443, .mv (.t 44), some (442, false)⟩,
 ⟨some 444, .bin .neq (.t 443) (ci 0), some (442, false)⟩, o 445 (.pick (.t 442) (cb true) (.t 444)), o 446 (.mv (.t 445)), ⟨some 447, .mv (.t 39), some (446, false)⟩,
 ⟨some 448, .len 1 (.t 447), some (446, false)⟩, ⟨some 449, .mv (.t 11), some (446, false)⟩, ⟨some 450, .len 1 (.t 449), some (446, false)⟩,
 ⟨some 451, .bin .neq (.t 448) (.t 450), some (446, false)⟩, o 452 (.pick (.t 446) (cb true) (.t 451)), o 453 (.mv (.t 452)), ⟨some 454, .mv (.t 41), some (453, false)⟩,
 ⟨some 455, .len 1 (.t 454), some (453, false)⟩, ⟨some 456, .mv (.t 11), some (453, false)⟩, ⟨some 457, .len 1 (.t 456), some (453, false)⟩,
 ⟨some 458, .bin .neq (.t 455) (.t 457), some (453, false)⟩, o 459 (.pick (.t 453) (cb true) (.t 458)), o 460 (.mv (.t 459)), ⟨some 461, .mv (.t 39), some (460, false)⟩,
 ⟨some 462, .mv (.t 43), some (460, false)⟩, ⟨some 463, .call true true 0 (.fn 30) [.t 461, .t 462], some (460, false)⟩, ⟨some 464, .not (.t 463), some (460, false)⟩,
 o 465 (.pick (.t 460) (cb true) (.t 464))] [0, 5, 11, 39, 41, 465])
 (.cond (.t 465)
 (.seq (.ops [o 6 (.mv (cb false))] [6])
 (.ret))
 (.skip)))
 (.seq (.ops [o 45 (.mv (ci 0))] [0, 5, 11, 39, 41, 45])
 (.seq (.seq (.ops [o 466 (.mv (.t 39)), o 467 (.len 1 (.t 466)), o 468 (.mv (ci 0))] [0, 5, 11, 41, 45, 466, 467, 468])
 (.block 10 (.loop true [0, 5, 11, 41, 45, 466, 467, 468] c9L6)))
 (.seq (.ops [o 521 (.mv (.t 0)), o 522 (.call true false 0 (.fn 57) [.t 521]), o 523 (.mv (.t 45)), o 524 (.call true true 0 (.fn 59) [.t 522, .t 523]),
 o 520 (.mv (.t 524)), o 525 (.ext (.t 520) 0), o 526 (.ext (.t 520) 1), o 50 (.mv (.t 525)), o 51 (.mv (.t 526))] [5, 11, 50, 51])
 (.seq (.seq (.ops [o 527 (.mv (.t 51)), o 528 (.bin .neq (.t 527) (ci 0)), o 529 (.mv (.t 528)), ⟨some 530, .mv (.t 50), some (529, false)⟩,
 ⟨some 531, .not (.t 530), some (529, false)⟩, o 532 (.pick (.t 529) (cb true) (.t 531))] [5, 11, 532])
 (.cond (.t 532)
 (.seq (.ops [o 6 (.mv (cb false))] [6])
 (.ret))
 (.skip)))
 (.seq (.ops [o 533 (.fadr 1 (.t 5)), o 534 (.ld false 1 (.t 533)), o 535 (.conv (.int .i64) (.t 534)), o 536 (.bin .rem (.t 535) (ci 100)),
 o 537 (.bin .add (ci 1) (.t 536)), o 538 (.bin .mul (ci 3) (.t 537)), o 539 (.fadr 1 (.t 5)), o 540 (.ld false 1 (.t 539)), o 541 (.conv (.int .i64) (.t 540)),
 o 542 (.bin .rem (.t 541) (ci 100)), o 543 (.bin .add (ci 1) (.t 542)), o 544 (.bin .mul (ci 4) (.t 543)), o 545 (.fadr 1 (.t 5)), o 546 (.ld false 1 (.t 545)),
 o 547 (.conv (.int .i64) (.t 546)), o 548 (.bin .rem (.t 547) (ci 100)), o 549 (.bin .add (ci 1) (.t 548)), o 550 (.bin .mul (ci 5) (.t 549)),
 o 551 (.build [.p (.int .i64 0), .p (.int .i64 0), .p (.int .i64 0)] [(0, 1, .t 538), (1, 1, .t 544), (2, 1, .t 550)]),
 o 52 (.alloc true 1 [.p (.int .i64 0), .p (.int .i64 0), .p (.int .i64 0)]), u (.st 3 (.t 52) (.t 551))] [5, 11, 52])
 (.seq (.opsd [(0, 1), (1, 1), (2, 1), (3, 0), (4, 1), (5, 1), (6, 1), (7, 1), (8, 1), (9, 1), (10, 1)] [o 553 (.ld true 3 (.t 52)), o 554 (.mv (.t 11)),
 o 555 (.call true false 0 (.fn 33) [.t 554]), o 556 (.call true false 0 (.fn 60) [.t 553, .t 555]), o 552 (.mv (.t 556)), o 557 (.ext (.t 552) 0), o 558 (.ext (.t 552) 1),
 o 559 (.ext (.t 552) 2), o 53 (.mv (.t 557)), o 54 (.mv (.t 558)), o 55 (.mv (.t 559))] [5, 11, 52, 53, 54, 55])
 (.seq (.seq (.ops [o 560 (.mv (.t 55)), o 561 (.bin .neq (.t 560) (ci 0)), o 562 (.mv (.t 561)), ⟨some 563, .mv (.t 53), some (562, false)⟩,
 ⟨some 564, .len 1 (.t 563), some (562, false)⟩, ⟨some 565, .mv (.t 11), some (562, false)⟩, ⟨some 566, .len 1 (.t 565), some (562, false)⟩,
 ⟨some 567, .bin .neq (.t 564) (.t 566), some (562, false)⟩, o 568 (.pick (.t 562) (cb true) (.t 567)), o 569 (.mv (.t 568)), ⟨some 570, .mv (.t 54), some (569, false)⟩,
 ⟨some 571, .len 1 (.t 570), some (569, false)⟩, ⟨some 572, .mv (.t 11), some (569, false)⟩, ⟨some 573, .len 1 (.t 572), some (569, false)⟩,
 ⟨some 574, .bin .neq (.t 571) (.t 573), some (569, false)⟩, o 575 (.pick (.t 569) (cb true) (.t 574))] [5, 11, 52, 53, 54, 575])
 (.cond (.t 575)
 (.seq (.ops [o 6 (.mv (cb false))] [6])
 (.ret))
 (.skip)))
 (.seq (.seq (.ops [o 576 (.mv (.t 11)), o 577 (.len 1 (.t 576)), o 578 (.mv (ci 0))] [5, 52, 53, 54, 576, 577, 578])
 (.block 14 (.loop false [5, 52, 53, 54, 576, 577, 578] c9L7)))
 (.seq (.ops [o 659 (.fadr 0 (.t 5)), o 660 (.ld false 1 (.t 659)), o 661 (.call true false 0 (.fn 14) [.t 660]), o 662 (.call true true 0 (.fn 69) [.t 661]),
 o 658 (.mv (.t 662)), o 663 (.ext (.t 658) 0), o 664 (.ext (.t 658) 1), o 58 (.mv (.t 663)), o 59 (.mv (.t 664))] [5, 58, 59])
 (.seq (.ops [o 666 (.mv (.t 58)), o 667 (.call false false 0 (.fn 70) [.t 666]), o 665 (.mv (.t 667)), o 668 (.ext (.t 665) 0), o 669 (.ext (.t 665) 1),
 o 670 (.ext (.t 665) 2), o 60 (.mv (.t 668)), o 61 (.mv (.t 669)), o 62 (.mv (.t 670))] [5, 58, 59, 60, 61, 62])
 (.seq (.seq (.opsd [(0, 1), (1, 1), (2, 1), (3, 1), (4, 1), (5, 1), (6, 1), (7, 1), (8, 1), (9, 1), (10, 1), (11, 1), (12, 1), (13, 1), (14, 1), (15, 0), (16, 1), (17, 1), (18, 1), (19, 1), (20, 1), (21, 1), (22, 1), (23, 1), (24, 1), (25, 1), (26, 1), (27, 1)] [o 671 (.mv (.t 59)),
 o 672 (.bin .neq (.t 671) (ci 0)), o 673 (.mv (.t 672)), ⟨some 674, .mv (.t 62), some (673, false)⟩, ⟨some 675, .bin .neq (.t 674) (ci 0), some (673, false)⟩,
 o 676 (.pick (.t 673) (cb true) (.t 675)), o 677 (.mv (.t 676)), ⟨some 678, .mv (.t 61), some (677, false)⟩, ⟨some 679, .bin .neq (.t 678) (ci 0), some (677, false)⟩,
 o 680 (.pick (.t 677) (cb true) (.t 679)), o 681 (.mv (.t 680)), ⟨some 682, .mv (.t 60), some (681, false)⟩,
 ⟨some 683, .call true false 0 (.fn 52) [.t 682], some (681, false)⟩, ⟨some 684, .fadr 0 (.t 5), some (681, false)⟩, ⟨some 685, .ld false 1 (.t 684), some (681, false)⟩,
 ⟨some 686, .call true true 0 (.fn 51) [.t 683, .t 685], some (681, false)⟩, ⟨some 687, .not (.t 686), some (681, false)⟩, o 688 (.pick (.t 681) (cb true) (.t 687)),
 o 689 (.mv (.t 688)), ⟨some 690, .mv (.t 58), some (689, false)⟩, ⟨some 691, .call true false 0 (.fn 74) [.t 690, .c (.p (.int .u8 10))], some (689, false)⟩,
 ⟨some 692, .len 1 (.t 691), some (689, false)⟩, ⟨some 693, .fadr 0 (.t 5), some (689, false)⟩, ⟨some 694, .ld false 1 (.t 693), some (689, false)⟩,
 ⟨some 695, .len 1 (.t 694), some (689, false)⟩, ⟨some 696, .bin .add (.t 695) (ci 1), some (689, false)⟩, ⟨some 697, .bin .neq (.t 692) (.t 696), some (689, false)⟩,
 o 698 (.pick (.t 689) (cb true) (.t 697))] [5, 58, 698])
 (.cond (.t 698)
 (.seq (.ops [o 6 (.mv (cb false))] [6])
 (.ret))
 (.skip)))
 (.seq (.ops [o 700 (.mv (.t 58)), o 701 (.mv (.t 58)), o 702 (.len 0 (.t 701)), o 703 (.bin .sub (.t 702) (ci 1)), o 704 (.slcs (.t 700) none (some (.t 703))),
 o 705 (.call false false 0 (.fn 70) [.t 704]), o 699 (.mv (.t 705)), o 706 (.ext (.t 699) 0), o 707 (.ext (.t 699) 1), o 708 (.ext (.t 699) 2), o 63 (.mv (.t 706)),
 o 64 (.mv (.t 707)), o 65 (.mv (.t 708))] [5, 64, 65])
 (.seq (.ops [o 709 (.mv (.t 65)), o 710 (.bin .eql (.t 709) (ci 25)), o 711 (.mv (.t 710)), ⟨some 712, .mv (.t 64), some (711, true)⟩,
 ⟨some 713, .fadr 0 (.t 5), some (711, true)⟩, ⟨some 714, .ld false 1 (.t 713), some (711, true)⟩, ⟨some 715, .len 1 (.t 714), some (711, true)⟩,
 ⟨some 716, .bin .sub (.t 715) (ci 1), some (711, true)⟩, ⟨some 717, .bin .eql (.t 712) (.t 716), some (711, true)⟩, o 718 (.pick (.t 711) (.t 717) (cb false)),
 o 719 (.mv (.t 718)), ⟨some 720, .call true true 0 (.fn 12) [], some (719, true)⟩, o 721 (.pick (.t 719) (.t 720) (cb false)), o 6 (.mv (.t 721))] [6])
 (.ret)))))))))))))))))))))))))))))))))))))))⟩

/-- crumple/crumplelaw08.PulsePacks -/
def c10 : AFunc := ⟨153, [.tmp 6],
 .seq (.ops [o 5 (.box true (.t 2)), o 6 (.mv (cb false))] [0, 1, 5])
 (.seq (.seq (.ops [o 22 (.mv (.t 0)), o 23 (.call true true 0 (.fn 75) [.t 22]), o 24 (.not (.t 23)), o 25 (.mv (.t 24)), ⟨some 26, .mv (.t 1), some (25, false)⟩,
 ⟨some 27, .len 1 (.t 26), some (25, false)⟩, ⟨some 28, .bin .gtr (.t 27) (ci 9), some (25, false)⟩, o 29 (.pick (.t 25) (cb true) (.t 28))] [0, 1, 5, 29])
 (.cond (.t 29)
 (.seq (.ops [o 30 (.call true true 0 (.fn 12) []), o 6 (.mv (.t 30))] [6])
 (.ret))
 (.skip)))
 (.seq (.opsd [(0, 1), (1, 1), (2, 1), (3, 1), (4, 1), (5, 1), (6, 0), (7, 1), (8, 1), (9, 1), (10, 1), (11, 1)] [o 32 (.mv (.t 0)),
 o 33 (.call true false 0 (.fn 77) [.t 32]), o 34 (.mv (.t 1)), o 35 (.call true false 0 (.fn 33) [.t 34]), o 36 (.fadr 0 (.t 5)), o 37 (.ld true 2 (.t 36)),
 o 38 (.call true true 0 (.fn 76) [.t 33, .t 35, .t 37]), o 31 (.mv (.t 38)), o 39 (.ext (.t 31) 0), o 40 (.ext (.t 31) 1), o 7 (.mv (.t 39)),
 o 8 (.mv (.t 40))] [0, 1, 5, 7, 8])
 (.seq (.opsd [(0, 1), (1, 1), (2, 1), (3, 1), (4, 0), (5, 1), (6, 1), (7, 1), (8, 1), (9, 1), (10, 1), (11, 1)] [o 42 (.mv (.t 0)),
 o 43 (.call true false 0 (.fn 77) [.t 42]), o 44 (.fadr 0 (.t 5)), o 45 (.ld true 2 (.t 44)), o 46 (.call true false 0 (.fn 78) [.t 43, .t 45]), o 41 (.mv (.t 46)),
 o 47 (.ext (.t 41) 0), o 48 (.ext (.t 41) 1), o 49 (.ext (.t 41) 2), o 9 (.mv (.t 47)), o 10 (.mv (.t 48)), o 11 (.mv (.t 49))] [0, 1, 5, 7, 8, 9, 10, 11])
 (.seq (.opsd [(0, 1), (1, 1), (2, 1), (3, 1), (4, 1), (5, 1), (6, 0), (7, 1), (8, 1), (9, 1), (10, 1), (11, 1)] [o 51 (.mv (.t 0)),
 o 52 (.call true false 0 (.fn 77) [.t 51]), o 53 (.fadr 0 (.t 5)), o 54 (.ld true 2 (.t 53)), o 55 (.fadr 2 (.t 5)), o 56 (.ld false 1 (.t 55)),
 o 57 (.call true true 0 (.fn 79) [.t 52, .t 54, .t 56]), o 50 (.mv (.t 57)), o 58 (.ext (.t 50) 0), o 59 (.ext (.t 50) 1), o 12 (.mv (.t 58)),
 o 13 (.mv (.t 59))] [0, 1, 5, 7, 8, 9, 10, 11, 12, 13])
 (.seq (.ops [o 60 (.mv (.t 0)), o 61 (.call true true 0 (.fn 80) [.t 60]), o 14 (.mv (.t 61))] [0, 1, 5, 7, 8, 9, 10, 11, 12, 13, 14])
 (.seq (.ops [o 62 (.mv (.t 14)), o 63 (.mv (.t 14)), o 64 (.fadr 0 (.t 5)), o 65 (.ld true 2 (.t 64)), o 66 (.call true true 0 (.fn 81) [.t 65]),
 o 67 (.bslice false 1 [.p (.int .i64 0)] 2 [(0, .t 63), (1, .t 66)]), o 68 (.call true true 0 (.fn 18) [.t 67]), o 15 (.mv (.t 62)),
 o 16 (.mv (.t 68))] [0, 1, 5, 7, 8, 9, 10, 11, 12, 13, 14, 15, 16])
 (.seq (.ops [o 69 (.mv (.t 16)), o 70 (.fadr 2 (.t 5)), o 71 (.ld false 1 (.t 70)), o 72 (.call true true 0 (.fn 82) [.t 71]),
 o 73 (.bslice false 1 [.p (.int .i64 0)] 2 [(0, .t 69), (1, .t 72)]), o 74 (.call true true 0 (.fn 18) [.t 73]),
 o 17 (.mv (.t 74))] [0, 1, 5, 7, 8, 9, 10, 11, 12, 13, 14, 15, 16, 17])
 (.seq (.seq (.ops [o 75 (.mv (.t 14)), o 76 (.bin .eql (.t 75) (ci 0))] [0, 1, 5, 7, 8, 9, 10, 11, 12, 13, 14, 15, 16, 17, 76])
 (.cond (.t 76)
 (.opsd [(0, 1), (1, 1), (2, 1), (3, 1), (4, 1), (5, 0), (6, 0), (7, 0), (8, 1)] [o 77 (.mv (.t 0)), o 78 (.mv (.t 1)), o 79 (.call true true 0 (.fn 83) [.t 77, .t 78]),
 o 80 (.fadr 0 (.t 5)), o 81 (.ld true 2 (.t 80)), o 82 (.call true true 0 (.fn 81) [.t 81]), o 83 (.bslice false 1 [.p (.int .i64 0)] 2 [(0, .t 79), (1, .t 82)]),
 o 84 (.call true true 0 (.fn 18) [.t 83]), o 15 (.mv (.t 84))] [0, 1, 5, 7, 8, 9, 10, 11, 12, 13, 14, 15, 16, 17])
 (.skip)))
 (.seq (.ops [o 18 (.mv (cb false)), o 19 (.mv (ci 0)), o 20 (.mv (ci 0))] [0, 1, 5, 7, 8, 9, 10, 11, 12, 13, 14, 15, 16, 17, 18, 19, 20])
 (.seq (.ops [o 21 (.mv (cn))] [0, 1, 5, 7, 8, 9, 10, 11, 12, 13, 14, 15, 16, 17, 18, 19, 20, 21])
 (.seq (.seq (.ops [o 85 (.mv (.t 15)), o 86 (.bin .eql (.t 85) (ci 0))] [0, 1, 5, 7, 8, 9, 10, 11, 12, 13, 14, 15, 16, 17, 18, 19, 20, 21, 86])
 (.cond (.t 86)
 (.ops [o 87 (.mv (.t 0)), o 88 (.mv (.t 1)), o 89 (.fadr 0 (.t 5)), o 90 (.ld true 2 (.t 89)), o 91 (.call true true 0 (.fn 84) [.t 87, .t 88, .t 90]),
 o 18 (.mv (.t 91))] [0, 5, 7, 8, 9, 10, 11, 12, 13, 14, 15, 16, 17, 18, 19, 20, 21])
 (.skip)))
 (.seq (.seq (.ops [o 92 (.mv (.t 16)), o 93 (.bin .eql (.t 92) (ci 0))] [0, 5, 7, 8, 9, 10, 11, 12, 13, 14, 15, 16, 17, 18, 19, 20, 21, 93])
 (.cond (.t 93)
 (.ops [o 95 (.mv (.t 0)), o 96 (.fadr 0 (.t 5)), o 97 (.ld true 2 (.t 96)), o 98 (.call true false 0 (.fn 85) [.t 95, .t 97]), o 94 (.mv (.t 98)), o 99 (.ext (.t 94) 0),
 o 100 (.ext (.t 94) 1), o 101 (.ext (.t 94) 2), o 21 (.mv (.t 99)), o 19 (.mv (.t 100)),
 o 16 (.mv (.t 101))] [0, 5, 7, 8, 9, 10, 11, 12, 13, 14, 15, 16, 17, 18, 19, 20, 21])
 (.skip)))
 (.seq (.seq (.ops [o 102 (.mv (.t 17)), o 103 (.bin .eql (.t 102) (ci 0))] [0, 5, 7, 8, 9, 10, 11, 12, 13, 14, 15, 16, 17, 18, 19, 20, 21, 103])
 (.cond (.t 103)
 (.ops [o 104 (.mv (.t 0)), o 105 (.fadr 0 (.t 5)), o 106 (.ld true 2 (.t 105)), o 107 (.fadr 2 (.t 5)), o 108 (.ld false 1 (.t 107)),
 o 109 (.call true true 0 (.fn 86) [.t 104, .t 106, .t 108]), o 20 (.mv (.t 109))] [0, 7, 8, 9, 10, 11, 12, 13, 14, 15, 16, 17, 18, 19, 20, 21])
 (.skip)))
 (.seq (.ops [o 110 (.mv (.t 0)), o 111 (.call true false 0 (.fn 77) [.t 110]), o 112 (.call true true 0 (.fn 87) [.t 111]), o 113 (.mv (.t 14)),
 o 114 (.bin .eql (.t 112) (.t 113)), o 115 (.mv (.t 114)), ⟨some 116, .mv (.t 7), some (115, true)⟩, ⟨some 117, .mv (.t 18), some (115, true)⟩,
 ⟨some 118, .eqb false (.t 116) (.t 117), some (115, true)⟩, o 119 (.pick (.t 115) (.t 118) (cb false)), o 120 (.mv (.t 119)), ⟨some 121, .mv (.t 8), some (120, true)⟩,
 ⟨some 122, .mv (.t 15), some (120, true)⟩, ⟨some 123, .bin .eql (.t 121) (.t 122), some (120, true)⟩, o 124 (.pick (.t 120) (.t 123) (cb false)), o 125 (.mv (.t 124)),
 ⟨some 126, .mv (.t 9), some (125, true)⟩, ⟨some 127, .mv (.t 21), some (125, true)⟩, ⟨some 128, .call true true 0 (.fn 29) [.t 126, .t 127], some (125, true)⟩,
 o 129 (.pick (.t 125) (.t 128) (cb false)), o 130 (.mv (.t 129)), ⟨some 131, .mv (.t 10), some (130, true)⟩, ⟨some 132, .mv (.t 19), some (130, true)⟩,
 ⟨some 133, .bin .eql (.t 131) (.t 132), some (130, true)⟩, o 134 (.pick (.t 130) (.t 133) (cb false)), o 135 (.mv (.t 134)), ⟨some 136, .mv (.t 11), some (135, true)⟩,
 ⟨some 137, .mv (.t 16), some (135, true)⟩, ⟨some 138, .bin .eql (.t 136) (.t 137), some (135, true)⟩, o 139 (.pick (.t 135) (.t 138) (cb false)), o 140 (.mv (.t 139)),
 ⟨some 141, .mv (.t 12), some (140, true)⟩, ⟨some 142, .mv (.t 20), some (140, true)⟩, ⟨some 143, .bin .eql (.t 141) (.t 142), some (140, true)⟩,
 o 144 (.pick (.t 140) (.t 143) (cb false)), o 145 (.mv (.t 144)), ⟨some 146, .mv (.t 13), some (145, true)⟩, ⟨some 147, .mv (.t 17), some (145, true)⟩,
 ⟨some 148, .bin .eql (.t 146) (.t 147), some (145, true)⟩, o 149 (.pick (.t 145) (.t 148) (cb false)), o 150 (.mv (.t 149)),
 ⟨some 151, .call true true 0 (.fn 12) [], some (150, true)⟩, o 152 (.pick (.t 150) (.t 151) (cb false)), o 6 (.mv (.t 152))] [6])
 (.ret)))))))))))))))⟩

/-- crumple/crumplelaw08.PulseChosen -/
def c11L0 : ACode :=
 .seq (.ops [o 53 (.bin .lss (.t 52) (.t 51))] [0, 4, 5, 50, 51, 52, 53])
 (.seq (.cond (.t 53)
 (.skip)
 (.exit 0))
 (.seq (.block 1 (.seq (.ops [o 54 (.iadr 4 (.t 50) (.t 52)), o 55 (.ld true 4 (.t 54)),
 o 8 (.alloc true 1 [.p (.str []), .p (.int .i64 0), .p (.int .i64 0), .p (.int .i64 0)]), u (.st 4 (.t 8) (.t 55))] [0, 4, 5, 8, 50, 51, 52])
 (.seq (.ops [o 56 (.fadr 0 (.t 8)), o 57 (.ld false 1 (.t 56)), o 58 (.bin .eql (.t 57) (cs [109, 111, 114, 101]))] [0, 4, 5, 50, 51, 52, 58])
 (.cond (.t 58)
 (.seq (.ops [o 59 (.call true true 0 (.fn 12) []), o 6 (.mv (.t 59))] [6])
 (.ret))
 (.skip)))))
 (.ops [o 60 (.bin .add (.t 52) (ci 1)), o 52 (.mv (.t 60))] [0, 4, 5, 50, 51, 52])))
def c11L1 : ACode :=
 .seq (.ops [o 94 (.bin .lss (.t 93) (.t 92))] [0, 4, 5, 9, 10, 11, 12, 13, 14, 15, 87, 88, 91, 92, 93, 94])
 (.seq (.cond (.t 94)
 (.skip)
 (.exit 4))
 (.seq (.block 5 (.seq (.ops [o 95 (.mv (.t 93)), o 96 (.iadr 4 (.t 91) (.t 93)), o 97 (.ld true 4 (.t 96)),
 o 17 (.alloc true 1 [.p (.str []), .p (.int .i64 0), .p (.int .i64 0), .p (.int .i64 0)]), o 16 (.mv (.t 95)),
 u (.st 4 (.t 17) (.t 97))] [0, 4, 5, 9, 10, 11, 12, 13, 14, 15, 16, 17, 87, 88, 91, 92, 93])
 (.seq (.ops [o 98 (.mv (.t 12)), o 99 (.mv (.t 16)), o 100 (.shift false (.t 98) (.t 99)), o 101 (.bin .and (.t 100) (ci 1)),
 o 102 (.bin .eql (.t 101) (ci 1))] [0, 4, 5, 9, 10, 11, 12, 13, 14, 15, 16, 17, 87, 88, 91, 92, 93, 102])
 (.cond (.t 102)
 (.ops [u (.fail), o 103 (.mv (.t 13)), o 104 (.mv (.t 16)), o 105 (.bslice false 1 [.p (.int .i64 0)] 1 [(0, .t 104)]),
 o 106 (.app 1 8 [.p (.int .i64 0)] (.t 103) (.t 105)), o 107 (.mv (.t 14)), o 108 (.fadr 3 (.t 17)), o 109 (.ld false 1 (.t 108)), o 110 (.bin .add (.t 107) (.t 109)),
 o 111 (.mv (.t 15)), o 112 (.fadr 1 (.t 17)), o 113 (.ld false 1 (.t 112)), o 114 (.fadr 2 (.t 17)), o 115 (.ld false 1 (.t 114)), o 116 (.bin .mul (.t 113) (.t 115)),
 o 117 (.bin .add (.t 111) (.t 116)), o 13 (.mv (.t 106)), o 14 (.mv (.t 110)), o 15 (.mv (.t 117))] [0, 4, 5, 9, 10, 11, 12, 13, 14, 15, 87, 88, 91, 92, 93])
 (.skip)))))
 (.ops [o 118 (.bin .add (.t 93) (ci 1)), o 93 (.mv (.t 118))] [0, 4, 5, 9, 10, 11, 12, 13, 14, 15, 87, 88, 91, 92, 93])))
def c11L2 : ACode :=
 .seq (.ops [o 89 (.bin .lss (.t 88) (.t 87))] [0, 4, 5, 9, 10, 11, 87, 88, 89])
 (.seq (.cond (.t 89)
 (.skip)
 (.exit 2))
 (.seq (.block 3 (.seq (.ops [o 90 (.mv (.t 88)), o 12 (.mv (.t 90))] [0, 4, 5, 9, 10, 11, 12, 87, 88])
 (.seq (.ops [o 13 (.nilown 1)] [0, 4, 5, 9, 10, 11, 12, 13, 87, 88])
 (.seq (.ops [o 14 (.mv (ci 0)), o 15 (.mv (ci 0))] [0, 4, 5, 9, 10, 11, 12, 13, 14, 15, 87, 88])
 (.seq (.seq (.ops [o 91 (.mv (.t 0)), o 92 (.len 1 (.t 91)), o 93 (.mv (ci 0))] [0, 4, 5, 9, 10, 11, 12, 13, 14, 15, 87, 88, 91, 92, 93])
 (.block 4 (.loop true [0, 4, 5, 9, 10, 11, 12, 13, 14, 15, 87, 88, 91, 92, 93] c11L1)))
 (.seq (.opsd [(0, 1), (1, 1), (2, 1), (3, 1), (4, 1), (5, 0), (6, 1), (7, 1), (8, 1), (9, 1), (10, 1)] [o 120 (.mv (.t 0)), o 121 (.call true false 0 (.fn 77) [.t 120]),
 o 122 (.mv (.t 13)), o 123 (.call true false 0 (.fn 33) [.t 122]), o 124 (.ld true 2 (.t 4)), o 125 (.call true true 0 (.fn 76) [.t 121, .t 123, .t 124]),
 o 119 (.mv (.t 125)), o 126 (.ext (.t 119) 0), o 127 (.ext (.t 119) 1), o 18 (.mv (.t 126)), o 19 (.mv (.t 127))] [0, 4, 5, 9, 10, 11, 13, 14, 15, 18, 19, 87, 88])
 (.seq (.seq (.ops [o 128 (.mv (.t 19)), o 129 (.bin .neq (.t 128) (ci 0)), o 130 (.mv (.t 129)), ⟨some 131, .mv (.t 18), some (130, false)⟩,
 ⟨some 132, .mv (.t 15), some (130, false)⟩, ⟨some 133, .fadr 0 (.t 4), some (130, false)⟩, ⟨some 134, .ld false 1 (.t 133), some (130, false)⟩,
 ⟨some 135, .bin .geq (.t 132) (.t 134), some (130, false)⟩, ⟨some 136, .mv (.t 135), some (130, false)⟩, ⟨some 137, .mv (.t 15), some (136, true)⟩,
 ⟨some 138, .fadr 1 (.t 4), some (136, true)⟩, ⟨some 139, .ld false 1 (.t 138), some (136, true)⟩, ⟨some 140, .bin .leq (.t 137) (.t 139), some (136, true)⟩,
 ⟨some 141, .pick (.t 136) (.t 140) (cb false), some (130, false)⟩, ⟨some 142, .eqb true (.t 131) (.t 141), some (130, false)⟩, o 143 (.pick (.t 130) (cb true) (.t 142)),
 o 144 (.mv (.t 143)), ⟨some 145, .mv (.t 18), some (144, false)⟩, ⟨some 146, .mv (.t 145), some (144, false)⟩, ⟨some 147, .mv (.t 11), some (146, true)⟩,
 ⟨some 148, .bin .neq (.t 147) (ci 0), some (146, true)⟩, ⟨some 149, .pick (.t 146) (.t 148) (cb false), some (144, false)⟩, o 150 (.pick (.t 144) (cb true) (.t 149)),
 o 151 (.mv (.t 150)), ⟨some 152, .mv (.t 18), some (151, false)⟩, ⟨some 153, .mv (.t 152), some (151, false)⟩, ⟨some 154, .mv (.t 14), some (153, true)⟩,
 ⟨some 155, .mv (.t 10), some (153, true)⟩, ⟨some 156, .bin .lss (.t 154) (.t 155), some (153, true)⟩, ⟨some 157, .mv (.t 156), some (153, true)⟩,
 ⟨some 158, .mv (.t 14), some (157, false)⟩, ⟨some 159, .mv (.t 10), some (157, false)⟩, ⟨some 160, .bin .eql (.t 158) (.t 159), some (157, false)⟩,
 ⟨some 161, .mv (.t 160), some (157, false)⟩, ⟨some 162, .mv (.t 13), some (161, true)⟩, ⟨some 163, .len 1 (.t 162), some (161, true)⟩,
 ⟨some 164, .mv (.t 9), some (161, true)⟩, ⟨some 165, .len 1 (.t 164), some (161, true)⟩, ⟨some 166, .bin .lss (.t 163) (.t 165), some (161, true)⟩,
 ⟨some 167, .pick (.t 161) (.t 166) (cb false), some (157, false)⟩, ⟨some 168, .pick (.t 157) (cb true) (.t 167), some (153, true)⟩,
 ⟨some 169, .pick (.t 153) (.t 168) (cb false), some (151, false)⟩, o 170 (.pick (.t 151) (cb true) (.t 169))] [0, 4, 5, 9, 10, 11, 13, 14, 18, 87, 88, 170])
 (.cond (.t 170)
 (.seq (.ops [o 6 (.mv (cb false))] [6])
 (.ret))
 (.skip)))
 (.seq (.ops [o 171 (.mv (.t 11)), o 172 (.bin .eql (.t 171) (ci 0)), o 173 (.mv (.t 172)), ⟨some 174, .mv (.t 13), some (173, true)⟩,
 ⟨some 175, .mv (.t 9), some (173, true)⟩, ⟨some 176, .call true true 0 (.fn 29) [.t 174, .t 175], some (173, true)⟩, o 177 (.pick (.t 173) (.t 176) (cb false)),
 o 178 (.mv (.t 177)), ⟨some 179, .mv (.t 18), some (178, true)⟩, ⟨some 180, .not (.t 179), some (178, true)⟩, ⟨some 181, .mv (.t 180), some (178, true)⟩,
 ⟨some 182, .mv (.t 14), some (181, false)⟩, ⟨some 183, .mv (.t 10), some (181, false)⟩, ⟨some 184, .bin .neq (.t 182) (.t 183), some (181, false)⟩,
 ⟨some 185, .pick (.t 181) (cb true) (.t 184), some (178, true)⟩, o 186 (.pick (.t 178) (.t 185) (cb false))] [0, 4, 5, 9, 10, 11, 87, 88, 186])
 (.cond (.t 186)
 (.seq (.ops [o 6 (.mv (cb false))] [6])
 (.ret))
 (.skip))))))))))
 (.ops [o 187 (.bin .add (.t 88) (ci 1)), o 88 (.mv (.t 187))] [0, 4, 5, 9, 10, 11, 87, 88])))
def c11L3 : ACode :=
 .seq (.ops [o 272 (.bin .lss (.t 271) (ci 4))] [0, 4, 10, 11, 270, 271, 272])
 (.seq (.cond (.t 272)
 (.skip)
 (.exit 6))
 (.seq (.block 7 (.seq (.ops [o 273 (.idx false 1 4 (.t 270) (.t 271)), o 28 (.mv (.t 273))] [0, 4, 10, 11, 28, 270, 271])
 (.seq (.opsd [(0, 1), (1, 1), (2, 1), (3, 1), (4, 0), (5, 1), (6, 1), (7, 1), (8, 1), (9, 1)] [o 275 (.mv (.t 0)), o 276 (.call true false 0 (.fn 77) [.t 275]),
 o 277 (.ld true 2 (.t 4)), o 278 (.mv (.t 28)), o 279 (.call true true 0 (.fn 79) [.t 276, .t 277, .t 278]), o 274 (.mv (.t 279)), o 280 (.ext (.t 274) 0),
 o 281 (.ext (.t 274) 1), o 29 (.mv (.t 280)), o 30 (.mv (.t 281))] [0, 4, 10, 11, 29, 30, 270, 271])
 (.seq (.ops [o 282 (.mv (.t 30)), o 283 (.bin .neq (.t 282) (ci 0)), o 284 (.mv (.t 283)), ⟨some 285, .mv (.t 11), some (284, false)⟩,
 ⟨some 286, .bin .eql (.t 285) (ci 0), some (284, false)⟩, ⟨some 287, .mv (.t 286), some (284, false)⟩, ⟨some 288, .mv (.t 29), some (287, true)⟩,
 ⟨some 289, .mv (.t 10), some (287, true)⟩, ⟨some 290, .bin .gtr (.t 288) (.t 289), some (287, true)⟩, ⟨some 291, .pick (.t 287) (.t 290) (cb false), some (284, false)⟩,
 o 292 (.pick (.t 284) (cb true) (.t 291))] [0, 4, 10, 11, 270, 271, 292])
 (.cond (.t 292)
 (.seq (.ops [o 6 (.mv (cb false))] [6])
 (.ret))
 (.skip))))))
 (.ops [o 293 (.bin .add (.t 271) (ci 1)), o 271 (.mv (.t 293))] [0, 4, 10, 11, 270, 271])))
def c11 : AFunc := ⟨295, [.tmp 6],
 .seq (.ops [o 4 (.box true (.t 1)), o 5 (.box true (.t 2)), o 6 (.mv (cb false))] [0, 4, 5])
 (.seq (.seq (.ops [o 31 (.mv (.t 0)), o 32 (.call true true 0 (.fn 75) [.t 31]), o 33 (.not (.t 32)), o 34 (.mv (.t 33)), ⟨some 35, .mv (.t 0), some (34, false)⟩,
 ⟨some 36, .len 1 (.t 35), some (34, false)⟩, ⟨some 37, .bin .gtr (.t 36) (ci 5), some (34, false)⟩, o 38 (.pick (.t 34) (cb true) (.t 37)), o 39 (.mv (.t 38)),
 ⟨some 40, .mv (.t 0), some (39, false)⟩, ⟨some 41, .call true true 0 (.fn 80) [.t 40], some (39, false)⟩, ⟨some 42, .bin .neq (.t 41) (ci 0), some (39, false)⟩,
 o 43 (.pick (.t 39) (cb true) (.t 42)), o 44 (.mv (.t 43)), ⟨some 45, .ld true 2 (.t 4), some (44, false)⟩, ⟨some 46, .call true true 0 (.fn 81) [.t 45], some (44, false)⟩,
 ⟨some 47, .bin .neq (.t 46) (ci 0), some (44, false)⟩, o 48 (.pick (.t 44) (cb true) (.t 47))] [0, 4, 5, 48])
 (.cond (.t 48)
 (.seq (.ops [o 49 (.call true true 0 (.fn 12) []), o 6 (.mv (.t 49))] [6])
 (.ret))
 (.skip)))
 (.seq (.seq (.ops [o 50 (.mv (.t 0)), o 51 (.len 1 (.t 50)), o 52 (.mv (ci 0))] [0, 4, 5, 50, 51, 52])
 (.block 0 (.loop true [0, 4, 5, 50, 51, 52] c11L0)))
 (.seq (.opsd [(0, 1), (1, 1), (2, 1), (3, 0), (4, 1), (5, 1), (6, 1), (7, 1), (8, 1), (9, 1), (10, 1)] [o 62 (.mv (.t 0)), o 63 (.call true false 0 (.fn 77) [.t 62]),
 o 64 (.ld true 2 (.t 4)), o 65 (.call true false 0 (.fn 78) [.t 63, .t 64]), o 61 (.mv (.t 65)), o 66 (.ext (.t 61) 0), o 67 (.ext (.t 61) 1), o 68 (.ext (.t 61) 2),
 o 9 (.mv (.t 66)), o 10 (.mv (.t 67)), o 11 (.mv (.t 68))] [0, 4, 5, 9, 10, 11])
 (.seq (.seq (.ops [o 69 (.mv (.t 11)), o 70 (.bin .neq (.t 69) (ci 0)), o 71 (.mv (.t 70)), ⟨some 72, .mv (.t 11), some (71, true)⟩,
 ⟨some 73, .bin .neq (.t 72) (ci 18), some (71, true)⟩, o 74 (.pick (.t 71) (.t 73) (cb false)), o 75 (.mv (.t 74)), ⟨some 76, .mv (.t 11), some (75, false)⟩,
 ⟨some 77, .bin .eql (.t 76) (ci 0), some (75, false)⟩, ⟨some 78, .mv (.t 77), some (75, false)⟩, ⟨some 79, .mv (.t 0), some (78, true)⟩,
 ⟨some 80, .mv (.t 9), some (78, true)⟩, ⟨some 81, .call true true 0 (.fn 83) [.t 79, .t 80], some (78, true)⟩, ⟨some 82, .bin .neq (.t 81) (ci 0), some (78, true)⟩,
 ⟨some 83, .pick (.t 78) (.t 82) (cb false), some (75, false)⟩, o 84 (.pick (.t 75) (cb true) (.t 83))] [0, 4, 5, 9, 10, 11, 84])
 (.cond (.t 84)
 (.seq (.ops [o 6 (.mv (cb false))] [6])
 (.ret))
 (.skip)))
 (.seq (.seq (.ops [o 85 (.mv (.t 0)), o 86 (.len 1 (.t 85)), o 87 (.shift true (ci 1) (.t 86)), o 88 (.mv (ci 0))] [0, 4, 5, 9, 10, 11, 87, 88])
 (.block 2 (.loop true [0, 4, 5, 9, 10, 11, 87, 88] c11L2)))
 (.seq (.ops [o 188 (.fadr 0 (.t 4)), o 189 (.ld false 1 (.t 188)), o 190 (.iadra 1 2 (.t 5) (ci 0)), o 191 (.ld false 1 (.t 190)), o 192 (.conv (.int .i64) (.t 191)),
 o 193 (.max [ci 0, .t 192]), o 194 (.bin .sub (.t 189) (.t 193)), o 195 (.max [ci 0, .t 194]), o 196 (.fadr 1 (.t 4)), o 197 (.ld false 1 (.t 196)),
 o 198 (.iadra 1 2 (.t 5) (ci 1)), o 199 (.ld false 1 (.t 198)), o 200 (.conv (.int .i64) (.t 199)), o 201 (.max [ci 0, .t 200]), o 202 (.bin .add (.t 197) (.t 201)),
 o 203 (.min [ci 10000000, .t 202]), o 204 (.call true true 0 (.fn 73) [.t 195, .t 203]), o 20 (.alloc true 1 [.p (.int .i64 0), .p (.int .i64 0)]),
 u (.st 2 (.t 20) (.t 204))] [0, 4, 5, 9, 10, 11, 20])
 (.seq (.opsd [(0, 1), (1, 1), (2, 1), (3, 0), (4, 1), (5, 1), (6, 1), (7, 1), (8, 1), (9, 1), (10, 1)] [o 206 (.mv (.t 0)), o 207 (.call true false 0 (.fn 77) [.t 206]),
 o 208 (.ld true 2 (.t 20)), o 209 (.call true false 0 (.fn 78) [.t 207, .t 208]), o 205 (.mv (.t 209)), o 210 (.ext (.t 205) 0), o 211 (.ext (.t 205) 1),
 o 212 (.ext (.t 205) 2), o 21 (.mv (.t 210)), o 22 (.mv (.t 211)), o 23 (.mv (.t 212))] [0, 4, 5, 9, 10, 11, 22, 23])
 (.seq (.ops [u (.fail), o 214 (.mv (.t 0)), o 215 (.call true false 4 (.fn 77) [.t 214]),
 o 216 (.build [.p (.str []), .p (.int .i64 0), .p (.int .i64 0), .p (.int .i64 0)] [(0, 1, cs [109, 111, 114, 101]), (2, 1, ci 1)]),
 o 217 (.bslice false 4 [.p (.str []), .p (.int .i64 0), .p (.int .i64 0), .p (.int .i64 0)] 1 [(0, .t 216)]),
 o 218 (.app 4 40 [.p (.str []), .p (.int .i64 0), .p (.int .i64 0), .p (.int .i64 0)] (.t 215) (.t 217)), o 219 (.ld true 2 (.t 4)),
 o 220 (.call true false 0 (.fn 78) [.t 218, .t 219]), o 213 (.mv (.t 220)), o 221 (.ext (.t 213) 0), o 222 (.ext (.t 213) 1), o 223 (.ext (.t 213) 2), o 24 (.mv (.t 221)),
 o 25 (.mv (.t 222)), o 26 (.mv (.t 223))] [0, 4, 5, 9, 10, 11, 22, 23, 24, 25, 26])
 (.seq (.seq (.ops [o 224 (.mv (.t 11)), o 225 (.bin .eql (.t 224) (ci 0)), o 226 (.mv (.t 225)), ⟨some 227, .mv (.t 23), some (226, true)⟩,
 ⟨some 228, .bin .neq (.t 227) (ci 0), some (226, true)⟩, ⟨some 229, .mv (.t 228), some (226, true)⟩, ⟨some 230, .mv (.t 22), some (229, false)⟩,
 ⟨some 231, .mv (.t 10), some (229, false)⟩, ⟨some 232, .bin .gtr (.t 230) (.t 231), some (229, false)⟩, ⟨some 233, .pick (.t 229) (cb true) (.t 232), some (226, true)⟩,
 ⟨some 234, .mv (.t 233), some (226, true)⟩, ⟨some 235, .mv (.t 26), some (234, false)⟩, ⟨some 236, .bin .neq (.t 235) (ci 0), some (234, false)⟩,
 ⟨some 237, .pick (.t 234) (cb true) (.t 236), some (226, true)⟩, ⟨some 238, .mv (.t 237), some (226, true)⟩, ⟨some 239, .mv (.t 25), some (238, false)⟩,
 ⟨some 240, .mv (.t 10), some (238, false)⟩, ⟨some 241, .bin .neq (.t 239) (.t 240), some (238, false)⟩, ⟨some 242, .pick (.t 238) (cb true) (.t 241), some (226, true)⟩,
 ⟨some 243, .mv (.t 242), some (226, true)⟩, ⟨some 244, .mv (.t 24), some (243, false)⟩, ⟨some 245, .mv (.t 9), some (243, false)⟩,
 ⟨some 246, .call true true 0 (.fn 29) [.t 244, .t 245], some (243, false)⟩, ⟨some 247, .not (.t 246), some (243, false)⟩,
 ⟨some 248, .pick (.t 243) (cb true) (.t 247), some (226, true)⟩, o 249 (.pick (.t 226) (.t 248) (cb false)), o 250 (.mv (.t 249)),
 ⟨some 251, .mv (.t 11), some (250, false)⟩, ⟨some 252, .bin .neq (.t 251) (ci 0), some (250, false)⟩, ⟨some 253, .mv (.t 252), some (250, false)⟩,
 ⟨some 254, .mv (.t 26), some (253, true)⟩, ⟨some 255, .bin .neq (.t 254) (ci 18), some (253, true)⟩, ⟨some 256, .pick (.t 253) (.t 255) (cb false), some (250, false)⟩,
 o 257 (.pick (.t 250) (cb true) (.t 256))] [0, 4, 5, 10, 11, 257])
 (.cond (.t 257)
 (.seq (.ops [o 6 (.mv (cb false))] [6])
 (.ret))
 (.skip)))
 (.seq (.seq (.ops [o 258 (.iadra 1 2 (.t 5) (ci 0)), o 259 (.ld false 1 (.t 258)), o 260 (.conv (.int .i64) (.t 259)), o 261 (.bin .rem (.t 260) (ci 1001)),
 o 262 (.iadra 1 2 (.t 5) (ci 1)), o 263 (.ld false 1 (.t 262)), o 264 (.conv (.int .i64) (.t 263)), o 265 (.bin .rem (.t 264) (ci 1001)), o 266 (.iadra 1 2 (.t 5) (ci 0)),
 o 267 (.ld false 1 (.t 266)), o 268 (.conv (.int .i64) (.t 267)), o 269 (.bin .rem (.t 268) (ci 7)),
 o 270 (.build [.p (.int .i64 0), .p (.int .i64 0), .p (.int .i64 0), .p (.int .i64 0)] [(0, 1, ci 0), (1, 1, .t 261), (2, 1, .t 265), (3, 1, .t 269)]),
 o 271 (.mv (ci 0))] [0, 4, 10, 11, 270, 271])
 (.block 6 (.loop false [0, 4, 10, 11, 270, 271] c11L3)))
 (.seq (.ops [o 294 (.call true true 0 (.fn 12) []), o 6 (.mv (.t 294))] [6])
 (.ret))))))))))))⟩

/-- crumple/crumplelaw08.awake -/
def c12 : AFunc := ⟨422, [.tmp 0],
 .seq (.ops [o 0 (.mv (cb false))] [])
 (.seq (.ops [o 56 (.call true true 0 (.fn 88) []), o 57 (.call true false 0 (.fn 89) [ci 40, ci 20]), o 58 (.call true false 0 (.fn 15) [.t 56, .t 57, ci 100, ci 4]),
 o 55 (.mv (.t 58)), o 59 (.ext (.t 55) 0), o 60 (.ext (.t 55) 1), o 1 (.mv (.t 59)), o 2 (.mv (.t 60))] [1, 2])
 (.seq (.ops [o 62 (.call true true 0 (.fn 88) []), o 63 (.call true false 0 (.fn 89) [ci 40, ci 20]), o 64 (.call true false 0 (.fn 15) [.t 62, .t 63, ci 200, ci 4]),
 o 61 (.mv (.t 64)), o 65 (.ext (.t 61) 0), o 66 (.ext (.t 61) 1), o 3 (.mv (.t 65)), o 4 (.mv (.t 66))] [1, 2, 3, 4])
 (.seq (.ops [o 68 (.call true true 0 (.fn 88) []), o 69 (.call true false 0 (.fn 89) [ci 40, ci 20]), o 70 (.call true true 0 (.fn 17) [.t 68, .t 69, ci 4]),
 o 67 (.mv (.t 70)), o 71 (.ext (.t 67) 0), o 72 (.ext (.t 67) 1), o 5 (.mv (.t 71)), o 6 (.mv (.t 72))] [1, 2, 3, 4, 5, 6])
 (.seq (.ops [o 74 (.call true true 0 (.fn 88) []), o 75 (.call true false 0 (.fn 89) [ci 40, ci 20]), o 76 (.call true true 0 (.fn 17) [.t 74, .t 75, ci 2]),
 o 73 (.mv (.t 76)), o 77 (.ext (.t 73) 0), o 78 (.ext (.t 73) 1), o 7 (.mv (.t 77)), o 8 (.mv (.t 78))] [1, 2, 3, 4, 5, 6, 7, 8])
 (.seq (.ops [o 80 (.call true true 0 (.fn 88) []), o 81 (.call true false 0 (.fn 89) [ci 30, ci 20]), o 82 (.call true false 0 (.fn 16) [.t 80, .t 81, ci 4]),
 o 79 (.mv (.t 82)), o 83 (.ext (.t 79) 0), o 84 (.ext (.t 79) 1), o 9 (.mv (.t 83)), o 10 (.mv (.t 84))] [1, 2, 3, 4, 5, 6, 7, 8, 9, 10])
 (.seq (.ops [o 86 (.call true false 0 (.fn 90) []), o 87 (.bslice false 1 [.p (.int .i64 0)] 4 [(0, ci 15), (1, ci 22), (2, ci 26), (3, ci 28)]),
 o 88 (.call true true 0 (.fn 31) [.t 86, .t 87]), o 85 (.mv (.t 88)), o 89 (.ext (.t 85) 0), o 90 (.ext (.t 85) 1), o 11 (.mv (.t 89)),
 o 12 (.mv (.t 90))] [1, 2, 3, 4, 5, 6, 7, 8, 9, 10, 11, 12])
 (.seq (.ops [o 92 (.call true false 0 (.fn 90) []), o 93 (.bslice false 1 [.p (.int .i64 0)] 4 [(0, ci 15), (1, ci 22), (2, ci 26), (3, ci 28)]),
 o 94 (.call true true 0 (.fn 34) [.t 92, .t 93]), o 91 (.mv (.t 94)), o 95 (.ext (.t 91) 0), o 96 (.ext (.t 91) 1), o 97 (.ext (.t 91) 2), o 13 (.mv (.t 95)),
 o 14 (.mv (.t 96)), o 15 (.mv (.t 97))] [1, 2, 3, 4, 5, 6, 7, 8, 9, 10, 11, 12, 13, 14, 15])
 (.seq (.ops [o 99 (.bslice false 1 [.p (.int .i64 0)] 4 [(0, ci 15), (1, ci 22), (2, ci 26), (3, ci 28)]), o 100 (.call true false 0 (.fn 35) [.t 99]), o 98 (.mv (.t 100)),
 o 101 (.ext (.t 98) 0), o 102 (.ext (.t 98) 1), o 16 (.mv (.t 101)), o 17 (.mv (.t 102))] [1, 2, 3, 4, 5, 6, 7, 8, 9, 10, 11, 12, 13, 14, 15, 16, 17])
 (.seq (.ops [o 104 (.bslice false 1 [.p (.int .i64 0)] 4 [(0, ci 15), (1, ci 22), (2, ci 26), (3, ci 28)]), o 105 (.call true false 0 (.fn 36) [.t 104]),
 o 103 (.mv (.t 105)), o 106 (.ext (.t 103) 0), o 107 (.ext (.t 103) 1), o 18 (.mv (.t 106)),
 o 19 (.mv (.t 107))] [1, 2, 3, 4, 5, 6, 7, 8, 9, 10, 11, 12, 13, 14, 15, 16, 17, 18, 19])
 (.seq (.ops [o 109 (.call true true 0 (.fn 88) []), o 110 (.call true false 0 (.fn 89) [ci 30, ci 20]), o 111 (.call true false 0 (.fn 90) []),
 o 112 (.bslice false 1 [.p (.int .i64 0)] 4 [(0, ci 15), (1, ci 22), (2, ci 26), (3, ci 28)]), o 113 (.call true false 0 (.fn 44) [.t 109, .t 110, .t 111, .t 112, ci 2]),
 o 108 (.mv (.t 113)), o 114 (.ext (.t 108) 0), o 115 (.ext (.t 108) 1), o 20 (.mv (.t 114)),
 o 21 (.mv (.t 115))] [1, 2, 3, 4, 5, 6, 7, 8, 9, 10, 11, 12, 13, 14, 15, 16, 17, 18, 19, 20, 21])
 (.seq (.ops [o 117 (.call true true 0 (.fn 88) []), o 118 (.call true false 0 (.fn 89) [ci 30, ci 20]), o 119 (.call true false 0 (.fn 90) []),
 o 120 (.build [.p (.int .i64 0), .p (.int .i64 0)] [(0, 1, ci 2), (1, 1, ci 2)]), o 121 (.call true false 0 (.fn 45) [.t 117, .t 118, .t 119, ci 100, .t 120]),
 o 116 (.mv (.t 121)), o 122 (.ext (.t 116) 0), o 123 (.ext (.t 116) 1), o 22 (.mv (.t 122)),
 o 23 (.mv (.t 123))] [1, 2, 3, 4, 5, 6, 7, 8, 9, 10, 11, 12, 13, 14, 15, 16, 17, 18, 19, 20, 21, 22, 23])
 (.seq (.ops [o 125 (.call true true 0 (.fn 88) []), o 126 (.call true false 0 (.fn 89) [ci 40, ci 20]), o 127 (.call true false 0 (.fn 90) []),
 o 128 (.bslice false 1 [.p (.int .i64 0)] 4 [(0, ci 15), (1, ci 22), (2, ci 26), (3, ci 28)]), o 129 (.call true false 0 (.fn 44) [.t 125, .t 126, .t 127, .t 128, ci 2]),
 o 124 (.mv (.t 129)), o 130 (.ext (.t 124) 0), o 131 (.ext (.t 124) 1), o 24 (.mv (.t 130)),
 o 25 (.mv (.t 131))] [1, 2, 3, 4, 5, 6, 7, 8, 9, 10, 11, 12, 13, 14, 15, 16, 17, 18, 19, 20, 21, 22, 23, 25])
 (.seq (.seq (.ops [o 132 (.mv (.t 2)), o 133 (.mv (.t 4)), o 134 (.bin .add (.t 132) (.t 133)), o 135 (.mv (.t 6)), o 136 (.bin .add (.t 134) (.t 135)), o 137 (.mv (.t 8)),
 o 138 (.bin .add (.t 136) (.t 137)), o 139 (.mv (.t 10)), o 140 (.bin .add (.t 138) (.t 139)), o 141 (.mv (.t 12)), o 142 (.bin .add (.t 140) (.t 141)),
 o 143 (.mv (.t 15)), o 144 (.bin .add (.t 142) (.t 143)), o 145 (.mv (.t 17)), o 146 (.bin .add (.t 144) (.t 145)), o 147 (.mv (.t 19)),
 o 148 (.bin .add (.t 146) (.t 147)), o 149 (.mv (.t 21)), o 150 (.bin .add (.t 148) (.t 149)), o 151 (.mv (.t 23)), o 152 (.bin .add (.t 150) (.t 151)),
 o 153 (.bin .neq (.t 152) (ci 0)), o 154 (.mv (.t 153)), ⟨some 155, .mv (.t 25), some (154, false)⟩, ⟨some 156, .bin .neq (.t 155) (ci 21), some (154, false)⟩,
 o 157 (.pick (.t 154) (cb true) (.t 156)), o 158 (.mv (.t 157)), ⟨some 159, .mv (.t 1), some (158, false)⟩,
 ⟨some 160, .bslice false 1 [.p (.int .i64 0)] 4 [(0, ci 20), (1, ci 30), (2, ci 35), (3, ci 37)], some (158, false)⟩,
 ⟨some 161, .call true true 0 (.fn 29) [.t 159, .t 160], some (158, false)⟩, ⟨some 162, .not (.t 161), some (158, false)⟩, o 163 (.pick (.t 158) (cb true) (.t 162)),
 o 164 (.mv (.t 163)), ⟨some 165, .mv (.t 3), some (164, false)⟩,
 ⟨some 166, .bslice false 1 [.p (.int .i64 0)] 4 [(0, ci 40), (1, ci 60), (2, ci 70), (3, ci 75)], some (164, false)⟩,
 ⟨some 167, .call true true 0 (.fn 29) [.t 165, .t 166], some (164, false)⟩, ⟨some 168, .not (.t 167), some (164, false)⟩, o 169 (.pick (.t 164) (cb true) (.t 168)),
 o 170 (.mv (.t 169)), ⟨some 171, .mv (.t 5), some (170, false)⟩, o 172 (.pick (.t 170) (cb true) (.t 171)), o 173 (.mv (.t 172)), ⟨some 174, .mv (.t 7), some (173, false)⟩,
 ⟨some 175, .not (.t 174), some (173, false)⟩, o 176 (.pick (.t 173) (cb true) (.t 175)), o 177 (.mv (.t 176)), ⟨some 178, .mv (.t 9), some (177, false)⟩,
 ⟨some 179, .call true true 0 (.fn 73) [ci 15, ci 30], some (177, false)⟩, ⟨some 180, .call true true 0 (.fn 73) [ci 22, ci 45], some (177, false)⟩,
 ⟨some 181, .call true true 0 (.fn 73) [ci 26, ci 52], some (177, false)⟩, ⟨some 182, .call true true 0 (.fn 73) [ci 28, ci 56], some (177, false)⟩,
 ⟨some 183, .bslice false 2 [.p (.int .i64 0), .p (.int .i64 0)] 4 [(0, .t 179), (1, .t 180), (2, .t 181), (3, .t 182)], some (177, false)⟩,
 ⟨some 184, .call true true 0 (.fn 30) [.t 178, .t 183], some (177, false)⟩, ⟨some 185, .not (.t 184), some (177, false)⟩, o 186 (.pick (.t 177) (cb true) (.t 185)),
 o 187 (.mv (.t 186)), ⟨some 188, .mv (.t 11), some (187, false)⟩, o 189 (.pick (.t 187) (cb true) (.t 188)), o 190 (.mv (.t 189)),
 ⟨some 191, .mv (.t 13), some (190, false)⟩, ⟨some 192, .bin .neq (.t 191) (ci 5), some (190, false)⟩, o 193 (.pick (.t 190) (cb true) (.t 192)), o 194 (.mv (.t 193)),
 ⟨some 195, .mv (.t 14), some (194, false)⟩, ⟨some 196, .bin .neq (.t 195) (ci 0), some (194, false)⟩, o 197 (.pick (.t 194) (cb true) (.t 196)), o 198 (.mv (.t 197)),
 ⟨some 199, .mv (.t 16), some (198, false)⟩, ⟨some 200, .bslice false 1 [.p (.int .i64 0)] 4 [(0, ci 15), (1, ci 37), (2, ci 63), (3, ci 91)], some (198, false)⟩,
 ⟨some 201, .call true true 0 (.fn 29) [.t 199, .t 200], some (198, false)⟩, ⟨some 202, .not (.t 201), some (198, false)⟩, o 203 (.pick (.t 198) (cb true) (.t 202)),
 o 204 (.mv (.t 203)), ⟨some 205, .mv (.t 18), some (204, false)⟩,
 ⟨some 206, .bslice false 1 [.p (.int .i64 0)] 4 [(0, ci 15), (1, ci 52), (2, ci 115), (3, ci 206)], some (204, false)⟩,
 ⟨some 207, .call true true 0 (.fn 29) [.t 205, .t 206], some (204, false)⟩, ⟨some 208, .not (.t 207), some (204, false)⟩, o 209 (.pick (.t 204) (cb true) (.t 208)),
 o 210 (.mv (.t 209)), ⟨some 211, .mv (.t 20), some (210, false)⟩, ⟨some 212, .call true false 0 (.fn 52) [.t 211], some (210, false)⟩,
 ⟨some 213, .call true false 0 (.fn 89) [ci 32, ci 20], some (210, false)⟩, ⟨some 214, .call true false 0 (.fn 52) [.t 213], some (210, false)⟩,
 ⟨some 215, .call true true 0 (.fn 51) [.t 212, .t 214], some (210, false)⟩, ⟨some 216, .not (.t 215), some (210, false)⟩, o 217 (.pick (.t 210) (cb true) (.t 216)),
 o 218 (.mv (.t 217)), ⟨some 219, .mv (.t 22), some (218, false)⟩, ⟨some 220, .len 1 (.t 219), some (218, false)⟩, ⟨some 221, .bin .neq (.t 220) (ci 3), some (218, false)⟩,
 o 222 (.pick (.t 218) (cb true) (.t 221)), o 223 (.mv (.t 222)), ⟨some 224, .mv (.t 22), some (223, false)⟩, ⟨some 225, .iadr 1 (.t 224) (ci 1), some (223, false)⟩,
 ⟨some 226, .ld false 1 (.t 225), some (223, false)⟩, ⟨some 227, .call true false 0 (.fn 52) [.t 226], some (223, false)⟩,
 ⟨some 228, .call true false 0 (.fn 89) [ci 32, ci 20], some (223, false)⟩, ⟨some 229, .call true false 0 (.fn 52) [.t 228], some (223, false)⟩,
 ⟨some 230, .call true true 0 (.fn 51) [.t 227, .t 229], some (223, false)⟩, ⟨some 231, .not (.t 230), some (223, false)⟩, o 232 (.pick (.t 223) (cb true) (.t 231)),
 o 233 (.mv (.t 232)), ⟨some 234, .mv (.t 22), some (233, false)⟩, ⟨some 235, .iadr 1 (.t 234) (ci 2), some (233, false)⟩,
 ⟨some 236, .ld false 1 (.t 235), some (233, false)⟩, ⟨some 237, .call true false 0 (.fn 52) [.t 236], some (233, false)⟩,
 ⟨some 238, .call true false 0 (.fn 89) [ci 32, ci 20], some (233, false)⟩, ⟨some 239, .call true false 0 (.fn 52) [.t 238], some (233, false)⟩,
 ⟨some 240, .call true true 0 (.fn 51) [.t 237, .t 239], some (233, false)⟩, ⟨some 241, .not (.t 240), some (233, false)⟩, o 242 (.pick (.t 233) (cb true) (.t 241))] [242])
 (.cond (.t 242)
 (.seq (.ops [o 0 (.mv (cb false))] [0])
 (.ret))
 (.skip)))
 (.seq (.ops [o 244 (.call true false 0 (.fn 91) []), o 245 (.call true true 0 (.fn 73) [ci 60, ci 70]), o 246 (.call true false 0 (.fn 78) [.t 244, .t 245]),
 o 243 (.mv (.t 246)), o 247 (.ext (.t 243) 0), o 248 (.ext (.t 243) 1), o 249 (.ext (.t 243) 2), o 26 (.mv (.t 247)), o 27 (.mv (.t 248)), o 28 (.mv (.t 249))] [26, 27, 28])
 (.seq (.ops [o 251 (.call true false 0 (.fn 91) []), o 252 (.call true true 0 (.fn 73) [ci 101, ci 105]), o 253 (.call true false 0 (.fn 78) [.t 251, .t 252]),
 o 250 (.mv (.t 253)), o 254 (.ext (.t 250) 0), o 255 (.ext (.t 250) 1), o 256 (.ext (.t 250) 2), o 29 (.mv (.t 254)), o 30 (.mv (.t 255)),
 o 31 (.mv (.t 256))] [26, 27, 28, 31])
 (.seq (.ops [o 257 (.call true false 4 (.fn 91) []), o 258 (.slc 4 (.t 257) none (some (ci 2))), o 32 (.mv (.t 258))] [26, 27, 28, 31, 32])
 (.seq (.ops [o 259 (.mv (.t 32)), o 260 (.mv (.t 32)), o 261 (.iadr 4 (.t 259) (ci 0)), o 262 (.fadr 3 (.t 261)), u (.st 1 (.t 262) (ci 50)),
 o 263 (.iadr 4 (.t 260) (ci 1)), o 264 (.fadr 3 (.t 263)), u (.st 1 (.t 264) (ci 90))] [26, 27, 28, 31, 32])
 (.seq (.ops [o 266 (.mv (.t 32)), o 267 (.call true true 0 (.fn 73) [ci 100, ci 100]), o 268 (.call true true 0 (.fn 79) [.t 266, .t 267, ci 2]), o 265 (.mv (.t 268)),
 o 269 (.ext (.t 265) 0), o 270 (.ext (.t 265) 1), o 33 (.mv (.t 269)), o 34 (.mv (.t 270))] [26, 27, 28, 31, 33, 34])
 (.seq (.ops [o 272 (.call true false 0 (.fn 91) []), o 273 (.call true true 0 (.fn 73) [ci 60, ci 70]), o 274 (.call true true 0 (.fn 79) [.t 272, .t 273, ci 0]),
 o 271 (.mv (.t 274)), o 275 (.ext (.t 271) 0), o 276 (.ext (.t 271) 1), o 35 (.mv (.t 275)), o 36 (.mv (.t 276))] [26, 27, 28, 31, 33, 34, 35, 36])
 (.seq (.ops [o 278 (.bslice false 1 [.p (.int .i64 0)] 2 [(0, ci 1), (1, ci 5)]), o 279 (.bslice false 1 [.p (.int .i64 0)] 2 [(0, ci 3), (1, ci 4)]),
 o 280 (.bslice false 1 [.p (.nils)] 2 [(0, .t 278), (1, .t 279)]), o 281 (.call true false 0 (.fn 56) [.t 280]), o 277 (.mv (.t 281)), o 282 (.ext (.t 277) 0),
 o 283 (.ext (.t 277) 1), o 37 (.mv (.t 282)), o 38 (.mv (.t 283))] [26, 27, 28, 31, 33, 34, 35, 36, 37, 38])
 (.seq (.ops [o 285 (.bslice false 1 [.p (.int .i64 0)] 2 [(0, ci 1), (1, ci 5)]), o 286 (.bslice false 1 [.p (.int .i64 0)] 2 [(0, ci 3), (1, ci 4)]),
 o 287 (.bslice false 1 [.p (.nils)] 2 [(0, .t 285), (1, .t 286)]), o 288 (.call true false 0 (.fn 58) [.t 287]), o 284 (.mv (.t 288)), o 289 (.ext (.t 284) 0),
 o 290 (.ext (.t 284) 1), o 39 (.mv (.t 289)), o 40 (.mv (.t 290))] [26, 27, 28, 31, 33, 34, 35, 36, 37, 38, 39, 40])
 (.seq (.ops [o 292 (.bslice false 1 [.p (.int .i64 0)] 2 [(0, ci 1), (1, ci 5)]), o 293 (.bslice false 1 [.p (.int .i64 0)] 2 [(0, ci 3), (1, ci 4)]),
 o 294 (.bslice false 1 [.p (.nils)] 2 [(0, .t 292), (1, .t 293)]), o 295 (.call true true 0 (.fn 59) [.t 294, ci 2]), o 291 (.mv (.t 295)), o 296 (.ext (.t 291) 0),
 o 297 (.ext (.t 291) 1), o 41 (.mv (.t 296)), o 42 (.mv (.t 297))] [26, 27, 28, 31, 33, 34, 35, 36, 37, 38, 39, 40, 41, 42])
 (.seq (.ops [o 299 (.bslice false 1 [.p (.int .i64 0)] 2 [(0, ci 1), (1, ci 5)]), o 300 (.bslice false 1 [.p (.int .i64 0)] 2 [(0, ci 3), (1, ci 4)]),
 o 301 (.bslice false 1 [.p (.nils)] 2 [(0, .t 299), (1, .t 300)]), o 302 (.call true true 0 (.fn 59) [.t 301, ci 1]), o 298 (.mv (.t 302)), o 303 (.ext (.t 298) 0),
 o 304 (.ext (.t 298) 1), o 43 (.mv (.t 303)), o 44 (.mv (.t 304))] [26, 27, 28, 31, 33, 34, 35, 36, 37, 38, 39, 40, 41, 42, 43, 44])
 (.seq (.ops [o 306 (.build [.p (.int .i64 0), .p (.int .i64 0), .p (.int .i64 0)] [(0, 1, ci 3), (1, 1, ci 4), (2, 1, ci 5)]),
 o 307 (.bslice false 1 [.p (.int .i64 0)] 2 [(0, ci 7), (1, ci (-5))]), o 308 (.call true false 0 (.fn 60) [.t 306, .t 307]), o 305 (.mv (.t 308)), o 309 (.ext (.t 305) 0),
 o 310 (.ext (.t 305) 1), o 311 (.ext (.t 305) 2), o 45 (.mv (.t 309)), o 46 (.mv (.t 310)),
 o 47 (.mv (.t 311))] [26, 27, 28, 31, 33, 34, 35, 36, 37, 38, 39, 40, 41, 42, 43, 44, 45, 46, 47])
 (.seq (.ops [o 313 (.call true false 0 (.fn 89) [ci 40, ci 20]), o 314 (.call true true 0 (.fn 69) [.t 313]), o 312 (.mv (.t 314)), o 315 (.ext (.t 312) 0),
 o 316 (.ext (.t 312) 1), o 48 (.mv (.t 315)), o 49 (.mv (.t 316))] [26, 27, 28, 31, 33, 34, 35, 36, 37, 38, 39, 40, 41, 42, 43, 44, 45, 46, 47, 48, 49])
 (.seq (.ops [o 318 (.mv (.t 48)), o 319 (.call false false 0 (.fn 70) [.t 318]), o 317 (.mv (.t 319)), o 320 (.ext (.t 317) 0), o 321 (.ext (.t 317) 1),
 o 322 (.ext (.t 317) 2), o 50 (.mv (.t 320)), o 51 (.mv (.t 321)),
 o 52 (.mv (.t 322))] [26, 27, 28, 31, 33, 34, 35, 36, 37, 38, 39, 40, 41, 42, 43, 44, 45, 46, 47, 48, 49, 50, 51, 52])
 (.seq (.ops [o 324 (.call true false 0 (.fn 89) [ci 40, ci 20]), o 325 (.call true false 0 (.fn 13) [.t 324, ci 4]), o 323 (.mv (.t 325)), o 326 (.ext (.t 323) 0),
 o 327 (.ext (.t 323) 1), o 53 (.mv (.t 326)), o 54 (.mv (.t 327))] [26, 27, 28, 31, 33, 34, 35, 36, 37, 38, 39, 40, 41, 42, 43, 44, 45, 46, 47, 48, 49, 50, 51, 52, 53, 54])
 (.seq (.ops [o 328 (.mv (.t 28)), o 329 (.mv (.t 34)), o 330 (.bin .add (.t 328) (.t 329)), o 331 (.mv (.t 36)), o 332 (.bin .add (.t 330) (.t 331)), o 333 (.mv (.t 38)),
 o 334 (.bin .add (.t 332) (.t 333)), o 335 (.mv (.t 40)), o 336 (.bin .add (.t 334) (.t 335)), o 337 (.mv (.t 42)), o 338 (.bin .add (.t 336) (.t 337)), o 339 (.mv (.t 44)),
 o 340 (.bin .add (.t 338) (.t 339)), o 341 (.mv (.t 47)), o 342 (.bin .add (.t 340) (.t 341)), o 343 (.mv (.t 49)), o 344 (.bin .add (.t 342) (.t 343)), o 345 (.mv (.t 52)),
 o 346 (.bin .add (.t 344) (.t 345)), o 347 (.mv (.t 54)), o 348 (.bin .add (.t 346) (.t 347)), o 349 (.bin .eql (.t 348) (ci 0)), o 350 (.mv (.t 349)),
 ⟨some 351, .mv (.t 31), some (350, true)⟩, ⟨some 352, .bin .eql (.t 351) (ci 18), some (350, true)⟩, o 353 (.pick (.t 350) (.t 352) (cb false)), o 354 (.mv (.t 353)),
 ⟨some 355, .mv (.t 26), some (354, true)⟩, ⟨some 356, .bslice false 1 [.p (.int .i64 0)] 2 [(0, ci 0), (1, ci 2)], some (354, true)⟩,
 ⟨some 357, .call true true 0 (.fn 29) [.t 355, .t 356], some (354, true)⟩, o 358 (.pick (.t 354) (.t 357) (cb false)), o 359 (.mv (.t 358)),
 ⟨some 360, .mv (.t 27), some (359, true)⟩, ⟨some 361, .bin .eql (.t 360) (ci 7), some (359, true)⟩, o 362 (.pick (.t 359) (.t 361) (cb false)), o 363 (.mv (.t 362)),
 ⟨some 364, .mv (.t 33), some (363, true)⟩, ⟨some 365, .bin .eql (.t 364) (ci 140), some (363, true)⟩, o 366 (.pick (.t 363) (.t 365) (cb false)), o 367 (.mv (.t 366)),
 ⟨some 368, .mv (.t 35), some (367, true)⟩, ⟨some 369, .bin .eql (.t 368) (ci 0), some (367, true)⟩, o 370 (.pick (.t 367) (.t 369) (cb false)), o 371 (.mv (.t 370)),
 ⟨some 372, .mv (.t 37), some (371, true)⟩, ⟨some 373, .call true true 0 (.fn 73) [ci 1, ci 3], some (371, true)⟩,
 ⟨some 374, .call true true 0 (.fn 73) [ci 4, ci 5], some (371, true)⟩,
 ⟨some 375, .bslice false 2 [.p (.int .i64 0), .p (.int .i64 0)] 2 [(0, .t 373), (1, .t 374)], some (371, true)⟩,
 ⟨some 376, .call true true 0 (.fn 30) [.t 372, .t 375], some (371, true)⟩, o 377 (.pick (.t 371) (.t 376) (cb false)), o 378 (.mv (.t 377)),
 ⟨some 379, .mv (.t 39), some (378, true)⟩, ⟨some 380, .bslice false 1 [.p (.int .i64 0)] 2 [(0, ci 2), (1, ci 5)], some (378, true)⟩,
 ⟨some 381, .call true true 0 (.fn 29) [.t 379, .t 380], some (378, true)⟩, o 382 (.pick (.t 378) (.t 381) (cb false)), o 383 (.mv (.t 382)),
 ⟨some 384, .mv (.t 41), some (383, true)⟩, o 385 (.pick (.t 383) (.t 384) (cb false)), o 386 (.mv (.t 385)), ⟨some 387, .mv (.t 43), some (386, true)⟩,
 ⟨some 388, .not (.t 387), some (386, true)⟩, o 389 (.pick (.t 386) (.t 388) (cb false)), o 390 (.mv (.t 389)), ⟨some 391, .mv (.t 45), some (390, true)⟩,
 ⟨some 392, .call true true 0 (.fn 73) [ci 4, ci 5], some (390, true)⟩, ⟨some 393, .call true true 0 (.fn 73) [ci (-3), ci (-3)], some (390, true)⟩,
 ⟨some 394, .bslice false 2 [.p (.int .i64 0), .p (.int .i64 0)] 2 [(0, .t 392), (1, .t 393)], some (390, true)⟩,
 ⟨some 395, .call true true 0 (.fn 30) [.t 391, .t 394], some (390, true)⟩, o 396 (.pick (.t 390) (.t 395) (cb false)), o 397 (.mv (.t 396)),
 ⟨some 398, .mv (.t 46), some (397, true)⟩, ⟨some 399, .call true true 0 (.fn 73) [ci 5, ci 6], some (397, true)⟩,
 ⟨some 400, .call true true 0 (.fn 73) [ci (-4), ci (-4)], some (397, true)⟩,
 ⟨some 401, .bslice false 2 [.p (.int .i64 0), .p (.int .i64 0)] 2 [(0, .t 399), (1, .t 400)], some (397, true)⟩,
 ⟨some 402, .call true true 0 (.fn 30) [.t 398, .t 401], some (397, true)⟩, o 403 (.pick (.t 397) (.t 402) (cb false)), o 404 (.mv (.t 403)),
 ⟨some 405, .mv (.t 48), some (404, true)⟩,
 ⟨some 406, .bin .eql (.t 405) (cs [115, 116, 101, 112, 32, 48, 32, 52, 48, 10, 115, 116, 101, 112, 32, 51, 32, 50, 48, 10]), some (404, true)⟩,
 o 407 (.pick (.t 404) (.t 406) (cb false)), o 408 (.mv (.t 407)), ⟨some 409, .mv (.t 51), some (408, true)⟩, ⟨some 410, .bin .eql (.t 409) (ci 0), some (408, true)⟩,
 o 411 (.pick (.t 408) (.t 410) (cb false)), o 412 (.mv (.t 411)), ⟨some 413, .mv (.t 50), some (412, true)⟩, ⟨some 414, .len 1 (.t 413), some (412, true)⟩,
 ⟨some 415, .bin .eql (.t 414) (ci 2), some (412, true)⟩, o 416 (.pick (.t 412) (.t 415) (cb false)), o 417 (.mv (.t 416)), ⟨some 418, .mv (.t 53), some (417, true)⟩,
 ⟨some 419, .bslice false 1 [.p (.int .i64 0)] 4 [(0, ci 40), (1, ci 40), (2, ci 40), (3, ci 20)], some (417, true)⟩,
 ⟨some 420, .call true true 0 (.fn 29) [.t 418, .t 419], some (417, true)⟩, o 421 (.pick (.t 417) (.t 420) (cb false)), o 0 (.mv (.t 421))] [0])
 (.ret)))))))))))))))))))))))))))))⟩

/-- crumple/pulse.Valves -/
def c13L0 : ACode :=
 .seq (.ops [o 20 (.bin .lss (.t 19) (.t 18))] [0, 7, 18, 19, 20])
 (.seq (.cond (.t 20)
 (.skip)
 (.exit 0))
 (.seq (.block 1 (.seq (.ops [o 21 (.mv (.t 19)), o 8 (.mv (.t 21))] [0, 7, 8, 18, 19])
 (.ops [o 22 (.mv (.t 7)), o 23 (.mv (.t 0)), o 24 (.mv (.t 8)), o 25 (.call true true 0 (.fn 94) [.t 23, .t 24]), o 26 (.bslice false 1 [.p (.int .i64 0)] 1 [(0, .t 25)]),
 o 27 (.app 1 8 [.p (.int .i64 0)] (.t 22) (.t 26)), o 7 (.mv (.t 27))] [0, 7, 18, 19])))
 (.ops [o 28 (.bin .add (.t 19) (ci 1)), o 19 (.mv (.t 28))] [0, 7, 18, 19])))
def c13 : AFunc := ⟨30, [.tmp 4, .tmp 5],
 .seq (.ops [o 4 (.mv (cn)), o 5 (.mv (ci 0))] [0, 1])
 (.seq (.seq (.ops [o 9 (.mv (.t 0)), o 10 (.call true true 0 (.fn 28) [.t 9]), o 11 (.mv (.t 1)), o 12 (.call true true 0 (.fn 93) [.t 11]),
 o 13 (.bslice false 1 [.p (.int .i64 0)] 2 [(0, .t 10), (1, .t 12)]), o 14 (.call true true 0 (.fn 92) [.t 13]), o 6 (.mv (.t 14))] [0, 1, 6])
 (.seq (.ops [o 15 (.mv (.t 6)), o 16 (.bin .neq (.t 15) (ci 0))] [0, 1, 6, 16])
 (.cond (.t 16)
 (.seq (.ops [o 17 (.mv (.t 6)), o 4 (.mv (cn)), o 5 (.mv (.t 17))] [4, 5])
 (.ret))
 (.skip))))
 (.seq (.ops [o 7 (.nilown 1)] [0, 1, 7])
 (.seq (.seq (.ops [o 18 (.mv (.t 1)), o 19 (.mv (ci 0))] [0, 7, 18, 19])
 (.block 0 (.loop false [0, 7, 18, 19] c13L0)))
 (.seq (.ops [o 29 (.mv (.t 7)), o 4 (.mv (.t 29)), o 5 (.mv (ci 0))] [4, 5])
 (.ret)))))⟩

/-- crumple/crumplelaw08.steps -/
def c14L0 : ACode :=
 .seq (.ops [o 9 (.bin .lss (.t 8) (.t 7))] [3, 6, 7, 8, 9])
 (.seq (.cond (.t 9)
 (.skip)
 (.exit 0))
 (.seq (.block 1 (.seq (.ops [o 10 (.iadr 2 (.t 6) (.t 8)), o 11 (.ld true 2 (.t 10)), o 5 (.alloc true 1 [.p (.int .i64 0), .p (.int .i64 0)]),
 u (.st 2 (.t 5) (.t 11))] [3, 5, 6, 7, 8])
 (.ops [o 12 (.mv (.t 3)), o 13 (.ld true 2 (.t 5)), o 14 (.bslice false 2 [.p (.int .i64 0), .p (.int .i64 0)] 1 [(0, .t 13)]),
 o 15 (.app 2 16 [.p (.int .i64 0), .p (.int .i64 0)] (.t 12) (.t 14)), o 3 (.mv (.t 15))] [3, 6, 7, 8])))
 (.ops [o 16 (.bin .add (.t 8) (ci 1)), o 8 (.mv (.t 16))] [3, 6, 7, 8])))
def c14 : AFunc := ⟨18, [.tmp 2],
 .seq (.ops [o 2 (.mv (cn))] [0])
 (.seq (.ops [o 3 (.nilown 2)] [0, 3])
 (.seq (.seq (.ops [o 6 (.mv (.t 0)), o 7 (.len 1 (.t 6)), o 8 (.mv (ci 0))] [3, 6, 7, 8])
 (.block 0 (.loop true [3, 6, 7, 8] c14L0)))
 (.seq (.ops [o 17 (.mv (.t 3)), o 2 (.mv (.t 17))] [2])
 (.ret))))⟩

/-- crumple/pulse.Run -/
def c15 : AFunc := ⟨35, [.tmp 8, .tmp 9],
 .seq (.ops [o 4 (.box true (.t 0)), o 8 (.mv (cn)), o 9 (.mv (ci 0))] [1, 2, 3, 4])
 (.seq (.seq (.opsd [(0, 1), (1, 1), (2, 1), (3, 1), (4, 1), (5, 1), (6, 1), (7, 1), (8, 1), (9, 1), (10, 1), (12, 1), (11, 0), (13, 0), (14, 0), (15, 0), (16, 1)] [o 11 (.ld true 5 (.t 4)),
 o 12 (.call true true 0 (.fn 27) [.t 11]), o 13 (.mv (.t 1)), o 14 (.call true true 0 (.fn 28) [.t 13]), o 15 (.mv (.t 2)), o 16 (.fadr 0 (.t 4)), o 17 (.fadr 0 (.t 16)),
 o 18 (.ld false 1 (.t 17)), o 19 (.fadr 0 (.t 4)), o 20 (.fadr 1 (.t 19)), o 21 (.ld false 1 (.t 20)), o 23 (.mv (.t 3)),
 o 22 (.call true true 0 (.fn 95) [.t 15, .t 18, .t 21]), o 24 (.call true true 0 (.fn 93) [.t 23]),
 o 25 (.bslice false 1 [.p (.int .i64 0)] 4 [(0, .t 12), (1, .t 14), (2, .t 22), (3, .t 24)]), o 26 (.call true true 0 (.fn 92) [.t 25]),
 o 10 (.mv (.t 26))] [1, 2, 3, 4, 10])
 (.seq (.ops [o 27 (.mv (.t 10)), o 28 (.bin .neq (.t 27) (ci 0))] [1, 2, 3, 4, 10, 28])
 (.cond (.t 28)
 (.seq (.ops [o 29 (.mv (.t 10)), o 8 (.mv (cn)), o 9 (.mv (.t 29))] [8, 9])
 (.ret))
 (.skip))))
 (.seq (.ops [o 30 (.ld true 5 (.t 4)), o 31 (.mv (.t 1)), o 32 (.mv (.t 2)), o 33 (.mv (.t 3)), o 34 (.call true false 0 (.fn 96) [.t 30, .t 31, .t 32, .t 33]),
 o 8 (.mv (.t 34)), o 9 (.mv (ci 0))] [8, 9])
 (.ret)))⟩

/-- crumple/pulse.Enclosed -/
def c16 : AFunc := ⟨24, [.tmp 6, .tmp 7],
 .seq (.ops [o 3 (.box true (.t 0)), o 6 (.mv (cn)), o 7 (.mv (ci 0))] [1, 2, 3])
 (.seq (.seq (.ops [o 9 (.ld true 5 (.t 3)), o 10 (.call true true 0 (.fn 27) [.t 9]), o 11 (.mv (.t 1)), o 12 (.call true true 0 (.fn 28) [.t 11]), o 13 (.mv (.t 2)),
 o 14 (.call true true 0 (.fn 93) [.t 13]), o 15 (.bslice false 1 [.p (.int .i64 0)] 3 [(0, .t 10), (1, .t 12), (2, .t 14)]), o 16 (.call true true 0 (.fn 92) [.t 15]),
 o 8 (.mv (.t 16))] [1, 2, 3, 8])
 (.seq (.ops [o 17 (.mv (.t 8)), o 18 (.bin .neq (.t 17) (ci 0))] [1, 2, 3, 8, 18])
 (.cond (.t 18)
 (.seq (.ops [o 19 (.mv (.t 8)), o 6 (.mv (cn)), o 7 (.mv (.t 19))] [6, 7])
 (.ret))
 (.skip))))
 (.seq (.ops [o 20 (.ld true 5 (.t 3)), o 21 (.mv (.t 1)), o 22 (.mv (.t 2)), o 23 (.call true false 0 (.fn 97) [.t 20, .t 21, .t 22]), o 6 (.mv (.t 23)),
 o 7 (.mv (ci 0))] [6, 7])
 (.ret)))⟩

/-- crumple/pulse.Safe -/
def c17 : AFunc := ⟨24, [.tmp 6, .tmp 7],
 .seq (.ops [o 3 (.box true (.t 0)), o 6 (.mv (cb false)), o 7 (.mv (ci 0))] [1, 2, 3])
 (.seq (.ops [o 11 (.ld true 5 (.t 3)), o 12 (.mv (.t 1)), o 13 (.mv (.t 2)), o 14 (.call true false 0 (.fn 16) [.t 11, .t 12, .t 13]), o 10 (.mv (.t 14)),
 o 15 (.ext (.t 10) 0), o 16 (.ext (.t 10) 1), o 8 (.mv (.t 15)), o 9 (.mv (.t 16))] [3, 8, 9])
 (.seq (.seq (.ops [o 17 (.mv (.t 9)), o 18 (.bin .neq (.t 17) (ci 0))] [3, 8, 9, 18])
 (.cond (.t 18)
 (.seq (.ops [o 19 (.mv (.t 9)), o 6 (.mv (cb false)), o 7 (.mv (.t 19))] [6, 7])
 (.ret))
 (.skip)))
 (.seq (.ops [o 20 (.mv (.t 8)), o 21 (.mkclo 99 [] [.t 3]), o 22 (.call true true 0 (.fn 98) [.t 20, .t 21]), o 23 (.not (.t 22)), o 6 (.mv (.t 23)),
 o 7 (.mv (ci 0))] [6, 7])
 (.ret))))⟩

/-- crumple/crumplelaw08.first -/
def c18 : AFunc := ⟨5, [.tmp 2],
 .seq (.ops [o 2 (.mv (ci 0))] [0])
 (.seq (.ops [o 3 (.mv (.t 0)), o 4 (.call true true 0 (.fn 100) [.t 3]), o 2 (.mv (.t 4))] [2])
 (.ret))⟩

/-- crumple/crumpleref08.CheckSetting -/
def c19L0 : ACode :=
 .seq (.seq (.ops [o 19 (.mv (.t 4)), o 20 (.mv (.t 0)), o 21 (.len 1 (.t 20)), o 22 (.bin .lss (.t 19) (.t 21))] [0, 4, 22])
 (.cond (.t 22)
 (.skip)
 (.exit 0)))
 (.seq (.block 1 (.seq (.opsd [(0, 1), (1, 1), (2, 1), (3, 1), (4, 1), (5, 1), (6, 1), (7, 1), (8, 1), (9, 1), (10, 1), (12, 1), (13, 1), (11, 0), (14, 1), (15, 1), (16, 1), (17, 1), (18, 1), (19, 1), (20, 1), (21, 1), (22, 1), (23, 1), (24, 1), (25, 1), (26, 1), (27, 1), (28, 1), (29, 1), (30, 1), (31, 1), (32, 1), (33, 1), (34, 1), (35, 1), (36, 1), (37, 1), (38, 1), (39, 1), (40, 1), (41, 0), (42, 0), (43, 0), (44, 1)] [o 25 (.mv (.t 0)),
 o 26 (.mv (.t 4)), o 27 (.iadr 2 (.t 25) (.t 26)), o 28 (.fadr 0 (.t 27)), o 29 (.ld false 1 (.t 28)), o 30 (.call true true 0 (.fn 101) [.t 29, ci 0, ci 64]),
 o 31 (.mv (.t 0)), o 32 (.mv (.t 4)), o 33 (.iadr 2 (.t 31) (.t 32)), o 34 (.fadr 1 (.t 33)), o 35 (.ld false 1 (.t 34)), o 37 (.mv (.t 4)),
 o 38 (.bin .eql (.t 37) (ci 0)), o 36 (.call true true 0 (.fn 101) [.t 35, ci 0, ci 100]), o 39 (.mv (.t 38)), ⟨some 40, .mv (.t 0), some (39, true)⟩,
 ⟨some 41, .mv (.t 4), some (39, true)⟩, ⟨some 42, .iadr 2 (.t 40) (.t 41), some (39, true)⟩, ⟨some 43, .fadr 0 (.t 42), some (39, true)⟩,
 ⟨some 44, .ld false 1 (.t 43), some (39, true)⟩, ⟨some 45, .bin .neq (.t 44) (ci 0), some (39, true)⟩, o 46 (.pick (.t 39) (.t 45) (cb false)), o 47 (.mv (.t 46)),
 ⟨some 48, .mv (.t 4), some (47, false)⟩, ⟨some 49, .bin .gtr (.t 48) (ci 0), some (47, false)⟩, ⟨some 50, .mv (.t 49), some (47, false)⟩,
 ⟨some 51, .mv (.t 0), some (50, true)⟩, ⟨some 52, .mv (.t 4), some (50, true)⟩, ⟨some 53, .iadr 2 (.t 51) (.t 52), some (50, true)⟩,
 ⟨some 54, .fadr 0 (.t 53), some (50, true)⟩, ⟨some 55, .ld false 1 (.t 54), some (50, true)⟩, ⟨some 56, .mv (.t 0), some (50, true)⟩,
 ⟨some 57, .mv (.t 4), some (50, true)⟩, ⟨some 58, .bin .sub (.t 57) (ci 1), some (50, true)⟩, ⟨some 59, .max [ci 0, .t 58], some (50, true)⟩,
 ⟨some 60, .iadr 2 (.t 56) (.t 59), some (50, true)⟩, ⟨some 61, .fadr 0 (.t 60), some (50, true)⟩, ⟨some 62, .ld false 1 (.t 61), some (50, true)⟩,
 ⟨some 63, .bin .leq (.t 55) (.t 62), some (50, true)⟩, ⟨some 64, .pick (.t 50) (.t 63) (cb false), some (47, false)⟩, o 65 (.pick (.t 47) (cb true) (.t 64)),
 o 66 (.call true true 0 (.fn 46) [.t 65, ci 11]), o 67 (.bslice false 1 [.p (.int .i64 0)] 3 [(0, .t 30), (1, .t 36), (2, .t 66)]),
 o 68 (.call true true 0 (.fn 100) [.t 67]), o 5 (.mv (.t 68))] [0, 4, 5])
 (.seq (.ops [o 69 (.mv (.t 5)), o 70 (.bin .neq (.t 69) (ci 0))] [0, 4, 5, 70])
 (.cond (.t 70)
 (.seq (.ops [o 71 (.mv (.t 5)), o 2 (.mv (.t 71))] [2])
 (.ret))
 (.skip)))))
 (.ops [o 23 (.mv (.t 4)), o 24 (.bin .add (.t 23) (ci 1)), o 4 (.mv (.t 24))] [0, 4]))
def c19 : AFunc := ⟨72, [.tmp 2],
 .seq (.ops [o 2 (.mv (ci 0))] [0])
 (.seq (.seq (.ops [o 6 (.mv (.t 0)), o 7 (.len 1 (.t 6)), o 8 (.bin .eql (.t 7) (ci 0)), o 9 (.call true true 0 (.fn 46) [.t 8, ci 12]), o 10 (.mv (.t 0)),
 o 11 (.len 1 (.t 10)), o 12 (.bin .gtr (.t 11) (ci 12)), o 13 (.call true true 0 (.fn 46) [.t 12, ci 5]),
 o 14 (.bslice false 1 [.p (.int .i64 0)] 2 [(0, .t 9), (1, .t 13)]), o 15 (.call true true 0 (.fn 100) [.t 14]), o 3 (.mv (.t 15))] [0, 3])
 (.seq (.ops [o 16 (.mv (.t 3)), o 17 (.bin .neq (.t 16) (ci 0))] [0, 3, 17])
 (.cond (.t 17)
 (.seq (.ops [o 18 (.mv (.t 3)), o 2 (.mv (.t 18))] [2])
 (.ret))
 (.skip))))
 (.seq (.seq (.ops [o 4 (.mv (ci 0))] [0, 4])
 (.block 0 (.loop false [0, 4] c19L0)))
 (.seq (.ops [o 2 (.mv (ci 0))] [2])
 (.ret))))⟩

/-- crumple/crumpleref08.CheckTicks -/
def c20 : AFunc := ⟨5, [.tmp 2],
 .seq (.ops [o 2 (.mv (ci 0))] [0])
 (.seq (.ops [o 3 (.mv (.t 0)), o 4 (.call true true 0 (.fn 101) [.t 3, ci 1, ci 64]), o 2 (.mv (.t 4))] [2])
 (.ret))⟩

/-- crumple/crumpleref08.CheckSled -/
def c21 : AFunc := ⟨17, [.tmp 2],
 .seq (.ops [o 1 (.box true (.t 0)), o 2 (.mv (ci 0))] [1])
 (.seq (.opsd [(0, 1), (1, 1), (2, 1), (3, 1), (4, 1), (5, 1), (6, 1), (7, 1), (8, 1), (9, 1), (10, 1), (11, 0), (12, 0), (13, 0), (14, 1)] [o 3 (.fadr 0 (.t 1)),
 o 4 (.ld true 2 (.t 3)), o 5 (.call true true 0 (.fn 102) [.t 4, ci 1, ci 10000]), o 6 (.fadr 2 (.t 1)), o 7 (.ld false 1 (.t 6)),
 o 8 (.call true true 0 (.fn 101) [.t 7, ci 1, ci 16]), o 9 (.fadr 3 (.t 1)), o 10 (.ld false 1 (.t 9)), o 11 (.call true true 0 (.fn 101) [.t 10, ci 0, ci 8]),
 o 12 (.fadr 4 (.t 1)), o 13 (.ld false 1 (.t 12)), o 14 (.call true true 0 (.fn 101) [.t 13, ci 1, ci 10000]),
 o 15 (.bslice false 1 [.p (.int .i64 0)] 4 [(0, .t 5), (1, .t 8), (2, .t 11), (3, .t 14)]), o 16 (.call true true 0 (.fn 100) [.t 15]), o 2 (.mv (.t 16))] [2])
 (.ret))⟩

/-- crumple/crumpleref08.CheckGain -/
def c22 : AFunc := ⟨13, [.tmp 4],
 .seq (.ops [o 2 (.box true (.t 0)), o 4 (.mv (ci 0))] [1, 2])
 (.seq (.ops [o 5 (.mv (.t 1)), o 6 (.fadr 0 (.t 2)), o 7 (.fadr 0 (.t 6)), o 8 (.ld false 1 (.t 7)), o 9 (.fadr 0 (.t 2)), o 10 (.fadr 1 (.t 9)), o 11 (.ld false 1 (.t 10)),
 o 12 (.call true true 0 (.fn 101) [.t 5, .t 8, .t 11]), o 4 (.mv (.t 12))] [4])
 (.ret))⟩

/-- crumple/crumpleref08.Valves -/
def c23L0 : ACode :=
 .seq (.seq (.ops [o 7 (.mv (.t 6)), o 8 (.mv (.t 1)), o 9 (.bin .lss (.t 7) (.t 8))] [0, 1, 5, 6, 9])
 (.cond (.t 9)
 (.skip)
 (.exit 0)))
 (.seq (.block 1 (.ops [o 12 (.mv (.t 5)), o 13 (.mv (.t 0)), o 14 (.mv (.t 6)), o 15 (.call true true 0 (.fn 103) [.t 13, .t 14]),
 o 16 (.bslice false 1 [.p (.int .i64 0)] 1 [(0, .t 15)]), o 17 (.app 1 8 [.p (.int .i64 0)] (.t 12) (.t 16)), o 5 (.mv (.t 17))] [0, 1, 5, 6]))
 (.ops [o 10 (.mv (.t 6)), o 11 (.bin .add (.t 10) (ci 1)), o 6 (.mv (.t 11))] [0, 1, 5, 6]))
def c23 : AFunc := ⟨19, [.tmp 4],
 .seq (.ops [o 4 (.mv (cn))] [0, 1])
 (.seq (.ops [o 5 (.nilown 1)] [0, 1, 5])
 (.seq (.seq (.ops [o 6 (.mv (ci 0))] [0, 1, 5, 6])
 (.block 0 (.loop false [0, 1, 5, 6] c23L0)))
 (.seq (.ops [o 18 (.mv (.t 5)), o 4 (.mv (.t 18))] [4])
 (.ret))))⟩

/-- crumple/crumpleref08.Run -/
def c24L0 : ACode :=
 .seq (.seq (.ops [o 13 (.mv (.t 11)), o 14 (.mv (.t 3)), o 15 (.bin .lss (.t 13) (.t 14))] [1, 2, 3, 4, 9, 10, 11, 15])
 (.cond (.t 15)
 (.skip)
 (.exit 0)))
 (.seq (.block 1 (.seq (.ops [o 18 (.mv (.t 2)), o 19 (.mv (.t 1)), o 20 (.mv (.t 11)), o 21 (.fadr 3 (.t 4)), o 22 (.ld false 1 (.t 21)), o 23 (.bin .sub (.t 20) (.t 22)),
 o 24 (.max [ci 0, .t 23]), o 25 (.call true true 0 (.fn 103) [.t 19, .t 24]), o 26 (.bin .mul (.t 18) (.t 25)), o 27 (.bin .quo (.t 26) (ci 100)),
 o 12 (.mv (.t 27))] [1, 2, 3, 4, 9, 10, 11, 12])
 (.seq (.ops [o 28 (.mv (.t 10)), o 29 (.mv (.t 12)), o 30 (.mv (.t 10)), o 31 (.bin .sub (.t 29) (.t 30)), o 32 (.fadr 2 (.t 4)), o 33 (.ld false 1 (.t 32)),
 o 34 (.call true true 0 (.fn 104) [.t 31, .t 33]), o 35 (.bin .add (.t 28) (.t 34)), o 10 (.mv (.t 35))] [1, 2, 3, 4, 9, 10, 11])
 (.ops [o 36 (.mv (.t 9)), o 37 (.mv (.t 10)), o 38 (.bslice false 1 [.p (.int .i64 0)] 1 [(0, .t 37)]), o 39 (.app 1 8 [.p (.int .i64 0)] (.t 36) (.t 38)),
 o 9 (.mv (.t 39))] [1, 2, 3, 4, 9, 10, 11]))))
 (.ops [o 16 (.mv (.t 11)), o 17 (.bin .add (.t 16) (ci 1)), o 11 (.mv (.t 17))] [1, 2, 3, 4, 9, 10, 11]))
def c24 : AFunc := ⟨41, [.tmp 8],
 .seq (.ops [o 4 (.box true (.t 0)), o 8 (.mv (cn))] [1, 2, 3, 4])
 (.seq (.ops [o 9 (.nilown 1)] [1, 2, 3, 4, 9])
 (.seq (.ops [o 10 (.mv (ci 0))] [1, 2, 3, 4, 9, 10])
 (.seq (.seq (.ops [o 11 (.mv (ci 0))] [1, 2, 3, 4, 9, 10, 11])
 (.block 0 (.loop false [1, 2, 3, 4, 9, 10, 11] c24L0)))
 (.seq (.ops [o 40 (.mv (.t 9)), o 8 (.mv (.t 40))] [8])
 (.ret)))))⟩

/-- crumple/crumpleref08.Enclosed -/
def c25L0 : ACode :=
 .seq (.seq (.ops [o 25 (.mv (.t 10)), o 26 (.mv (.t 2)), o 27 (.bin .lss (.t 25) (.t 26))] [2, 7, 8, 9, 10, 27])
 (.cond (.t 27)
 (.skip)
 (.exit 0)))
 (.seq (.block 1 (.opsd [(0, 1), (1, 1), (2, 1), (3, 1), (4, 1), (5, 1), (6, 1), (7, 1), (8, 1), (9, 1), (10, 0), (11, 0), (12, 1)] [o 30 (.mv (.t 9)), o 31 (.mv (.t 7)),
 o 32 (.mv (.t 10)), o 33 (.iadr 1 (.t 31) (.t 32)), o 34 (.ld false 1 (.t 33)), o 35 (.mv (.t 8)), o 36 (.mv (.t 10)), o 37 (.iadr 1 (.t 35) (.t 36)),
 o 38 (.ld false 1 (.t 37)), o 39 (.build [.p (.int .i64 0), .p (.int .i64 0)] [(0, 1, .t 34), (1, 1, .t 38)]),
 o 40 (.bslice false 2 [.p (.int .i64 0), .p (.int .i64 0)] 1 [(0, .t 39)]), o 41 (.app 2 16 [.p (.int .i64 0), .p (.int .i64 0)] (.t 30) (.t 40)),
 o 9 (.mv (.t 41))] [2, 7, 8, 9, 10]))
 (.ops [o 28 (.mv (.t 10)), o 29 (.bin .add (.t 28) (ci 1)), o 10 (.mv (.t 29))] [2, 7, 8, 9, 10]))
def c25 : AFunc := ⟨43, [.tmp 6],
 .seq (.ops [o 3 (.box true (.t 0)), o 6 (.mv (cn))] [1, 2, 3])
 (.seq (.opsd [(0, 1), (1, 1), (2, 1), (3, 1), (4, 1), (5, 1), (6, 1), (7, 1), (8, 1), (9, 1), (10, 1), (11, 1), (12, 1), (13, 0), (14, 1), (15, 1)] [o 11 (.ld true 5 (.t 3)),
 o 12 (.mv (.t 1)), o 13 (.fadr 0 (.t 3)), o 14 (.fadr 0 (.t 13)), o 15 (.ld false 1 (.t 14)), o 16 (.mv (.t 2)),
 o 17 (.call true false 0 (.fn 24) [.t 11, .t 12, .t 15, .t 16]), o 18 (.ld true 5 (.t 3)), o 19 (.mv (.t 1)), o 20 (.fadr 0 (.t 3)), o 21 (.fadr 1 (.t 20)),
 o 22 (.ld false 1 (.t 21)), o 23 (.mv (.t 2)), o 24 (.call true false 0 (.fn 24) [.t 18, .t 19, .t 22, .t 23]), o 7 (.mv (.t 17)), o 8 (.mv (.t 24))] [2, 7, 8])
 (.seq (.ops [o 9 (.nilown 2)] [2, 7, 8, 9])
 (.seq (.seq (.ops [o 10 (.mv (ci 0))] [2, 7, 8, 9, 10])
 (.block 0 (.loop false [2, 7, 8, 9, 10] c25L0)))
 (.seq (.ops [o 42 (.mv (.t 9)), o 6 (.mv (.t 42))] [6])
 (.ret)))))⟩

/-- crumple/crumpleref08.Safe -/
def c26L0 : ACode :=
 .seq (.seq (.ops [o 13 (.mv (.t 8)), o 14 (.mv (.t 2)), o 15 (.bin .lss (.t 13) (.t 14))] [2, 3, 7, 8, 15])
 (.cond (.t 15)
 (.skip)
 (.exit 0)))
 (.seq (.block 1 (.seq (.opsd [(0, 1), (1, 1), (2, 1), (3, 1), (4, 1), (5, 1), (6, 1), (7, 1)] [o 18 (.mv (.t 7)), o 19 (.mv (.t 8)), o 20 (.iadr 2 (.t 18) (.t 19)),
 o 21 (.fadr 1 (.t 20)), o 22 (.ld false 1 (.t 21)), o 23 (.fadr 4 (.t 3)), o 24 (.ld false 1 (.t 23)), o 25 (.bin .gtr (.t 22) (.t 24))] [2, 3, 7, 8, 25])
 (.cond (.t 25)
 (.seq (.ops [o 6 (.mv (cb false))] [6])
 (.ret))
 (.skip))))
 (.ops [o 16 (.mv (.t 8)), o 17 (.bin .add (.t 16) (ci 1)), o 8 (.mv (.t 17))] [2, 3, 7, 8]))
def c26 : AFunc := ⟨26, [.tmp 6],
 .seq (.ops [o 3 (.box true (.t 0)), o 6 (.mv (cb false))] [1, 2, 3])
 (.seq (.ops [o 9 (.ld true 5 (.t 3)), o 10 (.mv (.t 1)), o 11 (.mv (.t 2)), o 12 (.call true false 0 (.fn 25) [.t 9, .t 10, .t 11]), o 7 (.mv (.t 12))] [2, 3, 7])
 (.seq (.seq (.ops [o 8 (.mv (ci 0))] [2, 3, 7, 8])
 (.block 0 (.loop false [2, 3, 7, 8] c26L0)))
 (.seq (.ops [o 6 (.mv (cb true))] [6])
 (.ret))))⟩

/-- crumple/pulse.CheckSled -/
def c27 : AFunc := ⟨17, [.tmp 2],
 .seq (.ops [o 1 (.box true (.t 0)), o 2 (.mv (ci 0))] [1])
 (.seq (.opsd [(0, 1), (1, 1), (2, 1), (3, 1), (4, 1), (5, 1), (6, 1), (7, 1), (8, 1), (9, 1), (10, 1), (11, 0), (12, 0), (13, 0), (14, 1)] [o 3 (.fadr 0 (.t 1)),
 o 4 (.ld true 2 (.t 3)), o 5 (.call true true 0 (.fn 105) [.t 4, ci 1, ci 10000]), o 6 (.fadr 2 (.t 1)), o 7 (.ld false 1 (.t 6)),
 o 8 (.call true true 0 (.fn 95) [.t 7, ci 1, ci 16]), o 9 (.fadr 3 (.t 1)), o 10 (.ld false 1 (.t 9)), o 11 (.call true true 0 (.fn 95) [.t 10, ci 0, ci 8]),
 o 12 (.fadr 4 (.t 1)), o 13 (.ld false 1 (.t 12)), o 14 (.call true true 0 (.fn 95) [.t 13, ci 1, ci 10000]),
 o 15 (.bslice false 1 [.p (.int .i64 0)] 4 [(0, .t 5), (1, .t 8), (2, .t 11), (3, .t 14)]), o 16 (.call true true 0 (.fn 92) [.t 15]), o 2 (.mv (.t 16))] [2])
 (.ret))⟩

/-- crumple/pulse.CheckSetting -/
def c28L0 : ACode :=
 .seq (.ops [o 17 (.bin .lss (.t 16) (.t 15))] [0, 14, 15, 16, 17])
 (.seq (.cond (.t 17)
 (.skip)
 (.exit 0))
 (.seq (.block 1 (.seq (.ops [o 18 (.mv (.t 16)), o 19 (.iadr 2 (.t 14) (.t 16)), o 20 (.ld true 2 (.t 19)), o 5 (.alloc true 1 [.p (.int .i64 0), .p (.int .i64 0)]),
 o 4 (.mv (.t 18)), u (.st 2 (.t 5) (.t 20))] [0, 4, 5, 14, 15, 16])
 (.seq (.opsd [(0, 1), (1, 1), (2, 1), (3, 1), (4, 1), (5, 1), (6, 1), (7, 1), (8, 1), (9, 1), (10, 1), (11, 1), (12, 1), (13, 1), (14, 1), (15, 1), (16, 1), (17, 1), (18, 1), (19, 1), (20, 1), (21, 1), (22, 1), (23, 1)] [o 21 (.mv (.t 4)),
 o 22 (.bin .eql (.t 21) (ci 0)), o 23 (.mv (.t 22)), ⟨some 24, .fadr 0 (.t 5), some (23, true)⟩, ⟨some 25, .ld false 1 (.t 24), some (23, true)⟩,
 ⟨some 26, .bin .neq (.t 25) (ci 0), some (23, true)⟩, o 27 (.pick (.t 23) (.t 26) (cb false)), o 28 (.mv (.t 27)), ⟨some 29, .mv (.t 4), some (28, false)⟩,
 ⟨some 30, .bin .gtr (.t 29) (ci 0), some (28, false)⟩, ⟨some 31, .mv (.t 30), some (28, false)⟩, ⟨some 32, .fadr 0 (.t 5), some (31, true)⟩,
 ⟨some 33, .ld false 1 (.t 32), some (31, true)⟩, ⟨some 34, .mv (.t 0), some (31, true)⟩, ⟨some 35, .mv (.t 4), some (31, true)⟩,
 ⟨some 36, .max [ci 1, .t 35], some (31, true)⟩, ⟨some 37, .bin .sub (.t 36) (ci 1), some (31, true)⟩, ⟨some 38, .iadr 2 (.t 34) (.t 37), some (31, true)⟩,
 ⟨some 39, .fadr 0 (.t 38), some (31, true)⟩, ⟨some 40, .ld false 1 (.t 39), some (31, true)⟩, ⟨some 41, .bin .leq (.t 33) (.t 40), some (31, true)⟩,
 ⟨some 42, .pick (.t 31) (.t 41) (cb false), some (28, false)⟩, o 43 (.pick (.t 28) (cb true) (.t 42)), o 6 (.mv (.t 43))] [0, 5, 6, 14, 15, 16])
 (.seq (.opsd [(0, 1), (1, 1), (2, 1), (3, 1), (4, 1), (6, 1), (5, 0), (7, 0), (8, 0), (9, 0), (10, 1)] [o 44 (.fadr 0 (.t 5)), o 45 (.ld false 1 (.t 44)),
 o 46 (.call true true 0 (.fn 95) [.t 45, ci 0, ci 64]), o 47 (.fadr 1 (.t 5)), o 48 (.ld false 1 (.t 47)), o 50 (.mv (.t 6)),
 o 49 (.call true true 0 (.fn 95) [.t 48, ci 0, ci 100]), o 51 (.call true true 0 (.fn 107) [.t 50, ci 11]),
 o 52 (.bslice false 1 [.p (.int .i64 0)] 3 [(0, .t 46), (1, .t 49), (2, .t 51)]), o 53 (.call true true 0 (.fn 92) [.t 52]), o 7 (.mv (.t 53))] [0, 7, 14, 15, 16])
 (.seq (.ops [o 54 (.mv (.t 7)), o 55 (.bin .neq (.t 54) (ci 0))] [0, 7, 14, 15, 16, 55])
 (.cond (.t 55)
 (.seq (.ops [o 56 (.mv (.t 7)), o 2 (.mv (.t 56))] [2])
 (.ret))
 (.skip)))))))
 (.ops [o 57 (.bin .add (.t 16) (ci 1)), o 16 (.mv (.t 57))] [0, 14, 15, 16])))
def c28 : AFunc := ⟨58, [.tmp 2],
 .seq (.ops [o 2 (.mv (ci 0))] [0])
 (.seq (.seq (.ops [o 8 (.mv (.t 0)), o 9 (.len 1 (.t 8)), o 10 (.call true true 0 (.fn 106) [.t 9, ci 12]), o 3 (.mv (.t 10))] [0, 3])
 (.seq (.ops [o 11 (.mv (.t 3)), o 12 (.bin .neq (.t 11) (ci 0))] [0, 3, 12])
 (.cond (.t 12)
 (.seq (.ops [o 13 (.mv (.t 3)), o 2 (.mv (.t 13))] [2])
 (.ret))
 (.skip))))
 (.seq (.seq (.ops [o 14 (.mv (.t 0)), o 15 (.len 1 (.t 14)), o 16 (.mv (ci 0))] [0, 14, 15, 16])
 (.block 0 (.loop true [0, 14, 15, 16] c28L0)))
 (.seq (.ops [o 2 (.mv (ci 0))] [2])
 (.ret))))⟩

/-- crumple/crumpleref01.SameInts -/
def c29L0 : ACode :=
 .seq (.seq (.ops [o 11 (.mv (.t 5)), o 12 (.mv (.t 0)), o 13 (.len 1 (.t 12)), o 14 (.bin .lss (.t 11) (.t 13))] [0, 1, 5, 14])
 (.cond (.t 14)
 (.skip)
 (.exit 0)))
 (.seq (.block 1 (.seq (.opsd [(0, 1), (1, 1), (2, 1), (3, 1), (4, 1), (5, 1), (6, 1), (7, 1), (8, 1)] [o 17 (.mv (.t 0)), o 18 (.mv (.t 5)),
 o 19 (.iadr 1 (.t 17) (.t 18)), o 20 (.ld false 1 (.t 19)), o 21 (.mv (.t 1)), o 22 (.mv (.t 5)), o 23 (.iadr 1 (.t 21) (.t 22)), o 24 (.ld false 1 (.t 23)),
 o 25 (.bin .neq (.t 20) (.t 24))] [0, 1, 5, 25])
 (.cond (.t 25)
 (.seq (.ops [o 4 (.mv (cb false))] [4])
 (.ret))
 (.skip))))
 (.ops [o 15 (.mv (.t 5)), o 16 (.bin .add (.t 15) (ci 1)), o 5 (.mv (.t 16))] [0, 1, 5]))
def c29 : AFunc := ⟨26, [.tmp 4],
 .seq (.ops [o 4 (.mv (cb false))] [0, 1])
 (.seq (.seq (.ops [o 6 (.mv (.t 0)), o 7 (.len 1 (.t 6)), o 8 (.mv (.t 1)), o 9 (.len 1 (.t 8)), o 10 (.bin .neq (.t 7) (.t 9))] [0, 1, 10])
 (.cond (.t 10)
 (.seq (.ops [o 4 (.mv (cb false))] [4])
 (.ret))
 (.skip)))
 (.seq (.seq (.ops [o 5 (.mv (ci 0))] [0, 1, 5])
 (.block 0 (.loop false [0, 1, 5] c29L0)))
 (.seq (.ops [o 4 (.mv (cb true))] [4])
 (.ret))))⟩

/-- crumple/crumpleref01.SameIntervals -/
def c30L0 : ACode :=
 .seq (.seq (.ops [o 11 (.mv (.t 5)), o 12 (.mv (.t 0)), o 13 (.len 1 (.t 12)), o 14 (.bin .lss (.t 11) (.t 13))] [0, 1, 5, 14])
 (.cond (.t 14)
 (.skip)
 (.exit 0)))
 (.seq (.block 1 (.seq (.opsd [(0, 1), (1, 1), (2, 1), (3, 1), (4, 1), (5, 1), (6, 1), (7, 1), (8, 1)] [o 17 (.mv (.t 0)), o 18 (.mv (.t 5)),
 o 19 (.iadr 2 (.t 17) (.t 18)), o 20 (.ld true 2 (.t 19)), o 21 (.mv (.t 1)), o 22 (.mv (.t 5)), o 23 (.iadr 2 (.t 21) (.t 22)), o 24 (.ld true 2 (.t 23)),
 o 25 (.eqagg [0, 0] true (.t 20) (.t 24))] [0, 1, 5, 25])
 (.cond (.t 25)
 (.seq (.ops [o 4 (.mv (cb false))] [4])
 (.ret))
 (.skip))))
 (.ops [o 15 (.mv (.t 5)), o 16 (.bin .add (.t 15) (ci 1)), o 5 (.mv (.t 16))] [0, 1, 5]))
def c30 : AFunc := ⟨26, [.tmp 4],
 .seq (.ops [o 4 (.mv (cb false))] [0, 1])
 (.seq (.seq (.ops [o 6 (.mv (.t 0)), o 7 (.len 1 (.t 6)), o 8 (.mv (.t 1)), o 9 (.len 1 (.t 8)), o 10 (.bin .neq (.t 7) (.t 9))] [0, 1, 10])
 (.cond (.t 10)
 (.seq (.ops [o 4 (.mv (cb false))] [4])
 (.ret))
 (.skip)))
 (.seq (.seq (.ops [o 5 (.mv (ci 0))] [0, 1, 5])
 (.block 0 (.loop false [0, 1, 5] c30L0)))
 (.seq (.ops [o 4 (.mv (cb true))] [4])
 (.ret))))⟩

/-- crumple/pulse.Inside -/
def c31 : AFunc := ⟨23, [.tmp 4, .tmp 5],
 .seq (.ops [o 4 (.mv (cb false)), o 5 (.mv (ci 0))] [0, 1])
 (.seq (.ops [o 10 (.mv (.t 0)), o 11 (.mv (.t 1)), o 12 (.call true true 0 (.fn 34) [.t 10, .t 11]), o 9 (.mv (.t 12)), o 13 (.ext (.t 9) 0), o 14 (.ext (.t 9) 1),
 o 15 (.ext (.t 9) 2), o 6 (.mv (.t 13)), o 7 (.mv (.t 14)), o 8 (.mv (.t 15))] [6, 8])
 (.seq (.ops [o 16 (.mv (.t 8)), o 17 (.bin .eql (.t 16) (ci 0)), o 18 (.mv (.t 17)), ⟨some 19, .mv (.t 6), some (18, true)⟩,
 ⟨some 20, .bin .eql (.t 19) (ci 0), some (18, true)⟩, o 21 (.pick (.t 18) (.t 20) (cb false)), o 22 (.mv (.t 8)), o 4 (.mv (.t 21)), o 5 (.mv (.t 22))] [4, 5])
 (.ret)))⟩

/-- crumple/crumplelaw08.spans -/
def c32 : AFunc := ⟨6, [.tmp 2],
 .seq (.ops [o 2 (.nilown 2)] [0])
 (.seq (.ops [o 3 (.bslice true 2 [.p (.int .i64 0), .p (.int .i64 0)] 0 []), o 4 (.mv (.t 0)), o 5 (.app 2 16 [.p (.int .i64 0), .p (.int .i64 0)] (.t 3) (.t 4)),
 o 2 (.mv (.t 5))] [2])
 (.ret))⟩

/-- crumple/crumplelaw08.ints -/
def c33 : AFunc := ⟨6, [.tmp 2],
 .seq (.ops [o 2 (.mv (cn))] [0])
 (.seq (.ops [o 3 (.bslice true 1 [.p (.int .i64 0)] 0 []), o 4 (.mv (.t 0)), o 5 (.app 1 8 [.p (.int .i64 0)] (.t 3) (.t 4)), o 2 (.mv (.t 5))] [2])
 (.ret))⟩

/-- crumple/pulse.Excess -/
def c34 : AFunc := ⟨28, [.tmp 4, .tmp 5, .tmp 6],
 .seq (.ops [o 4 (.mv (ci 0)), o 5 (.mv (ci 0)), o 6 (.mv (ci 0))] [0, 1])
 (.seq (.seq (.ops [o 10 (.mv (.t 0)), o 11 (.call true true 0 (.fn 43) [.t 10]), o 12 (.mv (.t 0)), o 13 (.mv (.t 1)), o 14 (.call true true 0 (.fn 108) [.t 12, .t 13]),
 o 15 (.bslice false 1 [.p (.int .i64 0)] 2 [(0, .t 11), (1, .t 14)]), o 16 (.call true true 0 (.fn 92) [.t 15]), o 7 (.mv (.t 16))] [0, 1, 7])
 (.seq (.ops [o 17 (.mv (.t 7)), o 18 (.bin .neq (.t 17) (ci 0))] [0, 1, 7, 18])
 (.cond (.t 18)
 (.seq (.ops [o 19 (.mv (.t 7)), o 4 (.mv (ci 0)), o 5 (.mv (ci 0)), o 6 (.mv (.t 19))] [4, 5, 6])
 (.ret))
 (.skip))))
 (.seq (.ops [o 21 (.mv (.t 0)), o 22 (.mv (.t 1)), o 23 (.call true true 0 (.fn 109) [.t 21, .t 22]), o 20 (.mv (.t 23)), o 24 (.ext (.t 20) 0), o 25 (.ext (.t 20) 1),
 o 8 (.mv (.t 24)), o 9 (.mv (.t 25))] [8, 9])
 (.seq (.ops [o 26 (.mv (.t 8)), o 27 (.mv (.t 9)), o 4 (.mv (.t 26)), o 5 (.mv (.t 27)), o 6 (.mv (ci 0))] [4, 5, 6])
 (.ret))))⟩

/-- crumple/pulse.Speeds -/
def c35 : AFunc := ⟨12, [.tmp 2, .tmp 3],
 .seq (.ops [o 2 (.mv (cn)), o 3 (.mv (ci 0))] [0])
 (.seq (.seq (.ops [o 5 (.mv (.t 0)), o 6 (.call true true 0 (.fn 110) [.t 5]), o 4 (.mv (.t 6))] [0, 4])
 (.seq (.ops [o 7 (.mv (.t 4)), o 8 (.bin .neq (.t 7) (ci 0))] [0, 4, 8])
 (.cond (.t 8)
 (.seq (.ops [o 9 (.mv (.t 4)), o 2 (.mv (cn)), o 3 (.mv (.t 9))] [2, 3])
 (.ret))
 (.skip))))
 (.seq (.ops [o 10 (.mv (.t 0)), o 11 (.call true false 0 (.fn 111) [.t 10]), o 2 (.mv (.t 11)), o 3 (.mv (ci 0))] [2, 3])
 (.ret)))⟩

/-- crumple/pulse.Ways -/
def c36 : AFunc := ⟨13, [.tmp 2, .tmp 3],
 .seq (.ops [o 2 (.mv (cn)), o 3 (.mv (ci 0))] [0])
 (.seq (.seq (.ops [o 5 (.mv (.t 0)), o 6 (.call true true 0 (.fn 110) [.t 5]), o 4 (.mv (.t 6))] [0, 4])
 (.seq (.ops [o 7 (.mv (.t 4)), o 8 (.bin .neq (.t 7) (ci 0))] [0, 4, 8])
 (.cond (.t 8)
 (.seq (.ops [o 9 (.mv (.t 4)), o 2 (.mv (cn)), o 3 (.mv (.t 9))] [2, 3])
 (.ret))
 (.skip))))
 (.seq (.ops [o 10 (.mv (.t 0)), o 11 (.call true false 0 (.fn 111) [.t 10]), o 12 (.call true false 0 (.fn 111) [.t 11]), o 2 (.mv (.t 12)), o 3 (.mv (ci 0))] [2, 3])
 (.ret)))⟩

/-- crumple/crumpleref08.CheckCorridor -/
def c37L0 : ACode :=
 .seq (.seq (.ops [o 19 (.mv (.t 4)), o 20 (.mv (.t 0)), o 21 (.len 1 (.t 20)), o 22 (.bin .lss (.t 19) (.t 21))] [0, 4, 22])
 (.cond (.t 22)
 (.skip)
 (.exit 0)))
 (.seq (.block 1 (.seq (.ops [o 25 (.mv (.t 0)), o 26 (.mv (.t 4)), o 27 (.iadr 2 (.t 25) (.t 26)), o 28 (.ld true 2 (.t 27)),
 o 29 (.call true true 0 (.fn 102) [.t 28, ci 0, ci 10000]), o 5 (.mv (.t 29))] [0, 4, 5])
 (.seq (.ops [o 30 (.mv (.t 5)), o 31 (.bin .neq (.t 30) (ci 0))] [0, 4, 5, 31])
 (.cond (.t 31)
 (.seq (.ops [o 32 (.mv (.t 5)), o 2 (.mv (.t 32))] [2])
 (.ret))
 (.skip)))))
 (.ops [o 23 (.mv (.t 4)), o 24 (.bin .add (.t 23) (ci 1)), o 4 (.mv (.t 24))] [0, 4]))
def c37 : AFunc := ⟨33, [.tmp 2],
 .seq (.ops [o 2 (.mv (ci 0))] [0])
 (.seq (.seq (.ops [o 6 (.mv (.t 0)), o 7 (.len 1 (.t 6)), o 8 (.bin .eql (.t 7) (ci 0)), o 9 (.call true true 0 (.fn 46) [.t 8, ci 12]), o 10 (.mv (.t 0)),
 o 11 (.len 1 (.t 10)), o 12 (.bin .gtr (.t 11) (ci 64)), o 13 (.call true true 0 (.fn 46) [.t 12, ci 5]),
 o 14 (.bslice false 1 [.p (.int .i64 0)] 2 [(0, .t 9), (1, .t 13)]), o 15 (.call true true 0 (.fn 100) [.t 14]), o 3 (.mv (.t 15))] [0, 3])
 (.seq (.ops [o 16 (.mv (.t 3)), o 17 (.bin .neq (.t 16) (ci 0))] [0, 3, 17])
 (.cond (.t 17)
 (.seq (.ops [o 18 (.mv (.t 3)), o 2 (.mv (.t 18))] [2])
 (.ret))
 (.skip))))
 (.seq (.seq (.ops [o 4 (.mv (ci 0))] [0, 4])
 (.block 0 (.loop false [0, 4] c37L0)))
 (.seq (.ops [o 2 (.mv (ci 0))] [2])
 (.ret))))⟩

/-- crumple/crumpleref08.CheckFit -/
def c38 : AFunc := ⟨15, [.tmp 4],
 .seq (.ops [o 4 (.mv (ci 0))] [0, 1])
 (.seq (.ops [o 5 (.mv (.t 1)), o 6 (.len 1 (.t 5)), o 7 (.mv (.t 0)), o 8 (.len 1 (.t 7)), o 9 (.bin .neq (.t 6) (.t 8)), o 10 (.call true true 0 (.fn 46) [.t 9, ci 2]),
 o 11 (.mv (.t 1)), o 12 (.call true true 0 (.fn 112) [.t 11]), o 13 (.bslice false 1 [.p (.int .i64 0)] 2 [(0, .t 10), (1, .t 12)]),
 o 14 (.call true true 0 (.fn 100) [.t 13]), o 4 (.mv (.t 14))] [4])
 (.ret))⟩

/-- crumple/crumpleref08.CheckPulse -/
def c39 : AFunc := ⟨15, [.tmp 2],
 .seq (.ops [o 2 (.mv (ci 0))] [0])
 (.seq (.ops [o 3 (.mv (.t 0)), o 4 (.len 1 (.t 3)), o 5 (.bin .eql (.t 4) (ci 0)), o 6 (.call true true 0 (.fn 46) [.t 5, ci 12]), o 7 (.mv (.t 0)), o 8 (.len 1 (.t 7)),
 o 9 (.bin .gtr (.t 8) (ci 64)), o 10 (.call true true 0 (.fn 46) [.t 9, ci 5]), o 11 (.mv (.t 0)), o 12 (.call true true 0 (.fn 112) [.t 11]),
 o 13 (.bslice false 1 [.p (.int .i64 0)] 3 [(0, .t 6), (1, .t 10), (2, .t 12)]), o 14 (.call true true 0 (.fn 100) [.t 13]), o 2 (.mv (.t 14))] [2])
 (.ret))⟩

/-- crumple/crumpleref08.Inside -/
def c40L0 : ACode :=
 .seq (.seq (.ops [o 6 (.mv (.t 5)), o 7 (.mv (.t 0)), o 8 (.len 1 (.t 7)), o 9 (.bin .lss (.t 6) (.t 8))] [0, 1, 5, 9])
 (.cond (.t 9)
 (.skip)
 (.exit 0)))
 (.seq (.block 1 (.seq (.opsd [(0, 1), (1, 1), (2, 1), (3, 1), (4, 1), (5, 1), (6, 1), (7, 1), (8, 1), (9, 1), (10, 1), (11, 1), (12, 1), (13, 1), (14, 1), (15, 1), (16, 1), (17, 1), (18, 1), (19, 1), (20, 1), (21, 1)] [o 12 (.mv (.t 1)),
 o 13 (.mv (.t 5)), o 14 (.iadr 1 (.t 12) (.t 13)), o 15 (.ld false 1 (.t 14)), o 16 (.mv (.t 0)), o 17 (.mv (.t 5)), o 18 (.iadr 2 (.t 16) (.t 17)),
 o 19 (.fadr 0 (.t 18)), o 20 (.ld false 1 (.t 19)), o 21 (.bin .lss (.t 15) (.t 20)), o 22 (.mv (.t 21)), ⟨some 23, .mv (.t 1), some (22, false)⟩,
 ⟨some 24, .mv (.t 5), some (22, false)⟩, ⟨some 25, .iadr 1 (.t 23) (.t 24), some (22, false)⟩, ⟨some 26, .ld false 1 (.t 25), some (22, false)⟩,
 ⟨some 27, .mv (.t 0), some (22, false)⟩, ⟨some 28, .mv (.t 5), some (22, false)⟩, ⟨some 29, .iadr 2 (.t 27) (.t 28), some (22, false)⟩,
 ⟨some 30, .fadr 1 (.t 29), some (22, false)⟩, ⟨some 31, .ld false 1 (.t 30), some (22, false)⟩, ⟨some 32, .bin .gtr (.t 26) (.t 31), some (22, false)⟩,
 o 33 (.pick (.t 22) (cb true) (.t 32))] [0, 1, 5, 33])
 (.cond (.t 33)
 (.seq (.ops [o 4 (.mv (cb false))] [4])
 (.ret))
 (.skip))))
 (.ops [o 10 (.mv (.t 5)), o 11 (.bin .add (.t 10) (ci 1)), o 5 (.mv (.t 11))] [0, 1, 5]))
def c40 : AFunc := ⟨34, [.tmp 4],
 .seq (.ops [o 4 (.mv (cb false))] [0, 1])
 (.seq (.seq (.ops [o 5 (.mv (ci 0))] [0, 1, 5])
 (.block 0 (.loop false [0, 1, 5] c40L0)))
 (.seq (.ops [o 4 (.mv (cb true))] [4])
 (.ret)))⟩

/-- crumple/crumpleref08.Excess -/
def c41L0 : ACode :=
 .seq (.seq (.ops [o 10 (.mv (.t 8)), o 11 (.mv (.t 0)), o 12 (.len 1 (.t 11)), o 13 (.bin .lss (.t 10) (.t 12))] [0, 1, 6, 7, 8, 13])
 (.cond (.t 13)
 (.skip)
 (.exit 0)))
 (.seq (.block 1 (.seq (.opsd [(0, 1), (1, 1), (2, 1), (3, 1), (4, 1), (5, 1), (6, 1), (7, 1), (8, 1), (9, 1), (10, 1), (11, 1), (12, 1), (13, 1), (14, 1), (15, 1), (16, 1), (17, 1), (18, 1), (19, 1), (20, 1), (21, 1)] [o 16 (.mv (.t 0)),
 o 17 (.mv (.t 8)), o 18 (.iadr 2 (.t 16) (.t 17)), o 19 (.fadr 0 (.t 18)), o 20 (.ld false 1 (.t 19)), o 21 (.mv (.t 1)), o 22 (.mv (.t 8)),
 o 23 (.iadr 1 (.t 21) (.t 22)), o 24 (.ld false 1 (.t 23)), o 25 (.bin .sub (.t 20) (.t 24)), o 26 (.mv (.t 1)), o 27 (.mv (.t 8)), o 28 (.iadr 1 (.t 26) (.t 27)),
 o 29 (.ld false 1 (.t 28)), o 30 (.mv (.t 0)), o 31 (.mv (.t 8)), o 32 (.iadr 2 (.t 30) (.t 31)), o 33 (.fadr 1 (.t 32)), o 34 (.ld false 1 (.t 33)),
 o 35 (.bin .sub (.t 29) (.t 34)), o 36 (.max [ci 0, .t 25, .t 35]), o 9 (.mv (.t 36))] [0, 1, 6, 7, 8, 9])
 (.seq (.ops [o 37 (.mv (.t 9)), o 38 (.mv (.t 6)), o 39 (.bin .gtr (.t 37) (.t 38))] [0, 1, 6, 7, 8, 9, 39])
 (.cond (.t 39)
 (.ops [o 40 (.mv (.t 9)), o 41 (.mv (.t 8)), o 6 (.mv (.t 40)), o 7 (.mv (.t 41))] [0, 1, 6, 7, 8])
 (.skip)))))
 (.ops [o 14 (.mv (.t 8)), o 15 (.bin .add (.t 14) (ci 1)), o 8 (.mv (.t 15))] [0, 1, 6, 7, 8]))
def c41 : AFunc := ⟨44, [.tmp 4, .tmp 5],
 .seq (.ops [o 4 (.mv (ci 0)), o 5 (.mv (ci 0))] [0, 1])
 (.seq (.ops [o 6 (.mv (ci 0)), o 7 (.mv (ci 0))] [0, 1, 6, 7])
 (.seq (.seq (.ops [o 8 (.mv (ci 0))] [0, 1, 6, 7, 8])
 (.block 0 (.loop false [0, 1, 6, 7, 8] c41L0)))
 (.seq (.ops [o 42 (.mv (.t 6)), o 43 (.mv (.t 7)), o 4 (.mv (.t 42)), o 5 (.mv (.t 43))] [4, 5])
 (.ret))))⟩

/-- crumple/crumpleref08.Sums -/
def c42L0 : ACode :=
 .seq (.seq (.ops [o 6 (.mv (.t 5)), o 7 (.mv (.t 0)), o 8 (.len 1 (.t 7)), o 9 (.bin .lss (.t 6) (.t 8))] [0, 3, 4, 5, 9])
 (.cond (.t 9)
 (.skip)
 (.exit 0)))
 (.seq (.block 1 (.seq (.ops [o 12 (.mv (.t 4)), o 13 (.mv (.t 0)), o 14 (.mv (.t 5)), o 15 (.iadr 1 (.t 13) (.t 14)), o 16 (.ld false 1 (.t 15)),
 o 17 (.bin .add (.t 12) (.t 16)), o 4 (.mv (.t 17))] [0, 3, 4, 5])
 (.ops [o 18 (.mv (.t 3)), o 19 (.mv (.t 4)), o 20 (.bslice false 1 [.p (.int .i64 0)] 1 [(0, .t 19)]), o 21 (.app 1 8 [.p (.int .i64 0)] (.t 18) (.t 20)),
 o 3 (.mv (.t 21))] [0, 3, 4, 5])))
 (.ops [o 10 (.mv (.t 5)), o 11 (.bin .add (.t 10) (ci 1)), o 5 (.mv (.t 11))] [0, 3, 4, 5]))
def c42 : AFunc := ⟨23, [.tmp 2],
 .seq (.ops [o 2 (.mv (cn))] [0])
 (.seq (.ops [o 3 (.nilown 1)] [0, 3])
 (.seq (.ops [o 4 (.mv (ci 0))] [0, 3, 4])
 (.seq (.seq (.ops [o 5 (.mv (ci 0))] [0, 3, 4, 5])
 (.block 0 (.loop false [0, 3, 4, 5] c42L0)))
 (.seq (.ops [o 22 (.mv (.t 3)), o 2 (.mv (.t 22))] [2])
 (.ret)))))⟩

/-- crumple/pulse.CheckCorridor -/
def c43 : AFunc := ⟨13, [.tmp 2],
 .seq (.ops [o 2 (.mv (ci 0))] [0])
 (.seq (.seq (.ops [o 4 (.mv (.t 0)), o 5 (.len 1 (.t 4)), o 6 (.call true true 0 (.fn 106) [.t 5, ci 64]), o 3 (.mv (.t 6))] [0, 3])
 (.seq (.ops [o 7 (.mv (.t 3)), o 8 (.bin .neq (.t 7) (ci 0))] [0, 3, 8])
 (.cond (.t 8)
 (.seq (.ops [o 9 (.mv (.t 3)), o 2 (.mv (.t 9))] [2])
 (.ret))
 (.skip))))
 (.seq (.ops [o 10 (.mv (.t 0)), o 11 (.call true false 0 (.fn 113) [.t 10, cf 114]), o 12 (.call true true 0 (.fn 92) [.t 11]), o 2 (.mv (.t 12))] [2])
 (.ret)))⟩

/-- crumple/pulse.Learned -/
def c44 : AFunc := ⟨33, [.tmp 10, .tmp 11],
 .seq (.ops [o 5 (.box true (.t 0)), o 10 (.mv (cn)), o 11 (.mv (ci 0))] [1, 2, 3, 4, 5])
 (.seq (.seq (.ops [o 13 (.ld true 5 (.t 5)), o 14 (.mv (.t 1)), o 15 (.mv (.t 2)), o 16 (.call true true 0 (.fn 115) [.t 13, .t 14, .t 15]), o 17 (.mv (.t 2)),
 o 18 (.mv (.t 3)), o 19 (.call true true 0 (.fn 108) [.t 17, .t 18]), o 20 (.mv (.t 4)), o 21 (.call true true 0 (.fn 116) [.t 20]),
 o 22 (.bslice false 1 [.p (.int .i64 0)] 3 [(0, .t 16), (1, .t 19), (2, .t 21)]), o 23 (.call true true 0 (.fn 92) [.t 22]), o 12 (.mv (.t 23))] [1, 2, 3, 4, 5, 12])
 (.seq (.ops [o 24 (.mv (.t 12)), o 25 (.bin .neq (.t 24) (ci 0))] [1, 2, 3, 4, 5, 12, 25])
 (.cond (.t 25)
 (.seq (.ops [o 26 (.mv (.t 12)), o 10 (.mv (cn)), o 11 (.mv (.t 26))] [10, 11])
 (.ret))
 (.skip))))
 (.seq (.ops [o 27 (.ld true 5 (.t 5)), o 28 (.mv (.t 1)), o 29 (.mv (.t 2)), o 30 (.mv (.t 3)), o 31 (.mv (.t 4)),
 o 32 (.call true false 0 (.fn 117) [.t 27, .t 28, .t 29, .t 30, .t 31]), o 10 (.mv (.t 32)), o 11 (.mv (ci 0))] [10, 11])
 (.ret)))⟩

/-- crumple/pulse.Learning -/
def c45L0 : ACode :=
 .seq (.ops [o 44 (.bin .lss (.t 43) (.t 42))] [2, 3, 5, 9, 13, 42, 43, 44])
 (.seq (.cond (.t 44)
 (.skip)
 (.exit 0))
 (.seq (.block 1 (.seq (.ops [o 45 (.mv (.t 43)), o 14 (.mv (.t 45))] [2, 3, 5, 9, 13, 14, 42, 43])
 (.opsd [(0, 1), (1, 1), (2, 1), (3, 1), (4, 1), (5, 1), (6, 1), (7, 1), (8, 1), (9, 1), (10, 1), (11, 1), (12, 1), (13, 1), (14, 1), (15, 1), (16, 1), (17, 1), (18, 0), (19, 0), (20, 0), (21, 1)] [o 46 (.mv (.t 13)),
 o 47 (.ld true 5 (.t 5)), o 48 (.mv (.t 13)), o 49 (.mv (.t 14)), o 50 (.iadr 1 (.t 48) (.t 49)), o 51 (.ld false 1 (.t 50)), o 52 (.mv (.t 2)), o 53 (.ld true 5 (.t 5)),
 o 54 (.mv (.t 13)), o 55 (.mv (.t 14)), o 56 (.iadr 1 (.t 54) (.t 55)), o 57 (.ld false 1 (.t 56)), o 58 (.mv (.t 3)), o 59 (.mv (.t 2)), o 60 (.len 1 (.t 59)),
 o 61 (.call true false 0 (.fn 96) [.t 53, .t 57, .t 58, .t 60]), o 62 (.iadra 1 2 (.t 9) (ci 1)), o 63 (.ld false 1 (.t 62)),
 o 64 (.call true false 0 (.fn 117) [.t 47, .t 51, .t 52, .t 61, .t 63]), o 65 (.bslice false 1 [.p (.nils)] 1 [(0, .t 64)]), o 66 (.app 1 24 [.p (.nils)] (.t 46) (.t 65)),
 o 13 (.mv (.t 66))] [2, 3, 5, 9, 13, 42, 43])))
 (.ops [o 67 (.bin .add (.t 43) (ci 1)), o 43 (.mv (.t 67))] [2, 3, 5, 9, 13, 42, 43])))
def c45 : AFunc := ⟨69, [.tmp 10, .tmp 11],
 .seq (.ops [o 5 (.box true (.t 0)), o 9 (.box true (.t 4)), o 10 (.mv (cn)), o 11 (.mv (ci 0))] [1, 2, 3, 5, 9])
 (.seq (.seq (.opsd [(0, 1), (1, 1), (2, 1), (3, 1), (4, 1), (5, 1), (6, 1), (7, 1), (8, 1), (9, 1), (10, 1), (11, 1), (12, 1), (13, 1), (14, 1), (15, 1), (16, 1), (17, 0), (18, 0), (19, 0), (20, 1)] [o 15 (.ld true 5 (.t 5)),
 o 16 (.mv (.t 1)), o 17 (.mv (.t 2)), o 18 (.call true true 0 (.fn 115) [.t 15, .t 16, .t 17]), o 19 (.mv (.t 3)), o 20 (.fadr 0 (.t 5)), o 21 (.fadr 0 (.t 20)),
 o 22 (.ld false 1 (.t 21)), o 23 (.fadr 0 (.t 5)), o 24 (.fadr 1 (.t 23)), o 25 (.ld false 1 (.t 24)), o 26 (.call true true 0 (.fn 95) [.t 19, .t 22, .t 25]),
 o 27 (.iadra 1 2 (.t 9) (ci 0)), o 28 (.ld false 1 (.t 27)), o 29 (.call true true 0 (.fn 95) [.t 28, ci 0, ci 8]), o 30 (.iadra 1 2 (.t 9) (ci 1)),
 o 31 (.ld false 1 (.t 30)), o 32 (.call true true 0 (.fn 116) [.t 31]), o 33 (.bslice false 1 [.p (.int .i64 0)] 4 [(0, .t 18), (1, .t 26), (2, .t 29), (3, .t 32)]),
 o 34 (.call true true 0 (.fn 92) [.t 33]), o 12 (.mv (.t 34))] [1, 2, 3, 5, 9, 12])
 (.seq (.ops [o 35 (.mv (.t 12)), o 36 (.bin .neq (.t 35) (ci 0))] [1, 2, 3, 5, 9, 12, 36])
 (.cond (.t 36)
 (.seq (.ops [o 37 (.mv (.t 12)), o 10 (.mv (cn)), o 11 (.mv (.t 37))] [10, 11])
 (.ret))
 (.skip))))
 (.seq (.ops [o 38 (.mv (.t 1)), o 39 (.call true false 0 (.fn 118) [.t 38]), o 40 (.bslice true 1 [.p (.nils)] 1 [(0, .t 39)]), o 13 (.mv (.t 40))] [2, 3, 5, 9, 13])
 (.seq (.seq (.ops [o 41 (.iadra 1 2 (.t 9) (ci 0)), o 42 (.ld false 1 (.t 41)), o 43 (.mv (ci 0))] [2, 3, 5, 9, 13, 42, 43])
 (.block 0 (.loop false [2, 3, 5, 9, 13, 42, 43] c45L0)))
 (.seq (.ops [o 68 (.mv (.t 13)), o 10 (.mv (.t 68)), o 11 (.mv (ci 0))] [10, 11])
 (.ret)))))⟩

/-- crumple/crumpleref01.When -/
def c46 : AFunc := ⟨7, [.tmp 4],
 .seq (.ops [o 4 (.mv (ci 0))] [0, 1])
 (.seq (.seq (.ops [o 5 (.mv (.t 0))] [1, 5])
 (.cond (.t 5)
 (.seq (.ops [o 6 (.mv (.t 1)), o 4 (.mv (.t 6))] [4])
 (.ret))
 (.skip)))
 (.seq (.ops [o 4 (.mv (ci 0))] [4])
 (.ret)))⟩

/-- crumple/crumpleref08.CheckStep -/
def c47 : AFunc := ⟨5, [.tmp 2],
 .seq (.ops [o 2 (.mv (ci 0))] [0])
 (.seq (.ops [o 3 (.mv (.t 0)), o 4 (.call true true 0 (.fn 101) [.t 3, ci 1, ci 100]), o 2 (.mv (.t 4))] [2])
 (.ret))⟩

/-- crumple/crumpleref08.CheckRounds -/
def c48 : AFunc := ⟨5, [.tmp 2],
 .seq (.ops [o 2 (.mv (ci 0))] [0])
 (.seq (.ops [o 3 (.mv (.t 0)), o 4 (.call true true 0 (.fn 101) [.t 3, ci 0, ci 8]), o 2 (.mv (.t 4))] [2])
 (.ret))⟩

/-- crumple/crumpleref08.Learned -/
def c49L0 : ACode :=
 .seq (.seq (.ops [o 17 (.mv (.t 12)), o 18 (.mv (.t 11)), o 19 (.len 1 (.t 18)), o 20 (.bin .lss (.t 17) (.t 19))] [1, 2, 3, 4, 5, 11, 12, 20])
 (.cond (.t 20)
 (.skip)
 (.exit 0)))
 (.seq (.block 1 (.seq (.seq (.ops [o 23 (.mv (.t 11)), o 24 (.mv (.t 12)), o 25 (.iadr 2 (.t 23) (.t 24)), o 26 (.fadr 0 (.t 25)), o 27 (.ld false 1 (.t 26)),
 o 28 (.mv (.t 2)), o 29 (.len 1 (.t 28)), o 30 (.bin .geq (.t 27) (.t 29))] [1, 2, 3, 4, 5, 11, 12, 30])
 (.cond (.t 30)
 (.exit 1)
 (.skip)))
 (.seq (.ops [o 31 (.bslice true 2 [.p (.int .i64 0), .p (.int .i64 0)] 0 []), o 32 (.mv (.t 11)), o 33 (.app 2 16 [.p (.int .i64 0), .p (.int .i64 0)] (.t 31) (.t 32)),
 o 13 (.mv (.t 33))] [1, 2, 3, 4, 5, 11, 12, 13])
 (.seq (.opsd [(0, 1), (1, 1), (2, 1), (3, 1), (4, 1), (5, 1), (6, 1), (7, 1), (8, 1), (9, 1), (10, 1), (11, 1), (12, 1), (13, 1), (14, 1), (15, 1), (16, 1), (17, 1), (18, 1), (19, 1), (20, 0)] [o 34 (.mv (.t 13)),
 o 35 (.mv (.t 12)), o 36 (.mv (.t 11)), o 37 (.mv (.t 12)), o 38 (.iadr 2 (.t 36) (.t 37)), o 39 (.fadr 1 (.t 38)), o 40 (.ld false 1 (.t 39)), o 41 (.mv (.t 4)),
 o 42 (.ld true 5 (.t 5)), o 43 (.mv (.t 1)), o 44 (.mv (.t 2)), o 45 (.mv (.t 3)), o 46 (.mv (.t 12)),
 o 47 (.call true true 0 (.fn 119) [.t 42, .t 43, .t 44, .t 45, .t 46]), o 48 (.bin .mul (.t 41) (.t 47)), o 49 (.bin .add (.t 40) (.t 48)), o 50 (.min [ci 100, .t 49]),
 o 51 (.max [ci 0, .t 50]), o 52 (.iadr 2 (.t 34) (.t 35)), o 53 (.fadr 1 (.t 52)), u (.st 1 (.t 53) (.t 51))] [1, 2, 3, 4, 5, 11, 12, 13])
 (.seq (.ops [o 54 (.ld true 5 (.t 5)), o 55 (.mv (.t 13)), o 56 (.mv (.t 2)), o 57 (.len 1 (.t 56)),
 o 58 (.call true true 0 (.fn 26) [.t 54, .t 55, .t 57])] [1, 2, 3, 4, 5, 11, 12, 13, 58])
 (.cond (.t 58)
 (.ops [o 59 (.mv (.t 13)), o 11 (.mv (.t 59))] [1, 2, 3, 4, 5, 11, 12])
 (.skip)))))))
 (.ops [o 21 (.mv (.t 12)), o 22 (.bin .add (.t 21) (ci 1)), o 12 (.mv (.t 22))] [1, 2, 3, 4, 5, 11, 12]))
def c49 : AFunc := ⟨61, [.tmp 10],
 .seq (.ops [o 5 (.box true (.t 0)), o 10 (.mv (cn))] [1, 2, 3, 4, 5])
 (.seq (.ops [o 14 (.bslice true 2 [.p (.int .i64 0), .p (.int .i64 0)] 0 []), o 15 (.mv (.t 1)), o 16 (.app 2 16 [.p (.int .i64 0), .p (.int .i64 0)] (.t 14) (.t 15)),
 o 11 (.mv (.t 16))] [1, 2, 3, 4, 5, 11])
 (.seq (.seq (.ops [o 12 (.mv (ci 0))] [1, 2, 3, 4, 5, 11, 12])
 (.block 0 (.loop true [1, 2, 3, 4, 5, 11, 12] c49L0)))
 (.seq (.ops [o 60 (.mv (.t 11)), o 10 (.mv (.t 60))] [10])
 (.ret))))⟩

/-- crumple/crumpleref08.Learning -/
def c50L0 : ACode :=
 .seq (.seq (.ops [o 20 (.mv (.t 14)), o 21 (.mv (.t 4)), o 22 (.bin .lss (.t 20) (.t 21))] [2, 3, 4, 5, 6, 13, 14, 22])
 (.cond (.t 22)
 (.skip)
 (.exit 0)))
 (.seq (.block 1 (.seq (.ops [o 25 (.mv (.t 13)), o 26 (.mv (.t 14)), o 27 (.iadr 1 (.t 25) (.t 26)), o 28 (.ld false 1 (.t 27)),
 o 15 (.mv (.t 28))] [2, 3, 4, 5, 6, 13, 14, 15])
 (.opsd [(0, 1), (1, 1), (2, 1), (3, 1), (4, 1), (5, 1), (6, 1), (7, 1), (8, 1), (9, 1), (10, 1), (11, 0), (12, 0), (13, 0), (14, 1)] [o 29 (.mv (.t 13)),
 o 30 (.ld true 5 (.t 6)), o 31 (.mv (.t 15)), o 32 (.mv (.t 2)), o 33 (.ld true 5 (.t 6)), o 34 (.mv (.t 15)), o 35 (.mv (.t 3)), o 36 (.mv (.t 2)), o 37 (.len 1 (.t 36)),
 o 38 (.call true false 0 (.fn 24) [.t 33, .t 34, .t 35, .t 37]), o 39 (.mv (.t 5)), o 40 (.call true false 0 (.fn 49) [.t 30, .t 31, .t 32, .t 38, .t 39]),
 o 41 (.bslice false 1 [.p (.nils)] 1 [(0, .t 40)]), o 42 (.app 1 24 [.p (.nils)] (.t 29) (.t 41)), o 13 (.mv (.t 42))] [2, 3, 4, 5, 6, 13, 14])))
 (.ops [o 23 (.mv (.t 14)), o 24 (.bin .add (.t 23) (ci 1)), o 14 (.mv (.t 24))] [2, 3, 4, 5, 6, 13, 14]))
def c50 : AFunc := ⟨44, [.tmp 12],
 .seq (.ops [o 6 (.box true (.t 0)), o 12 (.mv (cn))] [1, 2, 3, 4, 5, 6])
 (.seq (.ops [o 16 (.bslice true 2 [.p (.int .i64 0), .p (.int .i64 0)] 0 []), o 17 (.mv (.t 1)), o 18 (.app 2 16 [.p (.int .i64 0), .p (.int .i64 0)] (.t 16) (.t 17)),
 o 19 (.bslice true 1 [.p (.nils)] 1 [(0, .t 18)]), o 13 (.mv (.t 19))] [2, 3, 4, 5, 6, 13])
 (.seq (.seq (.ops [o 14 (.mv (ci 0))] [2, 3, 4, 5, 6, 13, 14])
 (.block 0 (.loop false [2, 3, 4, 5, 6, 13, 14] c50L0)))
 (.seq (.ops [o 43 (.mv (.t 13)), o 12 (.mv (.t 43))] [12])
 (.ret))))⟩

/-- crumple/crumpleref08.SameSetting -/
def c51L0 : ACode :=
 .seq (.seq (.ops [o 11 (.mv (.t 5)), o 12 (.mv (.t 0)), o 13 (.len 1 (.t 12)), o 14 (.bin .lss (.t 11) (.t 13))] [0, 1, 5, 14])
 (.cond (.t 14)
 (.skip)
 (.exit 0)))
 (.seq (.block 1 (.seq (.opsd [(0, 1), (1, 1), (2, 1), (3, 1), (4, 1), (5, 1), (6, 1), (7, 1), (8, 1)] [o 17 (.mv (.t 0)), o 18 (.mv (.t 5)),
 o 19 (.iadr 2 (.t 17) (.t 18)), o 20 (.ld true 2 (.t 19)), o 21 (.mv (.t 1)), o 22 (.mv (.t 5)), o 23 (.iadr 2 (.t 21) (.t 22)), o 24 (.ld true 2 (.t 23)),
 o 25 (.eqagg [0, 0] true (.t 20) (.t 24))] [0, 1, 5, 25])
 (.cond (.t 25)
 (.seq (.ops [o 4 (.mv (cb false))] [4])
 (.ret))
 (.skip))))
 (.ops [o 15 (.mv (.t 5)), o 16 (.bin .add (.t 15) (ci 1)), o 5 (.mv (.t 16))] [0, 1, 5]))
def c51 : AFunc := ⟨26, [.tmp 4],
 .seq (.ops [o 4 (.mv (cb false))] [0, 1])
 (.seq (.seq (.ops [o 6 (.mv (.t 0)), o 7 (.len 1 (.t 6)), o 8 (.mv (.t 1)), o 9 (.len 1 (.t 8)), o 10 (.bin .neq (.t 7) (.t 9))] [0, 1, 10])
 (.cond (.t 10)
 (.seq (.ops [o 4 (.mv (cb false))] [4])
 (.ret))
 (.skip)))
 (.seq (.seq (.ops [o 5 (.mv (ci 0))] [0, 1, 5])
 (.block 0 (.loop false [0, 1, 5] c51L0)))
 (.seq (.ops [o 4 (.mv (cb true))] [4])
 (.ret))))⟩

/-- crumple/crumplelaw08.told -/
def c52L0 : ACode :=
 .seq (.ops [o 9 (.bin .lss (.t 8) (.t 7))] [3, 6, 7, 8, 9])
 (.seq (.cond (.t 9)
 (.skip)
 (.exit 0))
 (.seq (.block 1 (.seq (.ops [o 10 (.iadr 2 (.t 6) (.t 8)), o 11 (.ld true 2 (.t 10)), o 5 (.alloc true 1 [.p (.int .i64 0), .p (.int .i64 0)]),
 u (.st 2 (.t 5) (.t 11))] [3, 5, 6, 7, 8])
 (.ops [o 12 (.mv (.t 3)), o 13 (.ld true 2 (.t 5)), o 14 (.bslice false 2 [.p (.int .i64 0), .p (.int .i64 0)] 1 [(0, .t 13)]),
 o 15 (.app 2 16 [.p (.int .i64 0), .p (.int .i64 0)] (.t 12) (.t 14)), o 3 (.mv (.t 15))] [3, 6, 7, 8])))
 (.ops [o 16 (.bin .add (.t 8) (ci 1)), o 8 (.mv (.t 16))] [3, 6, 7, 8])))
def c52 : AFunc := ⟨18, [.tmp 2],
 .seq (.ops [o 2 (.mv (cn))] [0])
 (.seq (.ops [o 3 (.nilown 2)] [0, 3])
 (.seq (.seq (.ops [o 6 (.mv (.t 0)), o 7 (.len 1 (.t 6)), o 8 (.mv (ci 0))] [3, 6, 7, 8])
 (.block 0 (.loop true [3, 6, 7, 8] c52L0)))
 (.seq (.ops [o 17 (.mv (.t 3)), o 2 (.mv (.t 17))] [2])
 (.ret))))⟩

/-- crumple/crumpleref08.SameSettings -/
def c53L0 : ACode :=
 .seq (.seq (.ops [o 11 (.mv (.t 5)), o 12 (.mv (.t 0)), o 13 (.len 1 (.t 12)), o 14 (.bin .lss (.t 11) (.t 13))] [0, 1, 5, 14])
 (.cond (.t 14)
 (.skip)
 (.exit 0)))
 (.seq (.block 1 (.seq (.opsd [(0, 1), (1, 1), (2, 1), (3, 1), (4, 1), (5, 1), (6, 1), (7, 1), (8, 0), (9, 1)] [o 17 (.mv (.t 0)), o 18 (.mv (.t 5)),
 o 19 (.iadr 1 (.t 17) (.t 18)), o 20 (.ld false 1 (.t 19)), o 21 (.mv (.t 1)), o 22 (.mv (.t 5)), o 23 (.iadr 1 (.t 21) (.t 22)), o 24 (.ld false 1 (.t 23)),
 o 25 (.call true true 0 (.fn 51) [.t 20, .t 24]), o 26 (.not (.t 25))] [0, 1, 5, 26])
 (.cond (.t 26)
 (.seq (.ops [o 4 (.mv (cb false))] [4])
 (.ret))
 (.skip))))
 (.ops [o 15 (.mv (.t 5)), o 16 (.bin .add (.t 15) (ci 1)), o 5 (.mv (.t 16))] [0, 1, 5]))
def c53 : AFunc := ⟨27, [.tmp 4],
 .seq (.ops [o 4 (.mv (cb false))] [0, 1])
 (.seq (.seq (.ops [o 6 (.mv (.t 0)), o 7 (.len 1 (.t 6)), o 8 (.mv (.t 1)), o 9 (.len 1 (.t 8)), o 10 (.bin .neq (.t 7) (.t 9))] [0, 1, 10])
 (.cond (.t 10)
 (.seq (.ops [o 4 (.mv (cb false))] [4])
 (.ret))
 (.skip)))
 (.seq (.seq (.ops [o 5 (.mv (ci 0))] [0, 1, 5])
 (.block 0 (.loop false [0, 1, 5] c53L0)))
 (.seq (.ops [o 4 (.mv (cb true))] [4])
 (.ret))))⟩

/-- crumple/crumplelaw08.back -/
def c54L0 : ACode :=
 .seq (.ops [o 9 (.bin .lss (.t 8) (.t 7))] [3, 6, 7, 8, 9])
 (.seq (.cond (.t 9)
 (.skip)
 (.exit 0))
 (.seq (.block 1 (.seq (.ops [o 10 (.iadr 1 (.t 6) (.t 8)), o 11 (.ld false 1 (.t 10)), o 5 (.mv (.t 11))] [3, 5, 6, 7, 8])
 (.ops [o 12 (.mv (.t 3)), o 13 (.mv (.t 5)), o 14 (.call true false 0 (.fn 52) [.t 13]), o 15 (.bslice false 1 [.p (.nils)] 1 [(0, .t 14)]),
 o 16 (.app 1 24 [.p (.nils)] (.t 12) (.t 15)), o 3 (.mv (.t 16))] [3, 6, 7, 8])))
 (.ops [o 17 (.bin .add (.t 8) (ci 1)), o 8 (.mv (.t 17))] [3, 6, 7, 8])))
def c54 : AFunc := ⟨19, [.tmp 2],
 .seq (.ops [o 2 (.mv (cn))] [0])
 (.seq (.ops [o 3 (.nilown 1)] [0, 3])
 (.seq (.seq (.ops [o 6 (.mv (.t 0)), o 7 (.len 1 (.t 6)), o 8 (.mv (ci 0))] [3, 6, 7, 8])
 (.block 0 (.loop false [3, 6, 7, 8] c54L0)))
 (.seq (.ops [o 18 (.mv (.t 3)), o 2 (.mv (.t 18))] [2])
 (.ret))))⟩

/-- crumple/crumpleref08.ShortRuns -/
def c55L0 : ACode :=
 .seq (.seq (.ops [o 4 (.mv (.t 3)), o 5 (.mv (.t 0)), o 6 (.len 1 (.t 5)), o 7 (.bin .lss (.t 4) (.t 6))] [0, 3, 7])
 (.cond (.t 7)
 (.skip)
 (.exit 0)))
 (.seq (.block 1 (.seq (.ops [o 10 (.mv (.t 0)), o 11 (.mv (.t 3)), o 12 (.iadr 1 (.t 10) (.t 11)), o 13 (.ld false 1 (.t 12)), o 14 (.len 1 (.t 13)),
 o 15 (.bin .gtr (.t 14) (ci 20)), o 16 (.mv (.t 15)), ⟨some 17, .mv (.t 0), some (16, true)⟩, ⟨some 18, .mv (.t 3), some (16, true)⟩,
 ⟨some 19, .iadr 1 (.t 17) (.t 18), some (16, true)⟩, ⟨some 20, .ld false 1 (.t 19), some (16, true)⟩, ⟨some 21, .len 1 (.t 20), some (16, true)⟩,
 ⟨some 22, .bin .neq (.t 21) (ci 65), some (16, true)⟩, o 23 (.pick (.t 16) (.t 22) (cb false))] [0, 3, 23])
 (.cond (.t 23)
 (.seq (.ops [o 2 (.mv (cb false))] [2])
 (.ret))
 (.skip))))
 (.ops [o 8 (.mv (.t 3)), o 9 (.bin .add (.t 8) (ci 1)), o 3 (.mv (.t 9))] [0, 3]))
def c55 : AFunc := ⟨27, [.tmp 2],
 .seq (.ops [o 2 (.mv (cb false))] [0])
 (.seq (.seq (.ops [o 3 (.mv (ci 0))] [0, 3])
 (.block 0 (.loop false [0, 3] c55L0)))
 (.seq (.ops [o 24 (.mv (.t 0)), o 25 (.len 1 (.t 24)), o 26 (.bin .leq (.t 25) (ci 9)), o 2 (.mv (.t 26))] [2])
 (.ret)))⟩

/-- crumple/pulse.Spread -/
def c56 : AFunc := ⟨12, [.tmp 2, .tmp 3],
 .seq (.ops [o 2 (.mv (cn)), o 3 (.mv (ci 0))] [0])
 (.seq (.seq (.ops [o 5 (.mv (.t 0)), o 6 (.call true true 0 (.fn 120) [.t 5]), o 4 (.mv (.t 6))] [0, 4])
 (.seq (.ops [o 7 (.mv (.t 4)), o 8 (.bin .neq (.t 7) (ci 0))] [0, 4, 8])
 (.cond (.t 8)
 (.seq (.ops [o 9 (.mv (.t 4)), o 2 (.mv (cn)), o 3 (.mv (.t 9))] [2, 3])
 (.ret))
 (.skip))))
 (.seq (.ops [o 10 (.mv (.t 0)), o 11 (.call true false 0 (.fn 121) [.t 10]), o 2 (.mv (.t 11)), o 3 (.mv (ci 0))] [2, 3])
 (.ret)))⟩

/-- crumple/crumplelaw08.runs -/
def c57L0 : ACode :=
 .seq (.ops [o 9 (.bin .lss (.t 8) (.t 7))] [3, 6, 7, 8, 9])
 (.seq (.cond (.t 9)
 (.skip)
 (.exit 0))
 (.seq (.block 1 (.seq (.ops [o 10 (.iadr 1 (.t 6) (.t 8)), o 11 (.ld false 1 (.t 10)), o 5 (.mv (.t 11))] [3, 5, 6, 7, 8])
 (.ops [o 12 (.mv (.t 3)), o 13 (.mv (.t 5)), o 14 (.call true false 0 (.fn 33) [.t 13]), o 15 (.bslice false 1 [.p (.nils)] 1 [(0, .t 14)]),
 o 16 (.app 1 24 [.p (.nils)] (.t 12) (.t 15)), o 3 (.mv (.t 16))] [3, 6, 7, 8])))
 (.ops [o 17 (.bin .add (.t 8) (ci 1)), o 8 (.mv (.t 17))] [3, 6, 7, 8])))
def c57 : AFunc := ⟨19, [.tmp 2],
 .seq (.ops [o 2 (.mv (cn))] [0])
 (.seq (.ops [o 3 (.nilown 1)] [0, 3])
 (.seq (.seq (.ops [o 6 (.mv (.t 0)), o 7 (.len 1 (.t 6)), o 8 (.mv (ci 0))] [3, 6, 7, 8])
 (.block 0 (.loop false [3, 6, 7, 8] c57L0)))
 (.seq (.ops [o 18 (.mv (.t 3)), o 2 (.mv (.t 18))] [2])
 (.ret))))⟩

/-- crumple/pulse.Mean -/
def c58L0 : ACode :=
 .seq (.ops [o 25 (.bin .lss (.t 24) (.t 23))] [0, 5, 6, 7, 18, 19, 22, 23, 24, 25])
 (.seq (.cond (.t 25)
 (.skip)
 (.exit 2))
 (.seq (.block 3 (.seq (.ops [o 26 (.iadr 1 (.t 22) (.t 24)), o 27 (.ld false 1 (.t 26)), o 9 (.mv (.t 27))] [0, 5, 6, 7, 9, 18, 19, 22, 23, 24])
 (.ops [o 28 (.mv (.t 7)), o 29 (.mv (.t 9)), o 30 (.mv (.t 6)), o 31 (.iadr 1 (.t 29) (.t 30)), o 32 (.ld false 1 (.t 31)), o 33 (.bin .add (.t 28) (.t 32)),
 o 7 (.mv (.t 33))] [0, 5, 6, 7, 18, 19, 22, 23, 24])))
 (.ops [o 34 (.bin .add (.t 24) (ci 1)), o 24 (.mv (.t 34))] [0, 5, 6, 7, 18, 19, 22, 23, 24])))
def c58L1 : ACode :=
 .seq (.ops [o 20 (.bin .lss (.t 19) (.t 18))] [0, 5, 18, 19, 20])
 (.seq (.cond (.t 20)
 (.skip)
 (.exit 0))
 (.seq (.block 1 (.seq (.ops [o 21 (.mv (.t 19)), o 6 (.mv (.t 21))] [0, 5, 6, 18, 19])
 (.seq (.ops [o 7 (.mv (ci 0))] [0, 5, 6, 7, 18, 19])
 (.seq (.seq (.ops [o 22 (.mv (.t 0)), o 23 (.len 1 (.t 22)), o 24 (.mv (ci 0))] [0, 5, 6, 7, 18, 19, 22, 23, 24])
 (.block 2 (.loop false [0, 5, 6, 7, 18, 19, 22, 23, 24] c58L0)))
 (.ops [o 35 (.mv (.t 5)), o 36 (.mv (.t 7)), o 37 (.bin .mul (ci 2) (.t 36)), o 38 (.mv (.t 0)), o 39 (.len 1 (.t 38)), o 40 (.bin .add (.t 37) (.t 39)), o 41 (.mv (.t 0)),
 o 42 (.len 1 (.t 41)), o 43 (.bin .mul (ci 2) (.t 42)), o 44 (.call true true 0 (.fn 122) [.t 40, .t 43]), o 45 (.bslice false 1 [.p (.int .i64 0)] 1 [(0, .t 44)]),
 o 46 (.app 1 8 [.p (.int .i64 0)] (.t 35) (.t 45)), o 5 (.mv (.t 46))] [0, 5, 18, 19])))))
 (.ops [o 47 (.bin .add (.t 19) (ci 1)), o 19 (.mv (.t 47))] [0, 5, 18, 19])))
def c58 : AFunc := ⟨49, [.tmp 2, .tmp 3],
 .seq (.ops [o 2 (.mv (cn)), o 3 (.mv (ci 0))] [0])
 (.seq (.seq (.ops [o 10 (.mv (.t 0)), o 11 (.call true true 0 (.fn 120) [.t 10]), o 4 (.mv (.t 11))] [0, 4])
 (.seq (.ops [o 12 (.mv (.t 4)), o 13 (.bin .neq (.t 12) (ci 0))] [0, 4, 13])
 (.cond (.t 13)
 (.seq (.ops [o 14 (.mv (.t 4)), o 2 (.mv (cn)), o 3 (.mv (.t 14))] [2, 3])
 (.ret))
 (.skip))))
 (.seq (.ops [o 5 (.nilown 1)] [0, 5])
 (.seq (.seq (.ops [o 15 (.mv (.t 0)), o 16 (.iadr 1 (.t 15) (ci 0)), o 17 (.ld false 1 (.t 16)), o 18 (.len 1 (.t 17)), o 19 (.mv (ci 0))] [0, 5, 18, 19])
 (.block 0 (.loop false [0, 5, 18, 19] c58L1)))
 (.seq (.ops [o 48 (.mv (.t 5)), o 2 (.mv (.t 48)), o 3 (.mv (ci 0))] [2, 3])
 (.ret)))))⟩

/-- crumple/pulse.Alike -/
def c59 : AFunc := ⟨21, [.tmp 4, .tmp 5],
 .seq (.ops [o 3 (.box true (.t 1)), o 4 (.mv (cb false)), o 5 (.mv (ci 0))] [0, 3])
 (.seq (.seq (.opsd [(0, 1), (1, 1), (2, 1), (3, 0), (4, 0), (5, 0), (6, 1)] [o 7 (.mv (.t 0)), o 8 (.call true true 0 (.fn 120) [.t 7]), o 9 (.ld false 1 (.t 3)),
 o 10 (.call true true 0 (.fn 95) [.t 9, ci 0, ci 100000]), o 11 (.bslice false 1 [.p (.int .i64 0)] 2 [(0, .t 8), (1, .t 10)]), o 12 (.call true true 0 (.fn 92) [.t 11]),
 o 6 (.mv (.t 12))] [0, 3, 6])
 (.seq (.ops [o 13 (.mv (.t 6)), o 14 (.bin .neq (.t 13) (ci 0))] [0, 3, 6, 14])
 (.cond (.t 14)
 (.seq (.ops [o 15 (.mv (.t 6)), o 4 (.mv (cb false)), o 5 (.mv (.t 15))] [4, 5])
 (.ret))
 (.skip))))
 (.seq (.ops [o 16 (.mv (.t 0)), o 17 (.call true false 0 (.fn 121) [.t 16]), o 18 (.mkclo 123 [] [.t 3]), o 19 (.call true true 0 (.fn 98) [.t 17, .t 18]),
 o 20 (.not (.t 19)), o 4 (.mv (.t 20)), o 5 (.mv (ci 0))] [4, 5])
 (.ret)))⟩

/-- crumple/pulse.Split -/
def c60 : AFunc := ⟨23, [.tmp 4, .tmp 5, .tmp 6],
 .seq (.ops [o 2 (.box true (.t 0)), o 4 (.mv (cn)), o 5 (.mv (cn)), o 6 (.mv (ci 0))] [1, 2])
 (.seq (.seq (.ops [o 8 (.ld true 3 (.t 2)), o 9 (.call true true 0 (.fn 68) [.t 8]), o 10 (.mv (.t 1)), o 11 (.call true true 0 (.fn 110) [.t 10]),
 o 12 (.bslice false 1 [.p (.int .i64 0)] 2 [(0, .t 9), (1, .t 11)]), o 13 (.call true true 0 (.fn 92) [.t 12]), o 7 (.mv (.t 13))] [1, 2, 7])
 (.seq (.ops [o 14 (.mv (.t 7)), o 15 (.bin .neq (.t 14) (ci 0))] [1, 2, 7, 15])
 (.cond (.t 15)
 (.seq (.ops [o 16 (.mv (.t 7)), o 4 (.mv (cn)), o 5 (.mv (cn)), o 6 (.mv (.t 16))] [4, 5, 6])
 (.ret))
 (.skip))))
 (.seq (.ops [o 17 (.mv (.t 1)), o 18 (.mkclo 125 [] [.t 2]), o 19 (.call true false 0 (.fn 124) [.t 17, .t 18]), o 20 (.mv (.t 1)), o 21 (.mkclo 127 [] [.t 2]),
 o 22 (.call true false 0 (.fn 124) [.t 20, .t 21]), o 4 (.mv (.t 19)), o 5 (.mv (.t 22)), o 6 (.mv (ci 0))] [4, 5, 6])
 (.ret)))⟩

/-- crumple/crumpleref08.CheckRuns -/
def c61L0 : ACode :=
 .seq (.seq (.ops [o 19 (.mv (.t 4)), o 20 (.mv (.t 0)), o 21 (.len 1 (.t 20)), o 22 (.bin .lss (.t 19) (.t 21))] [0, 4, 22])
 (.cond (.t 22)
 (.skip)
 (.exit 0)))
 (.seq (.block 1 (.seq (.opsd [(0, 1), (1, 1), (2, 1), (3, 1), (4, 1), (5, 1), (6, 1), (7, 1), (8, 1), (9, 1), (10, 1), (11, 1), (12, 1), (13, 1), (14, 1), (15, 0), (16, 0), (17, 0), (18, 1)] [o 25 (.mv (.t 0)),
 o 26 (.mv (.t 4)), o 27 (.iadr 1 (.t 25) (.t 26)), o 28 (.ld false 1 (.t 27)), o 29 (.call true true 0 (.fn 39) [.t 28]), o 30 (.mv (.t 0)), o 31 (.mv (.t 4)),
 o 32 (.iadr 1 (.t 30) (.t 31)), o 33 (.ld false 1 (.t 32)), o 34 (.len 1 (.t 33)), o 35 (.mv (.t 0)), o 36 (.iadr 1 (.t 35) (ci 0)), o 37 (.ld false 1 (.t 36)),
 o 38 (.len 1 (.t 37)), o 39 (.bin .neq (.t 34) (.t 38)), o 40 (.call true true 0 (.fn 46) [.t 39, ci 2]),
 o 41 (.bslice false 1 [.p (.int .i64 0)] 2 [(0, .t 29), (1, .t 40)]), o 42 (.call true true 0 (.fn 100) [.t 41]), o 5 (.mv (.t 42))] [0, 4, 5])
 (.seq (.ops [o 43 (.mv (.t 5)), o 44 (.bin .neq (.t 43) (ci 0))] [0, 4, 5, 44])
 (.cond (.t 44)
 (.seq (.ops [o 45 (.mv (.t 5)), o 2 (.mv (.t 45))] [2])
 (.ret))
 (.skip)))))
 (.ops [o 23 (.mv (.t 4)), o 24 (.bin .add (.t 23) (ci 1)), o 4 (.mv (.t 24))] [0, 4]))
def c61 : AFunc := ⟨46, [.tmp 2],
 .seq (.ops [o 2 (.mv (ci 0))] [0])
 (.seq (.seq (.ops [o 6 (.mv (.t 0)), o 7 (.len 1 (.t 6)), o 8 (.bin .eql (.t 7) (ci 0)), o 9 (.call true true 0 (.fn 46) [.t 8, ci 12]), o 10 (.mv (.t 0)),
 o 11 (.len 1 (.t 10)), o 12 (.bin .gtr (.t 11) (ci 8)), o 13 (.call true true 0 (.fn 46) [.t 12, ci 5]),
 o 14 (.bslice false 1 [.p (.int .i64 0)] 2 [(0, .t 9), (1, .t 13)]), o 15 (.call true true 0 (.fn 100) [.t 14]), o 3 (.mv (.t 15))] [0, 3])
 (.seq (.ops [o 16 (.mv (.t 3)), o 17 (.bin .neq (.t 16) (ci 0))] [0, 3, 17])
 (.cond (.t 17)
 (.seq (.ops [o 18 (.mv (.t 3)), o 2 (.mv (.t 18))] [2])
 (.ret))
 (.skip))))
 (.seq (.seq (.ops [o 4 (.mv (ci 0))] [0, 4])
 (.block 0 (.loop false [0, 4] c61L0)))
 (.seq (.ops [o 2 (.mv (ci 0))] [2])
 (.ret))))⟩

/-- crumple/crumpleref08.CheckTolerance -/
def c62 : AFunc := ⟨5, [.tmp 2],
 .seq (.ops [o 2 (.mv (ci 0))] [0])
 (.seq (.ops [o 3 (.mv (.t 0)), o 4 (.call true true 0 (.fn 101) [.t 3, ci 0, ci 100000]), o 2 (.mv (.t 4))] [2])
 (.ret))⟩

/-- crumple/crumpleref08.CheckSlope -/
def c63 : AFunc := ⟨32, [.tmp 2],
 .seq (.ops [o 1 (.box true (.t 0)), o 2 (.mv (ci 0))] [1])
 (.seq (.opsd [(0, 1), (1, 1), (2, 1), (3, 1), (4, 1), (5, 1), (6, 1), (7, 1), (8, 1), (9, 1), (10, 1), (11, 1), (12, 1), (13, 1), (14, 1), (15, 1), (16, 1), (17, 1), (18, 1), (19, 1), (20, 1), (21, 1), (22, 1), (23, 1), (24, 1), (25, 1), (26, 0), (27, 0), (28, 0), (29, 1)] [o 3 (.fadr 0 (.t 1)),
 o 4 (.ld false 1 (.t 3)), o 5 (.call true true 0 (.fn 101) [.t 4, ci 0, ci 1000]), o 6 (.fadr 1 (.t 1)), o 7 (.ld false 1 (.t 6)),
 o 8 (.call true true 0 (.fn 101) [.t 7, ci 0, ci 1000]), o 9 (.fadr 2 (.t 1)), o 10 (.ld false 1 (.t 9)), o 11 (.call true true 0 (.fn 101) [.t 10, ci 1, ci 1000]),
 o 12 (.fadr 0 (.t 1)), o 13 (.ld false 1 (.t 12)), o 14 (.fadr 0 (.t 1)), o 15 (.ld false 1 (.t 14)), o 16 (.bin .mul (.t 13) (.t 15)), o 17 (.fadr 1 (.t 1)),
 o 18 (.ld false 1 (.t 17)), o 19 (.fadr 1 (.t 1)), o 20 (.ld false 1 (.t 19)), o 21 (.bin .mul (.t 18) (.t 20)), o 22 (.bin .add (.t 16) (.t 21)), o 23 (.fadr 2 (.t 1)),
 o 24 (.ld false 1 (.t 23)), o 25 (.fadr 2 (.t 1)), o 26 (.ld false 1 (.t 25)), o 27 (.bin .mul (.t 24) (.t 26)), o 28 (.bin .neq (.t 22) (.t 27)),
 o 29 (.call true true 0 (.fn 46) [.t 28, ci 1]), o 30 (.bslice false 1 [.p (.int .i64 0)] 4 [(0, .t 5), (1, .t 8), (2, .t 11), (3, .t 29)]),
 o 31 (.call true true 0 (.fn 100) [.t 30]), o 2 (.mv (.t 31))] [2])
 (.ret))⟩

/-- crumple/crumpleref08.Spread -/
def c64L0 : ACode :=
 .seq (.seq (.ops [o 28 (.mv (.t 6)), o 29 (.mv (.t 0)), o 30 (.len 1 (.t 29)), o 31 (.bin .lss (.t 28) (.t 30))] [0, 3, 4, 5, 6, 31])
 (.cond (.t 31)
 (.skip)
 (.exit 2)))
 (.seq (.block 3 (.opsd [(0, 1), (1, 1), (2, 1), (3, 1), (4, 1), (5, 1), (6, 1), (7, 1), (8, 1), (9, 1), (10, 1), (11, 1), (12, 1), (13, 1), (14, 1), (15, 1), (16, 1), (17, 1), (18, 1), (19, 1), (20, 1), (21, 0)] [o 34 (.fadr 0 (.t 5)),
 o 35 (.ld false 1 (.t 34)), o 36 (.mv (.t 0)), o 37 (.mv (.t 6)), o 38 (.iadr 1 (.t 36) (.t 37)), o 39 (.ld false 1 (.t 38)), o 40 (.mv (.t 4)),
 o 41 (.iadr 1 (.t 39) (.t 40)), o 42 (.ld false 1 (.t 41)), o 43 (.min [.t 35, .t 42]), o 44 (.fadr 1 (.t 5)), o 45 (.ld false 1 (.t 44)), o 46 (.mv (.t 0)),
 o 47 (.mv (.t 6)), o 48 (.iadr 1 (.t 46) (.t 47)), o 49 (.ld false 1 (.t 48)), o 50 (.mv (.t 4)), o 51 (.iadr 1 (.t 49) (.t 50)), o 52 (.ld false 1 (.t 51)),
 o 53 (.max [.t 45, .t 52]), o 54 (.build [.p (.int .i64 0), .p (.int .i64 0)] [(0, 1, .t 43), (1, 1, .t 53)]), u (.st 2 (.t 5) (.t 54))] [0, 3, 4, 5, 6]))
 (.ops [o 32 (.mv (.t 6)), o 33 (.bin .add (.t 32) (ci 1)), o 6 (.mv (.t 33))] [0, 3, 4, 5, 6]))
def c64L1 : ACode :=
 .seq (.seq (.ops [o 7 (.mv (.t 4)), o 8 (.mv (.t 0)), o 9 (.iadr 1 (.t 8) (ci 0)), o 10 (.ld false 1 (.t 9)), o 11 (.len 1 (.t 10)),
 o 12 (.bin .lss (.t 7) (.t 11))] [0, 3, 4, 12])
 (.cond (.t 12)
 (.skip)
 (.exit 0)))
 (.seq (.block 1 (.seq (.opsd [(0, 1), (1, 1), (2, 1), (3, 1), (4, 1), (5, 1), (6, 1), (7, 1), (8, 1), (9, 1), (10, 1), (11, 1), (12, 1), (13, 2), (14, 0)] [o 15 (.mv (.t 0)),
 o 16 (.iadr 1 (.t 15) (ci 0)), o 17 (.ld false 1 (.t 16)), o 18 (.mv (.t 4)), o 19 (.iadr 1 (.t 17) (.t 18)), o 20 (.ld false 1 (.t 19)), o 21 (.mv (.t 0)),
 o 22 (.iadr 1 (.t 21) (ci 0)), o 23 (.ld false 1 (.t 22)), o 24 (.mv (.t 4)), o 25 (.iadr 1 (.t 23) (.t 24)), o 26 (.ld false 1 (.t 25)),
 o 27 (.build [.p (.int .i64 0), .p (.int .i64 0)] [(0, 1, .t 20), (1, 1, .t 26)]), o 5 (.alloc true 1 [.p (.int .i64 0), .p (.int .i64 0)]),
 u (.st 2 (.t 5) (.t 27))] [0, 3, 4, 5])
 (.seq (.seq (.ops [o 6 (.mv (ci 1))] [0, 3, 4, 5, 6])
 (.block 2 (.loop false [0, 3, 4, 5, 6] c64L0)))
 (.ops [o 55 (.mv (.t 3)), o 56 (.ld true 2 (.t 5)), o 57 (.bslice false 2 [.p (.int .i64 0), .p (.int .i64 0)] 1 [(0, .t 56)]),
 o 58 (.app 2 16 [.p (.int .i64 0), .p (.int .i64 0)] (.t 55) (.t 57)), o 3 (.mv (.t 58))] [0, 3, 4]))))
 (.ops [o 13 (.mv (.t 4)), o 14 (.bin .add (.t 13) (ci 1)), o 4 (.mv (.t 14))] [0, 3, 4]))
def c64 : AFunc := ⟨60, [.tmp 2],
 .seq (.ops [o 2 (.mv (cn))] [0])
 (.seq (.ops [o 3 (.nilown 2)] [0, 3])
 (.seq (.seq (.ops [o 4 (.mv (ci 0))] [0, 3, 4])
 (.block 0 (.loop true [0, 3, 4] c64L1)))
 (.seq (.ops [o 59 (.mv (.t 3)), o 2 (.mv (.t 59))] [2])
 (.ret))))⟩

/-- crumple/crumpleref08.Mean -/
def c65L0 : ACode :=
 .seq (.seq (.ops [o 15 (.mv (.t 6)), o 16 (.mv (.t 0)), o 17 (.len 1 (.t 16)), o 18 (.bin .lss (.t 15) (.t 17))] [0, 3, 4, 5, 6, 18])
 (.cond (.t 18)
 (.skip)
 (.exit 2)))
 (.seq (.block 3 (.ops [o 21 (.mv (.t 5)), o 22 (.mv (.t 0)), o 23 (.mv (.t 6)), o 24 (.iadr 1 (.t 22) (.t 23)), o 25 (.ld false 1 (.t 24)), o 26 (.mv (.t 4)),
 o 27 (.iadr 1 (.t 25) (.t 26)), o 28 (.ld false 1 (.t 27)), o 29 (.bin .add (.t 21) (.t 28)), o 5 (.mv (.t 29))] [0, 3, 4, 5, 6]))
 (.ops [o 19 (.mv (.t 6)), o 20 (.bin .add (.t 19) (ci 1)), o 6 (.mv (.t 20))] [0, 3, 4, 5, 6]))
def c65L1 : ACode :=
 .seq (.seq (.ops [o 7 (.mv (.t 4)), o 8 (.mv (.t 0)), o 9 (.iadr 1 (.t 8) (ci 0)), o 10 (.ld false 1 (.t 9)), o 11 (.len 1 (.t 10)),
 o 12 (.bin .lss (.t 7) (.t 11))] [0, 3, 4, 12])
 (.cond (.t 12)
 (.skip)
 (.exit 0)))
 (.seq (.block 1 (.seq (.ops [o 5 (.mv (ci 0))] [0, 3, 4, 5])
 (.seq (.seq (.ops [o 6 (.mv (ci 0))] [0, 3, 4, 5, 6])
 (.block 2 (.loop false [0, 3, 4, 5, 6] c65L0)))
 (.ops [o 30 (.mv (.t 3)), o 31 (.mv (.t 5)), o 32 (.mv (.t 0)), o 33 (.len 1 (.t 32)), o 34 (.call true true 0 (.fn 128) [.t 31, .t 33]),
 o 35 (.bslice false 1 [.p (.int .i64 0)] 1 [(0, .t 34)]), o 36 (.app 1 8 [.p (.int .i64 0)] (.t 30) (.t 35)), o 3 (.mv (.t 36))] [0, 3, 4]))))
 (.ops [o 13 (.mv (.t 4)), o 14 (.bin .add (.t 13) (ci 1)), o 4 (.mv (.t 14))] [0, 3, 4]))
def c65 : AFunc := ⟨38, [.tmp 2],
 .seq (.ops [o 2 (.mv (cn))] [0])
 (.seq (.ops [o 3 (.nilown 1)] [0, 3])
 (.seq (.seq (.ops [o 4 (.mv (ci 0))] [0, 3, 4])
 (.block 0 (.loop false [0, 3, 4] c65L1)))
 (.seq (.ops [o 37 (.mv (.t 3)), o 2 (.mv (.t 37))] [2])
 (.ret))))⟩

/-- crumple/crumpleref08.Alike -/
def c66L0 : ACode :=
 .seq (.seq (.ops [o 9 (.mv (.t 6)), o 10 (.mv (.t 5)), o 11 (.len 1 (.t 10)), o 12 (.bin .lss (.t 9) (.t 11))] [1, 5, 6, 12])
 (.cond (.t 12)
 (.skip)
 (.exit 0)))
 (.seq (.block 1 (.seq (.opsd [(0, 1), (1, 1), (2, 1), (3, 1), (4, 1), (5, 1), (6, 1), (7, 1), (8, 1), (9, 1), (10, 1), (11, 1), (12, 1)] [o 15 (.mv (.t 5)),
 o 16 (.mv (.t 6)), o 17 (.iadr 2 (.t 15) (.t 16)), o 18 (.fadr 1 (.t 17)), o 19 (.ld false 1 (.t 18)), o 20 (.mv (.t 5)), o 21 (.mv (.t 6)),
 o 22 (.iadr 2 (.t 20) (.t 21)), o 23 (.fadr 0 (.t 22)), o 24 (.ld false 1 (.t 23)), o 25 (.bin .sub (.t 19) (.t 24)), o 26 (.mv (.t 1)),
 o 27 (.bin .gtr (.t 25) (.t 26))] [1, 5, 6, 27])
 (.cond (.t 27)
 (.seq (.ops [o 4 (.mv (cb false))] [4])
 (.ret))
 (.skip))))
 (.ops [o 13 (.mv (.t 6)), o 14 (.bin .add (.t 13) (ci 1)), o 6 (.mv (.t 14))] [1, 5, 6]))
def c66 : AFunc := ⟨28, [.tmp 4],
 .seq (.ops [o 4 (.mv (cb false))] [0, 1])
 (.seq (.ops [o 7 (.mv (.t 0)), o 8 (.call true false 0 (.fn 64) [.t 7]), o 5 (.mv (.t 8))] [1, 5])
 (.seq (.seq (.ops [o 6 (.mv (ci 0))] [1, 5, 6])
 (.block 0 (.loop false [1, 5, 6] c66L0)))
 (.seq (.ops [o 4 (.mv (cb true))] [4])
 (.ret))))⟩

/-- crumple/crumpleref08.Split -/
def c67L0 : ACode :=
 .seq (.seq (.ops [o 9 (.mv (.t 8)), o 10 (.mv (.t 1)), o 11 (.len 1 (.t 10)), o 12 (.bin .lss (.t 9) (.t 11))] [1, 2, 6, 7, 8, 12])
 (.cond (.t 12)
 (.skip)
 (.exit 0)))
 (.seq (.block 1 (.seq (.opsd [(0, 1), (1, 1), (2, 1), (3, 1), (4, 1), (5, 1), (6, 1), (7, 1), (8, 1), (9, 1), (10, 1), (11, 1), (12, 1), (13, 1), (14, 1), (15, 1), (16, 1), (17, 1), (18, 1), (19, 1), (20, 0), (21, 1), (22, 0), (23, 0), (24, 1)] [o 15 (.mv (.t 6)),
 o 16 (.mv (.t 1)), o 17 (.mv (.t 8)), o 18 (.iadr 1 (.t 16) (.t 17)), o 19 (.ld false 1 (.t 18)), o 20 (.fadr 0 (.t 2)), o 21 (.ld false 1 (.t 20)),
 o 22 (.bin .mul (.t 19) (.t 21)), o 23 (.fadr 2 (.t 2)), o 24 (.ld false 1 (.t 23)), o 25 (.call true true 0 (.fn 104) [.t 22, .t 24]), o 26 (.mv (.t 1)),
 o 27 (.mv (.t 8)), o 28 (.iadr 1 (.t 26) (.t 27)), o 29 (.ld false 1 (.t 28)), o 30 (.fadr 0 (.t 2)), o 31 (.ld false 1 (.t 30)), o 32 (.bin .mul (.t 29) (.t 31)),
 o 33 (.fadr 2 (.t 2)), o 34 (.ld false 1 (.t 33)), o 35 (.call true true 0 (.fn 129) [.t 32, .t 34]),
 o 36 (.build [.p (.int .i64 0), .p (.int .i64 0)] [(0, 1, .t 25), (1, 1, .t 35)]), o 37 (.bslice false 2 [.p (.int .i64 0), .p (.int .i64 0)] 1 [(0, .t 36)]),
 o 38 (.app 2 16 [.p (.int .i64 0), .p (.int .i64 0)] (.t 15) (.t 37)), o 6 (.mv (.t 38))] [1, 2, 6, 7, 8])
 (.opsd [(0, 1), (1, 1), (2, 1), (3, 1), (4, 1), (5, 1), (6, 1), (7, 1), (8, 1), (9, 1), (10, 1), (11, 1), (12, 1), (13, 1), (14, 1), (15, 1), (16, 1), (17, 1), (18, 1), (19, 1), (20, 0), (21, 1), (22, 0), (23, 0), (24, 1)] [o 39 (.mv (.t 7)),
 o 40 (.mv (.t 1)), o 41 (.mv (.t 8)), o 42 (.iadr 1 (.t 40) (.t 41)), o 43 (.ld false 1 (.t 42)), o 44 (.fadr 1 (.t 2)), o 45 (.ld false 1 (.t 44)),
 o 46 (.bin .mul (.t 43) (.t 45)), o 47 (.fadr 2 (.t 2)), o 48 (.ld false 1 (.t 47)), o 49 (.call true true 0 (.fn 104) [.t 46, .t 48]), o 50 (.mv (.t 1)),
 o 51 (.mv (.t 8)), o 52 (.iadr 1 (.t 50) (.t 51)), o 53 (.ld false 1 (.t 52)), o 54 (.fadr 1 (.t 2)), o 55 (.ld false 1 (.t 54)), o 56 (.bin .mul (.t 53) (.t 55)),
 o 57 (.fadr 2 (.t 2)), o 58 (.ld false 1 (.t 57)), o 59 (.call true true 0 (.fn 129) [.t 56, .t 58]),
 o 60 (.build [.p (.int .i64 0), .p (.int .i64 0)] [(0, 1, .t 49), (1, 1, .t 59)]), o 61 (.bslice false 2 [.p (.int .i64 0), .p (.int .i64 0)] 1 [(0, .t 60)]),
 o 62 (.app 2 16 [.p (.int .i64 0), .p (.int .i64 0)] (.t 39) (.t 61)), o 7 (.mv (.t 62))] [1, 2, 6, 7, 8])))
 (.ops [o 13 (.mv (.t 8)), o 14 (.bin .add (.t 13) (ci 1)), o 8 (.mv (.t 14))] [1, 2, 6, 7, 8]))
def c67 : AFunc := ⟨65, [.tmp 4, .tmp 5],
 .seq (.ops [o 2 (.box true (.t 0)), o 4 (.mv (cn)), o 5 (.mv (cn))] [1, 2])
 (.seq (.ops [o 6 (.nilown 2), o 7 (.nilown 2)] [1, 2, 6, 7])
 (.seq (.seq (.ops [o 8 (.mv (ci 0))] [1, 2, 6, 7, 8])
 (.block 0 (.loop false [1, 2, 6, 7, 8] c67L0)))
 (.seq (.ops [o 63 (.mv (.t 6)), o 64 (.mv (.t 7)), o 4 (.mv (.t 63)), o 5 (.mv (.t 64))] [4, 5])
 (.ret))))⟩

/-- crumple/pulse.CheckSlope -/
def c68 : AFunc := ⟨32, [.tmp 2],
 .seq (.ops [o 1 (.box true (.t 0)), o 2 (.mv (ci 0))] [1])
 (.seq (.opsd [(0, 1), (1, 1), (2, 1), (3, 1), (4, 1), (5, 1), (6, 1), (7, 1), (8, 1), (9, 1), (10, 1), (11, 1), (12, 1), (13, 1), (14, 1), (15, 1), (16, 1), (17, 1), (18, 1), (19, 1), (20, 1), (21, 1), (22, 1), (23, 1), (24, 1), (25, 1), (26, 0), (27, 0), (28, 0), (29, 1)] [o 3 (.fadr 0 (.t 1)),
 o 4 (.ld false 1 (.t 3)), o 5 (.call true true 0 (.fn 95) [.t 4, ci 0, ci 1000]), o 6 (.fadr 1 (.t 1)), o 7 (.ld false 1 (.t 6)),
 o 8 (.call true true 0 (.fn 95) [.t 7, ci 0, ci 1000]), o 9 (.fadr 2 (.t 1)), o 10 (.ld false 1 (.t 9)), o 11 (.call true true 0 (.fn 95) [.t 10, ci 1, ci 1000]),
 o 12 (.fadr 0 (.t 1)), o 13 (.ld false 1 (.t 12)), o 14 (.fadr 0 (.t 1)), o 15 (.ld false 1 (.t 14)), o 16 (.bin .mul (.t 13) (.t 15)), o 17 (.fadr 1 (.t 1)),
 o 18 (.ld false 1 (.t 17)), o 19 (.fadr 1 (.t 1)), o 20 (.ld false 1 (.t 19)), o 21 (.bin .mul (.t 18) (.t 20)), o 22 (.bin .add (.t 16) (.t 21)), o 23 (.fadr 2 (.t 1)),
 o 24 (.ld false 1 (.t 23)), o 25 (.fadr 2 (.t 1)), o 26 (.ld false 1 (.t 25)), o 27 (.bin .mul (.t 24) (.t 26)), o 28 (.bin .neq (.t 22) (.t 27)),
 o 29 (.call true true 0 (.fn 107) [.t 28, ci 1]), o 30 (.bslice false 1 [.p (.int .i64 0)] 4 [(0, .t 5), (1, .t 8), (2, .t 11), (3, .t 29)]),
 o 31 (.call true true 0 (.fn 92) [.t 30]), o 2 (.mv (.t 31))] [2])
 (.ret))⟩

/-- crumple/pulse.Print -/
def c69 : AFunc := ⟨13, [.tmp 2, .tmp 3],
 .seq (.ops [o 2 (.mv (cs [])), o 3 (.mv (ci 0))] [0])
 (.seq (.seq (.ops [o 5 (.mv (.t 0)), o 6 (.call true true 0 (.fn 28) [.t 5]), o 4 (.mv (.t 6))] [0, 4])
 (.seq (.ops [o 7 (.mv (.t 4)), o 8 (.bin .neq (.t 7) (ci 0))] [0, 4, 8])
 (.cond (.t 8)
 (.seq (.ops [o 9 (.mv (.t 4)), o 2 (.mv (cs [])), o 3 (.mv (.t 9))] [2, 3])
 (.ret))
 (.skip))))
 (.seq (.ops [o 10 (.mv (.t 0)), o 11 (.call true false 0 (.fn 131) [.t 10, cf 132]), o 12 (.call true true 0 (.fn 130) [.t 11, cs []]), o 2 (.mv (.t 12)),
 o 3 (.mv (ci 0))] [2, 3])
 (.ret)))⟩

/-- crumple/pulse.Parse -/
def c70A0 : ACode :=
 .ops [o 6 (.mv (.t 19))] [2, 3, 4, 5, 6]
def c70B0 : ACode :=
 .block 1 (.seq (.ops [o 21 (.mv (.t 6)), o 22 (.call true true 0 (.fn 135) [.t 21, cs [10]]), o 20 (.mv (.t 22)), o 23 (.ext (.t 20) 0), o 24 (.ext (.t 20) 1),
 o 7 (.mv (.t 23)), o 8 (.mv (.t 24))] [2, 3, 4, 5, 7, 8])
 (.seq (.ops [o 25 (.mv (.t 7)), o 26 (.call true false 0 (.fn 136) [.t 25, cs [32]]), o 9 (.mv (.t 26))] [2, 3, 4, 5, 8, 9])
 (.seq (.ops [o 27 (.mv (.t 9)), o 28 (.slc 1 (.t 27) (some (ci 1)) none), o 29 (.build [.p (.nils), .p (.bool false)] [(0, 1, .t 28)]), o 30 (.box false (.t 29)),
 o 10 (.mv (.t 30))] [2, 3, 4, 5, 8, 9, 10])
 (.seq (.ops [o 31 (.mv (.t 10)), o 32 (.mkclo 137 [.t 31] []), o 11 (.mv (.t 32))] [2, 3, 4, 5, 8, 9, 10, 11])
 (.seq (.ops [o 33 (.mv (.t 11)), o 34 (.call false true 0 (.val (.t 33)) []), o 35 (.build [.p (.int .i64 0), .p (.int .i64 0)] [(0, 1, .t 34)]),
 o 12 (.alloc true 1 [.p (.int .i64 0), .p (.int .i64 0)]), u (.st 2 (.t 12) (.t 35))] [2, 3, 4, 5, 8, 9, 10, 11, 12])
 (.seq (.ops [o 36 (.mv (.t 11)), o 37 (.call false true 0 (.val (.t 36)) []), o 38 (.fadr 1 (.t 12)), u (.st 1 (.t 38) (.t 37))] [2, 3, 4, 5, 8, 9, 10, 12])
 (.seq (.seq (.opsd [(0, 1), (1, 1), (2, 1), (3, 1), (4, 1), (5, 1), (6, 1), (7, 1), (8, 1), (9, 1), (10, 1), (11, 1), (12, 1), (13, 1), (14, 1), (15, 1), (16, 1), (17, 1), (18, 1), (19, 1), (20, 1), (21, 1), (22, 1), (23, 1)] [o 39 (.mv (.t 8)),
 o 40 (.not (.t 39)), o 41 (.mv (.t 40)), ⟨some 42, .mv (.t 9), some (41, false)⟩, ⟨some 43, .iadr 1 (.t 42) (ci 0), some (41, false)⟩,
 ⟨some 44, .ld false 1 (.t 43), some (41, false)⟩, ⟨some 45, .iadra 1 1 (.g 0) (ci 0), some (41, false)⟩, ⟨some 46, .ld false 1 (.t 45), some (41, false)⟩,
 ⟨some 47, .bin .neq (.t 44) (.t 46), some (41, false)⟩, o 48 (.pick (.t 41) (cb true) (.t 47)), o 49 (.mv (.t 48)), ⟨some 50, .mv (.t 10), some (49, false)⟩,
 ⟨some 51, .nilck (.t 50), some (49, false)⟩, ⟨some 52, .fadr 1 (.t 51), some (49, false)⟩, ⟨some 53, .ld false 1 (.t 52), some (49, false)⟩,
 o 54 (.pick (.t 49) (cb true) (.t 53)), o 55 (.mv (.t 54)), ⟨some 56, .mv (.t 10), some (55, false)⟩, ⟨some 57, .nilck (.t 56), some (55, false)⟩,
 ⟨some 58, .fadr 0 (.t 57), some (55, false)⟩, ⟨some 59, .ld false 1 (.t 58), some (55, false)⟩, ⟨some 60, .len 1 (.t 59), some (55, false)⟩,
 ⟨some 61, .bin .gtr (.t 60) (ci 0), some (55, false)⟩, o 62 (.pick (.t 55) (cb true) (.t 61))] [2, 3, 4, 5, 12, 62])
 (.cond (.t 62)
 (.seq (.opsd [(0, 8), (1, 8), (2, 3), (3, 0), (4, 0)] [o 63 (.ld false 1 (.t 5)), o 64 (.len 1 (.t 63)), u (.st 1 (.t 2) (cn)), u (.st 1 (.t 3) (.t 64)),
 u (.st 1 (.t 4) (ci 25))] [])
 (.ret))
 (.skip)))
 (.ops [o 65 (.ld false 1 (.t 5)), o 66 (.ld true 2 (.t 12)), o 67 (.bslice false 2 [.p (.int .i64 0), .p (.int .i64 0)] 1 [(0, .t 66)]),
 o 68 (.app 2 16 [.p (.int .i64 0), .p (.int .i64 0)] (.t 65) (.t 67)), u (.st 1 (.t 5) (.t 68))] []))))))))
def c70 : AFunc := ⟨77, [.cell 2 false 1, .cell 3 false 1, .cell 4 false 1],
 .seq (.ops [o 2 (.alloc false 1 [.p (.nils)]), o 3 (.alloc true 1 [.p (.int .i64 0)]), o 4 (.alloc true 1 [.p (.int .i64 0)])] [0, 2, 3, 4])
 (.seq (.seq (.ops [o 14 (.mv (.t 0)), o 15 (.len 0 (.t 14)), o 16 (.bin .gtr (.t 15) (ci 4096))] [0, 2, 3, 4, 16])
 (.cond (.t 16)
 (.seq (.ops [u (.st 1 (.t 2) (cn)), u (.st 1 (.t 3) (ci 0)), u (.st 1 (.t 4) (ci 26))] [2, 3, 4])
 (.ret))
 (.skip)))
 (.seq (.ops [o 5 (.allocown 2)] [0, 2, 3, 4, 5])
 (.seq (.seq (.ops [o 17 (.mv (.t 0)), o 18 (.call false false 1000 (.fn 134) [.t 17])] [2, 3, 4, 5, 18])
 (.block 0 (.rfun (.t 18) [19] c70A0 c70B0)))
 (.seq (.seq (.ops [o 69 (.ld false 1 (.t 5)), o 70 (.call true true 0 (.fn 28) [.t 69]), o 13 (.mv (.t 70))] [2, 3, 4, 5, 13])
 (.seq (.ops [o 71 (.mv (.t 13)), o 72 (.bin .neq (.t 71) (ci 0))] [2, 3, 4, 5, 13, 72])
 (.cond (.t 72)
 (.seq (.opsd [(0, 8), (1, 8), (2, 1), (3, 3), (4, 0), (5, 0)] [o 73 (.ld false 1 (.t 5)), o 74 (.len 1 (.t 73)), o 75 (.mv (.t 13)), u (.st 1 (.t 2) (cn)),
 u (.st 1 (.t 3) (.t 74)), u (.st 1 (.t 4) (.t 75))] [2, 3, 4])
 (.ret))
 (.skip))))
 (.seq (.ops [o 76 (.ld false 1 (.t 5)), u (.st 1 (.t 2) (.t 76)), u (.st 1 (.t 3) (ci 0)), u (.st 1 (.t 4) (ci 0))] [2, 3, 4])
 (.ret))))))⟩

/-- crumple/crumpleref08.Print -/
def c71L0 : ACode :=
 .seq (.seq (.ops [o 5 (.mv (.t 4)), o 6 (.mv (.t 0)), o 7 (.len 1 (.t 6)), o 8 (.bin .lss (.t 5) (.t 7))] [0, 3, 4, 8])
 (.cond (.t 8)
 (.skip)
 (.exit 0)))
 (.seq (.block 1 (.opsd [(0, 1), (1, 1), (2, 1), (3, 1), (4, 1), (5, 1), (6, 1), (7, 1), (8, 1), (9, 1), (10, 1), (11, 1), (12, 1), (13, 1), (14, 1), (15, 0), (16, 1), (17, 1), (18, 1)] [o 11 (.mv (.t 3)),
 o 12 (.bin .add (.t 11) (cs [115, 116, 101, 112, 32])), o 13 (.mv (.t 0)), o 14 (.mv (.t 4)), o 15 (.iadr 2 (.t 13) (.t 14)), o 16 (.fadr 0 (.t 15)),
 o 17 (.ld false 1 (.t 16)), o 18 (.call true true 0 (.fn 138) [.t 17]), o 19 (.bin .add (.t 12) (.t 18)), o 20 (.bin .add (.t 19) (cs [32])), o 21 (.mv (.t 0)),
 o 22 (.mv (.t 4)), o 23 (.iadr 2 (.t 21) (.t 22)), o 24 (.fadr 1 (.t 23)), o 25 (.ld false 1 (.t 24)), o 26 (.call true true 0 (.fn 138) [.t 25]),
 o 27 (.bin .add (.t 20) (.t 26)), o 28 (.bin .add (.t 27) (cs [10])), o 3 (.mv (.t 28))] [0, 3, 4]))
 (.ops [o 9 (.mv (.t 4)), o 10 (.bin .add (.t 9) (ci 1)), o 4 (.mv (.t 10))] [0, 3, 4]))
def c71 : AFunc := ⟨30, [.tmp 2],
 .seq (.ops [o 2 (.mv (cs []))] [0])
 (.seq (.ops [o 3 (.mv (cs []))] [0, 3])
 (.seq (.seq (.ops [o 4 (.mv (ci 0))] [0, 3, 4])
 (.block 0 (.loop false [0, 3, 4] c71L0)))
 (.seq (.ops [o 29 (.mv (.t 3)), o 2 (.mv (.t 29))] [2])
 (.ret))))⟩

/-- crumple/crumpleref08.Parse -/
def c72L0 : ACode :=
 .seq (.seq (.ops [o 19 (.mv (.t 7)), o 20 (.mv (.t 6)), o 21 (.len 1 (.t 20)), o 22 (.bin .lss (.t 19) (.t 21))] [5, 6, 7, 22])
 (.cond (.t 22)
 (.skip)
 (.exit 0)))
 (.seq (.block 1 (.seq (.seq (.ops [o 25 (.mv (.t 7)), o 26 (.mv (.t 6)), o 27 (.len 1 (.t 26)), o 28 (.bin .sub (.t 27) (ci 1)),
 o 29 (.bin .eql (.t 25) (.t 28))] [5, 6, 7, 29])
 (.cond (.t 29)
 (.seq (.seq (.ops [o 30 (.mv (.t 6)), o 31 (.mv (.t 7)), o 32 (.iadr 1 (.t 30) (.t 31)), o 33 (.ld false 1 (.t 32)), o 34 (.bin .neq (.t 33) (cs []))] [5, 6, 7, 34])
 (.cond (.t 34)
 (.seq (.ops [o 35 (.mv (.t 7)), o 2 (.mv (cn)), o 3 (.mv (.t 35)), o 4 (.mv (ci 25))] [2, 3, 4])
 (.ret))
 (.skip)))
 (.exit 1))
 (.skip)))
 (.seq (.ops [o 36 (.mv (.t 6)), o 37 (.mv (.t 7)), o 38 (.iadr 1 (.t 36) (.t 37)), o 39 (.ld false 1 (.t 38)),
 o 40 (.call true false 0 (.fn 74) [.t 39, .c (.p (.int .u8 32))]), o 8 (.mv (.t 40))] [5, 6, 7, 8])
 (.seq (.seq (.ops [o 41 (.mv (.t 8)), o 42 (.len 1 (.t 41)), o 43 (.bin .neq (.t 42) (ci 3)), o 44 (.mv (.t 43)), ⟨some 45, .mv (.t 8), some (44, false)⟩,
 ⟨some 46, .iadr 1 (.t 45) (ci 0), some (44, false)⟩, ⟨some 47, .ld false 1 (.t 46), some (44, false)⟩,
 ⟨some 48, .bin .neq (.t 47) (cs [115, 116, 101, 112]), some (44, false)⟩, o 49 (.pick (.t 44) (cb true) (.t 48))] [5, 6, 7, 8, 49])
 (.cond (.t 49)
 (.seq (.ops [o 50 (.mv (.t 7)), o 2 (.mv (cn)), o 3 (.mv (.t 50)), o 4 (.mv (ci 25))] [2, 3, 4])
 (.ret))
 (.skip)))
 (.seq (.ops [o 52 (.mv (.t 8)), o 53 (.iadr 1 (.t 52) (ci 1)), o 54 (.ld false 1 (.t 53)), o 55 (.call true true 0 (.fn 139) [.t 54]), o 51 (.mv (.t 55)),
 o 56 (.ext (.t 51) 0), o 57 (.ext (.t 51) 1), o 9 (.mv (.t 56)), o 10 (.mv (.t 57))] [5, 6, 7, 8, 9, 10])
 (.seq (.ops [o 59 (.mv (.t 8)), o 60 (.iadr 1 (.t 59) (ci 2)), o 61 (.ld false 1 (.t 60)), o 62 (.call true true 0 (.fn 139) [.t 61]), o 58 (.mv (.t 62)),
 o 63 (.ext (.t 58) 0), o 64 (.ext (.t 58) 1), o 11 (.mv (.t 63)), o 12 (.mv (.t 64))] [5, 6, 7, 9, 10, 11, 12])
 (.seq (.seq (.ops [o 65 (.mv (.t 10)), o 66 (.not (.t 65)), o 67 (.mv (.t 66)), ⟨some 68, .mv (.t 12), some (67, false)⟩, ⟨some 69, .not (.t 68), some (67, false)⟩,
 o 70 (.pick (.t 67) (cb true) (.t 69))] [5, 6, 7, 9, 11, 70])
 (.cond (.t 70)
 (.seq (.ops [o 71 (.mv (.t 7)), o 2 (.mv (cn)), o 3 (.mv (.t 71)), o 4 (.mv (ci 25))] [2, 3, 4])
 (.ret))
 (.skip)))
 (.ops [o 72 (.mv (.t 5)), o 73 (.mv (.t 9)), o 74 (.mv (.t 11)), o 75 (.build [.p (.int .i64 0), .p (.int .i64 0)] [(0, 1, .t 73), (1, 1, .t 74)]),
 o 76 (.bslice false 2 [.p (.int .i64 0), .p (.int .i64 0)] 1 [(0, .t 75)]), o 77 (.app 2 16 [.p (.int .i64 0), .p (.int .i64 0)] (.t 72) (.t 76)),
 o 5 (.mv (.t 77))] [5, 6, 7]))))))))
 (.ops [o 23 (.mv (.t 7)), o 24 (.bin .add (.t 23) (ci 1)), o 7 (.mv (.t 24))] [5, 6, 7]))
def c72 : AFunc := ⟨87, [.tmp 2, .tmp 3, .tmp 4],
 .seq (.ops [o 2 (.mv (cn)), o 3 (.mv (ci 0)), o 4 (.mv (ci 0))] [0])
 (.seq (.seq (.ops [o 14 (.mv (.t 0)), o 15 (.len 0 (.t 14)), o 16 (.bin .gtr (.t 15) (ci 4096))] [0, 16])
 (.cond (.t 16)
 (.seq (.ops [o 2 (.mv (cn)), o 3 (.mv (ci 0)), o 4 (.mv (ci 26))] [2, 3, 4])
 (.ret))
 (.skip)))
 (.seq (.ops [o 5 (.nilown 2)] [0, 5])
 (.seq (.ops [o 17 (.mv (.t 0)), o 18 (.call true false 0 (.fn 74) [.t 17, .c (.p (.int .u8 10))]), o 6 (.mv (.t 18))] [5, 6])
 (.seq (.seq (.ops [o 7 (.mv (ci 0))] [5, 6, 7])
 (.block 0 (.loop false [5, 6, 7] c72L0)))
 (.seq (.seq (.ops [o 78 (.mv (.t 5)), o 79 (.call true true 0 (.fn 19) [.t 78]), o 13 (.mv (.t 79))] [5, 6, 13])
 (.seq (.ops [o 80 (.mv (.t 13)), o 81 (.bin .neq (.t 80) (ci 0))] [5, 6, 13, 81])
 (.cond (.t 81)
 (.seq (.ops [o 82 (.mv (.t 6)), o 83 (.len 1 (.t 82)), o 84 (.bin .sub (.t 83) (ci 1)), o 85 (.mv (.t 13)), o 2 (.mv (cn)), o 3 (.mv (.t 84)),
 o 4 (.mv (.t 85))] [2, 3, 4])
 (.ret))
 (.skip))))
 (.seq (.ops [o 86 (.mv (.t 5)), o 2 (.mv (.t 86)), o 3 (.mv (ci 0)), o 4 (.mv (ci 0))] [2, 3, 4])
 (.ret)))))))⟩

end Fw
