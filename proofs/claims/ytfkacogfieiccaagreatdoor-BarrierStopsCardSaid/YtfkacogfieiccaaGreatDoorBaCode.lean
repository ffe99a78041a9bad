/- The functions of the program, written for the evaluator, first part: definitions alone. -/
import Derived.Test.YtfkacogfieiccaaGreatDoorFwC
namespace Fw
open Go
abbrev o (d : Nat) (x : AOp) : AOper := ⟨some d, x, none⟩
abbrev u (x : AOp) : AOper := ⟨none, x, none⟩
abbrev ci (n : Int) : Opd := .c (.p (.int .i64 n))
abbrev cb (b : Bool) : Opd := .c (.p (.bool b))
abbrev cs (l : List UInt8) : Opd := .c (.p (.str l))
abbrev cn : Opd := .c (.p .nils)
abbrev cf (f : Nat) : Opd := .c (.p (.clo f [] []))
inductive Tr where | leaf | node (k : Nat) (v : AFunc) (l r : Tr)
def Tr.find : Tr → Nat → Option AFunc
 | .leaf, _ => none
 | .node k v l r, n => if n = k then some v else if n < k then l.find n else r.find n
/-- crumple/crumplelaw04.BarrierSpeeds -/
def c3 : AFunc := ⟨109, [.tmp 4],
 .seq (.ops [o 3 (.box true (.t 1)), o 4 (.mv (cb false))] [0, 3])
 (.seq (.seq (.ops [o 17 (.mv (.t 0)), o 18 (.len 1 (.t 17)), o 19 (.bin .gtr (.t 18) (ci 9))] [0, 3, 19])
 (.cond (.t 19)
 (.seq (.ops [o 20 (.call true true 0 (.fn 13) []), o 4 (.mv (.t 20))] [4])
 (.ret))
 (.skip)))
 (.seq (.ops [o 22 (.mv (.t 0)), o 23 (.call true false 0 (.fn 15) [.t 22]), o 24 (.call true false 0 (.fn 14) [.t 23]), o 21 (.mv (.t 24)), o 25 (.ext (.t 21) 0), o 26 (.ext (.t 21) 1), o 5 (.mv (.t 25)), o 6 (.mv (.t 26))] [0, 3, 5, 6])
 (.seq (.ops [o 28 (.mv (.t 0)), o 29 (.call true false 0 (.fn 15) [.t 28]), o 30 (.call true true 0 (.fn 16) [.t 29]), o 27 (.mv (.t 30)), o 31 (.ext (.t 27) 0), o 32 (.ext (.t 27) 1), o 7 (.alloc true 1 [.p (.int .i64 0), .p (.int .i64 0)]), u (.st 2 (.t 7) (.t 31)), o 8 (.mv (.t 32))] [0, 3, 5, 6, 7, 8])
 (.seq (.ops [o 34 (.iadra 2 2 (.t 3) (ci 0)), o 35 (.ld true 2 (.t 34)), o 36 (.iadra 2 2 (.t 3) (ci 1)), o 37 (.ld true 2 (.t 36)), o 38 (.call true true 0 (.fn 17) [.t 35, .t 37]), o 33 (.mv (.t 38)), o 39 (.ext (.t 33) 0), o 40 (.ext (.t 33) 1), o 9 (.alloc true 1 [.p (.int .i64 0), .p (.int .i64 0)]), u (.st 2 (.t 9) (.t 39)), o 10 (.mv (.t 40))] [0, 3, 5, 6, 7, 8, 9, 10])
 (.seq (.opsd [(0, 1), (1, 1), (2, 1), (3, 1), (4, 1), (5, 1), (6, 1), (7, 0), (8, 0), (9, 0), (10, 1), (11, 1)] [o 41 (.mv (.t 0)), o 42 (.call true true 0 (.fn 18) [.t 41]), o 43 (.iadra 2 2 (.t 3) (ci 0)), o 44 (.ld true 2 (.t 43)), o 45 (.call true true 0 (.fn 20) [.t 44]), o 46 (.iadra 2 2 (.t 3) (ci 1)), o 47 (.ld true 2 (.t 46)), o 48 (.call true true 0 (.fn 20) [.t 47]), o 49 (.bslice false 1 [.p (.int .i64 0)] 2 [(0, .t 45), (1, .t 48)]), o 50 (.call true true 0 (.fn 19) [.t 49]), o 11 (.mv (.t 42)), o 12 (.mv (.t 50))] [0, 3, 5, 6, 7, 8, 9, 10, 11, 12])
 (.seq (.ops [o 51 (.mv (.t 11)), o 13 (.mv (.t 51))] [0, 3, 5, 6, 7, 8, 9, 10, 11, 12, 13])
 (.seq (.ops [o 14 (.mv (cn))] [0, 3, 5, 6, 7, 8, 9, 10, 11, 12, 13, 14])
 (.seq (.ops [o 15 (.alloc true 1 [.p (.int .i64 0), .p (.int .i64 0)])] [0, 3, 5, 6, 7, 8, 9, 10, 11, 12, 13, 14, 15])
 (.seq (.ops [o 16 (.alloc true 1 [.p (.int .i64 0), .p (.int .i64 0)])] [0, 3, 5, 6, 7, 8, 9, 10, 11, 12, 13, 14, 15, 16])
 (.seq (.seq (.ops [o 52 (.mv (.t 11)), o 53 (.bin .eql (.t 52) (ci 0))] [0, 3, 5, 6, 7, 8, 9, 10, 11, 12, 13, 14, 15, 16, 53])
 (.cond (.t 53)
 (.seq (.ops [o 54 (.mv (.t 0)), o 55 (.call true false 0 (.fn 21) [.t 54]), o 14 (.mv (.t 55))] [0, 3, 5, 6, 7, 8, 9, 10, 11, 12, 14, 15, 16])
 (.ops [o 57 (.mv (.t 0)), o 58 (.call true true 0 (.fn 22) [.t 57]), o 56 (.mv (.t 58)), o 59 (.ext (.t 56) 0), o 60 (.ext (.t 56) 1), u (.st 2 (.t 15) (.t 59)), o 13 (.mv (.t 60))] [0, 3, 5, 6, 7, 8, 9, 10, 11, 12, 13, 14, 15, 16]))
 (.skip)))
 (.seq (.seq (.ops [o 61 (.mv (.t 12)), o 62 (.bin .eql (.t 61) (ci 0))] [0, 3, 5, 6, 7, 8, 9, 10, 11, 12, 13, 14, 15, 16, 62])
 (.cond (.t 62)
 (.ops [o 64 (.iadra 2 2 (.t 3) (ci 0)), o 65 (.ld true 2 (.t 64)), o 66 (.iadra 2 2 (.t 3) (ci 1)), o 67 (.ld true 2 (.t 66)), o 68 (.call true true 0 (.fn 23) [.t 65, .t 67]), o 63 (.mv (.t 68)), o 69 (.ext (.t 63) 0), o 70 (.ext (.t 63) 1), u (.st 2 (.t 16) (.t 69)), o 12 (.mv (.t 70))] [0, 5, 6, 7, 8, 9, 10, 11, 12, 13, 14, 15, 16])
 (.skip)))
 (.seq (.ops [o 71 (.mv (.t 0)), o 72 (.call true false 0 (.fn 15) [.t 71]), o 73 (.call true true 0 (.fn 24) [.t 72]), o 74 (.mv (.t 11)), o 75 (.bin .eql (.t 73) (.t 74)), o 76 (.mv (.t 75)), ⟨some 77, .mv (.t 5), some (76, true)⟩, ⟨some 78, .mv (.t 14), some (76, true)⟩, ⟨some 79, .call true true 0 (.fn 25) [.t 77, .t 78], some (76, true)⟩, o 80 (.pick (.t 76) (.t 79) (cb false)), o 81 (.mv (.t 80)), ⟨some 82, .mv (.t 6), some (81, true)⟩, ⟨some 83, .mv (.t 11), some (81, true)⟩, ⟨some 84, .bin .eql (.t 82) (.t 83), some (81, true)⟩, o 85 (.pick (.t 81) (.t 84) (cb false)), o 86 (.mv (.t 85)), ⟨some 87, .ld true 2 (.t 7), some (86, true)⟩, ⟨some 88, .ld true 2 (.t 15), some (86, true)⟩, ⟨some 89, .eqagg [0, 0] false (.t 87) (.t 88), some (86, true)⟩, o 90 (.pick (.t 86) (.t 89) (cb false)), o 91 (.mv (.t 90)), ⟨some 92, .mv (.t 8), some (91, true)⟩, ⟨some 93, .mv (.t 13), some (91, true)⟩, ⟨some 94, .bin .eql (.t 92) (.t 93), some (91, true)⟩, o 95 (.pick (.t 91) (.t 94) (cb false)), o 96 (.mv (.t 95)), ⟨some 97, .ld true 2 (.t 9), some (96, true)⟩, ⟨some 98, .ld true 2 (.t 16), some (96, true)⟩, ⟨some 99, .eqagg [0, 0] false (.t 97) (.t 98), some (96, true)⟩, o 100 (.pick (.t 96) (.t 99) (cb false)), o 101 (.mv (.t 100)), ⟨some 102, .mv (.t 10), some (101, true)⟩, ⟨some 103, .mv (.t 12), some (101, true)⟩, ⟨some 104, .bin .eql (.t 102) (.t 103), some (101, true)⟩, o 105 (.pick (.t 101) (.t 104) (cb false)), o 106 (.mv (.t 105)), ⟨some 107, .call true true 0 (.fn 13) [], some (106, true)⟩, o 108 (.pick (.t 106) (.t 107) (cb false)), o 4 (.mv (.t 108))] [4])
 (.ret)))))))))))))⟩

/-- crumple/crumplelaw04.BarrierClasses -/
def c4 : AFunc := ⟨59, [.tmp 6],
 .seq (.ops [o 4 (.box true (.t 1)), o 5 (.box true (.t 2)), o 6 (.mv (cb false))] [0, 4, 5])
 (.seq (.seq (.ops [o 13 (.mv (.t 0)), o 14 (.call true true 0 (.fn 26) [.t 13]), o 15 (.not (.t 14))] [0, 4, 5, 15])
 (.cond (.t 15)
 (.seq (.ops [o 16 (.call true true 0 (.fn 13) []), o 6 (.mv (.t 16))] [6])
 (.ret))
 (.skip)))
 (.seq (.opsd [(0, 1), (1, 1), (2, 1), (3, 1), (4, 0), (5, 1), (6, 1), (7, 1), (8, 1), (9, 1), (10, 1), (11, 1)] [o 18 (.mv (.t 0)), o 19 (.call true false 0 (.fn 28) [.t 18]), o 20 (.ld true 2 (.t 4)), o 21 (.ld true 2 (.t 5)), o 22 (.call true false 0 (.fn 27) [.t 19, .t 20, .t 21]), o 17 (.mv (.t 22)), o 23 (.ext (.t 17) 0), o 24 (.ext (.t 17) 1), o 25 (.ext (.t 17) 2), o 7 (.mv (.t 23)), o 8 (.mv (.t 24)), o 9 (.mv (.t 25))] [0, 4, 5, 7, 8, 9])
 (.seq (.opsd [(0, 1), (1, 1), (2, 1), (3, 1), (4, 1), (5, 0), (6, 0), (7, 0), (8, 1)] [o 26 (.mv (.t 0)), o 27 (.call true true 0 (.fn 29) [.t 26]), o 28 (.ld true 2 (.t 4)), o 29 (.call true true 0 (.fn 30) [.t 28]), o 30 (.ld true 2 (.t 5)), o 31 (.call true true 0 (.fn 31) [.t 30]), o 32 (.bslice false 1 [.p (.int .i64 0)] 3 [(0, .t 27), (1, .t 29), (2, .t 31)]), o 33 (.call true true 0 (.fn 19) [.t 32]), o 10 (.mv (.t 33))] [0, 4, 5, 7, 8, 9, 10])
 (.seq (.ops [o 11 (.mv (cn)), o 12 (.mv (cn))] [0, 4, 5, 7, 8, 9, 10, 11, 12])
 (.seq (.seq (.ops [o 34 (.mv (.t 10)), o 35 (.bin .eql (.t 34) (ci 0))] [0, 4, 5, 7, 8, 9, 10, 11, 12, 35])
 (.cond (.t 35)
 (.ops [o 37 (.mv (.t 0)), o 38 (.ld true 2 (.t 4)), o 39 (.ld true 2 (.t 5)), o 40 (.call true false 0 (.fn 32) [.t 37, .t 38, .t 39]), o 36 (.mv (.t 40)), o 41 (.ext (.t 36) 0), o 42 (.ext (.t 36) 1), o 11 (.mv (.t 41)), o 12 (.mv (.t 42))] [7, 8, 9, 10, 11, 12])
 (.skip)))
 (.seq (.ops [o 43 (.mv (.t 7)), o 44 (.mv (.t 11)), o 45 (.call true true 0 (.fn 33) [.t 43, .t 44]), o 46 (.mv (.t 45)), ⟨some 47, .mv (.t 8), some (46, true)⟩, ⟨some 48, .mv (.t 12), some (46, true)⟩, ⟨some 49, .call true true 0 (.fn 33) [.t 47, .t 48], some (46, true)⟩, o 50 (.pick (.t 46) (.t 49) (cb false)), o 51 (.mv (.t 50)), ⟨some 52, .mv (.t 9), some (51, true)⟩, ⟨some 53, .mv (.t 10), some (51, true)⟩, ⟨some 54, .bin .eql (.t 52) (.t 53), some (51, true)⟩, o 55 (.pick (.t 51) (.t 54) (cb false)), o 56 (.mv (.t 55)), ⟨some 57, .call true true 0 (.fn 13) [], some (56, true)⟩, o 58 (.pick (.t 56) (.t 57) (cb false)), o 6 (.mv (.t 58))] [6])
 (.ret)))))))⟩

/-- crumple/crumplelaw04.BarrierTows -/
def c5 : AFunc := ⟨183, [.tmp 4],
 .seq (.ops [o 2 (.box false (.t 0)), o 3 (.box true (.t 1)), o 4 (.mv (cb false))] [2, 3])
 (.seq (.seq (.ops [o 24 (.fadr 0 (.t 2)), o 25 (.ld false 1 (.t 24)), o 26 (.len 1 (.t 25)), o 27 (.bin .gtr (.t 26) (ci 65))] [2, 3, 27])
 (.cond (.t 27)
 (.seq (.ops [o 28 (.call true true 0 (.fn 13) []), o 4 (.mv (.t 28))] [4])
 (.ret))
 (.skip)))
 (.seq (.opsd [(0, 1), (1, 1), (2, 1), (3, 1), (4, 0), (5, 1), (6, 1), (7, 1), (8, 1), (9, 1)] [o 30 (.ld true 6 (.t 2)), o 31 (.call true false 0 (.fn 35) [.t 30]), o 32 (.iadra 1 3 (.t 3) (ci 1)), o 33 (.ld false 1 (.t 32)), o 34 (.call true false 0 (.fn 34) [.t 31, .t 33]), o 29 (.mv (.t 34)), o 35 (.ext (.t 29) 0), o 36 (.ext (.t 29) 1), o 5 (.mv (.t 35)), o 6 (.mv (.t 36))] [2, 3, 5, 6])
 (.seq (.ops [o 38 (.ld true 6 (.t 2)), o 39 (.call true false 0 (.fn 35) [.t 38]), o 40 (.call true false 0 (.fn 36) [.t 39]), o 37 (.mv (.t 40)), o 41 (.ext (.t 37) 0), o 42 (.ext (.t 37) 1), o 7 (.mv (.t 41)), o 8 (.mv (.t 42))] [2, 3, 5, 6, 7, 8])
 (.seq (.opsd [(0, 1), (1, 1), (2, 1), (3, 1), (4, 1), (5, 1), (6, 1), (7, 1), (8, 0), (9, 1), (10, 1), (11, 1), (12, 1), (13, 1)] [o 44 (.ld true 6 (.t 2)), o 45 (.call true false 0 (.fn 35) [.t 44]), o 46 (.iadra 1 3 (.t 3) (ci 0)), o 47 (.ld false 1 (.t 46)), o 48 (.iadra 1 3 (.t 3) (ci 1)), o 49 (.ld false 1 (.t 48)), o 50 (.iadra 1 3 (.t 3) (ci 2)), o 51 (.ld false 1 (.t 50)), o 52 (.call true true 0 (.fn 37) [.t 45, .t 47, .t 49, .t 51]), o 43 (.mv (.t 52)), o 53 (.ext (.t 43) 0), o 54 (.ext (.t 43) 1), o 9 (.mv (.t 53)), o 10 (.mv (.t 54))] [2, 3, 5, 6, 7, 8, 9, 10])
 (.seq (.opsd [(0, 1), (1, 1), (2, 1), (3, 1), (4, 0), (5, 1), (6, 1), (7, 1), (8, 1), (9, 1)] [o 56 (.ld true 6 (.t 2)), o 57 (.call true false 0 (.fn 35) [.t 56]), o 58 (.iadra 1 3 (.t 3) (ci 0)), o 59 (.ld false 1 (.t 58)), o 60 (.call true true 0 (.fn 38) [.t 57, .t 59]), o 55 (.mv (.t 60)), o 61 (.ext (.t 55) 0), o 62 (.ext (.t 55) 1), o 11 (.mv (.t 61)), o 12 (.mv (.t 62))] [2, 3, 5, 6, 7, 8, 9, 10, 11, 12])
 (.seq (.ops [o 64 (.ld true 6 (.t 2)), o 65 (.call true false 0 (.fn 35) [.t 64]), o 66 (.call true true 0 (.fn 39) [.t 65]), o 63 (.mv (.t 66)), o 67 (.ext (.t 63) 0), o 68 (.ext (.t 63) 1), o 13 (.mv (.t 67)), o 14 (.mv (.t 68))] [2, 3, 5, 6, 7, 8, 9, 10, 11, 12, 13, 14])
 (.seq (.ops [o 69 (.ld true 6 (.t 2)), o 70 (.call true true 0 (.fn 40) [.t 69]), o 15 (.mv (.t 70))] [2, 3, 5, 6, 7, 8, 9, 10, 11, 12, 13, 14, 15])
 (.seq (.ops [o 71 (.mv (.t 15)), o 72 (.mv (.t 15)), o 73 (.mv (.t 15)), o 16 (.mv (.t 71)), o 17 (.mv (.t 72)), o 18 (.mv (.t 73))] [2, 3, 5, 6, 7, 8, 9, 10, 11, 12, 13, 14, 15, 16, 17, 18])
 (.seq (.seq (.ops [o 74 (.mv (.t 15)), o 75 (.bin .eql (.t 74) (ci 0))] [2, 3, 5, 6, 7, 8, 9, 10, 11, 12, 13, 14, 15, 16, 17, 18, 75])
 (.cond (.t 75)
 (.seq (.opsd [(0, 1), (1, 1), (2, 1), (3, 1), (4, 1), (5, 1), (6, 1), (7, 1), (8, 0), (9, 1), (10, 1)] [o 76 (.iadra 1 3 (.t 3) (ci 1)), o 77 (.ld false 1 (.t 76)), o 78 (.fadr 1 (.t 2)), o 79 (.ld true 2 (.t 78)), o 80 (.call true true 0 (.fn 41) [.t 77, .t 79]), o 81 (.ld true 6 (.t 2)), o 82 (.iadra 1 3 (.t 3) (ci 0)), o 83 (.ld false 1 (.t 82)), o 84 (.call true true 0 (.fn 42) [.t 81, .t 83]), o 16 (.mv (.t 80)), o 18 (.mv (.t 84))] [2, 3, 5, 6, 7, 8, 9, 10, 11, 12, 13, 14, 15, 16, 18])
 (.ops [o 85 (.mv (.t 18)), o 86 (.mv (.t 16)), o 87 (.iadra 1 3 (.t 3) (ci 2)), o 88 (.ld false 1 (.t 87)), o 89 (.fadr 3 (.t 2)), o 90 (.ld true 2 (.t 89)), o 91 (.call true true 0 (.fn 41) [.t 88, .t 90]), o 92 (.bslice false 1 [.p (.int .i64 0)] 3 [(0, .t 85), (1, .t 86), (2, .t 91)]), o 93 (.call true true 0 (.fn 19) [.t 92]), o 17 (.mv (.t 93))] [2, 3, 5, 6, 7, 8, 9, 10, 11, 12, 13, 14, 15, 16, 17, 18]))
 (.skip)))
 (.seq (.ops [o 19 (.mv (ci 0)), o 20 (.mv (ci 0)), o 21 (.mv (cb false))] [2, 3, 5, 6, 7, 8, 9, 10, 11, 12, 13, 14, 15, 16, 17, 18, 19, 20, 21])
 (.seq (.ops [o 22 (.mv (cn))] [2, 3, 5, 6, 7, 8, 9, 10, 11, 12, 13, 14, 15, 16, 17, 18, 19, 20, 21, 22])
 (.seq (.ops [o 23 (.mv (cn))] [2, 3, 5, 6, 7, 8, 9, 10, 11, 12, 13, 14, 15, 16, 17, 18, 19, 20, 21, 22, 23])
 (.seq (.seq (.ops [o 94 (.mv (.t 16)), o 95 (.bin .eql (.t 94) (ci 0))] [2, 3, 5, 6, 7, 8, 9, 10, 11, 12, 13, 14, 15, 16, 17, 18, 19, 20, 21, 22, 23, 95])
 (.cond (.t 95)
 (.ops [o 96 (.ld true 6 (.t 2)), o 97 (.iadra 1 3 (.t 3) (ci 1)), o 98 (.ld false 1 (.t 97)), o 99 (.call true false 0 (.fn 43) [.t 96, .t 98]), o 22 (.mv (.t 99))] [2, 3, 5, 6, 7, 8, 9, 10, 11, 12, 13, 14, 15, 16, 17, 18, 19, 20, 21, 22, 23])
 (.skip)))
 (.seq (.seq (.ops [o 100 (.mv (.t 17)), o 101 (.bin .eql (.t 100) (ci 0))] [2, 3, 5, 6, 7, 8, 9, 10, 11, 12, 13, 14, 15, 16, 17, 18, 19, 20, 21, 22, 23, 101])
 (.cond (.t 101)
 (.ops [o 103 (.ld true 6 (.t 2)), o 104 (.iadra 1 3 (.t 3) (ci 0)), o 105 (.ld false 1 (.t 104)), o 106 (.iadra 1 3 (.t 3) (ci 1)), o 107 (.ld false 1 (.t 106)), o 108 (.iadra 1 3 (.t 3) (ci 2)), o 109 (.ld false 1 (.t 108)), o 110 (.call true true 0 (.fn 44) [.t 103, .t 105, .t 107, .t 109]), o 102 (.mv (.t 110)), o 111 (.ext (.t 102) 0), o 112 (.ext (.t 102) 1), o 19 (.mv (.t 111)), o 17 (.mv (.t 112))] [2, 3, 5, 6, 7, 8, 9, 10, 11, 12, 13, 14, 15, 16, 17, 18, 19, 20, 21, 22, 23])
 (.skip)))
 (.seq (.seq (.ops [o 113 (.mv (.t 18)), o 114 (.bin .eql (.t 113) (ci 0))] [2, 3, 5, 6, 7, 8, 9, 10, 11, 12, 13, 14, 15, 16, 17, 18, 19, 20, 21, 22, 23, 114])
 (.cond (.t 114)
 (.ops [o 115 (.ld true 6 (.t 2)), o 116 (.iadra 1 3 (.t 3) (ci 0)), o 117 (.ld false 1 (.t 116)), o 118 (.call true true 0 (.fn 45) [.t 115, .t 117]), o 21 (.mv (.t 118))] [2, 5, 6, 7, 8, 9, 10, 11, 12, 13, 14, 15, 16, 17, 18, 19, 20, 21, 22, 23])
 (.skip)))
 (.seq (.seq (.ops [o 119 (.mv (.t 15)), o 120 (.bin .eql (.t 119) (ci 0))] [2, 5, 6, 7, 8, 9, 10, 11, 12, 13, 14, 15, 16, 17, 18, 19, 20, 21, 22, 23, 120])
 (.cond (.t 120)
 (.opsd [(0, 1), (1, 1), (2, 1), (3, 0), (4, 1), (5, 1)] [o 121 (.ld true 6 (.t 2)), o 122 (.call true false 0 (.fn 46) [.t 121]), o 123 (.ld true 6 (.t 2)), o 124 (.call true true 0 (.fn 47) [.t 123]), o 23 (.mv (.t 122)), o 20 (.mv (.t 124))] [2, 5, 6, 7, 8, 9, 10, 11, 12, 13, 14, 15, 16, 17, 18, 19, 20, 21, 22, 23])
 (.skip)))
 (.seq (.ops [o 125 (.ld true 6 (.t 2)), o 126 (.call true false 0 (.fn 35) [.t 125]), o 127 (.call true true 0 (.fn 48) [.t 126]), o 128 (.mv (.t 15)), o 129 (.bin .eql (.t 127) (.t 128)), o 130 (.mv (.t 129)), ⟨some 131, .mv (.t 5), some (130, true)⟩, ⟨some 132, .mv (.t 22), some (130, true)⟩, ⟨some 133, .call true true 0 (.fn 49) [.t 131, .t 132], some (130, true)⟩, o 134 (.pick (.t 130) (.t 133) (cb false)), o 135 (.mv (.t 134)), ⟨some 136, .mv (.t 6), some (135, true)⟩, ⟨some 137, .mv (.t 16), some (135, true)⟩, ⟨some 138, .bin .eql (.t 136) (.t 137), some (135, true)⟩, o 139 (.pick (.t 135) (.t 138) (cb false)), o 140 (.mv (.t 139)), ⟨some 141, .mv (.t 7), some (140, true)⟩, ⟨some 142, .mv (.t 23), some (140, true)⟩, ⟨some 143, .call true true 0 (.fn 25) [.t 141, .t 142], some (140, true)⟩, o 144 (.pick (.t 140) (.t 143) (cb false)), o 145 (.mv (.t 144)), ⟨some 146, .mv (.t 8), some (145, true)⟩, ⟨some 147, .mv (.t 15), some (145, true)⟩, ⟨some 148, .bin .eql (.t 146) (.t 147), some (145, true)⟩, o 149 (.pick (.t 145) (.t 148) (cb false)), o 150 (.mv (.t 149)), ⟨some 151, .mv (.t 9), some (150, true)⟩, ⟨some 152, .mv (.t 19), some (150, true)⟩, ⟨some 153, .bin .eql (.t 151) (.t 152), some (150, true)⟩, o 154 (.pick (.t 150) (.t 153) (cb false)), o 155 (.mv (.t 154)), ⟨some 156, .mv (.t 10), some (155, true)⟩, ⟨some 157, .mv (.t 17), some (155, true)⟩, ⟨some 158, .bin .eql (.t 156) (.t 157), some (155, true)⟩, o 159 (.pick (.t 155) (.t 158) (cb false)), o 160 (.mv (.t 159)), ⟨some 161, .mv (.t 11), some (160, true)⟩, ⟨some 162, .mv (.t 21), some (160, true)⟩, ⟨some 163, .eqb false (.t 161) (.t 162), some (160, true)⟩, o 164 (.pick (.t 160) (.t 163) (cb false)), o 165 (.mv (.t 164)), ⟨some 166, .mv (.t 12), some (165, true)⟩, ⟨some 167, .mv (.t 18), some (165, true)⟩, ⟨some 168, .bin .eql (.t 166) (.t 167), some (165, true)⟩, o 169 (.pick (.t 165) (.t 168) (cb false)), o 170 (.mv (.t 169)), ⟨some 171, .mv (.t 13), some (170, true)⟩, ⟨some 172, .mv (.t 20), some (170, true)⟩, ⟨some 173, .bin .eql (.t 171) (.t 172), some (170, true)⟩, o 174 (.pick (.t 170) (.t 173) (cb false)), o 175 (.mv (.t 174)), ⟨some 176, .mv (.t 14), some (175, true)⟩, ⟨some 177, .mv (.t 15), some (175, true)⟩, ⟨some 178, .bin .eql (.t 176) (.t 177), some (175, true)⟩, o 179 (.pick (.t 175) (.t 178) (cb false)), o 180 (.mv (.t 179)), ⟨some 181, .call true true 0 (.fn 13) [], some (180, true)⟩, o 182 (.pick (.t 180) (.t 181) (cb false)), o 4 (.mv (.t 182))] [4])
 (.ret))))))))))))))))))⟩

/-- crumple/crumplelaw04.BarrierTables -/
def c6 : AFunc := ⟨74, [.tmp 6],
 .seq (.ops [o 3 (.box false (.t 0)), o 6 (.mv (cb false))] [1, 2, 3])
 (.seq (.seq (.ops [o 13 (.fadr 0 (.t 3)), o 14 (.ld false 1 (.t 13)), o 15 (.len 1 (.t 14)), o 16 (.bin .gtr (.t 15) (ci 65)), o 17 (.mv (.t 16)), ⟨some 18, .mv (.t 1), some (17, false)⟩, ⟨some 19, .len 1 (.t 18), some (17, false)⟩, ⟨some 20, .bin .gtr (.t 19) (ci 70), some (17, false)⟩, o 21 (.pick (.t 17) (cb true) (.t 20))] [1, 2, 3, 21])
 (.cond (.t 21)
 (.seq (.ops [o 22 (.call true true 0 (.fn 13) []), o 6 (.mv (.t 22))] [6])
 (.ret))
 (.skip)))
 (.seq (.ops [o 24 (.ld true 6 (.t 3)), o 25 (.call true false 0 (.fn 35) [.t 24]), o 26 (.call true false 0 (.fn 50) [.t 25]), o 23 (.mv (.t 26)), o 27 (.ext (.t 23) 0), o 28 (.ext (.t 23) 1), o 7 (.mv (.t 27)), o 8 (.mv (.t 28))] [1, 2, 3, 7, 8])
 (.seq (.ops [o 29 (.ld true 6 (.t 3)), o 30 (.call true false 0 (.fn 35) [.t 29]), o 31 (.mv (.t 1)), o 32 (.call true false 0 (.fn 52) [.t 31]), o 33 (.mv (.t 2)), o 34 (.call true true 0 (.fn 51) [.t 30, .t 32, .t 33]), o 9 (.mv (.t 34))] [1, 2, 3, 7, 8, 9])
 (.seq (.ops [o 35 (.ld true 6 (.t 3)), o 36 (.call true true 0 (.fn 40) [.t 35]), o 10 (.mv (.t 36))] [1, 2, 3, 7, 8, 9, 10])
 (.seq (.ops [o 37 (.mv (.t 10)), o 11 (.mv (.t 37))] [1, 2, 3, 7, 8, 9, 10, 11])
 (.seq (.ops [o 12 (.mv (cn))] [1, 2, 3, 7, 8, 9, 10, 11, 12])
 (.seq (.seq (.ops [o 38 (.mv (.t 10)), o 39 (.bin .eql (.t 38) (ci 0))] [1, 2, 3, 7, 8, 9, 10, 11, 12, 39])
 (.cond (.t 39)
 (.seq (.ops [o 40 (.ld true 6 (.t 3)), o 41 (.call true false 0 (.fn 53) [.t 40]), o 12 (.mv (.t 41))] [1, 2, 3, 7, 8, 9, 10, 12])
 (.opsd [(0, 1), (1, 1), (2, 1), (3, 1), (4, 1), (5, 0), (6, 0), (7, 0), (8, 1)] [o 42 (.ld true 6 (.t 3)), o 43 (.mv (.t 1)), o 44 (.call true true 0 (.fn 54) [.t 42, .t 43]), o 45 (.ld true 6 (.t 3)), o 46 (.mv (.t 2)), o 47 (.call true true 0 (.fn 42) [.t 45, .t 46]), o 48 (.bslice false 1 [.p (.int .i64 0)] 2 [(0, .t 44), (1, .t 47)]), o 49 (.call true true 0 (.fn 19) [.t 48]), o 11 (.mv (.t 49))] [1, 2, 3, 7, 8, 9, 10, 11, 12]))
 (.skip)))
 (.seq (.seq (.ops [o 50 (.mv (.t 11)), o 51 (.bin .eql (.t 50) (ci 0))] [1, 2, 3, 7, 8, 9, 10, 11, 12, 51])
 (.cond (.t 51)
 (.ops [o 52 (.ld true 6 (.t 3)), o 53 (.mv (.t 1)), o 54 (.mv (.t 2)), o 55 (.call true true 0 (.fn 56) [.t 52, .t 53, .t 54]), o 56 (.not (.t 55)), o 57 (.call true true 0 (.fn 55) [.t 56, ci 19]), o 11 (.mv (.t 57))] [7, 8, 9, 10, 11, 12])
 (.skip)))
 (.seq (.ops [o 58 (.mv (.t 7)), o 59 (.mv (.t 12)), o 60 (.call true true 0 (.fn 49) [.t 58, .t 59]), o 61 (.mv (.t 60)), ⟨some 62, .mv (.t 8), some (61, true)⟩, ⟨some 63, .mv (.t 10), some (61, true)⟩, ⟨some 64, .bin .eql (.t 62) (.t 63), some (61, true)⟩, o 65 (.pick (.t 61) (.t 64) (cb false)), o 66 (.mv (.t 65)), ⟨some 67, .mv (.t 9), some (66, true)⟩, ⟨some 68, .mv (.t 11), some (66, true)⟩, ⟨some 69, .bin .eql (.t 67) (.t 68), some (66, true)⟩, o 70 (.pick (.t 66) (.t 69) (cb false)), o 71 (.mv (.t 70)), ⟨some 72, .call true true 0 (.fn 13) [], some (71, true)⟩, o 73 (.pick (.t 71) (.t 72) (cb false)), o 6 (.mv (.t 73))] [6])
 (.ret))))))))))⟩

/-- crumple/crumplelaw04.BarrierBalances -/
def c7 : AFunc := ⟨141, [.tmp 4],
 .seq (.ops [o 4 (.mv (cb false))] [0, 1])
 (.seq (.seq (.ops [o 22 (.mv (.t 0)), o 23 (.call true true 0 (.fn 57) [.t 22]), o 24 (.not (.t 23)), o 25 (.mv (.t 24)), ⟨some 26, .mv (.t 1), some (25, false)⟩, ⟨some 27, .call true true 0 (.fn 58) [.t 26], some (25, false)⟩, ⟨some 28, .not (.t 27), some (25, false)⟩, o 29 (.pick (.t 25) (cb true) (.t 28))] [0, 1, 29])
 (.cond (.t 29)
 (.seq (.ops [o 30 (.call true true 0 (.fn 13) []), o 4 (.mv (.t 30))] [4])
 (.ret))
 (.skip)))
 (.seq (.ops [o 32 (.mv (.t 0)), o 33 (.call true false 0 (.fn 60) [.t 32]), o 34 (.call false true 0 (.fn 59) [.t 33]), o 31 (.mv (.t 34)), o 35 (.ext (.t 31) 0), o 36 (.ext (.t 31) 1), o 37 (.ext (.t 31) 2), o 5 (.alloc true 1 [.p (.int .i64 0), .p (.int .i64 0)]), o 6 (.alloc true 1 [.p (.int .i64 0), .p (.int .i64 0)]), u (.st 2 (.t 5) (.t 35)), u (.st 2 (.t 6) (.t 36)), o 7 (.mv (.t 37))] [0, 1, 5, 6, 7])
 (.seq (.ops [o 39 (.mv (.t 0)), o 40 (.call true false 0 (.fn 60) [.t 39]), o 41 (.call false true 0 (.fn 61) [.t 40]), o 38 (.mv (.t 41)), o 42 (.ext (.t 38) 0), o 43 (.ext (.t 38) 1), o 8 (.alloc true 1 [.p (.int .i64 0), .p (.int .i64 0)]), u (.st 2 (.t 8) (.t 42)), o 9 (.mv (.t 43))] [0, 1, 5, 6, 7, 8, 9])
 (.seq (.ops [o 45 (.mv (.t 0)), o 46 (.call true false 0 (.fn 60) [.t 45]), o 47 (.mv (.t 1)), o 48 (.call true false 0 (.fn 63) [.t 47]), o 49 (.call false true 0 (.fn 62) [.t 46, .t 48]), o 44 (.mv (.t 49)), o 50 (.ext (.t 44) 0), o 51 (.ext (.t 44) 1), o 10 (.mv (.t 50)), o 11 (.mv (.t 51))] [0, 1, 5, 6, 7, 8, 9, 10, 11])
 (.seq (.ops [o 53 (.mv (.t 0)), o 54 (.call true false 0 (.fn 60) [.t 53]), o 55 (.mv (.t 1)), o 56 (.call true false 0 (.fn 63) [.t 55]), o 57 (.call false false 0 (.fn 64) [.t 54, .t 56]), o 52 (.mv (.t 57)), o 58 (.ext (.t 52) 0), o 59 (.ext (.t 52) 1), o 12 (.mv (.t 58)), o 13 (.mv (.t 59))] [0, 1, 5, 6, 7, 8, 9, 10, 11, 12, 13])
 (.seq (.ops [o 60 (.mv (.t 0)), o 61 (.call true true 0 (.fn 65) [.t 60]), o 14 (.mv (.t 61))] [0, 1, 5, 6, 7, 8, 9, 10, 11, 12, 13, 14])
 (.seq (.ops [o 62 (.mv (.t 14)), o 63 (.mv (.t 1)), o 64 (.call true true 0 (.fn 66) [.t 63]), o 65 (.bslice false 1 [.p (.int .i64 0)] 2 [(0, .t 62), (1, .t 64)]), o 66 (.call true true 0 (.fn 19) [.t 65]), o 15 (.mv (.t 66))] [0, 1, 5, 6, 7, 8, 9, 10, 11, 12, 13, 14, 15])
 (.seq (.ops [o 67 (.mv (.t 15)), o 16 (.mv (.t 67))] [0, 1, 5, 6, 7, 8, 9, 10, 11, 12, 13, 14, 15, 16])
 (.seq (.ops [o 17 (.alloc true 1 [.p (.int .i64 0), .p (.int .i64 0)]), o 18 (.alloc true 1 [.p (.int .i64 0), .p (.int .i64 0)]), o 19 (.alloc true 1 [.p (.int .i64 0), .p (.int .i64 0)])] [0, 1, 5, 6, 7, 8, 9, 10, 11, 12, 13, 14, 15, 16, 17, 18, 19])
 (.seq (.ops [o 20 (.mv (cn))] [0, 1, 5, 6, 7, 8, 9, 10, 11, 12, 13, 14, 15, 16, 17, 18, 19, 20])
 (.seq (.ops [o 21 (.mv (cb false))] [0, 1, 5, 6, 7, 8, 9, 10, 11, 12, 13, 14, 15, 16, 17, 18, 19, 20, 21])
 (.seq (.seq (.ops [o 68 (.mv (.t 14)), o 69 (.bin .eql (.t 68) (ci 0))] [0, 1, 5, 6, 7, 8, 9, 10, 11, 12, 13, 14, 15, 16, 17, 18, 19, 20, 21, 69])
 (.cond (.t 69)
 (.seq (.ops [o 71 (.mv (.t 0)), o 72 (.call true true 0 (.fn 67) [.t 71]), o 70 (.mv (.t 72)), o 73 (.ext (.t 70) 0), o 74 (.ext (.t 70) 1), u (.st 2 (.t 17) (.t 73)), u (.st 2 (.t 18) (.t 74))] [0, 1, 5, 6, 7, 8, 9, 10, 11, 12, 13, 14, 15, 16, 17, 18, 19, 20, 21])
 (.ops [o 75 (.mv (.t 0)), o 76 (.call true true 0 (.fn 68) [.t 75]), u (.st 2 (.t 19) (.t 76))] [0, 1, 5, 6, 7, 8, 9, 10, 11, 12, 13, 14, 15, 16, 17, 18, 19, 20, 21]))
 (.skip)))
 (.seq (.seq (.ops [o 77 (.mv (.t 15)), o 78 (.bin .eql (.t 77) (ci 0))] [0, 1, 5, 6, 7, 8, 9, 10, 11, 12, 13, 14, 15, 16, 17, 18, 19, 20, 21, 78])
 (.cond (.t 78)
 (.seq (.ops [o 79 (.mv (.t 0)), o 80 (.mv (.t 1)), o 81 (.call true true 0 (.fn 69) [.t 79, .t 80]), o 21 (.mv (.t 81))] [0, 1, 5, 6, 7, 8, 9, 10, 11, 12, 13, 14, 15, 17, 18, 19, 21])
 (.ops [o 83 (.mv (.t 0)), o 84 (.mv (.t 1)), o 85 (.call true false 0 (.fn 70) [.t 83, .t 84]), o 82 (.mv (.t 85)), o 86 (.ext (.t 82) 0), o 87 (.ext (.t 82) 1), o 20 (.mv (.t 86)), o 16 (.mv (.t 87))] [0, 5, 6, 7, 8, 9, 10, 11, 12, 13, 14, 15, 16, 17, 18, 19, 20, 21]))
 (.skip)))
 (.seq (.ops [o 88 (.mv (.t 0)), o 89 (.call true false 0 (.fn 60) [.t 88]), o 90 (.call false true 0 (.fn 71) [.t 89]), o 91 (.mv (.t 14)), o 92 (.bin .eql (.t 90) (.t 91)), o 93 (.mv (.t 92)), ⟨some 94, .ld true 2 (.t 5), some (93, true)⟩, ⟨some 95, .ld true 2 (.t 17), some (93, true)⟩, ⟨some 96, .eqagg [0, 0] false (.t 94) (.t 95), some (93, true)⟩, o 97 (.pick (.t 93) (.t 96) (cb false)), o 98 (.mv (.t 97)), ⟨some 99, .ld true 2 (.t 6), some (98, true)⟩, ⟨some 100, .ld true 2 (.t 18), some (98, true)⟩, ⟨some 101, .eqagg [0, 0] false (.t 99) (.t 100), some (98, true)⟩, o 102 (.pick (.t 98) (.t 101) (cb false)), o 103 (.mv (.t 102)), ⟨some 104, .mv (.t 7), some (103, true)⟩, ⟨some 105, .mv (.t 14), some (103, true)⟩, ⟨some 106, .bin .eql (.t 104) (.t 105), some (103, true)⟩, o 107 (.pick (.t 103) (.t 106) (cb false)), o 108 (.mv (.t 107)), ⟨some 109, .ld true 2 (.t 8), some (108, true)⟩, ⟨some 110, .ld true 2 (.t 19), some (108, true)⟩, ⟨some 111, .eqagg [0, 0] false (.t 109) (.t 110), some (108, true)⟩, o 112 (.pick (.t 108) (.t 111) (cb false)), o 113 (.mv (.t 112)), ⟨some 114, .mv (.t 9), some (113, true)⟩, ⟨some 115, .mv (.t 14), some (113, true)⟩, ⟨some 116, .bin .eql (.t 114) (.t 115), some (113, true)⟩, o 117 (.pick (.t 113) (.t 116) (cb false)), o 118 (.mv (.t 117)), ⟨some 119, .mv (.t 10), some (118, true)⟩, ⟨some 120, .mv (.t 21), some (118, true)⟩, ⟨some 121, .eqb false (.t 119) (.t 120), some (118, true)⟩, o 122 (.pick (.t 118) (.t 121) (cb false)), o 123 (.mv (.t 122)), ⟨some 124, .mv (.t 11), some (123, true)⟩, ⟨some 125, .mv (.t 15), some (123, true)⟩, ⟨some 126, .bin .eql (.t 124) (.t 125), some (123, true)⟩, o 127 (.pick (.t 123) (.t 126) (cb false)), o 128 (.mv (.t 127)), ⟨some 129, .mv (.t 12), some (128, true)⟩, ⟨some 130, .mv (.t 20), some (128, true)⟩, ⟨some 131, .call true true 0 (.fn 33) [.t 129, .t 130], some (128, true)⟩, o 132 (.pick (.t 128) (.t 131) (cb false)), o 133 (.mv (.t 132)), ⟨some 134, .mv (.t 13), some (133, true)⟩, ⟨some 135, .mv (.t 16), some (133, true)⟩, ⟨some 136, .bin .eql (.t 134) (.t 135), some (133, true)⟩, o 137 (.pick (.t 133) (.t 136) (cb false)), o 138 (.mv (.t 137)), ⟨some 139, .call true true 0 (.fn 13) [], some (138, true)⟩, o 140 (.pick (.t 138) (.t 139) (cb false)), o 4 (.mv (.t 140))] [4])
 (.ret)))))))))))))))⟩

/-- crumple/crumplelaw04.BarrierWalls -/
def c8 : AFunc := ⟨180, [.tmp 4],
 .seq (.ops [o 3 (.box false (.t 1)), o 4 (.mv (cb false))] [0, 3])
 (.seq (.seq (.ops [o 24 (.mv (.t 0)), o 25 (.call true true 0 (.fn 58) [.t 24]), o 26 (.not (.t 25)), o 27 (.mv (.t 26)), ⟨some 28, .fadr 0 (.t 3), some (27, false)⟩, ⟨some 29, .ld false 1 (.t 28), some (27, false)⟩, ⟨some 30, .len 1 (.t 29), some (27, false)⟩, ⟨some 31, .bin .gtr (.t 30) (ci 10), some (27, false)⟩, ⟨some 32, .mv (.t 31), some (27, false)⟩, ⟨some 33, .fadr 0 (.t 3), some (32, true)⟩, ⟨some 34, .ld false 1 (.t 33), some (32, true)⟩, ⟨some 35, .len 1 (.t 34), some (32, true)⟩, ⟨some 36, .bin .neq (.t 35) (ci 65), some (32, true)⟩, ⟨some 37, .pick (.t 32) (.t 36) (cb false), some (27, false)⟩, o 38 (.pick (.t 27) (cb true) (.t 37)), o 39 (.mv (.t 38)), ⟨some 40, .fadr 1 (.t 3), some (39, false)⟩, ⟨some 41, .ld false 1 (.t 40), some (39, false)⟩, ⟨some 42, .len 1 (.t 41), some (39, false)⟩, ⟨some 43, .bin .gtr (.t 42) (ci 10), some (39, false)⟩, ⟨some 44, .mv (.t 43), some (39, false)⟩, ⟨some 45, .fadr 1 (.t 3), some (44, true)⟩, ⟨some 46, .ld false 1 (.t 45), some (44, true)⟩, ⟨some 47, .len 1 (.t 46), some (44, true)⟩, ⟨some 48, .bin .neq (.t 47) (ci 65), some (44, true)⟩, ⟨some 49, .pick (.t 44) (.t 48) (cb false), some (39, false)⟩, o 50 (.pick (.t 39) (cb true) (.t 49))] [0, 3, 50])
 (.cond (.t 50)
 (.seq (.ops [o 51 (.call true true 0 (.fn 13) []), o 4 (.mv (.t 51))] [4])
 (.ret))
 (.skip)))
 (.seq (.ops [o 53 (.mv (.t 0)), o 54 (.call true false 0 (.fn 63) [.t 53]), o 55 (.call true true 0 (.fn 72) [.t 54]), o 52 (.mv (.t 55)), o 56 (.ext (.t 52) 0), o 57 (.ext (.t 52) 1), o 5 (.alloc true 1 [.p (.int .i64 0), .p (.int .i64 0)]), u (.st 2 (.t 5) (.t 56)), o 6 (.mv (.t 57))] [0, 3, 5, 6])
 (.seq (.ops [o 59 (.mv (.t 0)), o 60 (.call true false 0 (.fn 63) [.t 59]), o 61 (.call true true 0 (.fn 73) [.t 60]), o 58 (.mv (.t 61)), o 62 (.ext (.t 58) 0), o 63 (.ext (.t 58) 1), o 64 (.ext (.t 58) 2), o 7 (.mv (.t 62)), o 8 (.mv (.t 63)), o 9 (.mv (.t 64))] [0, 3, 5, 6, 7, 8, 9])
 (.seq (.opsd [(0, 1), (1, 1), (2, 1), (3, 1), (4, 1), (5, 1), (6, 1), (7, 1), (8, 1), (9, 2), (10, 2), (11, 0), (12, 0), (13, 1)] [o 66 (.mv (.t 0)), o 67 (.call true false 0 (.fn 63) [.t 66]), o 68 (.fadr 2 (.t 3)), o 69 (.ld false 1 (.t 68)), o 70 (.call true true 0 (.fn 74) [.t 67, .t 69]), o 65 (.mv (.t 70)), o 71 (.ext (.t 65) 0), o 72 (.ext (.t 65) 1), o 73 (.ext (.t 65) 2), o 10 (.allocr 0 true 1 [.p (.int .i64 0), .p (.int .i64 0)]), o 11 (.allocr 1 true 1 [.p (.int .i64 0), .p (.int .i64 0)]), u (.st 2 (.t 10) (.t 71)), u (.st 2 (.t 11) (.t 72)), o 12 (.mv (.t 73))] [0, 3, 5, 6, 7, 8, 9, 10, 11, 12])
 (.seq (.opsd [(0, 1), (1, 1), (2, 1), (3, 1), (4, 1), (5, 0), (6, 0), (7, 1), (8, 1), (9, 1), (10, 1), (11, 1)] [o 75 (.fadr 0 (.t 3)), o 76 (.ld false 1 (.t 75)), o 77 (.call true false 0 (.fn 52) [.t 76]), o 78 (.fadr 1 (.t 3)), o 79 (.ld false 1 (.t 78)), o 80 (.call true false 0 (.fn 52) [.t 79]), o 81 (.call true true 0 (.fn 75) [.t 77, .t 80]), o 74 (.mv (.t 81)), o 82 (.ext (.t 74) 0), o 83 (.ext (.t 74) 1), o 13 (.mv (.t 82)), o 14 (.mv (.t 83))] [0, 3, 5, 6, 7, 8, 9, 10, 11, 12, 13, 14])
 (.seq (.opsd [(0, 1), (1, 1), (2, 1), (3, 1), (4, 1), (5, 1), (6, 0), (7, 1), (8, 1)] [o 84 (.mv (.t 0)), o 85 (.call true true 0 (.fn 66) [.t 84]), o 86 (.fadr 0 (.t 3)), o 87 (.ld false 1 (.t 86)), o 88 (.fadr 1 (.t 3)), o 89 (.ld false 1 (.t 88)), o 90 (.call true true 0 (.fn 76) [.t 87, .t 89]), o 15 (.mv (.t 85)), o 16 (.mv (.t 90))] [0, 3, 5, 6, 7, 8, 9, 10, 11, 12, 13, 14, 15, 16])
 (.seq (.ops [o 91 (.mv (.t 15)), o 17 (.mv (.t 91))] [0, 3, 5, 6, 7, 8, 9, 10, 11, 12, 13, 14, 15, 16, 17])
 (.seq (.ops [o 18 (.alloc true 1 [.p (.int .i64 0), .p (.int .i64 0)])] [0, 3, 5, 6, 7, 8, 9, 10, 11, 12, 13, 14, 15, 16, 17, 18])
 (.seq (.ops [o 19 (.alloc true 1 [.p (.int .i64 0), .p (.int .i64 0)]), o 20 (.alloc true 1 [.p (.int .i64 0), .p (.int .i64 0)])] [0, 3, 5, 6, 7, 8, 9, 10, 11, 12, 13, 14, 15, 16, 17, 18, 19, 20])
 (.seq (.ops [o 21 (.mv (ci 0)), o 22 (.mv (ci 0)), o 23 (.mv (ci 0))] [0, 3, 5, 6, 7, 8, 9, 10, 11, 12, 13, 14, 15, 16, 17, 18, 19, 20, 21, 22, 23])
 (.seq (.seq (.ops [o 92 (.mv (.t 15)), o 93 (.bin .eql (.t 92) (ci 0))] [0, 3, 5, 6, 7, 8, 9, 10, 11, 12, 13, 14, 15, 16, 17, 18, 19, 20, 21, 22, 23, 93])
 (.cond (.t 93)
 (.seq (.ops [o 94 (.mv (.t 0)), o 95 (.call true true 0 (.fn 77) [.t 94]), u (.st 2 (.t 18) (.t 95))] [0, 3, 5, 6, 7, 8, 9, 10, 11, 12, 13, 14, 15, 16, 18, 19, 20, 23])
 (.seq (.ops [o 97 (.mv (.t 0)), o 98 (.call true true 0 (.fn 78) [.t 97]), o 96 (.mv (.t 98)), o 99 (.ext (.t 96) 0), o 100 (.ext (.t 96) 1), o 21 (.mv (.t 99)), o 22 (.mv (.t 100))] [0, 3, 5, 6, 7, 8, 9, 10, 11, 12, 13, 14, 15, 16, 18, 19, 20, 21, 22, 23])
 (.ops [o 101 (.mv (.t 0)), o 102 (.fadr 2 (.t 3)), o 103 (.ld false 1 (.t 102)), o 104 (.call true true 0 (.fn 79) [.t 101, .t 103]), o 17 (.mv (.t 104))] [0, 3, 5, 6, 7, 8, 9, 10, 11, 12, 13, 14, 15, 16, 17, 18, 19, 20, 21, 22, 23])))
 (.skip)))
 (.seq (.seq (.ops [o 105 (.mv (.t 17)), o 106 (.bin .eql (.t 105) (ci 0))] [0, 3, 5, 6, 7, 8, 9, 10, 11, 12, 13, 14, 15, 16, 17, 18, 19, 20, 21, 22, 23, 106])
 (.cond (.t 106)
 (.ops [o 108 (.mv (.t 0)), o 109 (.fadr 2 (.t 3)), o 110 (.ld false 1 (.t 109)), o 111 (.call true true 0 (.fn 80) [.t 108, .t 110]), o 107 (.mv (.t 111)), o 112 (.ext (.t 107) 0), o 113 (.ext (.t 107) 1), o 114 (.ext (.t 107) 2), u (.st 2 (.t 19) (.t 112)), u (.st 2 (.t 20) (.t 113)), o 17 (.mv (.t 114))] [0, 3, 5, 6, 7, 8, 9, 10, 11, 12, 13, 14, 15, 16, 17, 18, 19, 20, 21, 22, 23])
 (.skip)))
 (.seq (.seq (.ops [o 115 (.mv (.t 16)), o 116 (.bin .eql (.t 115) (ci 0))] [0, 3, 5, 6, 7, 8, 9, 10, 11, 12, 13, 14, 15, 16, 17, 18, 19, 20, 21, 22, 23, 116])
 (.cond (.t 116)
 (.ops [o 117 (.fadr 0 (.t 3)), o 118 (.ld false 1 (.t 117)), o 119 (.fadr 1 (.t 3)), o 120 (.ld false 1 (.t 119)), o 121 (.call true true 0 (.fn 81) [.t 118, .t 120]), o 23 (.mv (.t 121))] [0, 5, 6, 7, 8, 9, 10, 11, 12, 13, 14, 15, 16, 17, 18, 19, 20, 21, 22, 23])
 (.skip)))
 (.seq (.ops [o 122 (.mv (.t 0)), o 123 (.call true false 0 (.fn 63) [.t 122]), o 124 (.call true true 0 (.fn 82) [.t 123]), o 125 (.mv (.t 15)), o 126 (.bin .eql (.t 124) (.t 125)), o 127 (.mv (.t 126)), ⟨some 128, .ld true 2 (.t 5), some (127, true)⟩, ⟨some 129, .ld true 2 (.t 18), some (127, true)⟩, ⟨some 130, .eqagg [0, 0] false (.t 128) (.t 129), some (127, true)⟩, o 131 (.pick (.t 127) (.t 130) (cb false)), o 132 (.mv (.t 131)), ⟨some 133, .mv (.t 6), some (132, true)⟩, ⟨some 134, .mv (.t 15), some (132, true)⟩, ⟨some 135, .bin .eql (.t 133) (.t 134), some (132, true)⟩, o 136 (.pick (.t 132) (.t 135) (cb false)), o 137 (.mv (.t 136)), ⟨some 138, .mv (.t 7), some (137, true)⟩, ⟨some 139, .mv (.t 21), some (137, true)⟩, ⟨some 140, .bin .eql (.t 138) (.t 139), some (137, true)⟩, o 141 (.pick (.t 137) (.t 140) (cb false)), o 142 (.mv (.t 141)), ⟨some 143, .mv (.t 8), some (142, true)⟩, ⟨some 144, .mv (.t 22), some (142, true)⟩, ⟨some 145, .bin .eql (.t 143) (.t 144), some (142, true)⟩, o 146 (.pick (.t 142) (.t 145) (cb false)), o 147 (.mv (.t 146)), ⟨some 148, .mv (.t 9), some (147, true)⟩, ⟨some 149, .mv (.t 15), some (147, true)⟩, ⟨some 150, .bin .eql (.t 148) (.t 149), some (147, true)⟩, o 151 (.pick (.t 147) (.t 150) (cb false)), o 152 (.mv (.t 151)), ⟨some 153, .ld true 2 (.t 10), some (152, true)⟩, ⟨some 154, .ld true 2 (.t 19), some (152, true)⟩, ⟨some 155, .eqagg [0, 0] false (.t 153) (.t 154), some (152, true)⟩, o 156 (.pick (.t 152) (.t 155) (cb false)), o 157 (.mv (.t 156)), ⟨some 158, .ld true 2 (.t 11), some (157, true)⟩, ⟨some 159, .ld true 2 (.t 20), some (157, true)⟩, ⟨some 160, .eqagg [0, 0] false (.t 158) (.t 159), some (157, true)⟩, o 161 (.pick (.t 157) (.t 160) (cb false)), o 162 (.mv (.t 161)), ⟨some 163, .mv (.t 12), some (162, true)⟩, ⟨some 164, .mv (.t 17), some (162, true)⟩, ⟨some 165, .bin .eql (.t 163) (.t 164), some (162, true)⟩, o 166 (.pick (.t 162) (.t 165) (cb false)), o 167 (.mv (.t 166)), ⟨some 168, .mv (.t 13), some (167, true)⟩, ⟨some 169, .mv (.t 23), some (167, true)⟩, ⟨some 170, .bin .eql (.t 168) (.t 169), some (167, true)⟩, o 171 (.pick (.t 167) (.t 170) (cb false)), o 172 (.mv (.t 171)), ⟨some 173, .mv (.t 14), some (172, true)⟩, ⟨some 174, .mv (.t 16), some (172, true)⟩, ⟨some 175, .bin .eql (.t 173) (.t 174), some (172, true)⟩, o 176 (.pick (.t 172) (.t 175) (cb false)), o 177 (.mv (.t 176)), ⟨some 178, .call true true 0 (.fn 13) [], some (177, true)⟩, o 179 (.pick (.t 177) (.t 178) (cb false)), o 4 (.mv (.t 179))] [4])
 (.ret)))))))))))))))⟩

/-- crumple/crumplelaw04.BarrierStrings -/
def c9 : AFunc := ⟨81, [.tmp 4],
 .seq (.ops [o 2 (.box false (.t 0)), o 4 (.mv (cb false))] [1, 2])
 (.seq (.seq (.ops [o 15 (.fadr 0 (.t 2)), o 16 (.ld false 1 (.t 15)), o 17 (.len 1 (.t 16)), o 18 (.bin .gtr (.t 17) (ci 65)), o 19 (.mv (.t 18)), ⟨some 20, .mv (.t 1), some (19, false)⟩, ⟨some 21, .len 0 (.t 20), some (19, false)⟩, ⟨some 22, .bin .gtr (.t 21) (ci 300), some (19, false)⟩, ⟨some 23, .mv (.t 22), some (19, false)⟩, ⟨some 24, .mv (.t 1), some (23, true)⟩, ⟨some 25, .len 0 (.t 24), some (23, true)⟩, ⟨some 26, .bin .neq (.t 25) (ci 4097), some (23, true)⟩, ⟨some 27, .pick (.t 23) (.t 26) (cb false), some (19, false)⟩, o 28 (.pick (.t 19) (cb true) (.t 27))] [1, 2, 28])
 (.cond (.t 28)
 (.seq (.ops [o 29 (.call true true 0 (.fn 13) []), o 4 (.mv (.t 29))] [4])
 (.ret))
 (.skip)))
 (.seq (.ops [o 31 (.ld true 6 (.t 2)), o 32 (.call true false 0 (.fn 35) [.t 31]), o 33 (.call true true 0 (.fn 83) [.t 32]), o 30 (.mv (.t 33)), o 34 (.ext (.t 30) 0), o 35 (.ext (.t 30) 1), o 5 (.mv (.t 34)), o 6 (.mv (.t 35))] [1, 2, 5, 6])
 (.seq (.ops [o 37 (.mv (.t 1)), o 38 (.call true false 0 (.fn 84) [.t 37]), o 36 (.mv (.t 38)), o 39 (.ext (.t 36) 0), o 40 (.ext (.t 36) 1), o 41 (.ext (.t 36) 2), o 7 (.alloc false 1 [.p (.nils), .p (.int .i64 0), .p (.int .i64 0), .p (.int .i64 0), .p (.int .i64 0), .p (.int .i64 0)]), u (.st 6 (.t 7) (.t 39)), o 8 (.mv (.t 40)), o 9 (.mv (.t 41))] [1, 2, 5, 6, 7, 8, 9])
 (.seq (.ops [o 42 (.ld true 6 (.t 2)), o 43 (.call true true 0 (.fn 40) [.t 42]), o 10 (.mv (.t 43))] [1, 2, 5, 6, 7, 8, 9, 10])
 (.seq (.ops [o 11 (.mv (cs []))] [1, 2, 5, 6, 7, 8, 9, 10, 11])
 (.seq (.seq (.ops [o 44 (.mv (.t 10)), o 45 (.bin .eql (.t 44) (ci 0))] [1, 2, 5, 6, 7, 8, 9, 10, 11, 45])
 (.cond (.t 45)
 (.ops [o 46 (.ld true 6 (.t 2)), o 47 (.call true true 0 (.fn 85) [.t 46]), o 11 (.mv (.t 47))] [1, 5, 6, 7, 8, 9, 10, 11])
 (.skip)))
 (.seq (.ops [o 49 (.mv (.t 1)), o 50 (.call true false 0 (.fn 86) [.t 49]), o 48 (.mv (.t 50)), o 51 (.ext (.t 48) 0), o 52 (.ext (.t 48) 1), o 53 (.ext (.t 48) 2), o 12 (.alloc false 1 [.p (.nils), .p (.int .i64 0), .p (.int .i64 0), .p (.int .i64 0), .p (.int .i64 0), .p (.int .i64 0)]), u (.st 6 (.t 12) (.t 51)), o 13 (.mv (.t 52)), o 14 (.mv (.t 53))] [5, 6, 7, 8, 9, 10, 11, 12, 13, 14])
 (.seq (.opsd [(0, 1), (1, 1), (2, 1), (3, 1), (4, 1), (5, 1), (6, 1), (7, 1), (8, 1), (9, 1), (10, 1), (11, 1), (12, 0), (13, 1), (14, 1), (15, 1), (16, 1), (17, 1), (18, 1), (19, 1), (20, 1), (21, 1), (22, 1), (23, 1), (24, 1), (25, 0), (26, 1), (27, 1)] [o 54 (.mv (.t 5)), o 55 (.mv (.t 11)), o 56 (.bin .eql (.t 54) (.t 55)), o 57 (.mv (.t 56)), ⟨some 58, .mv (.t 6), some (57, true)⟩, ⟨some 59, .mv (.t 10), some (57, true)⟩, ⟨some 60, .bin .eql (.t 58) (.t 59), some (57, true)⟩, o 61 (.pick (.t 57) (.t 60) (cb false)), o 62 (.mv (.t 61)), ⟨some 63, .ld true 6 (.t 7), some (62, true)⟩, ⟨some 64, .call true false 0 (.fn 88) [.t 63], some (62, true)⟩, ⟨some 65, .ld true 6 (.t 12), some (62, true)⟩, ⟨some 66, .call true true 0 (.fn 87) [.t 64, .t 65], some (62, true)⟩, o 67 (.pick (.t 62) (.t 66) (cb false)), o 68 (.mv (.t 67)), ⟨some 69, .mv (.t 8), some (68, true)⟩, ⟨some 70, .mv (.t 13), some (68, true)⟩, ⟨some 71, .bin .eql (.t 69) (.t 70), some (68, true)⟩, o 72 (.pick (.t 68) (.t 71) (cb false)), o 73 (.mv (.t 72)), ⟨some 74, .mv (.t 9), some (73, true)⟩, ⟨some 75, .mv (.t 14), some (73, true)⟩, ⟨some 76, .bin .eql (.t 74) (.t 75), some (73, true)⟩, o 77 (.pick (.t 73) (.t 76) (cb false)), o 78 (.mv (.t 77)), ⟨some 79, .call true true 0 (.fn 13) [], some (78, true)⟩, o 80 (.pick (.t 78) (.t 79) (cb false)), o 4 (.mv (.t 80))] [4])
 (.ret)))))))))⟩

/-- crumple/crumplelaw04.BarrierStops -/
def c10L0 : ACode :=
 .seq (.ops [o 61 (.bin .lss (.t 60) (.t 59))] [2, 3, 58, 59, 60, 61])
 (.seq (.cond (.t 61)
 (.skip)
 (.exit 0))
 (.seq (.block 1 (.seq (.ops [o 62 (.iadr 1 (.t 58) (.t 60)), o 63 (.ld false 1 (.t 62)), o 6 (.mv (.t 63))] [2, 3, 6, 58, 59, 60])
 (.seq (.ops [o 64 (.mv (.t 6)), o 65 (.bin .gtr (.t 64) (ci 60))] [2, 3, 58, 59, 60, 65])
 (.cond (.t 65)
 (.seq (.ops [o 66 (.call true true 0 (.fn 13) []), o 4 (.mv (.t 66))] [4])
 (.ret))
 (.skip)))))
 (.ops [o 67 (.bin .add (.t 60) (ci 1)), o 60 (.mv (.t 67))] [2, 3, 58, 59, 60])))
def c10L1 : ACode :=
 .seq (.ops [o 176 (.bin .lss (.t 175) (.t 174))] [2, 7, 8, 9, 11, 13, 15, 173, 174, 175, 176])
 (.seq (.cond (.t 176)
 (.skip)
 (.exit 2))
 (.seq (.block 3 (.seq (.ops [o 177 (.mv (.t 175)), o 178 (.iadr 1 (.t 173) (.t 175)), o 179 (.ld false 1 (.t 178)), o 17 (.mv (.t 177)), o 18 (.mv (.t 179))] [2, 7, 8, 9, 11, 13, 15, 17, 18, 173, 174, 175])
 (.seq (.opsd [(0, 1), (1, 1), (2, 1), (3, 1), (4, 1), (5, 1), (6, 1), (7, 1), (8, 1), (9, 1), (10, 1), (11, 1), (12, 1), (13, 1), (14, 1), (15, 1), (16, 1), (17, 1), (18, 1), (19, 1), (20, 1), (21, 1), (22, 1), (23, 1), (24, 1), (25, 1), (26, 1), (27, 1), (28, 1), (29, 1), (30, 1), (31, 1), (32, 1), (33, 1), (34, 1), (35, 1), (36, 1), (37, 1), (38, 1), (39, 1), (40, 1), (41, 1), (42, 1)] [o 180 (.mv (.t 18)), o 181 (.bin .lss (.t 180) (ci 0)), o 182 (.mv (.t 181)), ⟨some 183, .mv (.t 18), some (182, false)⟩, ⟨some 184, .mv (.t 11), some (182, false)⟩, ⟨some 185, .mv (.t 17), some (182, false)⟩, ⟨some 186, .iadr 2 (.t 184) (.t 185), some (182, false)⟩, ⟨some 187, .fadr 0 (.t 186), some (182, false)⟩, ⟨some 188, .ld false 1 (.t 187), some (182, false)⟩, ⟨some 189, .bin .lss (.t 183) (.t 188), some (182, false)⟩, o 190 (.pick (.t 182) (cb true) (.t 189)), o 191 (.mv (.t 190)), ⟨some 192, .mv (.t 18), some (191, false)⟩, ⟨some 193, .mv (.t 11), some (191, false)⟩, ⟨some 194, .mv (.t 17), some (191, false)⟩, ⟨some 195, .iadr 2 (.t 193) (.t 194), some (191, false)⟩, ⟨some 196, .fadr 1 (.t 195), some (191, false)⟩, ⟨some 197, .ld false 1 (.t 196), some (191, false)⟩, ⟨some 198, .bin .gtr (.t 192) (.t 197), some (191, false)⟩, o 199 (.pick (.t 191) (cb true) (.t 198)), o 200 (.mv (.t 199)), ⟨some 201, .mv (.t 17), some (200, false)⟩, ⟨some 202, .bin .gtr (.t 201) (ci 0), some (200, false)⟩, ⟨some 203, .mv (.t 202), some (200, false)⟩, ⟨some 204, .mv (.t 18), some (203, true)⟩, ⟨some 205, .mv (.t 9), some (203, true)⟩, ⟨some 206, .mv (.t 17), some (203, true)⟩, ⟨some 207, .bin .sub (.t 206) (ci 1), some (203, true)⟩, ⟨some 208, .iadr 1 (.t 205) (.t 207), some (203, true)⟩, ⟨some 209, .ld false 1 (.t 208), some (203, true)⟩, ⟨some 210, .fadr 0 (.t 2), some (203, true)⟩, ⟨some 211, .ld false 1 (.t 210), some (203, true)⟩, ⟨some 212, .mv (.t 17), some (203, true)⟩, ⟨some 213, .bin .sub (.t 212) (ci 1), some (203, true)⟩, ⟨some 214, .iadr 1 (.t 211) (.t 213), some (203, true)⟩, ⟨some 215, .ld false 1 (.t 214), some (203, true)⟩, ⟨some 216, .bin .add (.t 209) (.t 215), some (203, true)⟩, ⟨some 217, .mv (.t 7), some (203, true)⟩, ⟨some 218, .bin .sub (.t 216) (.t 217), some (203, true)⟩, ⟨some 219, .max [ci 0, .t 218], some (203, true)⟩, ⟨some 220, .bin .neq (.t 204) (.t 219), some (203, true)⟩, ⟨some 221, .pick (.t 203) (.t 220) (cb false), some (200, false)⟩, o 222 (.pick (.t 200) (cb true) (.t 221))] [2, 7, 8, 9, 11, 13, 15, 173, 174, 175, 222])
 (.cond (.t 222)
 (.seq (.ops [o 4 (.mv (cb false))] [4])
 (.ret))
 (.skip)))))
 (.ops [o 223 (.bin .add (.t 175) (ci 1)), o 175 (.mv (.t 223))] [2, 7, 8, 9, 11, 13, 15, 173, 174, 175])))
def c10L2 : ACode :=
 .seq (.seq (.ops [o 261 (.mv (.t 25)), o 262 (.bin .lss (.t 261) (ci 2000)), o 263 (.mv (.t 262)), ⟨some 264, .mv (.t 24), some (263, true)⟩, ⟨some 265, .bin .gtr (.t 264) (ci 0), some (263, true)⟩, o 266 (.pick (.t 263) (.t 265) (cb false)), o 267 (.mv (.t 266)), ⟨some 268, .mv (.t 7), some (267, true)⟩, ⟨some 269, .mv (.t 8), some (267, true)⟩, ⟨some 270, .bin .add (.t 268) (.t 269), some (267, true)⟩, ⟨some 271, .bin .gtr (.t 270) (ci 0), some (267, true)⟩, o 272 (.pick (.t 267) (.t 271) (cb false))] [2, 7, 8, 9, 13, 15, 19, 20, 21, 22, 24, 25, 272])
 (.cond (.t 272)
 (.skip)
 (.exit 6)))
 (.block 7 (.ops [o 273 (.mv (.t 24)), o 274 (.mv (.t 7)), o 275 (.bin .sub (.t 273) (.t 274)), o 276 (.mv (.t 8)), o 277 (.bin .sub (.t 275) (.t 276)), o 278 (.mv (.t 25)), o 279 (.bin .add (.t 278) (ci 1)), o 24 (.mv (.t 277)), o 25 (.mv (.t 279))] [2, 7, 8, 9, 13, 15, 19, 20, 21, 22, 24, 25]))
def c10L3 : ACode :=
 .seq (.seq (.ops [o 224 (.mv (.t 19)), o 225 (.fadr 5 (.t 2)), o 226 (.ld false 1 (.t 225)), o 227 (.bin .leq (.t 224) (.t 226))] [2, 7, 8, 9, 13, 15, 19, 227])
 (.cond (.t 227)
 (.skip)
 (.exit 4)))
 (.seq (.block 5 (.seq (.ops [o 231 (.ld true 6 (.t 2)), o 232 (.call true false 0 (.fn 35) [.t 231]), o 233 (.mv (.t 19)), o 234 (.mv (.t 7)), o 235 (.mv (.t 8)), o 236 (.call true true 0 (.fn 37) [.t 232, .t 233, .t 234, .t 235]), o 230 (.mv (.t 236)), o 237 (.ext (.t 230) 0), o 238 (.ext (.t 230) 1), o 20 (.mv (.t 237)), o 21 (.mv (.t 238))] [2, 7, 8, 9, 13, 15, 19, 20, 21])
 (.seq (.ops [o 240 (.ld true 6 (.t 2)), o 241 (.call true false 0 (.fn 35) [.t 240]), o 242 (.mv (.t 19)), o 243 (.call true true 0 (.fn 38) [.t 241, .t 242]), o 239 (.mv (.t 243)), o 244 (.ext (.t 239) 0), o 245 (.ext (.t 239) 1), o 22 (.mv (.t 244)), o 23 (.mv (.t 245))] [2, 7, 8, 9, 13, 15, 19, 20, 21, 22, 23])
 (.seq (.seq (.ops [o 246 (.mv (.t 23)), o 247 (.bin .neq (.t 246) (ci 0)), o 248 (.mv (.t 247)), ⟨some 249, .mv (.t 21), some (248, false)⟩, ⟨some 250, .bin .neq (.t 249) (ci 0), some (248, false)⟩, ⟨some 251, .mv (.t 250), some (248, false)⟩, ⟨some 252, .mv (.t 21), some (251, true)⟩, ⟨some 253, .bin .neq (.t 252) (ci 7), some (251, true)⟩, ⟨some 254, .pick (.t 251) (.t 253) (cb false), some (248, false)⟩, o 255 (.pick (.t 248) (cb true) (.t 254))] [2, 7, 8, 9, 13, 15, 19, 20, 21, 22, 255])
 (.cond (.t 255)
 (.seq (.ops [o 4 (.mv (cb false))] [4])
 (.ret))
 (.skip)))
 (.seq (.ops [o 256 (.mv (.t 9)), o 257 (.mv (.t 19)), o 258 (.iadr 1 (.t 256) (.t 257)), o 259 (.ld false 1 (.t 258)), o 260 (.mv (.t 19)), o 24 (.mv (.t 259)), o 25 (.mv (.t 260))] [2, 7, 8, 9, 13, 15, 19, 20, 21, 22, 24, 25])
 (.seq (.block 6 (.loop false [2, 7, 8, 9, 13, 15, 19, 20, 21, 22, 24, 25] c10L2))
 (.seq (.seq (.ops [o 280 (.mv (.t 21)), o 281 (.bin .eql (.t 280) (ci 0)), o 282 (.mv (.t 281)), ⟨some 283, .mv (.t 24), some (282, true)⟩, ⟨some 284, .bin .gtr (.t 283) (ci 0), some (282, true)⟩, ⟨some 285, .mv (.t 284), some (282, true)⟩, ⟨some 286, .mv (.t 20), some (285, false)⟩, ⟨some 287, .mv (.t 25), some (285, false)⟩, ⟨some 288, .bin .neq (.t 286) (.t 287), some (285, false)⟩, ⟨some 289, .pick (.t 285) (cb true) (.t 288), some (282, true)⟩, o 290 (.pick (.t 282) (.t 289) (cb false)), o 291 (.mv (.t 290)), ⟨some 292, .mv (.t 21), some (291, false)⟩, ⟨some 293, .bin .eql (.t 292) (ci 7), some (291, false)⟩, ⟨some 294, .mv (.t 293), some (291, false)⟩, ⟨some 295, .mv (.t 24), some (294, true)⟩, ⟨some 296, .bin .leq (.t 295) (ci 0), some (294, true)⟩, ⟨some 297, .pick (.t 294) (.t 296) (cb false), some (291, false)⟩, o 298 (.pick (.t 291) (cb true) (.t 297))] [2, 7, 8, 9, 13, 15, 19, 20, 21, 22, 298])
 (.cond (.t 298)
 (.seq (.ops [o 4 (.mv (cb false))] [4])
 (.ret))
 (.skip)))
 (.seq (.seq (.ops [o 299 (.mv (.t 22)), o 300 (.mv (.t 299)), ⟨some 301, .mv (.t 21), some (300, true)⟩, ⟨some 302, .bin .neq (.t 301) (ci 0), some (300, true)⟩, ⟨some 303, .mv (.t 302), some (300, true)⟩, ⟨some 304, .mv (.t 20), some (303, false)⟩, ⟨some 305, .fadr 5 (.t 2), some (303, false)⟩, ⟨some 306, .ld false 1 (.t 305), some (303, false)⟩, ⟨some 307, .bin .gtr (.t 304) (.t 306), some (303, false)⟩, ⟨some 308, .pick (.t 303) (cb true) (.t 307), some (300, true)⟩, o 309 (.pick (.t 300) (.t 308) (cb false)), o 310 (.mv (.t 309)), ⟨some 311, .mv (.t 19), some (310, false)⟩, ⟨some 312, .mv (.t 13), some (310, false)⟩, ⟨some 313, .bin .leq (.t 311) (.t 312), some (310, false)⟩, ⟨some 314, .mv (.t 313), some (310, false)⟩, ⟨some 315, .mv (.t 22), some (314, true)⟩, ⟨some 316, .not (.t 315), some (314, true)⟩, ⟨some 317, .pick (.t 314) (.t 316) (cb false), some (310, false)⟩, o 318 (.pick (.t 310) (cb true) (.t 317)), o 319 (.mv (.t 318)), ⟨some 320, .mv (.t 19), some (319, false)⟩, ⟨some 321, .mv (.t 13), some (319, false)⟩, ⟨some 322, .bin .add (.t 321) (ci 1), some (319, false)⟩, ⟨some 323, .bin .eql (.t 320) (.t 322), some (319, false)⟩, ⟨some 324, .mv (.t 323), some (319, false)⟩, ⟨some 325, .mv (.t 22), some (324, true)⟩, ⟨some 326, .pick (.t 324) (.t 325) (cb false), some (319, false)⟩, o 327 (.pick (.t 319) (cb true) (.t 326))] [2, 7, 8, 9, 13, 15, 19, 22, 327])
 (.cond (.t 327)
 (.seq (.ops [o 4 (.mv (cb false))] [4])
 (.ret))
 (.skip)))
 (.seq (.ops [o 328 (.ld true 6 (.t 2)), o 329 (.call true false 0 (.fn 35) [.t 328]), o 330 (.mv (.t 15)), o 331 (.call true false 0 (.fn 52) [.t 330]), o 332 (.mv (.t 19)), o 333 (.call true true 0 (.fn 51) [.t 329, .t 331, .t 332]), o 26 (.mv (.t 333))] [2, 7, 8, 9, 13, 15, 19, 22, 26])
 (.seq (.opsd [(0, 1), (1, 1), (2, 1), (3, 1), (4, 1), (5, 1), (6, 1), (7, 1), (8, 1), (9, 1), (10, 1), (11, 1), (12, 1), (13, 1), (14, 1), (15, 1), (16, 1), (17, 1), (18, 1), (19, 1), (20, 1), (21, 1), (22, 1), (23, 1), (24, 1), (25, 1), (26, 1), (27, 1), (28, 1), (29, 1), (30, 1), (31, 1), (32, 1), (33, 1)] [o 334 (.mv (.t 26)), o 335 (.bin .eql (.t 334) (ci 0)), o 336 (.mv (.t 335)), ⟨some 337, .mv (.t 22), some (336, true)⟩, ⟨some 338, .not (.t 337), some (336, true)⟩, o 339 (.pick (.t 336) (.t 338) (cb false)), o 340 (.mv (.t 339)), ⟨some 341, .mv (.t 26), some (340, false)⟩, ⟨some 342, .bin .neq (.t 341) (ci 0), some (340, false)⟩, ⟨some 343, .mv (.t 342), some (340, false)⟩, ⟨some 344, .mv (.t 26), some (343, true)⟩, ⟨some 345, .bin .neq (.t 344) (ci 19), some (343, true)⟩, ⟨some 346, .pick (.t 343) (.t 345) (cb false), some (340, false)⟩, o 347 (.pick (.t 340) (cb true) (.t 346)), o 348 (.mv (.t 347)), ⟨some 349, .mv (.t 19), some (348, false)⟩, ⟨some 350, .mv (.t 13), some (348, false)⟩, ⟨some 351, .bin .leq (.t 349) (.t 350), some (348, false)⟩, ⟨some 352, .mv (.t 351), some (348, false)⟩, ⟨some 353, .mv (.t 26), some (352, true)⟩, ⟨some 354, .bin .neq (.t 353) (ci 0), some (352, true)⟩, ⟨some 355, .pick (.t 352) (.t 354) (cb false), some (348, false)⟩, o 356 (.pick (.t 348) (cb true) (.t 355)), o 357 (.mv (.t 356)), ⟨some 358, .mv (.t 15), some (357, false)⟩, ⟨some 359, .mv (.t 19), some (357, false)⟩, ⟨some 360, .iadr 1 (.t 358) (.t 359), some (357, false)⟩, ⟨some 361, .ld false 1 (.t 360), some (357, false)⟩, ⟨some 362, .mv (.t 9), some (357, false)⟩, ⟨some 363, .mv (.t 19), some (357, false)⟩, ⟨some 364, .iadr 1 (.t 362) (.t 363), some (357, false)⟩, ⟨some 365, .ld false 1 (.t 364), some (357, false)⟩, ⟨some 366, .bin .lss (.t 361) (.t 365), some (357, false)⟩, o 367 (.pick (.t 357) (cb true) (.t 366))] [2, 7, 8, 9, 13, 15, 19, 367])
 (.cond (.t 367)
 (.seq (.ops [o 4 (.mv (cb false))] [4])
 (.ret))
 (.skip))))))))))))
 (.ops [o 228 (.mv (.t 19)), o 229 (.bin .add (.t 228) (ci 1)), o 19 (.mv (.t 229))] [2, 7, 8, 9, 13, 15, 19]))
def c10 : AFunc := ⟨430, [.tmp 4],
 .seq (.ops [o 2 (.box false (.t 0)), o 3 (.box true (.t 1)), o 4 (.mv (cb false))] [2, 3])
 (.seq (.seq (.ops [o 35 (.fadr 0 (.t 2)), o 36 (.ld false 1 (.t 35)), o 37 (.len 1 (.t 36)), o 38 (.bin .gtr (.t 37) (ci 12)), o 39 (.mv (.t 38)), ⟨some 40, .ld true 6 (.t 2), some (39, false)⟩, ⟨some 41, .call true true 0 (.fn 40) [.t 40], some (39, false)⟩, ⟨some 42, .bin .neq (.t 41) (ci 0), some (39, false)⟩, o 43 (.pick (.t 39) (cb true) (.t 42)), o 44 (.mv (.t 43)), ⟨some 45, .fadr 1 (.t 2), some (44, false)⟩, ⟨some 46, .fadr 1 (.t 45), some (44, false)⟩, ⟨some 47, .ld false 1 (.t 46), some (44, false)⟩, ⟨some 48, .bin .gtr (.t 47) (ci 60), some (44, false)⟩, o 49 (.pick (.t 44) (cb true) (.t 48)), o 50 (.mv (.t 49)), ⟨some 51, .fadr 3 (.t 2), some (50, false)⟩, ⟨some 52, .fadr 1 (.t 51), some (50, false)⟩, ⟨some 53, .ld false 1 (.t 52), some (50, false)⟩, ⟨some 54, .bin .gtr (.t 53) (ci 60), some (50, false)⟩, o 55 (.pick (.t 50) (cb true) (.t 54))] [2, 3, 55])
 (.cond (.t 55)
 (.seq (.ops [o 56 (.call true true 0 (.fn 13) []), o 4 (.mv (.t 56))] [4])
 (.ret))
 (.skip)))
 (.seq (.seq (.ops [o 57 (.fadr 0 (.t 2)), o 58 (.ld false 1 (.t 57)), o 59 (.len 1 (.t 58)), o 60 (.mv (ci 0))] [2, 3, 58, 59, 60])
 (.block 0 (.loop false [2, 3, 58, 59, 60] c10L0)))
 (.seq (.opsd [(0, 1), (1, 1), (2, 1), (3, 1), (4, 1), (5, 1), (6, 1), (7, 1), (8, 1), (9, 1), (10, 1), (11, 1), (12, 1), (13, 1), (14, 1), (15, 1), (16, 1)] [o 68 (.fadr 1 (.t 2)), o 69 (.fadr 0 (.t 68)), o 70 (.ld false 1 (.t 69)), o 71 (.iadra 1 2 (.t 3) (ci 0)), o 72 (.ld false 1 (.t 71)), o 73 (.conv (.int .i64) (.t 72)), o 74 (.fadr 1 (.t 2)), o 75 (.fadr 1 (.t 74)), o 76 (.ld false 1 (.t 75)), o 77 (.fadr 1 (.t 2)), o 78 (.fadr 0 (.t 77)), o 79 (.ld false 1 (.t 78)), o 80 (.bin .sub (.t 76) (.t 79)), o 81 (.bin .add (.t 80) (ci 1)), o 82 (.bin .rem (.t 73) (.t 81)), o 83 (.bin .add (.t 70) (.t 82)), o 7 (.mv (.t 83))] [2, 3, 7])
 (.seq (.opsd [(0, 1), (1, 1), (2, 1), (3, 1), (4, 1), (5, 1), (6, 1), (7, 1), (8, 1), (9, 1), (10, 1), (11, 1), (12, 1), (13, 1), (14, 1), (15, 1), (16, 1)] [o 84 (.fadr 3 (.t 2)), o 85 (.fadr 0 (.t 84)), o 86 (.ld false 1 (.t 85)), o 87 (.iadra 1 2 (.t 3) (ci 1)), o 88 (.ld false 1 (.t 87)), o 89 (.conv (.int .i64) (.t 88)), o 90 (.fadr 3 (.t 2)), o 91 (.fadr 1 (.t 90)), o 92 (.ld false 1 (.t 91)), o 93 (.fadr 3 (.t 2)), o 94 (.fadr 0 (.t 93)), o 95 (.ld false 1 (.t 94)), o 96 (.bin .sub (.t 92) (.t 95)), o 97 (.bin .add (.t 96) (ci 1)), o 98 (.bin .rem (.t 89) (.t 97)), o 99 (.bin .add (.t 86) (.t 98)), o 8 (.mv (.t 99))] [2, 7, 8])
 (.seq (.ops [o 101 (.ld true 6 (.t 2)), o 102 (.call true false 0 (.fn 35) [.t 101]), o 103 (.mv (.t 7)), o 104 (.call true false 0 (.fn 34) [.t 102, .t 103]), o 100 (.mv (.t 104)), o 105 (.ext (.t 100) 0), o 106 (.ext (.t 100) 1), o 9 (.mv (.t 105)), o 10 (.mv (.t 106))] [2, 7, 8, 9, 10])
 (.seq (.ops [o 108 (.ld true 6 (.t 2)), o 109 (.call true false 0 (.fn 35) [.t 108]), o 110 (.call true false 0 (.fn 36) [.t 109]), o 107 (.mv (.t 110)), o 111 (.ext (.t 107) 0), o 112 (.ext (.t 107) 1), o 11 (.mv (.t 111)), o 12 (.mv (.t 112))] [2, 7, 8, 9, 10, 11, 12])
 (.seq (.ops [o 114 (.ld true 6 (.t 2)), o 115 (.call true false 0 (.fn 35) [.t 114]), o 116 (.call true true 0 (.fn 39) [.t 115]), o 113 (.mv (.t 116)), o 117 (.ext (.t 113) 0), o 118 (.ext (.t 113) 1), o 13 (.mv (.t 117)), o 14 (.mv (.t 118))] [2, 7, 8, 9, 10, 11, 12, 13, 14])
 (.seq (.ops [o 120 (.ld true 6 (.t 2)), o 121 (.call true false 0 (.fn 35) [.t 120]), o 122 (.call true false 0 (.fn 50) [.t 121]), o 119 (.mv (.t 122)), o 123 (.ext (.t 119) 0), o 124 (.ext (.t 119) 1), o 15 (.mv (.t 123)), o 16 (.mv (.t 124))] [2, 7, 8, 9, 10, 11, 12, 13, 14, 15, 16])
 (.seq (.seq (.ops [o 125 (.mv (.t 10)), o 126 (.bin .neq (.t 125) (ci 0)), o 127 (.mv (.t 126)), ⟨some 128, .mv (.t 12), some (127, false)⟩, ⟨some 129, .bin .neq (.t 128) (ci 0), some (127, false)⟩, o 130 (.pick (.t 127) (cb true) (.t 129)), o 131 (.mv (.t 130)), ⟨some 132, .mv (.t 14), some (131, false)⟩, ⟨some 133, .bin .neq (.t 132) (ci 0), some (131, false)⟩, o 134 (.pick (.t 131) (cb true) (.t 133)), o 135 (.mv (.t 134)), ⟨some 136, .mv (.t 16), some (135, false)⟩, ⟨some 137, .bin .neq (.t 136) (ci 0), some (135, false)⟩, o 138 (.pick (.t 135) (cb true) (.t 137)), o 139 (.mv (.t 138)), ⟨some 140, .mv (.t 9), some (139, false)⟩, ⟨some 141, .len 1 (.t 140), some (139, false)⟩, ⟨some 142, .fadr 0 (.t 2), some (139, false)⟩, ⟨some 143, .ld false 1 (.t 142), some (139, false)⟩, ⟨some 144, .len 1 (.t 143), some (139, false)⟩, ⟨some 145, .bin .add (.t 144) (ci 1), some (139, false)⟩, ⟨some 146, .bin .neq (.t 141) (.t 145), some (139, false)⟩, o 147 (.pick (.t 139) (cb true) (.t 146)), o 148 (.mv (.t 147)), ⟨some 149, .mv (.t 11), some (148, false)⟩, ⟨some 150, .len 1 (.t 149), some (148, false)⟩, ⟨some 151, .mv (.t 9), some (148, false)⟩, ⟨some 152, .len 1 (.t 151), some (148, false)⟩, ⟨some 153, .bin .neq (.t 150) (.t 152), some (148, false)⟩, o 154 (.pick (.t 148) (cb true) (.t 153)), o 155 (.mv (.t 154)), ⟨some 156, .mv (.t 13), some (155, false)⟩, ⟨some 157, .bin .lss (.t 156) (ci 0), some (155, false)⟩, o 158 (.pick (.t 155) (cb true) (.t 157)), o 159 (.mv (.t 158)), ⟨some 160, .mv (.t 13), some (159, false)⟩, ⟨some 161, .fadr 5 (.t 2), some (159, false)⟩, ⟨some 162, .ld false 1 (.t 161), some (159, false)⟩, ⟨some 163, .bin .gtr (.t 160) (.t 162), some (159, false)⟩, o 164 (.pick (.t 159) (cb true) (.t 163)), o 165 (.mv (.t 164)), ⟨some 166, .mv (.t 15), some (165, false)⟩, ⟨some 167, .len 1 (.t 166), some (165, false)⟩, ⟨some 168, .fadr 5 (.t 2), some (165, false)⟩, ⟨some 169, .ld false 1 (.t 168), some (165, false)⟩, ⟨some 170, .bin .add (.t 169) (ci 1), some (165, false)⟩, ⟨some 171, .bin .neq (.t 167) (.t 170), some (165, false)⟩, o 172 (.pick (.t 165) (cb true) (.t 171))] [2, 7, 8, 9, 11, 13, 15, 172])
 (.cond (.t 172)
 (.seq (.ops [o 4 (.mv (cb false))] [4])
 (.ret))
 (.skip)))
 (.seq (.seq (.ops [o 173 (.mv (.t 9)), o 174 (.len 1 (.t 173)), o 175 (.mv (ci 0))] [2, 7, 8, 9, 11, 13, 15, 173, 174, 175])
 (.block 2 (.loop false [2, 7, 8, 9, 11, 13, 15, 173, 174, 175] c10L1)))
 (.seq (.seq (.ops [o 19 (.mv (ci 0))] [2, 7, 8, 9, 13, 15, 19])
 (.block 4 (.loop false [2, 7, 8, 9, 13, 15, 19] c10L3)))
 (.seq (.ops [o 369 (.ld true 6 (.t 2)), o 370 (.call true false 0 (.fn 35) [.t 369]), o 371 (.call true true 0 (.fn 83) [.t 370]), o 368 (.mv (.t 371)), o 372 (.ext (.t 368) 0), o 373 (.ext (.t 368) 1), o 27 (.mv (.t 372)), o 28 (.mv (.t 373))] [2, 27, 28])
 (.seq (.ops [o 375 (.mv (.t 27)), o 376 (.call true false 0 (.fn 84) [.t 375]), o 374 (.mv (.t 376)), o 377 (.ext (.t 374) 0), o 378 (.ext (.t 374) 1), o 379 (.ext (.t 374) 2), o 29 (.alloc false 1 [.p (.nils), .p (.int .i64 0), .p (.int .i64 0), .p (.int .i64 0), .p (.int .i64 0), .p (.int .i64 0)]), u (.st 6 (.t 29) (.t 377)), o 30 (.mv (.t 378)), o 31 (.mv (.t 379))] [2, 27, 28, 29, 30, 31])
 (.seq (.seq (.opsd [(0, 1), (1, 1), (2, 1), (3, 1), (4, 1), (5, 1), (6, 1), (7, 1), (8, 1), (9, 1), (10, 1), (11, 1), (12, 1), (13, 1), (14, 0), (15, 1), (16, 1), (17, 1), (18, 1), (19, 1), (20, 1), (21, 1), (22, 1), (23, 1), (24, 1), (25, 1), (26, 1)] [o 380 (.mv (.t 28)), o 381 (.bin .neq (.t 380) (ci 0)), o 382 (.mv (.t 381)), ⟨some 383, .mv (.t 31), some (382, false)⟩, ⟨some 384, .bin .neq (.t 383) (ci 0), some (382, false)⟩, o 385 (.pick (.t 382) (cb true) (.t 384)), o 386 (.mv (.t 385)), ⟨some 387, .mv (.t 30), some (386, false)⟩, ⟨some 388, .bin .neq (.t 387) (ci 0), some (386, false)⟩, o 389 (.pick (.t 386) (cb true) (.t 388)), o 390 (.mv (.t 389)), ⟨some 391, .ld true 6 (.t 29), some (390, false)⟩, ⟨some 392, .call true false 0 (.fn 88) [.t 391], some (390, false)⟩, ⟨some 393, .ld true 6 (.t 2), some (390, false)⟩, ⟨some 394, .call true true 0 (.fn 87) [.t 392, .t 393], some (390, false)⟩, ⟨some 395, .not (.t 394), some (390, false)⟩, o 396 (.pick (.t 390) (cb true) (.t 395)), o 397 (.mv (.t 396)), ⟨some 398, .mv (.t 27), some (397, false)⟩, ⟨some 399, .call true false 0 (.fn 89) [.t 398, .c (.p (.int .u8 10))], some (397, false)⟩, ⟨some 400, .len 1 (.t 399), some (397, false)⟩, ⟨some 401, .fadr 0 (.t 2), some (397, false)⟩, ⟨some 402, .ld false 1 (.t 401), some (397, false)⟩, ⟨some 403, .len 1 (.t 402), some (397, false)⟩, ⟨some 404, .bin .add (.t 403) (ci 4), some (397, false)⟩, ⟨some 405, .bin .neq (.t 400) (.t 404), some (397, false)⟩, o 406 (.pick (.t 397) (cb true) (.t 405))] [2, 27, 406])
 (.cond (.t 406)
 (.seq (.ops [o 4 (.mv (cb false))] [4])
 (.ret))
 (.skip)))
 (.seq (.ops [o 408 (.mv (.t 27)), o 409 (.mv (.t 27)), o 410 (.len 0 (.t 409)), o 411 (.bin .sub (.t 410) (ci 1)), o 412 (.slcs (.t 408) none (some (.t 411))), o 413 (.call true false 0 (.fn 84) [.t 412]), o 407 (.mv (.t 413)), o 414 (.ext (.t 407) 0), o 415 (.ext (.t 407) 1), o 416 (.ext (.t 407) 2), o 32 (.alloc false 1 [.p (.nils), .p (.int .i64 0), .p (.int .i64 0), .p (.int .i64 0), .p (.int .i64 0), .p (.int .i64 0)]), u (.st 6 (.t 32) (.t 414)), o 33 (.mv (.t 415)), o 34 (.mv (.t 416))] [2, 33, 34])
 (.seq (.ops [o 417 (.mv (.t 34)), o 418 (.bin .eql (.t 417) (ci 25)), o 419 (.mv (.t 418)), ⟨some 420, .mv (.t 33), some (419, true)⟩, ⟨some 421, .fadr 0 (.t 2), some (419, true)⟩, ⟨some 422, .ld false 1 (.t 421), some (419, true)⟩, ⟨some 423, .len 1 (.t 422), some (419, true)⟩, ⟨some 424, .bin .add (.t 423) (ci 2), some (419, true)⟩, ⟨some 425, .bin .eql (.t 420) (.t 424), some (419, true)⟩, o 426 (.pick (.t 419) (.t 425) (cb false)), o 427 (.mv (.t 426)), ⟨some 428, .call true true 0 (.fn 13) [], some (427, true)⟩, o 429 (.pick (.t 427) (.t 428) (cb false)), o 4 (.mv (.t 429))] [4])
 (.ret)))))))))))))))))⟩

/-- crumple/crumplelaw04.awake -/
def c13 : AFunc := ⟨388, [.tmp 0],
 .seq (.ops [o 0 (.mv (cb false))] [])
 (.seq (.ops [o 53 (.call true true 0 (.fn 90) [ci 0, ci 10]), o 54 (.build [.p (.int .i64 0), .p (.int .i64 0), .p (.int .i64 0)] [(1, 2, .t 53)]), o 55 (.call true true 0 (.fn 90) [ci 100010, ci 100020]), o 56 (.build [.p (.int .i64 0), .p (.int .i64 0), .p (.int .i64 0)] [(0, 1, ci 1000), (1, 2, .t 55)]), o 57 (.call true true 0 (.fn 90) [ci 200030, ci 200040]), o 58 (.build [.p (.int .i64 0), .p (.int .i64 0), .p (.int .i64 0)] [(0, 1, ci 2000), (1, 2, .t 57)]), o 59 (.bslice false 3 [.p (.int .i64 0), .p (.int .i64 0), .p (.int .i64 0)] 3 [(0, .t 54), (1, .t 56), (2, .t 58)]), o 1 (.mv (.t 59))] [1])
 (.seq (.ops [o 61 (.mv (.t 1)), o 62 (.call true false 0 (.fn 14) [.t 61]), o 60 (.mv (.t 62)), o 63 (.ext (.t 60) 0), o 64 (.ext (.t 60) 1), o 2 (.mv (.t 63)), o 3 (.mv (.t 64))] [1, 2, 3])
 (.seq (.ops [o 66 (.mv (.t 1)), o 67 (.call true true 0 (.fn 16) [.t 66]), o 65 (.mv (.t 67)), o 68 (.ext (.t 65) 0), o 69 (.ext (.t 65) 1), o 4 (.alloc true 1 [.p (.int .i64 0), .p (.int .i64 0)]), u (.st 2 (.t 4) (.t 68)), o 5 (.mv (.t 69))] [2, 3, 4, 5])
 (.seq (.ops [o 71 (.build [.p (.int .i64 0), .p (.int .i64 0)] [(1, 1, ci 1800)]), o 72 (.build [.p (.int .i64 0), .p (.int .i64 0)] [(0, 1, ci 1000), (1, 1, ci 3000)]), o 73 (.call true true 0 (.fn 17) [.t 71, .t 72]), o 70 (.mv (.t 73)), o 74 (.ext (.t 70) 0), o 75 (.ext (.t 70) 1), o 6 (.alloc true 1 [.p (.int .i64 0), .p (.int .i64 0)]), u (.st 2 (.t 6) (.t 74)), o 7 (.mv (.t 75))] [2, 3, 4, 5, 6, 7])
 (.seq (.ops [o 77 (.call true false 0 (.fn 94) []), o 78 (.call true false 0 (.fn 34) [.t 77, ci 2]), o 76 (.mv (.t 78)), o 79 (.ext (.t 76) 0), o 80 (.ext (.t 76) 1), o 8 (.mv (.t 79)), o 9 (.mv (.t 80))] [2, 3, 4, 5, 6, 7, 8, 9])
 (.seq (.ops [o 82 (.call true false 0 (.fn 94) []), o 83 (.call true false 0 (.fn 36) [.t 82]), o 81 (.mv (.t 83)), o 84 (.ext (.t 81) 0), o 85 (.ext (.t 81) 1), o 10 (.mv (.t 84)), o 11 (.mv (.t 85))] [2, 3, 4, 5, 6, 7, 8, 9, 10, 11])
 (.seq (.ops [o 87 (.call true false 0 (.fn 94) []), o 88 (.call true true 0 (.fn 37) [.t 87, ci 2, ci 1, ci 6]), o 86 (.mv (.t 88)), o 89 (.ext (.t 86) 0), o 90 (.ext (.t 86) 1), o 12 (.mv (.t 89)), o 13 (.mv (.t 90))] [2, 3, 4, 5, 6, 7, 8, 9, 10, 11, 12, 13])
 (.seq (.ops [o 92 (.call true false 0 (.fn 94) []), o 93 (.call true true 0 (.fn 37) [.t 92, ci 3, ci 1, ci 6]), o 91 (.mv (.t 93)), o 94 (.ext (.t 91) 0), o 95 (.ext (.t 91) 1), o 14 (.mv (.t 94)), o 15 (.mv (.t 95))] [2, 3, 4, 5, 6, 7, 8, 9, 10, 11, 12, 13, 14, 15])
 (.seq (.ops [o 97 (.call true false 0 (.fn 94) []), o 98 (.call true true 0 (.fn 38) [.t 97, ci 3]), o 96 (.mv (.t 98)), o 99 (.ext (.t 96) 0), o 100 (.ext (.t 96) 1), o 16 (.mv (.t 99)), o 17 (.mv (.t 100))] [2, 3, 4, 5, 6, 7, 8, 9, 10, 11, 12, 13, 14, 15, 16, 17])
 (.seq (.ops [o 102 (.call true false 0 (.fn 94) []), o 103 (.call true true 0 (.fn 39) [.t 102]), o 101 (.mv (.t 103)), o 104 (.ext (.t 101) 0), o 105 (.ext (.t 101) 1), o 18 (.mv (.t 104)), o 19 (.mv (.t 105))] [2, 3, 4, 5, 6, 7, 8, 9, 10, 11, 12, 13, 14, 15, 16, 17, 18, 19])
 (.seq (.ops [o 107 (.call true false 0 (.fn 94) []), o 108 (.call true false 0 (.fn 50) [.t 107]), o 106 (.mv (.t 108)), o 109 (.ext (.t 106) 0), o 110 (.ext (.t 106) 1), o 20 (.mv (.t 109)), o 21 (.mv (.t 110))] [2, 3, 4, 5, 6, 7, 8, 9, 10, 11, 12, 13, 14, 15, 16, 17, 18, 19, 20, 21])
 (.seq (.ops [o 111 (.call true false 0 (.fn 94) []), o 112 (.mv (.t 20)), o 113 (.call true true 0 (.fn 51) [.t 111, .t 112, ci 2]), o 22 (.mv (.t 113))] [2, 3, 4, 5, 6, 7, 8, 9, 10, 11, 12, 13, 14, 15, 16, 17, 18, 19, 20, 21, 22])
 (.seq (.ops [o 114 (.call true false 0 (.fn 94) []), o 115 (.mv (.t 20)), o 116 (.call true true 0 (.fn 51) [.t 114, .t 115, ci 3]), o 23 (.mv (.t 116))] [2, 3, 4, 5, 6, 7, 8, 9, 10, 11, 12, 13, 14, 15, 16, 17, 18, 19, 20, 21, 22, 23])
 (.seq (.seq (.opsd [(0, 1), (1, 1), (2, 1), (3, 1), (4, 1), (5, 1), (6, 1), (7, 1), (8, 1), (9, 1), (10, 1), (11, 1), (12, 1), (13, 1), (14, 1), (15, 1), (16, 1), (17, 1), (18, 1), (19, 1), (20, 1), (21, 1), (22, 1), (23, 1), (24, 1), (25, 1), (26, 1), (27, 1), (28, 1), (29, 1), (30, 1), (31, 1), (32, 1), (33, 1), (34, 1), (35, 1), (36, 1), (37, 1), (38, 1), (39, 1), (40, 1), (41, 1), (42, 1), (43, 1), (44, 1), (45, 1), (46, 1), (47, 1), (48, 1), (49, 1), (50, 1), (51, 1), (52, 1), (53, 1), (54, 1), (55, 1), (56, 1), (57, 0), (58, 0), (59, 1), (60, 1), (61, 1), (62, 1), (63, 1), (64, 1), (65, 1), (66, 1), (67, 1), (68, 1), (69, 1), (70, 1), (71, 1), (72, 1), (73, 1), (74, 1), (75, 1), (76, 1), (77, 1), (78, 1), (79, 1), (80, 1), (81, 1), (82, 1), (83, 1), (84, 1), (85, 1), (86, 1), (87, 1), (88, 1), (89, 1), (90, 0), (91, 0), (92, 1), (93, 1)] [o 117 (.mv (.t 3)), o 118 (.mv (.t 5)), o 119 (.bin .add (.t 117) (.t 118)), o 120 (.mv (.t 7)), o 121 (.bin .add (.t 119) (.t 120)), o 122 (.mv (.t 9)), o 123 (.bin .add (.t 121) (.t 122)), o 124 (.mv (.t 11)), o 125 (.bin .add (.t 123) (.t 124)), o 126 (.mv (.t 13)), o 127 (.bin .add (.t 125) (.t 126)), o 128 (.mv (.t 15)), o 129 (.bin .add (.t 127) (.t 128)), o 130 (.mv (.t 17)), o 131 (.bin .add (.t 129) (.t 130)), o 132 (.mv (.t 19)), o 133 (.bin .add (.t 131) (.t 132)), o 134 (.mv (.t 21)), o 135 (.bin .add (.t 133) (.t 134)), o 136 (.mv (.t 22)), o 137 (.bin .add (.t 135) (.t 136)), o 138 (.bin .neq (.t 137) (ci 0)), o 139 (.mv (.t 138)), ⟨some 140, .mv (.t 23), some (139, false)⟩, ⟨some 141, .bin .neq (.t 140) (ci 19), some (139, false)⟩, o 142 (.pick (.t 139) (cb true) (.t 141)), o 143 (.mv (.t 142)), ⟨some 144, .mv (.t 2), some (143, false)⟩, ⟨some 145, .len 1 (.t 144), some (143, false)⟩, ⟨some 146, .bin .neq (.t 145) (ci 2), some (143, false)⟩, o 147 (.pick (.t 143) (cb true) (.t 146)), o 148 (.mv (.t 147)), ⟨some 149, .mv (.t 2), some (148, false)⟩, ⟨some 150, .iadr 2 (.t 149) (ci 0), some (148, false)⟩, ⟨some 151, .ld true 2 (.t 150), some (148, false)⟩, ⟨some 152, .call true true 0 (.fn 90) [ci 9998, ci 10000], some (148, false)⟩, ⟨some 153, .eqagg [0, 0] true (.t 151) (.t 152), some (148, false)⟩, o 154 (.pick (.t 148) (cb true) (.t 153)), o 155 (.mv (.t 154)), ⟨some 156, .mv (.t 2), some (155, false)⟩, ⟨some 157, .iadr 2 (.t 156) (ci 1), some (155, false)⟩, ⟨some 158, .ld true 2 (.t 157), some (155, false)⟩, ⟨some 159, .call true true 0 (.fn 90) [ci 9997, ci 10000], some (155, false)⟩, ⟨some 160, .eqagg [0, 0] true (.t 158) (.t 159), some (155, false)⟩, o 161 (.pick (.t 155) (cb true) (.t 160)), o 162 (.mv (.t 161)), ⟨some 163, .ld true 2 (.t 4), some (162, false)⟩, ⟨some 164, .call true true 0 (.fn 90) [ci 9998, ci 10000], some (162, false)⟩, ⟨some 165, .eqagg [0, 0] true (.t 163) (.t 164), some (162, false)⟩, o 166 (.pick (.t 162) (cb true) (.t 165)), o 167 (.mv (.t 166)), ⟨some 168, .ld true 2 (.t 6), some (167, false)⟩, ⟨some 169, .build [.p (.int .i64 0), .p (.int .i64 0)] [(0, 1, ci 4), (1, 1, ci 9)], some (167, false)⟩, ⟨some 170, .eqagg [0, 0] true (.t 168) (.t 169), some (167, false)⟩, o 171 (.pick (.t 167) (cb true) (.t 170)), o 172 (.mv (.t 171)), ⟨some 173, .mv (.t 8), some (172, false)⟩, ⟨some 174, .bslice false 1 [.p (.int .i64 0)] 7 [(0, ci 0), (1, ci 8), (2, ci 16), (3, ci 24), (4, ci 22), (5, ci 20), (6, ci 18)], some (172, false)⟩, ⟨some 175, .call true true 0 (.fn 49) [.t 173, .t 174], some (172, false)⟩, ⟨some 176, .not (.t 175), some (172, false)⟩, o 177 (.pick (.t 172) (cb true) (.t 176)), o 178 (.mv (.t 177)), ⟨some 179, .mv (.t 10), some (178, false)⟩, ⟨some 180, .len 1 (.t 179), some (178, false)⟩, ⟨some 181, .bin .neq (.t 180) (ci 7), some (178, false)⟩, o 182 (.pick (.t 178) (cb true) (.t 181)), o 183 (.mv (.t 182)), ⟨some 184, .mv (.t 10), some (183, false)⟩, ⟨some 185, .iadr 2 (.t 184) (ci 3), some (183, false)⟩, ⟨some 186, .ld true 2 (.t 185), some (183, false)⟩, ⟨some 187, .call true true 0 (.fn 90) [ci 24, ci 27], some (183, false)⟩, ⟨some 188, .eqagg [0, 0] true (.t 186) (.t 187), some (183, false)⟩, o 189 (.pick (.t 183) (cb true) (.t 188)), o 190 (.mv (.t 189)), ⟨some 191, .mv (.t 12), some (190, false)⟩, ⟨some 192, .bin .neq (.t 191) (ci 5), some (190, false)⟩, o 193 (.pick (.t 190) (cb true) (.t 192)), o 194 (.mv (.t 193)), ⟨some 195, .mv (.t 14), some (194, false)⟩, ⟨some 196, .bin .neq (.t 195) (ci 7), some (194, false)⟩, o 197 (.pick (.t 194) (cb true) (.t 196)), o 198 (.mv (.t 197)), ⟨some 199, .mv (.t 16), some (198, false)⟩, o 200 (.pick (.t 198) (cb true) (.t 199)), o 201 (.mv (.t 200)), ⟨some 202, .mv (.t 18), some (201, false)⟩, ⟨some 203, .bin .neq (.t 202) (ci 2), some (201, false)⟩, o 204 (.pick (.t 201) (cb true) (.t 203)), o 205 (.mv (.t 204)), ⟨some 206, .mv (.t 20), some (205, false)⟩, ⟨some 207, .bslice false 1 [.p (.int .i64 0)] 7 [(0, ci 0), (1, ci 9), (2, ci 18), (3, ci 27), (4, ci 26), (5, ci 25), (6, ci 24)], some (205, false)⟩, ⟨some 208, .call true true 0 (.fn 49) [.t 206, .t 207], some (205, false)⟩, ⟨some 209, .not (.t 208), some (205, false)⟩, o 210 (.pick (.t 205) (cb true) (.t 209))] [210])
 (.cond (.t 210)
 (.seq (.ops [o 0 (.mv (cb false))] [0])
 (.ret))
 (.skip)))
 (.seq (.ops [o 212 (.call true false 0 (.fn 95) []), o 213 (.call false true 0 (.fn 59) [.t 212]), o 211 (.mv (.t 213)), o 214 (.ext (.t 211) 0), o 215 (.ext (.t 211) 1), o 216 (.ext (.t 211) 2), o 24 (.alloc true 1 [.p (.int .i64 0), .p (.int .i64 0)]), o 25 (.alloc true 1 [.p (.int .i64 0), .p (.int .i64 0)]), u (.st 2 (.t 24) (.t 214)), u (.st 2 (.t 25) (.t 215)), o 26 (.mv (.t 216))] [24, 25, 26])
 (.seq (.ops [o 218 (.call true false 0 (.fn 95) []), o 219 (.call false true 0 (.fn 61) [.t 218]), o 217 (.mv (.t 219)), o 220 (.ext (.t 217) 0), o 221 (.ext (.t 217) 1), o 27 (.alloc true 1 [.p (.int .i64 0), .p (.int .i64 0)]), u (.st 2 (.t 27) (.t 220)), o 28 (.mv (.t 221))] [24, 25, 26, 27, 28])
 (.seq (.ops [o 223 (.bslice false 1 [.p (.int .i64 0)] 2 [(0, ci 40), (1, ci 90)]), o 224 (.call true false 0 (.fn 96) [ci 100, .t 223]), o 225 (.call true true 0 (.fn 72) [.t 224]), o 222 (.mv (.t 225)), o 226 (.ext (.t 222) 0), o 227 (.ext (.t 222) 1), o 29 (.alloc true 1 [.p (.int .i64 0), .p (.int .i64 0)]), u (.st 2 (.t 29) (.t 226)), o 30 (.mv (.t 227))] [24, 25, 26, 27, 28, 29, 30])
 (.seq (.ops [o 229 (.call true false 0 (.fn 95) []), o 230 (.bslice false 1 [.p (.int .i64 0)] 2 [(0, ci 40), (1, ci 90)]), o 231 (.call true false 0 (.fn 96) [ci 100, .t 230]), o 232 (.call false true 0 (.fn 62) [.t 229, .t 231]), o 228 (.mv (.t 232)), o 233 (.ext (.t 228) 0), o 234 (.ext (.t 228) 1), o 31 (.mv (.t 233)), o 32 (.mv (.t 234))] [24, 25, 26, 27, 28, 29, 30, 31, 32])
 (.seq (.ops [o 236 (.call true false 0 (.fn 95) []), o 237 (.bslice false 1 [.p (.int .i64 0)] 2 [(0, ci 40), (1, ci 50)]), o 238 (.call true false 0 (.fn 96) [ci 100, .t 237]), o 239 (.call false false 0 (.fn 64) [.t 236, .t 238]), o 235 (.mv (.t 239)), o 240 (.ext (.t 235) 0), o 241 (.ext (.t 235) 1), o 33 (.mv (.t 240)), o 34 (.mv (.t 241))] [24, 25, 26, 27, 28, 29, 30, 31, 32, 33, 34])
 (.seq (.ops [o 243 (.call true false 0 (.fn 95) []), o 244 (.bslice false 1 [.p (.int .i64 0)] 2 [(0, ci 40), (1, ci 50)]), o 245 (.call true false 0 (.fn 96) [ci 50, .t 244]), o 246 (.call false false 0 (.fn 64) [.t 243, .t 245]), o 242 (.mv (.t 246)), o 247 (.ext (.t 242) 0), o 248 (.ext (.t 242) 1), o 35 (.mv (.t 247)), o 36 (.mv (.t 248))] [24, 25, 26, 27, 28, 29, 30, 31, 32, 33, 34, 35, 36])
 (.seq (.ops [o 250 (.bslice false 1 [.p (.int .i64 0)] 2 [(0, ci 40), (1, ci 90)]), o 251 (.call true false 0 (.fn 96) [ci 100, .t 250]), o 252 (.call true true 0 (.fn 73) [.t 251]), o 249 (.mv (.t 252)), o 253 (.ext (.t 249) 0), o 254 (.ext (.t 249) 1), o 255 (.ext (.t 249) 2), o 37 (.mv (.t 253)), o 38 (.mv (.t 254)), o 39 (.mv (.t 255))] [24, 25, 26, 27, 28, 29, 30, 31, 32, 33, 34, 35, 36, 37, 38, 39])
 (.seq (.ops [o 257 (.bslice false 1 [.p (.int .i64 0)] 3 [(0, ci 10), (1, ci 30), (2, ci 20)]), o 258 (.bslice false 1 [.p (.int .i64 0)] 3 [(0, ci 0), (1, ci 2), (2, ci 5)]), o 259 (.call true true 0 (.fn 75) [.t 257, .t 258]), o 256 (.mv (.t 259)), o 260 (.ext (.t 256) 0), o 261 (.ext (.t 256) 1), o 40 (.mv (.t 260)), o 41 (.mv (.t 261))] [24, 25, 26, 27, 28, 29, 30, 31, 32, 33, 34, 35, 36, 37, 38, 39, 40, 41])
 (.seq (.ops [o 263 (.call true true 0 (.fn 90) [ci 9000, ci 11000]), o 264 (.call true true 0 (.fn 90) [ci 900, ci 1000]), o 265 (.build [.p (.str []), .p (.int .i64 0), .p (.int .i64 0), .p (.int .i64 0), .p (.int .i64 0)] [(0, 1, cs [102, 117, 108, 108]), (1, 2, .t 263), (3, 2, .t 264)]), o 266 (.bslice false 5 [.p (.str []), .p (.int .i64 0), .p (.int .i64 0), .p (.int .i64 0), .p (.int .i64 0)] 1 [(0, .t 265)]), o 267 (.call true true 0 (.fn 90) [ci 8900, ci 9100]), o 268 (.build [.p (.int .i64 0), .p (.int .i64 0)] [(0, 1, ci 1), (1, 1, ci 1)]), o 269 (.call true false 0 (.fn 27) [.t 266, .t 267, .t 268]), o 262 (.mv (.t 269)), o 270 (.ext (.t 262) 0), o 271 (.ext (.t 262) 1), o 272 (.ext (.t 262) 2), o 42 (.mv (.t 270)), o 43 (.mv (.t 271)), o 44 (.mv (.t 272))] [24, 25, 26, 27, 28, 29, 30, 31, 32, 33, 34, 35, 36, 37, 38, 39, 40, 41, 42, 43, 44])
 (.seq (.ops [o 274 (.bslice false 1 [.p (.int .i64 0)] 2 [(0, ci 40), (1, ci 90)]), o 275 (.call true false 0 (.fn 96) [ci 100, .t 274]), o 276 (.call true true 0 (.fn 74) [.t 275, ci 1]), o 273 (.mv (.t 276)), o 277 (.ext (.t 273) 0), o 278 (.ext (.t 273) 1), o 279 (.ext (.t 273) 2), o 45 (.alloc true 1 [.p (.int .i64 0), .p (.int .i64 0)]), o 46 (.alloc true 1 [.p (.int .i64 0), .p (.int .i64 0)]), u (.st 2 (.t 45) (.t 277)), u (.st 2 (.t 46) (.t 278)), o 47 (.mv (.t 279))] [24, 25, 26, 27, 28, 29, 30, 31, 32, 33, 34, 35, 36, 37, 38, 39, 40, 41, 42, 43, 44, 45, 46, 47])
 (.seq (.ops [o 281 (.call true false 0 (.fn 94) []), o 282 (.call true true 0 (.fn 83) [.t 281]), o 280 (.mv (.t 282)), o 283 (.ext (.t 280) 0), o 284 (.ext (.t 280) 1), o 48 (.mv (.t 283)), o 49 (.mv (.t 284))] [24, 25, 26, 27, 28, 29, 30, 31, 32, 33, 34, 35, 36, 37, 38, 39, 40, 41, 42, 43, 44, 45, 46, 47, 48, 49])
 (.seq (.ops [o 286 (.mv (.t 48)), o 287 (.call true false 0 (.fn 84) [.t 286]), o 285 (.mv (.t 287)), o 288 (.ext (.t 285) 0), o 289 (.ext (.t 285) 1), o 290 (.ext (.t 285) 2), o 50 (.alloc false 1 [.p (.nils), .p (.int .i64 0), .p (.int .i64 0), .p (.int .i64 0), .p (.int .i64 0), .p (.int .i64 0)]), u (.st 6 (.t 50) (.t 288)), o 51 (.mv (.t 289)), o 52 (.mv (.t 290))] [24, 25, 26, 27, 28, 29, 30, 31, 32, 33, 34, 35, 36, 37, 38, 39, 40, 41, 42, 43, 44, 45, 46, 47, 48, 49, 51, 52])
 (.seq (.opsd [(0, 1), (1, 1), (2, 1), (3, 1), (4, 1), (5, 1), (6, 1), (7, 1), (8, 1), (9, 1), (10, 1), (11, 1), (12, 1), (13, 1), (14, 1), (15, 1), (16, 1), (17, 1), (18, 1), (19, 1), (20, 1), (21, 1), (22, 1), (23, 1), (24, 1), (25, 1), (26, 1), (27, 1), (28, 1), (29, 1), (30, 1), (31, 1), (32, 1), (33, 1), (34, 1), (35, 1), (36, 1), (37, 1), (38, 1), (39, 1), (40, 1), (41, 1), (42, 1), (43, 1), (44, 1), (45, 1), (46, 1), (47, 1), (48, 1), (49, 0), (50, 0), (51, 1), (52, 1), (53, 1), (54, 1), (55, 1), (56, 1), (57, 1), (58, 1), (59, 1), (60, 1), (61, 1), (62, 1), (63, 1), (64, 1), (65, 1), (66, 1), (67, 1), (68, 1), (69, 1), (70, 1), (71, 1), (72, 1), (73, 1), (74, 1), (75, 1), (76, 0), (77, 0), (78, 1), (79, 1), (80, 1), (81, 1), (82, 1), (83, 1), (84, 1), (85, 1), (86, 1), (87, 1), (88, 1), (89, 1), (90, 1), (91, 1), (92, 1), (93, 1), (94, 1), (95, 1), (96, 1), (97, 1)] [o 291 (.mv (.t 26)), o 292 (.mv (.t 28)), o 293 (.bin .add (.t 291) (.t 292)), o 294 (.mv (.t 30)), o 295 (.bin .add (.t 293) (.t 294)), o 296 (.mv (.t 32)), o 297 (.bin .add (.t 295) (.t 296)), o 298 (.mv (.t 34)), o 299 (.bin .add (.t 297) (.t 298)), o 300 (.mv (.t 36)), o 301 (.bin .add (.t 299) (.t 300)), o 302 (.mv (.t 39)), o 303 (.bin .add (.t 301) (.t 302)), o 304 (.mv (.t 41)), o 305 (.bin .add (.t 303) (.t 304)), o 306 (.mv (.t 44)), o 307 (.bin .add (.t 305) (.t 306)), o 308 (.mv (.t 47)), o 309 (.bin .add (.t 307) (.t 308)), o 310 (.mv (.t 49)), o 311 (.bin .add (.t 309) (.t 310)), o 312 (.mv (.t 52)), o 313 (.bin .add (.t 311) (.t 312)), o 314 (.bin .eql (.t 313) (ci 0)), o 315 (.mv (.t 314)), ⟨some 316, .ld true 2 (.t 24), some (315, true)⟩, ⟨some 317, .call true true 0 (.fn 90) [ci 10000, ci 11110], some (315, true)⟩, ⟨some 318, .eqagg [0, 0] false (.t 316) (.t 317), some (315, true)⟩, o 319 (.pick (.t 315) (.t 318) (cb false)), o 320 (.mv (.t 319)), ⟨some 321, .ld true 2 (.t 25), some (320, true)⟩, ⟨some 322, .call true true 0 (.fn 90) [ci (-2020), ci (-1000)], some (320, true)⟩, ⟨some 323, .eqagg [0, 0] false (.t 321) (.t 322), some (320, true)⟩, o 324 (.pick (.t 320) (.t 323) (cb false)), o 325 (.mv (.t 324)), ⟨some 326, .ld true 2 (.t 27), some (325, true)⟩, ⟨some 327, .call true true 0 (.fn 90) [ci (-13130), ci (-11000)], some (325, true)⟩, ⟨some 328, .eqagg [0, 0] false (.t 326) (.t 327), some (325, true)⟩, o 329 (.pick (.t 325) (.t 328) (cb false)), o 330 (.mv (.t 329)), ⟨some 331, .ld true 2 (.t 29), some (330, true)⟩, ⟨some 332, .call true true 0 (.fn 90) [ci 12800, ci 13200], some (330, true)⟩, ⟨some 333, .eqagg [0, 0] false (.t 331) (.t 332), some (330, true)⟩, o 334 (.pick (.t 330) (.t 333) (cb false)), o 335 (.mv (.t 334)), ⟨some 336, .mv (.t 31), some (335, true)⟩, o 337 (.pick (.t 335) (.t 336) (cb false)), o 338 (.mv (.t 337)), ⟨some 339, .mv (.t 33), some (338, true)⟩, ⟨some 340, .bslice false 1 [.p (.str [])] 1 [(0, cs [119])], some (338, true)⟩, ⟨some 341, .call true true 0 (.fn 33) [.t 339, .t 340], some (338, true)⟩, o 342 (.pick (.t 338) (.t 341) (cb false)), o 343 (.mv (.t 342)), ⟨some 344, .mv (.t 35), some (343, true)⟩, ⟨some 345, .len 1 (.t 344), some (343, true)⟩, ⟨some 346, .bin .eql (.t 345) (ci 0), some (343, true)⟩, o 347 (.pick (.t 343) (.t 346) (cb false)), o 348 (.mv (.t 347)), ⟨some 349, .mv (.t 37), some (348, true)⟩, ⟨some 350, .bin .eql (.t 349) (ci 90), some (348, true)⟩, o 351 (.pick (.t 348) (.t 350) (cb false)), o 352 (.mv (.t 351)), ⟨some 353, .mv (.t 38), some (352, true)⟩, ⟨some 354, .bin .eql (.t 353) (ci 1), some (352, true)⟩, o 355 (.pick (.t 352) (.t 354) (cb false)), o 356 (.mv (.t 355)), ⟨some 357, .mv (.t 40), some (356, true)⟩, ⟨some 358, .bin .eql (.t 357) (ci 230), some (356, true)⟩, o 359 (.pick (.t 356) (.t 358) (cb false)), o 360 (.mv (.t 359)), ⟨some 361, .mv (.t 42), some (360, true)⟩, ⟨some 362, .len 1 (.t 361), some (360, true)⟩, ⟨some 363, .bin .eql (.t 362) (ci 0), some (360, true)⟩, o 364 (.pick (.t 360) (.t 363) (cb false)), o 365 (.mv (.t 364)), ⟨some 366, .mv (.t 43), some (365, true)⟩, ⟨some 367, .bslice false 1 [.p (.str [])] 1 [(0, cs [102, 117, 108, 108])], some (365, true)⟩, ⟨some 368, .call true true 0 (.fn 33) [.t 366, .t 367], some (365, true)⟩, o 369 (.pick (.t 365) (.t 368) (cb false)), o 370 (.mv (.t 369)), ⟨some 371, .ld true 2 (.t 45), some (370, true)⟩, ⟨some 372, .build [.p (.int .i64 0), .p (.int .i64 0)] [(1, 1, ci 1)], some (370, true)⟩, ⟨some 373, .eqagg [0, 0] false (.t 371) (.t 372), some (370, true)⟩, o 374 (.pick (.t 370) (.t 373) (cb false)), o 375 (.mv (.t 374)), ⟨some 376, .ld true 2 (.t 46), some (375, true)⟩, ⟨some 377, .ld true 2 (.t 45), some (375, true)⟩, ⟨some 378, .eqagg [0, 0] false (.t 376) (.t 377), some (375, true)⟩, o 379 (.pick (.t 375) (.t 378) (cb false)), o 380 (.mv (.t 379)), ⟨some 381, .mv (.t 51), some (380, true)⟩, ⟨some 382, .bin .eql (.t 381) (ci 0), some (380, true)⟩, o 383 (.pick (.t 380) (.t 382) (cb false)), o 384 (.mv (.t 383)), ⟨some 385, .mv (.t 48), some (384, true)⟩, ⟨some 386, .bin .eql (.t 385) (cs [119, 97, 108, 108, 32, 54, 10, 102, 114, 105, 99, 116, 105, 111, 110, 32, 49, 32, 50, 10, 98, 114, 97, 107, 101, 32, 54, 32, 56, 10, 112, 117, 108, 108, 32, 49, 48, 10, 112, 117, 108, 108, 32, 49, 48, 10, 112, 117, 108, 108, 32, 49, 48, 10, 112, 117, 108, 108, 32, 48, 10, 112, 117, 108, 108, 32, 48, 10, 112, 117, 108, 108, 32, 48, 10]), some (384, true)⟩, o 387 (.pick (.t 384) (.t 386) (cb false)), o 0 (.mv (.t 387))] [0])
 (.ret))))))))))))))))))))))))))))⟩

/-- crumple/barrier.Speeds -/
def c14 : AFunc := ⟨12, [.tmp 2, .tmp 3],
 .seq (.ops [o 2 (.mv (cn)), o 3 (.mv (ci 0))] [0])
 (.seq (.seq (.ops [o 5 (.mv (.t 0)), o 6 (.call true true 0 (.fn 24) [.t 5]), o 4 (.mv (.t 6))] [0, 4])
 (.seq (.ops [o 7 (.mv (.t 4)), o 8 (.bin .neq (.t 7) (ci 0))] [0, 4, 8])
 (.cond (.t 8)
 (.seq (.ops [o 9 (.mv (.t 4)), o 2 (.mv (cn)), o 3 (.mv (.t 9))] [2, 3])
 (.ret))
 (.skip))))
 (.seq (.ops [o 10 (.mv (.t 0)), o 11 (.call true false 0 (.fn 97) [.t 10]), o 2 (.mv (.t 11)), o 3 (.mv (ci 0))] [2, 3])
 (.ret)))⟩

/-- crumple/crumplelaw04.gates -/
def c15L0 : ACode :=
 .seq (.ops [o 9 (.bin .lss (.t 8) (.t 7))] [3, 6, 7, 8, 9])
 (.seq (.cond (.t 9)
 (.skip)
 (.exit 0))
 (.seq (.block 1 (.seq (.ops [o 10 (.iadr 3 (.t 6) (.t 8)), o 11 (.ld true 3 (.t 10)), o 5 (.alloc true 1 [.p (.int .i64 0), .p (.int .i64 0), .p (.int .i64 0)]), u (.st 3 (.t 5) (.t 11))] [3, 5, 6, 7, 8])
 (.ops [o 12 (.mv (.t 3)), o 13 (.ld true 3 (.t 5)), o 14 (.bslice false 3 [.p (.int .i64 0), .p (.int .i64 0), .p (.int .i64 0)] 1 [(0, .t 13)]), o 15 (.app 3 24 [.p (.int .i64 0), .p (.int .i64 0), .p (.int .i64 0)] (.t 12) (.t 14)), o 3 (.mv (.t 15))] [3, 6, 7, 8])))
 (.ops [o 16 (.bin .add (.t 8) (ci 1)), o 8 (.mv (.t 16))] [3, 6, 7, 8])))
def c15 : AFunc := ⟨18, [.tmp 2],
 .seq (.ops [o 2 (.mv (cn))] [0])
 (.seq (.ops [o 3 (.nilown 3)] [0, 3])
 (.seq (.seq (.ops [o 6 (.mv (.t 0)), o 7 (.len 1 (.t 6)), o 8 (.mv (ci 0))] [3, 6, 7, 8])
 (.block 0 (.loop true [3, 6, 7, 8] c15L0)))
 (.seq (.ops [o 17 (.mv (.t 3)), o 2 (.mv (.t 17))] [2])
 (.ret))))⟩

/-- crumple/barrier.Speed -/
def c16L0 : ACode :=
 .seq (.ops [o 23 (.bin .lss (.t 22) (.t 21))] [2, 6, 20, 21, 22, 23])
 (.seq (.cond (.t 23)
 (.skip)
 (.exit 0))
 (.seq (.block 1 (.seq (.ops [o 24 (.iadr 2 (.t 20) (.t 22)), o 25 (.ld true 2 (.t 24)), o 8 (.alloc true 1 [.p (.int .i64 0), .p (.int .i64 0)]), u (.st 2 (.t 8) (.t 25))] [2, 6, 8, 20, 21, 22])
 (.ops [o 26 (.fadr 0 (.t 6)), o 27 (.ld false 1 (.t 26)), o 28 (.fadr 0 (.t 8)), o 29 (.ld false 1 (.t 28)), o 30 (.max [.t 27, .t 29]), o 31 (.fadr 1 (.t 6)), o 32 (.ld false 1 (.t 31)), o 33 (.fadr 1 (.t 8)), o 34 (.ld false 1 (.t 33)), o 35 (.min [.t 32, .t 34]), o 36 (.build [.p (.int .i64 0), .p (.int .i64 0)] [(0, 1, .t 30), (1, 1, .t 35)]), u (.st 2 (.t 6) (.t 36))] [2, 6, 20, 21, 22])))
 (.ops [o 37 (.bin .add (.t 22) (ci 1)), o 22 (.mv (.t 37))] [2, 6, 20, 21, 22])))
def c16 : AFunc := ⟨45, [.cell 2 true 2, .tmp 3],
 .seq (.ops [o 2 (.alloc true 1 [.p (.int .i64 0), .p (.int .i64 0)]), o 3 (.mv (ci 0))] [0, 2])
 (.seq (.seq (.ops [o 9 (.mv (.t 0)), o 10 (.call true true 0 (.fn 24) [.t 9]), o 4 (.mv (.t 10))] [0, 2, 4])
 (.seq (.ops [o 11 (.mv (.t 4)), o 12 (.bin .neq (.t 11) (ci 0))] [0, 2, 4, 12])
 (.cond (.t 12)
 (.seq (.ops [o 13 (.build [.p (.int .i64 0), .p (.int .i64 0)] []), o 14 (.mv (.t 4)), u (.st 2 (.t 2) (.t 13)), o 3 (.mv (.t 14))] [2, 3])
 (.ret))
 (.skip))))
 (.seq (.ops [o 15 (.mv (.t 0)), o 16 (.call true false 0 (.fn 97) [.t 15]), o 5 (.mv (.t 16))] [2, 5])
 (.seq (.ops [o 17 (.mv (.t 5)), o 18 (.iadr 2 (.t 17) (ci 0)), o 19 (.ld true 2 (.t 18)), o 6 (.alloc true 1 [.p (.int .i64 0), .p (.int .i64 0)]), u (.st 2 (.t 6) (.t 19))] [2, 5, 6])
 (.seq (.seq (.ops [o 20 (.mv (.t 5)), o 21 (.len 1 (.t 20)), o 22 (.mv (ci 0))] [2, 6, 20, 21, 22])
 (.block 0 (.loop true [2, 6, 20, 21, 22] c16L0)))
 (.seq (.seq (.ops [o 38 (.fadr 0 (.t 6)), o 39 (.ld false 1 (.t 38)), o 40 (.fadr 1 (.t 6)), o 41 (.ld false 1 (.t 40)), o 42 (.bin .gtr (.t 39) (.t 41))] [2, 6, 42])
 (.cond (.t 42)
 (.seq (.ops [o 43 (.build [.p (.int .i64 0), .p (.int .i64 0)] []), u (.st 2 (.t 2) (.t 43)), o 3 (.mv (ci 24))] [2, 3])
 (.ret))
 (.skip)))
 (.seq (.ops [o 44 (.ld true 2 (.t 6)), u (.st 2 (.t 2) (.t 44)), o 3 (.mv (ci 0))] [2, 3])
 (.ret)))))))⟩

/-- crumple/barrier.Overlap -/
def c17 : AFunc := ⟨43, [.cell 4 true 2, .tmp 5],
 .seq (.ops [o 2 (.box true (.t 0)), o 3 (.box true (.t 1)), o 4 (.alloc true 1 [.p (.int .i64 0), .p (.int .i64 0)]), o 5 (.mv (ci 0))] [2, 3, 4])
 (.seq (.seq (.opsd [(0, 1), (1, 1), (2, 1), (3, 0), (4, 0), (5, 0), (6, 1)] [o 8 (.ld true 2 (.t 2)), o 9 (.call true true 0 (.fn 99) [.t 8]), o 10 (.ld true 2 (.t 3)), o 11 (.call true true 0 (.fn 99) [.t 10]), o 12 (.bslice false 1 [.p (.int .i64 0)] 2 [(0, .t 9), (1, .t 11)]), o 13 (.call true true 0 (.fn 98) [.t 12]), o 6 (.mv (.t 13))] [2, 3, 4, 6])
 (.seq (.ops [o 14 (.mv (.t 6)), o 15 (.bin .neq (.t 14) (ci 0))] [2, 3, 4, 6, 15])
 (.cond (.t 15)
 (.seq (.ops [o 16 (.build [.p (.int .i64 0), .p (.int .i64 0)] []), o 17 (.mv (.t 6)), u (.st 2 (.t 4) (.t 16)), o 5 (.mv (.t 17))] [4, 5])
 (.ret))
 (.skip))))
 (.seq (.seq (.ops [o 18 (.ld true 2 (.t 2)), o 19 (.ld true 2 (.t 3)), o 20 (.eqagg [0, 0] false (.t 18) (.t 19))] [2, 3, 4, 20])
 (.cond (.t 20)
 (.seq (.ops [o 21 (.build [.p (.int .i64 0), .p (.int .i64 0)] [(0, 1, ci 1), (1, 1, ci 1)]), u (.st 2 (.t 4) (.t 21)), o 5 (.mv (ci 0))] [4, 5])
 (.ret))
 (.skip)))
 (.seq (.ops [o 22 (.fadr 1 (.t 2)), o 23 (.ld false 1 (.t 22)), o 24 (.fadr 1 (.t 3)), o 25 (.ld false 1 (.t 24)), o 26 (.min [.t 23, .t 25]), o 27 (.fadr 0 (.t 2)), o 28 (.ld false 1 (.t 27)), o 29 (.fadr 0 (.t 3)), o 30 (.ld false 1 (.t 29)), o 31 (.max [.t 28, .t 30]), o 32 (.bin .sub (.t 26) (.t 31)), o 7 (.mv (.t 32))] [2, 4, 7])
 (.seq (.seq (.ops [o 33 (.mv (.t 7)), o 34 (.bin .leq (.t 33) (ci 0))] [2, 4, 7, 34])
 (.cond (.t 34)
 (.seq (.ops [o 35 (.build [.p (.int .i64 0), .p (.int .i64 0)] []), u (.st 2 (.t 4) (.t 35)), o 5 (.mv (ci 7))] [4, 5])
 (.ret))
 (.skip)))
 (.seq (.ops [o 36 (.mv (.t 7)), o 37 (.fadr 1 (.t 2)), o 38 (.ld false 1 (.t 37)), o 39 (.fadr 0 (.t 2)), o 40 (.ld false 1 (.t 39)), o 41 (.bin .sub (.t 38) (.t 40)), o 42 (.call true true 0 (.fn 100) [.t 36, .t 41]), u (.st 2 (.t 4) (.t 42)), o 5 (.mv (ci 0))] [4, 5])
 (.ret))))))⟩

/-- crumple/crumpleref04.CheckGates -/
def c18L0 : ACode :=
 .seq (.seq (.ops [o 20 (.mv (.t 4)), o 21 (.mv (.t 0)), o 22 (.len 1 (.t 21)), o 23 (.bin .lss (.t 20) (.t 22))] [0, 4, 23])
 (.cond (.t 23)
 (.skip)
 (.exit 0)))
 (.seq (.block 1 (.seq (.ops [o 26 (.mv (.t 0)), o 27 (.mv (.t 4)), o 28 (.bin .sub (.t 27) (ci 1)), o 29 (.max [ci 0, .t 28]), o 30 (.iadr 3 (.t 26) (.t 29)), o 31 (.ld true 3 (.t 30)), o 5 (.alloc true 1 [.p (.int .i64 0), .p (.int .i64 0), .p (.int .i64 0)]), u (.st 3 (.t 5) (.t 31))] [0, 4, 5])
 (.seq (.opsd [(0, 1), (1, 1), (2, 1), (3, 1), (4, 1), (5, 1), (6, 1), (7, 1), (8, 5), (9, 5), (10, 1), (12, 1), (13, 1), (11, 0), (14, 1), (15, 1), (16, 1), (17, 1), (18, 1), (19, 1), (20, 1), (21, 1), (22, 1), (23, 1), (24, 1), (25, 1), (26, 1), (27, 1), (28, 1), (29, 1), (30, 1), (31, 1), (32, 1), (33, 1), (34, 1), (35, 1), (36, 0), (37, 0), (38, 0), (39, 1)] [o 32 (.mv (.t 0)), o 33 (.mv (.t 4)), o 34 (.iadr 3 (.t 32) (.t 33)), o 35 (.fadr 0 (.t 34)), o 36 (.ld false 1 (.t 35)), o 37 (.call true true 0 (.fn 102) [.t 36, ci 0, ci 1000000]), o 38 (.mv (.t 0)), o 39 (.mv (.t 4)), o 40 (.iadr 3 (.t 38) (.t 39)), o 41 (.fadr 1 (.t 40)), o 42 (.ld true 2 (.t 41)), o 44 (.mv (.t 4)), o 45 (.bin .gtr (.t 44) (ci 0)), o 43 (.call true true 0 (.fn 103) [.t 42, ci 0, ci 100000000]), o 46 (.mv (.t 45)), ⟨some 47, .mv (.t 0), some (46, true)⟩, ⟨some 48, .mv (.t 4), some (46, true)⟩, ⟨some 49, .iadr 3 (.t 47) (.t 48), some (46, true)⟩, ⟨some 50, .fadr 0 (.t 49), some (46, true)⟩, ⟨some 51, .ld false 1 (.t 50), some (46, true)⟩, ⟨some 52, .fadr 0 (.t 5), some (46, true)⟩, ⟨some 53, .ld false 1 (.t 52), some (46, true)⟩, ⟨some 54, .bin .leq (.t 51) (.t 53), some (46, true)⟩, ⟨some 55, .mv (.t 54), some (46, true)⟩, ⟨some 56, .mv (.t 0), some (55, false)⟩, ⟨some 57, .mv (.t 4), some (55, false)⟩, ⟨some 58, .iadr 3 (.t 56) (.t 57), some (55, false)⟩, ⟨some 59, .fadr 1 (.t 58), some (55, false)⟩, ⟨some 60, .fadr 0 (.t 59), some (55, false)⟩, ⟨some 61, .ld false 1 (.t 60), some (55, false)⟩, ⟨some 62, .fadr 1 (.t 5), some (55, false)⟩, ⟨some 63, .fadr 1 (.t 62), some (55, false)⟩, ⟨some 64, .ld false 1 (.t 63), some (55, false)⟩, ⟨some 65, .bin .leq (.t 61) (.t 64), some (55, false)⟩, ⟨some 66, .pick (.t 55) (cb true) (.t 65), some (46, true)⟩, o 67 (.pick (.t 46) (.t 66) (cb false)), o 68 (.call true true 0 (.fn 55) [.t 67, ci 11]), o 69 (.bslice false 1 [.p (.int .i64 0)] 3 [(0, .t 37), (1, .t 43), (2, .t 68)]), o 70 (.call true true 0 (.fn 101) [.t 69]), o 6 (.mv (.t 70))] [0, 4, 6])
 (.seq (.ops [o 71 (.mv (.t 6)), o 72 (.bin .neq (.t 71) (ci 0))] [0, 4, 6, 72])
 (.cond (.t 72)
 (.seq (.ops [o 73 (.mv (.t 6)), o 2 (.mv (.t 73))] [2])
 (.ret))
 (.skip))))))
 (.ops [o 24 (.mv (.t 4)), o 25 (.bin .add (.t 24) (ci 1)), o 4 (.mv (.t 25))] [0, 4]))
def c18 : AFunc := ⟨74, [.tmp 2],
 .seq (.ops [o 2 (.mv (ci 0))] [0])
 (.seq (.seq (.ops [o 7 (.mv (.t 0)), o 8 (.len 1 (.t 7)), o 9 (.bin .lss (.t 8) (ci 2)), o 10 (.call true true 0 (.fn 55) [.t 9, ci 16]), o 11 (.mv (.t 0)), o 12 (.len 1 (.t 11)), o 13 (.bin .gtr (.t 12) (ci 8)), o 14 (.call true true 0 (.fn 55) [.t 13, ci 5]), o 15 (.bslice false 1 [.p (.int .i64 0)] 2 [(0, .t 10), (1, .t 14)]), o 16 (.call true true 0 (.fn 101) [.t 15]), o 3 (.mv (.t 16))] [0, 3])
 (.seq (.ops [o 17 (.mv (.t 3)), o 18 (.bin .neq (.t 17) (ci 0))] [0, 3, 18])
 (.cond (.t 18)
 (.seq (.ops [o 19 (.mv (.t 3)), o 2 (.mv (.t 19))] [2])
 (.ret))
 (.skip))))
 (.seq (.seq (.ops [o 4 (.mv (ci 0))] [0, 4])
 (.block 0 (.loop true [0, 4] c18L0)))
 (.seq (.ops [o 2 (.mv (ci 0))] [2])
 (.ret))))⟩

/-- crumple/crumplelaw04.first -/
def c19 : AFunc := ⟨5, [.tmp 2],
 .seq (.ops [o 2 (.mv (ci 0))] [0])
 (.seq (.ops [o 3 (.mv (.t 0)), o 4 (.call true true 0 (.fn 101) [.t 3]), o 2 (.mv (.t 4))] [2])
 (.ret))⟩

/-- crumple/crumpleref04.CheckPlaces -/
def c20 : AFunc := ⟨19, [.tmp 2],
 .seq (.ops [o 1 (.box true (.t 0)), o 2 (.mv (ci 0))] [1])
 (.seq (.ops [o 3 (.fadr 0 (.t 1)), o 4 (.ld false 1 (.t 3)), o 5 (.bin .lss (.t 4) (ci 0)), o 6 (.mv (.t 5)), ⟨some 7, .fadr 0 (.t 1), some (6, false)⟩, ⟨some 8, .ld false 1 (.t 7), some (6, false)⟩, ⟨some 9, .fadr 1 (.t 1), some (6, false)⟩, ⟨some 10, .ld false 1 (.t 9), some (6, false)⟩, ⟨some 11, .bin .geq (.t 8) (.t 10), some (6, false)⟩, o 12 (.pick (.t 6) (cb true) (.t 11)), o 13 (.mv (.t 12)), ⟨some 14, .fadr 1 (.t 1), some (13, false)⟩, ⟨some 15, .ld false 1 (.t 14), some (13, false)⟩, ⟨some 16, .bin .gtr (.t 15) (ci 1000000), some (13, false)⟩, o 17 (.pick (.t 13) (cb true) (.t 16)), o 18 (.call true true 0 (.fn 55) [.t 17, ci 14]), o 2 (.mv (.t 18))] [2])
 (.ret))⟩

/-- crumple/crumpleref04.Speeds -/
def c21L0 : ACode :=
 .seq (.seq (.ops [o 8 (.mv (.t 4)), o 9 (.mv (.t 0)), o 10 (.len 1 (.t 9)), o 11 (.bin .lss (.t 8) (.t 10))] [0, 3, 4, 11])
 (.cond (.t 11)
 (.skip)
 (.exit 0)))
 (.seq (.block 1 (.seq (.opsd [(0, 1), (1, 1), (2, 1), (3, 5), (4, 5), (5, 1), (6, 1), (7, 5), (8, 5), (9, 2), (10, 2), (11, 0), (12, 0)] [o 14 (.mv (.t 0)), o 15 (.mv (.t 4)), o 16 (.bin .sub (.t 15) (ci 1)), o 17 (.iadr 3 (.t 14) (.t 16)), o 18 (.ld true 3 (.t 17)), o 19 (.mv (.t 0)), o 20 (.mv (.t 4)), o 21 (.iadr 3 (.t 19) (.t 20)), o 22 (.ld true 3 (.t 21)), o 5 (.allocr 0 true 1 [.p (.int .i64 0), .p (.int .i64 0), .p (.int .i64 0)]), o 6 (.allocr 1 true 1 [.p (.int .i64 0), .p (.int .i64 0), .p (.int .i64 0)]), u (.st 3 (.t 5) (.t 18)), u (.st 3 (.t 6) (.t 22))] [0, 3, 4, 5, 6])
 (.seq (.ops [o 23 (.fadr 0 (.t 6)), o 24 (.ld false 1 (.t 23)), o 25 (.fadr 0 (.t 5)), o 26 (.ld false 1 (.t 25)), o 27 (.bin .sub (.t 24) (.t 26)), o 28 (.bin .mul (.t 27) (ci 1000000)), o 7 (.mv (.t 28))] [0, 3, 4, 5, 6, 7])
 (.opsd [(0, 1), (1, 1), (2, 1), (3, 1), (4, 1), (5, 1), (6, 1), (7, 1), (8, 1), (9, 1), (10, 1), (11, 1), (12, 1), (13, 1), (14, 1), (15, 1), (16, 1), (17, 1), (18, 0), (19, 1), (20, 0), (21, 0), (22, 1)] [o 29 (.mv (.t 3)), o 30 (.mv (.t 7)), o 31 (.fadr 1 (.t 6)), o 32 (.fadr 1 (.t 31)), o 33 (.ld false 1 (.t 32)), o 34 (.fadr 1 (.t 5)), o 35 (.fadr 0 (.t 34)), o 36 (.ld false 1 (.t 35)), o 37 (.bin .sub (.t 33) (.t 36)), o 38 (.call true true 0 (.fn 104) [.t 30, .t 37]), o 39 (.mv (.t 7)), o 40 (.fadr 1 (.t 6)), o 41 (.fadr 0 (.t 40)), o 42 (.ld false 1 (.t 41)), o 43 (.fadr 1 (.t 5)), o 44 (.fadr 1 (.t 43)), o 45 (.ld false 1 (.t 44)), o 46 (.bin .sub (.t 42) (.t 45)), o 47 (.call true true 0 (.fn 105) [.t 39, .t 46]), o 48 (.build [.p (.int .i64 0), .p (.int .i64 0)] [(0, 1, .t 38), (1, 1, .t 47)]), o 49 (.bslice false 2 [.p (.int .i64 0), .p (.int .i64 0)] 1 [(0, .t 48)]), o 50 (.app 2 16 [.p (.int .i64 0), .p (.int .i64 0)] (.t 29) (.t 49)), o 3 (.mv (.t 50))] [0, 3, 4]))))
 (.ops [o 12 (.mv (.t 4)), o 13 (.bin .add (.t 12) (ci 1)), o 4 (.mv (.t 13))] [0, 3, 4]))
def c21 : AFunc := ⟨52, [.tmp 2],
 .seq (.ops [o 2 (.mv (cn))] [0])
 (.seq (.ops [o 3 (.nilown 2)] [0, 3])
 (.seq (.seq (.ops [o 4 (.mv (ci 1))] [0, 3, 4])
 (.block 0 (.loop true [0, 3, 4] c21L0)))
 (.seq (.ops [o 51 (.mv (.t 3)), o 2 (.mv (.t 51))] [2])
 (.ret))))⟩

/-- crumple/crumpleref04.Speed -/
def c22L0 : ACode :=
 .seq (.seq (.ops [o 12 (.mv (.t 6)), o 13 (.mv (.t 4)), o 14 (.len 1 (.t 13)), o 15 (.bin .lss (.t 12) (.t 14))] [2, 4, 5, 6, 15])
 (.cond (.t 15)
 (.skip)
 (.exit 0)))
 (.seq (.block 1 (.opsd [(0, 1), (1, 1), (2, 1), (3, 1), (4, 1), (5, 1), (6, 1), (7, 1), (8, 1), (9, 1), (10, 1), (11, 1), (12, 1), (13, 1), (14, 1), (15, 1), (16, 1), (17, 0)] [o 18 (.fadr 0 (.t 5)), o 19 (.ld false 1 (.t 18)), o 20 (.mv (.t 4)), o 21 (.mv (.t 6)), o 22 (.iadr 2 (.t 20) (.t 21)), o 23 (.fadr 0 (.t 22)), o 24 (.ld false 1 (.t 23)), o 25 (.max [.t 19, .t 24]), o 26 (.fadr 1 (.t 5)), o 27 (.ld false 1 (.t 26)), o 28 (.mv (.t 4)), o 29 (.mv (.t 6)), o 30 (.iadr 2 (.t 28) (.t 29)), o 31 (.fadr 1 (.t 30)), o 32 (.ld false 1 (.t 31)), o 33 (.min [.t 27, .t 32]), o 34 (.build [.p (.int .i64 0), .p (.int .i64 0)] [(0, 1, .t 25), (1, 1, .t 33)]), u (.st 2 (.t 5) (.t 34))] [2, 4, 5, 6]))
 (.ops [o 16 (.mv (.t 6)), o 17 (.bin .add (.t 16) (ci 1)), o 6 (.mv (.t 17))] [2, 4, 5, 6]))
def c22 : AFunc := ⟨42, [.cell 2 true 2, .tmp 3],
 .seq (.ops [o 2 (.alloc true 1 [.p (.int .i64 0), .p (.int .i64 0)]), o 3 (.mv (ci 0))] [0, 2])
 (.seq (.ops [o 7 (.mv (.t 0)), o 8 (.call true false 0 (.fn 21) [.t 7]), o 4 (.mv (.t 8))] [2, 4])
 (.seq (.ops [o 9 (.mv (.t 4)), o 10 (.iadr 2 (.t 9) (ci 0)), o 11 (.ld true 2 (.t 10)), o 5 (.alloc true 1 [.p (.int .i64 0), .p (.int .i64 0)]), u (.st 2 (.t 5) (.t 11))] [2, 4, 5])
 (.seq (.seq (.ops [o 6 (.mv (ci 1))] [2, 4, 5, 6])
 (.block 0 (.loop false [2, 4, 5, 6] c22L0)))
 (.seq (.seq (.ops [o 35 (.fadr 0 (.t 5)), o 36 (.ld false 1 (.t 35)), o 37 (.fadr 1 (.t 5)), o 38 (.ld false 1 (.t 37)), o 39 (.bin .gtr (.t 36) (.t 38))] [2, 5, 39])
 (.cond (.t 39)
 (.seq (.ops [o 40 (.build [.p (.int .i64 0), .p (.int .i64 0)] []), u (.st 2 (.t 2) (.t 40)), o 3 (.mv (ci 24))] [2, 3])
 (.ret))
 (.skip)))
 (.seq (.ops [o 41 (.ld true 2 (.t 5)), u (.st 2 (.t 2) (.t 41)), o 3 (.mv (ci 0))] [2, 3])
 (.ret))))))⟩

/-- crumple/crumpleref04.Overlap -/
def c23 : AFunc := ⟨28, [.cell 4 true 2, .tmp 5],
 .seq (.ops [o 2 (.box true (.t 0)), o 3 (.box true (.t 1)), o 4 (.alloc true 1 [.p (.int .i64 0), .p (.int .i64 0)]), o 5 (.mv (ci 0))] [2, 3, 4])
 (.seq (.ops [o 7 (.fadr 1 (.t 2)), o 8 (.ld false 1 (.t 7)), o 9 (.fadr 1 (.t 3)), o 10 (.ld false 1 (.t 9)), o 11 (.min [.t 8, .t 10]), o 12 (.fadr 0 (.t 2)), o 13 (.ld false 1 (.t 12)), o 14 (.fadr 0 (.t 3)), o 15 (.ld false 1 (.t 14)), o 16 (.max [.t 13, .t 15]), o 17 (.bin .sub (.t 11) (.t 16)), o 6 (.mv (.t 17))] [2, 4, 6])
 (.seq (.seq (.ops [o 18 (.mv (.t 6)), o 19 (.bin .leq (.t 18) (ci 0))] [2, 4, 6, 19])
 (.cond (.t 19)
 (.seq (.ops [o 20 (.build [.p (.int .i64 0), .p (.int .i64 0)] []), u (.st 2 (.t 4) (.t 20)), o 5 (.mv (ci 7))] [4, 5])
 (.ret))
 (.skip)))
 (.seq (.ops [o 21 (.mv (.t 6)), o 22 (.fadr 1 (.t 2)), o 23 (.ld false 1 (.t 22)), o 24 (.fadr 0 (.t 2)), o 25 (.ld false 1 (.t 24)), o 26 (.bin .sub (.t 23) (.t 25)), o 27 (.call true true 0 (.fn 106) [.t 21, .t 26]), u (.st 2 (.t 4) (.t 27)), o 5 (.mv (ci 0))] [4, 5])
 (.ret))))⟩

/-- crumple/barrier.CheckGates -/
def c24L0 : ACode :=
 .seq (.ops [o 27 (.bin .lss (.t 26) (.t 25))] [4, 24, 25, 26, 27])
 (.seq (.cond (.t 27)
 (.skip)
 (.exit 0))
 (.seq (.block 1 (.seq (.ops [o 28 (.iadr 3 (.t 24) (.t 26)), o 29 (.ld true 3 (.t 28)), o 6 (.alloc true 1 [.p (.int .i64 0), .p (.int .i64 0), .p (.int .i64 0)]), u (.st 3 (.t 6) (.t 29))] [4, 6, 24, 25, 26])
 (.seq (.ops [o 30 (.fadr 0 (.t 6)), o 31 (.ld false 1 (.t 30)), o 32 (.fadr 0 (.t 4)), o 33 (.ld false 1 (.t 32)), o 34 (.bin .leq (.t 31) (.t 33)), o 35 (.mv (.t 34)), ⟨some 36, .fadr 1 (.t 6), some (35, false)⟩, ⟨some 37, .fadr 0 (.t 36), some (35, false)⟩, ⟨some 38, .ld false 1 (.t 37), some (35, false)⟩, ⟨some 39, .fadr 1 (.t 4), some (35, false)⟩, ⟨some 40, .fadr 1 (.t 39), some (35, false)⟩, ⟨some 41, .ld false 1 (.t 40), some (35, false)⟩, ⟨some 42, .bin .leq (.t 38) (.t 41), some (35, false)⟩, o 43 (.pick (.t 35) (cb true) (.t 42)), o 7 (.mv (.t 43))] [4, 6, 7, 24, 25, 26])
 (.seq (.seq (.opsd [(0, 1), (1, 1), (2, 1), (3, 1), (4, 1), (6, 1), (5, 0), (7, 0), (8, 0), (9, 0), (10, 1)] [o 44 (.fadr 0 (.t 6)), o 45 (.ld false 1 (.t 44)), o 46 (.call true true 0 (.fn 108) [.t 45, ci 0, ci 1000000]), o 47 (.fadr 1 (.t 6)), o 48 (.ld true 2 (.t 47)), o 50 (.mv (.t 7)), o 49 (.call true true 0 (.fn 109) [.t 48, ci 0, ci 100000000]), o 51 (.call true true 0 (.fn 107) [.t 50, ci 11]), o 52 (.bslice false 1 [.p (.int .i64 0)] 3 [(0, .t 46), (1, .t 49), (2, .t 51)]), o 53 (.call true true 0 (.fn 98) [.t 52]), o 8 (.mv (.t 53))] [4, 6, 8, 24, 25, 26])
 (.seq (.ops [o 54 (.mv (.t 8)), o 55 (.bin .neq (.t 54) (ci 0))] [4, 6, 8, 24, 25, 26, 55])
 (.cond (.t 55)
 (.seq (.ops [o 56 (.mv (.t 8)), o 2 (.mv (.t 56))] [2])
 (.ret))
 (.skip))))
 (.ops [o 57 (.ld true 3 (.t 6)), u (.st 3 (.t 4) (.t 57))] [4, 24, 25, 26])))))
 (.ops [o 58 (.bin .add (.t 26) (ci 1)), o 26 (.mv (.t 58))] [4, 24, 25, 26])))
def c24 : AFunc := ⟨59, [.tmp 2],
 .seq (.ops [o 2 (.mv (ci 0))] [0])
 (.seq (.seq (.ops [o 9 (.mv (.t 0)), o 10 (.len 1 (.t 9)), o 11 (.bin .lss (.t 10) (ci 2)), o 12 (.call true true 0 (.fn 107) [.t 11, ci 16]), o 13 (.mv (.t 0)), o 14 (.len 1 (.t 13)), o 15 (.bin .gtr (.t 14) (ci 8)), o 16 (.call true true 0 (.fn 107) [.t 15, ci 5]), o 17 (.bslice false 1 [.p (.int .i64 0)] 2 [(0, .t 12), (1, .t 16)]), o 18 (.call true true 0 (.fn 98) [.t 17]), o 3 (.mv (.t 18))] [0, 3])
 (.seq (.ops [o 19 (.mv (.t 3)), o 20 (.bin .neq (.t 19) (ci 0))] [0, 3, 20])
 (.cond (.t 20)
 (.seq (.ops [o 21 (.mv (.t 3)), o 2 (.mv (.t 21))] [2])
 (.ret))
 (.skip))))
 (.seq (.ops [o 22 (.build [.p (.int .i64 0), .p (.int .i64 0)] [(0, 1, ci (-1)), (1, 1, ci (-1))]), o 23 (.build [.p (.int .i64 0), .p (.int .i64 0), .p (.int .i64 0)] [(0, 1, ci (-1)), (1, 2, .t 22)]), o 4 (.alloc true 1 [.p (.int .i64 0), .p (.int .i64 0), .p (.int .i64 0)]), u (.st 3 (.t 4) (.t 23))] [0, 4])
 (.seq (.seq (.ops [o 24 (.mv (.t 0)), o 25 (.len 1 (.t 24)), o 26 (.mv (ci 0))] [4, 24, 25, 26])
 (.block 0 (.loop true [4, 24, 25, 26] c24L0)))
 (.seq (.ops [o 2 (.mv (ci 0))] [2])
 (.ret)))))⟩

/-- crumple/crumpleref01.SameIntervals -/
def c25L0 : ACode :=
 .seq (.seq (.ops [o 11 (.mv (.t 5)), o 12 (.mv (.t 0)), o 13 (.len 1 (.t 12)), o 14 (.bin .lss (.t 11) (.t 13))] [0, 1, 5, 14])
 (.cond (.t 14)
 (.skip)
 (.exit 0)))
 (.seq (.block 1 (.seq (.opsd [(0, 1), (1, 1), (2, 1), (3, 1), (4, 1), (5, 1), (6, 1), (7, 1), (8, 1)] [o 17 (.mv (.t 0)), o 18 (.mv (.t 5)), o 19 (.iadr 2 (.t 17) (.t 18)), o 20 (.ld true 2 (.t 19)), o 21 (.mv (.t 1)), o 22 (.mv (.t 5)), o 23 (.iadr 2 (.t 21) (.t 22)), o 24 (.ld true 2 (.t 23)), o 25 (.eqagg [0, 0] true (.t 20) (.t 24))] [0, 1, 5, 25])
 (.cond (.t 25)
 (.seq (.ops [o 4 (.mv (cb false))] [4])
 (.ret))
 (.skip))))
 (.ops [o 15 (.mv (.t 5)), o 16 (.bin .add (.t 15) (ci 1)), o 5 (.mv (.t 16))] [0, 1, 5]))
def c25 : AFunc := ⟨26, [.tmp 4],
 .seq (.ops [o 4 (.mv (cb false))] [0, 1])
 (.seq (.seq (.ops [o 6 (.mv (.t 0)), o 7 (.len 1 (.t 6)), o 8 (.mv (.t 1)), o 9 (.len 1 (.t 8)), o 10 (.bin .neq (.t 7) (.t 9))] [0, 1, 10])
 (.cond (.t 10)
 (.seq (.ops [o 4 (.mv (cb false))] [4])
 (.ret))
 (.skip)))
 (.seq (.seq (.ops [o 5 (.mv (ci 0))] [0, 1, 5])
 (.block 0 (.loop false [0, 1, 5] c25L0)))
 (.seq (.ops [o 4 (.mv (cb true))] [4])
 (.ret))))⟩

/-- crumple/crumpleref04.ShortClasses -/
def c26L0 : ACode :=
 .seq (.seq (.ops [o 4 (.mv (.t 3)), o 5 (.mv (.t 0)), o 6 (.len 1 (.t 5)), o 7 (.bin .lss (.t 4) (.t 6))] [0, 3, 7])
 (.cond (.t 7)
 (.skip)
 (.exit 0)))
 (.seq (.block 1 (.seq (.ops [o 10 (.mv (.t 0)), o 11 (.mv (.t 3)), o 12 (.iadr 5 (.t 10) (.t 11)), o 13 (.fadr 0 (.t 12)), o 14 (.ld false 1 (.t 13)), o 15 (.len 0 (.t 14)), o 16 (.bin .gtr (.t 15) (ci 40))] [0, 3, 16])
 (.cond (.t 16)
 (.seq (.ops [o 2 (.mv (cb false))] [2])
 (.ret))
 (.skip))))
 (.ops [o 8 (.mv (.t 3)), o 9 (.bin .add (.t 8) (ci 1)), o 3 (.mv (.t 9))] [0, 3]))
def c26 : AFunc := ⟨25, [.tmp 2],
 .seq (.ops [o 2 (.mv (cb false))] [0])
 (.seq (.seq (.ops [o 3 (.mv (ci 0))] [0, 3])
 (.block 0 (.loop false [0, 3] c26L0)))
 (.seq (.ops [o 17 (.mv (.t 0)), o 18 (.len 1 (.t 17)), o 19 (.bin .leq (.t 18) (ci 6)), o 20 (.mv (.t 19)), ⟨some 21, .mv (.t 0), some (20, false)⟩, ⟨some 22, .len 1 (.t 21), some (20, false)⟩, ⟨some 23, .bin .eql (.t 22) (ci 17), some (20, false)⟩, o 24 (.pick (.t 20) (cb true) (.t 23)), o 2 (.mv (.t 24))] [2])
 (.ret)))⟩

/-- crumple/barrier.Classes -/
def c27L0 : ACode :=
 .seq (.ops [o 25 (.bin .lss (.t 24) (.t 23))] [0, 4, 5, 9, 22, 23, 24, 25])
 (.seq (.cond (.t 25)
 (.skip)
 (.exit 0))
 (.seq (.block 1 (.seq (.ops [o 26 (.iadr 5 (.t 22) (.t 24)), o 27 (.ld true 5 (.t 26)), o 11 (.alloc true 1 [.p (.str []), .p (.int .i64 0), .p (.int .i64 0), .p (.int .i64 0), .p (.int .i64 0)]), u (.st 5 (.t 11) (.t 27))] [0, 4, 5, 9, 11, 22, 23, 24])
 (.seq (.opsd [(0, 1), (1, 1), (3, 6151), (4, 6151), (6, 6151), (7, 6151), (2, 6152), (5, 1), (8, 0), (9, 0), (10, 0), (11, 1)] [o 28 (.fadr 0 (.t 11)), o 29 (.ld false 1 (.t 28)), o 31 (.fadr 1 (.t 11)), o 32 (.ld true 2 (.t 31)), o 34 (.fadr 3 (.t 11)), o 35 (.ld true 2 (.t 34)), o 30 (.call false true 0 (.fn 110) [.t 9, .t 29]), o 33 (.call true true 0 (.fn 109) [.t 32, ci 0, ci 100000]), o 36 (.call true true 0 (.fn 109) [.t 35, ci 0, ci 1000]), o 37 (.bslice false 1 [.p (.int .i64 0)] 3 [(0, .t 30), (1, .t 33), (2, .t 36)]), o 38 (.call true true 0 (.fn 98) [.t 37]), o 12 (.mv (.t 38))] [0, 4, 5, 9, 12, 22, 23, 24])
 (.seq (.ops [o 39 (.mv (.t 12)), o 40 (.bin .neq (.t 39) (ci 0))] [0, 4, 5, 9, 12, 22, 23, 24, 40])
 (.cond (.t 40)
 (.seq (.ops [o 41 (.mv (.t 12)), o 6 (.mv (cn)), o 7 (.mv (cn)), o 8 (.mv (.t 41))] [6, 7, 8])
 (.ret))
 (.skip))))))
 (.ops [o 42 (.bin .add (.t 24) (ci 1)), o 24 (.mv (.t 42))] [0, 4, 5, 9, 22, 23, 24])))
def c27L1 : ACode :=
 .seq (.ops [o 66 (.bin .lss (.t 65) (.t 64))] [4, 5, 14, 15, 63, 64, 65, 66])
 (.seq (.cond (.t 66)
 (.skip)
 (.exit 2))
 (.seq (.block 3 (.seq (.ops [o 67 (.iadr 5 (.t 63) (.t 65)), o 68 (.ld true 5 (.t 67)), o 17 (.alloc true 1 [.p (.str []), .p (.int .i64 0), .p (.int .i64 0), .p (.int .i64 0), .p (.int .i64 0)]), u (.st 5 (.t 17) (.t 68))] [4, 5, 14, 15, 17, 63, 64, 65])
 (.seq (.ops [o 69 (.fadr 0 (.t 5)), o 70 (.ld false 1 (.t 69)), o 71 (.bin .mul (ci 1000) (.t 70)), o 18 (.mv (.t 71))] [4, 5, 14, 15, 17, 18, 63, 64, 65])
 (.seq (.seq (.ops [o 72 (.mv (.t 18)), o 73 (.fadr 3 (.t 17)), o 74 (.fadr 0 (.t 73)), o 75 (.ld false 1 (.t 74)), o 76 (.fadr 1 (.t 5)), o 77 (.ld false 1 (.t 76)), o 78 (.bin .mul (.t 75) (.t 77)), o 79 (.bin .lss (.t 72) (.t 78)), o 80 (.mv (.t 79)), ⟨some 81, .mv (.t 18), some (80, false)⟩, ⟨some 82, .fadr 3 (.t 17), some (80, false)⟩, ⟨some 83, .fadr 1 (.t 82), some (80, false)⟩, ⟨some 84, .ld false 1 (.t 83), some (80, false)⟩, ⟨some 85, .fadr 1 (.t 5), some (80, false)⟩, ⟨some 86, .ld false 1 (.t 85), some (80, false)⟩, ⟨some 87, .bin .mul (.t 84) (.t 86), some (80, false)⟩, ⟨some 88, .bin .gtr (.t 81) (.t 87), some (80, false)⟩, o 89 (.pick (.t 80) (cb true) (.t 88)), o 90 (.mv (.t 89)), ⟨some 91, .fadr 1 (.t 17), some (90, false)⟩, ⟨some 92, .ld true 2 (.t 91), some (90, false)⟩, ⟨some 93, .ld true 2 (.t 4), some (90, false)⟩, ⟨some 94, .call true true 0 (.fn 112) [.t 92, .t 93], some (90, false)⟩, ⟨some 95, .not (.t 94), some (90, false)⟩, o 96 (.pick (.t 90) (cb true) (.t 95))] [4, 5, 14, 15, 17, 63, 64, 65, 96])
 (.cond (.t 96)
 (.exit 3)
 (.skip)))
 (.seq (.ops [o 97 (.mv (.t 15)), o 98 (.fadr 0 (.t 17)), o 99 (.ld false 1 (.t 98)), o 100 (.bslice false 1 [.p (.str [])] 1 [(0, .t 99)]), o 101 (.app 1 16 [.p (.str [])] (.t 97) (.t 100)), o 15 (.mv (.t 101))] [4, 5, 14, 15, 17, 63, 64, 65])
 (.seq (.ops [o 102 (.fadr 0 (.t 4)), o 103 (.ld false 1 (.t 102)), o 104 (.fadr 1 (.t 17)), o 105 (.fadr 0 (.t 104)), o 106 (.ld false 1 (.t 105)), o 107 (.bin .geq (.t 103) (.t 106)), o 108 (.mv (.t 107)), ⟨some 109, .fadr 1 (.t 4), some (108, true)⟩, ⟨some 110, .ld false 1 (.t 109), some (108, true)⟩, ⟨some 111, .fadr 1 (.t 17), some (108, true)⟩, ⟨some 112, .fadr 1 (.t 111), some (108, true)⟩, ⟨some 113, .ld false 1 (.t 112), some (108, true)⟩, ⟨some 114, .bin .leq (.t 110) (.t 113), some (108, true)⟩, o 115 (.pick (.t 108) (.t 114) (cb false))] [4, 5, 14, 15, 17, 63, 64, 65, 115])
 (.cond (.t 115)
 (.ops [o 116 (.mv (.t 14)), o 117 (.fadr 0 (.t 17)), o 118 (.ld false 1 (.t 117)), o 119 (.bslice false 1 [.p (.str [])] 1 [(0, .t 118)]), o 120 (.app 1 16 [.p (.str [])] (.t 116) (.t 119)), o 14 (.mv (.t 120))] [4, 5, 14, 15, 63, 64, 65])
 (.skip))))))))
 (.ops [o 121 (.bin .add (.t 65) (ci 1)), o 65 (.mv (.t 121))] [4, 5, 14, 15, 63, 64, 65])))
def c27 : AFunc := ⟨124, [.tmp 6, .tmp 7, .tmp 8],
 .seq (.ops [o 4 (.box true (.t 1)), o 5 (.box true (.t 2)), o 6 (.mv (cn)), o 7 (.mv (cn)), o 8 (.mv (ci 0))] [0, 4, 5])
 (.seq (.seq (.ops [o 19 (.mv (.t 0)), o 20 (.len 1 (.t 19)), o 21 (.bin .gtr (.t 20) (ci 16))] [0, 4, 5, 21])
 (.cond (.t 21)
 (.seq (.ops [o 6 (.mv (cn)), o 7 (.mv (cn)), o 8 (.mv (ci 5))] [6, 7, 8])
 (.ret))
 (.skip)))
 (.seq (.ops [o 9 (.alloc false 1 [.p (.nilm)])] [0, 4, 5, 9])
 (.seq (.seq (.ops [o 22 (.mv (.t 0)), o 23 (.len 1 (.t 22)), o 24 (.mv (ci 0))] [0, 4, 5, 9, 22, 23, 24])
 (.block 0 (.loop true [0, 4, 5, 9, 22, 23, 24] c27L0)))
 (.seq (.seq (.opsd [(0, 1), (1, 1), (2, 1), (3, 1), (4, 1), (5, 1), (6, 1), (7, 1), (8, 1), (9, 1), (10, 1), (11, 1), (12, 1), (13, 1), (14, 0), (15, 0), (16, 0), (17, 1)] [o 43 (.ld true 2 (.t 4)), o 44 (.call true true 0 (.fn 109) [.t 43, ci 0, ci 100000]), o 45 (.ld true 2 (.t 5)), o 46 (.call true true 0 (.fn 111) [.t 45]), o 47 (.fadr 0 (.t 5)), o 48 (.ld false 1 (.t 47)), o 49 (.bin .lss (.t 48) (ci 0)), o 50 (.mv (.t 49)), ⟨some 51, .fadr 0 (.t 5), some (50, false)⟩, ⟨some 52, .ld false 1 (.t 51), some (50, false)⟩, ⟨some 53, .fadr 1 (.t 5), some (50, false)⟩, ⟨some 54, .ld false 1 (.t 53), some (50, false)⟩, ⟨some 55, .bin .gtr (.t 52) (.t 54), some (50, false)⟩, o 56 (.pick (.t 50) (cb true) (.t 55)), o 57 (.call true true 0 (.fn 107) [.t 56, ci 3]), o 58 (.bslice false 1 [.p (.int .i64 0)] 3 [(0, .t 44), (1, .t 46), (2, .t 57)]), o 59 (.call true true 0 (.fn 98) [.t 58]), o 13 (.mv (.t 59))] [0, 4, 5, 13])
 (.seq (.ops [o 60 (.mv (.t 13)), o 61 (.bin .neq (.t 60) (ci 0))] [0, 4, 5, 13, 61])
 (.cond (.t 61)
 (.seq (.ops [o 62 (.mv (.t 13)), o 6 (.mv (cn)), o 7 (.mv (cn)), o 8 (.mv (.t 62))] [6, 7, 8])
 (.ret))
 (.skip))))
 (.seq (.ops [o 14 (.nilown 1), o 15 (.nilown 1)] [0, 4, 5, 14, 15])
 (.seq (.seq (.ops [o 63 (.mv (.t 0)), o 64 (.len 1 (.t 63)), o 65 (.mv (ci 0))] [4, 5, 14, 15, 63, 64, 65])
 (.block 2 (.loop true [4, 5, 14, 15, 63, 64, 65] c27L1)))
 (.seq (.ops [o 122 (.mv (.t 14)), o 123 (.mv (.t 15)), o 6 (.mv (.t 122)), o 7 (.mv (.t 123)), o 8 (.mv (ci 0))] [6, 7, 8])
 (.ret))))))))⟩

/-- crumple/crumplelaw04.classes -/
def c28L0 : ACode :=
 .seq (.ops [o 9 (.bin .lss (.t 8) (.t 7))] [3, 6, 7, 8, 9])
 (.seq (.cond (.t 9)
 (.skip)
 (.exit 0))
 (.seq (.block 1 (.seq (.ops [o 10 (.iadr 5 (.t 6) (.t 8)), o 11 (.ld true 5 (.t 10)), o 5 (.alloc true 1 [.p (.str []), .p (.int .i64 0), .p (.int .i64 0), .p (.int .i64 0), .p (.int .i64 0)]), u (.st 5 (.t 5) (.t 11))] [3, 5, 6, 7, 8])
 (.ops [o 12 (.mv (.t 3)), o 13 (.ld true 5 (.t 5)), o 14 (.bslice false 5 [.p (.str []), .p (.int .i64 0), .p (.int .i64 0), .p (.int .i64 0), .p (.int .i64 0)] 1 [(0, .t 13)]), o 15 (.app 5 48 [.p (.str []), .p (.int .i64 0), .p (.int .i64 0), .p (.int .i64 0), .p (.int .i64 0)] (.t 12) (.t 14)), o 3 (.mv (.t 15))] [3, 6, 7, 8])))
 (.ops [o 16 (.bin .add (.t 8) (ci 1)), o 8 (.mv (.t 16))] [3, 6, 7, 8])))
def c28 : AFunc := ⟨18, [.tmp 2],
 .seq (.ops [o 2 (.mv (cn))] [0])
 (.seq (.ops [o 3 (.nilown 5)] [0, 3])
 (.seq (.seq (.ops [o 6 (.mv (.t 0)), o 7 (.len 1 (.t 6)), o 8 (.mv (ci 0))] [3, 6, 7, 8])
 (.block 0 (.loop true [3, 6, 7, 8] c28L0)))
 (.seq (.ops [o 17 (.mv (.t 3)), o 2 (.mv (.t 17))] [2])
 (.ret))))⟩

/-- crumple/crumpleref04.CheckClasses -/
def c29L0 : ACode :=
 .seq (.seq (.ops [o 9 (.mv (.t 4)), o 10 (.mv (.t 0)), o 11 (.len 1 (.t 10)), o 12 (.bin .lss (.t 9) (.t 11))] [0, 3, 4, 12])
 (.cond (.t 12)
 (.skip)
 (.exit 0)))
 (.seq (.block 1 (.seq (.seq (.opsd [(0, 1), (1, 1), (2, 1), (3, 1), (4, 1), (5, 1), (6, 1), (7, 1), (8, 1), (9, 5), (10, 5), (11, 1), (12, 1), (13, 1), (14, 1), (15, 1), (16, 5), (17, 5), (18, 1), (19, 1), (20, 1), (21, 1), (22, 5), (23, 5), (24, 1), (25, 0), (26, 0), (27, 0), (28, 1)] [o 15 (.mv (.t 0)), o 16 (.mv (.t 4)), o 17 (.iadr 5 (.t 15) (.t 16)), o 18 (.fadr 0 (.t 17)), o 19 (.ld false 1 (.t 18)), o 20 (.call true true 0 (.fn 113) [.t 19]), o 21 (.mv (.t 3)), o 22 (.mv (.t 0)), o 23 (.mv (.t 4)), o 24 (.iadr 5 (.t 22) (.t 23)), o 25 (.fadr 0 (.t 24)), o 26 (.ld false 1 (.t 25)), o 27 (.call true true 0 (.fn 93) [.t 21, .t 26]), o 28 (.call true true 0 (.fn 55) [.t 27, ci 9]), o 29 (.mv (.t 0)), o 30 (.mv (.t 4)), o 31 (.iadr 5 (.t 29) (.t 30)), o 32 (.fadr 1 (.t 31)), o 33 (.ld true 2 (.t 32)), o 34 (.call true true 0 (.fn 30) [.t 33]), o 35 (.mv (.t 0)), o 36 (.mv (.t 4)), o 37 (.iadr 5 (.t 35) (.t 36)), o 38 (.fadr 3 (.t 37)), o 39 (.ld true 2 (.t 38)), o 40 (.call true true 0 (.fn 103) [.t 39, ci 0, ci 1000]), o 41 (.bslice false 1 [.p (.int .i64 0)] 4 [(0, .t 20), (1, .t 28), (2, .t 34), (3, .t 40)]), o 42 (.call true true 0 (.fn 101) [.t 41]), o 5 (.mv (.t 42))] [0, 3, 4, 5])
 (.seq (.ops [o 43 (.mv (.t 5)), o 44 (.bin .neq (.t 43) (ci 0))] [0, 3, 4, 5, 44])
 (.cond (.t 44)
 (.seq (.ops [o 45 (.mv (.t 5)), o 2 (.mv (.t 45))] [2])
 (.ret))
 (.skip))))
 (.ops [o 46 (.mv (.t 3)), o 47 (.mv (.t 0)), o 48 (.mv (.t 4)), o 49 (.iadr 5 (.t 47) (.t 48)), o 50 (.fadr 0 (.t 49)), o 51 (.ld false 1 (.t 50)), o 52 (.bslice false 1 [.p (.str [])] 1 [(0, .t 51)]), o 53 (.app 1 16 [.p (.str [])] (.t 46) (.t 52)), o 3 (.mv (.t 53))] [0, 3, 4])))
 (.ops [o 13 (.mv (.t 4)), o 14 (.bin .add (.t 13) (ci 1)), o 4 (.mv (.t 14))] [0, 3, 4]))
def c29 : AFunc := ⟨54, [.tmp 2],
 .seq (.ops [o 2 (.mv (ci 0))] [0])
 (.seq (.seq (.ops [o 6 (.mv (.t 0)), o 7 (.len 1 (.t 6)), o 8 (.bin .gtr (.t 7) (ci 16))] [0, 8])
 (.cond (.t 8)
 (.seq (.ops [o 2 (.mv (ci 5))] [2])
 (.ret))
 (.skip)))
 (.seq (.ops [o 3 (.nilown 1)] [0, 3])
 (.seq (.seq (.ops [o 4 (.mv (ci 0))] [0, 3, 4])
 (.block 0 (.loop false [0, 3, 4] c29L0)))
 (.seq (.ops [o 2 (.mv (ci 0))] [2])
 (.ret)))))⟩

/-- crumple/crumpleref04.CheckSpeed -/
def c30 : AFunc := ⟨5, [.tmp 2],
 .seq (.ops [o 1 (.box true (.t 0)), o 2 (.mv (ci 0))] [1])
 (.seq (.ops [o 3 (.ld true 2 (.t 1)), o 4 (.call true true 0 (.fn 103) [.t 3, ci 0, ci 100000]), o 2 (.mv (.t 4))] [2])
 (.ret))⟩

/-- crumple/crumpleref04.CheckOverlap -/
def c31 : AFunc := ⟨18, [.tmp 2],
 .seq (.ops [o 1 (.box true (.t 0)), o 2 (.mv (ci 0))] [1])
 (.seq (.opsd [(0, 1), (1, 1), (2, 1), (3, 1), (4, 1), (5, 1), (6, 1), (7, 1), (8, 1), (9, 1), (10, 1), (11, 1), (12, 0), (13, 0), (14, 0), (15, 1)] [o 3 (.ld true 2 (.t 1)), o 4 (.call true true 0 (.fn 114) [.t 3]), o 5 (.fadr 0 (.t 1)), o 6 (.ld false 1 (.t 5)), o 7 (.bin .lss (.t 6) (ci 0)), o 8 (.mv (.t 7)), ⟨some 9, .fadr 0 (.t 1), some (8, false)⟩, ⟨some 10, .ld false 1 (.t 9), some (8, false)⟩, ⟨some 11, .fadr 1 (.t 1), some (8, false)⟩, ⟨some 12, .ld false 1 (.t 11), some (8, false)⟩, ⟨some 13, .bin .gtr (.t 10) (.t 12), some (8, false)⟩, o 14 (.pick (.t 8) (cb true) (.t 13)), o 15 (.call true true 0 (.fn 55) [.t 14, ci 3]), o 16 (.bslice false 1 [.p (.int .i64 0)] 2 [(0, .t 4), (1, .t 15)]), o 17 (.call true true 0 (.fn 101) [.t 16]), o 2 (.mv (.t 17))] [2])
 (.ret))⟩

/-- crumple/crumpleref04.Classes -/
def c32L0 : ACode :=
 .seq (.seq (.ops [o 12 (.mv (.t 10)), o 13 (.mv (.t 0)), o 14 (.len 1 (.t 13)), o 15 (.bin .lss (.t 12) (.t 14))] [0, 4, 5, 8, 9, 10, 15])
 (.cond (.t 15)
 (.skip)
 (.exit 0)))
 (.seq (.block 1 (.seq (.ops [o 18 (.mv (.t 0)), o 19 (.mv (.t 10)), o 20 (.iadr 5 (.t 18) (.t 19)), o 21 (.ld true 5 (.t 20)), o 11 (.alloc true 1 [.p (.str []), .p (.int .i64 0), .p (.int .i64 0), .p (.int .i64 0), .p (.int .i64 0)]), u (.st 5 (.t 11) (.t 21))] [0, 4, 5, 8, 9, 10, 11])
 (.seq (.seq (.ops [o 22 (.fadr 0 (.t 5)), o 23 (.ld false 1 (.t 22)), o 24 (.bin .mul (ci 1000) (.t 23)), o 25 (.fadr 3 (.t 11)), o 26 (.fadr 0 (.t 25)), o 27 (.ld false 1 (.t 26)), o 28 (.fadr 1 (.t 5)), o 29 (.ld false 1 (.t 28)), o 30 (.bin .mul (.t 27) (.t 29)), o 31 (.bin .lss (.t 24) (.t 30)), o 32 (.mv (.t 31)), ⟨some 33, .fadr 0 (.t 5), some (32, false)⟩, ⟨some 34, .ld false 1 (.t 33), some (32, false)⟩, ⟨some 35, .bin .mul (ci 1000) (.t 34), some (32, false)⟩, ⟨some 36, .fadr 3 (.t 11), some (32, false)⟩, ⟨some 37, .fadr 1 (.t 36), some (32, false)⟩, ⟨some 38, .ld false 1 (.t 37), some (32, false)⟩, ⟨some 39, .fadr 1 (.t 5), some (32, false)⟩, ⟨some 40, .ld false 1 (.t 39), some (32, false)⟩, ⟨some 41, .bin .mul (.t 38) (.t 40), some (32, false)⟩, ⟨some 42, .bin .gtr (.t 35) (.t 41), some (32, false)⟩, o 43 (.pick (.t 32) (cb true) (.t 42))] [0, 4, 5, 8, 9, 10, 11, 43])
 (.cond (.t 43)
 (.exit 1)
 (.skip)))
 (.seq (.seq (.ops [o 44 (.fadr 0 (.t 4)), o 45 (.ld false 1 (.t 44)), o 46 (.fadr 1 (.t 11)), o 47 (.fadr 1 (.t 46)), o 48 (.ld false 1 (.t 47)), o 49 (.bin .leq (.t 45) (.t 48)), o 50 (.mv (.t 49)), ⟨some 51, .fadr 1 (.t 11), some (50, true)⟩, ⟨some 52, .fadr 0 (.t 51), some (50, true)⟩, ⟨some 53, .ld false 1 (.t 52), some (50, true)⟩, ⟨some 54, .fadr 1 (.t 4), some (50, true)⟩, ⟨some 55, .ld false 1 (.t 54), some (50, true)⟩, ⟨some 56, .bin .leq (.t 53) (.t 55), some (50, true)⟩, o 57 (.pick (.t 50) (.t 56) (cb false))] [0, 4, 5, 8, 9, 10, 11, 57])
 (.cond (.t 57)
 (.ops [o 58 (.mv (.t 9)), o 59 (.fadr 0 (.t 11)), o 60 (.ld false 1 (.t 59)), o 61 (.bslice false 1 [.p (.str [])] 1 [(0, .t 60)]), o 62 (.app 1 16 [.p (.str [])] (.t 58) (.t 61)), o 9 (.mv (.t 62))] [0, 4, 5, 8, 9, 10, 11])
 (.skip)))
 (.seq (.ops [o 63 (.fadr 0 (.t 4)), o 64 (.ld false 1 (.t 63)), o 65 (.fadr 1 (.t 11)), o 66 (.fadr 0 (.t 65)), o 67 (.ld false 1 (.t 66)), o 68 (.bin .geq (.t 64) (.t 67)), o 69 (.mv (.t 68)), ⟨some 70, .fadr 1 (.t 4), some (69, true)⟩, ⟨some 71, .ld false 1 (.t 70), some (69, true)⟩, ⟨some 72, .fadr 1 (.t 11), some (69, true)⟩, ⟨some 73, .fadr 1 (.t 72), some (69, true)⟩, ⟨some 74, .ld false 1 (.t 73), some (69, true)⟩, ⟨some 75, .bin .leq (.t 71) (.t 74), some (69, true)⟩, o 76 (.pick (.t 69) (.t 75) (cb false))] [0, 4, 5, 8, 9, 10, 11, 76])
 (.cond (.t 76)
 (.ops [o 77 (.mv (.t 8)), o 78 (.fadr 0 (.t 11)), o 79 (.ld false 1 (.t 78)), o 80 (.bslice false 1 [.p (.str [])] 1 [(0, .t 79)]), o 81 (.app 1 16 [.p (.str [])] (.t 77) (.t 80)), o 8 (.mv (.t 81))] [0, 4, 5, 8, 9, 10])
 (.skip)))))))
 (.ops [o 16 (.mv (.t 10)), o 17 (.bin .add (.t 16) (ci 1)), o 10 (.mv (.t 17))] [0, 4, 5, 8, 9, 10]))
def c32 : AFunc := ⟨84, [.tmp 6, .tmp 7],
 .seq (.ops [o 4 (.box true (.t 1)), o 5 (.box true (.t 2)), o 6 (.mv (cn)), o 7 (.mv (cn))] [0, 4, 5])
 (.seq (.ops [o 8 (.nilown 1), o 9 (.nilown 1)] [0, 4, 5, 8, 9])
 (.seq (.seq (.ops [o 10 (.mv (ci 0))] [0, 4, 5, 8, 9, 10])
 (.block 0 (.loop true [0, 4, 5, 8, 9, 10] c32L0)))
 (.seq (.ops [o 82 (.mv (.t 8)), o 83 (.mv (.t 9)), o 6 (.mv (.t 82)), o 7 (.mv (.t 83))] [6, 7])
 (.ret))))⟩

/-- crumple/crumpleref01.SameWords -/
def c33L0 : ACode :=
 .seq (.seq (.ops [o 11 (.mv (.t 5)), o 12 (.mv (.t 0)), o 13 (.len 1 (.t 12)), o 14 (.bin .lss (.t 11) (.t 13))] [0, 1, 5, 14])
 (.cond (.t 14)
 (.skip)
 (.exit 0)))
 (.seq (.block 1 (.seq (.opsd [(0, 1), (1, 1), (2, 1), (3, 1), (4, 1), (5, 1), (6, 1), (7, 1), (8, 1)] [o 17 (.mv (.t 0)), o 18 (.mv (.t 5)), o 19 (.iadr 1 (.t 17) (.t 18)), o 20 (.ld false 1 (.t 19)), o 21 (.mv (.t 1)), o 22 (.mv (.t 5)), o 23 (.iadr 1 (.t 21) (.t 22)), o 24 (.ld false 1 (.t 23)), o 25 (.bin .neq (.t 20) (.t 24))] [0, 1, 5, 25])
 (.cond (.t 25)
 (.seq (.ops [o 4 (.mv (cb false))] [4])
 (.ret))
 (.skip))))
 (.ops [o 15 (.mv (.t 5)), o 16 (.bin .add (.t 15) (ci 1)), o 5 (.mv (.t 16))] [0, 1, 5]))
def c33 : AFunc := ⟨26, [.tmp 4],
 .seq (.ops [o 4 (.mv (cb false))] [0, 1])
 (.seq (.seq (.ops [o 6 (.mv (.t 0)), o 7 (.len 1 (.t 6)), o 8 (.mv (.t 1)), o 9 (.len 1 (.t 8)), o 10 (.bin .neq (.t 7) (.t 9))] [0, 1, 10])
 (.cond (.t 10)
 (.seq (.ops [o 4 (.mv (cb false))] [4])
 (.ret))
 (.skip)))
 (.seq (.seq (.ops [o 5 (.mv (ci 0))] [0, 1, 5])
 (.block 0 (.loop false [0, 1, 5] c33L0)))
 (.seq (.ops [o 4 (.mv (cb true))] [4])
 (.ret))))⟩

/-- crumple/barrier.Run -/
def c34 : AFunc := ⟨23, [.tmp 4, .tmp 5],
 .seq (.ops [o 2 (.box false (.t 0)), o 4 (.mv (cn)), o 5 (.mv (ci 0))] [1, 2])
 (.seq (.seq (.ops [o 8 (.ld true 6 (.t 2)), o 9 (.call true true 0 (.fn 48) [.t 8]), o 6 (.mv (.t 9))] [1, 2, 6])
 (.seq (.ops [o 10 (.mv (.t 6)), o 11 (.bin .neq (.t 10) (ci 0))] [1, 2, 6, 11])
 (.cond (.t 11)
 (.seq (.ops [o 12 (.mv (.t 6)), o 4 (.mv (cn)), o 5 (.mv (.t 12))] [4, 5])
 (.ret))
 (.skip))))
 (.seq (.seq (.ops [o 13 (.mv (.t 1)), o 14 (.fadr 1 (.t 2)), o 15 (.ld true 2 (.t 14)), o 16 (.call true true 0 (.fn 115) [.t 13, .t 15]), o 7 (.mv (.t 16))] [1, 2, 7])
 (.seq (.ops [o 17 (.mv (.t 7)), o 18 (.bin .neq (.t 17) (ci 0))] [1, 2, 7, 18])
 (.cond (.t 18)
 (.seq (.ops [o 19 (.mv (.t 7)), o 4 (.mv (cn)), o 5 (.mv (.t 19))] [4, 5])
 (.ret))
 (.skip))))
 (.seq (.ops [o 20 (.ld true 6 (.t 2)), o 21 (.mv (.t 1)), o 22 (.call true false 0 (.fn 116) [.t 20, .t 21]), o 4 (.mv (.t 22)), o 5 (.mv (ci 0))] [4, 5])
 (.ret))))⟩

/-- crumple/crumplelaw04.given -/
def c35 : AFunc := ⟨13, [.cell 2 true 6],
 .seq (.ops [o 1 (.box false (.t 0)), o 2 (.alloc false 1 [.p (.nils), .p (.int .i64 0), .p (.int .i64 0), .p (.int .i64 0), .p (.int .i64 0), .p (.int .i64 0)])] [1, 2])
 (.seq (.opsd [(0, 1), (1, 1), (2, 1), (3, 1), (4, 1), (5, 1), (6, 1), (7, 1), (8, 1), (9, 1), (10, 0)] [o 3 (.fadr 0 (.t 1)), o 4 (.ld false 1 (.t 3)), o 5 (.call true false 0 (.fn 52) [.t 4]), o 6 (.fadr 1 (.t 1)), o 7 (.ld true 2 (.t 6)), o 8 (.fadr 3 (.t 1)), o 9 (.ld true 2 (.t 8)), o 10 (.fadr 5 (.t 1)), o 11 (.ld false 1 (.t 10)), o 12 (.build [.p (.nils), .p (.int .i64 0), .p (.int .i64 0), .p (.int .i64 0), .p (.int .i64 0), .p (.int .i64 0)] [(0, 1, .t 5), (1, 2, .t 7), (3, 2, .t 9), (5, 1, .t 11)]), u (.st 6 (.t 2) (.t 12))] [2])
 (.ret))⟩

/-- crumple/barrier.Reached -/
def c36L0 : ACode :=
 .seq (.ops [o 27 (.bin .lss (.t 26) (.t 25))] [5, 6, 7, 25, 26, 27])
 (.seq (.cond (.t 27)
 (.skip)
 (.exit 0))
 (.seq (.block 1 (.seq (.ops [o 28 (.mv (.t 26)), o 8 (.mv (.t 28))] [5, 6, 7, 8, 25, 26])
 (.opsd [(0, 1), (1, 1), (2, 1), (3, 1), (4, 1), (5, 1), (6, 1), (7, 1), (8, 1), (9, 1), (10, 0), (11, 0), (12, 1)] [o 29 (.mv (.t 7)), o 30 (.mv (.t 5)), o 31 (.mv (.t 8)), o 32 (.iadr 1 (.t 30) (.t 31)), o 33 (.ld false 1 (.t 32)), o 34 (.mv (.t 6)), o 35 (.mv (.t 8)), o 36 (.iadr 1 (.t 34) (.t 35)), o 37 (.ld false 1 (.t 36)), o 38 (.build [.p (.int .i64 0), .p (.int .i64 0)] [(0, 1, .t 33), (1, 1, .t 37)]), o 39 (.bslice false 2 [.p (.int .i64 0), .p (.int .i64 0)] 1 [(0, .t 38)]), o 40 (.app 2 16 [.p (.int .i64 0), .p (.int .i64 0)] (.t 29) (.t 39)), o 7 (.mv (.t 40))] [5, 6, 7, 25, 26])))
 (.ops [o 41 (.bin .add (.t 26) (ci 1)), o 26 (.mv (.t 41))] [5, 6, 7, 25, 26])))
def c36 : AFunc := ⟨43, [.tmp 2, .tmp 3],
 .seq (.ops [o 1 (.box false (.t 0)), o 2 (.mv (cn)), o 3 (.mv (ci 0))] [1])
 (.seq (.seq (.ops [o 9 (.ld true 6 (.t 1)), o 10 (.call true true 0 (.fn 48) [.t 9]), o 4 (.mv (.t 10))] [1, 4])
 (.seq (.ops [o 11 (.mv (.t 4)), o 12 (.bin .neq (.t 11) (ci 0))] [1, 4, 12])
 (.cond (.t 12)
 (.seq (.ops [o 13 (.mv (.t 4)), o 2 (.mv (cn)), o 3 (.mv (.t 13))] [2, 3])
 (.ret))
 (.skip))))
 (.seq (.opsd [(0, 1), (1, 1), (2, 1), (3, 1), (4, 1), (5, 1), (6, 1), (7, 1), (8, 1), (9, 0), (10, 1), (11, 1)] [o 14 (.ld true 6 (.t 1)), o 15 (.fadr 1 (.t 1)), o 16 (.fadr 1 (.t 15)), o 17 (.ld false 1 (.t 16)), o 18 (.call true false 0 (.fn 116) [.t 14, .t 17]), o 19 (.ld true 6 (.t 1)), o 20 (.fadr 1 (.t 1)), o 21 (.fadr 0 (.t 20)), o 22 (.ld false 1 (.t 21)), o 23 (.call true false 0 (.fn 116) [.t 19, .t 22]), o 5 (.mv (.t 18)), o 6 (.mv (.t 23))] [5, 6])
 (.seq (.ops [o 7 (.nilown 2)] [5, 6, 7])
 (.seq (.seq (.ops [o 24 (.mv (.t 5)), o 25 (.len 1 (.t 24)), o 26 (.mv (ci 0))] [5, 6, 7, 25, 26])
 (.block 0 (.loop false [5, 6, 7, 25, 26] c36L0)))
 (.seq (.ops [o 42 (.mv (.t 7)), o 2 (.mv (.t 42)), o 3 (.mv (ci 0))] [2, 3])
 (.ret))))))⟩

/-- crumple/barrier.Braked -/
def c37 : AFunc := ⟨53, [.tmp 8, .tmp 9],
 .seq (.ops [o 4 (.box false (.t 0)), o 8 (.mv (ci 0)), o 9 (.mv (ci 0))] [1, 2, 3, 4])
 (.seq (.seq (.ops [o 14 (.ld true 6 (.t 4)), o 15 (.call true true 0 (.fn 48) [.t 14]), o 10 (.mv (.t 15))] [1, 2, 3, 4, 10])
 (.seq (.ops [o 16 (.mv (.t 10)), o 17 (.bin .neq (.t 16) (ci 0))] [1, 2, 3, 4, 10, 17])
 (.cond (.t 17)
 (.seq (.ops [o 18 (.mv (.t 10)), o 8 (.mv (ci 0)), o 9 (.mv (.t 18))] [8, 9])
 (.ret))
 (.skip))))
 (.seq (.seq (.opsd [(0, 1), (1, 1), (2, 1), (3, 1), (4, 1), (5, 1), (6, 1), (7, 1), (8, 1), (9, 1), (10, 0), (11, 0), (12, 0), (13, 1)] [o 19 (.ld true 6 (.t 4)), o 20 (.mv (.t 1)), o 21 (.call true true 0 (.fn 117) [.t 19, .t 20]), o 22 (.mv (.t 2)), o 23 (.fadr 1 (.t 4)), o 24 (.ld true 2 (.t 23)), o 25 (.call true true 0 (.fn 115) [.t 22, .t 24]), o 26 (.mv (.t 3)), o 27 (.fadr 3 (.t 4)), o 28 (.ld true 2 (.t 27)), o 29 (.call true true 0 (.fn 115) [.t 26, .t 28]), o 30 (.bslice false 1 [.p (.int .i64 0)] 3 [(0, .t 21), (1, .t 25), (2, .t 29)]), o 31 (.call true true 0 (.fn 98) [.t 30]), o 11 (.mv (.t 31))] [1, 2, 3, 4, 11])
 (.seq (.ops [o 32 (.mv (.t 11)), o 33 (.bin .neq (.t 32) (ci 0))] [1, 2, 3, 4, 11, 33])
 (.cond (.t 33)
 (.seq (.ops [o 34 (.mv (.t 11)), o 8 (.mv (ci 0)), o 9 (.mv (.t 34))] [8, 9])
 (.ret))
 (.skip))))
 (.seq (.ops [o 36 (.mv (.t 1)), o 37 (.ld true 6 (.t 4)), o 38 (.mv (.t 2)), o 39 (.call true false 0 (.fn 116) [.t 37, .t 38]), o 40 (.mv (.t 1)), o 41 (.iadr 1 (.t 39) (.t 40)), o 42 (.ld false 1 (.t 41)), o 43 (.mv (.t 2)), o 44 (.mv (.t 3)), o 45 (.bin .add (.t 43) (.t 44)), o 46 (.call true true 0 (.fn 118) [.t 36, .t 42, .t 45]), o 35 (.mv (.t 46)), o 47 (.ext (.t 35) 0), o 48 (.ext (.t 35) 1), o 12 (.mv (.t 47)), o 13 (.mv (.t 48))] [12, 13])
 (.seq (.ops [o 49 (.mv (.t 12)), o 50 (.mv (.t 13)), o 51 (.not (.t 50)), o 52 (.call true true 0 (.fn 107) [.t 51, ci 7]), o 8 (.mv (.t 49)), o 9 (.mv (.t 52))] [8, 9])
 (.ret)))))⟩

/-- crumple/barrier.Safe -/
def c38 : AFunc := ⟨22, [.tmp 4, .tmp 5],
 .seq (.ops [o 2 (.box false (.t 0)), o 4 (.mv (cb false)), o 5 (.mv (ci 0))] [1, 2])
 (.seq (.seq (.ops [o 8 (.ld true 6 (.t 2)), o 9 (.call true true 0 (.fn 48) [.t 8]), o 6 (.mv (.t 9))] [1, 2, 6])
 (.seq (.ops [o 10 (.mv (.t 6)), o 11 (.bin .neq (.t 10) (ci 0))] [1, 2, 6, 11])
 (.cond (.t 11)
 (.seq (.ops [o 12 (.mv (.t 6)), o 4 (.mv (cb false)), o 5 (.mv (.t 12))] [4, 5])
 (.ret))
 (.skip))))
 (.seq (.seq (.ops [o 13 (.ld true 6 (.t 2)), o 14 (.mv (.t 1)), o 15 (.call true true 0 (.fn 117) [.t 13, .t 14]), o 7 (.mv (.t 15))] [1, 2, 7])
 (.seq (.ops [o 16 (.mv (.t 7)), o 17 (.bin .neq (.t 16) (ci 0))] [1, 2, 7, 17])
 (.cond (.t 17)
 (.seq (.ops [o 18 (.mv (.t 7)), o 4 (.mv (cb false)), o 5 (.mv (.t 18))] [4, 5])
 (.ret))
 (.skip))))
 (.seq (.ops [o 19 (.ld true 6 (.t 2)), o 20 (.mv (.t 1)), o 21 (.call true true 0 (.fn 119) [.t 19, .t 20]), o 4 (.mv (.t 21)), o 5 (.mv (ci 0))] [4, 5])
 (.ret))))⟩

/-- crumple/barrier.Last -/
def c39A0 : ACode :=
 .ops [o 6 (.mv (.t 16))] [5, 6]
def c39B0 : ACode :=
 .block 1 (.seq (.ops [o 17 (.mv (.t 6)), o 18 (.bin .sub (.t 17) (ci 1)), u (.st 1 (.t 5) (.t 18))] [])
 (.exit 0))
def c39 : AFunc := ⟨20, [.tmp 2, .tmp 3],
 .seq (.ops [o 1 (.box false (.t 0)), o 2 (.mv (ci 0)), o 3 (.mv (ci 0))] [1, 2, 3])
 (.scope (.seq (.seq (.ops [o 7 (.ld true 6 (.t 1)), o 8 (.call true true 0 (.fn 48) [.t 7]), o 4 (.mv (.t 8))] [1, 2, 3, 4])
 (.seq (.ops [o 9 (.mv (.t 4)), o 10 (.bin .neq (.t 9) (ci 0))] [1, 2, 3, 4, 10])
 (.cond (.t 10)
 (.seq (.ops [o 11 (.mv (.t 4)), o 2 (.mv (ci 0)), o 3 (.mv (.t 11))] [2, 3])
 (.ret))
 (.skip))))
 (.seq (.ops [o 12 (.fadr 5 (.t 1)), o 13 (.ld false 1 (.t 12)), o 5 (.alloc true 1 [.p (.int .i64 0)]), u (.st 1 (.t 5) (.t 13))] [1, 2, 3, 5])
 (.seq (.skip)
 (.seq (.seq (.ops [o 14 (.ld true 6 (.t 1)), o 15 (.call true false 0 (.fn 120) [.t 14])] [2, 3, 5, 15])
 (.block 0 (.rfun (.t 15) [16] c39A0 c39B0)))
 (.seq (.ops [o 19 (.ld false 1 (.t 5)), o 2 (.mv (.t 19)), o 3 (.mv (ci 0))] [2, 3])
 (.ret)))))))⟩

/-- crumple/crumpleref04.CheckTow -/
def c40 : AFunc := ⟨30, [.tmp 2],
 .seq (.ops [o 1 (.box false (.t 0)), o 2 (.mv (ci 0))] [1])
 (.seq (.opsd [(0, 1), (1, 1), (2, 1), (3, 1), (4, 1), (5, 1), (6, 1), (7, 1), (8, 1), (9, 1), (10, 1), (11, 1), (12, 1), (13, 1), (14, 1), (15, 1), (16, 1), (17, 1), (18, 1), (19, 1), (20, 1), (21, 1), (22, 1), (23, 1), (24, 0), (25, 0), (26, 0), (27, 1)] [o 3 (.fadr 0 (.t 1)), o 4 (.ld false 1 (.t 3)), o 5 (.len 1 (.t 4)), o 6 (.bin .eql (.t 5) (ci 0)), o 7 (.call true true 0 (.fn 55) [.t 6, ci 12]), o 8 (.fadr 0 (.t 1)), o 9 (.ld false 1 (.t 8)), o 10 (.len 1 (.t 9)), o 11 (.bin .gtr (.t 10) (ci 64)), o 12 (.call true true 0 (.fn 55) [.t 11, ci 5]), o 13 (.fadr 0 (.t 1)), o 14 (.ld false 1 (.t 13)), o 15 (.call true true 0 (.fn 121) [.t 14, ci 0, ci 100000]), o 16 (.fadr 1 (.t 1)), o 17 (.ld true 2 (.t 16)), o 18 (.call true true 0 (.fn 103) [.t 17, ci 0, ci 100000]), o 19 (.fadr 3 (.t 1)), o 20 (.ld true 2 (.t 19)), o 21 (.call true true 0 (.fn 103) [.t 20, ci 0, ci 100000]), o 22 (.fadr 5 (.t 1)), o 23 (.ld false 1 (.t 22)), o 24 (.fadr 0 (.t 1)), o 25 (.ld false 1 (.t 24)), o 26 (.len 1 (.t 25)), o 27 (.call true true 0 (.fn 102) [.t 23, ci 1, .t 26]), o 28 (.bslice false 1 [.p (.int .i64 0)] 6 [(0, .t 7), (1, .t 12), (2, .t 15), (3, .t 18), (4, .t 21), (5, .t 27)]), o 29 (.call true true 0 (.fn 101) [.t 28]), o 2 (.mv (.t 29))] [2])
 (.ret))⟩

/-- crumple/crumpleref04.CheckIn -/
def c41 : AFunc := ⟨16, [.tmp 4],
 .seq (.ops [o 3 (.box true (.t 1)), o 4 (.mv (ci 0))] [0, 3])
 (.seq (.ops [o 5 (.mv (.t 0)), o 6 (.fadr 0 (.t 3)), o 7 (.ld false 1 (.t 6)), o 8 (.bin .lss (.t 5) (.t 7)), o 9 (.mv (.t 8)), ⟨some 10, .mv (.t 0), some (9, false)⟩, ⟨some 11, .fadr 1 (.t 3), some (9, false)⟩, ⟨some 12, .ld false 1 (.t 11), some (9, false)⟩, ⟨some 13, .bin .gtr (.t 10) (.t 12), some (9, false)⟩, o 14 (.pick (.t 9) (cb true) (.t 13)), o 15 (.call true true 0 (.fn 55) [.t 14, ci 3]), o 4 (.mv (.t 15))] [4])
 (.ret))⟩

/-- crumple/crumpleref04.CheckCell -/
def c42 : AFunc := ⟨14, [.tmp 4],
 .seq (.ops [o 2 (.box false (.t 0)), o 4 (.mv (ci 0))] [1, 2])
 (.seq (.ops [o 5 (.mv (.t 1)), o 6 (.bin .lss (.t 5) (ci 0)), o 7 (.mv (.t 6)), ⟨some 8, .mv (.t 1), some (7, false)⟩, ⟨some 9, .fadr 5 (.t 2), some (7, false)⟩, ⟨some 10, .ld false 1 (.t 9), some (7, false)⟩, ⟨some 11, .bin .gtr (.t 8) (.t 10), some (7, false)⟩, o 12 (.pick (.t 7) (cb true) (.t 11)), o 13 (.call true true 0 (.fn 55) [.t 12, ci 10]), o 4 (.mv (.t 13))] [4])
 (.ret))⟩

/-- crumple/crumpleref04.Run -/
def c43L0 : ACode :=
 .seq (.seq (.ops [o 8 (.mv (.t 6)), o 9 (.fadr 0 (.t 2)), o 10 (.ld false 1 (.t 9)), o 11 (.len 1 (.t 10)), o 12 (.bin .lss (.t 8) (.t 11))] [1, 2, 5, 6, 12])
 (.cond (.t 12)
 (.skip)
 (.exit 0)))
 (.seq (.block 1 (.opsd [(0, 1), (1, 1), (2, 1), (3, 1), (4, 1), (5, 1), (6, 1), (7, 1), (8, 1), (9, 1), (10, 1), (11, 1), (12, 1), (13, 1), (14, 0), (15, 0), (16, 1)] [o 15 (.mv (.t 5)), o 16 (.mv (.t 5)), o 17 (.mv (.t 6)), o 18 (.iadr 1 (.t 16) (.t 17)), o 19 (.ld false 1 (.t 18)), o 20 (.fadr 0 (.t 2)), o 21 (.ld false 1 (.t 20)), o 22 (.mv (.t 6)), o 23 (.iadr 1 (.t 21) (.t 22)), o 24 (.ld false 1 (.t 23)), o 25 (.bin .add (.t 19) (.t 24)), o 26 (.mv (.t 1)), o 27 (.bin .sub (.t 25) (.t 26)), o 28 (.max [ci 0, .t 27]), o 29 (.bslice false 1 [.p (.int .i64 0)] 1 [(0, .t 28)]), o 30 (.app 1 8 [.p (.int .i64 0)] (.t 15) (.t 29)), o 5 (.mv (.t 30))] [1, 2, 5, 6]))
 (.ops [o 13 (.mv (.t 6)), o 14 (.bin .add (.t 13) (ci 1)), o 6 (.mv (.t 14))] [1, 2, 5, 6]))
def c43 : AFunc := ⟨32, [.tmp 4],
 .seq (.ops [o 2 (.box false (.t 0)), o 4 (.mv (cn))] [1, 2])
 (.seq (.ops [o 7 (.bslice true 1 [.p (.int .i64 0)] 1 [(0, ci 0)]), o 5 (.mv (.t 7))] [1, 2, 5])
 (.seq (.seq (.ops [o 6 (.mv (ci 0))] [1, 2, 5, 6])
 (.block 0 (.loop false [1, 2, 5, 6] c43L0)))
 (.seq (.ops [o 31 (.mv (.t 5)), o 4 (.mv (.t 31))] [4])
 (.ret))))⟩

/-- crumple/crumpleref04.Braked -/
def c44 : AFunc := ⟨31, [.tmp 8, .tmp 9],
 .seq (.ops [o 4 (.box false (.t 0)), o 8 (.mv (ci 0)), o 9 (.mv (ci 0))] [1, 2, 3, 4])
 (.seq (.ops [o 11 (.ld true 6 (.t 4)), o 12 (.mv (.t 2)), o 13 (.call true false 0 (.fn 43) [.t 11, .t 12]), o 14 (.mv (.t 1)), o 15 (.iadr 1 (.t 13) (.t 14)), o 16 (.ld false 1 (.t 15)), o 10 (.mv (.t 16))] [1, 2, 3, 10])
 (.seq (.seq (.ops [o 17 (.mv (.t 10)), o 18 (.bin .eql (.t 17) (ci 0))] [1, 2, 3, 10, 18])
 (.cond (.t 18)
 (.seq (.ops [o 19 (.mv (.t 1)), o 8 (.mv (.t 19)), o 9 (.mv (ci 0))] [8, 9])
 (.ret))
 (.skip)))
 (.seq (.seq (.ops [o 20 (.mv (.t 2)), o 21 (.mv (.t 3)), o 22 (.bin .add (.t 20) (.t 21)), o 23 (.bin .eql (.t 22) (ci 0))] [1, 2, 3, 10, 23])
 (.cond (.t 23)
 (.seq (.ops [o 8 (.mv (ci 0)), o 9 (.mv (ci 7))] [8, 9])
 (.ret))
 (.skip)))
 (.seq (.ops [o 24 (.mv (.t 1)), o 25 (.mv (.t 10)), o 26 (.mv (.t 2)), o 27 (.mv (.t 3)), o 28 (.bin .add (.t 26) (.t 27)), o 29 (.call true true 0 (.fn 105) [.t 25, .t 28]), o 30 (.bin .add (.t 24) (.t 29)), o 8 (.mv (.t 30)), o 9 (.mv (ci 0))] [8, 9])
 (.ret)))))⟩

/-- crumple/crumpleref04.Safe -/
def c45 : AFunc := ⟨27, [.tmp 4],
 .seq (.ops [o 2 (.box false (.t 0)), o 4 (.mv (cb false))] [1, 2])
 (.seq (.ops [o 8 (.ld true 6 (.t 2)), o 9 (.mv (.t 1)), o 10 (.fadr 1 (.t 2)), o 11 (.fadr 0 (.t 10)), o 12 (.ld false 1 (.t 11)), o 13 (.fadr 3 (.t 2)), o 14 (.fadr 0 (.t 13)), o 15 (.ld false 1 (.t 14)), o 16 (.call true true 0 (.fn 44) [.t 8, .t 9, .t 12, .t 15]), o 7 (.mv (.t 16)), o 17 (.ext (.t 7) 0), o 18 (.ext (.t 7) 1), o 5 (.mv (.t 17)), o 6 (.mv (.t 18))] [2, 5, 6])
 (.seq (.ops [o 19 (.mv (.t 6)), o 20 (.bin .eql (.t 19) (ci 0)), o 21 (.mv (.t 20)), ⟨some 22, .mv (.t 5), some (21, true)⟩, ⟨some 23, .fadr 5 (.t 2), some (21, true)⟩, ⟨some 24, .ld false 1 (.t 23), some (21, true)⟩, ⟨some 25, .bin .leq (.t 22) (.t 24), some (21, true)⟩, o 26 (.pick (.t 21) (.t 25) (cb false)), o 4 (.mv (.t 26))] [4])
 (.ret)))⟩

/-- crumple/crumpleref04.Reached -/
def c46L0 : ACode :=
 .seq (.seq (.ops [o 17 (.mv (.t 6)), o 18 (.mv (.t 3)), o 19 (.len 1 (.t 18)), o 20 (.bin .lss (.t 17) (.t 19))] [3, 4, 5, 6, 20])
 (.cond (.t 20)
 (.skip)
 (.exit 0)))
 (.seq (.block 1 (.opsd [(0, 1), (1, 1), (2, 1), (3, 1), (4, 1), (5, 1), (6, 1), (7, 1), (8, 1), (9, 1), (10, 0), (11, 0), (12, 1)] [o 23 (.mv (.t 5)), o 24 (.mv (.t 3)), o 25 (.mv (.t 6)), o 26 (.iadr 1 (.t 24) (.t 25)), o 27 (.ld false 1 (.t 26)), o 28 (.mv (.t 4)), o 29 (.mv (.t 6)), o 30 (.iadr 1 (.t 28) (.t 29)), o 31 (.ld false 1 (.t 30)), o 32 (.build [.p (.int .i64 0), .p (.int .i64 0)] [(0, 1, .t 27), (1, 1, .t 31)]), o 33 (.bslice false 2 [.p (.int .i64 0), .p (.int .i64 0)] 1 [(0, .t 32)]), o 34 (.app 2 16 [.p (.int .i64 0), .p (.int .i64 0)] (.t 23) (.t 33)), o 5 (.mv (.t 34))] [3, 4, 5, 6]))
 (.ops [o 21 (.mv (.t 6)), o 22 (.bin .add (.t 21) (ci 1)), o 6 (.mv (.t 22))] [3, 4, 5, 6]))
def c46 : AFunc := ⟨36, [.tmp 2],
 .seq (.ops [o 1 (.box false (.t 0)), o 2 (.mv (cn))] [1])
 (.seq (.opsd [(0, 1), (1, 1), (2, 1), (3, 1), (4, 1), (5, 1), (6, 1), (7, 1), (8, 1), (9, 0), (10, 1), (11, 1)] [o 7 (.ld true 6 (.t 1)), o 8 (.fadr 1 (.t 1)), o 9 (.fadr 1 (.t 8)), o 10 (.ld false 1 (.t 9)), o 11 (.call true false 0 (.fn 43) [.t 7, .t 10]), o 12 (.ld true 6 (.t 1)), o 13 (.fadr 1 (.t 1)), o 14 (.fadr 0 (.t 13)), o 15 (.ld false 1 (.t 14)), o 16 (.call true false 0 (.fn 43) [.t 12, .t 15]), o 3 (.mv (.t 11)), o 4 (.mv (.t 16))] [3, 4])
 (.seq (.ops [o 5 (.nilown 2)] [3, 4, 5])
 (.seq (.seq (.ops [o 6 (.mv (ci 0))] [3, 4, 5, 6])
 (.block 0 (.loop false [3, 4, 5, 6] c46L0)))
 (.seq (.ops [o 35 (.mv (.t 5)), o 2 (.mv (.t 35))] [2])
 (.ret)))))⟩

/-- crumple/crumpleref04.Last -/
def c47L0 : ACode :=
 .seq (.seq (.ops [o 5 (.mv (.t 4)), o 6 (.fadr 5 (.t 1)), o 7 (.ld false 1 (.t 6)), o 8 (.bin .leq (.t 5) (.t 7))] [1, 3, 4, 8])
 (.cond (.t 8)
 (.skip)
 (.exit 0)))
 (.seq (.block 1 (.seq (.seq (.ops [o 11 (.ld true 6 (.t 1)), o 12 (.mv (.t 4)), o 13 (.call true true 0 (.fn 45) [.t 11, .t 12]), o 14 (.not (.t 13))] [1, 3, 4, 14])
 (.cond (.t 14)
 (.seq (.ops [o 15 (.mv (.t 3)), o 2 (.mv (.t 15))] [2])
 (.ret))
 (.skip)))
 (.ops [o 16 (.mv (.t 4)), o 3 (.mv (.t 16))] [1, 3, 4])))
 (.ops [o 9 (.mv (.t 4)), o 10 (.bin .add (.t 9) (ci 1)), o 4 (.mv (.t 10))] [1, 3, 4]))
def c47 : AFunc := ⟨18, [.tmp 2],
 .seq (.ops [o 1 (.box false (.t 0)), o 2 (.mv (ci 0))] [1])
 (.seq (.ops [o 3 (.mv (ci 0))] [1, 3])
 (.seq (.seq (.ops [o 4 (.mv (ci 0))] [1, 3, 4])
 (.block 0 (.loop false [1, 3, 4] c47L0)))
 (.seq (.ops [o 17 (.mv (.t 3)), o 2 (.mv (.t 17))] [2])
 (.ret))))⟩

/-- crumple/barrier.CheckTow -/
def c48 : AFunc := ⟨36, [.tmp 2],
 .seq (.ops [o 1 (.box false (.t 0)), o 2 (.mv (ci 0))] [1])
 (.seq (.seq (.opsd [(0, 1), (1, 1), (2, 1), (3, 1), (4, 1), (5, 1), (6, 1), (7, 1), (8, 1), (9, 0), (10, 0), (11, 0), (12, 1)] [o 4 (.fadr 0 (.t 1)), o 5 (.ld false 1 (.t 4)), o 6 (.len 1 (.t 5)), o 7 (.bin .eql (.t 6) (ci 0)), o 8 (.call true true 0 (.fn 107) [.t 7, ci 12]), o 9 (.fadr 0 (.t 1)), o 10 (.ld false 1 (.t 9)), o 11 (.len 1 (.t 10)), o 12 (.bin .gtr (.t 11) (ci 64)), o 13 (.call true true 0 (.fn 107) [.t 12, ci 5]), o 14 (.bslice false 1 [.p (.int .i64 0)] 2 [(0, .t 8), (1, .t 13)]), o 15 (.call true true 0 (.fn 98) [.t 14]), o 3 (.mv (.t 15))] [1, 3])
 (.seq (.ops [o 16 (.mv (.t 3)), o 17 (.bin .neq (.t 16) (ci 0))] [1, 3, 17])
 (.cond (.t 17)
 (.seq (.ops [o 18 (.mv (.t 3)), o 2 (.mv (.t 18))] [2])
 (.ret))
 (.skip))))
 (.seq (.opsd [(0, 1), (1, 1), (2, 1), (3, 1), (4, 1), (5, 1), (6, 1), (7, 1), (8, 1), (9, 1), (10, 1), (11, 1), (12, 1), (13, 1), (14, 0), (15, 0), (16, 0), (17, 1)] [o 19 (.fadr 0 (.t 1)), o 20 (.ld false 1 (.t 19)), o 21 (.call true true 0 (.fn 122) [.t 20, ci 0, ci 100000]), o 22 (.fadr 1 (.t 1)), o 23 (.ld true 2 (.t 22)), o 24 (.call true true 0 (.fn 109) [.t 23, ci 0, ci 100000]), o 25 (.fadr 3 (.t 1)), o 26 (.ld true 2 (.t 25)), o 27 (.call true true 0 (.fn 109) [.t 26, ci 0, ci 100000]), o 28 (.fadr 5 (.t 1)), o 29 (.ld false 1 (.t 28)), o 30 (.fadr 0 (.t 1)), o 31 (.ld false 1 (.t 30)), o 32 (.len 1 (.t 31)), o 33 (.call true true 0 (.fn 108) [.t 29, ci 1, .t 32]), o 34 (.bslice false 1 [.p (.int .i64 0)] 4 [(0, .t 21), (1, .t 24), (2, .t 27), (3, .t 33)]), o 35 (.call true true 0 (.fn 98) [.t 34]), o 2 (.mv (.t 35))] [2])
 (.ret)))⟩

/-- crumple/crumpleref01.SameInts -/
def c49L0 : ACode :=
 .seq (.seq (.ops [o 11 (.mv (.t 5)), o 12 (.mv (.t 0)), o 13 (.len 1 (.t 12)), o 14 (.bin .lss (.t 11) (.t 13))] [0, 1, 5, 14])
 (.cond (.t 14)
 (.skip)
 (.exit 0)))
 (.seq (.block 1 (.seq (.opsd [(0, 1), (1, 1), (2, 1), (3, 1), (4, 1), (5, 1), (6, 1), (7, 1), (8, 1)] [o 17 (.mv (.t 0)), o 18 (.mv (.t 5)), o 19 (.iadr 1 (.t 17) (.t 18)), o 20 (.ld false 1 (.t 19)), o 21 (.mv (.t 1)), o 22 (.mv (.t 5)), o 23 (.iadr 1 (.t 21) (.t 22)), o 24 (.ld false 1 (.t 23)), o 25 (.bin .neq (.t 20) (.t 24))] [0, 1, 5, 25])
 (.cond (.t 25)
 (.seq (.ops [o 4 (.mv (cb false))] [4])
 (.ret))
 (.skip))))
 (.ops [o 15 (.mv (.t 5)), o 16 (.bin .add (.t 15) (ci 1)), o 5 (.mv (.t 16))] [0, 1, 5]))
def c49 : AFunc := ⟨26, [.tmp 4],
 .seq (.ops [o 4 (.mv (cb false))] [0, 1])
 (.seq (.seq (.ops [o 6 (.mv (.t 0)), o 7 (.len 1 (.t 6)), o 8 (.mv (.t 1)), o 9 (.len 1 (.t 8)), o 10 (.bin .neq (.t 7) (.t 9))] [0, 1, 10])
 (.cond (.t 10)
 (.seq (.ops [o 4 (.mv (cb false))] [4])
 (.ret))
 (.skip)))
 (.seq (.seq (.ops [o 5 (.mv (ci 0))] [0, 1, 5])
 (.block 0 (.loop false [0, 1, 5] c49L0)))
 (.seq (.ops [o 4 (.mv (cb true))] [4])
 (.ret))))⟩

/-- crumple/barrier.Table -/
def c50 : AFunc := ⟨19, [.tmp 2, .tmp 3],
 .seq (.ops [o 1 (.box false (.t 0)), o 2 (.mv (cn)), o 3 (.mv (ci 0))] [1])
 (.seq (.seq (.ops [o 5 (.ld true 6 (.t 1)), o 6 (.call true true 0 (.fn 48) [.t 5]), o 4 (.mv (.t 6))] [1, 4])
 (.seq (.ops [o 7 (.mv (.t 4)), o 8 (.bin .neq (.t 7) (ci 0))] [1, 4, 8])
 (.cond (.t 8)
 (.seq (.ops [o 9 (.mv (.t 4)), o 2 (.mv (cn)), o 3 (.mv (.t 9))] [2, 3])
 (.ret))
 (.skip))))
 (.seq (.opsd [(0, 1), (1, 1), (2, 1), (3, 1), (4, 1), (5, 1), (6, 1), (7, 1), (8, 1), (9, 1), (10, 1)] [o 10 (.ld true 6 (.t 1)), o 11 (.fadr 1 (.t 1)), o 12 (.fadr 0 (.t 11)), o 13 (.ld false 1 (.t 12)), o 14 (.call true false 0 (.fn 116) [.t 10, .t 13]), o 15 (.fadr 5 (.t 1)), o 16 (.ld false 1 (.t 15)), o 17 (.bin .add (.t 16) (ci 1)), o 18 (.slc 1 (.t 14) none (some (.t 17))), o 2 (.mv (.t 18)), o 3 (.mv (ci 0))] [2, 3])
 (.ret)))⟩

/-- crumple/barrier.CheckTable -/
def c51L0 : ACode :=
 .seq (.ops [o 36 (.bin .lss (.t 35) (.t 34))] [1, 2, 3, 33, 34, 35, 36])
 (.seq (.cond (.t 36)
 (.skip)
 (.exit 0))
 (.seq (.block 1 (.seq (.ops [o 37 (.mv (.t 35)), o 38 (.iadr 1 (.t 33) (.t 35)), o 39 (.ld false 1 (.t 38)), o 9 (.mv (.t 37)), o 10 (.mv (.t 39))] [1, 2, 3, 9, 10, 33, 34, 35])
 (.seq (.opsd [(0, 1), (1, 1), (2, 1), (3, 1), (4, 1), (5, 1), (6, 1), (7, 1), (8, 1), (9, 1), (10, 1), (11, 1), (12, 1), (13, 1), (14, 1), (15, 1), (16, 1), (17, 1), (18, 1), (19, 1), (20, 1), (21, 1), (22, 1), (23, 1), (24, 1), (25, 1), (26, 1), (27, 1), (28, 1), (29, 1), (30, 1), (31, 1), (32, 1), (33, 1), (34, 1), (35, 1), (36, 1), (37, 1), (38, 1), (39, 1), (40, 1), (41, 1), (42, 1)] [o 40 (.mv (.t 9)), o 41 (.bin .gtr (.t 40) (ci 0)), o 42 (.mv (.t 41)), ⟨some 43, .mv (.t 10), some (42, true)⟩, ⟨some 44, .mv (.t 1), some (42, true)⟩, ⟨some 45, .mv (.t 9), some (42, true)⟩, ⟨some 46, .bin .sub (.t 45) (ci 1), some (42, true)⟩, ⟨some 47, .iadr 1 (.t 44) (.t 46), some (42, true)⟩, ⟨some 48, .ld false 1 (.t 47), some (42, true)⟩, ⟨some 49, .fadr 0 (.t 3), some (42, true)⟩, ⟨some 50, .ld false 1 (.t 49), some (42, true)⟩, ⟨some 51, .mv (.t 9), some (42, true)⟩, ⟨some 52, .bin .sub (.t 51) (ci 1), some (42, true)⟩, ⟨some 53, .iadr 1 (.t 50) (.t 52), some (42, true)⟩, ⟨some 54, .ld false 1 (.t 53), some (42, true)⟩, ⟨some 55, .bin .add (.t 48) (.t 54), some (42, true)⟩, ⟨some 56, .fadr 1 (.t 3), some (42, true)⟩, ⟨some 57, .fadr 0 (.t 56), some (42, true)⟩, ⟨some 58, .ld false 1 (.t 57), some (42, true)⟩, ⟨some 59, .bin .sub (.t 55) (.t 58), some (42, true)⟩, ⟨some 60, .bin .lss (.t 43) (.t 59), some (42, true)⟩, o 61 (.pick (.t 42) (.t 60) (cb false)), o 62 (.mv (.t 61)), ⟨some 63, .mv (.t 9), some (62, false)⟩, ⟨some 64, .mv (.t 2), some (62, false)⟩, ⟨some 65, .bin .leq (.t 63) (.t 64), some (62, false)⟩, ⟨some 66, .mv (.t 65), some (62, false)⟩, ⟨some 67, .mv (.t 10), some (66, true)⟩, ⟨some 68, .fadr 5 (.t 3), some (66, true)⟩, ⟨some 69, .ld false 1 (.t 68), some (66, true)⟩, ⟨some 70, .mv (.t 9), some (66, true)⟩, ⟨some 71, .bin .sub (.t 69) (.t 70), some (66, true)⟩, ⟨some 72, .fadr 3 (.t 3), some (66, true)⟩, ⟨some 73, .fadr 0 (.t 72), some (66, true)⟩, ⟨some 74, .ld false 1 (.t 73), some (66, true)⟩, ⟨some 75, .fadr 1 (.t 3), some (66, true)⟩, ⟨some 76, .fadr 0 (.t 75), some (66, true)⟩, ⟨some 77, .ld false 1 (.t 76), some (66, true)⟩, ⟨some 78, .bin .add (.t 74) (.t 77), some (66, true)⟩, ⟨some 79, .bin .mul (.t 71) (.t 78), some (66, true)⟩, ⟨some 80, .bin .gtr (.t 67) (.t 79), some (66, true)⟩, ⟨some 81, .pick (.t 66) (.t 80) (cb false), some (62, false)⟩, o 82 (.pick (.t 62) (cb true) (.t 81))] [1, 2, 3, 33, 34, 35, 82])
 (.cond (.t 82)
 (.seq (.ops [o 6 (.mv (ci 19))] [6])
 (.ret))
 (.skip)))))
 (.ops [o 83 (.bin .add (.t 35) (ci 1)), o 35 (.mv (.t 83))] [1, 2, 3, 33, 34, 35])))
def c51 : AFunc := ⟨84, [.tmp 6],
 .seq (.ops [o 3 (.box false (.t 0)), o 6 (.mv (ci 0))] [1, 2, 3])
 (.seq (.seq (.ops [o 11 (.ld true 6 (.t 3)), o 12 (.call true true 0 (.fn 48) [.t 11]), o 7 (.mv (.t 12))] [1, 2, 3, 7])
 (.seq (.ops [o 13 (.mv (.t 7)), o 14 (.bin .neq (.t 13) (ci 0))] [1, 2, 3, 7, 14])
 (.cond (.t 14)
 (.seq (.ops [o 15 (.mv (.t 7)), o 6 (.mv (.t 15))] [6])
 (.ret))
 (.skip))))
 (.seq (.seq (.opsd [(0, 1), (1, 1), (2, 1), (3, 1), (4, 1), (5, 1), (6, 1), (7, 1), (8, 1), (9, 1), (10, 1), (11, 0), (12, 0), (13, 0), (14, 1)] [o 16 (.mv (.t 1)), o 17 (.len 1 (.t 16)), o 18 (.fadr 5 (.t 3)), o 19 (.ld false 1 (.t 18)), o 20 (.bin .add (.t 19) (ci 1)), o 21 (.bin .neq (.t 17) (.t 20)), o 22 (.call true true 0 (.fn 107) [.t 21, ci 2]), o 23 (.mv (.t 1)), o 24 (.call true true 0 (.fn 122) [.t 23, ci 0, ci 100000000]), o 25 (.ld true 6 (.t 3)), o 26 (.mv (.t 2)), o 27 (.call true true 0 (.fn 117) [.t 25, .t 26]), o 28 (.bslice false 1 [.p (.int .i64 0)] 3 [(0, .t 22), (1, .t 24), (2, .t 27)]), o 29 (.call true true 0 (.fn 98) [.t 28]), o 8 (.mv (.t 29))] [1, 2, 3, 8])
 (.seq (.ops [o 30 (.mv (.t 8)), o 31 (.bin .neq (.t 30) (ci 0))] [1, 2, 3, 8, 31])
 (.cond (.t 31)
 (.seq (.ops [o 32 (.mv (.t 8)), o 6 (.mv (.t 32))] [6])
 (.ret))
 (.skip))))
 (.seq (.seq (.ops [o 33 (.mv (.t 1)), o 34 (.len 1 (.t 33)), o 35 (.mv (ci 0))] [1, 2, 3, 33, 34, 35])
 (.block 0 (.loop false [1, 2, 3, 33, 34, 35] c51L0)))
 (.seq (.ops [o 6 (.mv (ci 0))] [6])
 (.ret)))))⟩

/-- crumple/crumplelaw04.ints -/
def c52 : AFunc := ⟨6, [.tmp 2],
 .seq (.ops [o 2 (.nilown 1)] [0])
 (.seq (.ops [o 3 (.bslice true 1 [.p (.int .i64 0)] 0 []), o 4 (.mv (.t 0)), o 5 (.app 1 8 [.p (.int .i64 0)] (.t 3) (.t 4)), o 2 (.mv (.t 5))] [2])
 (.ret))⟩

/-- crumple/crumpleref04.Table -/
def c53 : AFunc := ⟨14, [.tmp 2],
 .seq (.ops [o 1 (.box false (.t 0)), o 2 (.mv (cn))] [1])
 (.seq (.ops [o 4 (.ld true 6 (.t 1)), o 5 (.fadr 1 (.t 1)), o 6 (.fadr 0 (.t 5)), o 7 (.ld false 1 (.t 6)), o 8 (.call true false 0 (.fn 43) [.t 4, .t 7]), o 3 (.mv (.t 8))] [1, 3])
 (.seq (.ops [o 9 (.mv (.t 3)), o 10 (.fadr 5 (.t 1)), o 11 (.ld false 1 (.t 10)), o 12 (.bin .add (.t 11) (ci 1)), o 13 (.slc 1 (.t 9) none (some (.t 12))), o 2 (.mv (.t 13))] [2])
 (.ret)))⟩

/-- crumple/crumpleref04.CheckTableForm -/
def c54 : AFunc := ⟨16, [.tmp 4],
 .seq (.ops [o 2 (.box false (.t 0)), o 4 (.mv (ci 0))] [1, 2])
 (.seq (.ops [o 5 (.mv (.t 1)), o 6 (.len 1 (.t 5)), o 7 (.fadr 5 (.t 2)), o 8 (.ld false 1 (.t 7)), o 9 (.bin .add (.t 8) (ci 1)), o 10 (.bin .neq (.t 6) (.t 9)), o 11 (.call true true 0 (.fn 55) [.t 10, ci 2]), o 12 (.mv (.t 1)), o 13 (.call true true 0 (.fn 121) [.t 12, ci 0, ci 100000000]), o 14 (.bslice false 1 [.p (.int .i64 0)] 2 [(0, .t 11), (1, .t 13)]), o 15 (.call true true 0 (.fn 101) [.t 14]), o 4 (.mv (.t 15))] [4])
 (.ret))⟩

/-- crumple/crumpleref01.When -/
def c55 : AFunc := ⟨7, [.tmp 4],
 .seq (.ops [o 4 (.mv (ci 0))] [0, 1])
 (.seq (.seq (.ops [o 5 (.mv (.t 0))] [1, 5])
 (.cond (.t 5)
 (.seq (.ops [o 6 (.mv (.t 1)), o 4 (.mv (.t 6))] [4])
 (.ret))
 (.skip)))
 (.seq (.ops [o 4 (.mv (ci 0))] [4])
 (.ret)))⟩

/-- crumple/crumpleref04.Proves -/
def c56L0 : ACode :=
 .seq (.seq (.ops [o 9 (.mv (.t 7)), o 10 (.mv (.t 1)), o 11 (.len 1 (.t 10)), o 12 (.bin .lss (.t 9) (.t 11))] [1, 2, 3, 7, 12])
 (.cond (.t 12)
 (.skip)
 (.exit 0)))
 (.seq (.block 1 (.seq (.opsd [(0, 1), (1, 1), (2, 1), (3, 1), (4, 1), (5, 1), (6, 1), (7, 1), (8, 1), (9, 1), (10, 1), (11, 1), (12, 1), (13, 1), (14, 1), (15, 1), (16, 1), (17, 1), (18, 1), (19, 1), (20, 1)] [o 15 (.mv (.t 1)), o 16 (.mv (.t 7)), o 17 (.iadr 1 (.t 15) (.t 16)), o 18 (.ld false 1 (.t 17)), o 19 (.mv (.t 1)), o 20 (.mv (.t 7)), o 21 (.bin .sub (.t 20) (ci 1)), o 22 (.iadr 1 (.t 19) (.t 21)), o 23 (.ld false 1 (.t 22)), o 24 (.fadr 0 (.t 3)), o 25 (.ld false 1 (.t 24)), o 26 (.mv (.t 7)), o 27 (.bin .sub (.t 26) (ci 1)), o 28 (.iadr 1 (.t 25) (.t 27)), o 29 (.ld false 1 (.t 28)), o 30 (.bin .add (.t 23) (.t 29)), o 31 (.fadr 1 (.t 3)), o 32 (.fadr 0 (.t 31)), o 33 (.ld false 1 (.t 32)), o 34 (.bin .sub (.t 30) (.t 33)), o 35 (.bin .lss (.t 18) (.t 34))] [1, 2, 3, 7, 35])
 (.cond (.t 35)
 (.seq (.ops [o 6 (.mv (cb false))] [6])
 (.ret))
 (.skip))))
 (.ops [o 13 (.mv (.t 7)), o 14 (.bin .add (.t 13) (ci 1)), o 7 (.mv (.t 14))] [1, 2, 3, 7]))
def c56L1 : ACode :=
 .seq (.seq (.ops [o 36 (.mv (.t 8)), o 37 (.mv (.t 2)), o 38 (.bin .leq (.t 36) (.t 37))] [1, 2, 3, 8, 38])
 (.cond (.t 38)
 (.skip)
 (.exit 2)))
 (.seq (.block 3 (.seq (.opsd [(0, 1), (1, 1), (2, 1), (3, 1), (4, 1), (5, 1), (6, 1), (7, 1), (8, 1), (9, 1), (10, 1), (11, 1), (12, 1), (13, 1), (14, 1), (15, 1), (16, 1)] [o 41 (.mv (.t 1)), o 42 (.mv (.t 8)), o 43 (.iadr 1 (.t 41) (.t 42)), o 44 (.ld false 1 (.t 43)), o 45 (.fadr 5 (.t 3)), o 46 (.ld false 1 (.t 45)), o 47 (.mv (.t 8)), o 48 (.bin .sub (.t 46) (.t 47)), o 49 (.fadr 3 (.t 3)), o 50 (.fadr 0 (.t 49)), o 51 (.ld false 1 (.t 50)), o 52 (.fadr 1 (.t 3)), o 53 (.fadr 0 (.t 52)), o 54 (.ld false 1 (.t 53)), o 55 (.bin .add (.t 51) (.t 54)), o 56 (.bin .mul (.t 48) (.t 55)), o 57 (.bin .gtr (.t 44) (.t 56))] [1, 2, 3, 8, 57])
 (.cond (.t 57)
 (.seq (.ops [o 6 (.mv (cb false))] [6])
 (.ret))
 (.skip))))
 (.ops [o 39 (.mv (.t 8)), o 40 (.bin .add (.t 39) (ci 1)), o 8 (.mv (.t 40))] [1, 2, 3, 8]))
def c56 : AFunc := ⟨58, [.tmp 6],
 .seq (.ops [o 3 (.box false (.t 0)), o 6 (.mv (cb false))] [1, 2, 3])
 (.seq (.seq (.ops [o 7 (.mv (ci 1))] [1, 2, 3, 7])
 (.block 0 (.loop false [1, 2, 3, 7] c56L0)))
 (.seq (.seq (.ops [o 8 (.mv (ci 0))] [1, 2, 3, 8])
 (.block 2 (.loop false [1, 2, 3, 8] c56L1)))
 (.seq (.ops [o 6 (.mv (cb true))] [6])
 (.ret))))⟩

/-- crumple/crumpleref04.ShortParts -/
def c57L0 : ACode :=
 .seq (.seq (.ops [o 4 (.mv (.t 3)), o 5 (.mv (.t 0)), o 6 (.len 1 (.t 5)), o 7 (.bin .lss (.t 4) (.t 6))] [0, 3, 7])
 (.cond (.t 7)
 (.skip)
 (.exit 0)))
 (.seq (.block 1 (.seq (.ops [o 10 (.mv (.t 0)), o 11 (.mv (.t 3)), o 12 (.iadr 7 (.t 10) (.t 11)), o 13 (.fadr 0 (.t 12)), o 14 (.ld false 1 (.t 13)), o 15 (.len 0 (.t 14)), o 16 (.bin .gtr (.t 15) (ci 40))] [0, 3, 16])
 (.cond (.t 16)
 (.seq (.ops [o 2 (.mv (cb false))] [2])
 (.ret))
 (.skip))))
 (.ops [o 8 (.mv (.t 3)), o 9 (.bin .add (.t 8) (ci 1)), o 3 (.mv (.t 9))] [0, 3]))
def c57 : AFunc := ⟨20, [.tmp 2],
 .seq (.ops [o 2 (.mv (cb false))] [0])
 (.seq (.seq (.ops [o 3 (.mv (ci 0))] [0, 3])
 (.block 0 (.loop false [0, 3] c57L0)))
 (.seq (.ops [o 17 (.mv (.t 0)), o 18 (.len 1 (.t 17)), o 19 (.bin .leq (.t 18) (ci 9)), o 2 (.mv (.t 19))] [2])
 (.ret)))⟩

/-- crumple/crumpleref04.ShortWall -/
def c58L0 : ACode :=
 .seq (.seq (.ops [o 4 (.mv (.t 3)), o 5 (.mv (.t 0)), o 6 (.len 1 (.t 5)), o 7 (.bin .lss (.t 4) (.t 6))] [0, 3, 7])
 (.cond (.t 7)
 (.skip)
 (.exit 0)))
 (.seq (.block 1 (.seq (.ops [o 10 (.mv (.t 0)), o 11 (.mv (.t 3)), o 12 (.iadr 6 (.t 10) (.t 11)), o 13 (.fadr 0 (.t 12)), o 14 (.ld false 1 (.t 13)), o 15 (.len 0 (.t 14)), o 16 (.bin .gtr (.t 15) (ci 40)), o 17 (.mv (.t 16)), ⟨some 18, .mv (.t 0), some (17, false)⟩, ⟨some 19, .mv (.t 3), some (17, false)⟩, ⟨some 20, .iadr 6 (.t 18) (.t 19), some (17, false)⟩, ⟨some 21, .fadr 5 (.t 20), some (17, false)⟩, ⟨some 22, .ld false 1 (.t 21), some (17, false)⟩, ⟨some 23, .len 1 (.t 22), some (17, false)⟩, ⟨some 24, .bin .gtr (.t 23) (ci 10), some (17, false)⟩, ⟨some 25, .mv (.t 24), some (17, false)⟩, ⟨some 26, .mv (.t 0), some (25, true)⟩, ⟨some 27, .mv (.t 3), some (25, true)⟩, ⟨some 28, .iadr 6 (.t 26) (.t 27), some (25, true)⟩, ⟨some 29, .fadr 5 (.t 28), some (25, true)⟩, ⟨some 30, .ld false 1 (.t 29), some (25, true)⟩, ⟨some 31, .len 1 (.t 30), some (25, true)⟩, ⟨some 32, .bin .neq (.t 31) (ci 65), some (25, true)⟩, ⟨some 33, .pick (.t 25) (.t 32) (cb false), some (17, false)⟩, o 34 (.pick (.t 17) (cb true) (.t 33))] [0, 3, 34])
 (.cond (.t 34)
 (.seq (.ops [o 2 (.mv (cb false))] [2])
 (.ret))
 (.skip))))
 (.ops [o 8 (.mv (.t 3)), o 9 (.bin .add (.t 8) (ci 1)), o 3 (.mv (.t 9))] [0, 3]))
def c58 : AFunc := ⟨43, [.tmp 2],
 .seq (.ops [o 2 (.mv (cb false))] [0])
 (.seq (.seq (.ops [o 3 (.mv (ci 0))] [0, 3])
 (.block 0 (.loop false [0, 3] c58L0)))
 (.seq (.ops [o 35 (.mv (.t 0)), o 36 (.len 1 (.t 35)), o 37 (.bin .leq (.t 36) (ci 6)), o 38 (.mv (.t 37)), ⟨some 39, .mv (.t 0), some (38, false)⟩, ⟨some 40, .len 1 (.t 39), some (38, false)⟩, ⟨some 41, .bin .eql (.t 40) (ci 17), some (38, false)⟩, o 42 (.pick (.t 38) (cb true) (.t 41)), o 2 (.mv (.t 42))] [2])
 (.ret)))⟩

/-- crumple/barrier.Momentum -/
def c59 : AFunc := ⟨20, [.cell 2 true 2, .cell 3 true 2, .tmp 4],
 .seq (.ops [o 2 (.alloc true 1 [.p (.int .i64 0), .p (.int .i64 0)]), o 3 (.alloc true 1 [.p (.int .i64 0), .p (.int .i64 0)]), o 4 (.mv (ci 0))] [0, 2, 3])
 (.seq (.seq (.ops [o 7 (.mv (.t 0)), o 8 (.call false true 0 (.fn 71) [.t 7]), o 5 (.mv (.t 8))] [0, 2, 3, 5])
 (.seq (.ops [o 9 (.mv (.t 5)), o 10 (.bin .neq (.t 9) (ci 0))] [0, 2, 3, 5, 10])
 (.cond (.t 10)
 (.seq (.ops [o 11 (.build [.p (.int .i64 0), .p (.int .i64 0)] []), o 12 (.build [.p (.int .i64 0), .p (.int .i64 0)] []), o 13 (.mv (.t 5)), u (.st 2 (.t 2) (.t 11)), u (.st 2 (.t 3) (.t 12)), o 4 (.mv (.t 13))] [2, 3, 4])
 (.ret))
 (.skip))))
 (.seq (.ops [o 14 (.mv (.t 0)), o 15 (.call true true 0 (.fn 123) [.t 14]), o 6 (.alloc true 2 [.p (.int .i64 0), .p (.int .i64 0), .p (.int .i64 0), .p (.int .i64 0)]), u (.st 4 (.t 6) (.t 15))] [2, 3, 6])
 (.seq (.opsd [(0, 1), (1, 1), (2, 18), (3, 18), (4, 3), (5, 0), (6, 1)] [o 16 (.iadra 2 2 (.t 6) (ci 0)), o 17 (.ld true 2 (.t 16)), o 18 (.iadra 2 2 (.t 6) (ci 1)), o 19 (.ld true 2 (.t 18)), u (.st 2 (.t 2) (.t 17)), u (.st 2 (.t 3) (.t 19)), o 4 (.mv (ci 0))] [2, 3, 4])
 (.ret))))⟩

/-- crumple/crumplelaw04.parts -/
def c60L0 : ACode :=
 .seq (.ops [o 9 (.bin .lss (.t 8) (.t 7))] [3, 6, 7, 8, 9])
 (.seq (.cond (.t 9)
 (.skip)
 (.exit 0))
 (.seq (.block 1 (.seq (.ops [o 10 (.iadr 7 (.t 6) (.t 8)), o 11 (.ld true 7 (.t 10)), o 5 (.alloc true 1 [.p (.str []), .p (.int .i64 0), .p (.int .i64 0), .p (.int .i64 0), .p (.int .i64 0), .p (.int .i64 0), .p (.int .i64 0)]), u (.st 7 (.t 5) (.t 11))] [3, 5, 6, 7, 8])
 (.ops [o 12 (.mv (.t 3)), o 13 (.ld true 7 (.t 5)), o 14 (.bslice false 7 [.p (.str []), .p (.int .i64 0), .p (.int .i64 0), .p (.int .i64 0), .p (.int .i64 0), .p (.int .i64 0), .p (.int .i64 0)] 1 [(0, .t 13)]), o 15 (.app 7 64 [.p (.str []), .p (.int .i64 0), .p (.int .i64 0), .p (.int .i64 0), .p (.int .i64 0), .p (.int .i64 0), .p (.int .i64 0)] (.t 12) (.t 14)), o 3 (.mv (.t 15))] [3, 6, 7, 8])))
 (.ops [o 16 (.bin .add (.t 8) (ci 1)), o 8 (.mv (.t 16))] [3, 6, 7, 8])))
def c60 : AFunc := ⟨18, [.tmp 2],
 .seq (.ops [o 2 (.mv (cn))] [0])
 (.seq (.ops [o 3 (.nilown 7)] [0, 3])
 (.seq (.seq (.ops [o 6 (.mv (.t 0)), o 7 (.len 1 (.t 6)), o 8 (.mv (ci 0))] [3, 6, 7, 8])
 (.block 0 (.loop true [3, 6, 7, 8] c60L0)))
 (.seq (.ops [o 17 (.mv (.t 3)), o 2 (.mv (.t 17))] [2])
 (.ret))))⟩

/-- crumple/barrier.Change -/
def c61 : AFunc := ⟨13, [.cell 2 true 2, .tmp 3],
 .seq (.ops [o 2 (.alloc true 1 [.p (.int .i64 0), .p (.int .i64 0)]), o 3 (.mv (ci 0))] [0, 2])
 (.seq (.seq (.ops [o 5 (.mv (.t 0)), o 6 (.call false true 0 (.fn 71) [.t 5]), o 4 (.mv (.t 6))] [0, 2, 4])
 (.seq (.ops [o 7 (.mv (.t 4)), o 8 (.bin .neq (.t 7) (ci 0))] [0, 2, 4, 8])
 (.cond (.t 8)
 (.seq (.ops [o 9 (.build [.p (.int .i64 0), .p (.int .i64 0)] []), o 10 (.mv (.t 4)), u (.st 2 (.t 2) (.t 9)), o 3 (.mv (.t 10))] [2, 3])
 (.ret))
 (.skip))))
 (.seq (.ops [o 11 (.mv (.t 0)), o 12 (.call true true 0 (.fn 124) [.t 11]), u (.st 2 (.t 2) (.t 12)), o 3 (.mv (ci 0))] [2, 3])
 (.ret)))⟩

/-- crumple/barrier.Balanced -/
def c62 : AFunc := ⟨19, [.tmp 4, .tmp 5],
 .seq (.ops [o 4 (.mv (cb false)), o 5 (.mv (ci 0))] [0, 1])
 (.seq (.seq (.ops [o 7 (.mv (.t 0)), o 8 (.mv (.t 1)), o 9 (.call false true 0 (.fn 125) [.t 7, .t 8]), o 6 (.mv (.t 9))] [0, 1, 6])
 (.seq (.ops [o 10 (.mv (.t 6)), o 11 (.bin .neq (.t 10) (ci 0))] [0, 1, 6, 11])
 (.cond (.t 11)
 (.seq (.ops [o 12 (.mv (.t 6)), o 4 (.mv (cb false)), o 5 (.mv (.t 12))] [4, 5])
 (.ret))
 (.skip))))
 (.seq (.ops [o 13 (.mv (.t 0)), o 14 (.call true true 0 (.fn 126) [.t 13]), o 15 (.mv (.t 1)), o 16 (.call true false 0 (.fn 128) [.t 15, cf 129]), o 17 (.call true true 0 (.fn 127) [.t 16]), o 18 (.call true true 0 (.fn 112) [.t 14, .t 17]), o 4 (.mv (.t 18)), o 5 (.mv (ci 0))] [4, 5])
 (.ret)))⟩

/-- crumple/crumplelaw04.loads -/
def c63L0 : ACode :=
 .seq (.ops [o 9 (.bin .lss (.t 8) (.t 7))] [3, 6, 7, 8, 9])
 (.seq (.cond (.t 9)
 (.skip)
 (.exit 0))
 (.seq (.block 1 (.seq (.ops [o 10 (.iadr 6 (.t 6) (.t 8)), o 11 (.ld true 6 (.t 10)), o 5 (.alloc false 1 [.p (.str []), .p (.int .i64 0), .p (.int .i64 0), .p (.int .i64 0), .p (.int .i64 0), .p (.nils)]), u (.st 6 (.t 5) (.t 11))] [3, 5, 6, 7, 8])
 (.ops [o 12 (.mv (.t 3)), o 13 (.ld true 6 (.t 5)), o 14 (.call true false 0 (.fn 92) [.t 13]), o 15 (.bslice false 6 [.p (.str []), .p (.int .i64 0), .p (.int .i64 0), .p (.int .i64 0), .p (.int .i64 0), .p (.nils)] 1 [(0, .t 14)]), o 16 (.app 6 72 [.p (.str []), .p (.int .i64 0), .p (.int .i64 0), .p (.int .i64 0), .p (.int .i64 0), .p (.nils)] (.t 12) (.t 15)), o 3 (.mv (.t 16))] [3, 6, 7, 8])))
 (.ops [o 17 (.bin .add (.t 8) (ci 1)), o 8 (.mv (.t 17))] [3, 6, 7, 8])))
def c63 : AFunc := ⟨19, [.tmp 2],
 .seq (.ops [o 2 (.mv (cn))] [0])
 (.seq (.ops [o 3 (.nilown 6)] [0, 3])
 (.seq (.seq (.ops [o 6 (.mv (.t 0)), o 7 (.len 1 (.t 6)), o 8 (.mv (ci 0))] [3, 6, 7, 8])
 (.block 0 (.loop true [3, 6, 7, 8] c63L0)))
 (.seq (.ops [o 18 (.mv (.t 3)), o 2 (.mv (.t 18))] [2])
 (.ret))))⟩

/-- crumple/barrier.Explaining -/
def c64L0 : ACode :=
 .seq (.ops [o 30 (.bin .lss (.t 29) (.t 28))] [7, 8, 9, 27, 28, 29, 30])
 (.seq (.cond (.t 30)
 (.skip)
 (.exit 0))
 (.seq (.block 1 (.seq (.ops [o 31 (.mv (.t 29)), o 32 (.iadr 6 (.t 27) (.t 29)), o 33 (.ld true 6 (.t 32)), o 11 (.alloc false 1 [.p (.str []), .p (.int .i64 0), .p (.int .i64 0), .p (.int .i64 0), .p (.int .i64 0), .p (.nils)]), o 10 (.mv (.t 31)), u (.st 6 (.t 11) (.t 33))] [7, 8, 9, 10, 11, 27, 28, 29])
 (.seq (.ops [o 34 (.mv (.t 7)), o 35 (.len 1 (.t 34)), o 36 (.mkslice 2 [.p (.int .i64 0), .p (.int .i64 0)] (.t 35) (.t 35)), o 12 (.mv (.t 36))] [7, 8, 9, 10, 11, 12, 27, 28, 29])
 (.seq (.ops [o 37 (.mv (.t 12)), o 38 (.mv (.t 7)), o 39 (.copy 2 (.t 37) (.t 38))] [7, 8, 9, 10, 11, 12, 27, 28, 29])
 (.seq (.ops [o 40 (.mv (.t 12)), o 41 (.mv (.t 10)), o 42 (.ld true 6 (.t 11)), o 43 (.call true true 0 (.fn 130) [.t 42]), o 44 (.iadr 2 (.t 40) (.t 41)), u (.st 2 (.t 44) (.t 43))] [7, 8, 9, 11, 12, 27, 28, 29])
 (.seq (.opsd [(0, 1), (1, 1), (2, 1), (3, 0)] [o 45 (.ld true 2 (.t 8)), o 46 (.mv (.t 12)), o 47 (.call true true 0 (.fn 127) [.t 46]), o 48 (.call true true 0 (.fn 112) [.t 45, .t 47])] [7, 8, 9, 11, 27, 28, 29, 48])
 (.cond (.t 48)
 (.ops [o 49 (.mv (.t 9)), o 50 (.fadr 0 (.t 11)), o 51 (.ld false 1 (.t 50)), o 52 (.bslice false 1 [.p (.str [])] 1 [(0, .t 51)]), o 53 (.app 1 16 [.p (.str [])] (.t 49) (.t 52)), o 9 (.mv (.t 53))] [7, 8, 9, 27, 28, 29])
 (.skip))))))))
 (.ops [o 54 (.bin .add (.t 29) (ci 1)), o 29 (.mv (.t 54))] [7, 8, 9, 27, 28, 29])))
def c64 : AFunc := ⟨56, [.tmp 4, .tmp 5],
 .seq (.ops [o 4 (.mv (cn)), o 5 (.mv (ci 0))] [0, 1])
 (.seq (.seq (.ops [o 13 (.mv (.t 0)), o 14 (.mv (.t 1)), o 15 (.call false true 0 (.fn 125) [.t 13, .t 14]), o 6 (.mv (.t 15))] [0, 1, 6])
 (.seq (.ops [o 16 (.mv (.t 6)), o 17 (.bin .neq (.t 16) (ci 0))] [0, 1, 6, 17])
 (.cond (.t 17)
 (.seq (.ops [o 18 (.mv (.t 6)), o 4 (.mv (cn)), o 5 (.mv (.t 18))] [4, 5])
 (.ret))
 (.skip))))
 (.seq (.ops [o 19 (.mv (.t 1)), o 20 (.call true false 0 (.fn 128) [.t 19, cf 129]), o 7 (.mv (.t 20))] [0, 1, 7])
 (.seq (.ops [o 21 (.mv (.t 0)), o 22 (.call true true 0 (.fn 126) [.t 21]), o 8 (.alloc true 1 [.p (.int .i64 0), .p (.int .i64 0)]), u (.st 2 (.t 8) (.t 22))] [1, 7, 8])
 (.seq (.seq (.opsd [(0, 1), (1, 1), (2, 1), (3, 0)] [o 23 (.ld true 2 (.t 8)), o 24 (.mv (.t 7)), o 25 (.call true true 0 (.fn 127) [.t 24]), o 26 (.call true true 0 (.fn 112) [.t 23, .t 25])] [1, 7, 8, 26])
 (.cond (.t 26)
 (.seq (.ops [o 4 (.mv (cn)), o 5 (.mv (ci 21))] [4, 5])
 (.ret))
 (.skip)))
 (.seq (.ops [o 9 (.nilown 1)] [1, 7, 8, 9])
 (.seq (.seq (.ops [o 27 (.mv (.t 1)), o 28 (.len 1 (.t 27)), o 29 (.mv (ci 0))] [7, 8, 9, 27, 28, 29])
 (.block 0 (.loop true [7, 8, 9, 27, 28, 29] c64L0)))
 (.seq (.ops [o 55 (.mv (.t 9)), o 4 (.mv (.t 55)), o 5 (.mv (ci 0))] [4, 5])
 (.ret))))))))⟩

/-- crumple/crumpleref04.CheckParts -/
def c65L0 : ACode :=
 .seq (.seq (.ops [o 21 (.mv (.t 5)), o 22 (.mv (.t 0)), o 23 (.len 1 (.t 22)), o 24 (.bin .lss (.t 21) (.t 23))] [0, 4, 5, 24])
 (.cond (.t 24)
 (.skip)
 (.exit 0)))
 (.seq (.block 1 (.seq (.ops [o 27 (.mv (.t 0)), o 28 (.mv (.t 5)), o 29 (.iadr 7 (.t 27) (.t 28)), o 30 (.ld true 7 (.t 29)), o 6 (.alloc true 1 [.p (.str []), .p (.int .i64 0), .p (.int .i64 0), .p (.int .i64 0), .p (.int .i64 0), .p (.int .i64 0), .p (.int .i64 0)]), u (.st 7 (.t 6) (.t 30))] [0, 4, 5, 6])
 (.seq (.seq (.opsd [(0, 1), (1, 1), (2, 1), (3, 1), (4, 1), (5, 1), (6, 1), (7, 1), (8, 1), (9, 1), (10, 1), (11, 1), (12, 1), (13, 1), (14, 1), (15, 1), (16, 0), (17, 0), (18, 0), (19, 1)] [o 31 (.fadr 0 (.t 6)), o 32 (.ld false 1 (.t 31)), o 33 (.call true true 0 (.fn 113) [.t 32]), o 34 (.mv (.t 4)), o 35 (.fadr 0 (.t 6)), o 36 (.ld false 1 (.t 35)), o 37 (.call true true 0 (.fn 93) [.t 34, .t 36]), o 38 (.call true true 0 (.fn 55) [.t 37, ci 9]), o 39 (.fadr 1 (.t 6)), o 40 (.ld true 2 (.t 39)), o 41 (.call true true 0 (.fn 103) [.t 40, ci 1, ci 10000000]), o 42 (.fadr 3 (.t 6)), o 43 (.ld true 2 (.t 42)), o 44 (.call true true 0 (.fn 103) [.t 43, ci (-100000), ci 100000]), o 45 (.fadr 5 (.t 6)), o 46 (.ld true 2 (.t 45)), o 47 (.call true true 0 (.fn 103) [.t 46, ci (-100000), ci 100000]), o 48 (.bslice false 1 [.p (.int .i64 0)] 5 [(0, .t 33), (1, .t 38), (2, .t 41), (3, .t 44), (4, .t 47)]), o 49 (.call true true 0 (.fn 101) [.t 48]), o 7 (.mv (.t 49))] [0, 4, 5, 6, 7])
 (.seq (.ops [o 50 (.mv (.t 7)), o 51 (.bin .neq (.t 50) (ci 0))] [0, 4, 5, 6, 7, 51])
 (.cond (.t 51)
 (.seq (.ops [o 52 (.mv (.t 7)), o 2 (.mv (.t 52))] [2])
 (.ret))
 (.skip))))
 (.ops [o 53 (.mv (.t 4)), o 54 (.fadr 0 (.t 6)), o 55 (.ld false 1 (.t 54)), o 56 (.bslice false 1 [.p (.str [])] 1 [(0, .t 55)]), o 57 (.app 1 16 [.p (.str [])] (.t 53) (.t 56)), o 4 (.mv (.t 57))] [0, 4, 5]))))
 (.ops [o 25 (.mv (.t 5)), o 26 (.bin .add (.t 25) (ci 1)), o 5 (.mv (.t 26))] [0, 4, 5]))
def c65 : AFunc := ⟨58, [.tmp 2],
 .seq (.ops [o 2 (.mv (ci 0))] [0])
 (.seq (.seq (.ops [o 8 (.mv (.t 0)), o 9 (.len 1 (.t 8)), o 10 (.bin .eql (.t 9) (ci 0)), o 11 (.call true true 0 (.fn 55) [.t 10, ci 12]), o 12 (.mv (.t 0)), o 13 (.len 1 (.t 12)), o 14 (.bin .gtr (.t 13) (ci 8)), o 15 (.call true true 0 (.fn 55) [.t 14, ci 5]), o 16 (.bslice false 1 [.p (.int .i64 0)] 2 [(0, .t 11), (1, .t 15)]), o 17 (.call true true 0 (.fn 101) [.t 16]), o 3 (.mv (.t 17))] [0, 3])
 (.seq (.ops [o 18 (.mv (.t 3)), o 19 (.bin .neq (.t 18) (ci 0))] [0, 3, 19])
 (.cond (.t 19)
 (.seq (.ops [o 20 (.mv (.t 3)), o 2 (.mv (.t 20))] [2])
 (.ret))
 (.skip))))
 (.seq (.ops [o 4 (.nilown 1)] [0, 4])
 (.seq (.seq (.ops [o 5 (.mv (ci 0))] [0, 4, 5])
 (.block 0 (.loop true [0, 4, 5] c65L0)))
 (.seq (.ops [o 2 (.mv (ci 0))] [2])
 (.ret)))))⟩

/-- crumple/crumpleref04.CheckWall -/
def c66L0 : ACode :=
 .seq (.seq (.ops [o 22 (.mv (.t 5)), o 23 (.mv (.t 0)), o 24 (.len 1 (.t 23)), o 25 (.bin .lss (.t 22) (.t 24))] [0, 4, 5, 25])
 (.cond (.t 25)
 (.skip)
 (.exit 0)))
 (.seq (.block 1 (.seq (.ops [o 28 (.mv (.t 0)), o 29 (.mv (.t 5)), o 30 (.iadr 6 (.t 28) (.t 29)), o 31 (.ld true 6 (.t 30)), o 6 (.alloc false 1 [.p (.str []), .p (.int .i64 0), .p (.int .i64 0), .p (.int .i64 0), .p (.int .i64 0), .p (.nils)]), u (.st 6 (.t 6) (.t 31))] [0, 4, 5, 6])
 (.seq (.seq (.opsd [(0, 1), (1, 1), (2, 1), (3, 1), (4, 1), (5, 1), (6, 1), (7, 1), (8, 1), (9, 1), (10, 1), (11, 1), (12, 1), (13, 1), (14, 1), (15, 1), (16, 1), (17, 1), (18, 1), (19, 1), (20, 1), (21, 1), (22, 1), (23, 1), (24, 1), (25, 1), (26, 1), (27, 1), (28, 1), (29, 1), (30, 1), (31, 1), (32, 1), (33, 1), (34, 1), (35, 1), (36, 1), (37, 1), (38, 1), (39, 1), (40, 1), (41, 0), (42, 0), (43, 0), (44, 1)] [o 32 (.fadr 0 (.t 6)), o 33 (.ld false 1 (.t 32)), o 34 (.call true true 0 (.fn 113) [.t 33]), o 35 (.mv (.t 4)), o 36 (.fadr 0 (.t 6)), o 37 (.ld false 1 (.t 36)), o 38 (.call true true 0 (.fn 93) [.t 35, .t 37]), o 39 (.call true true 0 (.fn 55) [.t 38, ci 9]), o 40 (.fadr 1 (.t 6)), o 41 (.fadr 0 (.t 40)), o 42 (.ld false 1 (.t 41)), o 43 (.call true true 0 (.fn 102) [.t 42, ci 0, ci 1000000]), o 44 (.fadr 1 (.t 6)), o 45 (.fadr 1 (.t 44)), o 46 (.ld false 1 (.t 45)), o 47 (.call true true 0 (.fn 102) [.t 46, ci 0, ci 1000000]), o 48 (.fadr 3 (.t 6)), o 49 (.ld false 1 (.t 48)), o 50 (.call true true 0 (.fn 102) [.t 49, ci 1, ci 1000000]), o 51 (.fadr 4 (.t 6)), o 52 (.ld false 1 (.t 51)), o 53 (.call true true 0 (.fn 102) [.t 52, ci 0, ci 1000000]), o 54 (.fadr 5 (.t 6)), o 55 (.ld false 1 (.t 54)), o 56 (.len 1 (.t 55)), o 57 (.bin .eql (.t 56) (ci 0)), o 58 (.call true true 0 (.fn 55) [.t 57, ci 12]), o 59 (.fadr 5 (.t 6)), o 60 (.ld false 1 (.t 59)), o 61 (.len 1 (.t 60)), o 62 (.bin .gtr (.t 61) (ci 64)), o 63 (.call true true 0 (.fn 55) [.t 62, ci 5]), o 64 (.fadr 5 (.t 6)), o 65 (.ld false 1 (.t 64)), o 66 (.len 1 (.t 65)), o 67 (.mv (.t 0)), o 68 (.iadr 6 (.t 67) (ci 0)), o 69 (.fadr 5 (.t 68)), o 70 (.ld false 1 (.t 69)), o 71 (.len 1 (.t 70)), o 72 (.bin .neq (.t 66) (.t 71)), o 73 (.call true true 0 (.fn 55) [.t 72, ci 2]), o 74 (.bslice false 1 [.p (.int .i64 0)] 9 [(0, .t 34), (1, .t 39), (2, .t 43), (3, .t 47), (4, .t 50), (5, .t 53), (6, .t 58), (7, .t 63), (8, .t 73)]), o 75 (.call true true 0 (.fn 101) [.t 74]), o 7 (.mv (.t 75))] [0, 4, 5, 6, 7])
 (.seq (.ops [o 76 (.mv (.t 7)), o 77 (.bin .neq (.t 76) (ci 0))] [0, 4, 5, 6, 7, 77])
 (.cond (.t 77)
 (.seq (.ops [o 78 (.mv (.t 7)), o 2 (.mv (.t 78))] [2])
 (.ret))
 (.skip))))
 (.seq (.seq (.ops [o 79 (.fadr 5 (.t 6)), o 80 (.ld false 1 (.t 79)), o 81 (.fadr 3 (.t 6)), o 82 (.ld false 1 (.t 81)), o 83 (.bin .sub (ci 0) (.t 82)), o 84 (.fadr 3 (.t 6)), o 85 (.ld false 1 (.t 84)), o 86 (.call true true 0 (.fn 121) [.t 80, .t 83, .t 85]), o 8 (.mv (.t 86))] [0, 4, 5, 6, 8])
 (.seq (.ops [o 87 (.mv (.t 8)), o 88 (.bin .neq (.t 87) (ci 0))] [0, 4, 5, 6, 8, 88])
 (.cond (.t 88)
 (.seq (.ops [o 89 (.mv (.t 8)), o 2 (.mv (.t 89))] [2])
 (.ret))
 (.skip))))
 (.ops [o 90 (.mv (.t 4)), o 91 (.fadr 0 (.t 6)), o 92 (.ld false 1 (.t 91)), o 93 (.bslice false 1 [.p (.str [])] 1 [(0, .t 92)]), o 94 (.app 1 16 [.p (.str [])] (.t 90) (.t 93)), o 4 (.mv (.t 94))] [0, 4, 5])))))
 (.ops [o 26 (.mv (.t 5)), o 27 (.bin .add (.t 26) (ci 1)), o 5 (.mv (.t 27))] [0, 4, 5]))
def c66 : AFunc := ⟨95, [.tmp 2],
 .seq (.ops [o 2 (.mv (ci 0))] [0])
 (.seq (.seq (.ops [o 9 (.mv (.t 0)), o 10 (.len 1 (.t 9)), o 11 (.bin .eql (.t 10) (ci 0)), o 12 (.call true true 0 (.fn 55) [.t 11, ci 12]), o 13 (.mv (.t 0)), o 14 (.len 1 (.t 13)), o 15 (.bin .gtr (.t 14) (ci 16)), o 16 (.call true true 0 (.fn 55) [.t 15, ci 5]), o 17 (.bslice false 1 [.p (.int .i64 0)] 2 [(0, .t 12), (1, .t 16)]), o 18 (.call true true 0 (.fn 101) [.t 17]), o 3 (.mv (.t 18))] [0, 3])
 (.seq (.ops [o 19 (.mv (.t 3)), o 20 (.bin .neq (.t 19) (ci 0))] [0, 3, 20])
 (.cond (.t 20)
 (.seq (.ops [o 21 (.mv (.t 3)), o 2 (.mv (.t 21))] [2])
 (.ret))
 (.skip))))
 (.seq (.ops [o 4 (.nilown 1)] [0, 4])
 (.seq (.seq (.ops [o 5 (.mv (ci 0))] [0, 4, 5])
 (.block 0 (.loop true [0, 4, 5] c66L0)))
 (.seq (.ops [o 2 (.mv (ci 0))] [2])
 (.ret)))))⟩

/-- crumple/crumpleref04.Momentum -/
def c67L0 : ACode :=
 .seq (.seq (.ops [o 9 (.mv (.t 6)), o 10 (.mv (.t 0)), o 11 (.len 1 (.t 10)), o 12 (.bin .lss (.t 9) (.t 11))] [0, 2, 3, 4, 5, 6, 12])
 (.cond (.t 12)
 (.skip)
 (.exit 0)))
 (.seq (.block 1 (.seq (.opsd [(0, 1), (1, 1), (2, 5), (3, 5), (4, 1), (5, 1), (6, 1), (7, 1), (8, 1), (9, 1), (10, 1), (11, 1), (12, 1), (13, 5), (14, 5), (15, 1), (16, 1), (17, 1), (18, 1), (19, 1), (20, 1), (21, 1), (22, 2), (23, 2), (24, 0), (25, 0)] [o 15 (.mv (.t 0)), o 16 (.mv (.t 6)), o 17 (.iadr 7 (.t 15) (.t 16)), o 18 (.fadr 1 (.t 17)), o 19 (.ld true 2 (.t 18)), o 20 (.mv (.t 0)), o 21 (.mv (.t 6)), o 22 (.iadr 7 (.t 20) (.t 21)), o 23 (.fadr 3 (.t 22)), o 24 (.ld true 2 (.t 23)), o 25 (.call true true 0 (.fn 131) [.t 19, .t 24]), o 26 (.mv (.t 0)), o 27 (.mv (.t 6)), o 28 (.iadr 7 (.t 26) (.t 27)), o 29 (.fadr 1 (.t 28)), o 30 (.ld true 2 (.t 29)), o 31 (.mv (.t 0)), o 32 (.mv (.t 6)), o 33 (.iadr 7 (.t 31) (.t 32)), o 34 (.fadr 5 (.t 33)), o 35 (.ld true 2 (.t 34)), o 36 (.call true true 0 (.fn 131) [.t 30, .t 35]), o 7 (.allocr 0 true 1 [.p (.int .i64 0), .p (.int .i64 0)]), o 8 (.allocr 1 true 1 [.p (.int .i64 0), .p (.int .i64 0)]), u (.st 2 (.t 7) (.t 25)), u (.st 2 (.t 8) (.t 36))] [0, 2, 3, 4, 5, 6, 7, 8])
 (.seq (.ops [o 37 (.fadr 0 (.t 4)), o 38 (.ld false 1 (.t 37)), o 39 (.fadr 0 (.t 7)), o 40 (.ld false 1 (.t 39)), o 41 (.bin .add (.t 38) (.t 40)), o 42 (.fadr 1 (.t 4)), o 43 (.ld false 1 (.t 42)), o 44 (.fadr 1 (.t 7)), o 45 (.ld false 1 (.t 44)), o 46 (.bin .add (.t 43) (.t 45)), o 47 (.build [.p (.int .i64 0), .p (.int .i64 0)] [(0, 1, .t 41), (1, 1, .t 46)]), u (.st 2 (.t 4) (.t 47))] [0, 2, 3, 4, 5, 6, 8])
 (.ops [o 48 (.fadr 0 (.t 5)), o 49 (.ld false 1 (.t 48)), o 50 (.fadr 0 (.t 8)), o 51 (.ld false 1 (.t 50)), o 52 (.bin .add (.t 49) (.t 51)), o 53 (.fadr 1 (.t 5)), o 54 (.ld false 1 (.t 53)), o 55 (.fadr 1 (.t 8)), o 56 (.ld false 1 (.t 55)), o 57 (.bin .add (.t 54) (.t 56)), o 58 (.build [.p (.int .i64 0), .p (.int .i64 0)] [(0, 1, .t 52), (1, 1, .t 57)]), u (.st 2 (.t 5) (.t 58))] [0, 2, 3, 4, 5, 6]))))
 (.ops [o 13 (.mv (.t 6)), o 14 (.bin .add (.t 13) (ci 1)), o 6 (.mv (.t 14))] [0, 2, 3, 4, 5, 6]))
def c67 : AFunc := ⟨61, [.cell 2 true 2, .cell 3 true 2],
 .seq (.ops [o 2 (.alloc true 1 [.p (.int .i64 0), .p (.int .i64 0)]), o 3 (.alloc true 1 [.p (.int .i64 0), .p (.int .i64 0)])] [0, 2, 3])
 (.seq (.ops [o 4 (.alloc true 1 [.p (.int .i64 0), .p (.int .i64 0)]), o 5 (.alloc true 1 [.p (.int .i64 0), .p (.int .i64 0)])] [0, 2, 3, 4, 5])
 (.seq (.seq (.ops [o 6 (.mv (ci 0))] [0, 2, 3, 4, 5, 6])
 (.block 0 (.loop true [0, 2, 3, 4, 5, 6] c67L0)))
 (.seq (.opsd [(0, 1), (1, 18), (2, 3), (3, 0)] [o 59 (.ld true 2 (.t 4)), o 60 (.ld true 2 (.t 5)), u (.st 2 (.t 2) (.t 59)), u (.st 2 (.t 3) (.t 60))] [2, 3])
 (.ret))))⟩

/-- crumple/crumpleref04.Change -/
def c68 : AFunc := ⟨21, [.cell 2 true 2],
 .seq (.ops [o 2 (.alloc true 1 [.p (.int .i64 0), .p (.int .i64 0)])] [0, 2])
 (.seq (.ops [o 6 (.mv (.t 0)), o 7 (.call true true 0 (.fn 67) [.t 6]), o 5 (.mv (.t 7)), o 8 (.ext (.t 5) 0), o 9 (.ext (.t 5) 1), o 3 (.alloc true 1 [.p (.int .i64 0), .p (.int .i64 0)]), o 4 (.alloc true 1 [.p (.int .i64 0), .p (.int .i64 0)]), u (.st 2 (.t 3) (.t 8)), u (.st 2 (.t 4) (.t 9))] [2, 3, 4])
 (.seq (.ops [o 10 (.fadr 0 (.t 4)), o 11 (.ld false 1 (.t 10)), o 12 (.fadr 1 (.t 3)), o 13 (.ld false 1 (.t 12)), o 14 (.bin .sub (.t 11) (.t 13)), o 15 (.fadr 1 (.t 4)), o 16 (.ld false 1 (.t 15)), o 17 (.fadr 0 (.t 3)), o 18 (.ld false 1 (.t 17)), o 19 (.bin .sub (.t 16) (.t 18)), o 20 (.build [.p (.int .i64 0), .p (.int .i64 0)] [(0, 1, .t 14), (1, 1, .t 19)]), u (.st 2 (.t 2) (.t 20))] [2])
 (.ret)))⟩

/-- crumple/crumpleref04.Balanced -/
def c69 : AFunc := ⟨10, [.tmp 4],
 .seq (.ops [o 4 (.mv (cb false))] [0, 1])
 (.seq (.ops [o 5 (.mv (.t 0)), o 6 (.call true true 0 (.fn 68) [.t 5]), o 7 (.mv (.t 1)), o 8 (.call true true 0 (.fn 77) [.t 7]), o 9 (.call true true 0 (.fn 132) [.t 6, .t 8]), o 4 (.mv (.t 9))] [4])
 (.ret))⟩

/-- crumple/crumpleref04.Explaining -/
def c70L0 : ACode :=
 .seq (.seq (.ops [o 14 (.mv (.t 7)), o 15 (.mv (.t 1)), o 16 (.len 1 (.t 15)), o 17 (.bin .lss (.t 14) (.t 16))] [0, 1, 6, 7, 17])
 (.cond (.t 17)
 (.skip)
 (.exit 0)))
 (.seq (.block 1 (.seq (.opsd [(0, 1), (1, 1), (2, 1), (3, 1), (4, 5), (5, 5), (6, 1), (7, 2), (8, 2), (9, 0), (10, 0)] [o 20 (.mv (.t 1)), o 21 (.call true true 0 (.fn 77) [.t 20]), o 22 (.mv (.t 1)), o 23 (.mv (.t 7)), o 24 (.iadr 6 (.t 22) (.t 23)), o 25 (.ld true 6 (.t 24)), o 26 (.call true true 0 (.fn 133) [.t 25]), o 8 (.allocr 0 true 1 [.p (.int .i64 0), .p (.int .i64 0)]), o 9 (.allocr 1 true 1 [.p (.int .i64 0), .p (.int .i64 0)]), u (.st 2 (.t 8) (.t 21)), u (.st 2 (.t 9) (.t 26))] [0, 1, 6, 7, 8, 9])
 (.seq (.opsd [(0, 1), (1, 1), (2, 1), (3, 1), (4, 1), (5, 1), (6, 1), (7, 1), (8, 1), (9, 1), (10, 1), (11, 1), (12, 1), (13, 1)] [o 27 (.mv (.t 1)), o 28 (.mv (.t 7)), o 29 (.iadr 6 (.t 27) (.t 28)), o 30 (.fadr 3 (.t 29)), o 31 (.ld false 1 (.t 30)), o 32 (.bin .mul (ci 100) (.t 31)), o 33 (.mv (.t 1)), o 34 (.mv (.t 7)), o 35 (.iadr 6 (.t 33) (.t 34)), o 36 (.fadr 5 (.t 35)), o 37 (.ld false 1 (.t 36)), o 38 (.len 1 (.t 37)), o 39 (.bin .mul (.t 32) (.t 38)), o 10 (.mv (.t 39))] [0, 1, 6, 7, 8, 9, 10])
 (.seq (.opsd [(0, 1), (1, 1), (2, 1), (3, 1), (4, 1), (5, 1), (6, 1), (7, 1), (8, 1), (9, 1), (10, 1), (11, 1), (12, 1), (13, 1), (14, 1), (15, 1), (16, 1), (17, 0)] [o 40 (.mv (.t 0)), o 41 (.call true true 0 (.fn 68) [.t 40]), o 42 (.fadr 0 (.t 8)), o 43 (.ld false 1 (.t 42)), o 44 (.fadr 0 (.t 9)), o 45 (.ld false 1 (.t 44)), o 46 (.bin .sub (.t 43) (.t 45)), o 47 (.mv (.t 10)), o 48 (.bin .sub (.t 46) (.t 47)), o 49 (.fadr 1 (.t 8)), o 50 (.ld false 1 (.t 49)), o 51 (.fadr 1 (.t 9)), o 52 (.ld false 1 (.t 51)), o 53 (.bin .sub (.t 50) (.t 52)), o 54 (.mv (.t 10)), o 55 (.bin .add (.t 53) (.t 54)), o 56 (.build [.p (.int .i64 0), .p (.int .i64 0)] [(0, 1, .t 48), (1, 1, .t 55)]), o 57 (.call true true 0 (.fn 132) [.t 41, .t 56])] [0, 1, 6, 7, 57])
 (.cond (.t 57)
 (.ops [o 58 (.mv (.t 6)), o 59 (.mv (.t 1)), o 60 (.mv (.t 7)), o 61 (.iadr 6 (.t 59) (.t 60)), o 62 (.fadr 0 (.t 61)), o 63 (.ld false 1 (.t 62)), o 64 (.bslice false 1 [.p (.str [])] 1 [(0, .t 63)]), o 65 (.app 1 16 [.p (.str [])] (.t 58) (.t 64)), o 6 (.mv (.t 65))] [0, 1, 6, 7])
 (.skip))))))
 (.ops [o 18 (.mv (.t 7)), o 19 (.bin .add (.t 18) (ci 1)), o 7 (.mv (.t 19))] [0, 1, 6, 7]))
def c70 : AFunc := ⟨67, [.tmp 4, .tmp 5],
 .seq (.ops [o 4 (.mv (cn)), o 5 (.mv (ci 0))] [0, 1])
 (.seq (.seq (.ops [o 11 (.mv (.t 0)), o 12 (.mv (.t 1)), o 13 (.call true true 0 (.fn 69) [.t 11, .t 12])] [0, 1, 13])
 (.cond (.t 13)
 (.seq (.ops [o 4 (.mv (cn)), o 5 (.mv (ci 21))] [4, 5])
 (.ret))
 (.skip)))
 (.seq (.ops [o 6 (.nilown 1)] [0, 1, 6])
 (.seq (.seq (.ops [o 7 (.mv (ci 0))] [0, 1, 6, 7])
 (.block 0 (.loop true [0, 1, 6, 7] c70L0)))
 (.seq (.ops [o 66 (.mv (.t 6)), o 4 (.mv (.t 66)), o 5 (.mv (ci 0))] [4, 5])
 (.ret)))))⟩

/-- crumple/barrier.CheckParts -/
def c71L0 : ACode :=
 .seq (.ops [o 26 (.bin .lss (.t 25) (.t 24))] [5, 23, 24, 25, 26])
 (.seq (.cond (.t 26)
 (.skip)
 (.exit 0))
 (.seq (.block 1 (.seq (.ops [o 27 (.iadr 7 (.t 23) (.t 25)), o 28 (.ld true 7 (.t 27)), o 7 (.alloc true 1 [.p (.str []), .p (.int .i64 0), .p (.int .i64 0), .p (.int .i64 0), .p (.int .i64 0), .p (.int .i64 0), .p (.int .i64 0)]), u (.st 7 (.t 7) (.t 28))] [5, 7, 23, 24, 25])
 (.seq (.opsd [(0, 1), (1, 1), (2, 1), (4, 391), (5, 391), (7, 391), (8, 391), (10, 391), (11, 391), (3, 392), (6, 1), (9, 1), (12, 0), (13, 0), (14, 0), (15, 1)] [o 29 (.mv (.t 5)), o 30 (.fadr 0 (.t 7)), o 31 (.ld false 1 (.t 30)), o 33 (.fadr 1 (.t 7)), o 34 (.ld true 2 (.t 33)), o 36 (.fadr 3 (.t 7)), o 37 (.ld true 2 (.t 36)), o 39 (.fadr 5 (.t 7)), o 40 (.ld true 2 (.t 39)), o 32 (.call false true 0 (.val (.t 29)) [.t 31]), o 35 (.call true true 0 (.fn 109) [.t 34, ci 1, ci 10000000]), o 38 (.call true true 0 (.fn 109) [.t 37, ci (-100000), ci 100000]), o 41 (.call true true 0 (.fn 109) [.t 40, ci (-100000), ci 100000]), o 42 (.bslice false 1 [.p (.int .i64 0)] 4 [(0, .t 32), (1, .t 35), (2, .t 38), (3, .t 41)]), o 43 (.call true true 0 (.fn 98) [.t 42]), o 8 (.mv (.t 43))] [5, 8, 23, 24, 25])
 (.seq (.ops [o 44 (.mv (.t 8)), o 45 (.bin .neq (.t 44) (ci 0))] [5, 8, 23, 24, 25, 45])
 (.cond (.t 45)
 (.seq (.ops [o 46 (.mv (.t 8)), o 2 (.mv (.t 46))] [2])
 (.ret))
 (.skip))))))
 (.ops [o 47 (.bin .add (.t 25) (ci 1)), o 25 (.mv (.t 47))] [5, 23, 24, 25])))
def c71 : AFunc := ⟨48, [.tmp 2],
 .seq (.ops [o 2 (.mv (ci 0))] [0])
 (.seq (.seq (.ops [o 9 (.mv (.t 0)), o 10 (.len 1 (.t 9)), o 11 (.bin .eql (.t 10) (ci 0)), o 12 (.call true true 0 (.fn 107) [.t 11, ci 12]), o 13 (.mv (.t 0)), o 14 (.len 1 (.t 13)), o 15 (.bin .gtr (.t 14) (ci 8)), o 16 (.call true true 0 (.fn 107) [.t 15, ci 5]), o 17 (.bslice false 1 [.p (.int .i64 0)] 2 [(0, .t 12), (1, .t 16)]), o 18 (.call true true 0 (.fn 98) [.t 17]), o 3 (.mv (.t 18))] [0, 3])
 (.seq (.ops [o 19 (.mv (.t 3)), o 20 (.bin .neq (.t 19) (ci 0))] [0, 3, 20])
 (.cond (.t 20)
 (.seq (.ops [o 21 (.mv (.t 3)), o 2 (.mv (.t 21))] [2])
 (.ret))
 (.skip))))
 (.seq (.ops [o 4 (.alloc false 1 [.p (.nilm)])] [0, 4])
 (.seq (.ops [o 22 (.mkclo 110 [.t 4] []), o 5 (.mv (.t 22))] [0, 5])
 (.seq (.seq (.ops [o 23 (.mv (.t 0)), o 24 (.len 1 (.t 23)), o 25 (.mv (ci 0))] [5, 23, 24, 25])
 (.block 0 (.loop true [5, 23, 24, 25] c71L0)))
 (.seq (.ops [o 2 (.mv (ci 0))] [2])
 (.ret))))))⟩

/-- crumple/barrier.Impulse -/
def c72 : AFunc := ⟨14, [.cell 2 true 2, .tmp 3],
 .seq (.ops [o 2 (.alloc true 1 [.p (.int .i64 0), .p (.int .i64 0)]), o 3 (.mv (ci 0))] [0, 2])
 (.seq (.seq (.ops [o 5 (.mv (.t 0)), o 6 (.call true true 0 (.fn 82) [.t 5]), o 4 (.mv (.t 6))] [0, 2, 4])
 (.seq (.ops [o 7 (.mv (.t 4)), o 8 (.bin .neq (.t 7) (ci 0))] [0, 2, 4, 8])
 (.cond (.t 8)
 (.seq (.ops [o 9 (.build [.p (.int .i64 0), .p (.int .i64 0)] []), o 10 (.mv (.t 4)), u (.st 2 (.t 2) (.t 9)), o 3 (.mv (.t 10))] [2, 3])
 (.ret))
 (.skip))))
 (.seq (.ops [o 11 (.mv (.t 0)), o 12 (.call true false 0 (.fn 128) [.t 11, cf 129]), o 13 (.call true true 0 (.fn 127) [.t 12]), u (.st 2 (.t 2) (.t 13)), o 3 (.mv (ci 0))] [2, 3])
 (.ret)))⟩

/-- crumple/barrier.Peak -/
def c73 : AFunc := ⟨21, [.tmp 2, .tmp 3, .tmp 4],
 .seq (.ops [o 2 (.mv (ci 0)), o 3 (.mv (ci 0)), o 4 (.mv (ci 0))] [0])
 (.seq (.seq (.ops [o 8 (.mv (.t 0)), o 9 (.call true true 0 (.fn 82) [.t 8]), o 5 (.mv (.t 9))] [0, 5])
 (.seq (.ops [o 10 (.mv (.t 5)), o 11 (.bin .neq (.t 10) (ci 0))] [0, 5, 11])
 (.cond (.t 11)
 (.seq (.ops [o 12 (.mv (.t 5)), o 2 (.mv (ci 0)), o 3 (.mv (ci 0)), o 4 (.mv (.t 12))] [2, 3, 4])
 (.ret))
 (.skip))))
 (.seq (.ops [o 13 (.mv (.t 0)), o 14 (.call true false 0 (.fn 134) [.t 13]), o 6 (.mv (.t 14))] [6])
 (.seq (.ops [o 15 (.mv (.t 6)), o 16 (.call true true 0 (.fn 135) [.t 15]), o 7 (.mv (.t 16))] [6, 7])
 (.seq (.ops [o 17 (.mv (.t 7)), o 18 (.mv (.t 6)), o 19 (.mv (.t 7)), o 20 (.call true true 0 (.fn 136) [.t 18, .t 19]), o 2 (.mv (.t 17)), o 3 (.mv (.t 20)), o 4 (.mv (ci 0))] [2, 3, 4])
 (.ret)))))⟩

/-- crumple/barrier.Centre -/
def c74L0 : ACode :=
 .seq (.ops [o 44 (.bin .lss (.t 43) (ci 2))] [0, 3, 4, 5, 8, 9, 42, 43, 44])
 (.seq (.cond (.t 44)
 (.skip)
 (.exit 0))
 (.seq (.block 1 (.seq (.ops [o 45 (.mv (.t 43)), o 46 (.idx true 1 2 (.t 42) (.t 43)), o 11 (.alloc false 1 [.p (.nilf)]), o 10 (.mv (.t 45)), u (.st 1 (.t 11) (.t 46))] [0, 3, 4, 5, 8, 9, 10, 11, 42, 43])
 (.seq (.ops [o 47 (.mv (.t 0)), o 48 (.mkclo 139 [] [.t 11, .t 3]), o 49 (.call true false 0 (.fn 138) [.t 47, .t 48]), o 50 (.call true true 0 (.fn 137) [.t 49]), o 12 (.mv (.t 50))] [0, 3, 4, 5, 8, 9, 10, 12, 42, 43])
 (.seq (.ops [o 51 (.mv (.t 10)), o 52 (.mv (.t 12)), o 53 (.mv (.t 8)), o 54 (.call true true 0 (.fn 100) [.t 52, .t 53]), o 55 (.iadra 2 2 (.t 9) (.t 51)), u (.st 2 (.t 55) (.t 54))] [0, 3, 4, 5, 8, 9, 10, 42, 43])
 (.seq (.ops [o 56 (.mv (.t 10)), o 57 (.iadra 2 2 (.t 9) (.t 56)), o 58 (.ld true 2 (.t 57)), o 59 (.call true true 0 (.fn 140) [.t 58])] [0, 3, 4, 5, 8, 9, 42, 43, 59])
 (.cond (.t 59)
 (.seq (.ops [o 60 (.build [.p (.int .i64 0), .p (.int .i64 0)] []), o 61 (.build [.p (.int .i64 0), .p (.int .i64 0)] []), u (.st 2 (.t 4) (.t 60)), u (.st 2 (.t 5) (.t 61)), o 6 (.mv (ci 4))] [4, 5, 6])
 (.ret))
 (.skip)))))))
 (.ops [o 62 (.bin .add (.t 43) (ci 1)), o 43 (.mv (.t 62))] [0, 3, 4, 5, 8, 9, 42, 43])))
def c74 : AFunc := ⟨67, [.cell 4 true 2, .cell 5 true 2, .tmp 6],
 .seq (.ops [o 3 (.box true (.t 1)), o 4 (.alloc true 1 [.p (.int .i64 0), .p (.int .i64 0)]), o 5 (.alloc true 1 [.p (.int .i64 0), .p (.int .i64 0)]), o 6 (.mv (ci 0))] [0, 3, 4, 5])
 (.seq (.seq (.ops [o 13 (.mv (.t 0)), o 14 (.call true true 0 (.fn 82) [.t 13]), o 7 (.mv (.t 14))] [0, 3, 4, 5, 7])
 (.seq (.ops [o 15 (.mv (.t 7)), o 16 (.bin .neq (.t 15) (ci 0))] [0, 3, 4, 5, 7, 16])
 (.cond (.t 16)
 (.seq (.ops [o 17 (.build [.p (.int .i64 0), .p (.int .i64 0)] []), o 18 (.build [.p (.int .i64 0), .p (.int .i64 0)] []), o 19 (.mv (.t 7)), u (.st 2 (.t 4) (.t 17)), u (.st 2 (.t 5) (.t 18)), o 6 (.mv (.t 19))] [4, 5, 6])
 (.ret))
 (.skip))))
 (.seq (.seq (.opsd [(0, 1), (1, 1), (2, 1), (3, 1), (4, 1), (5, 1), (6, 1), (7, 1), (8, 1), (9, 1), (10, 1)] [o 20 (.ld false 1 (.t 3)), o 21 (.bin .lss (.t 20) (ci 0)), o 22 (.mv (.t 21)), ⟨some 23, .ld false 1 (.t 3), some (22, false)⟩, ⟨some 24, .mv (.t 0), some (22, false)⟩, ⟨some 25, .iadr 6 (.t 24) (ci 0), some (22, false)⟩, ⟨some 26, .fadr 5 (.t 25), some (22, false)⟩, ⟨some 27, .ld false 1 (.t 26), some (22, false)⟩, ⟨some 28, .len 1 (.t 27), some (22, false)⟩, ⟨some 29, .bin .geq (.t 23) (.t 28), some (22, false)⟩, o 30 (.pick (.t 22) (cb true) (.t 29))] [0, 3, 4, 5, 30])
 (.cond (.t 30)
 (.seq (.ops [o 31 (.build [.p (.int .i64 0), .p (.int .i64 0)] []), o 32 (.build [.p (.int .i64 0), .p (.int .i64 0)] []), u (.st 2 (.t 4) (.t 31)), u (.st 2 (.t 5) (.t 32)), o 6 (.mv (ci 10))] [4, 5, 6])
 (.ret))
 (.skip)))
 (.seq (.opsd [(0, 1), (1, 1), (2, 1), (3, 1), (4, 1), (5, 1)] [o 33 (.mv (.t 0)), o 34 (.call true false 0 (.fn 134) [.t 33]), o 35 (.ld false 1 (.t 3)), o 36 (.iadr 1 (.t 34) (.t 35)), o 37 (.ld false 1 (.t 36)), o 8 (.mv (.t 37))] [0, 3, 4, 5, 8])
 (.seq (.seq (.ops [o 38 (.mv (.t 8)), o 39 (.bin .eql (.t 38) (ci 0))] [0, 3, 4, 5, 8, 39])
 (.cond (.t 39)
 (.seq (.ops [o 40 (.build [.p (.int .i64 0), .p (.int .i64 0)] []), o 41 (.build [.p (.int .i64 0), .p (.int .i64 0)] []), u (.st 2 (.t 4) (.t 40)), u (.st 2 (.t 5) (.t 41)), o 6 (.mv (ci 6))] [4, 5, 6])
 (.ret))
 (.skip)))
 (.seq (.ops [o 9 (.alloc true 2 [.p (.int .i64 0), .p (.int .i64 0), .p (.int .i64 0), .p (.int .i64 0)])] [0, 3, 4, 5, 8, 9])
 (.seq (.seq (.ops [o 42 (.ld true 2 (.g 0)), o 43 (.mv (ci 0))] [0, 3, 4, 5, 8, 9, 42, 43])
 (.block 0 (.loop true [0, 3, 4, 5, 8, 9, 42, 43] c74L0)))
 (.seq (.opsd [(0, 1), (1, 1), (2, 54), (3, 54), (4, 3), (5, 0), (6, 1)] [o 63 (.iadra 2 2 (.t 9) (ci 0)), o 64 (.ld true 2 (.t 63)), o 65 (.iadra 2 2 (.t 9) (ci 1)), o 66 (.ld true 2 (.t 65)), u (.st 2 (.t 4) (.t 64)), u (.st 2 (.t 5) (.t 66)), o 6 (.mv (ci 0))] [4, 5, 6])
 (.ret))))))))⟩

/-- crumple/barrier.Crush -/
def c75L0 : ACode :=
 .seq (.seq (.ops [o 35 (.mv (.t 8)), o 36 (.mv (.t 1)), o 37 (.len 1 (.t 36)), o 38 (.bin .lss (.t 35) (.t 37))] [0, 1, 7, 8, 38])
 (.cond (.t 38)
 (.skip)
 (.exit 0)))
 (.seq (.block 1 (.opsd [(0, 1), (1, 1), (2, 1), (3, 1), (4, 1), (5, 1), (6, 1), (7, 1), (8, 1), (9, 1), (10, 1), (11, 1), (12, 1), (13, 1), (14, 1), (15, 1), (16, 1), (17, 1), (18, 1), (19, 1), (20, 1), (21, 1), (22, 1), (23, 1)] [o 41 (.mv (.t 7)), o 42 (.mv (.t 0)), o 43 (.mv (.t 8)), o 44 (.bin .sub (.t 43) (ci 1)), o 45 (.iadr 1 (.t 42) (.t 44)), o 46 (.ld false 1 (.t 45)), o 47 (.mv (.t 0)), o 48 (.mv (.t 8)), o 49 (.iadr 1 (.t 47) (.t 48)), o 50 (.ld false 1 (.t 49)), o 51 (.bin .add (.t 46) (.t 50)), o 52 (.mv (.t 1)), o 53 (.mv (.t 8)), o 54 (.iadr 1 (.t 52) (.t 53)), o 55 (.ld false 1 (.t 54)), o 56 (.mv (.t 1)), o 57 (.mv (.t 8)), o 58 (.bin .sub (.t 57) (ci 1)), o 59 (.iadr 1 (.t 56) (.t 58)), o 60 (.ld false 1 (.t 59)), o 61 (.bin .sub (.t 55) (.t 60)), o 62 (.bin .mul (.t 51) (.t 61)), o 63 (.bin .add (.t 41) (.t 62)), o 7 (.mv (.t 63))] [0, 1, 7, 8]))
 (.ops [o 39 (.mv (.t 8)), o 40 (.bin .add (.t 39) (ci 1)), o 8 (.mv (.t 40))] [0, 1, 7, 8]))
def c75 : AFunc := ⟨65, [.tmp 4, .tmp 5],
 .seq (.ops [o 4 (.mv (ci 0)), o 5 (.mv (ci 0))] [0, 1])
 (.seq (.seq (.ops [o 9 (.mv (.t 0)), o 10 (.len 1 (.t 9)), o 11 (.bin .eql (.t 10) (ci 0)), o 12 (.call true true 0 (.fn 107) [.t 11, ci 12]), o 13 (.mv (.t 0)), o 14 (.len 1 (.t 13)), o 15 (.bin .gtr (.t 14) (ci 64)), o 16 (.call true true 0 (.fn 107) [.t 15, ci 5]), o 17 (.mv (.t 0)), o 18 (.call true true 0 (.fn 122) [.t 17, ci (-1000000), ci 1000000]), o 19 (.mv (.t 1)), o 20 (.len 1 (.t 19)), o 21 (.mv (.t 0)), o 22 (.len 1 (.t 21)), o 23 (.bin .neq (.t 20) (.t 22)), o 24 (.call true true 0 (.fn 107) [.t 23, ci 2]), o 25 (.mv (.t 1)), o 26 (.call true true 0 (.fn 122) [.t 25, ci 0, ci 1000000]), o 27 (.bslice false 1 [.p (.int .i64 0)] 5 [(0, .t 12), (1, .t 16), (2, .t 18), (3, .t 24), (4, .t 26)]), o 28 (.call true true 0 (.fn 98) [.t 27]), o 6 (.mv (.t 28))] [0, 1, 6])
 (.seq (.ops [o 29 (.mv (.t 6)), o 30 (.bin .neq (.t 29) (ci 0))] [0, 1, 6, 30])
 (.cond (.t 30)
 (.seq (.ops [o 31 (.mv (.t 6)), o 4 (.mv (ci 0)), o 5 (.mv (.t 31))] [4, 5])
 (.ret))
 (.skip))))
 (.seq (.seq (.ops [o 32 (.mv (.t 1)), o 33 (.call true true 0 (.fn 141) [.t 32]), o 34 (.not (.t 33))] [0, 1, 34])
 (.cond (.t 34)
 (.seq (.ops [o 4 (.mv (ci 0)), o 5 (.mv (ci 11))] [4, 5])
 (.ret))
 (.skip)))
 (.seq (.ops [o 7 (.mv (ci 0))] [0, 1, 7])
 (.seq (.seq (.ops [o 8 (.mv (ci 1))] [0, 1, 7, 8])
 (.block 0 (.loop false [0, 1, 7, 8] c75L0)))
 (.seq (.ops [o 64 (.mv (.t 7)), o 4 (.mv (.t 64)), o 5 (.mv (ci 0))] [4, 5])
 (.ret))))))⟩

end Fw
