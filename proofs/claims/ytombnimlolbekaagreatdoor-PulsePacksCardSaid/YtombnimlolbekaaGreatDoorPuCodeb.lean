/- The functions of the program, written for the evaluator, second part: definitions alone. -/
import Derived.Test.YtombnimlolbekaaGreatDoorPuCode
namespace Fw
open Go
/-- crumple/crumplelaw08.to -/
def c73 : AFunc := ⟨8, [.cell 4 true 2],
 .seq (.ops [o 4 (.alloc true 1 [.p (.int .i64 0), .p (.int .i64 0)])] [0, 1, 4])
 (.seq (.ops [o 5 (.mv (.t 0)), o 6 (.mv (.t 1)), o 7 (.build [.p (.int .i64 0), .p (.int .i64 0)] [(0, 1, .t 5), (1, 1, .t 6)]), u (.st 2 (.t 4) (.t 7))] [4])
 (.ret))⟩

/-- crumple/crumpleref01.Split -/
def c74L0 : ACode :=
 .seq (.seq (.ops [o 8 (.mv (.t 7)), o 9 (.mv (.t 0)), o 10 (.len 0 (.t 9)), o 11 (.bin .lss (.t 8) (.t 10))] [0, 1, 5, 6, 7, 11])
 (.cond (.t 11)
 (.skip)
 (.exit 0)))
 (.seq (.block 1 (.seq (.ops [o 14 (.mv (.t 0)), o 15 (.mv (.t 7)), o 16 (.idxs (.t 14) (.t 15)), o 17 (.mv (.t 1)), o 18 (.bin .eql (.t 16) (.t 17))] [0, 1, 5, 6, 7, 18])
 (.cond (.t 18)
 (.seq (.ops [o 19 (.mv (.t 5)), o 20 (.mv (.t 0)), o 21 (.mv (.t 6)), o 22 (.mv (.t 7)), o 23 (.slcs (.t 20) (some (.t 21)) (some (.t 22))),
 o 24 (.bslice false 1 [.p (.str [])] 1 [(0, .t 23)]), o 25 (.app 1 16 [.p (.str [])] (.t 19) (.t 24)), o 5 (.mv (.t 25))] [0, 1, 5, 7])
 (.ops [o 26 (.mv (.t 7)), o 27 (.bin .add (.t 26) (ci 1)), o 6 (.mv (.t 27))] [0, 1, 5, 6, 7]))
 (.skip))))
 (.ops [o 12 (.mv (.t 7)), o 13 (.bin .add (.t 12) (ci 1)), o 7 (.mv (.t 13))] [0, 1, 5, 6, 7]))
def c74 : AFunc := ⟨34, [.tmp 4],
 .seq (.ops [o 4 (.mv (cn))] [0, 1])
 (.seq (.ops [o 5 (.nilown 1)] [0, 1, 5])
 (.seq (.ops [o 6 (.mv (ci 0))] [0, 1, 5, 6])
 (.seq (.seq (.ops [o 7 (.mv (ci 0))] [0, 1, 5, 6, 7])
 (.block 0 (.loop false [0, 1, 5, 6, 7] c74L0)))
 (.seq (.ops [o 28 (.mv (.t 5)), o 29 (.mv (.t 0)), o 30 (.mv (.t 6)), o 31 (.slcs (.t 29) (some (.t 30)) none), o 32 (.bslice false 1 [.p (.str [])] 1 [(0, .t 31)]),
 o 33 (.app 1 16 [.p (.str [])] (.t 28) (.t 32)), o 4 (.mv (.t 33))] [4])
 (.ret)))))⟩

/-- crumple/crumpleref08.ShortPacks -/
def c75L0 : ACode :=
 .seq (.seq (.ops [o 4 (.mv (.t 3)), o 5 (.mv (.t 0)), o 6 (.len 1 (.t 5)), o 7 (.bin .lss (.t 4) (.t 6))] [0, 3, 7])
 (.cond (.t 7)
 (.skip)
 (.exit 0)))
 (.seq (.block 1 (.seq (.ops [o 10 (.mv (.t 0)), o 11 (.mv (.t 3)), o 12 (.iadr 4 (.t 10) (.t 11)), o 13 (.fadr 0 (.t 12)), o 14 (.ld false 1 (.t 13)),
 o 15 (.len 0 (.t 14)), o 16 (.bin .gtr (.t 15) (ci 40))] [0, 3, 16])
 (.cond (.t 16)
 (.seq (.ops [o 2 (.mv (cb false))] [2])
 (.ret))
 (.skip))))
 (.ops [o 8 (.mv (.t 3)), o 9 (.bin .add (.t 8) (ci 1)), o 3 (.mv (.t 9))] [0, 3]))
def c75 : AFunc := ⟨25, [.tmp 2],
 .seq (.ops [o 2 (.mv (cb false))] [0])
 (.seq (.seq (.ops [o 3 (.mv (ci 0))] [0, 3])
 (.block 0 (.loop false [0, 3] c75L0)))
 (.seq (.ops [o 17 (.mv (.t 0)), o 18 (.len 1 (.t 17)), o 19 (.bin .leq (.t 18) (ci 6)), o 20 (.mv (.t 19)), ⟨some 21, .mv (.t 0), some (20, false)⟩,
 ⟨some 22, .len 1 (.t 21), some (20, false)⟩, ⟨some 23, .bin .eql (.t 22) (ci 9), some (20, false)⟩, o 24 (.pick (.t 20) (cb true) (.t 23)), o 2 (.mv (.t 24))] [2])
 (.ret)))⟩

/-- crumple/pulse.Fits -/
def c76L0 : ACode :=
 .seq (.ops [o 27 (.bin .lss (.t 26) (.t 25))] [0, 5, 9, 24, 25, 26, 27])
 (.seq (.cond (.t 27)
 (.skip)
 (.exit 0))
 (.seq (.block 1 (.seq (.ops [o 28 (.iadr 1 (.t 24) (.t 26)), o 29 (.ld false 1 (.t 28)), o 11 (.mv (.t 29))] [0, 5, 9, 11, 24, 25, 26])
 (.ops [o 30 (.mv (.t 9)), o 31 (.mv (.t 0)), o 32 (.mv (.t 11)), o 33 (.iadr 4 (.t 31) (.t 32)), o 34 (.ld true 4 (.t 33)), o 35 (.call true true 0 (.fn 142) [.t 34]),
 o 36 (.bin .add (.t 30) (.t 35)), o 9 (.mv (.t 36))] [0, 5, 9, 24, 25, 26])))
 (.ops [o 37 (.bin .add (.t 26) (ci 1)), o 26 (.mv (.t 37))] [0, 5, 9, 24, 25, 26])))
def c76 : AFunc := ⟨48, [.tmp 6, .tmp 7],
 .seq (.ops [o 5 (.box true (.t 2)), o 6 (.mv (cb false)), o 7 (.mv (ci 0))] [0, 1, 5])
 (.seq (.seq (.opsd [(0, 1), (1, 1), (2, 1), (3, 1), (4, 1), (5, 1), (6, 0), (7, 0), (8, 0), (9, 1)] [o 12 (.mv (.t 0)), o 13 (.call true true 0 (.fn 87) [.t 12]),
 o 14 (.mv (.t 0)), o 15 (.mv (.t 1)), o 16 (.call true true 0 (.fn 140) [.t 14, .t 15]), o 17 (.ld true 2 (.t 5)), o 18 (.call true true 0 (.fn 141) [.t 17]),
 o 19 (.bslice false 1 [.p (.int .i64 0)] 3 [(0, .t 13), (1, .t 16), (2, .t 18)]), o 20 (.call true true 0 (.fn 92) [.t 19]), o 8 (.mv (.t 20))] [0, 1, 5, 8])
 (.seq (.ops [o 21 (.mv (.t 8)), o 22 (.bin .neq (.t 21) (ci 0))] [0, 1, 5, 8, 22])
 (.cond (.t 22)
 (.seq (.ops [o 23 (.mv (.t 8)), o 6 (.mv (cb false)), o 7 (.mv (.t 23))] [6, 7])
 (.ret))
 (.skip))))
 (.seq (.ops [o 9 (.mv (ci 0))] [0, 1, 5, 9])
 (.seq (.seq (.ops [o 24 (.mv (.t 1)), o 25 (.len 1 (.t 24)), o 26 (.mv (ci 0))] [0, 5, 9, 24, 25, 26])
 (.block 0 (.loop false [0, 5, 9, 24, 25, 26] c76L0)))
 (.seq (.ops [o 38 (.mv (.t 9)), o 39 (.fadr 0 (.t 5)), o 40 (.ld false 1 (.t 39)), o 41 (.bin .geq (.t 38) (.t 40)), o 42 (.mv (.t 41)),
 ⟨some 43, .mv (.t 9), some (42, true)⟩, ⟨some 44, .fadr 1 (.t 5), some (42, true)⟩, ⟨some 45, .ld false 1 (.t 44), some (42, true)⟩,
 ⟨some 46, .bin .leq (.t 43) (.t 45), some (42, true)⟩, o 47 (.pick (.t 42) (.t 46) (cb false)), o 6 (.mv (.t 47)), o 7 (.mv (ci 0))] [6, 7])
 (.ret)))))⟩

/-- crumple/crumplelaw08.bags -/
def c77L0 : ACode :=
 .seq (.ops [o 9 (.bin .lss (.t 8) (.t 7))] [3, 6, 7, 8, 9])
 (.seq (.cond (.t 9)
 (.skip)
 (.exit 0))
 (.seq (.block 1 (.seq (.ops [o 10 (.iadr 4 (.t 6) (.t 8)), o 11 (.ld true 4 (.t 10)),
 o 5 (.alloc true 1 [.p (.str []), .p (.int .i64 0), .p (.int .i64 0), .p (.int .i64 0)]), u (.st 4 (.t 5) (.t 11))] [3, 5, 6, 7, 8])
 (.ops [o 12 (.mv (.t 3)), o 13 (.ld true 4 (.t 5)), o 14 (.bslice false 4 [.p (.str []), .p (.int .i64 0), .p (.int .i64 0), .p (.int .i64 0)] 1 [(0, .t 13)]),
 o 15 (.app 4 40 [.p (.str []), .p (.int .i64 0), .p (.int .i64 0), .p (.int .i64 0)] (.t 12) (.t 14)), o 3 (.mv (.t 15))] [3, 6, 7, 8])))
 (.ops [o 16 (.bin .add (.t 8) (ci 1)), o 8 (.mv (.t 16))] [3, 6, 7, 8])))
def c77 : AFunc := ⟨18, [.tmp 2],
 .seq (.ops [o 2 (.nilown 4)] [0])
 (.seq (.ops [o 3 (.nilown 4)] [0, 3])
 (.seq (.seq (.ops [o 6 (.mv (.t 0)), o 7 (.len 1 (.t 6)), o 8 (.mv (ci 0))] [3, 6, 7, 8])
 (.block 0 (.loop true [3, 6, 7, 8] c77L0)))
 (.seq (.ops [o 17 (.mv (.t 3)), o 2 (.mv (.t 17))] [2])
 (.ret))))⟩

/-- crumple/pulse.Cheapest -/
def c78A0 : ACode :=
 .ops [o 11 (.alloc false 1 [.p (.int .i64 0), .p (.int .i64 0), .p (.nils)]), u (.st 3 (.t 11) (.t 23))] [3, 8, 9, 10, 11]
def c78B0 : ACode :=
 .block 1 (.seq (.ops [o 24 (.fadr 0 (.t 11)), o 25 (.fadr 1 (.t 24)), o 26 (.ld false 1 (.t 25)), o 27 (.fadr 0 (.t 3)), o 28 (.ld false 1 (.t 27)),
 o 29 (.bin .geq (.t 26) (.t 28)), o 30 (.mv (.t 29)), ⟨some 31, .fadr 0 (.t 11), some (30, true)⟩, ⟨some 32, .fadr 1 (.t 31), some (30, true)⟩,
 ⟨some 33, .ld false 1 (.t 32), some (30, true)⟩, ⟨some 34, .fadr 1 (.t 3), some (30, true)⟩, ⟨some 35, .ld false 1 (.t 34), some (30, true)⟩,
 ⟨some 36, .bin .leq (.t 33) (.t 35), some (30, true)⟩, o 37 (.pick (.t 30) (.t 36) (cb false)), o 38 (.mv (.t 37)), ⟨some 39, .ld false 1 (.t 9), some (38, true)⟩,
 ⟨some 40, .not (.t 39), some (38, true)⟩, ⟨some 41, .mv (.t 40), some (38, true)⟩, ⟨some 42, .ld false 1 (.t 10), some (41, false)⟩,
 ⟨some 43, .ld true 3 (.t 11), some (41, false)⟩, ⟨some 44, .ld true 3 (.t 8), some (41, false)⟩,
 ⟨some 45, .call false true 0 (.val (.t 42)) [.t 43, .t 44], some (41, false)⟩, ⟨some 46, .bin .lss (.t 45) (ci 0), some (41, false)⟩,
 ⟨some 47, .pick (.t 41) (cb true) (.t 46), some (38, true)⟩, o 48 (.pick (.t 38) (.t 47) (cb false))] [8, 9, 11, 48])
 (.cond (.t 48)
 (.ops [o 49 (.ld true 3 (.t 11)), u (.st 3 (.t 8) (.t 49)), u (.st 1 (.t 9) (cb true))] [])
 (.skip)))
def c78 : AFunc := ⟨57, [.tmp 4, .tmp 5, .tmp 6],
 .seq (.ops [o 3 (.box true (.t 1)), o 4 (.mv (cn)), o 5 (.mv (ci 0)), o 6 (.mv (ci 0))] [0, 3, 4, 5, 6])
 (.seq (.seq (.opsd [(0, 1), (1, 1), (2, 1), (3, 0), (4, 0), (5, 0), (6, 1)] [o 12 (.mv (.t 0)), o 13 (.call true true 0 (.fn 87) [.t 12]), o 14 (.ld true 2 (.t 3)),
 o 15 (.call true true 0 (.fn 141) [.t 14]), o 16 (.bslice false 1 [.p (.int .i64 0)] 2 [(0, .t 13), (1, .t 15)]), o 17 (.call true true 0 (.fn 92) [.t 16]),
 o 7 (.mv (.t 17))] [0, 3, 4, 5, 6, 7])
 (.seq (.ops [o 18 (.mv (.t 7)), o 19 (.bin .neq (.t 18) (ci 0))] [0, 3, 4, 5, 6, 7, 19])
 (.cond (.t 19)
 (.seq (.ops [o 20 (.mv (.t 7)), o 4 (.mv (cn)), o 5 (.mv (ci 0)), o 6 (.mv (.t 20))] [4, 5, 6])
 (.ret))
 (.skip))))
 (.seq (.ops [o 8 (.alloc false 1 [.p (.int .i64 0), .p (.int .i64 0), .p (.nils)])] [0, 3, 4, 5, 6, 8])
 (.seq (.ops [o 9 (.alloc true 1 [.p (.bool false)]), u (.st 1 (.t 9) (cb false))] [0, 3, 4, 5, 6, 8, 9])
 (.seq (.ops [o 10 (.alloc false 1 [.p (.nilf)]), u (.st 1 (.t 10) (cf 143))] [0, 3, 4, 5, 6, 8, 9, 10])
 (.seq (.seq (.ops [o 21 (.mv (.t 0)), o 22 (.call true false 0 (.fn 144) [.t 21])] [3, 4, 5, 6, 8, 9, 10, 22])
 (.block 0 (.rfun (.t 22) [23] c78A0 c78B0)))
 (.seq (.seq (.ops [o 50 (.ld false 1 (.t 9)), o 51 (.not (.t 50))] [8, 51])
 (.cond (.t 51)
 (.seq (.ops [o 4 (.mv (cn)), o 5 (.mv (ci 0)), o 6 (.mv (ci 18))] [4, 5, 6])
 (.ret))
 (.skip)))
 (.seq (.opsd [(0, 1), (1, 1), (2, 1), (3, 1), (4, 1), (5, 1), (6, 1), (7, 1)] [o 52 (.fadr 2 (.t 8)), o 53 (.ld false 1 (.t 52)), o 54 (.fadr 0 (.t 8)),
 o 55 (.fadr 0 (.t 54)), o 56 (.ld false 1 (.t 55)), o 4 (.mv (.t 53)), o 5 (.mv (.t 56)), o 6 (.mv (ci 0))] [4, 5, 6])
 (.ret))))))))⟩

/-- crumple/pulse.Bound -/
def c79L0 : ACode :=
 .seq (.ops [o 36 (.bin .lss (.t 35) (.t 34))] [2, 9, 33, 34, 35, 36])
 (.seq (.cond (.t 36)
 (.skip)
 (.exit 0))
 (.seq (.block 1 (.seq (.ops [o 37 (.iadr 4 (.t 33) (.t 35)), o 38 (.ld true 4 (.t 37)),
 o 11 (.alloc true 1 [.p (.str []), .p (.int .i64 0), .p (.int .i64 0), .p (.int .i64 0)]), u (.st 4 (.t 11) (.t 38))] [2, 9, 11, 33, 34, 35])
 (.opsd [(0, 1), (1, 1), (2, 1), (3, 1), (4, 1), (5, 1), (6, 1), (7, 1), (8, 1), (9, 1), (10, 1)] [o 39 (.mv (.t 9)), o 40 (.fadr 3 (.t 11)), o 41 (.ld false 1 (.t 40)),
 o 42 (.mv (.t 2)), o 43 (.ld true 4 (.t 11)), o 44 (.call true true 0 (.fn 142) [.t 43]), o 45 (.bin .mul (.t 42) (.t 44)), o 46 (.bin .sub (.t 41) (.t 45)),
 o 47 (.min [ci 0, .t 46]), o 48 (.bin .add (.t 39) (.t 47)), o 9 (.mv (.t 48))] [2, 9, 33, 34, 35])))
 (.ops [o 49 (.bin .add (.t 35) (ci 1)), o 35 (.mv (.t 49))] [2, 9, 33, 34, 35])))
def c79 : AFunc := ⟨51, [.tmp 6, .tmp 7],
 .seq (.ops [o 4 (.box true (.t 1)), o 6 (.mv (ci 0)), o 7 (.mv (ci 0))] [0, 2, 4])
 (.seq (.seq (.opsd [(0, 1), (1, 1), (2, 1), (4, 1), (3, 0), (5, 0), (6, 0), (7, 0), (8, 1)] [o 12 (.mv (.t 0)), o 13 (.call true true 0 (.fn 87) [.t 12]),
 o 14 (.ld true 2 (.t 4)), o 16 (.mv (.t 2)), o 15 (.call true true 0 (.fn 141) [.t 14]), o 17 (.call true true 0 (.fn 95) [.t 16, ci (-1000), ci 1000]),
 o 18 (.bslice false 1 [.p (.int .i64 0)] 3 [(0, .t 13), (1, .t 15), (2, .t 17)]), o 19 (.call true true 0 (.fn 92) [.t 18]), o 8 (.mv (.t 19))] [0, 2, 4, 8])
 (.seq (.ops [o 20 (.mv (.t 8)), o 21 (.bin .neq (.t 20) (ci 0))] [0, 2, 4, 8, 21])
 (.cond (.t 21)
 (.seq (.ops [o 22 (.mv (.t 8)), o 6 (.mv (ci 0)), o 7 (.mv (.t 22))] [6, 7])
 (.ret))
 (.skip))))
 (.seq (.ops [o 23 (.mv (.t 2)), o 24 (.fadr 0 (.t 4)), o 25 (.ld false 1 (.t 24)), o 26 (.bin .mul (.t 23) (.t 25)), o 9 (.mv (.t 26))] [0, 2, 4, 9])
 (.seq (.seq (.ops [o 27 (.mv (.t 2)), o 28 (.bin .lss (.t 27) (ci 0))] [0, 2, 4, 9, 28])
 (.cond (.t 28)
 (.ops [o 29 (.mv (.t 2)), o 30 (.fadr 1 (.t 4)), o 31 (.ld false 1 (.t 30)), o 32 (.bin .mul (.t 29) (.t 31)), o 9 (.mv (.t 32))] [0, 2, 9])
 (.skip)))
 (.seq (.seq (.ops [o 33 (.mv (.t 0)), o 34 (.len 1 (.t 33)), o 35 (.mv (ci 0))] [2, 9, 33, 34, 35])
 (.block 0 (.loop true [2, 9, 33, 34, 35] c79L0)))
 (.seq (.ops [o 50 (.mv (.t 9)), o 6 (.mv (.t 50)), o 7 (.mv (ci 0))] [6, 7])
 (.ret))))))⟩

/-- crumple/crumpleref08.CheckPacks -/
def c80L0 : ACode :=
 .seq (.seq (.ops [o 10 (.mv (.t 4)), o 11 (.mv (.t 0)), o 12 (.len 1 (.t 11)), o 13 (.bin .lss (.t 10) (.t 12))] [0, 3, 4, 13])
 (.cond (.t 13)
 (.skip)
 (.exit 0)))
 (.seq (.block 1 (.seq (.ops [o 16 (.mv (.t 0)), o 17 (.mv (.t 4)), o 18 (.iadr 4 (.t 16) (.t 17)), o 19 (.ld true 4 (.t 18)),
 o 5 (.alloc true 1 [.p (.str []), .p (.int .i64 0), .p (.int .i64 0), .p (.int .i64 0)]), u (.st 4 (.t 5) (.t 19))] [0, 3, 4, 5])
 (.seq (.seq (.opsd [(0, 1), (1, 1), (2, 1), (3, 1), (4, 1), (5, 1), (6, 1), (7, 1), (8, 1), (9, 1), (10, 1), (11, 1), (12, 1), (13, 1), (14, 1), (15, 1), (16, 0), (17, 0), (18, 0), (19, 1)] [o 20 (.fadr 0 (.t 5)),
 o 21 (.ld false 1 (.t 20)), o 22 (.call true true 0 (.fn 145) [.t 21]), o 23 (.mv (.t 3)), o 24 (.fadr 0 (.t 5)), o 25 (.ld false 1 (.t 24)),
 o 26 (.call true true 0 (.fn 146) [.t 23, .t 25]), o 27 (.call true true 0 (.fn 46) [.t 26, ci 9]), o 28 (.fadr 1 (.t 5)), o 29 (.ld false 1 (.t 28)),
 o 30 (.call true true 0 (.fn 101) [.t 29, ci 0, ci 10000]), o 31 (.fadr 2 (.t 5)), o 32 (.ld false 1 (.t 31)), o 33 (.call true true 0 (.fn 101) [.t 32, ci 1, ci 64]),
 o 34 (.fadr 3 (.t 5)), o 35 (.ld false 1 (.t 34)), o 36 (.call true true 0 (.fn 101) [.t 35, ci 0, ci 1000000]),
 o 37 (.bslice false 1 [.p (.int .i64 0)] 5 [(0, .t 22), (1, .t 27), (2, .t 30), (3, .t 33), (4, .t 36)]), o 38 (.call true true 0 (.fn 100) [.t 37]),
 o 6 (.mv (.t 38))] [0, 3, 4, 5, 6])
 (.seq (.ops [o 39 (.mv (.t 6)), o 40 (.bin .neq (.t 39) (ci 0))] [0, 3, 4, 5, 6, 40])
 (.cond (.t 40)
 (.seq (.ops [o 41 (.mv (.t 6)), o 2 (.mv (.t 41))] [2])
 (.ret))
 (.skip))))
 (.ops [o 42 (.mv (.t 3)), o 43 (.fadr 0 (.t 5)), o 44 (.ld false 1 (.t 43)), o 45 (.bslice false 1 [.p (.str [])] 1 [(0, .t 44)]),
 o 46 (.app 1 16 [.p (.str [])] (.t 42) (.t 45)), o 3 (.mv (.t 46))] [0, 3, 4]))))
 (.ops [o 14 (.mv (.t 4)), o 15 (.bin .add (.t 14) (ci 1)), o 4 (.mv (.t 15))] [0, 3, 4]))
def c80 : AFunc := ⟨47, [.tmp 2],
 .seq (.ops [o 2 (.mv (ci 0))] [0])
 (.seq (.seq (.ops [o 7 (.mv (.t 0)), o 8 (.len 1 (.t 7)), o 9 (.bin .gtr (.t 8) (ci 8))] [0, 9])
 (.cond (.t 9)
 (.seq (.ops [o 2 (.mv (ci 5))] [2])
 (.ret))
 (.skip)))
 (.seq (.ops [o 3 (.nilown 1)] [0, 3])
 (.seq (.seq (.ops [o 4 (.mv (ci 0))] [0, 3, 4])
 (.block 0 (.loop true [0, 3, 4] c80L0)))
 (.seq (.ops [o 2 (.mv (ci 0))] [2])
 (.ret)))))⟩

/-- crumple/crumpleref08.CheckTarget -/
def c81 : AFunc := ⟨5, [.tmp 2],
 .seq (.ops [o 1 (.box true (.t 0)), o 2 (.mv (ci 0))] [1])
 (.seq (.ops [o 3 (.ld true 2 (.t 1)), o 4 (.call true true 0 (.fn 102) [.t 3, ci 0, ci 10000000]), o 2 (.mv (.t 4))] [2])
 (.ret))⟩

/-- crumple/crumpleref08.CheckPrice -/
def c82 : AFunc := ⟨5, [.tmp 2],
 .seq (.ops [o 2 (.mv (ci 0))] [0])
 (.seq (.ops [o 3 (.mv (.t 0)), o 4 (.call true true 0 (.fn 101) [.t 3, ci (-1000), ci 1000]), o 2 (.mv (.t 4))] [2])
 (.ret))⟩

/-- crumple/crumpleref08.CheckSet -/
def c83L0 : ACode :=
 .seq (.seq (.ops [o 7 (.mv (.t 5)), o 8 (.mv (.t 1)), o 9 (.len 1 (.t 8)), o 10 (.bin .lss (.t 7) (.t 9))] [0, 1, 5, 10])
 (.cond (.t 10)
 (.skip)
 (.exit 0)))
 (.seq (.block 1 (.seq (.ops [o 13 (.mv (.t 1)), o 14 (.mv (.t 5)), o 15 (.iadr 1 (.t 13) (.t 14)), o 16 (.ld false 1 (.t 15)), o 17 (.bin .lss (.t 16) (ci 0)),
 o 18 (.mv (.t 17)), ⟨some 19, .mv (.t 1), some (18, false)⟩, ⟨some 20, .mv (.t 5), some (18, false)⟩, ⟨some 21, .iadr 1 (.t 19) (.t 20), some (18, false)⟩,
 ⟨some 22, .ld false 1 (.t 21), some (18, false)⟩, ⟨some 23, .mv (.t 0), some (18, false)⟩, ⟨some 24, .len 1 (.t 23), some (18, false)⟩,
 ⟨some 25, .bin .geq (.t 22) (.t 24), some (18, false)⟩, o 26 (.pick (.t 18) (cb true) (.t 25))] [0, 1, 5, 26])
 (.cond (.t 26)
 (.seq (.ops [o 4 (.mv (ci 10))] [4])
 (.ret))
 (.skip))))
 (.ops [o 11 (.mv (.t 5)), o 12 (.bin .add (.t 11) (ci 1)), o 5 (.mv (.t 12))] [0, 1, 5]))
def c83L1 : ACode :=
 .seq (.seq (.ops [o 27 (.mv (.t 6)), o 28 (.mv (.t 1)), o 29 (.len 1 (.t 28)), o 30 (.bin .lss (.t 27) (.t 29))] [1, 6, 30])
 (.cond (.t 30)
 (.skip)
 (.exit 2)))
 (.seq (.block 3 (.seq (.opsd [(0, 1), (1, 1), (2, 1), (3, 1), (4, 1), (5, 1), (6, 1), (7, 1), (8, 1), (9, 1)] [o 33 (.mv (.t 1)), o 34 (.mv (.t 6)),
 o 35 (.iadr 1 (.t 33) (.t 34)), o 36 (.ld false 1 (.t 35)), o 37 (.mv (.t 1)), o 38 (.mv (.t 6)), o 39 (.bin .sub (.t 38) (ci 1)), o 40 (.iadr 1 (.t 37) (.t 39)),
 o 41 (.ld false 1 (.t 40)), o 42 (.bin .leq (.t 36) (.t 41))] [1, 6, 42])
 (.cond (.t 42)
 (.seq (.ops [o 4 (.mv (ci 11))] [4])
 (.ret))
 (.skip))))
 (.ops [o 31 (.mv (.t 6)), o 32 (.bin .add (.t 31) (ci 1)), o 6 (.mv (.t 32))] [1, 6]))
def c83 : AFunc := ⟨43, [.tmp 4],
 .seq (.ops [o 4 (.mv (ci 0))] [0, 1])
 (.seq (.seq (.ops [o 5 (.mv (ci 0))] [0, 1, 5])
 (.block 0 (.loop false [0, 1, 5] c83L0)))
 (.seq (.seq (.ops [o 6 (.mv (ci 1))] [1, 6])
 (.block 2 (.loop false [1, 6] c83L1)))
 (.seq (.ops [o 4 (.mv (ci 0))] [4])
 (.ret))))⟩

/-- crumple/crumpleref08.Fits -/
def c84 : AFunc := ⟨25, [.tmp 6],
 .seq (.ops [o 5 (.box true (.t 2)), o 6 (.mv (cb false))] [0, 1, 5])
 (.seq (.ops [o 10 (.mv (.t 0)), o 11 (.mv (.t 1)), o 12 (.call true true 0 (.fn 147) [.t 10, .t 11]), o 9 (.mv (.t 12)), o 13 (.ext (.t 9) 0), o 14 (.ext (.t 9) 1),
 o 7 (.mv (.t 13)), o 8 (.mv (.t 14))] [5, 7])
 (.seq (.ops [o 15 (.mv (.t 7)), o 16 (.fadr 0 (.t 5)), o 17 (.ld false 1 (.t 16)), o 18 (.bin .geq (.t 15) (.t 17)), o 19 (.mv (.t 18)),
 ⟨some 20, .mv (.t 7), some (19, true)⟩, ⟨some 21, .fadr 1 (.t 5), some (19, true)⟩, ⟨some 22, .ld false 1 (.t 21), some (19, true)⟩,
 ⟨some 23, .bin .leq (.t 20) (.t 22), some (19, true)⟩, o 24 (.pick (.t 19) (.t 23) (cb false)), o 6 (.mv (.t 24))] [6])
 (.ret)))⟩

/-- crumple/crumpleref08.Cheapest -/
def c85L0 : ACode :=
 .seq (.seq (.ops [o 18 (.mv (.t 11)), o 19 (.mv (.t 0)), o 20 (.len 1 (.t 19)), o 21 (.bin .lss (.t 18) (.t 20))] [0, 3, 7, 8, 9, 10, 11, 21])
 (.cond (.t 21)
 (.skip)
 (.exit 0)))
 (.seq (.block 1 (.ops [o 24 (.mv (.t 10)), o 25 (.bin .mul (ci 2) (.t 24)), o 10 (.mv (.t 25))] [0, 3, 7, 8, 9, 10, 11]))
 (.ops [o 22 (.mv (.t 11)), o 23 (.bin .add (.t 22) (ci 1)), o 11 (.mv (.t 23))] [0, 3, 7, 8, 9, 10, 11]))
def c85L1 : ACode :=
 .seq (.seq (.ops [o 32 (.mv (.t 15)), o 33 (.mv (.t 0)), o 34 (.len 1 (.t 33)), o 35 (.bin .lss (.t 32) (.t 34))] [0, 3, 7, 8, 9, 10, 12, 13, 14, 15, 35])
 (.cond (.t 35)
 (.skip)
 (.exit 4)))
 (.seq (.block 5 (.seq (.seq (.ops [o 38 (.mv (.t 14)), o 39 (.bin .rem (.t 38) (ci 2)), o 40 (.bin .eql (.t 39) (ci 1))] [0, 3, 7, 8, 9, 10, 12, 13, 14, 15, 40])
 (.cond (.t 40)
 (.ops [o 41 (.mv (.t 13)), o 42 (.mv (.t 15)), o 43 (.bslice false 1 [.p (.int .i64 0)] 1 [(0, .t 42)]), o 44 (.app 1 8 [.p (.int .i64 0)] (.t 41) (.t 43)),
 o 13 (.mv (.t 44))] [0, 3, 7, 8, 9, 10, 12, 13, 14, 15])
 (.skip)))
 (.ops [o 45 (.mv (.t 14)), o 46 (.bin .quo (.t 45) (ci 2)), o 14 (.mv (.t 46))] [0, 3, 7, 8, 9, 10, 12, 13, 14, 15])))
 (.ops [o 36 (.mv (.t 15)), o 37 (.bin .add (.t 36) (ci 1)), o 15 (.mv (.t 37))] [0, 3, 7, 8, 9, 10, 12, 13, 14, 15]))
def c85L2 : ACode :=
 .seq (.seq (.ops [o 26 (.mv (.t 12)), o 27 (.mv (.t 10)), o 28 (.bin .lss (.t 26) (.t 27))] [0, 3, 7, 8, 9, 10, 12, 28])
 (.cond (.t 28)
 (.skip)
 (.exit 2)))
 (.seq (.block 3 (.seq (.ops [o 13 (.nilown 1)] [0, 3, 7, 8, 9, 10, 12, 13])
 (.seq (.ops [o 31 (.mv (.t 12)), o 14 (.mv (.t 31))] [0, 3, 7, 8, 9, 10, 12, 13, 14])
 (.seq (.seq (.ops [o 15 (.mv (ci 0))] [0, 3, 7, 8, 9, 10, 12, 13, 14, 15])
 (.block 4 (.loop false [0, 3, 7, 8, 9, 10, 12, 13, 14, 15] c85L1)))
 (.seq (.ops [o 48 (.mv (.t 0)), o 49 (.mv (.t 13)), o 50 (.call true true 0 (.fn 147) [.t 48, .t 49]), o 47 (.mv (.t 50)), o 51 (.ext (.t 47) 0), o 52 (.ext (.t 47) 1),
 o 16 (.mv (.t 51)), o 17 (.mv (.t 52))] [0, 3, 7, 8, 9, 10, 12, 13, 17])
 (.seq (.ops [o 53 (.mv (.t 0)), o 54 (.mv (.t 13)), o 55 (.ld true 2 (.t 3)), o 56 (.call true true 0 (.fn 84) [.t 53, .t 54, .t 55]), o 57 (.mv (.t 56)),
 ⟨some 58, .mv (.t 9), some (57, true)⟩, ⟨some 59, .not (.t 58), some (57, true)⟩, ⟨some 60, .mv (.t 59), some (57, true)⟩, ⟨some 61, .mv (.t 17), some (60, false)⟩,
 ⟨some 62, .mv (.t 8), some (60, false)⟩, ⟨some 63, .bin .lss (.t 61) (.t 62), some (60, false)⟩, ⟨some 64, .pick (.t 60) (cb true) (.t 63), some (57, true)⟩,
 ⟨some 65, .mv (.t 64), some (57, true)⟩, ⟨some 66, .mv (.t 17), some (65, false)⟩, ⟨some 67, .mv (.t 8), some (65, false)⟩,
 ⟨some 68, .bin .eql (.t 66) (.t 67), some (65, false)⟩, ⟨some 69, .mv (.t 68), some (65, false)⟩, ⟨some 70, .mv (.t 13), some (69, true)⟩,
 ⟨some 71, .mv (.t 7), some (69, true)⟩, ⟨some 72, .call true true 0 (.fn 148) [.t 70, .t 71], some (69, true)⟩,
 ⟨some 73, .pick (.t 69) (.t 72) (cb false), some (65, false)⟩, ⟨some 74, .pick (.t 65) (cb true) (.t 73), some (57, true)⟩,
 o 75 (.pick (.t 57) (.t 74) (cb false))] [0, 3, 7, 8, 9, 10, 12, 13, 17, 75])
 (.cond (.t 75)
 (.ops [o 76 (.mv (.t 13)), o 77 (.mv (.t 17)), o 7 (.mv (.t 76)), o 8 (.mv (.t 77)), o 9 (.mv (cb true))] [0, 3, 7, 8, 9, 10, 12])
 (.skip))))))))
 (.ops [o 29 (.mv (.t 12)), o 30 (.bin .add (.t 29) (ci 1)), o 12 (.mv (.t 30))] [0, 3, 7, 8, 9, 10, 12]))
def c85 : AFunc := ⟨82, [.tmp 4, .tmp 5, .tmp 6],
 .seq (.ops [o 3 (.box true (.t 1)), o 4 (.mv (cn)), o 5 (.mv (ci 0)), o 6 (.mv (ci 0))] [0, 3])
 (.seq (.ops [o 7 (.mv (cn))] [0, 3, 7])
 (.seq (.ops [o 8 (.mv (ci 0)), o 9 (.mv (cb false))] [0, 3, 7, 8, 9])
 (.seq (.ops [o 10 (.mv (ci 1))] [0, 3, 7, 8, 9, 10])
 (.seq (.seq (.ops [o 11 (.mv (ci 0))] [0, 3, 7, 8, 9, 10, 11])
 (.block 0 (.loop false [0, 3, 7, 8, 9, 10, 11] c85L0)))
 (.seq (.seq (.ops [o 12 (.mv (ci 0))] [0, 3, 7, 8, 9, 10, 12])
 (.block 2 (.loop true [0, 3, 7, 8, 9, 10, 12] c85L2)))
 (.seq (.seq (.ops [o 78 (.mv (.t 9)), o 79 (.not (.t 78))] [7, 8, 79])
 (.cond (.t 79)
 (.seq (.ops [o 4 (.mv (cn)), o 5 (.mv (ci 0)), o 6 (.mv (ci 18))] [4, 5, 6])
 (.ret))
 (.skip)))
 (.seq (.ops [o 80 (.mv (.t 7)), o 81 (.mv (.t 8)), o 4 (.mv (.t 80)), o 5 (.mv (.t 81)), o 6 (.mv (ci 0))] [4, 5, 6])
 (.ret))))))))⟩

/-- crumple/crumpleref08.Bound -/
def c86L0 : ACode :=
 .seq (.seq (.ops [o 19 (.mv (.t 8)), o 20 (.mv (.t 0)), o 21 (.len 1 (.t 20)), o 22 (.bin .lss (.t 19) (.t 21))] [0, 2, 7, 8, 22])
 (.cond (.t 22)
 (.skip)
 (.exit 0)))
 (.seq (.block 1 (.opsd [(0, 1), (1, 1), (2, 1), (3, 1), (4, 1), (5, 1), (6, 1), (7, 1), (8, 1), (9, 1), (10, 1), (11, 1), (12, 1), (13, 1), (14, 1), (15, 1), (16, 1), (17, 1), (18, 1), (19, 1), (20, 1), (21, 1), (22, 1)] [o 25 (.mv (.t 7)),
 o 26 (.mv (.t 0)), o 27 (.mv (.t 8)), o 28 (.iadr 4 (.t 26) (.t 27)), o 29 (.fadr 3 (.t 28)), o 30 (.ld false 1 (.t 29)), o 31 (.mv (.t 2)), o 32 (.mv (.t 0)),
 o 33 (.mv (.t 8)), o 34 (.iadr 4 (.t 32) (.t 33)), o 35 (.fadr 1 (.t 34)), o 36 (.ld false 1 (.t 35)), o 37 (.bin .mul (.t 31) (.t 36)), o 38 (.mv (.t 0)),
 o 39 (.mv (.t 8)), o 40 (.iadr 4 (.t 38) (.t 39)), o 41 (.fadr 2 (.t 40)), o 42 (.ld false 1 (.t 41)), o 43 (.bin .mul (.t 37) (.t 42)), o 44 (.bin .sub (.t 30) (.t 43)),
 o 45 (.min [ci 0, .t 44]), o 46 (.bin .add (.t 25) (.t 45)), o 7 (.mv (.t 46))] [0, 2, 7, 8]))
 (.ops [o 23 (.mv (.t 8)), o 24 (.bin .add (.t 23) (ci 1)), o 8 (.mv (.t 24))] [0, 2, 7, 8]))
def c86 : AFunc := ⟨48, [.tmp 6],
 .seq (.ops [o 4 (.box true (.t 1)), o 6 (.mv (ci 0))] [0, 2, 4])
 (.seq (.ops [o 9 (.mv (.t 2)), o 10 (.fadr 0 (.t 4)), o 11 (.ld false 1 (.t 10)), o 12 (.bin .mul (.t 9) (.t 11)), o 7 (.mv (.t 12))] [0, 2, 4, 7])
 (.seq (.seq (.ops [o 13 (.mv (.t 2)), o 14 (.bin .lss (.t 13) (ci 0))] [0, 2, 4, 7, 14])
 (.cond (.t 14)
 (.ops [o 15 (.mv (.t 2)), o 16 (.fadr 1 (.t 4)), o 17 (.ld false 1 (.t 16)), o 18 (.bin .mul (.t 15) (.t 17)), o 7 (.mv (.t 18))] [0, 2, 7])
 (.skip)))
 (.seq (.seq (.ops [o 8 (.mv (ci 0))] [0, 2, 7, 8])
 (.block 0 (.loop false [0, 2, 7, 8] c86L0)))
 (.seq (.ops [o 47 (.mv (.t 7)), o 6 (.mv (.t 47))] [6])
 (.ret)))))⟩

/-- crumple/pulse.CheckPacks -/
def c87L0 : ACode :=
 .seq (.ops [o 14 (.bin .lss (.t 13) (.t 12))] [3, 11, 12, 13, 14])
 (.seq (.cond (.t 14)
 (.skip)
 (.exit 0))
 (.seq (.block 1 (.seq (.ops [o 15 (.iadr 4 (.t 11) (.t 13)), o 16 (.ld true 4 (.t 15)),
 o 5 (.alloc true 1 [.p (.str []), .p (.int .i64 0), .p (.int .i64 0), .p (.int .i64 0)]), u (.st 4 (.t 5) (.t 16))] [3, 5, 11, 12, 13])
 (.seq (.seq (.opsd [(0, 1), (1, 1), (2, 1), (3, 1), (4, 1), (5, 1), (6, 1), (7, 1), (8, 1), (9, 1), (10, 1), (11, 1), (12, 1), (13, 1), (14, 1), (15, 1), (16, 1), (17, 1), (18, 0), (19, 0), (20, 0), (21, 1)] [o 17 (.fadr 0 (.t 5)),
 o 18 (.ld false 1 (.t 17)), o 19 (.call true true 0 (.fn 149) [.t 18]), o 20 (.not (.t 19)), o 21 (.call true true 0 (.fn 107) [.t 20, ci 8]), o 22 (.mv (.t 3)),
 o 23 (.fadr 0 (.t 5)), o 24 (.ld false 1 (.t 23)), o 25 (.lkup 1 (.p (.bool false)) (.t 22) (.t 24) false), o 26 (.call true true 0 (.fn 107) [.t 25, ci 9]),
 o 27 (.fadr 1 (.t 5)), o 28 (.ld false 1 (.t 27)), o 29 (.call true true 0 (.fn 95) [.t 28, ci 0, ci 10000]), o 30 (.fadr 2 (.t 5)), o 31 (.ld false 1 (.t 30)),
 o 32 (.call true true 0 (.fn 95) [.t 31, ci 1, ci 64]), o 33 (.fadr 3 (.t 5)), o 34 (.ld false 1 (.t 33)), o 35 (.call true true 0 (.fn 95) [.t 34, ci 0, ci 1000000]),
 o 36 (.bslice false 1 [.p (.int .i64 0)] 5 [(0, .t 21), (1, .t 26), (2, .t 29), (3, .t 32), (4, .t 35)]), o 37 (.call true true 0 (.fn 92) [.t 36]),
 o 6 (.mv (.t 37))] [3, 5, 6, 11, 12, 13])
 (.seq (.ops [o 38 (.mv (.t 6)), o 39 (.bin .neq (.t 38) (ci 0))] [3, 5, 6, 11, 12, 13, 39])
 (.cond (.t 39)
 (.seq (.ops [o 40 (.mv (.t 6)), o 2 (.mv (.t 40))] [2])
 (.ret))
 (.skip))))
 (.ops [o 41 (.mv (.t 3)), o 42 (.fadr 0 (.t 5)), o 43 (.ld false 1 (.t 42)), u (.mupd 1 (.t 41) (.t 43) (cb true))] [3, 11, 12, 13]))))
 (.ops [o 44 (.bin .add (.t 13) (ci 1)), o 13 (.mv (.t 44))] [3, 11, 12, 13])))
def c87 : AFunc := ⟨45, [.tmp 2],
 .seq (.ops [o 2 (.mv (ci 0))] [0])
 (.seq (.seq (.ops [o 7 (.mv (.t 0)), o 8 (.len 1 (.t 7)), o 9 (.bin .gtr (.t 8) (ci 8))] [0, 9])
 (.cond (.t 9)
 (.seq (.ops [o 2 (.mv (ci 5))] [2])
 (.ret))
 (.skip)))
 (.seq (.ops [o 10 (.mkmap), o 3 (.mv (.t 10))] [0, 3])
 (.seq (.seq (.ops [o 11 (.mv (.t 0)), o 12 (.len 1 (.t 11)), o 13 (.mv (ci 0))] [3, 11, 12, 13])
 (.block 0 (.loop true [3, 11, 12, 13] c87L0)))
 (.seq (.ops [o 2 (.mv (ci 0))] [2])
 (.ret)))))⟩

/-- crumple/crumplelaw08.sledge -/
def c88 : AFunc := ⟨3, [.cell 0 true 5],
 .seq (.ops [o 0 (.alloc true 1 [.p (.int .i64 0), .p (.int .i64 0), .p (.int .i64 0), .p (.int .i64 0), .p (.int .i64 0)])] [0])
 (.seq (.ops [o 1 (.call true true 0 (.fn 73) [ci 100, ci 200]),
 o 2 (.build [.p (.int .i64 0), .p (.int .i64 0), .p (.int .i64 0), .p (.int .i64 0), .p (.int .i64 0)] [(0, 2, .t 1), (2, 1, ci 2), (3, 1, ci 1), (4, 1, ci 60)]),
 u (.st 5 (.t 0) (.t 2))] [0])
 (.ret))⟩

/-- crumple/crumplelaw08.setting -/
def c89 : AFunc := ⟨10, [.tmp 4],
 .seq (.ops [o 4 (.mv (cn))] [0, 1])
 (.seq (.ops [o 5 (.mv (.t 0)), o 6 (.build [.p (.int .i64 0), .p (.int .i64 0)] [(1, 1, .t 5)]), o 7 (.mv (.t 1)),
 o 8 (.build [.p (.int .i64 0), .p (.int .i64 0)] [(0, 1, ci 3), (1, 1, .t 7)]), o 9 (.bslice false 2 [.p (.int .i64 0), .p (.int .i64 0)] 2 [(0, .t 6), (1, .t 8)]),
 o 4 (.mv (.t 9))] [4])
 (.ret))⟩

/-- crumple/crumplelaw08.lane -/
def c90 : AFunc := ⟨6, [.tmp 0],
 .seq (.ops [o 0 (.mv (cn))] [])
 (.seq (.ops [o 1 (.call true true 0 (.fn 73) [ci 20, ci 40]), o 2 (.call true true 0 (.fn 73) [ci 20, ci 40]), o 3 (.call true true 0 (.fn 73) [ci 20, ci 40]),
 o 4 (.call true true 0 (.fn 73) [ci 20, ci 40]), o 5 (.bslice false 2 [.p (.int .i64 0), .p (.int .i64 0)] 4 [(0, .t 1), (1, .t 2), (2, .t 3), (3, .t 4)]),
 o 0 (.mv (.t 5))] [0])
 (.ret))⟩

/-- crumple/crumplelaw08.packs -/
def c91 : AFunc := ⟨5, [.tmp 0],
 .seq (.ops [o 0 (.nilown 4)] [])
 (.seq (.ops [o 1 (.build [.p (.str []), .p (.int .i64 0), .p (.int .i64 0), .p (.int .i64 0)] [(0, 1, cs [112]), (1, 1, ci 10), (2, 1, ci 4), (3, 1, ci 5)]),
 o 2 (.build [.p (.str []), .p (.int .i64 0), .p (.int .i64 0), .p (.int .i64 0)] [(0, 1, cs [113]), (1, 1, ci 20), (2, 1, ci 3), (3, 1, ci 9)]),
 o 3 (.build [.p (.str []), .p (.int .i64 0), .p (.int .i64 0), .p (.int .i64 0)] [(0, 1, cs [114]), (1, 1, ci 30), (2, 1, ci 1), (3, 1, ci 2)]),
 o 4 (.bslice true 4 [.p (.str []), .p (.int .i64 0), .p (.int .i64 0), .p (.int .i64 0)] 3 [(0, .t 1), (1, .t 2), (2, .t 3)]), o 0 (.mv (.t 4))] [0])
 (.ret))⟩

/-- crumple/pulse.first -/
def c92L0 : ACode :=
 .seq (.ops [o 8 (.bin .lss (.t 7) (.t 6))] [5, 6, 7, 8])
 (.seq (.cond (.t 8)
 (.skip)
 (.exit 0))
 (.seq (.block 1 (.seq (.ops [o 9 (.iadr 1 (.t 5) (.t 7)), o 10 (.ld false 1 (.t 9)), o 4 (.mv (.t 10))] [4, 5, 6, 7])
 (.seq (.ops [o 11 (.mv (.t 4)), o 12 (.bin .neq (.t 11) (ci 0))] [4, 5, 6, 7, 12])
 (.cond (.t 12)
 (.seq (.ops [o 13 (.mv (.t 4)), o 2 (.mv (.t 13))] [2])
 (.ret))
 (.skip)))))
 (.ops [o 14 (.bin .add (.t 7) (ci 1)), o 7 (.mv (.t 14))] [5, 6, 7])))
def c92 : AFunc := ⟨15, [.tmp 2],
 .seq (.ops [o 2 (.mv (ci 0))] [0])
 (.seq (.seq (.ops [o 5 (.mv (.t 0)), o 6 (.len 1 (.t 5)), o 7 (.mv (ci 0))] [5, 6, 7])
 (.block 0 (.loop false [5, 6, 7] c92L0)))
 (.seq (.ops [o 2 (.mv (ci 0))] [2])
 (.ret)))⟩

/-- crumple/pulse.checkTicks -/
def c93 : AFunc := ⟨5, [.tmp 2],
 .seq (.ops [o 2 (.mv (ci 0))] [0])
 (.seq (.ops [o 3 (.mv (.t 0)), o 4 (.call true true 0 (.fn 95) [.t 3, ci 1, ci 64]), o 2 (.mv (.t 4))] [2])
 (.ret))⟩

/-- crumple/pulse.valve -/
def c94L0 : ACode :=
 .seq (.ops [o 11 (.bin .lss (.t 10) (.t 9))] [1, 5, 8, 9, 10, 11])
 (.seq (.cond (.t 11)
 (.skip)
 (.exit 0))
 (.seq (.block 1 (.seq (.ops [o 12 (.iadr 2 (.t 8) (.t 10)), o 13 (.ld true 2 (.t 12)), o 7 (.alloc true 1 [.p (.int .i64 0), .p (.int .i64 0)]),
 u (.st 2 (.t 7) (.t 13))] [1, 5, 7, 8, 9, 10])
 (.seq (.seq (.ops [o 14 (.fadr 0 (.t 7)), o 15 (.ld false 1 (.t 14)), o 16 (.mv (.t 1)), o 17 (.bin .gtr (.t 15) (.t 16))] [1, 5, 7, 8, 9, 10, 17])
 (.cond (.t 17)
 (.exit 0)
 (.skip)))
 (.ops [o 18 (.fadr 1 (.t 7)), o 19 (.ld false 1 (.t 18)), o 5 (.mv (.t 19))] [1, 5, 8, 9, 10]))))
 (.ops [o 20 (.bin .add (.t 10) (ci 1)), o 10 (.mv (.t 20))] [1, 5, 8, 9, 10])))
def c94 : AFunc := ⟨22, [.tmp 4],
 .seq (.ops [o 4 (.mv (ci 0))] [0, 1])
 (.scope (.seq (.ops [o 5 (.mv (ci 0))] [0, 1, 5])
 (.seq (.skip)
 (.seq (.seq (.ops [o 8 (.mv (.t 0)), o 9 (.len 1 (.t 8)), o 10 (.mv (ci 0))] [1, 5, 8, 9, 10])
 (.block 0 (.loop true [1, 5, 8, 9, 10] c94L0)))
 (.seq (.ops [o 21 (.mv (.t 5)), o 4 (.mv (.t 21))] [4])
 (.ret))))))⟩

/-- crumple/pulse.within -/
def c95 : AFunc := ⟨16, [.tmp 6],
 .seq (.ops [o 6 (.mv (ci 0))] [0, 1, 2])
 (.seq (.ops [o 7 (.mv (.t 0)), o 8 (.mv (.t 1)), o 9 (.bin .lss (.t 7) (.t 8)), o 10 (.mv (.t 9)), ⟨some 11, .mv (.t 0), some (10, false)⟩,
 ⟨some 12, .mv (.t 2), some (10, false)⟩, ⟨some 13, .bin .gtr (.t 11) (.t 12), some (10, false)⟩, o 14 (.pick (.t 10) (cb true) (.t 13)),
 o 15 (.call true true 0 (.fn 107) [.t 14, ci 3]), o 6 (.mv (.t 15))] [6])
 (.ret))⟩

/-- (crumple/pulse.Sled).run -/
def c96L0 : ACode :=
 .seq (.ops [o 15 (.bin .lss (.t 14) (.t 13))] [1, 2, 4, 9, 10, 13, 14, 15])
 (.seq (.cond (.t 15)
 (.skip)
 (.exit 0))
 (.seq (.block 1 (.seq (.ops [o 16 (.mv (.t 14)), o 11 (.mv (.t 16))] [1, 2, 4, 9, 10, 11, 13, 14])
 (.seq (.ops [o 17 (.mv (.t 2)), o 18 (.mv (.t 1)), o 19 (.mv (.t 11)), o 20 (.fadr 3 (.t 4)), o 21 (.ld false 1 (.t 20)), o 22 (.bin .sub (.t 19) (.t 21)),
 o 23 (.max [ci 0, .t 22]), o 24 (.call true true 0 (.fn 94) [.t 18, .t 23]), o 25 (.bin .mul (.t 17) (.t 24)), o 26 (.bin .quo (.t 25) (ci 100)),
 o 12 (.mv (.t 26))] [1, 2, 4, 9, 10, 12, 13, 14])
 (.seq (.ops [o 27 (.mv (.t 10)), o 28 (.mv (.t 12)), o 29 (.mv (.t 10)), o 30 (.bin .sub (.t 28) (.t 29)), o 31 (.fadr 2 (.t 4)), o 32 (.ld false 1 (.t 31)),
 o 33 (.call true true 0 (.fn 122) [.t 30, .t 32]), o 34 (.bin .add (.t 27) (.t 33)), o 10 (.mv (.t 34))] [1, 2, 4, 9, 10, 13, 14])
 (.ops [o 35 (.mv (.t 9)), o 36 (.mv (.t 10)), o 37 (.bslice false 1 [.p (.int .i64 0)] 1 [(0, .t 36)]), o 38 (.app 1 8 [.p (.int .i64 0)] (.t 35) (.t 37)),
 o 9 (.mv (.t 38))] [1, 2, 4, 9, 10, 13, 14])))))
 (.ops [o 39 (.bin .add (.t 14) (ci 1)), o 14 (.mv (.t 39))] [1, 2, 4, 9, 10, 13, 14])))
def c96 : AFunc := ⟨41, [.tmp 8],
 .seq (.ops [o 4 (.box true (.t 0)), o 8 (.mv (cn))] [1, 2, 3, 4])
 (.seq (.ops [o 9 (.nilown 1)] [1, 2, 3, 4, 9])
 (.seq (.ops [o 10 (.mv (ci 0))] [1, 2, 3, 4, 9, 10])
 (.seq (.seq (.ops [o 13 (.mv (.t 3)), o 14 (.mv (ci 0))] [1, 2, 4, 9, 10, 13, 14])
 (.block 0 (.loop false [1, 2, 4, 9, 10, 13, 14] c96L0)))
 (.seq (.ops [o 40 (.mv (.t 9)), o 8 (.mv (.t 40))] [8])
 (.ret)))))⟩

/-- (crumple/pulse.Sled).enclosed -/
def c97L0 : ACode :=
 .seq (.ops [o 27 (.bin .lss (.t 26) (.t 25))] [7, 8, 24, 25, 26, 27])
 (.seq (.cond (.t 27)
 (.skip)
 (.exit 0))
 (.seq (.block 1 (.seq (.ops [o 28 (.mv (.t 26)), o 29 (.iadr 1 (.t 24) (.t 26)), o 30 (.ld false 1 (.t 29)), o 9 (.mv (.t 28)),
 o 10 (.mv (.t 30))] [7, 8, 9, 10, 24, 25, 26])
 (.ops [o 31 (.mv (.t 7)), o 32 (.mv (.t 10)), o 33 (.mv (.t 8)), o 34 (.mv (.t 9)), o 35 (.iadr 1 (.t 33) (.t 34)), o 36 (.ld false 1 (.t 35)),
 o 37 (.build [.p (.int .i64 0), .p (.int .i64 0)] [(0, 1, .t 32), (1, 1, .t 36)]), o 38 (.bslice false 2 [.p (.int .i64 0), .p (.int .i64 0)] 1 [(0, .t 37)]),
 o 39 (.app 2 16 [.p (.int .i64 0), .p (.int .i64 0)] (.t 31) (.t 38)), o 7 (.mv (.t 39))] [7, 8, 24, 25, 26])))
 (.ops [o 40 (.bin .add (.t 26) (ci 1)), o 26 (.mv (.t 40))] [7, 8, 24, 25, 26])))
def c97 : AFunc := ⟨42, [.tmp 6],
 .seq (.ops [o 3 (.box true (.t 0)), o 6 (.mv (cn))] [1, 2, 3])
 (.seq (.ops [o 7 (.nilown 2)] [1, 2, 3, 7])
 (.seq (.ops [o 11 (.ld true 5 (.t 3)), o 12 (.mv (.t 1)), o 13 (.fadr 0 (.t 3)), o 14 (.fadr 1 (.t 13)), o 15 (.ld false 1 (.t 14)), o 16 (.mv (.t 2)),
 o 17 (.call true false 0 (.fn 96) [.t 11, .t 12, .t 15, .t 16]), o 8 (.mv (.t 17))] [1, 2, 3, 7, 8])
 (.seq (.seq (.ops [o 18 (.ld true 5 (.t 3)), o 19 (.mv (.t 1)), o 20 (.fadr 0 (.t 3)), o 21 (.fadr 0 (.t 20)), o 22 (.ld false 1 (.t 21)), o 23 (.mv (.t 2)),
 o 24 (.call true false 0 (.fn 96) [.t 18, .t 19, .t 22, .t 23]), o 25 (.len 1 (.t 24)), o 26 (.mv (ci 0))] [7, 8, 24, 25, 26])
 (.block 0 (.loop false [7, 8, 24, 25, 26] c97L0)))
 (.seq (.ops [o 41 (.mv (.t 7)), o 6 (.mv (.t 41))] [6])
 (.ret)))))⟩

/-- slices.ContainsFunc[[]crumple/api.Interval,crumple/api.Interval] -/
def c98 : AFunc := ⟨9, [.tmp 4],
 .seq (.ops [o 4 (.mv (cb false))] [0, 1])
 (.seq (.ops [o 5 (.mv (.t 0)), o 6 (.mv (.t 1)), o 7 (.call true true 0 (.fn 150) [.t 5, .t 6]), o 8 (.bin .geq (.t 7) (ci 0)), o 4 (.mv (.t 8))] [4])
 (.ret))⟩

/-- crumple/pulse.Safe$1 -/
def c99 : AFunc := ⟨9, [.tmp 3],
 .seq (.ops [o 2 (.box true (.t 0)), o 3 (.mv (cb false))] [1, 2])
 (.seq (.ops [o 4 (.fadr 1 (.t 2)), o 5 (.ld false 1 (.t 4)), o 6 (.fadr 4 (.t 1)), o 7 (.ld false 1 (.t 6)), o 8 (.bin .gtr (.t 5) (.t 7)), o 3 (.mv (.t 8))] [3])
 (.ret))⟩

/-- crumple/crumpleref01.First -/
def c100L0 : ACode :=
 .seq (.seq (.ops [o 4 (.mv (.t 3)), o 5 (.mv (.t 0)), o 6 (.len 1 (.t 5)), o 7 (.bin .lss (.t 4) (.t 6))] [0, 3, 7])
 (.cond (.t 7)
 (.skip)
 (.exit 0)))
 (.seq (.block 1 (.seq (.ops [o 10 (.mv (.t 0)), o 11 (.mv (.t 3)), o 12 (.iadr 1 (.t 10) (.t 11)), o 13 (.ld false 1 (.t 12)), o 14 (.bin .neq (.t 13) (ci 0))] [0, 3, 14])
 (.cond (.t 14)
 (.seq (.ops [o 15 (.mv (.t 0)), o 16 (.mv (.t 3)), o 17 (.iadr 1 (.t 15) (.t 16)), o 18 (.ld false 1 (.t 17)), o 2 (.mv (.t 18))] [2])
 (.ret))
 (.skip))))
 (.ops [o 8 (.mv (.t 3)), o 9 (.bin .add (.t 8) (ci 1)), o 3 (.mv (.t 9))] [0, 3]))
def c100 : AFunc := ⟨19, [.tmp 2],
 .seq (.ops [o 2 (.mv (ci 0))] [0])
 (.seq (.seq (.ops [o 3 (.mv (ci 0))] [0, 3])
 (.block 0 (.loop false [0, 3] c100L0)))
 (.seq (.ops [o 2 (.mv (ci 0))] [2])
 (.ret)))⟩

/-- crumple/crumpleref01.CheckRange -/
def c101 : AFunc := ⟨16, [.tmp 6],
 .seq (.ops [o 6 (.mv (ci 0))] [0, 1, 2])
 (.seq (.ops [o 7 (.mv (.t 0)), o 8 (.mv (.t 1)), o 9 (.bin .lss (.t 7) (.t 8)), o 10 (.mv (.t 9)), ⟨some 11, .mv (.t 0), some (10, false)⟩,
 ⟨some 12, .mv (.t 2), some (10, false)⟩, ⟨some 13, .bin .gtr (.t 11) (.t 12), some (10, false)⟩, o 14 (.pick (.t 10) (cb true) (.t 13)),
 o 15 (.call true true 0 (.fn 46) [.t 14, ci 3]), o 6 (.mv (.t 15))] [6])
 (.ret))⟩

/-- crumple/crumpleref08.CheckEnds -/
def c102 : AFunc := ⟨25, [.tmp 6],
 .seq (.ops [o 3 (.box true (.t 0)), o 6 (.mv (ci 0))] [1, 2, 3])
 (.seq (.opsd [(0, 1), (1, 1), (2, 1), (3, 1), (4, 1), (5, 1), (6, 1), (7, 1), (8, 1), (9, 1), (10, 1), (11, 1), (12, 1), (13, 1), (14, 1), (15, 0), (16, 0), (17, 0), (18, 1)] [o 7 (.fadr 0 (.t 3)),
 o 8 (.ld false 1 (.t 7)), o 9 (.mv (.t 1)), o 10 (.mv (.t 2)), o 11 (.call true true 0 (.fn 101) [.t 8, .t 9, .t 10]), o 12 (.fadr 1 (.t 3)), o 13 (.ld false 1 (.t 12)),
 o 14 (.mv (.t 1)), o 15 (.mv (.t 2)), o 16 (.call true true 0 (.fn 101) [.t 13, .t 14, .t 15]), o 17 (.fadr 0 (.t 3)), o 18 (.ld false 1 (.t 17)), o 19 (.fadr 1 (.t 3)),
 o 20 (.ld false 1 (.t 19)), o 21 (.bin .gtr (.t 18) (.t 20)), o 22 (.call true true 0 (.fn 46) [.t 21, ci 11]),
 o 23 (.bslice false 1 [.p (.int .i64 0)] 3 [(0, .t 11), (1, .t 16), (2, .t 22)]), o 24 (.call true true 0 (.fn 100) [.t 23]), o 6 (.mv (.t 24))] [6])
 (.ret))⟩

/-- crumple/crumpleref08.valve -/
def c103L0 : ACode :=
 .seq (.seq (.ops [o 11 (.mv (.t 6)), o 12 (.mv (.t 0)), o 13 (.len 1 (.t 12)), o 14 (.bin .lss (.t 11) (.t 13))] [0, 1, 5, 6, 14])
 (.cond (.t 14)
 (.skip)
 (.exit 0)))
 (.seq (.block 1 (.seq (.ops [o 17 (.mv (.t 0)), o 18 (.mv (.t 6)), o 19 (.iadr 2 (.t 17) (.t 18)), o 20 (.fadr 0 (.t 19)), o 21 (.ld false 1 (.t 20)), o 22 (.mv (.t 1)),
 o 23 (.bin .leq (.t 21) (.t 22))] [0, 1, 5, 6, 23])
 (.cond (.t 23)
 (.ops [o 24 (.mv (.t 0)), o 25 (.mv (.t 6)), o 26 (.iadr 2 (.t 24) (.t 25)), o 27 (.fadr 1 (.t 26)), o 28 (.ld false 1 (.t 27)), o 5 (.mv (.t 28))] [0, 1, 5, 6])
 (.skip))))
 (.ops [o 15 (.mv (.t 6)), o 16 (.bin .add (.t 15) (ci 1)), o 6 (.mv (.t 16))] [0, 1, 5, 6]))
def c103 : AFunc := ⟨30, [.tmp 4],
 .seq (.ops [o 4 (.mv (ci 0))] [0, 1])
 (.seq (.ops [o 7 (.mv (.t 0)), o 8 (.iadr 2 (.t 7) (ci 0)), o 9 (.fadr 1 (.t 8)), o 10 (.ld false 1 (.t 9)), o 5 (.mv (.t 10))] [0, 1, 5])
 (.seq (.seq (.ops [o 6 (.mv (ci 0))] [0, 1, 5, 6])
 (.block 0 (.loop false [0, 1, 5, 6] c103L0)))
 (.seq (.ops [o 29 (.mv (.t 5)), o 4 (.mv (.t 29))] [4])
 (.ret))))⟩

/-- crumple/crumpleref01.Floor -/
def c104 : AFunc := ⟨17, [.tmp 4],
 .seq (.ops [o 4 (.mv (ci 0))] [0, 1])
 (.seq (.ops [o 6 (.mv (.t 0)), o 7 (.mv (.t 1)), o 8 (.bin .quo (.t 6) (.t 7)), o 5 (.mv (.t 8))] [0, 1, 5])
 (.seq (.seq (.ops [o 9 (.mv (.t 5)), o 10 (.mv (.t 1)), o 11 (.bin .mul (.t 9) (.t 10)), o 12 (.mv (.t 0)), o 13 (.bin .gtr (.t 11) (.t 12))] [5, 13])
 (.cond (.t 13)
 (.ops [o 14 (.mv (.t 5)), o 15 (.bin .sub (.t 14) (ci 1)), o 5 (.mv (.t 15))] [5])
 (.skip)))
 (.seq (.ops [o 16 (.mv (.t 5)), o 4 (.mv (.t 16))] [4])
 (.ret))))⟩

/-- crumple/pulse.checkInterval -/
def c105 : AFunc := ⟨25, [.tmp 6],
 .seq (.ops [o 3 (.box true (.t 0)), o 6 (.mv (ci 0))] [1, 2, 3])
 (.seq (.opsd [(0, 1), (1, 1), (2, 1), (3, 1), (4, 1), (5, 1), (6, 1), (7, 1), (8, 1), (9, 1), (10, 1), (11, 1), (12, 1), (13, 1), (14, 1), (15, 0), (16, 0), (17, 0), (18, 1)] [o 7 (.fadr 0 (.t 3)),
 o 8 (.ld false 1 (.t 7)), o 9 (.mv (.t 1)), o 10 (.mv (.t 2)), o 11 (.call true true 0 (.fn 95) [.t 8, .t 9, .t 10]), o 12 (.fadr 1 (.t 3)), o 13 (.ld false 1 (.t 12)),
 o 14 (.mv (.t 1)), o 15 (.mv (.t 2)), o 16 (.call true true 0 (.fn 95) [.t 13, .t 14, .t 15]), o 17 (.fadr 0 (.t 3)), o 18 (.ld false 1 (.t 17)), o 19 (.fadr 1 (.t 3)),
 o 20 (.ld false 1 (.t 19)), o 21 (.bin .gtr (.t 18) (.t 20)), o 22 (.call true true 0 (.fn 107) [.t 21, ci 11]),
 o 23 (.bslice false 1 [.p (.int .i64 0)] 3 [(0, .t 11), (1, .t 16), (2, .t 22)]), o 24 (.call true true 0 (.fn 92) [.t 23]), o 6 (.mv (.t 24))] [6])
 (.ret))⟩

/-- crumple/pulse.sized -/
def c106 : AFunc := ⟨14, [.tmp 4],
 .seq (.ops [o 4 (.mv (ci 0))] [0, 1])
 (.seq (.ops [o 5 (.mv (.t 0)), o 6 (.bin .eql (.t 5) (ci 0)), o 7 (.call true true 0 (.fn 107) [.t 6, ci 12]), o 8 (.mv (.t 0)), o 9 (.mv (.t 1)),
 o 10 (.bin .gtr (.t 8) (.t 9)), o 11 (.call true true 0 (.fn 107) [.t 10, ci 5]), o 12 (.bslice false 1 [.p (.int .i64 0)] 2 [(0, .t 7), (1, .t 11)]),
 o 13 (.call true true 0 (.fn 92) [.t 12]), o 4 (.mv (.t 13))] [4])
 (.ret))⟩

/-- crumple/pulse.when -/
def c107 : AFunc := ⟨7, [.tmp 4],
 .seq (.ops [o 4 (.mv (ci 0))] [0, 1])
 (.seq (.seq (.ops [o 5 (.mv (.t 0))] [1, 5])
 (.cond (.t 5)
 (.seq (.ops [o 6 (.mv (.t 1)), o 4 (.mv (.t 6))] [4])
 (.ret))
 (.skip)))
 (.seq (.ops [o 4 (.mv (ci 0))] [4])
 (.ret)))⟩

/-- crumple/pulse.checkFor -/
def c108 : AFunc := ⟨15, [.tmp 4],
 .seq (.ops [o 4 (.mv (ci 0))] [0, 1])
 (.seq (.ops [o 5 (.mv (.t 1)), o 6 (.len 1 (.t 5)), o 7 (.mv (.t 0)), o 8 (.len 1 (.t 7)), o 9 (.bin .neq (.t 6) (.t 8)), o 10 (.call true true 0 (.fn 107) [.t 9, ci 2]),
 o 11 (.mv (.t 1)), o 12 (.call true true 0 (.fn 151) [.t 11]), o 13 (.bslice false 1 [.p (.int .i64 0)] 2 [(0, .t 10), (1, .t 12)]),
 o 14 (.call true true 0 (.fn 92) [.t 13]), o 4 (.mv (.t 14))] [4])
 (.ret))⟩

/-- crumple/pulse.excess -/
def c109L0 : ACode :=
 .seq (.ops [o 15 (.bin .lss (.t 14) (.t 13))] [0, 6, 7, 12, 13, 14, 15])
 (.seq (.cond (.t 15)
 (.skip)
 (.exit 0))
 (.seq (.block 1 (.seq (.ops [o 16 (.mv (.t 14)), o 17 (.iadr 1 (.t 12) (.t 14)), o 18 (.ld false 1 (.t 17)), o 8 (.mv (.t 16)),
 o 9 (.mv (.t 18))] [0, 6, 7, 8, 9, 12, 13, 14])
 (.seq (.opsd [(0, 1), (1, 1), (2, 1), (3, 1), (4, 1), (5, 1), (6, 1), (7, 1), (8, 1), (9, 1), (10, 1), (11, 2), (12, 0)] [o 19 (.mv (.t 0)), o 20 (.mv (.t 8)),
 o 21 (.iadr 2 (.t 19) (.t 20)), o 22 (.fadr 0 (.t 21)), o 23 (.ld false 1 (.t 22)), o 24 (.mv (.t 0)), o 25 (.mv (.t 8)), o 26 (.iadr 2 (.t 24) (.t 25)),
 o 27 (.fadr 1 (.t 26)), o 28 (.ld false 1 (.t 27)), o 29 (.build [.p (.int .i64 0), .p (.int .i64 0)] [(0, 1, .t 23), (1, 1, .t 28)]),
 o 10 (.alloc true 1 [.p (.int .i64 0), .p (.int .i64 0)]), u (.st 2 (.t 10) (.t 29))] [0, 6, 7, 8, 9, 10, 12, 13, 14])
 (.seq (.seq (.ops [o 30 (.ld true 2 (.t 10)), o 31 (.mv (.t 9)), o 32 (.mv (.t 9)), o 33 (.build [.p (.int .i64 0), .p (.int .i64 0)] [(0, 1, .t 31), (1, 1, .t 32)]),
 o 34 (.eqagg [0, 0] false (.t 30) (.t 33))] [0, 6, 7, 8, 9, 10, 12, 13, 14, 34])
 (.cond (.t 34)
 (.exit 1)
 (.skip)))
 (.seq (.ops [o 35 (.iadra 1 2 (.t 10) (ci 0)), o 36 (.ld false 1 (.t 35)), o 37 (.mv (.t 9)), o 38 (.bin .sub (.t 36) (.t 37)), o 39 (.mv (.t 9)),
 o 40 (.iadra 1 2 (.t 10) (ci 1)), o 41 (.ld false 1 (.t 40)), o 42 (.bin .sub (.t 39) (.t 41)), o 43 (.max [.t 38, .t 42]),
 o 11 (.mv (.t 43))] [0, 6, 7, 8, 11, 12, 13, 14])
 (.seq (.ops [o 44 (.mv (.t 11)), o 45 (.mv (.t 6)), o 46 (.bin .gtr (.t 44) (.t 45))] [0, 6, 7, 8, 11, 12, 13, 14, 46])
 (.cond (.t 46)
 (.ops [o 47 (.mv (.t 11)), o 48 (.mv (.t 8)), o 6 (.mv (.t 47)), o 7 (.mv (.t 48))] [0, 6, 7, 12, 13, 14])
 (.skip))))))))
 (.ops [o 49 (.bin .add (.t 14) (ci 1)), o 14 (.mv (.t 49))] [0, 6, 7, 12, 13, 14])))
def c109 : AFunc := ⟨52, [.tmp 4, .tmp 5],
 .seq (.ops [o 4 (.mv (ci 0)), o 5 (.mv (ci 0))] [0, 1])
 (.seq (.ops [o 6 (.mv (ci 0)), o 7 (.mv (ci 0))] [0, 1, 6, 7])
 (.seq (.seq (.ops [o 12 (.mv (.t 1)), o 13 (.len 1 (.t 12)), o 14 (.mv (ci 0))] [0, 6, 7, 12, 13, 14])
 (.block 0 (.loop true [0, 6, 7, 12, 13, 14] c109L0)))
 (.seq (.ops [o 50 (.mv (.t 6)), o 51 (.mv (.t 7)), o 4 (.mv (.t 50)), o 5 (.mv (.t 51))] [4, 5])
 (.ret))))⟩

/-- crumple/pulse.checkPulse -/
def c110 : AFunc := ⟨10, [.tmp 2],
 .seq (.ops [o 2 (.mv (ci 0))] [0])
 (.seq (.ops [o 3 (.mv (.t 0)), o 4 (.len 1 (.t 3)), o 5 (.call true true 0 (.fn 106) [.t 4, ci 64]), o 6 (.mv (.t 0)), o 7 (.call true true 0 (.fn 151) [.t 6]),
 o 8 (.bslice false 1 [.p (.int .i64 0)] 2 [(0, .t 5), (1, .t 7)]), o 9 (.call true true 0 (.fn 92) [.t 8]), o 2 (.mv (.t 9))] [2])
 (.ret))⟩

/-- crumple/pulse.sums -/
def c111 : AFunc := ⟨7, [.tmp 2],
 .seq (.ops [o 2 (.mv (cn))] [0])
 (.seq (.ops [o 3 (.alloc true 1 [.p (.int .i64 0)]), u (.st 1 (.t 3) (ci 0))] [0, 3])
 (.seq (.ops [o 4 (.mv (.t 0)), o 5 (.mkclo 153 [] [.t 3]), o 6 (.call false false 0 (.fn 152) [.t 4, .t 5]), o 2 (.mv (.t 6))] [2])
 (.ret)))⟩

/-- crumple/crumpleref08.values -/
def c112L0 : ACode :=
 .seq (.seq (.ops [o 5 (.mv (.t 3)), o 6 (.mv (.t 0)), o 7 (.len 1 (.t 6)), o 8 (.bin .lss (.t 5) (.t 7))] [0, 3, 8])
 (.cond (.t 8)
 (.skip)
 (.exit 0)))
 (.seq (.block 1 (.seq (.ops [o 11 (.mv (.t 0)), o 12 (.mv (.t 3)), o 13 (.iadr 1 (.t 11) (.t 12)), o 14 (.ld false 1 (.t 13)),
 o 15 (.call true true 0 (.fn 101) [.t 14, ci (-100000), ci 100000]), o 4 (.mv (.t 15))] [0, 3, 4])
 (.seq (.ops [o 16 (.mv (.t 4)), o 17 (.bin .neq (.t 16) (ci 0))] [0, 3, 4, 17])
 (.cond (.t 17)
 (.seq (.ops [o 18 (.mv (.t 4)), o 2 (.mv (.t 18))] [2])
 (.ret))
 (.skip)))))
 (.ops [o 9 (.mv (.t 3)), o 10 (.bin .add (.t 9) (ci 1)), o 3 (.mv (.t 10))] [0, 3]))
def c112 : AFunc := ⟨19, [.tmp 2],
 .seq (.ops [o 2 (.mv (ci 0))] [0])
 (.seq (.seq (.ops [o 3 (.mv (ci 0))] [0, 3])
 (.block 0 (.loop false [0, 3] c112L0)))
 (.seq (.ops [o 2 (.mv (ci 0))] [2])
 (.ret)))⟩

/-- crumple/pulse.mapped[crumple/api.Interval,crumple/api.Errno] -/
def c113L0 : ACode :=
 .seq (.ops [o 11 (.bin .lss (.t 10) (.t 9))] [1, 5, 8, 9, 10, 11])
 (.seq (.cond (.t 11)
 (.skip)
 (.exit 0))
 (.seq (.block 1 (.seq (.ops [o 12 (.iadr 2 (.t 8) (.t 10)), o 13 (.ld true 2 (.t 12)), o 7 (.alloc true 1 [.p (.int .i64 0), .p (.int .i64 0)]),
 u (.st 2 (.t 7) (.t 13))] [1, 5, 7, 8, 9, 10])
 (.ops [o 14 (.mv (.t 5)), o 15 (.mv (.t 1)), o 16 (.ld true 2 (.t 7)), o 17 (.call false true 0 (.val (.t 15)) [.t 16]),
 o 18 (.bslice false 1 [.p (.int .i64 0)] 1 [(0, .t 17)]), o 19 (.app 1 8 [.p (.int .i64 0)] (.t 14) (.t 18)), o 5 (.mv (.t 19))] [1, 5, 8, 9, 10])))
 (.ops [o 20 (.bin .add (.t 10) (ci 1)), o 10 (.mv (.t 20))] [1, 5, 8, 9, 10])))
def c113 : AFunc := ⟨22, [.tmp 4],
 .seq (.ops [o 4 (.mv (cn))] [0, 1])
 (.seq (.ops [o 5 (.nilown 1)] [0, 1, 5])
 (.seq (.seq (.ops [o 8 (.mv (.t 0)), o 9 (.len 1 (.t 8)), o 10 (.mv (ci 0))] [1, 5, 8, 9, 10])
 (.block 0 (.loop true [1, 5, 8, 9, 10] c113L0)))
 (.seq (.ops [o 21 (.mv (.t 5)), o 4 (.mv (.t 21))] [4])
 (.ret))))⟩

/-- crumple/pulse.CheckCorridor$1 -/
def c114 : AFunc := ⟨5, [.tmp 2],
 .seq (.ops [o 1 (.box true (.t 0)), o 2 (.mv (ci 0))] [1])
 (.seq (.ops [o 3 (.ld true 2 (.t 1)), o 4 (.call true true 0 (.fn 105) [.t 3, ci 0, ci 10000]), o 2 (.mv (.t 4))] [2])
 (.ret))⟩

/-- (crumple/pulse.Sled).checkSafe -/
def c115 : AFunc := ⟨26, [.tmp 6],
 .seq (.ops [o 3 (.box true (.t 0)), o 6 (.mv (ci 0))] [1, 2, 3])
 (.seq (.seq (.ops [o 8 (.ld true 5 (.t 3)), o 9 (.call true true 0 (.fn 27) [.t 8]), o 10 (.mv (.t 1)), o 11 (.call true true 0 (.fn 28) [.t 10]), o 12 (.mv (.t 2)),
 o 13 (.call true true 0 (.fn 43) [.t 12]), o 14 (.bslice false 1 [.p (.int .i64 0)] 3 [(0, .t 9), (1, .t 11), (2, .t 13)]), o 15 (.call true true 0 (.fn 92) [.t 14]),
 o 7 (.mv (.t 15))] [1, 2, 3, 7])
 (.seq (.ops [o 16 (.mv (.t 7)), o 17 (.bin .neq (.t 16) (ci 0))] [1, 2, 3, 7, 17])
 (.cond (.t 17)
 (.seq (.ops [o 18 (.mv (.t 7)), o 6 (.mv (.t 18))] [6])
 (.ret))
 (.skip))))
 (.seq (.ops [o 19 (.ld true 5 (.t 3)), o 20 (.mv (.t 1)), o 21 (.mv (.t 2)), o 22 (.len 1 (.t 21)), o 23 (.call true true 0 (.fn 154) [.t 19, .t 20, .t 22]),
 o 24 (.not (.t 23)), o 25 (.call true true 0 (.fn 107) [.t 24, ci 21]), o 6 (.mv (.t 25))] [6])
 (.ret)))⟩

/-- crumple/pulse.checkStep -/
def c116 : AFunc := ⟨5, [.tmp 2],
 .seq (.ops [o 2 (.mv (ci 0))] [0])
 (.seq (.ops [o 3 (.mv (.t 0)), o 4 (.call true true 0 (.fn 95) [.t 3, ci 1, ci 100]), o 2 (.mv (.t 4))] [2])
 (.ret))⟩

/-- (crumple/pulse.Sled).learned -/
def c117L0 : ACode :=
 .seq (.seq (.ops [o 57 (.mv (.t 17)), o 58 (.mv (.t 14)), o 59 (.bin .lss (.t 57) (.t 58))] [1, 2, 3, 4, 5, 11, 12, 13, 14, 15, 16, 17, 27, 28, 29, 59])
 (.cond (.t 59)
 (.skip)
 (.exit 2)))
 (.seq (.block 3 (.seq (.ops [o 62 (.mv (.t 15)), o 63 (.mv (.t 3)), o 64 (.mv (.t 17)), o 65 (.iadr 1 (.t 63) (.t 64)), o 66 (.ld false 1 (.t 65)),
 o 67 (.bin .mul (ci 2) (.t 66)), o 68 (.bin .add (.t 62) (.t 67)), o 15 (.mv (.t 68))] [1, 2, 3, 4, 5, 11, 12, 13, 14, 15, 16, 17, 27, 28, 29])
 (.opsd [(0, 1), (1, 1), (2, 1), (3, 1), (4, 1), (5, 1), (6, 1), (7, 1), (8, 1), (9, 1), (10, 1), (11, 1), (12, 1), (13, 1)] [o 69 (.mv (.t 16)), o 70 (.mv (.t 2)),
 o 71 (.mv (.t 17)), o 72 (.iadr 2 (.t 70) (.t 71)), o 73 (.fadr 0 (.t 72)), o 74 (.ld false 1 (.t 73)), o 75 (.mv (.t 2)), o 76 (.mv (.t 17)),
 o 77 (.iadr 2 (.t 75) (.t 76)), o 78 (.fadr 1 (.t 77)), o 79 (.ld false 1 (.t 78)), o 80 (.bin .add (.t 74) (.t 79)), o 81 (.bin .add (.t 69) (.t 80)),
 o 16 (.mv (.t 81))] [1, 2, 3, 4, 5, 11, 12, 13, 14, 15, 16, 17, 27, 28, 29])))
 (.ops [o 60 (.mv (.t 17)), o 61 (.bin .add (.t 60) (ci 1)), o 17 (.mv (.t 61))] [1, 2, 3, 4, 5, 11, 12, 13, 14, 15, 16, 17, 27, 28, 29]))
def c117L1 : ACode :=
 .seq (.ops [o 84 (.bin .lss (.t 83) (ci 2))] [1, 2, 3, 4, 5, 11, 12, 13, 15, 16, 27, 28, 29, 82, 83, 84])
 (.seq (.cond (.t 84)
 (.skip)
 (.exit 4))
 (.seq (.block 5 (.seq (.ops [o 85 (.idx true 2 2 (.t 82) (.t 83)), o 19 (.alloc false 1 [.p (.nilf), .p (.int .i64 0)]),
 u (.st 2 (.t 19) (.t 85))] [1, 2, 3, 4, 5, 11, 12, 13, 15, 16, 19, 27, 28, 29, 82, 83])
 (.seq (.seq (.ops [o 86 (.fadr 0 (.t 13)), o 87 (.ld false 1 (.t 86)), o 88 (.mv (.t 2)), o 89 (.len 1 (.t 88)), o 90 (.bin .geq (.t 87) (.t 89)), o 91 (.mv (.t 90)),
 ⟨some 92, .fadr 0 (.t 19), some (91, false)⟩, ⟨some 93, .ld false 1 (.t 92), some (91, false)⟩, ⟨some 94, .mv (.t 15), some (91, false)⟩,
 ⟨some 95, .mv (.t 16), some (91, false)⟩, ⟨some 96, .call false true 0 (.val (.t 93)) [.t 94, .t 95], some (91, false)⟩, ⟨some 97, .not (.t 96), some (91, false)⟩,
 o 98 (.pick (.t 91) (cb true) (.t 97))] [1, 2, 3, 4, 5, 11, 12, 13, 15, 16, 19, 27, 28, 29, 82, 83, 98])
 (.cond (.t 98)
 (.exit 5)
 (.skip)))
 (.seq (.ops [o 99 (.mv (.t 11)), o 100 (.mv (.t 12)), o 101 (.iadr 2 (.t 99) (.t 100)), o 102 (.ld true 2 (.t 101)),
 o 20 (.alloc true 1 [.p (.int .i64 0), .p (.int .i64 0)]), u (.st 2 (.t 20) (.t 102))] [1, 2, 3, 4, 5, 11, 12, 13, 15, 16, 19, 20, 27, 28, 29, 82, 83])
 (.seq (.ops [o 103 (.mv (.t 11)), o 104 (.mv (.t 12)), o 105 (.fadr 1 (.t 20)), o 106 (.ld false 1 (.t 105)), o 107 (.mv (.t 4)), o 108 (.fadr 1 (.t 19)),
 o 109 (.ld false 1 (.t 108)), o 110 (.bin .mul (.t 107) (.t 109)), o 111 (.bin .add (.t 106) (.t 110)), o 112 (.max [ci 0, .t 111]), o 113 (.min [ci 100, .t 112]),
 o 114 (.iadr 2 (.t 103) (.t 104)), o 115 (.fadr 1 (.t 114)), u (.st 1 (.t 115) (.t 113))] [1, 2, 3, 4, 5, 11, 12, 13, 15, 16, 20, 27, 28, 29, 82, 83])
 (.seq (.opsd [(0, 1), (1, 1), (2, 1), (3, 1), (4, 1), (5, 1), (6, 1), (7, 1), (8, 1), (9, 1), (10, 1), (11, 0), (12, 1), (13, 1)] [o 116 (.mv (.t 11)),
 o 117 (.mv (.t 12)), o 118 (.iadr 2 (.t 116) (.t 117)), o 119 (.ld true 2 (.t 118)), o 120 (.ld true 2 (.t 20)), o 121 (.eqagg [0, 0] true (.t 119) (.t 120)),
 o 122 (.mv (.t 121)), ⟨some 123, .ld true 5 (.t 5), some (122, true)⟩, ⟨some 124, .mv (.t 11), some (122, true)⟩, ⟨some 125, .mv (.t 2), some (122, true)⟩,
 ⟨some 126, .len 1 (.t 125), some (122, true)⟩, ⟨some 127, .call true true 0 (.fn 154) [.t 123, .t 124, .t 126], some (122, true)⟩,
 ⟨some 128, .not (.t 127), some (122, true)⟩, o 129 (.pick (.t 122) (.t 128) (cb false))] [1, 2, 3, 4, 5, 11, 12, 13, 15, 16, 20, 27, 28, 29, 82, 83, 129])
 (.cond (.t 129)
 (.ops [o 130 (.mv (.t 11)), o 131 (.mv (.t 12)), o 132 (.ld true 2 (.t 20)), o 133 (.iadr 2 (.t 130) (.t 131)),
 u (.st 2 (.t 133) (.t 132))] [1, 2, 3, 4, 5, 11, 12, 13, 15, 16, 27, 28, 29, 82, 83])
 (.skip))))))))
 (.ops [o 134 (.bin .add (.t 83) (ci 1)), o 83 (.mv (.t 134))] [1, 2, 3, 4, 5, 11, 12, 13, 15, 16, 27, 28, 29, 82, 83])))
def c117L2 : ACode :=
 .seq (.ops [o 30 (.bin .lss (.t 29) (.t 28))] [1, 2, 3, 4, 5, 11, 27, 28, 29, 30])
 (.seq (.cond (.t 30)
 (.skip)
 (.exit 0))
 (.seq (.block 1 (.seq (.ops [o 31 (.mv (.t 29)), o 32 (.iadr 2 (.t 27) (.t 29)), o 33 (.ld true 2 (.t 32)), o 13 (.alloc true 1 [.p (.int .i64 0), .p (.int .i64 0)]),
 o 12 (.mv (.t 31)), u (.st 2 (.t 13) (.t 33))] [1, 2, 3, 4, 5, 11, 12, 13, 27, 28, 29])
 (.seq (.ops [o 34 (.mv (.t 2)), o 35 (.len 1 (.t 34)), o 14 (.mv (.t 35))] [1, 2, 3, 4, 5, 11, 12, 13, 14, 27, 28, 29])
 (.seq (.seq (.ops [o 36 (.mv (.t 12)), o 37 (.bin .add (.t 36) (ci 1)), o 38 (.mv (.t 1)), o 39 (.len 1 (.t 38)),
 o 40 (.bin .lss (.t 37) (.t 39))] [1, 2, 3, 4, 5, 11, 12, 13, 14, 27, 28, 29, 40])
 (.cond (.t 40)
 (.opsd [(0, 1), (1, 1), (2, 1), (3, 1), (4, 1), (5, 1), (6, 1), (7, 1), (8, 1), (9, 1), (10, 1), (11, 1)] [o 41 (.mv (.t 14)), o 42 (.mv (.t 1)), o 43 (.mv (.t 12)),
 o 44 (.bin .add (.t 43) (ci 1)), o 45 (.iadr 2 (.t 42) (.t 44)), o 46 (.fadr 0 (.t 45)), o 47 (.ld false 1 (.t 46)), o 48 (.fadr 3 (.t 5)), o 49 (.ld false 1 (.t 48)),
 o 50 (.bin .add (.t 47) (.t 49)), o 51 (.min [.t 41, .t 50]), o 14 (.mv (.t 51))] [1, 2, 3, 4, 5, 11, 12, 13, 14, 27, 28, 29])
 (.skip)))
 (.seq (.ops [o 15 (.mv (ci 0)), o 16 (.mv (ci 0))] [1, 2, 3, 4, 5, 11, 12, 13, 14, 15, 16, 27, 28, 29])
 (.seq (.seq (.ops [o 52 (.fadr 0 (.t 13)), o 53 (.ld false 1 (.t 52)), o 54 (.fadr 3 (.t 5)), o 55 (.ld false 1 (.t 54)), o 56 (.bin .add (.t 53) (.t 55)),
 o 17 (.mv (.t 56))] [1, 2, 3, 4, 5, 11, 12, 13, 14, 15, 16, 17, 27, 28, 29])
 (.block 2 (.loop false [1, 2, 3, 4, 5, 11, 12, 13, 14, 15, 16, 17, 27, 28, 29] c117L0)))
 (.seq (.ops [o 82 (.call true false 0 (.fn 155) []), o 83 (.mv (ci 0))] [1, 2, 3, 4, 5, 11, 12, 13, 15, 16, 27, 28, 29, 82, 83])
 (.block 4 (.loop true [1, 2, 3, 4, 5, 11, 12, 13, 15, 16, 27, 28, 29, 82, 83] c117L1)))))))))
 (.ops [o 135 (.bin .add (.t 29) (ci 1)), o 29 (.mv (.t 135))] [1, 2, 3, 4, 5, 11, 27, 28, 29])))
def c117 : AFunc := ⟨137, [.tmp 10],
 .seq (.ops [o 5 (.box true (.t 0)), o 10 (.mv (cn))] [1, 2, 3, 4, 5])
 (.seq (.ops [o 21 (.mv (.t 1)), o 22 (.len 1 (.t 21)), o 23 (.mkslice 2 [.p (.int .i64 0), .p (.int .i64 0)] (.t 22) (.t 22)), o 11 (.mv (.t 23))] [1, 2, 3, 4, 5, 11])
 (.seq (.ops [o 24 (.mv (.t 11)), o 25 (.mv (.t 1)), o 26 (.copy 2 (.t 24) (.t 25))] [1, 2, 3, 4, 5, 11])
 (.seq (.seq (.ops [o 27 (.mv (.t 1)), o 28 (.len 1 (.t 27)), o 29 (.mv (ci 0))] [1, 2, 3, 4, 5, 11, 27, 28, 29])
 (.block 0 (.loop true [1, 2, 3, 4, 5, 11, 27, 28, 29] c117L2)))
 (.seq (.ops [o 136 (.mv (.t 11)), o 10 (.mv (.t 136))] [10])
 (.ret)))))⟩

/-- slices.Clone[[]crumple/pulse.Step,crumple/pulse.Step] -/
def c118 : AFunc := ⟨8, [.tmp 2],
 .seq (.ops [o 2 (.mv (cn))] [0])
 (.seq (.seq (.ops [o 3 (.mv (.t 0)), o 4 (.eqnil 1 false (.t 3))] [0, 4])
 (.cond (.t 4)
 (.seq (.ops [o 2 (.mv (cn))] [2])
 (.ret))
 (.skip)))
 (.seq (.ops [o 5 (.bslice true 2 [.p (.int .i64 0), .p (.int .i64 0)] 0 []), o 6 (.mv (.t 0)), o 7 (.app 2 16 [.p (.int .i64 0), .p (.int .i64 0)] (.t 5) (.t 6)),
 o 2 (.mv (.t 7))] [2])
 (.ret)))⟩

/-- crumple/crumpleref08.wish -/
def c119L0 : ACode :=
 .seq (.seq (.ops [o 43 (.mv (.t 15)), o 44 (.mv (.t 12)), o 45 (.bin .lss (.t 43) (.t 44))] [2, 3, 12, 13, 14, 15, 45])
 (.cond (.t 45)
 (.skip)
 (.exit 0)))
 (.seq (.block 1 (.opsd [(0, 1), (1, 1), (2, 1), (3, 1), (4, 1), (5, 1), (6, 1), (7, 1), (8, 1), (9, 1), (10, 1), (11, 1), (12, 1), (13, 1), (14, 1), (15, 1), (16, 1), (17, 1), (18, 1), (19, 1), (20, 1), (21, 1)] [o 48 (.mv (.t 13)),
 o 49 (.mv (.t 3)), o 50 (.mv (.t 15)), o 51 (.iadr 1 (.t 49) (.t 50)), o 52 (.ld false 1 (.t 51)), o 53 (.bin .mul (ci 2) (.t 52)), o 54 (.bin .add (.t 48) (.t 53)),
 o 55 (.mv (.t 14)), o 56 (.mv (.t 2)), o 57 (.mv (.t 15)), o 58 (.iadr 2 (.t 56) (.t 57)), o 59 (.fadr 0 (.t 58)), o 60 (.ld false 1 (.t 59)),
 o 61 (.bin .add (.t 55) (.t 60)), o 62 (.mv (.t 2)), o 63 (.mv (.t 15)), o 64 (.iadr 2 (.t 62) (.t 63)), o 65 (.fadr 1 (.t 64)), o 66 (.ld false 1 (.t 65)),
 o 67 (.bin .add (.t 61) (.t 66)), o 13 (.mv (.t 54)), o 14 (.mv (.t 67))] [2, 3, 12, 13, 14, 15]))
 (.ops [o 46 (.mv (.t 15)), o 47 (.bin .add (.t 46) (ci 1)), o 15 (.mv (.t 47))] [2, 3, 12, 13, 14, 15]))
def c119 : AFunc := ⟨74, [.tmp 10],
 .seq (.ops [o 5 (.box true (.t 0)), o 10 (.mv (ci 0))] [1, 2, 3, 4, 5])
 (.seq (.opsd [(0, 1), (1, 1), (2, 1), (3, 1), (4, 1), (5, 1), (6, 1), (7, 1), (8, 1), (9, 1), (10, 1), (11, 1)] [o 16 (.mv (.t 1)), o 17 (.mv (.t 4)),
 o 18 (.iadr 2 (.t 16) (.t 17)), o 19 (.fadr 0 (.t 18)), o 20 (.ld false 1 (.t 19)), o 21 (.fadr 3 (.t 5)), o 22 (.ld false 1 (.t 21)), o 23 (.bin .add (.t 20) (.t 22)),
 o 24 (.mv (.t 2)), o 25 (.len 1 (.t 24)), o 11 (.mv (.t 23)), o 12 (.mv (.t 25))] [1, 2, 3, 4, 5, 11, 12])
 (.seq (.seq (.ops [o 26 (.mv (.t 4)), o 27 (.bin .add (.t 26) (ci 1)), o 28 (.mv (.t 1)), o 29 (.len 1 (.t 28)),
 o 30 (.bin .lss (.t 27) (.t 29))] [1, 2, 3, 4, 5, 11, 12, 30])
 (.cond (.t 30)
 (.opsd [(0, 1), (1, 1), (2, 1), (3, 1), (4, 1), (5, 1), (6, 1), (7, 1), (8, 1), (9, 1), (10, 1), (11, 1)] [o 31 (.mv (.t 12)), o 32 (.mv (.t 1)), o 33 (.mv (.t 4)),
 o 34 (.bin .add (.t 33) (ci 1)), o 35 (.iadr 2 (.t 32) (.t 34)), o 36 (.fadr 0 (.t 35)), o 37 (.ld false 1 (.t 36)), o 38 (.fadr 3 (.t 5)), o 39 (.ld false 1 (.t 38)),
 o 40 (.bin .add (.t 37) (.t 39)), o 41 (.min [.t 31, .t 40]), o 12 (.mv (.t 41))] [2, 3, 11, 12])
 (.skip)))
 (.seq (.ops [o 13 (.mv (ci 0)), o 14 (.mv (ci 0))] [2, 3, 11, 12, 13, 14])
 (.seq (.seq (.ops [o 42 (.mv (.t 11)), o 15 (.mv (.t 42))] [2, 3, 12, 13, 14, 15])
 (.block 0 (.loop false [2, 3, 12, 13, 14, 15] c119L0)))
 (.seq (.seq (.ops [o 68 (.mv (.t 13)), o 69 (.mv (.t 14)), o 70 (.bin .lss (.t 68) (.t 69))] [13, 14, 70])
 (.cond (.t 70)
 (.seq (.ops [o 10 (.mv (ci 1))] [10])
 (.ret))
 (.skip)))
 (.seq (.seq (.ops [o 71 (.mv (.t 13)), o 72 (.mv (.t 14)), o 73 (.bin .gtr (.t 71) (.t 72))] [73])
 (.cond (.t 73)
 (.seq (.ops [o 10 (.mv (ci (-1)))] [10])
 (.ret))
 (.skip)))
 (.seq (.ops [o 10 (.mv (ci 0))] [10])
 (.ret))))))))⟩

/-- crumple/pulse.checkRuns -/
def c120 : AFunc := ⟨14, [.tmp 2],
 .seq (.ops [o 1 (.box false (.t 0)), o 2 (.mv (ci 0))] [1])
 (.seq (.seq (.ops [o 4 (.ld false 1 (.t 1)), o 5 (.len 1 (.t 4)), o 6 (.call true true 0 (.fn 106) [.t 5, ci 8]), o 3 (.mv (.t 6))] [1, 3])
 (.seq (.ops [o 7 (.mv (.t 3)), o 8 (.bin .neq (.t 7) (ci 0))] [1, 3, 8])
 (.cond (.t 8)
 (.seq (.ops [o 9 (.mv (.t 3)), o 2 (.mv (.t 9))] [2])
 (.ret))
 (.skip))))
 (.seq (.ops [o 10 (.ld false 1 (.t 1)), o 11 (.mkclo 157 [] [.t 1]), o 12 (.call true false 0 (.fn 156) [.t 10, .t 11]), o 13 (.call true true 0 (.fn 92) [.t 12]),
 o 2 (.mv (.t 13))] [2])
 (.ret)))⟩

/-- crumple/pulse.spread -/
def c121L0 : ACode :=
 .seq (.ops [o 11 (.bin .lss (.t 10) (.t 9))] [0, 3, 9, 10, 11])
 (.seq (.cond (.t 11)
 (.skip)
 (.exit 0))
 (.seq (.block 1 (.seq (.ops [o 12 (.mv (.t 10)), o 4 (.alloc true 1 [.p (.int .i64 0)]), u (.st 1 (.t 4) (.t 12))] [0, 3, 4, 9, 10])
 (.seq (.ops [o 13 (.mv (.t 0)), o 14 (.mkclo 159 [] [.t 4]), o 15 (.call true false 0 (.fn 158) [.t 13, .t 14]), o 5 (.mv (.t 15))] [0, 3, 5, 9, 10])
 (.ops [o 16 (.mv (.t 3)), o 17 (.mv (.t 5)), o 18 (.call true true 0 (.fn 160) [.t 17]), o 19 (.mv (.t 5)), o 20 (.call true true 0 (.fn 161) [.t 19]),
 o 21 (.build [.p (.int .i64 0), .p (.int .i64 0)] [(0, 1, .t 18), (1, 1, .t 20)]), o 22 (.bslice false 2 [.p (.int .i64 0), .p (.int .i64 0)] 1 [(0, .t 21)]),
 o 23 (.app 2 16 [.p (.int .i64 0), .p (.int .i64 0)] (.t 16) (.t 22)), o 3 (.mv (.t 23))] [0, 3, 9, 10]))))
 (.ops [o 24 (.bin .add (.t 10) (ci 1)), o 10 (.mv (.t 24))] [0, 3, 9, 10])))
def c121 : AFunc := ⟨26, [.tmp 2],
 .seq (.ops [o 2 (.mv (cn))] [0])
 (.seq (.ops [o 3 (.nilown 2)] [0, 3])
 (.seq (.seq (.ops [o 6 (.mv (.t 0)), o 7 (.iadr 1 (.t 6) (ci 0)), o 8 (.ld false 1 (.t 7)), o 9 (.len 1 (.t 8)), o 10 (.mv (ci 0))] [0, 3, 9, 10])
 (.block 0 (.loop true [0, 3, 9, 10] c121L0)))
 (.seq (.ops [o 25 (.mv (.t 3)), o 2 (.mv (.t 25))] [2])
 (.ret))))⟩

/-- crumple/pulse.floor -/
def c122 : AFunc := ⟨17, [.tmp 4],
 .seq (.ops [o 4 (.mv (ci 0))] [0, 1])
 (.seq (.ops [o 6 (.mv (.t 0)), o 7 (.mv (.t 1)), o 8 (.bin .quo (.t 6) (.t 7)), o 5 (.mv (.t 8))] [0, 1, 5])
 (.seq (.seq (.ops [o 9 (.mv (.t 5)), o 10 (.mv (.t 1)), o 11 (.bin .mul (.t 9) (.t 10)), o 12 (.mv (.t 0)), o 13 (.bin .gtr (.t 11) (.t 12))] [5, 13])
 (.cond (.t 13)
 (.ops [o 14 (.mv (.t 5)), o 15 (.bin .sub (.t 14) (ci 1)), o 5 (.mv (.t 15))] [5])
 (.skip)))
 (.seq (.ops [o 16 (.mv (.t 5)), o 4 (.mv (.t 16))] [4])
 (.ret))))⟩

/-- crumple/pulse.Alike$1 -/
def c123 : AFunc := ⟨11, [.tmp 3],
 .seq (.ops [o 2 (.box true (.t 0)), o 3 (.mv (cb false))] [1, 2])
 (.seq (.ops [o 4 (.fadr 1 (.t 2)), o 5 (.ld false 1 (.t 4)), o 6 (.fadr 0 (.t 2)), o 7 (.ld false 1 (.t 6)), o 8 (.bin .sub (.t 5) (.t 7)), o 9 (.ld false 1 (.t 1)),
 o 10 (.bin .gtr (.t 8) (.t 9)), o 3 (.mv (.t 10))] [3])
 (.ret))⟩

/-- crumple/pulse.mapped[int,crumple/api.Interval] -/
def c124L0 : ACode :=
 .seq (.ops [o 11 (.bin .lss (.t 10) (.t 9))] [1, 5, 8, 9, 10, 11])
 (.seq (.cond (.t 11)
 (.skip)
 (.exit 0))
 (.seq (.block 1 (.seq (.ops [o 12 (.iadr 1 (.t 8) (.t 10)), o 13 (.ld false 1 (.t 12)), o 7 (.mv (.t 13))] [1, 5, 7, 8, 9, 10])
 (.ops [o 14 (.mv (.t 5)), o 15 (.mv (.t 1)), o 16 (.mv (.t 7)), o 17 (.call false true 0 (.val (.t 15)) [.t 16]),
 o 18 (.bslice false 2 [.p (.int .i64 0), .p (.int .i64 0)] 1 [(0, .t 17)]), o 19 (.app 2 16 [.p (.int .i64 0), .p (.int .i64 0)] (.t 14) (.t 18)),
 o 5 (.mv (.t 19))] [1, 5, 8, 9, 10])))
 (.ops [o 20 (.bin .add (.t 10) (ci 1)), o 10 (.mv (.t 20))] [1, 5, 8, 9, 10])))
def c124 : AFunc := ⟨22, [.tmp 4],
 .seq (.ops [o 4 (.mv (cn))] [0, 1])
 (.seq (.ops [o 5 (.nilown 2)] [0, 1, 5])
 (.seq (.seq (.ops [o 8 (.mv (.t 0)), o 9 (.len 1 (.t 8)), o 10 (.mv (ci 0))] [1, 5, 8, 9, 10])
 (.block 0 (.loop true [1, 5, 8, 9, 10] c124L0)))
 (.seq (.ops [o 21 (.mv (.t 5)), o 4 (.mv (.t 21))] [4])
 (.ret))))⟩

/-- crumple/pulse.Split$1 -/
def c125 : AFunc := ⟨9, [.cell 3 true 2],
 .seq (.ops [o 3 (.alloc true 1 [.p (.int .i64 0), .p (.int .i64 0)])] [0, 1, 3])
 (.seq (.ops [o 4 (.ld true 3 (.t 1)), o 5 (.mv (.t 0)), o 6 (.fadr 0 (.t 1)), o 7 (.ld false 1 (.t 6)), o 8 (.call true true 0 (.fn 126) [.t 4, .t 5, .t 7]),
 u (.st 2 (.t 3) (.t 8))] [3])
 (.ret))⟩

/-- (crumple/pulse.Slope).part -/
def c126 : AFunc := ⟨22, [.cell 6 true 2],
 .seq (.ops [o 3 (.box true (.t 0)), o 6 (.alloc true 1 [.p (.int .i64 0), .p (.int .i64 0)])] [1, 2, 3, 6])
 (.seq (.opsd [(0, 1), (1, 1), (2, 1), (3, 1), (4, 1), (5, 1), (6, 1), (7, 1), (8, 1), (9, 1), (10, 1), (11, 1), (12, 0), (13, 1), (14, 1), (15, 0)] [o 7 (.mv (.t 1)),
 o 8 (.mv (.t 2)), o 9 (.bin .mul (.t 7) (.t 8)), o 10 (.fadr 2 (.t 3)), o 11 (.ld false 1 (.t 10)), o 12 (.call true true 0 (.fn 122) [.t 9, .t 11]), o 13 (.mv (.t 1)),
 o 14 (.neg (.t 13)), o 15 (.mv (.t 2)), o 16 (.bin .mul (.t 14) (.t 15)), o 17 (.fadr 2 (.t 3)), o 18 (.ld false 1 (.t 17)),
 o 19 (.call true true 0 (.fn 122) [.t 16, .t 18]), o 20 (.neg (.t 19)), o 21 (.build [.p (.int .i64 0), .p (.int .i64 0)] [(0, 1, .t 12), (1, 1, .t 20)]),
 u (.st 2 (.t 6) (.t 21))] [6])
 (.ret))⟩

/-- crumple/pulse.Split$2 -/
def c127 : AFunc := ⟨9, [.cell 3 true 2],
 .seq (.ops [o 3 (.alloc true 1 [.p (.int .i64 0), .p (.int .i64 0)])] [0, 1, 3])
 (.seq (.ops [o 4 (.ld true 3 (.t 1)), o 5 (.mv (.t 0)), o 6 (.fadr 1 (.t 1)), o 7 (.ld false 1 (.t 6)), o 8 (.call true true 0 (.fn 126) [.t 4, .t 5, .t 7]),
 u (.st 2 (.t 3) (.t 8))] [3])
 (.ret))⟩

/-- crumple/crumpleref01.Round -/
def c128 : AFunc := ⟨12, [.tmp 4],
 .seq (.ops [o 4 (.mv (ci 0))] [0, 1])
 (.seq (.ops [o 5 (.mv (.t 0)), o 6 (.bin .mul (ci 2) (.t 5)), o 7 (.mv (.t 1)), o 8 (.bin .add (.t 6) (.t 7)), o 9 (.mv (.t 1)), o 10 (.bin .mul (ci 2) (.t 9)),
 o 11 (.call true true 0 (.fn 104) [.t 8, .t 10]), o 4 (.mv (.t 11))] [4])
 (.ret))⟩

/-- crumple/crumpleref01.Ceil -/
def c129 : AFunc := ⟨10, [.tmp 4],
 .seq (.ops [o 4 (.mv (ci 0))] [0, 1])
 (.seq (.ops [o 5 (.mv (.t 0)), o 6 (.bin .sub (ci 0) (.t 5)), o 7 (.mv (.t 1)), o 8 (.call true true 0 (.fn 104) [.t 6, .t 7]), o 9 (.bin .sub (ci 0) (.t 8)),
 o 4 (.mv (.t 9))] [4])
 (.ret))⟩

/-- crumple/pulse.mapped[crumple/pulse.Step,string] -/
def c131L0 : ACode :=
 .seq (.ops [o 11 (.bin .lss (.t 10) (.t 9))] [1, 5, 8, 9, 10, 11])
 (.seq (.cond (.t 11)
 (.skip)
 (.exit 0))
 (.seq (.block 1 (.seq (.ops [o 12 (.iadr 2 (.t 8) (.t 10)), o 13 (.ld true 2 (.t 12)), o 7 (.alloc true 1 [.p (.int .i64 0), .p (.int .i64 0)]),
 u (.st 2 (.t 7) (.t 13))] [1, 5, 7, 8, 9, 10])
 (.ops [o 14 (.mv (.t 5)), o 15 (.mv (.t 1)), o 16 (.ld true 2 (.t 7)), o 17 (.call false true 0 (.val (.t 15)) [.t 16]),
 o 18 (.bslice false 1 [.p (.str [])] 1 [(0, .t 17)]), o 19 (.app 1 16 [.p (.str [])] (.t 14) (.t 18)), o 5 (.mv (.t 19))] [1, 5, 8, 9, 10])))
 (.ops [o 20 (.bin .add (.t 10) (ci 1)), o 10 (.mv (.t 20))] [1, 5, 8, 9, 10])))
def c131 : AFunc := ⟨22, [.tmp 4],
 .seq (.ops [o 4 (.mv (cn))] [0, 1])
 (.seq (.ops [o 5 (.nilown 1)] [0, 1, 5])
 (.seq (.seq (.ops [o 8 (.mv (.t 0)), o 9 (.len 1 (.t 8)), o 10 (.mv (ci 0))] [1, 5, 8, 9, 10])
 (.block 0 (.loop true [1, 5, 8, 9, 10] c131L0)))
 (.seq (.ops [o 21 (.mv (.t 5)), o 4 (.mv (.t 21))] [4])
 (.ret))))⟩

/-- crumple/pulse.Print$1 -/
def c132 : AFunc := ⟨16, [.tmp 2],
 .seq (.ops [o 1 (.box true (.t 0)), o 2 (.mv (cs []))] [1])
 (.seq (.opsd [(0, 1), (1, 1), (2, 1), (3, 1), (4, 1), (5, 1), (6, 1), (7, 1), (8, 1), (9, 1), (10, 1), (11, 1), (12, 1), (13, 1)] [o 3 (.iadra 1 1 (.g 0) (ci 0)),
 o 4 (.ld false 1 (.t 3)), o 5 (.bin .add (.t 4) (cs [32])), o 6 (.fadr 0 (.t 1)), o 7 (.ld false 1 (.t 6)), o 8 (.call true true 0 (.fn 133) [.t 7]),
 o 9 (.bin .add (.t 5) (.t 8)), o 10 (.bin .add (.t 9) (cs [32])), o 11 (.fadr 1 (.t 1)), o 12 (.ld false 1 (.t 11)), o 13 (.call true true 0 (.fn 133) [.t 12]),
 o 14 (.bin .add (.t 10) (.t 13)), o 15 (.bin .add (.t 14) (cs [10])), o 2 (.mv (.t 15))] [2])
 (.ret))⟩

/-- strconv.Itoa -/
def c133 : AFunc := ⟨5, [.tmp 2],
 .seq (.ops [o 2 (.mv (cs []))] [0])
 (.seq (.ops [o 3 (.mv (.t 0)), o 4 (.call true true 0 (.fn 165) [.t 3]), o 2 (.mv (.t 4))] [2])
 (.ret))⟩

/-- strings.Lines -/
def c134 : AFunc := ⟨4, [.tmp 2],
 .seq (.ops [o 1 (.box true (.t 0)), o 2 (.mv (.c (.p (.nilf))))] [1])
 (.seq (.ops [o 3 (.mkclo 166 [] [.t 1]), o 2 (.mv (.t 3))] [2])
 (.ret))⟩

/-- strings.CutSuffix -/
def c135 : AFunc := ⟨11, [.tmp 4, .tmp 5],
 .seq (.ops [o 4 (.mv (cs [])), o 5 (.mv (cb false))] [0, 1])
 (.seq (.ops [o 6 (.mv (.t 0)), o 7 (.mv (.t 1)), o 8 (.call true true 0 (.fn 168) [.t 6, .t 7]), o 9 (.ext (.t 8) 0), o 10 (.ext (.t 8) 1), o 4 (.mv (.t 9)),
 o 5 (.mv (.t 10))] [4, 5])
 (.ret))⟩

/-- strings.Split -/
def c136 : AFunc := ⟨8, [.tmp 4],
 .seq (.ops [o 4 (.mv (cn))] [0, 1])
 (.seq (.ops [o 5 (.mv (.t 0)), o 6 (.mv (.t 1)), o 7 (.call true false 0 (.fn 169) [.t 5, .t 6, ci 0, ci (-1)]), o 4 (.mv (.t 7))] [4])
 (.ret))⟩

/-- (*crumple/pulse.taker).number -/
def c137 : AFunc := ⟨44, [.tmp 2],
 .seq (.ops [o 2 (.mv (ci 0))] [0])
 (.seq (.seq (.ops [o 5 (.mv (.t 0)), o 6 (.nilck (.t 5)), o 7 (.fadr 0 (.t 6)), o 8 (.ld false 1 (.t 7)), o 9 (.len 1 (.t 8)), o 10 (.bin .eql (.t 9) (ci 0))] [0, 10])
 (.cond (.t 10)
 (.seq (.ops [o 11 (.mv (.t 0)), o 12 (.nilck (.t 11)), o 13 (.fadr 1 (.t 12)), u (.st 1 (.t 13) (cb true))] [])
 (.seq (.ops [o 2 (.mv (ci 0))] [2])
 (.ret)))
 (.skip)))
 (.seq (.ops [o 15 (.mv (.t 0)), o 16 (.nilck (.t 15)), o 17 (.fadr 0 (.t 16)), o 18 (.ld false 1 (.t 17)), o 19 (.iadr 1 (.t 18) (ci 0)), o 20 (.ld false 1 (.t 19)),
 o 21 (.call true true 0 (.fn 170) [.t 20]), o 14 (.mv (.t 21)), o 22 (.ext (.t 14) 0), o 23 (.ext (.t 14) 1), o 3 (.mv (.t 22)), o 4 (.mv (.t 23))] [0, 3, 4])
 (.seq (.ops [o 24 (.mv (.t 0)), o 25 (.mv (.t 0)), o 26 (.nilck (.t 25)), o 27 (.fadr 0 (.t 26)), o 28 (.ld false 1 (.t 27)), o 29 (.slc 1 (.t 28) (some (ci 1)) none),
 o 30 (.nilck (.t 24)), o 31 (.fadr 0 (.t 30)), u (.st 1 (.t 31) (.t 29))] [0, 3, 4])
 (.seq (.ops [o 32 (.mv (.t 0)), o 33 (.mv (.t 0)), o 34 (.nilck (.t 33)), o 35 (.fadr 1 (.t 34)), o 36 (.ld false 1 (.t 35)), o 37 (.mv (.t 36)),
 ⟨some 38, .mv (.t 4), some (37, false)⟩, ⟨some 39, .not (.t 38), some (37, false)⟩, o 40 (.pick (.t 37) (cb true) (.t 39)), o 41 (.nilck (.t 32)), o 42 (.fadr 1 (.t 41)),
 u (.st 1 (.t 42) (.t 40))] [3])
 (.seq (.ops [o 43 (.mv (.t 3)), o 2 (.mv (.t 43))] [2])
 (.ret))))))⟩

/-- crumple/crumpleref01.Text -/
def c138L0 : ACode :=
 .seq (.seq (.ops [o 8 (.mv (.t 4)), o 9 (.bin .neq (.t 8) (ci 0))] [0, 3, 4, 9])
 (.cond (.t 9)
 (.skip)
 (.exit 0)))
 (.seq (.block 1 (.ops [o 12 (.mv (.t 4)), o 13 (.bin .rem (.t 12) (ci 10)), o 14 (.mv (.t 4)), o 15 (.bin .rem (.t 14) (ci 10)), o 16 (.bin .sub (ci 0) (.t 15)),
 o 17 (.max [.t 13, .t 16]), o 18 (.bin .add (ci 48) (.t 17)), o 19 (.conv (.int .u8) (.t 18)), o 20 (.bslice false 1 [.p (.int .u8 0)] 1 [(0, .t 19)]),
 o 21 (.conv .b2s (.t 20)), o 22 (.mv (.t 3)), o 23 (.bin .add (.t 21) (.t 22)), o 3 (.mv (.t 23))] [0, 3, 4]))
 (.ops [o 10 (.mv (.t 4)), o 11 (.bin .quo (.t 10) (ci 10)), o 4 (.mv (.t 11))] [0, 3, 4]))
def c138 : AFunc := ⟨29, [.tmp 2],
 .seq (.ops [o 2 (.mv (cs []))] [0])
 (.seq (.seq (.ops [o 5 (.mv (.t 0)), o 6 (.bin .eql (.t 5) (ci 0))] [0, 6])
 (.cond (.t 6)
 (.seq (.ops [o 2 (.mv (cs [48]))] [2])
 (.ret))
 (.skip)))
 (.seq (.ops [o 3 (.mv (cs []))] [0, 3])
 (.seq (.seq (.ops [o 7 (.mv (.t 0)), o 4 (.mv (.t 7))] [0, 3, 4])
 (.block 0 (.loop false [0, 3, 4] c138L0)))
 (.seq (.seq (.ops [o 24 (.mv (.t 0)), o 25 (.bin .lss (.t 24) (ci 0))] [3, 25])
 (.cond (.t 25)
 (.seq (.ops [o 26 (.mv (.t 3)), o 27 (.bin .add (cs [45]) (.t 26)), o 2 (.mv (.t 27))] [2])
 (.ret))
 (.skip)))
 (.seq (.ops [o 28 (.mv (.t 3)), o 2 (.mv (.t 28))] [2])
 (.ret))))))⟩

/-- crumple/crumpleref01.Digits -/
def c139L0 : ACode :=
 .seq (.seq (.ops [o 23 (.mv (.t 5)), o 24 (.mv (.t 0)), o 25 (.len 0 (.t 24)), o 26 (.bin .lss (.t 23) (.t 25))] [0, 4, 5, 26])
 (.cond (.t 26)
 (.skip)
 (.exit 0)))
 (.seq (.block 1 (.seq (.seq (.ops [o 29 (.mv (.t 0)), o 30 (.mv (.t 5)), o 31 (.idxs (.t 29) (.t 30)), o 32 (.bin .lss (.t 31) (.c (.p (.int .u8 48)))),
 o 33 (.mv (.t 32)), ⟨some 34, .mv (.t 0), some (33, false)⟩, ⟨some 35, .mv (.t 5), some (33, false)⟩, ⟨some 36, .idxs (.t 34) (.t 35), some (33, false)⟩,
 ⟨some 37, .bin .gtr (.t 36) (.c (.p (.int .u8 57))), some (33, false)⟩, o 38 (.pick (.t 33) (cb true) (.t 37))] [0, 4, 5, 38])
 (.cond (.t 38)
 (.seq (.ops [o 2 (.mv (ci 0)), o 3 (.mv (cb false))] [2, 3])
 (.ret))
 (.skip)))
 (.ops [o 39 (.mv (.t 4)), o 40 (.bin .mul (ci 10) (.t 39)), o 41 (.mv (.t 0)), o 42 (.mv (.t 5)), o 43 (.idxs (.t 41) (.t 42)),
 o 44 (.bin .sub (.t 43) (.c (.p (.int .u8 48)))), o 45 (.conv (.int .i64) (.t 44)), o 46 (.bin .add (.t 40) (.t 45)), o 4 (.mv (.t 46))] [0, 4, 5])))
 (.ops [o 27 (.mv (.t 5)), o 28 (.bin .add (.t 27) (ci 1)), o 5 (.mv (.t 28))] [0, 4, 5]))
def c139 : AFunc := ⟨48, [.tmp 2, .tmp 3],
 .seq (.ops [o 2 (.mv (ci 0)), o 3 (.mv (cb false))] [0])
 (.seq (.seq (.ops [o 6 (.mv (.t 0)), o 7 (.bin .eql (.t 6) (cs [])), o 8 (.mv (.t 7)), ⟨some 9, .mv (.t 0), some (8, false)⟩, ⟨some 10, .len 0 (.t 9), some (8, false)⟩,
 ⟨some 11, .bin .gtr (.t 10) (ci 9), some (8, false)⟩, o 12 (.pick (.t 8) (cb true) (.t 11)), o 13 (.mv (.t 12)), ⟨some 14, .mv (.t 0), some (13, false)⟩,
 ⟨some 15, .len 0 (.t 14), some (13, false)⟩, ⟨some 16, .bin .gtr (.t 15) (ci 1), some (13, false)⟩, ⟨some 17, .mv (.t 16), some (13, false)⟩,
 ⟨some 18, .mv (.t 0), some (17, true)⟩, ⟨some 19, .idxs (.t 18) (ci 0), some (17, true)⟩, ⟨some 20, .bin .eql (.t 19) (.c (.p (.int .u8 48))), some (17, true)⟩,
 ⟨some 21, .pick (.t 17) (.t 20) (cb false), some (13, false)⟩, o 22 (.pick (.t 13) (cb true) (.t 21))] [0, 22])
 (.cond (.t 22)
 (.seq (.ops [o 2 (.mv (ci 0)), o 3 (.mv (cb false))] [2, 3])
 (.ret))
 (.skip)))
 (.seq (.ops [o 4 (.mv (ci 0))] [0, 4])
 (.seq (.seq (.ops [o 5 (.mv (ci 0))] [0, 4, 5])
 (.block 0 (.loop false [0, 4, 5] c139L0)))
 (.seq (.ops [o 47 (.mv (.t 4)), o 2 (.mv (.t 47)), o 3 (.mv (cb true))] [2, 3])
 (.ret)))))⟩

/-- crumple/pulse.checkSet -/
def c140L0 : ACode :=
 .seq (.seq (.ops [o 9 (.mv (.t 5)), o 10 (.mv (.t 1)), o 11 (.len 1 (.t 10)), o 12 (.bin .lss (.t 9) (.t 11))] [1, 5, 12])
 (.cond (.t 12)
 (.skip)
 (.exit 0)))
 (.seq (.block 1 (.seq (.opsd [(0, 1), (1, 1), (2, 1), (3, 1), (4, 1), (5, 1), (6, 1), (7, 1), (8, 1), (9, 1)] [o 15 (.mv (.t 1)), o 16 (.mv (.t 5)),
 o 17 (.iadr 1 (.t 15) (.t 16)), o 18 (.ld false 1 (.t 17)), o 19 (.mv (.t 1)), o 20 (.mv (.t 5)), o 21 (.bin .sub (.t 20) (ci 1)), o 22 (.iadr 1 (.t 19) (.t 21)),
 o 23 (.ld false 1 (.t 22)), o 24 (.bin .leq (.t 18) (.t 23))] [1, 5, 24])
 (.cond (.t 24)
 (.seq (.ops [o 4 (.mv (ci 11))] [4])
 (.ret))
 (.skip))))
 (.ops [o 13 (.mv (.t 5)), o 14 (.bin .add (.t 13) (ci 1)), o 5 (.mv (.t 14))] [1, 5]))
def c140 : AFunc := ⟨25, [.tmp 4],
 .seq (.ops [o 2 (.box false (.t 0)), o 4 (.mv (ci 0))] [1, 2])
 (.seq (.seq (.ops [o 6 (.mv (.t 1)), o 7 (.mkclo 172 [] [.t 2]), o 8 (.call true true 0 (.fn 171) [.t 6, .t 7])] [1, 8])
 (.cond (.t 8)
 (.seq (.ops [o 4 (.mv (ci 10))] [4])
 (.ret))
 (.skip)))
 (.seq (.seq (.ops [o 5 (.mv (ci 1))] [1, 5])
 (.block 0 (.loop false [1, 5] c140L0)))
 (.seq (.ops [o 4 (.mv (ci 0))] [4])
 (.ret))))⟩

/-- crumple/pulse.checkTarget -/
def c141 : AFunc := ⟨5, [.tmp 2],
 .seq (.ops [o 1 (.box true (.t 0)), o 2 (.mv (ci 0))] [1])
 (.seq (.ops [o 3 (.ld true 2 (.t 1)), o 4 (.call true true 0 (.fn 105) [.t 3, ci 0, ci 10000000]), o 2 (.mv (.t 4))] [2])
 (.ret))⟩

/-- (crumple/pulse.Pack).impulse -/
def c142 : AFunc := ⟨8, [.tmp 2],
 .seq (.ops [o 1 (.box true (.t 0)), o 2 (.mv (ci 0))] [1])
 (.seq (.ops [o 3 (.fadr 1 (.t 1)), o 4 (.ld false 1 (.t 3)), o 5 (.fadr 2 (.t 1)), o 6 (.ld false 1 (.t 5)), o 7 (.bin .mul (.t 4) (.t 6)), o 2 (.mv (.t 7))] [2])
 (.ret))⟩

/-- (crumple/pulse.chosen).compare -/
def c143 : AFunc := ⟨26, [.tmp 4],
 .seq (.ops [o 2 (.box false (.t 0)), o 3 (.box false (.t 1)), o 4 (.mv (ci 0))] [2, 3])
 (.seq (.opsd [(0, 1), (1, 1), (2, 1), (3, 1), (4, 1), (5, 1), (6, 1), (7, 1), (8, 1), (9, 1), (10, 1), (11, 1), (12, 1), (13, 1), (14, 1), (15, 1), (16, 1), (17, 1), (18, 0), (19, 0), (20, 0), (21, 1)] [o 5 (.fadr 0 (.t 2)),
 o 6 (.fadr 0 (.t 5)), o 7 (.ld false 1 (.t 6)), o 8 (.fadr 0 (.t 3)), o 9 (.fadr 0 (.t 8)), o 10 (.ld false 1 (.t 9)), o 11 (.call true true 0 (.fn 174) [.t 7, .t 10]),
 o 12 (.fadr 2 (.t 2)), o 13 (.ld false 1 (.t 12)), o 14 (.len 1 (.t 13)), o 15 (.fadr 2 (.t 3)), o 16 (.ld false 1 (.t 15)), o 17 (.len 1 (.t 16)),
 o 18 (.call true true 0 (.fn 174) [.t 14, .t 17]), o 19 (.fadr 2 (.t 2)), o 20 (.ld false 1 (.t 19)), o 21 (.fadr 2 (.t 3)), o 22 (.ld false 1 (.t 21)),
 o 23 (.call true true 0 (.fn 175) [.t 20, .t 22]), o 24 (.bslice false 1 [.p (.int .i64 0)] 3 [(0, .t 11), (1, .t 18), (2, .t 23)]),
 o 25 (.call true true 0 (.fn 173) [.t 24]), o 4 (.mv (.t 25))] [4])
 (.ret))⟩

/-- crumple/pulse.sets -/
def c144 : AFunc := ⟨4, [.tmp 2],
 .seq (.ops [o 1 (.box false (.t 0)), o 2 (.mv (.c (.p (.nilf))))] [1])
 (.seq (.ops [o 3 (.mkclo 176 [] [.t 1]), o 2 (.mv (.t 3))] [2])
 (.ret))⟩

/-- crumple/crumpleref01.CheckName -/
def c145 : AFunc := ⟨7, [.tmp 2],
 .seq (.ops [o 2 (.mv (ci 0))] [0])
 (.seq (.ops [o 3 (.mv (.t 0)), o 4 (.call true true 0 (.fn 177) [.t 3]), o 5 (.not (.t 4)), o 6 (.call true true 0 (.fn 46) [.t 5, ci 8]), o 2 (.mv (.t 6))] [2])
 (.ret))⟩

/-- crumple/crumpleref01.HasWord -/
def c146L0 : ACode :=
 .seq (.seq (.ops [o 6 (.mv (.t 5)), o 7 (.mv (.t 0)), o 8 (.len 1 (.t 7)), o 9 (.bin .lss (.t 6) (.t 8))] [0, 1, 5, 9])
 (.cond (.t 9)
 (.skip)
 (.exit 0)))
 (.seq (.block 1 (.seq (.ops [o 12 (.mv (.t 0)), o 13 (.mv (.t 5)), o 14 (.iadr 1 (.t 12) (.t 13)), o 15 (.ld false 1 (.t 14)), o 16 (.mv (.t 1)),
 o 17 (.bin .eql (.t 15) (.t 16))] [0, 1, 5, 17])
 (.cond (.t 17)
 (.seq (.ops [o 4 (.mv (cb true))] [4])
 (.ret))
 (.skip))))
 (.ops [o 10 (.mv (.t 5)), o 11 (.bin .add (.t 10) (ci 1)), o 5 (.mv (.t 11))] [0, 1, 5]))
def c146 : AFunc := ⟨18, [.tmp 4],
 .seq (.ops [o 4 (.mv (cb false))] [0, 1])
 (.seq (.seq (.ops [o 5 (.mv (ci 0))] [0, 1, 5])
 (.block 0 (.loop false [0, 1, 5] c146L0)))
 (.seq (.ops [o 4 (.mv (cb false))] [4])
 (.ret)))⟩

/-- crumple/crumpleref08.Sum -/
def c147L0 : ACode :=
 .seq (.seq (.ops [o 10 (.mv (.t 8)), o 11 (.mv (.t 1)), o 12 (.len 1 (.t 11)), o 13 (.bin .lss (.t 10) (.t 12))] [0, 1, 6, 7, 8, 13])
 (.cond (.t 13)
 (.skip)
 (.exit 0)))
 (.seq (.block 1 (.seq (.ops [o 16 (.mv (.t 0)), o 17 (.mv (.t 1)), o 18 (.mv (.t 8)), o 19 (.iadr 1 (.t 17) (.t 18)), o 20 (.ld false 1 (.t 19)),
 o 21 (.iadr 4 (.t 16) (.t 20)), o 22 (.ld true 4 (.t 21)), o 9 (.alloc true 1 [.p (.str []), .p (.int .i64 0), .p (.int .i64 0), .p (.int .i64 0)]),
 u (.st 4 (.t 9) (.t 22))] [0, 1, 6, 7, 8, 9])
 (.opsd [(0, 1), (1, 1), (2, 1), (3, 1), (4, 1), (5, 1), (6, 1), (7, 1), (8, 1), (9, 1), (10, 1), (11, 1), (12, 1)] [o 23 (.mv (.t 6)), o 24 (.fadr 1 (.t 9)),
 o 25 (.ld false 1 (.t 24)), o 26 (.fadr 2 (.t 9)), o 27 (.ld false 1 (.t 26)), o 28 (.bin .mul (.t 25) (.t 27)), o 29 (.bin .add (.t 23) (.t 28)), o 30 (.mv (.t 7)),
 o 31 (.fadr 3 (.t 9)), o 32 (.ld false 1 (.t 31)), o 33 (.bin .add (.t 30) (.t 32)), o 6 (.mv (.t 29)), o 7 (.mv (.t 33))] [0, 1, 6, 7, 8])))
 (.ops [o 14 (.mv (.t 8)), o 15 (.bin .add (.t 14) (ci 1)), o 8 (.mv (.t 15))] [0, 1, 6, 7, 8]))
def c147 : AFunc := ⟨36, [.tmp 4, .tmp 5],
 .seq (.ops [o 4 (.mv (ci 0)), o 5 (.mv (ci 0))] [0, 1])
 (.seq (.ops [o 6 (.mv (ci 0)), o 7 (.mv (ci 0))] [0, 1, 6, 7])
 (.seq (.seq (.ops [o 8 (.mv (ci 0))] [0, 1, 6, 7, 8])
 (.block 0 (.loop true [0, 1, 6, 7, 8] c147L0)))
 (.seq (.ops [o 34 (.mv (.t 6)), o 35 (.mv (.t 7)), o 4 (.mv (.t 34)), o 5 (.mv (.t 35))] [4, 5])
 (.ret))))⟩

/-- crumple/crumpleref08.before -/
def c148L0 : ACode :=
 .seq (.seq (.ops [o 16 (.mv (.t 5)), o 17 (.mv (.t 0)), o 18 (.len 1 (.t 17)), o 19 (.bin .lss (.t 16) (.t 18))] [0, 1, 5, 19])
 (.cond (.t 19)
 (.skip)
 (.exit 0)))
 (.seq (.block 1 (.seq (.opsd [(0, 1), (1, 1), (2, 1), (3, 1), (4, 1), (5, 1), (6, 1), (7, 1), (8, 1)] [o 22 (.mv (.t 0)), o 23 (.mv (.t 5)),
 o 24 (.iadr 1 (.t 22) (.t 23)), o 25 (.ld false 1 (.t 24)), o 26 (.mv (.t 1)), o 27 (.mv (.t 5)), o 28 (.iadr 1 (.t 26) (.t 27)), o 29 (.ld false 1 (.t 28)),
 o 30 (.bin .neq (.t 25) (.t 29))] [0, 1, 5, 30])
 (.cond (.t 30)
 (.seq (.opsd [(0, 1), (1, 1), (2, 1), (3, 1), (4, 1), (5, 1), (6, 1), (7, 1), (8, 1), (9, 1)] [o 31 (.mv (.t 0)), o 32 (.mv (.t 5)), o 33 (.iadr 1 (.t 31) (.t 32)),
 o 34 (.ld false 1 (.t 33)), o 35 (.mv (.t 1)), o 36 (.mv (.t 5)), o 37 (.iadr 1 (.t 35) (.t 36)), o 38 (.ld false 1 (.t 37)), o 39 (.bin .lss (.t 34) (.t 38)),
 o 4 (.mv (.t 39))] [4])
 (.ret))
 (.skip))))
 (.ops [o 20 (.mv (.t 5)), o 21 (.bin .add (.t 20) (ci 1)), o 5 (.mv (.t 21))] [0, 1, 5]))
def c148 : AFunc := ⟨40, [.tmp 4],
 .seq (.ops [o 4 (.mv (cb false))] [0, 1])
 (.seq (.seq (.ops [o 6 (.mv (.t 0)), o 7 (.len 1 (.t 6)), o 8 (.mv (.t 1)), o 9 (.len 1 (.t 8)), o 10 (.bin .neq (.t 7) (.t 9))] [0, 1, 10])
 (.cond (.t 10)
 (.seq (.ops [o 11 (.mv (.t 0)), o 12 (.len 1 (.t 11)), o 13 (.mv (.t 1)), o 14 (.len 1 (.t 13)), o 15 (.bin .lss (.t 12) (.t 14)), o 4 (.mv (.t 15))] [4])
 (.ret))
 (.skip)))
 (.seq (.seq (.ops [o 5 (.mv (ci 0))] [0, 1, 5])
 (.block 0 (.loop false [0, 1, 5] c148L0)))
 (.seq (.ops [o 4 (.mv (cb false))] [4])
 (.ret))))⟩

/-- crumple/record.IsName -/
def c149L0 : ACode :=
 .seq (.ops [o 8 (.nxt (.t 7) true), o 9 (.ext (.t 8) 0)] [0, 7, 8, 9])
 (.seq (.cond (.t 9)
 (.skip)
 (.exit 0))
 (.block 1 (.seq (.ops [o 10 (.ext (.t 8) 1), o 11 (.ext (.t 8) 2), o 3 (.mv (.t 10)), o 4 (.mv (.t 11))] [0, 3, 4, 7])
 (.seq (.ops [o 12 (.mv (.t 4)), o 13 (.bin .geq (.t 12) (.c (.p (.int .i32 97)))), o 14 (.mv (.t 13)), ⟨some 15, .mv (.t 4), some (14, true)⟩,
 ⟨some 16, .bin .leq (.t 15) (.c (.p (.int .i32 122))), some (14, true)⟩, o 17 (.pick (.t 14) (.t 16) (cb false)), o 18 (.mv (.t 17)),
 ⟨some 19, .mv (.t 4), some (18, false)⟩, ⟨some 20, .bin .geq (.t 19) (.c (.p (.int .i32 65))), some (18, false)⟩, ⟨some 21, .mv (.t 20), some (18, false)⟩,
 ⟨some 22, .mv (.t 4), some (21, true)⟩, ⟨some 23, .bin .leq (.t 22) (.c (.p (.int .i32 90))), some (21, true)⟩,
 ⟨some 24, .pick (.t 21) (.t 23) (cb false), some (18, false)⟩, o 25 (.pick (.t 18) (cb true) (.t 24)), o 5 (.mv (.t 25))] [0, 3, 4, 5, 7])
 (.seq (.ops [o 26 (.mv (.t 5)), o 27 (.not (.t 26)), o 28 (.mv (.t 27)), ⟨some 29, .mv (.t 3), some (28, true)⟩, ⟨some 30, .bin .eql (.t 29) (ci 0), some (28, true)⟩,
 ⟨some 31, .mv (.t 30), some (28, true)⟩, ⟨some 32, .mv (.t 4), some (31, false)⟩, ⟨some 33, .bin .neq (.t 32) (.c (.p (.int .i32 95))), some (31, false)⟩,
 ⟨some 34, .mv (.t 33), some (31, false)⟩, ⟨some 35, .mv (.t 4), some (34, true)⟩, ⟨some 36, .bin .lss (.t 35) (.c (.p (.int .i32 48))), some (34, true)⟩,
 ⟨some 37, .mv (.t 36), some (34, true)⟩, ⟨some 38, .mv (.t 4), some (37, false)⟩, ⟨some 39, .bin .gtr (.t 38) (.c (.p (.int .i32 57))), some (37, false)⟩,
 ⟨some 40, .pick (.t 37) (cb true) (.t 39), some (34, true)⟩, ⟨some 41, .pick (.t 34) (.t 40) (cb false), some (31, false)⟩,
 ⟨some 42, .pick (.t 31) (cb true) (.t 41), some (28, true)⟩, o 43 (.pick (.t 28) (.t 42) (cb false))] [0, 7, 43])
 (.cond (.t 43)
 (.seq (.ops [o 2 (.mv (cb false))] [2])
 (.ret))
 (.skip)))))))
def c149 : AFunc := ⟨51, [.tmp 2],
 .seq (.ops [o 2 (.mv (cb false))] [0])
 (.seq (.seq (.ops [o 6 (.mv (.t 0)), o 7 (.rngs (.t 6))] [0, 7])
 (.block 0 (.loop false [0, 7] c149L0)))
 (.seq (.ops [o 44 (.mv (.t 0)), o 45 (.bin .neq (.t 44) (cs [])), o 46 (.mv (.t 45)), ⟨some 47, .mv (.t 0), some (46, true)⟩, ⟨some 48, .len 0 (.t 47), some (46, true)⟩,
 ⟨some 49, .bin .leq (.t 48) (ci 24), some (46, true)⟩, o 50 (.pick (.t 46) (.t 49) (cb false)), o 2 (.mv (.t 50))] [2])
 (.ret)))⟩

/-- slices.IndexFunc[[]crumple/api.Interval,crumple/api.Interval] -/
def c150L0 : ACode :=
 .seq (.ops [o 9 (.bin .lss (.t 8) (.t 7))] [0, 1, 7, 8, 9])
 (.seq (.cond (.t 9)
 (.skip)
 (.exit 0))
 (.seq (.block 1 (.seq (.ops [o 10 (.mv (.t 8)), o 5 (.mv (.t 10))] [0, 1, 5, 7, 8])
 (.seq (.ops [o 11 (.mv (.t 1)), o 12 (.mv (.t 0)), o 13 (.mv (.t 5)), o 14 (.iadr 2 (.t 12) (.t 13)), o 15 (.ld true 2 (.t 14)),
 o 16 (.call false true 0 (.val (.t 11)) [.t 15])] [0, 1, 5, 7, 8, 16])
 (.cond (.t 16)
 (.seq (.ops [o 17 (.mv (.t 5)), o 4 (.mv (.t 17))] [4])
 (.ret))
 (.skip)))))
 (.ops [o 18 (.bin .add (.t 8) (ci 1)), o 8 (.mv (.t 18))] [0, 1, 7, 8])))
def c150 : AFunc := ⟨19, [.tmp 4],
 .seq (.ops [o 4 (.mv (ci 0))] [0, 1])
 (.seq (.seq (.ops [o 6 (.mv (.t 0)), o 7 (.len 1 (.t 6)), o 8 (.mv (ci 0))] [0, 1, 7, 8])
 (.block 0 (.loop true [0, 1, 7, 8] c150L0)))
 (.seq (.ops [o 4 (.mv (ci (-1)))] [4])
 (.ret)))⟩

/-- crumple/pulse.checkAccelerations -/
def c151 : AFunc := ⟨6, [.tmp 2],
 .seq (.ops [o 2 (.mv (ci 0))] [0])
 (.seq (.ops [o 3 (.mv (.t 0)), o 4 (.call true false 0 (.fn 178) [.t 3, cf 179]), o 5 (.call true true 0 (.fn 92) [.t 4]), o 2 (.mv (.t 5))] [2])
 (.ret))⟩

/-- crumple/pulse.mapped[int,int] -/
def c152L0 : ACode :=
 .seq (.ops [o 11 (.bin .lss (.t 10) (.t 9))] [1, 5, 8, 9, 10, 11])
 (.seq (.cond (.t 11)
 (.skip)
 (.exit 0))
 (.seq (.block 1 (.seq (.ops [o 12 (.iadr 1 (.t 8) (.t 10)), o 13 (.ld false 1 (.t 12)), o 7 (.mv (.t 13))] [1, 5, 7, 8, 9, 10])
 (.ops [o 14 (.mv (.t 5)), o 15 (.mv (.t 1)), o 16 (.mv (.t 7)), o 17 (.call false true 0 (.val (.t 15)) [.t 16]), o 18 (.bslice false 1 [.p (.int .i64 0)] 1 [(0, .t 17)]),
 o 19 (.app 1 8 [.p (.int .i64 0)] (.t 14) (.t 18)), o 5 (.mv (.t 19))] [1, 5, 8, 9, 10])))
 (.ops [o 20 (.bin .add (.t 10) (ci 1)), o 10 (.mv (.t 20))] [1, 5, 8, 9, 10])))
def c152 : AFunc := ⟨22, [.tmp 4],
 .seq (.ops [o 4 (.mv (cn))] [0, 1])
 (.seq (.ops [o 5 (.nilown 1)] [0, 1, 5])
 (.seq (.seq (.ops [o 8 (.mv (.t 0)), o 9 (.len 1 (.t 8)), o 10 (.mv (ci 0))] [1, 5, 8, 9, 10])
 (.block 0 (.loop true [1, 5, 8, 9, 10] c152L0)))
 (.seq (.ops [o 21 (.mv (.t 5)), o 4 (.mv (.t 21))] [4])
 (.ret))))⟩

/-- crumple/pulse.sums$1 -/
def c153 : AFunc := ⟨8, [.tmp 3],
 .seq (.ops [o 3 (.mv (ci 0))] [0, 1])
 (.seq (.ops [o 4 (.ld false 1 (.t 1)), o 5 (.mv (.t 0)), o 6 (.bin .add (.t 4) (.t 5)), u (.st 1 (.t 1) (.t 6))] [1])
 (.seq (.ops [o 7 (.ld false 1 (.t 1)), o 3 (.mv (.t 7))] [3])
 (.ret)))⟩

/-- (crumple/pulse.Sled).safe -/
def c154 : AFunc := ⟨18, [.tmp 6],
 .seq (.ops [o 3 (.box true (.t 0)), o 6 (.mv (cb false))] [1, 2, 3])
 (.seq (.opsd [(0, 1), (1, 1), (2, 1), (3, 1), (4, 1), (5, 1), (6, 1), (7, 1), (8, 1), (9, 1), (10, 1), (11, 1)] [o 7 (.ld true 5 (.t 3)), o 8 (.mv (.t 1)),
 o 9 (.fadr 0 (.t 3)), o 10 (.fadr 1 (.t 9)), o 11 (.ld false 1 (.t 10)), o 12 (.mv (.t 2)), o 13 (.call true false 0 (.fn 96) [.t 7, .t 8, .t 11, .t 12]),
 o 14 (.call true true 0 (.fn 161) [.t 13]), o 15 (.fadr 4 (.t 3)), o 16 (.ld false 1 (.t 15)), o 17 (.bin .leq (.t 14) (.t 16)), o 6 (.mv (.t 17))] [6])
 (.ret))⟩

/-- crumple/pulse.wishes -/
def c155 : AFunc := ⟨4, [.cell 0 true 4],
 .seq (.ops [o 0 (.alloc false 2 [.p (.nilf), .p (.int .i64 0), .p (.nilf), .p (.int .i64 0)])] [0])
 (.seq (.ops [o 1 (.build [.p (.nilf), .p (.int .i64 0)] [(0, 1, cf 180), (1, 1, ci 1)]), o 2 (.build [.p (.nilf), .p (.int .i64 0)] [(0, 1, cf 181), (1, 1, ci (-1))]),
 o 3 (.build [.p (.nilf), .p (.int .i64 0), .p (.nilf), .p (.int .i64 0)] [(0, 2, .t 1), (2, 2, .t 2)]), u (.st 4 (.t 0) (.t 3))] [0])
 (.ret))⟩

/-- crumple/pulse.mapped[[]int,crumple/api.Errno] -/
def c156L0 : ACode :=
 .seq (.ops [o 11 (.bin .lss (.t 10) (.t 9))] [1, 5, 8, 9, 10, 11])
 (.seq (.cond (.t 11)
 (.skip)
 (.exit 0))
 (.seq (.block 1 (.seq (.ops [o 12 (.iadr 1 (.t 8) (.t 10)), o 13 (.ld false 1 (.t 12)), o 7 (.mv (.t 13))] [1, 5, 7, 8, 9, 10])
 (.ops [o 14 (.mv (.t 5)), o 15 (.mv (.t 1)), o 16 (.mv (.t 7)), o 17 (.call false true 0 (.val (.t 15)) [.t 16]), o 18 (.bslice false 1 [.p (.int .i64 0)] 1 [(0, .t 17)]),
 o 19 (.app 1 8 [.p (.int .i64 0)] (.t 14) (.t 18)), o 5 (.mv (.t 19))] [1, 5, 8, 9, 10])))
 (.ops [o 20 (.bin .add (.t 10) (ci 1)), o 10 (.mv (.t 20))] [1, 5, 8, 9, 10])))
def c156 : AFunc := ⟨22, [.tmp 4],
 .seq (.ops [o 4 (.mv (cn))] [0, 1])
 (.seq (.ops [o 5 (.nilown 1)] [0, 1, 5])
 (.seq (.seq (.ops [o 8 (.mv (.t 0)), o 9 (.len 1 (.t 8)), o 10 (.mv (ci 0))] [1, 5, 8, 9, 10])
 (.block 0 (.loop true [1, 5, 8, 9, 10] c156L0)))
 (.seq (.ops [o 21 (.mv (.t 5)), o 4 (.mv (.t 21))] [4])
 (.ret))))⟩

/-- crumple/pulse.checkRuns$1 -/
def c157 : AFunc := ⟨16, [.tmp 3],
 .seq (.ops [o 3 (.mv (ci 0))] [0, 1])
 (.seq (.opsd [(0, 1), (1, 1), (2, 1), (3, 1), (4, 1), (5, 1), (6, 1), (7, 1), (8, 1), (9, 0), (10, 0), (11, 0), (12, 1)] [o 4 (.mv (.t 0)),
 o 5 (.call true true 0 (.fn 110) [.t 4]), o 6 (.mv (.t 0)), o 7 (.len 1 (.t 6)), o 8 (.ld false 1 (.t 1)), o 9 (.iadr 1 (.t 8) (ci 0)), o 10 (.ld false 1 (.t 9)),
 o 11 (.len 1 (.t 10)), o 12 (.bin .neq (.t 7) (.t 11)), o 13 (.call true true 0 (.fn 107) [.t 12, ci 2]),
 o 14 (.bslice false 1 [.p (.int .i64 0)] 2 [(0, .t 5), (1, .t 13)]), o 15 (.call true true 0 (.fn 92) [.t 14]), o 3 (.mv (.t 15))] [3])
 (.ret))⟩

/-- crumple/pulse.mapped[[]int,int] -/
def c158L0 : ACode :=
 .seq (.ops [o 11 (.bin .lss (.t 10) (.t 9))] [1, 5, 8, 9, 10, 11])
 (.seq (.cond (.t 11)
 (.skip)
 (.exit 0))
 (.seq (.block 1 (.seq (.ops [o 12 (.iadr 1 (.t 8) (.t 10)), o 13 (.ld false 1 (.t 12)), o 7 (.mv (.t 13))] [1, 5, 7, 8, 9, 10])
 (.ops [o 14 (.mv (.t 5)), o 15 (.mv (.t 1)), o 16 (.mv (.t 7)), o 17 (.call false true 0 (.val (.t 15)) [.t 16]), o 18 (.bslice false 1 [.p (.int .i64 0)] 1 [(0, .t 17)]),
 o 19 (.app 1 8 [.p (.int .i64 0)] (.t 14) (.t 18)), o 5 (.mv (.t 19))] [1, 5, 8, 9, 10])))
 (.ops [o 20 (.bin .add (.t 10) (ci 1)), o 10 (.mv (.t 20))] [1, 5, 8, 9, 10])))
def c158 : AFunc := ⟨22, [.tmp 4],
 .seq (.ops [o 4 (.mv (cn))] [0, 1])
 (.seq (.ops [o 5 (.nilown 1)] [0, 1, 5])
 (.seq (.seq (.ops [o 8 (.mv (.t 0)), o 9 (.len 1 (.t 8)), o 10 (.mv (ci 0))] [1, 5, 8, 9, 10])
 (.block 0 (.loop true [1, 5, 8, 9, 10] c158L0)))
 (.seq (.ops [o 21 (.mv (.t 5)), o 4 (.mv (.t 21))] [4])
 (.ret))))⟩

/-- crumple/pulse.spread$1 -/
def c159 : AFunc := ⟨8, [.tmp 3],
 .seq (.ops [o 3 (.mv (ci 0))] [0, 1])
 (.seq (.ops [o 4 (.mv (.t 0)), o 5 (.ld false 1 (.t 1)), o 6 (.iadr 1 (.t 4) (.t 5)), o 7 (.ld false 1 (.t 6)), o 3 (.mv (.t 7))] [3])
 (.ret))⟩

/-- slices.Min[[]int,int] -/
def c160L0 : ACode :=
 .seq (.seq (.ops [o 12 (.mv (.t 4)), o 13 (.mv (.t 0)), o 14 (.len 1 (.t 13)), o 15 (.bin .lss (.t 12) (.t 14))] [0, 3, 4, 15])
 (.cond (.t 15)
 (.skip)
 (.exit 0)))
 (.seq (.block 1 (.ops [o 18 (.mv (.t 3)), o 19 (.mv (.t 0)), o 20 (.mv (.t 4)), o 21 (.iadr 1 (.t 19) (.t 20)), o 22 (.ld false 1 (.t 21)), o 23 (.min [.t 18, .t 22]),
 o 3 (.mv (.t 23))] [0, 3, 4]))
 (.ops [o 16 (.mv (.t 4)), o 17 (.bin .add (.t 16) (ci 1)), o 4 (.mv (.t 17))] [0, 3, 4]))
def c160 : AFunc := ⟨25, [.tmp 2],
 .seq (.ops [o 2 (.mv (ci 0))] [0])
 (.seq (.seq (.ops [o 5 (.mv (.t 0)), o 6 (.len 1 (.t 5)), o 7 (.bin .lss (.t 6) (ci 1))] [0, 7])
 (.cond (.t 7)
 (.ops [o 8 (.fail), u (.fail)] [0])
 (.skip)))
 (.seq (.ops [o 9 (.mv (.t 0)), o 10 (.iadr 1 (.t 9) (ci 0)), o 11 (.ld false 1 (.t 10)), o 3 (.mv (.t 11))] [0, 3])
 (.seq (.seq (.ops [o 4 (.mv (ci 1))] [0, 3, 4])
 (.block 0 (.loop false [0, 3, 4] c160L0)))
 (.seq (.ops [o 24 (.mv (.t 3)), o 2 (.mv (.t 24))] [2])
 (.ret)))))⟩

/-- slices.Max[[]int,int] -/
def c161L0 : ACode :=
 .seq (.seq (.ops [o 12 (.mv (.t 4)), o 13 (.mv (.t 0)), o 14 (.len 1 (.t 13)), o 15 (.bin .lss (.t 12) (.t 14))] [0, 3, 4, 15])
 (.cond (.t 15)
 (.skip)
 (.exit 0)))
 (.seq (.block 1 (.ops [o 18 (.mv (.t 3)), o 19 (.mv (.t 0)), o 20 (.mv (.t 4)), o 21 (.iadr 1 (.t 19) (.t 20)), o 22 (.ld false 1 (.t 21)), o 23 (.max [.t 18, .t 22]),
 o 3 (.mv (.t 23))] [0, 3, 4]))
 (.ops [o 16 (.mv (.t 4)), o 17 (.bin .add (.t 16) (ci 1)), o 4 (.mv (.t 17))] [0, 3, 4]))
def c161 : AFunc := ⟨25, [.tmp 2],
 .seq (.ops [o 2 (.mv (ci 0))] [0])
 (.seq (.seq (.ops [o 5 (.mv (.t 0)), o 6 (.len 1 (.t 5)), o 7 (.bin .lss (.t 6) (ci 1))] [0, 7])
 (.cond (.t 7)
 (.ops [o 8 (.fail), u (.fail)] [0])
 (.skip)))
 (.seq (.ops [o 9 (.mv (.t 0)), o 10 (.iadr 1 (.t 9) (ci 0)), o 11 (.ld false 1 (.t 10)), o 3 (.mv (.t 11))] [0, 3])
 (.seq (.seq (.ops [o 4 (.mv (ci 1))] [0, 3, 4])
 (.block 0 (.loop false [0, 3, 4] c161L0)))
 (.seq (.ops [o 24 (.mv (.t 3)), o 2 (.mv (.t 24))] [2])
 (.ret)))))⟩

/-- internal/strconv.Itoa -/
def c165 : AFunc := ⟨5, [.tmp 2],
 .seq (.ops [o 2 (.mv (cs []))] [0])
 (.seq (.ops [o 3 (.mv (.t 0)), o 4 (.call true true 0 (.fn 184) [.t 3, ci 10]), o 2 (.mv (.t 4))] [2])
 (.ret))⟩

/-- strings.Lines$1 -/
def c166L0 : ACode :=
 .seq (.seq (.ops [o 5 (.ld false 1 (.t 1)), o 6 (.len 0 (.t 5)), o 7 (.bin .gtr (.t 6) (ci 0))] [0, 1, 7])
 (.cond (.t 7)
 (.skip)
 (.exit 0)))
 (.block 1 (.seq (.ops [o 3 (.mv (cs []))] [0, 1])
 (.seq (.seq (.ops [o 8 (.ld false 1 (.t 1)), o 9 (.call true true 0 (.fn 167) [.t 8, .c (.p (.int .u8 10))]), o 4 (.mv (.t 9))] [0, 1, 4])
 (.seq (.ops [o 10 (.mv (.t 4)), o 11 (.bin .geq (.t 10) (ci 0))] [0, 1, 4, 11])
 (.cond (.t 11)
 (.opsd [(0, 1), (1, 1), (2, 1), (3, 1), (4, 1), (5, 1), (6, 1), (7, 1), (8, 1), (9, 0)] [o 12 (.ld false 1 (.t 1)), o 13 (.mv (.t 4)), o 14 (.bin .add (.t 13) (ci 1)),
 o 15 (.slcs (.t 12) none (some (.t 14))), o 16 (.ld false 1 (.t 1)), o 17 (.mv (.t 4)), o 18 (.bin .add (.t 17) (ci 1)), o 19 (.slcs (.t 16) (some (.t 18)) none),
 o 3 (.mv (.t 15)), u (.st 1 (.t 1) (.t 19))] [0, 1, 3])
 (.ops [o 20 (.ld false 1 (.t 1)), o 3 (.mv (.t 20)), u (.st 1 (.t 1) (cs []))] [0, 1, 3]))))
 (.seq (.ops [o 21 (.mv (.t 0)), o 22 (.mv (.t 3)), o 23 (.call false true 0 (.val (.t 21)) [.t 22]), o 24 (.not (.t 23))] [0, 1, 24])
 (.cond (.t 24)
 (.ret)
 (.skip))))))
def c166 : AFunc := ⟨25, [],
 .block 0 (.loop true [0, 1] c166L0)⟩

/-- strings.IndexByte -/
def c167 : AFunc := ⟨8, [.tmp 4],
 .seq (.ops [o 4 (.mv (ci 0))] [0, 1])
 (.seq (.ops [o 5 (.mv (.t 0)), o 6 (.mv (.t 1)), o 7 (.call true true 0 (.fn 185) [.t 5, .t 6]), o 4 (.mv (.t 7))] [4])
 (.ret))⟩

/-- internal/stringslite.CutSuffix -/
def c168 : AFunc := ⟨18, [.tmp 4, .tmp 5],
 .seq (.ops [o 4 (.mv (cs [])), o 5 (.mv (cb false))] [0, 1])
 (.seq (.seq (.ops [o 6 (.mv (.t 0)), o 7 (.mv (.t 1)), o 8 (.call true true 0 (.fn 186) [.t 6, .t 7]), o 9 (.not (.t 8))] [0, 1, 9])
 (.cond (.t 9)
 (.seq (.ops [o 10 (.mv (.t 0)), o 4 (.mv (.t 10)), o 5 (.mv (cb false))] [4, 5])
 (.ret))
 (.skip)))
 (.seq (.ops [o 11 (.mv (.t 0)), o 12 (.mv (.t 0)), o 13 (.len 0 (.t 12)), o 14 (.mv (.t 1)), o 15 (.len 0 (.t 14)), o 16 (.bin .sub (.t 13) (.t 15)),
 o 17 (.slcs (.t 11) none (some (.t 16))), o 4 (.mv (.t 17)), o 5 (.mv (cb true))] [4, 5])
 (.ret)))⟩

/-- strings.genSplit -/
def c169L0 : ACode :=
 .seq (.seq (.ops [o 34 (.mv (.t 10)), o 35 (.mv (.t 3)), o 36 (.bin .lss (.t 34) (.t 35))] [0, 1, 2, 3, 9, 10, 36])
 (.cond (.t 36)
 (.skip)
 (.exit 0)))
 (.block 1 (.seq (.ops [o 37 (.mv (.t 0)), o 38 (.mv (.t 1)), o 39 (.call true true 0 (.fn 189) [.t 37, .t 38]), o 11 (.mv (.t 39))] [0, 1, 2, 3, 9, 10, 11])
 (.seq (.seq (.ops [o 40 (.mv (.t 11)), o 41 (.bin .lss (.t 40) (ci 0))] [0, 1, 2, 3, 9, 10, 11, 41])
 (.cond (.t 41)
 (.exit 0)
 (.skip)))
 (.seq (.ops [o 42 (.mv (.t 9)), o 43 (.mv (.t 10)), o 44 (.mv (.t 0)), o 45 (.mv (.t 11)), o 46 (.mv (.t 2)), o 47 (.bin .add (.t 45) (.t 46)),
 o 48 (.slcs (.t 44) none (some (.t 47))), o 49 (.iadr 1 (.t 42) (.t 43)), u (.st 1 (.t 49) (.t 48))] [0, 1, 2, 3, 9, 10, 11])
 (.seq (.ops [o 50 (.mv (.t 0)), o 51 (.mv (.t 11)), o 52 (.mv (.t 1)), o 53 (.len 0 (.t 52)), o 54 (.bin .add (.t 51) (.t 53)), o 55 (.slcs (.t 50) (some (.t 54)) none),
 o 0 (.mv (.t 55))] [0, 1, 2, 3, 9, 10])
 (.ops [o 56 (.mv (.t 10)), o 57 (.bin .add (.t 56) (ci 1)), o 10 (.mv (.t 57))] [0, 1, 2, 3, 9, 10]))))))
def c169 : AFunc := ⟨66, [.tmp 8],
 .seq (.ops [o 8 (.mv (cn))] [0, 1, 2, 3])
 (.seq (.seq (.ops [o 12 (.mv (.t 3)), o 13 (.bin .eql (.t 12) (ci 0))] [0, 1, 2, 3, 13])
 (.cond (.t 13)
 (.seq (.ops [o 8 (.mv (cn))] [8])
 (.ret))
 (.skip)))
 (.seq (.seq (.ops [o 14 (.mv (.t 1)), o 15 (.bin .eql (.t 14) (cs []))] [0, 1, 2, 3, 15])
 (.cond (.t 15)
 (.seq (.ops [o 16 (.mv (.t 0)), o 17 (.mv (.t 3)), o 18 (.call true false 0 (.fn 187) [.t 16, .t 17]), o 8 (.mv (.t 18))] [8])
 (.ret))
 (.skip)))
 (.seq (.seq (.ops [o 19 (.mv (.t 3)), o 20 (.bin .lss (.t 19) (ci 0))] [0, 1, 2, 3, 20])
 (.cond (.t 20)
 (.ops [o 21 (.mv (.t 0)), o 22 (.mv (.t 1)), o 23 (.call true true 0 (.fn 188) [.t 21, .t 22]), o 24 (.bin .add (.t 23) (ci 1)), o 3 (.mv (.t 24))] [0, 1, 2, 3])
 (.skip)))
 (.seq (.ops [o 25 (.mv (.t 3)), o 26 (.mv (.t 0)), o 27 (.len 0 (.t 26)), o 28 (.bin .add (.t 27) (ci 1)), o 29 (.min [.t 25, .t 28]), o 3 (.mv (.t 29))] [0, 1, 2, 3])
 (.seq (.ops [o 30 (.mv (.t 3)), o 31 (.mkslice 1 [.p (.str [])] (.t 30) (.t 30)), o 9 (.mv (.t 31))] [0, 1, 2, 3, 9])
 (.seq (.ops [o 32 (.mv (.t 3)), o 33 (.bin .sub (.t 32) (ci 1)), o 3 (.mv (.t 33))] [0, 1, 2, 3, 9])
 (.seq (.ops [o 10 (.mv (ci 0))] [0, 1, 2, 3, 9, 10])
 (.seq (.block 0 (.loop false [0, 1, 2, 3, 9, 10] c169L0))
 (.seq (.ops [o 58 (.mv (.t 9)), o 59 (.mv (.t 10)), o 60 (.mv (.t 0)), o 61 (.iadr 1 (.t 58) (.t 59)), u (.st 1 (.t 61) (.t 60))] [9, 10])
 (.seq (.ops [o 62 (.mv (.t 9)), o 63 (.mv (.t 10)), o 64 (.bin .add (.t 63) (ci 1)), o 65 (.slc 1 (.t 62) none (some (.t 64))), o 8 (.mv (.t 65))] [8])
 (.ret)))))))))))⟩

/-- crumple/pulse.integer -/
def c170L0 : ACode :=
 .seq (.ops [o 9 (.nxt (.t 8) true), o 10 (.ext (.t 9) 0)] [0, 4, 8, 9, 10])
 (.seq (.cond (.t 10)
 (.skip)
 (.exit 0))
 (.block 1 (.seq (.ops [o 11 (.ext (.t 9) 2), o 6 (.mv (.t 11))] [0, 4, 6, 8])
 (.seq (.seq (.ops [o 12 (.mv (.t 6)), o 13 (.bin .lss (.t 12) (.c (.p (.int .i32 48)))), o 14 (.mv (.t 13)), ⟨some 15, .mv (.t 6), some (14, false)⟩,
 ⟨some 16, .bin .gtr (.t 15) (.c (.p (.int .i32 57))), some (14, false)⟩, o 17 (.pick (.t 14) (cb true) (.t 16)), o 18 (.mv (.t 17)),
 ⟨some 19, .mv (.t 0), some (18, false)⟩, ⟨some 20, .len 0 (.t 19), some (18, false)⟩, ⟨some 21, .bin .gtr (.t 20) (ci 9), some (18, false)⟩,
 o 22 (.pick (.t 18) (cb true) (.t 21))] [0, 4, 6, 8, 22])
 (.cond (.t 22)
 (.seq (.ops [o 2 (.mv (ci 0)), o 3 (.mv (cb false))] [2, 3])
 (.ret))
 (.skip)))
 (.ops [o 23 (.mv (.t 4)), o 24 (.bin .mul (ci 10) (.t 23)), o 25 (.mv (.t 6)), o 26 (.bin .sub (.t 25) (.c (.p (.int .i32 48)))), o 27 (.conv (.int .i64) (.t 26)),
 o 28 (.bin .add (.t 24) (.t 27)), o 4 (.mv (.t 28))] [0, 4, 8])))))
def c170 : AFunc := ⟨42, [.tmp 2, .tmp 3],
 .seq (.ops [o 2 (.mv (ci 0)), o 3 (.mv (cb false))] [0])
 (.seq (.ops [o 4 (.mv (ci 0))] [0, 4])
 (.seq (.seq (.ops [o 7 (.mv (.t 0)), o 8 (.rngs (.t 7))] [0, 4, 8])
 (.block 0 (.loop false [0, 4, 8] c170L0)))
 (.seq (.opsd [(0, 1), (1, 1), (2, 1), (3, 1), (4, 1), (5, 1), (6, 1), (7, 1), (8, 1), (9, 1), (10, 1), (11, 1), (12, 1), (13, 1), (14, 1)] [o 29 (.mv (.t 4)),
 o 30 (.mv (.t 0)), o 31 (.bin .neq (.t 30) (cs [])), o 32 (.mv (.t 31)), ⟨some 33, .mv (.t 0), some (32, true)⟩, ⟨some 34, .len 0 (.t 33), some (32, true)⟩,
 ⟨some 35, .bin .eql (.t 34) (ci 1), some (32, true)⟩, ⟨some 36, .mv (.t 35), some (32, true)⟩, ⟨some 37, .mv (.t 0), some (36, false)⟩,
 ⟨some 38, .idxs (.t 37) (ci 0), some (36, false)⟩, ⟨some 39, .bin .neq (.t 38) (.c (.p (.int .u8 48))), some (36, false)⟩,
 ⟨some 40, .pick (.t 36) (cb true) (.t 39), some (32, true)⟩, o 41 (.pick (.t 32) (.t 40) (cb false)), o 2 (.mv (.t 29)), o 3 (.mv (.t 41))] [2, 3])
 (.ret))))⟩

/-- slices.ContainsFunc[[]int,int] -/
def c171 : AFunc := ⟨9, [.tmp 4],
 .seq (.ops [o 4 (.mv (cb false))] [0, 1])
 (.seq (.ops [o 5 (.mv (.t 0)), o 6 (.mv (.t 1)), o 7 (.call true true 0 (.fn 190) [.t 5, .t 6]), o 8 (.bin .geq (.t 7) (ci 0)), o 4 (.mv (.t 8))] [4])
 (.ret))⟩

/-- crumple/pulse.checkSet$1 -/
def c172 : AFunc := ⟨12, [.tmp 3],
 .seq (.ops [o 3 (.mv (cb false))] [0, 1])
 (.seq (.ops [o 4 (.mv (.t 0)), o 5 (.bin .lss (.t 4) (ci 0)), o 6 (.mv (.t 5)), ⟨some 7, .mv (.t 0), some (6, false)⟩, ⟨some 8, .ld false 1 (.t 1), some (6, false)⟩,
 ⟨some 9, .len 1 (.t 8), some (6, false)⟩, ⟨some 10, .bin .geq (.t 7) (.t 9), some (6, false)⟩, o 11 (.pick (.t 6) (cb true) (.t 10)), o 3 (.mv (.t 11))] [3])
 (.ret))⟩

/-- cmp.Or[int] -/
def c173L0 : ACode :=
 .seq (.ops [o 9 (.bin .lss (.t 8) (.t 7))] [3, 6, 7, 8, 9])
 (.seq (.cond (.t 9)
 (.skip)
 (.exit 0))
 (.seq (.block 1 (.seq (.ops [o 10 (.iadr 1 (.t 6) (.t 8)), o 11 (.ld false 1 (.t 10)), o 5 (.mv (.t 11))] [3, 5, 6, 7, 8])
 (.seq (.ops [o 12 (.mv (.t 5)), o 13 (.mv (.t 3)), o 14 (.bin .neq (.t 12) (.t 13))] [3, 5, 6, 7, 8, 14])
 (.cond (.t 14)
 (.seq (.ops [o 15 (.mv (.t 5)), o 2 (.mv (.t 15))] [2])
 (.ret))
 (.skip)))))
 (.ops [o 16 (.bin .add (.t 8) (ci 1)), o 8 (.mv (.t 16))] [3, 6, 7, 8])))
def c173 : AFunc := ⟨18, [.tmp 2],
 .seq (.ops [o 2 (.mv (ci 0))] [0])
 (.seq (.ops [o 3 (.mv (ci 0))] [0, 3])
 (.seq (.seq (.ops [o 6 (.mv (.t 0)), o 7 (.len 1 (.t 6)), o 8 (.mv (ci 0))] [3, 6, 7, 8])
 (.block 0 (.loop false [3, 6, 7, 8] c173L0)))
 (.seq (.ops [o 17 (.mv (.t 3)), o 2 (.mv (.t 17))] [2])
 (.ret))))⟩

/-- cmp.Compare[int] -/
def c174 : AFunc := ⟨20, [.tmp 4],
 .seq (.ops [o 4 (.mv (ci 0))] [0, 1])
 (.seq (.ops [o 7 (.mv (.t 0)), o 8 (.call true true 0 (.fn 191) [.t 7]), o 5 (.mv (.t 8))] [0, 1, 5])
 (.seq (.ops [o 9 (.mv (.t 1)), o 10 (.call true true 0 (.fn 191) [.t 9]), o 6 (.mv (.t 10))] [0, 1, 5, 6])
 (.seq (.seq (.ops [o 11 (.mv (.t 5))] [0, 1, 6, 11])
 (.cond (.t 11)
 (.seq (.seq (.ops [o 12 (.mv (.t 6))] [12])
 (.cond (.t 12)
 (.seq (.ops [o 4 (.mv (ci 0))] [4])
 (.ret))
 (.skip)))
 (.seq (.ops [o 4 (.mv (ci (-1)))] [4])
 (.ret)))
 (.skip)))
 (.seq (.seq (.ops [o 13 (.mv (.t 6))] [0, 1, 13])
 (.cond (.t 13)
 (.seq (.ops [o 4 (.mv (ci 1))] [4])
 (.ret))
 (.skip)))
 (.seq (.seq (.ops [o 14 (.mv (.t 0)), o 15 (.mv (.t 1)), o 16 (.bin .lss (.t 14) (.t 15))] [0, 1, 16])
 (.cond (.t 16)
 (.seq (.ops [o 4 (.mv (ci (-1)))] [4])
 (.ret))
 (.skip)))
 (.seq (.seq (.ops [o 17 (.mv (.t 0)), o 18 (.mv (.t 1)), o 19 (.bin .gtr (.t 17) (.t 18))] [19])
 (.cond (.t 19)
 (.seq (.ops [o 4 (.mv (ci 1))] [4])
 (.ret))
 (.skip)))
 (.seq (.ops [o 4 (.mv (ci 0))] [4])
 (.ret))))))))⟩

/-- slices.Compare[[]int,int] -/
def c175L0 : ACode :=
 .seq (.ops [o 12 (.bin .lss (.t 11) (.t 10))] [0, 1, 9, 10, 11, 12])
 (.seq (.cond (.t 12)
 (.skip)
 (.exit 0))
 (.seq (.block 1 (.seq (.ops [o 13 (.mv (.t 11)), o 14 (.iadr 1 (.t 9) (.t 11)), o 15 (.ld false 1 (.t 14)), o 5 (.mv (.t 13)), o 6 (.mv (.t 15))] [0, 1, 5, 6, 9, 10, 11])
 (.seq (.seq (.ops [o 16 (.mv (.t 5)), o 17 (.mv (.t 1)), o 18 (.len 1 (.t 17)), o 19 (.bin .geq (.t 16) (.t 18))] [0, 1, 5, 6, 9, 10, 11, 19])
 (.cond (.t 19)
 (.seq (.ops [o 4 (.mv (ci 1))] [4])
 (.ret))
 (.skip)))
 (.seq (.ops [o 20 (.mv (.t 1)), o 21 (.mv (.t 5)), o 22 (.iadr 1 (.t 20) (.t 21)), o 23 (.ld false 1 (.t 22)), o 7 (.mv (.t 23))] [0, 1, 6, 7, 9, 10, 11])
 (.seq (.ops [o 24 (.mv (.t 6)), o 25 (.mv (.t 7)), o 26 (.call true true 0 (.fn 174) [.t 24, .t 25]), o 8 (.mv (.t 26))] [0, 1, 8, 9, 10, 11])
 (.seq (.ops [o 27 (.mv (.t 8)), o 28 (.bin .neq (.t 27) (ci 0))] [0, 1, 8, 9, 10, 11, 28])
 (.cond (.t 28)
 (.seq (.ops [o 29 (.mv (.t 8)), o 4 (.mv (.t 29))] [4])
 (.ret))
 (.skip))))))))
 (.ops [o 30 (.bin .add (.t 11) (ci 1)), o 11 (.mv (.t 30))] [0, 1, 9, 10, 11])))
def c175 : AFunc := ⟨36, [.tmp 4],
 .seq (.ops [o 4 (.mv (ci 0))] [0, 1])
 (.seq (.seq (.ops [o 9 (.mv (.t 0)), o 10 (.len 1 (.t 9)), o 11 (.mv (ci 0))] [0, 1, 9, 10, 11])
 (.block 0 (.loop false [0, 1, 9, 10, 11] c175L0)))
 (.seq (.seq (.ops [o 31 (.mv (.t 0)), o 32 (.len 1 (.t 31)), o 33 (.mv (.t 1)), o 34 (.len 1 (.t 33)), o 35 (.bin .lss (.t 32) (.t 34))] [35])
 (.cond (.t 35)
 (.seq (.ops [o 4 (.mv (ci (-1)))] [4])
 (.ret))
 (.skip)))
 (.seq (.ops [o 4 (.mv (ci 0))] [4])
 (.ret))))⟩

/-- crumple/pulse.sets$1 -/
def c176L0 : ACode :=
 .seq (.ops [o 16 (.bin .lss (.t 15) (.t 14))] [0, 1, 3, 4, 9, 10, 13, 14, 15, 16])
 (.seq (.cond (.t 16)
 (.skip)
 (.exit 2))
 (.seq (.block 3 (.seq (.ops [o 17 (.mv (.t 15)), o 18 (.iadr 4 (.t 13) (.t 15)), o 19 (.ld true 4 (.t 18)),
 o 6 (.alloc true 1 [.p (.str []), .p (.int .i64 0), .p (.int .i64 0), .p (.int .i64 0)]), o 5 (.mv (.t 17)),
 u (.st 4 (.t 6) (.t 19))] [0, 1, 3, 4, 5, 6, 9, 10, 13, 14, 15])
 (.seq (.ops [o 20 (.mv (.t 3)), o 21 (.mv (.t 5)), o 22 (.shift false (.t 20) (.t 21)), o 23 (.bin .and (.t 22) (ci 1)),
 o 24 (.bin .eql (.t 23) (ci 1))] [0, 1, 3, 4, 5, 6, 9, 10, 13, 14, 15, 24])
 (.cond (.t 24)
 (.seq (.ops [o 25 (.fadr 2 (.t 4)), o 26 (.ld false 1 (.t 25)), o 27 (.mv (.t 5)), o 28 (.bslice false 1 [.p (.int .i64 0)] 1 [(0, .t 27)]),
 o 29 (.app 1 8 [.p (.int .i64 0)] (.t 26) (.t 28)), o 30 (.fadr 2 (.t 4)), u (.st 1 (.t 30) (.t 29))] [0, 1, 3, 4, 6, 9, 10, 13, 14, 15])
 (.seq (.ops [o 31 (.fadr 0 (.t 4)), o 32 (.fadr 0 (.t 31)), o 33 (.ld false 1 (.t 32)), o 34 (.fadr 3 (.t 6)), o 35 (.ld false 1 (.t 34)),
 o 36 (.bin .add (.t 33) (.t 35)), o 37 (.fadr 0 (.t 4)), o 38 (.fadr 0 (.t 37)), u (.st 1 (.t 38) (.t 36))] [0, 1, 3, 4, 6, 9, 10, 13, 14, 15])
 (.opsd [(0, 1), (1, 1), (2, 1), (3, 1), (4, 1), (5, 1), (6, 1), (7, 1), (8, 0)] [o 39 (.fadr 0 (.t 4)), o 40 (.fadr 1 (.t 39)), o 41 (.ld false 1 (.t 40)),
 o 42 (.ld true 4 (.t 6)), o 43 (.call true true 0 (.fn 142) [.t 42]), o 44 (.bin .add (.t 41) (.t 43)), o 45 (.fadr 0 (.t 4)), o 46 (.fadr 1 (.t 45)),
 u (.st 1 (.t 46) (.t 44))] [0, 1, 3, 4, 9, 10, 13, 14, 15])))
 (.skip)))))
 (.ops [o 47 (.bin .add (.t 15) (ci 1)), o 15 (.mv (.t 47))] [0, 1, 3, 4, 9, 10, 13, 14, 15])))
def c176L1 : ACode :=
 .seq (.ops [o 11 (.bin .lss (.t 10) (.t 9))] [0, 1, 9, 10, 11])
 (.seq (.cond (.t 11)
 (.skip)
 (.exit 0))
 (.seq (.block 1 (.seq (.ops [o 12 (.mv (.t 10)), o 3 (.mv (.t 12))] [0, 1, 3, 9, 10])
 (.seq (.ops [o 4 (.alloc false 1 [.p (.int .i64 0), .p (.int .i64 0), .p (.nils)])] [0, 1, 3, 4, 9, 10])
 (.seq (.seq (.ops [o 13 (.ld false 1 (.t 1)), o 14 (.len 1 (.t 13)), o 15 (.mv (ci 0))] [0, 1, 3, 4, 9, 10, 13, 14, 15])
 (.block 2 (.loop true [0, 1, 3, 4, 9, 10, 13, 14, 15] c176L0)))
 (.seq (.ops [o 48 (.mv (.t 0)), o 49 (.ld true 3 (.t 4)), o 50 (.call false true 0 (.val (.t 48)) [.t 49]), o 51 (.not (.t 50))] [0, 1, 9, 10, 51])
 (.cond (.t 51)
 (.ret)
 (.skip)))))))
 (.ops [o 52 (.bin .add (.t 10) (ci 1)), o 10 (.mv (.t 52))] [0, 1, 9, 10])))
def c176 : AFunc := ⟨53, [],
 .seq (.ops [o 7 (.ld false 1 (.t 1)), o 8 (.len 1 (.t 7)), o 9 (.shift true (ci 1) (.t 8)), o 10 (.mv (ci 0))] [0, 1, 9, 10])
 (.block 0 (.loop true [0, 1, 9, 10] c176L1))⟩

/-- crumple/crumpleref01.IsName -/
def c177L0 : ACode :=
 .seq (.seq (.ops [o 14 (.mv (.t 3)), o 15 (.mv (.t 0)), o 16 (.len 0 (.t 15)), o 17 (.bin .lss (.t 14) (.t 16))] [0, 3, 17])
 (.cond (.t 17)
 (.skip)
 (.exit 0)))
 (.seq (.block 1 (.seq (.ops [o 20 (.mv (.t 0)), o 21 (.mv (.t 3)), o 22 (.idxs (.t 20) (.t 21)), o 23 (.bin .geq (.t 22) (.c (.p (.int .u8 65)))), o 24 (.mv (.t 23)),
 ⟨some 25, .mv (.t 0), some (24, true)⟩, ⟨some 26, .mv (.t 3), some (24, true)⟩, ⟨some 27, .idxs (.t 25) (.t 26), some (24, true)⟩,
 ⟨some 28, .bin .leq (.t 27) (.c (.p (.int .u8 90))), some (24, true)⟩, o 29 (.pick (.t 24) (.t 28) (cb false)), o 30 (.mv (.t 29)),
 ⟨some 31, .mv (.t 0), some (30, false)⟩, ⟨some 32, .mv (.t 3), some (30, false)⟩, ⟨some 33, .idxs (.t 31) (.t 32), some (30, false)⟩,
 ⟨some 34, .bin .geq (.t 33) (.c (.p (.int .u8 97))), some (30, false)⟩, ⟨some 35, .mv (.t 34), some (30, false)⟩, ⟨some 36, .mv (.t 0), some (35, true)⟩,
 ⟨some 37, .mv (.t 3), some (35, true)⟩, ⟨some 38, .idxs (.t 36) (.t 37), some (35, true)⟩, ⟨some 39, .bin .leq (.t 38) (.c (.p (.int .u8 122))), some (35, true)⟩,
 ⟨some 40, .pick (.t 35) (.t 39) (cb false), some (30, false)⟩, o 41 (.pick (.t 30) (cb true) (.t 40)), o 4 (.mv (.t 41))] [0, 3, 4])
 (.seq (.ops [o 42 (.mv (.t 0)), o 43 (.mv (.t 3)), o 44 (.idxs (.t 42) (.t 43)), o 45 (.bin .geq (.t 44) (.c (.p (.int .u8 48)))), o 46 (.mv (.t 45)),
 ⟨some 47, .mv (.t 0), some (46, true)⟩, ⟨some 48, .mv (.t 3), some (46, true)⟩, ⟨some 49, .idxs (.t 47) (.t 48), some (46, true)⟩,
 ⟨some 50, .bin .leq (.t 49) (.c (.p (.int .u8 57))), some (46, true)⟩, o 51 (.pick (.t 46) (.t 50) (cb false)), o 52 (.mv (.t 51)),
 ⟨some 53, .mv (.t 0), some (52, false)⟩, ⟨some 54, .mv (.t 3), some (52, false)⟩, ⟨some 55, .idxs (.t 53) (.t 54), some (52, false)⟩,
 ⟨some 56, .bin .eql (.t 55) (.c (.p (.int .u8 95))), some (52, false)⟩, o 57 (.pick (.t 52) (cb true) (.t 56)), o 5 (.mv (.t 57))] [0, 3, 4, 5])
 (.seq (.ops [o 58 (.mv (.t 4)), o 59 (.not (.t 58)), o 60 (.mv (.t 59)), ⟨some 61, .mv (.t 3), some (60, true)⟩, ⟨some 62, .bin .eql (.t 61) (ci 0), some (60, true)⟩,
 ⟨some 63, .mv (.t 62), some (60, true)⟩, ⟨some 64, .mv (.t 5), some (63, false)⟩, ⟨some 65, .not (.t 64), some (63, false)⟩,
 ⟨some 66, .pick (.t 63) (cb true) (.t 65), some (60, true)⟩, o 67 (.pick (.t 60) (.t 66) (cb false))] [0, 3, 67])
 (.cond (.t 67)
 (.seq (.ops [o 2 (.mv (cb false))] [2])
 (.ret))
 (.skip))))))
 (.ops [o 18 (.mv (.t 3)), o 19 (.bin .add (.t 18) (ci 1)), o 3 (.mv (.t 19))] [0, 3]))
def c177 : AFunc := ⟨68, [.tmp 2],
 .seq (.ops [o 2 (.mv (cb false))] [0])
 (.seq (.seq (.ops [o 6 (.mv (.t 0)), o 7 (.len 0 (.t 6)), o 8 (.bin .eql (.t 7) (ci 0)), o 9 (.mv (.t 8)), ⟨some 10, .mv (.t 0), some (9, false)⟩,
 ⟨some 11, .len 0 (.t 10), some (9, false)⟩, ⟨some 12, .bin .gtr (.t 11) (ci 24), some (9, false)⟩, o 13 (.pick (.t 9) (cb true) (.t 12))] [0, 13])
 (.cond (.t 13)
 (.seq (.ops [o 2 (.mv (cb false))] [2])
 (.ret))
 (.skip)))
 (.seq (.seq (.ops [o 3 (.mv (ci 0))] [0, 3])
 (.block 0 (.loop false [0, 3] c177L0)))
 (.seq (.ops [o 2 (.mv (cb true))] [2])
 (.ret))))⟩

/-- crumple/pulse.mapped[int,crumple/api.Errno] -/
def c178L0 : ACode :=
 .seq (.ops [o 11 (.bin .lss (.t 10) (.t 9))] [1, 5, 8, 9, 10, 11])
 (.seq (.cond (.t 11)
 (.skip)
 (.exit 0))
 (.seq (.block 1 (.seq (.ops [o 12 (.iadr 1 (.t 8) (.t 10)), o 13 (.ld false 1 (.t 12)), o 7 (.mv (.t 13))] [1, 5, 7, 8, 9, 10])
 (.ops [o 14 (.mv (.t 5)), o 15 (.mv (.t 1)), o 16 (.mv (.t 7)), o 17 (.call false true 0 (.val (.t 15)) [.t 16]), o 18 (.bslice false 1 [.p (.int .i64 0)] 1 [(0, .t 17)]),
 o 19 (.app 1 8 [.p (.int .i64 0)] (.t 14) (.t 18)), o 5 (.mv (.t 19))] [1, 5, 8, 9, 10])))
 (.ops [o 20 (.bin .add (.t 10) (ci 1)), o 10 (.mv (.t 20))] [1, 5, 8, 9, 10])))
def c178 : AFunc := ⟨22, [.tmp 4],
 .seq (.ops [o 4 (.mv (cn))] [0, 1])
 (.seq (.ops [o 5 (.nilown 1)] [0, 1, 5])
 (.seq (.seq (.ops [o 8 (.mv (.t 0)), o 9 (.len 1 (.t 8)), o 10 (.mv (ci 0))] [1, 5, 8, 9, 10])
 (.block 0 (.loop true [1, 5, 8, 9, 10] c178L0)))
 (.seq (.ops [o 21 (.mv (.t 5)), o 4 (.mv (.t 21))] [4])
 (.ret))))⟩

/-- crumple/pulse.checkAccelerations$1 -/
def c179 : AFunc := ⟨5, [.tmp 2],
 .seq (.ops [o 2 (.mv (ci 0))] [0])
 (.seq (.ops [o 3 (.mv (.t 0)), o 4 (.call true true 0 (.fn 95) [.t 3, ci (-100000), ci 100000]), o 2 (.mv (.t 4))] [2])
 (.ret))⟩

/-- crumple/pulse.wishes$1 -/
def c180 : AFunc := ⟨8, [.tmp 4],
 .seq (.ops [o 4 (.mv (cb false))] [0, 1])
 (.seq (.ops [o 5 (.mv (.t 0)), o 6 (.mv (.t 1)), o 7 (.bin .lss (.t 5) (.t 6)), o 4 (.mv (.t 7))] [4])
 (.ret))⟩

/-- crumple/pulse.wishes$2 -/
def c181 : AFunc := ⟨8, [.tmp 4],
 .seq (.ops [o 4 (.mv (cb false))] [0, 1])
 (.seq (.ops [o 5 (.mv (.t 0)), o 6 (.mv (.t 1)), o 7 (.bin .gtr (.t 5) (.t 6)), o 4 (.mv (.t 7))] [4])
 (.ret))⟩

/-- internal/strconv.FormatInt -/
def c184 : AFunc := ⟨54, [.tmp 4],
 .seq (.ops [o 4 (.mv (cs []))] [0, 1])
 (.seq (.seq (.ops [o 10 (.mv (.t 1)), o 11 (.bin .eql (.t 10) (ci 10))] [0, 1, 11])
 (.cond (.t 11)
 (.seq (.seq (.ops [o 12 (.mv (.t 0)), o 13 (.bin .leq (ci 0) (.t 12)), o 14 (.mv (.t 13)), ⟨some 15, .mv (.t 0), some (14, true)⟩,
 ⟨some 16, .bin .lss (.t 15) (ci 100), some (14, true)⟩, o 17 (.pick (.t 14) (.t 16) (cb false))] [0, 17])
 (.cond (.t 17)
 (.seq (.ops [o 18 (.mv (.t 0)), o 19 (.call true true 0 (.fn 194) [.t 18]), o 4 (.mv (.t 19))] [4])
 (.ret))
 (.skip)))
 (.seq (.ops [o 5 (.alloc true 1 [.p (.int .u8 0), .p (.int .u8 0), .p (.int .u8 0), .p (.int .u8 0), .p (.int .u8 0), .p (.int .u8 0), .p (.int .u8 0), .p (.int .u8 0), .p (.int .u8 0), .p (.int .u8 0), .p (.int .u8 0), .p (.int .u8 0), .p (.int .u8 0), .p (.int .u8 0), .p (.int .u8 0), .p (.int .u8 0), .p (.int .u8 0), .p (.int .u8 0), .p (.int .u8 0), .p (.int .u8 0), .p (.int .u8 0), .p (.int .u8 0), .p (.int .u8 0), .p (.int .u8 0)])] [0, 5])
 (.seq (.ops [o 20 (.mv (.t 0)), o 21 (.conv (.int .u64) (.t 20)), o 6 (.mv (.t 21))] [0, 5, 6])
 (.seq (.seq (.ops [o 22 (.mv (.t 0)), o 23 (.bin .lss (.t 22) (ci 0))] [0, 5, 6, 23])
 (.cond (.t 23)
 (.ops [o 24 (.mv (.t 6)), o 25 (.neg (.t 24)), o 6 (.mv (.t 25))] [0, 5, 6])
 (.skip)))
 (.seq (.ops [o 26 (.mv (.t 6)), o 27 (.call true true 0 (.fn 195) [.t 26]), o 7 (.mv (.t 27))] [0, 5, 6, 7])
 (.seq (.ops [o 28 (.mv (.t 7)), o 29 (.bin .add (ci 1) (.t 28)), o 30 (.slca 1 24 (.t 5) (some (ci 1)) (some (.t 29))), o 31 (.mv (.t 6)),
 o 32 (.call false true 0 (.fn 196) [.t 30, .t 31])] [0, 5, 7])
 (.seq (.seq (.ops [o 33 (.mv (.t 0)), o 34 (.bin .lss (.t 33) (ci 0))] [5, 7, 34])
 (.cond (.t 34)
 (.seq (.ops [o 35 (.iadra 1 24 (.t 5) (ci 0)), u (.st 1 (.t 35) (.c (.p (.int .u8 45))))] [5, 7])
 (.seq (.ops [o 36 (.mv (.t 7)), o 37 (.bin .add (ci 1) (.t 36)), o 38 (.slca 1 24 (.t 5) none (some (.t 37))), o 39 (.conv .b2s (.t 38)), o 4 (.mv (.t 39))] [4])
 (.ret)))
 (.skip)))
 (.seq (.ops [o 40 (.mv (.t 7)), o 41 (.bin .add (ci 1) (.t 40)), o 42 (.slca 1 24 (.t 5) (some (ci 1)) (some (.t 41))), o 43 (.conv .b2s (.t 42)), o 4 (.mv (.t 43))] [4])
 (.ret)))))))))
 (.skip)))
 (.seq (.ops [o 45 (.mv (.t 0)), o 46 (.conv (.int .u64) (.t 45)), o 47 (.mv (.t 1)), o 48 (.mv (.t 0)), o 49 (.bin .lss (.t 48) (ci 0)),
 o 50 (.call false false 0 (.fn 197) [cn, .t 46, .t 47, .t 49, cb false]), o 44 (.mv (.t 50)), o 51 (.ext (.t 44) 0), o 52 (.ext (.t 44) 1), o 8 (.mv (.t 51)),
 o 9 (.mv (.t 52))] [9])
 (.seq (.ops [o 53 (.mv (.t 9)), o 4 (.mv (.t 53))] [4])
 (.ret))))⟩

/-- internal/stringslite.IndexByte -/
def c185 : AFunc := ⟨8, [.tmp 4],
 .seq (.ops [o 4 (.mv (ci 0))] [0, 1])
 (.seq (.ops [o 5 (.mv (.t 0)), o 6 (.mv (.t 1)), o 7 (.call true true 0 (.fn 198) [.t 5, .t 6]), o 4 (.mv (.t 7))] [4])
 (.ret))⟩

/-- internal/stringslite.HasSuffix -/
def c186 : AFunc := ⟨21, [.tmp 4],
 .seq (.ops [o 4 (.mv (cb false))] [0, 1])
 (.seq (.ops [o 5 (.mv (.t 0)), o 6 (.len 0 (.t 5)), o 7 (.mv (.t 1)), o 8 (.len 0 (.t 7)), o 9 (.bin .geq (.t 6) (.t 8)), o 10 (.mv (.t 9)),
 ⟨some 11, .mv (.t 0), some (10, true)⟩, ⟨some 12, .mv (.t 0), some (10, true)⟩, ⟨some 13, .len 0 (.t 12), some (10, true)⟩, ⟨some 14, .mv (.t 1), some (10, true)⟩,
 ⟨some 15, .len 0 (.t 14), some (10, true)⟩, ⟨some 16, .bin .sub (.t 13) (.t 15), some (10, true)⟩, ⟨some 17, .slcs (.t 11) (some (.t 16)) none, some (10, true)⟩,
 ⟨some 18, .mv (.t 1), some (10, true)⟩, ⟨some 19, .bin .eql (.t 17) (.t 18), some (10, true)⟩, o 20 (.pick (.t 10) (.t 19) (cb false)), o 4 (.mv (.t 20))] [4])
 (.ret))⟩

/-- strings.explode -/
def c187L0 : ACode :=
 .seq (.seq (.ops [o 22 (.mv (.t 7)), o 23 (.mv (.t 1)), o 24 (.bin .sub (.t 23) (ci 1)), o 25 (.bin .lss (.t 22) (.t 24))] [0, 1, 6, 7, 25])
 (.cond (.t 25)
 (.skip)
 (.exit 0)))
 (.seq (.block 1 (.seq (.ops [o 29 (.mv (.t 0)), o 30 (.call true true 0 (.fn 200) [.t 29]), o 28 (.mv (.t 30)), o 31 (.ext (.t 28) 0), o 32 (.ext (.t 28) 1),
 o 8 (.mv (.t 31)), o 9 (.mv (.t 32))] [0, 1, 6, 7, 9])
 (.seq (.ops [o 33 (.mv (.t 6)), o 34 (.mv (.t 7)), o 35 (.mv (.t 0)), o 36 (.mv (.t 9)), o 37 (.slcs (.t 35) none (some (.t 36))), o 38 (.iadr 1 (.t 33) (.t 34)),
 u (.st 1 (.t 38) (.t 37))] [0, 1, 6, 7, 9])
 (.ops [o 39 (.mv (.t 0)), o 40 (.mv (.t 9)), o 41 (.slcs (.t 39) (some (.t 40)) none), o 0 (.mv (.t 41))] [0, 1, 6, 7]))))
 (.ops [o 26 (.mv (.t 7)), o 27 (.bin .add (.t 26) (ci 1)), o 7 (.mv (.t 27))] [0, 1, 6, 7]))
def c187 : AFunc := ⟨50, [.tmp 4],
 .seq (.ops [o 4 (.mv (cn))] [0, 1])
 (.seq (.ops [o 10 (.mv (.t 0)), o 11 (.call true true 0 (.fn 199) [.t 10]), o 5 (.mv (.t 11))] [0, 1, 5])
 (.seq (.seq (.ops [o 12 (.mv (.t 1)), o 13 (.bin .lss (.t 12) (ci 0)), o 14 (.mv (.t 13)), ⟨some 15, .mv (.t 1), some (14, false)⟩, ⟨some 16, .mv (.t 5), some (14, false)⟩,
 ⟨some 17, .bin .gtr (.t 15) (.t 16), some (14, false)⟩, o 18 (.pick (.t 14) (cb true) (.t 17))] [0, 1, 5, 18])
 (.cond (.t 18)
 (.ops [o 19 (.mv (.t 5)), o 1 (.mv (.t 19))] [0, 1])
 (.skip)))
 (.seq (.ops [o 20 (.mv (.t 1)), o 21 (.mkslice 1 [.p (.str [])] (.t 20) (.t 20)), o 6 (.mv (.t 21))] [0, 1, 6])
 (.seq (.seq (.ops [o 7 (.mv (ci 0))] [0, 1, 6, 7])
 (.block 0 (.loop false [0, 1, 6, 7] c187L0)))
 (.seq (.seq (.ops [o 42 (.mv (.t 1)), o 43 (.bin .gtr (.t 42) (ci 0))] [0, 1, 6, 43])
 (.cond (.t 43)
 (.ops [o 44 (.mv (.t 6)), o 45 (.mv (.t 1)), o 46 (.bin .sub (.t 45) (ci 1)), o 47 (.mv (.t 0)), o 48 (.iadr 1 (.t 44) (.t 46)), u (.st 1 (.t 48) (.t 47))] [6])
 (.skip)))
 (.seq (.ops [o 49 (.mv (.t 6)), o 4 (.mv (.t 49))] [4])
 (.ret)))))))⟩

/-- strings.Count -/
def c188L0 : ACode :=
 .block 1 (.seq (.ops [o 20 (.mv (.t 0)), o 21 (.mv (.t 1)), o 22 (.call true true 0 (.fn 189) [.t 20, .t 21]), o 6 (.mv (.t 22))] [0, 1, 5, 6])
 (.seq (.seq (.ops [o 23 (.mv (.t 6)), o 24 (.bin .eql (.t 23) (ci (-1)))] [0, 1, 5, 6, 24])
 (.cond (.t 24)
 (.seq (.ops [o 25 (.mv (.t 5)), o 4 (.mv (.t 25))] [4])
 (.ret))
 (.skip)))
 (.seq (.ops [o 26 (.mv (.t 5)), o 27 (.bin .add (.t 26) (ci 1)), o 5 (.mv (.t 27))] [0, 1, 5, 6])
 (.ops [o 28 (.mv (.t 0)), o 29 (.mv (.t 6)), o 30 (.mv (.t 1)), o 31 (.len 0 (.t 30)), o 32 (.bin .add (.t 29) (.t 31)), o 33 (.slcs (.t 28) (some (.t 32)) none),
 o 0 (.mv (.t 33))] [0, 1, 5]))))
def c188 : AFunc := ⟨34, [.tmp 4],
 .seq (.ops [o 4 (.mv (ci 0))] [0, 1])
 (.seq (.seq (.ops [o 7 (.mv (.t 1)), o 8 (.len 0 (.t 7)), o 9 (.bin .eql (.t 8) (ci 0))] [0, 1, 9])
 (.cond (.t 9)
 (.seq (.ops [o 10 (.mv (.t 0)), o 11 (.call true true 0 (.fn 199) [.t 10]), o 12 (.bin .add (.t 11) (ci 1)), o 4 (.mv (.t 12))] [4])
 (.ret))
 (.skip)))
 (.seq (.seq (.ops [o 13 (.mv (.t 1)), o 14 (.len 0 (.t 13)), o 15 (.bin .eql (.t 14) (ci 1))] [0, 1, 15])
 (.cond (.t 15)
 (.seq (.ops [o 16 (.mv (.t 0)), o 17 (.mv (.t 1)), o 18 (.idxs (.t 17) (ci 0)), o 19 (.call true true 0 (.fn 201) [.t 16, .t 18]), o 4 (.mv (.t 19))] [4])
 (.ret))
 (.skip)))
 (.seq (.ops [o 5 (.mv (ci 0))] [0, 1, 5])
 (.block 0 (.loop false [0, 1, 5] c188L0)))))⟩

/-- strings.Index -/
def c189 : AFunc := ⟨8, [.tmp 4],
 .seq (.ops [o 4 (.mv (ci 0))] [0, 1])
 (.seq (.ops [o 5 (.mv (.t 0)), o 6 (.mv (.t 1)), o 7 (.call true true 0 (.fn 202) [.t 5, .t 6]), o 4 (.mv (.t 7))] [4])
 (.ret))⟩

/-- slices.IndexFunc[[]int,int] -/
def c190L0 : ACode :=
 .seq (.ops [o 9 (.bin .lss (.t 8) (.t 7))] [0, 1, 7, 8, 9])
 (.seq (.cond (.t 9)
 (.skip)
 (.exit 0))
 (.seq (.block 1 (.seq (.ops [o 10 (.mv (.t 8)), o 5 (.mv (.t 10))] [0, 1, 5, 7, 8])
 (.seq (.ops [o 11 (.mv (.t 1)), o 12 (.mv (.t 0)), o 13 (.mv (.t 5)), o 14 (.iadr 1 (.t 12) (.t 13)), o 15 (.ld false 1 (.t 14)),
 o 16 (.call false true 0 (.val (.t 11)) [.t 15])] [0, 1, 5, 7, 8, 16])
 (.cond (.t 16)
 (.seq (.ops [o 17 (.mv (.t 5)), o 4 (.mv (.t 17))] [4])
 (.ret))
 (.skip)))))
 (.ops [o 18 (.bin .add (.t 8) (ci 1)), o 8 (.mv (.t 18))] [0, 1, 7, 8])))
def c190 : AFunc := ⟨19, [.tmp 4],
 .seq (.ops [o 4 (.mv (ci 0))] [0, 1])
 (.seq (.seq (.ops [o 6 (.mv (.t 0)), o 7 (.len 1 (.t 6)), o 8 (.mv (ci 0))] [0, 1, 7, 8])
 (.block 0 (.loop true [0, 1, 7, 8] c190L0)))
 (.seq (.ops [o 4 (.mv (ci (-1)))] [4])
 (.ret)))⟩

/-- cmp.isNaN[int] -/
def c191 : AFunc := ⟨6, [.tmp 2],
 .seq (.ops [o 2 (.mv (cb false))] [0])
 (.seq (.ops [o 3 (.mv (.t 0)), o 4 (.mv (.t 0)), o 5 (.bin .neq (.t 3) (.t 4)), o 2 (.mv (.t 5))] [2])
 (.ret))⟩

/-- internal/strconv.small -/
def c194 : AFunc := ⟨15, [.tmp 2],
 .seq (.ops [o 2 (.mv (cs []))] [0])
 (.seq (.seq (.ops [o 3 (.mv (.t 0)), o 4 (.bin .lss (.t 3) (ci 10))] [0, 4])
 (.cond (.t 4)
 (.seq (.ops [o 5 (.mv (.t 0)), o 6 (.mv (.t 0)), o 7 (.bin .add (.t 6) (ci 1)),
 o 8 (.slcs (cs [48, 49, 50, 51, 52, 53, 54, 55, 56, 57, 97, 98, 99, 100, 101, 102, 103, 104, 105, 106, 107, 108, 109, 110, 111, 112, 113, 114, 115, 116, 117, 118, 119, 120, 121, 122]) (some (.t 5)) (some (.t 7))),
 o 2 (.mv (.t 8))] [2])
 (.ret))
 (.skip)))
 (.seq (.ops [o 9 (.mv (.t 0)), o 10 (.bin .mul (.t 9) (ci 2)), o 11 (.mv (.t 0)), o 12 (.bin .mul (.t 11) (ci 2)), o 13 (.bin .add (.t 12) (ci 2)),
 o 14 (.slcs (cs [48, 48, 48, 49, 48, 50, 48, 51, 48, 52, 48, 53, 48, 54, 48, 55, 48, 56, 48, 57, 49, 48, 49, 49, 49, 50, 49, 51, 49, 52, 49, 53, 49, 54, 49, 55, 49, 56, 49, 57, 50, 48, 50, 49, 50, 50, 50, 51, 50, 52, 50, 53, 50, 54, 50, 55, 50, 56, 50, 57, 51, 48, 51, 49, 51, 50, 51, 51, 51, 52, 51, 53, 51, 54, 51, 55, 51, 56, 51, 57, 52, 48, 52, 49, 52, 50, 52, 51, 52, 52, 52, 53, 52, 54, 52, 55, 52, 56, 52, 57, 53, 48, 53, 49, 53, 50, 53, 51, 53, 52, 53, 53, 53, 54, 53, 55, 53, 56, 53, 57, 54, 48, 54, 49, 54, 50, 54, 51, 54, 52, 54, 53, 54, 54, 54, 55, 54, 56, 54, 57, 55, 48, 55, 49, 55, 50, 55, 51, 55, 52, 55, 53, 55, 54, 55, 55, 55, 56, 55, 57, 56, 48, 56, 49, 56, 50, 56, 51, 56, 52, 56, 53, 56, 54, 56, 55, 56, 56, 56, 57, 57, 48, 57, 49, 57, 50, 57, 51, 57, 52, 57, 53, 57, 54, 57, 55, 57, 56, 57, 57]) (some (.t 10)) (some (.t 13))),
 o 2 (.mv (.t 14))] [2])
 (.ret)))⟩

/-- internal/strconv.numDigits -/
def c195 : AFunc := ⟨15, [.tmp 2],
 .seq (.ops [o 2 (.mv (ci 0))] [0])
 (.seq (.ops [o 4 (.mv (.t 0)), o 5 (.call true true 0 (.fn 204) [.t 4]), o 6 (.call true true 0 (.fn 203) [.t 5]), o 3 (.mv (.t 6))] [0, 3])
 (.seq (.ops [o 7 (.mv (.t 3)), o 8 (.mv (.t 0)), o 9 (.mv (.t 3)), o 10 (.iadra 1 20 (.g 2) (.t 9)), o 11 (.ld false 1 (.t 10)), o 12 (.bin .geq (.t 8) (.t 11)),
 o 13 (.call true true 0 (.fn 205) [.t 12]), o 14 (.bin .add (.t 7) (.t 13)), o 2 (.mv (.t 14))] [2])
 (.ret)))⟩

/-- internal/strconv.formatBase10 -/
def c196L0 : ACode :=
 .seq (.seq (.ops [o 19 (.mv (.t 4)), o 20 (.bin .geq (.t 19) (ci 8))] [0, 1, 4, 20])
 (.cond (.t 20)
 (.skip)
 (.exit 0)))
 (.block 1 (.seq (.ops [o 21 (.mv (.t 1)), o 22 (.bin .rem (.t 21) (.c (.p (.int .u64 100000000)))), o 23 (.conv (.int .u32) (.t 22)), o 5 (.mv (.t 23))] [0, 1, 4, 5])
 (.seq (.ops [o 24 (.mv (.t 1)), o 25 (.bin .quo (.t 24) (.c (.p (.int .u64 100000000)))), o 1 (.mv (.t 25))] [0, 1, 4, 5])
 (.seq (.ops [o 26 (.mv (.t 5)), o 27 (.bin .quo (.t 26) (.c (.p (.int .u32 10000)))), o 28 (.mv (.t 5)), o 29 (.bin .rem (.t 28) (.c (.p (.int .u32 10000)))),
 o 6 (.mv (.t 27)), o 7 (.mv (.t 29))] [0, 1, 4, 6, 7])
 (.seq (.ops [o 30 (.mv (.t 7)), o 31 (.bin .quo (.t 30) (.c (.p (.int .u32 100)))), o 32 (.bin .mul (.t 31) (.c (.p (.int .u32 2)))), o 33 (.mv (.t 7)),
 o 34 (.bin .rem (.t 33) (.c (.p (.int .u32 100)))), o 35 (.bin .mul (.t 34) (.c (.p (.int .u32 2)))), o 8 (.mv (.t 32)), o 9 (.mv (.t 35))] [0, 1, 4, 6, 8, 9])
 (.seq (.ops [o 36 (.mv (.t 6)), o 37 (.bin .quo (.t 36) (.c (.p (.int .u32 100)))), o 38 (.bin .mul (.t 37) (.c (.p (.int .u32 2)))), o 39 (.mv (.t 6)),
 o 40 (.bin .rem (.t 39) (.c (.p (.int .u32 100)))), o 41 (.bin .mul (.t 40) (.c (.p (.int .u32 2)))), o 10 (.mv (.t 38)), o 11 (.mv (.t 41))] [0, 1, 4, 8, 9, 10, 11])
 (.seq (.opsd [(0, 1), (1, 1), (2, 1), (3, 1), (4, 1), (5, 1), (6, 1), (7, 1), (8, 1), (9, 1), (10, 1), (11, 1), (12, 0), (13, 1), (14, 0)] [o 42 (.mv (.t 0)),
 o 43 (.mv (.t 4)), o 44 (.bin .sub (.t 43) (ci 1)), o 45 (.mv (.t 0)), o 46 (.mv (.t 4)), o 47 (.bin .sub (.t 46) (ci 2)), o 48 (.mv (.t 9)),
 o 49 (.bin .add (.t 48) (.c (.p (.int .u32 1)))),
 o 50 (.idxs (cs [48, 48, 48, 49, 48, 50, 48, 51, 48, 52, 48, 53, 48, 54, 48, 55, 48, 56, 48, 57, 49, 48, 49, 49, 49, 50, 49, 51, 49, 52, 49, 53, 49, 54, 49, 55, 49, 56, 49, 57, 50, 48, 50, 49, 50, 50, 50, 51, 50, 52, 50, 53, 50, 54, 50, 55, 50, 56, 50, 57, 51, 48, 51, 49, 51, 50, 51, 51, 51, 52, 51, 53, 51, 54, 51, 55, 51, 56, 51, 57, 52, 48, 52, 49, 52, 50, 52, 51, 52, 52, 52, 53, 52, 54, 52, 55, 52, 56, 52, 57, 53, 48, 53, 49, 53, 50, 53, 51, 53, 52, 53, 53, 53, 54, 53, 55, 53, 56, 53, 57, 54, 48, 54, 49, 54, 50, 54, 51, 54, 52, 54, 53, 54, 54, 54, 55, 54, 56, 54, 57, 55, 48, 55, 49, 55, 50, 55, 51, 55, 52, 55, 53, 55, 54, 55, 55, 55, 56, 55, 57, 56, 48, 56, 49, 56, 50, 56, 51, 56, 52, 56, 53, 56, 54, 56, 55, 56, 56, 56, 57, 57, 48, 57, 49, 57, 50, 57, 51, 57, 52, 57, 53, 57, 54, 57, 55, 57, 56, 57, 57]) (.t 49)),
 o 51 (.mv (.t 9)),
 o 52 (.idxs (cs [48, 48, 48, 49, 48, 50, 48, 51, 48, 52, 48, 53, 48, 54, 48, 55, 48, 56, 48, 57, 49, 48, 49, 49, 49, 50, 49, 51, 49, 52, 49, 53, 49, 54, 49, 55, 49, 56, 49, 57, 50, 48, 50, 49, 50, 50, 50, 51, 50, 52, 50, 53, 50, 54, 50, 55, 50, 56, 50, 57, 51, 48, 51, 49, 51, 50, 51, 51, 51, 52, 51, 53, 51, 54, 51, 55, 51, 56, 51, 57, 52, 48, 52, 49, 52, 50, 52, 51, 52, 52, 52, 53, 52, 54, 52, 55, 52, 56, 52, 57, 53, 48, 53, 49, 53, 50, 53, 51, 53, 52, 53, 53, 53, 54, 53, 55, 53, 56, 53, 57, 54, 48, 54, 49, 54, 50, 54, 51, 54, 52, 54, 53, 54, 54, 54, 55, 54, 56, 54, 57, 55, 48, 55, 49, 55, 50, 55, 51, 55, 52, 55, 53, 55, 54, 55, 55, 55, 56, 55, 57, 56, 48, 56, 49, 56, 50, 56, 51, 56, 52, 56, 53, 56, 54, 56, 55, 56, 56, 56, 57, 57, 48, 57, 49, 57, 50, 57, 51, 57, 52, 57, 53, 57, 54, 57, 55, 57, 56, 57, 57]) (.t 51)),
 o 53 (.iadr 1 (.t 42) (.t 44)), u (.st 1 (.t 53) (.t 50)), o 54 (.iadr 1 (.t 45) (.t 47)), u (.st 1 (.t 54) (.t 52))] [0, 1, 4, 8, 10, 11])
 (.seq (.opsd [(0, 1), (1, 1), (2, 1), (3, 1), (4, 1), (5, 1), (6, 1), (7, 1), (8, 1), (9, 1), (10, 1), (11, 1), (12, 0), (13, 1), (14, 0)] [o 55 (.mv (.t 0)),
 o 56 (.mv (.t 4)), o 57 (.bin .sub (.t 56) (ci 3)), o 58 (.mv (.t 0)), o 59 (.mv (.t 4)), o 60 (.bin .sub (.t 59) (ci 4)), o 61 (.mv (.t 8)),
 o 62 (.bin .add (.t 61) (.c (.p (.int .u32 1)))),
 o 63 (.idxs (cs [48, 48, 48, 49, 48, 50, 48, 51, 48, 52, 48, 53, 48, 54, 48, 55, 48, 56, 48, 57, 49, 48, 49, 49, 49, 50, 49, 51, 49, 52, 49, 53, 49, 54, 49, 55, 49, 56, 49, 57, 50, 48, 50, 49, 50, 50, 50, 51, 50, 52, 50, 53, 50, 54, 50, 55, 50, 56, 50, 57, 51, 48, 51, 49, 51, 50, 51, 51, 51, 52, 51, 53, 51, 54, 51, 55, 51, 56, 51, 57, 52, 48, 52, 49, 52, 50, 52, 51, 52, 52, 52, 53, 52, 54, 52, 55, 52, 56, 52, 57, 53, 48, 53, 49, 53, 50, 53, 51, 53, 52, 53, 53, 53, 54, 53, 55, 53, 56, 53, 57, 54, 48, 54, 49, 54, 50, 54, 51, 54, 52, 54, 53, 54, 54, 54, 55, 54, 56, 54, 57, 55, 48, 55, 49, 55, 50, 55, 51, 55, 52, 55, 53, 55, 54, 55, 55, 55, 56, 55, 57, 56, 48, 56, 49, 56, 50, 56, 51, 56, 52, 56, 53, 56, 54, 56, 55, 56, 56, 56, 57, 57, 48, 57, 49, 57, 50, 57, 51, 57, 52, 57, 53, 57, 54, 57, 55, 57, 56, 57, 57]) (.t 62)),
 o 64 (.mv (.t 8)),
 o 65 (.idxs (cs [48, 48, 48, 49, 48, 50, 48, 51, 48, 52, 48, 53, 48, 54, 48, 55, 48, 56, 48, 57, 49, 48, 49, 49, 49, 50, 49, 51, 49, 52, 49, 53, 49, 54, 49, 55, 49, 56, 49, 57, 50, 48, 50, 49, 50, 50, 50, 51, 50, 52, 50, 53, 50, 54, 50, 55, 50, 56, 50, 57, 51, 48, 51, 49, 51, 50, 51, 51, 51, 52, 51, 53, 51, 54, 51, 55, 51, 56, 51, 57, 52, 48, 52, 49, 52, 50, 52, 51, 52, 52, 52, 53, 52, 54, 52, 55, 52, 56, 52, 57, 53, 48, 53, 49, 53, 50, 53, 51, 53, 52, 53, 53, 53, 54, 53, 55, 53, 56, 53, 57, 54, 48, 54, 49, 54, 50, 54, 51, 54, 52, 54, 53, 54, 54, 54, 55, 54, 56, 54, 57, 55, 48, 55, 49, 55, 50, 55, 51, 55, 52, 55, 53, 55, 54, 55, 55, 55, 56, 55, 57, 56, 48, 56, 49, 56, 50, 56, 51, 56, 52, 56, 53, 56, 54, 56, 55, 56, 56, 56, 57, 57, 48, 57, 49, 57, 50, 57, 51, 57, 52, 57, 53, 57, 54, 57, 55, 57, 56, 57, 57]) (.t 64)),
 o 66 (.iadr 1 (.t 55) (.t 57)), u (.st 1 (.t 66) (.t 63)), o 67 (.iadr 1 (.t 58) (.t 60)), u (.st 1 (.t 67) (.t 65))] [0, 1, 4, 10, 11])
 (.seq (.opsd [(0, 1), (1, 1), (2, 1), (3, 1), (4, 1), (5, 1), (6, 1), (7, 1), (8, 1), (9, 1), (10, 1), (11, 1), (12, 0), (13, 1), (14, 0)] [o 68 (.mv (.t 0)),
 o 69 (.mv (.t 4)), o 70 (.bin .sub (.t 69) (ci 5)), o 71 (.mv (.t 0)), o 72 (.mv (.t 4)), o 73 (.bin .sub (.t 72) (ci 6)), o 74 (.mv (.t 11)),
 o 75 (.bin .add (.t 74) (.c (.p (.int .u32 1)))),
 o 76 (.idxs (cs [48, 48, 48, 49, 48, 50, 48, 51, 48, 52, 48, 53, 48, 54, 48, 55, 48, 56, 48, 57, 49, 48, 49, 49, 49, 50, 49, 51, 49, 52, 49, 53, 49, 54, 49, 55, 49, 56, 49, 57, 50, 48, 50, 49, 50, 50, 50, 51, 50, 52, 50, 53, 50, 54, 50, 55, 50, 56, 50, 57, 51, 48, 51, 49, 51, 50, 51, 51, 51, 52, 51, 53, 51, 54, 51, 55, 51, 56, 51, 57, 52, 48, 52, 49, 52, 50, 52, 51, 52, 52, 52, 53, 52, 54, 52, 55, 52, 56, 52, 57, 53, 48, 53, 49, 53, 50, 53, 51, 53, 52, 53, 53, 53, 54, 53, 55, 53, 56, 53, 57, 54, 48, 54, 49, 54, 50, 54, 51, 54, 52, 54, 53, 54, 54, 54, 55, 54, 56, 54, 57, 55, 48, 55, 49, 55, 50, 55, 51, 55, 52, 55, 53, 55, 54, 55, 55, 55, 56, 55, 57, 56, 48, 56, 49, 56, 50, 56, 51, 56, 52, 56, 53, 56, 54, 56, 55, 56, 56, 56, 57, 57, 48, 57, 49, 57, 50, 57, 51, 57, 52, 57, 53, 57, 54, 57, 55, 57, 56, 57, 57]) (.t 75)),
 o 77 (.mv (.t 11)),
 o 78 (.idxs (cs [48, 48, 48, 49, 48, 50, 48, 51, 48, 52, 48, 53, 48, 54, 48, 55, 48, 56, 48, 57, 49, 48, 49, 49, 49, 50, 49, 51, 49, 52, 49, 53, 49, 54, 49, 55, 49, 56, 49, 57, 50, 48, 50, 49, 50, 50, 50, 51, 50, 52, 50, 53, 50, 54, 50, 55, 50, 56, 50, 57, 51, 48, 51, 49, 51, 50, 51, 51, 51, 52, 51, 53, 51, 54, 51, 55, 51, 56, 51, 57, 52, 48, 52, 49, 52, 50, 52, 51, 52, 52, 52, 53, 52, 54, 52, 55, 52, 56, 52, 57, 53, 48, 53, 49, 53, 50, 53, 51, 53, 52, 53, 53, 53, 54, 53, 55, 53, 56, 53, 57, 54, 48, 54, 49, 54, 50, 54, 51, 54, 52, 54, 53, 54, 54, 54, 55, 54, 56, 54, 57, 55, 48, 55, 49, 55, 50, 55, 51, 55, 52, 55, 53, 55, 54, 55, 55, 55, 56, 55, 57, 56, 48, 56, 49, 56, 50, 56, 51, 56, 52, 56, 53, 56, 54, 56, 55, 56, 56, 56, 57, 57, 48, 57, 49, 57, 50, 57, 51, 57, 52, 57, 53, 57, 54, 57, 55, 57, 56, 57, 57]) (.t 77)),
 o 79 (.iadr 1 (.t 68) (.t 70)), u (.st 1 (.t 79) (.t 76)), o 80 (.iadr 1 (.t 71) (.t 73)), u (.st 1 (.t 80) (.t 78))] [0, 1, 4, 10])
 (.seq (.opsd [(0, 1), (1, 1), (2, 1), (3, 1), (4, 1), (5, 1), (6, 1), (7, 1), (8, 1), (9, 1), (10, 1), (11, 1), (12, 0), (13, 1), (14, 0)] [o 81 (.mv (.t 0)),
 o 82 (.mv (.t 4)), o 83 (.bin .sub (.t 82) (ci 7)), o 84 (.mv (.t 0)), o 85 (.mv (.t 4)), o 86 (.bin .sub (.t 85) (ci 8)), o 87 (.mv (.t 10)),
 o 88 (.bin .add (.t 87) (.c (.p (.int .u32 1)))),
 o 89 (.idxs (cs [48, 48, 48, 49, 48, 50, 48, 51, 48, 52, 48, 53, 48, 54, 48, 55, 48, 56, 48, 57, 49, 48, 49, 49, 49, 50, 49, 51, 49, 52, 49, 53, 49, 54, 49, 55, 49, 56, 49, 57, 50, 48, 50, 49, 50, 50, 50, 51, 50, 52, 50, 53, 50, 54, 50, 55, 50, 56, 50, 57, 51, 48, 51, 49, 51, 50, 51, 51, 51, 52, 51, 53, 51, 54, 51, 55, 51, 56, 51, 57, 52, 48, 52, 49, 52, 50, 52, 51, 52, 52, 52, 53, 52, 54, 52, 55, 52, 56, 52, 57, 53, 48, 53, 49, 53, 50, 53, 51, 53, 52, 53, 53, 53, 54, 53, 55, 53, 56, 53, 57, 54, 48, 54, 49, 54, 50, 54, 51, 54, 52, 54, 53, 54, 54, 54, 55, 54, 56, 54, 57, 55, 48, 55, 49, 55, 50, 55, 51, 55, 52, 55, 53, 55, 54, 55, 55, 55, 56, 55, 57, 56, 48, 56, 49, 56, 50, 56, 51, 56, 52, 56, 53, 56, 54, 56, 55, 56, 56, 56, 57, 57, 48, 57, 49, 57, 50, 57, 51, 57, 52, 57, 53, 57, 54, 57, 55, 57, 56, 57, 57]) (.t 88)),
 o 90 (.mv (.t 10)),
 o 91 (.idxs (cs [48, 48, 48, 49, 48, 50, 48, 51, 48, 52, 48, 53, 48, 54, 48, 55, 48, 56, 48, 57, 49, 48, 49, 49, 49, 50, 49, 51, 49, 52, 49, 53, 49, 54, 49, 55, 49, 56, 49, 57, 50, 48, 50, 49, 50, 50, 50, 51, 50, 52, 50, 53, 50, 54, 50, 55, 50, 56, 50, 57, 51, 48, 51, 49, 51, 50, 51, 51, 51, 52, 51, 53, 51, 54, 51, 55, 51, 56, 51, 57, 52, 48, 52, 49, 52, 50, 52, 51, 52, 52, 52, 53, 52, 54, 52, 55, 52, 56, 52, 57, 53, 48, 53, 49, 53, 50, 53, 51, 53, 52, 53, 53, 53, 54, 53, 55, 53, 56, 53, 57, 54, 48, 54, 49, 54, 50, 54, 51, 54, 52, 54, 53, 54, 54, 54, 55, 54, 56, 54, 57, 55, 48, 55, 49, 55, 50, 55, 51, 55, 52, 55, 53, 55, 54, 55, 55, 55, 56, 55, 57, 56, 48, 56, 49, 56, 50, 56, 51, 56, 52, 56, 53, 56, 54, 56, 55, 56, 56, 56, 57, 57, 48, 57, 49, 57, 50, 57, 51, 57, 52, 57, 53, 57, 54, 57, 55, 57, 56, 57, 57]) (.t 90)),
 o 92 (.iadr 1 (.t 81) (.t 83)), u (.st 1 (.t 92) (.t 89)), o 93 (.iadr 1 (.t 84) (.t 86)), u (.st 1 (.t 93) (.t 91))] [0, 1, 4])
 (.ops [o 94 (.mv (.t 4)), o 95 (.bin .sub (.t 94) (ci 8)), o 4 (.mv (.t 95))] [0, 1, 4])))))))))))
def c196 : AFunc := ⟨167, [],
 .seq (.ops [o 17 (.mv (.t 0)), o 18 (.len 1 (.t 17)), o 4 (.mv (.t 18))] [0, 1, 4])
 (.seq (.block 0 (.loop false [0, 1, 4] c196L0))
 (.seq (.ops [o 96 (.mv (.t 1)), o 97 (.conv (.int .u32) (.t 96)), o 12 (.mv (.t 97))] [0, 4, 12])
 (.seq (.seq (.ops [o 98 (.mv (.t 4)), o 99 (.bin .geq (.t 98) (ci 4))] [0, 4, 12, 99])
 (.cond (.t 99)
 (.seq (.ops [o 100 (.mv (.t 12)), o 101 (.bin .rem (.t 100) (.c (.p (.int .u32 10000)))), o 13 (.mv (.t 101))] [0, 4, 12, 13])
 (.seq (.ops [o 102 (.mv (.t 12)), o 103 (.bin .quo (.t 102) (.c (.p (.int .u32 10000)))), o 12 (.mv (.t 103))] [0, 4, 12, 13])
 (.seq (.ops [o 104 (.mv (.t 13)), o 105 (.bin .quo (.t 104) (.c (.p (.int .u32 100)))), o 106 (.bin .mul (.t 105) (.c (.p (.int .u32 2)))), o 107 (.mv (.t 13)),
 o 108 (.bin .rem (.t 107) (.c (.p (.int .u32 100)))), o 109 (.bin .mul (.t 108) (.c (.p (.int .u32 2)))), o 14 (.mv (.t 106)), o 15 (.mv (.t 109))] [0, 4, 12, 14, 15])
 (.seq (.opsd [(0, 1), (1, 1), (2, 1), (3, 1), (4, 1), (5, 1), (6, 1), (7, 1), (8, 1), (9, 1), (10, 1), (11, 1), (12, 0), (13, 1), (14, 0)] [o 110 (.mv (.t 0)),
 o 111 (.mv (.t 4)), o 112 (.bin .sub (.t 111) (ci 1)), o 113 (.mv (.t 0)), o 114 (.mv (.t 4)), o 115 (.bin .sub (.t 114) (ci 2)), o 116 (.mv (.t 15)),
 o 117 (.bin .add (.t 116) (.c (.p (.int .u32 1)))),
 o 118 (.idxs (cs [48, 48, 48, 49, 48, 50, 48, 51, 48, 52, 48, 53, 48, 54, 48, 55, 48, 56, 48, 57, 49, 48, 49, 49, 49, 50, 49, 51, 49, 52, 49, 53, 49, 54, 49, 55, 49, 56, 49, 57, 50, 48, 50, 49, 50, 50, 50, 51, 50, 52, 50, 53, 50, 54, 50, 55, 50, 56, 50, 57, 51, 48, 51, 49, 51, 50, 51, 51, 51, 52, 51, 53, 51, 54, 51, 55, 51, 56, 51, 57, 52, 48, 52, 49, 52, 50, 52, 51, 52, 52, 52, 53, 52, 54, 52, 55, 52, 56, 52, 57, 53, 48, 53, 49, 53, 50, 53, 51, 53, 52, 53, 53, 53, 54, 53, 55, 53, 56, 53, 57, 54, 48, 54, 49, 54, 50, 54, 51, 54, 52, 54, 53, 54, 54, 54, 55, 54, 56, 54, 57, 55, 48, 55, 49, 55, 50, 55, 51, 55, 52, 55, 53, 55, 54, 55, 55, 55, 56, 55, 57, 56, 48, 56, 49, 56, 50, 56, 51, 56, 52, 56, 53, 56, 54, 56, 55, 56, 56, 56, 57, 57, 48, 57, 49, 57, 50, 57, 51, 57, 52, 57, 53, 57, 54, 57, 55, 57, 56, 57, 57]) (.t 117)),
 o 119 (.mv (.t 15)),
 o 120 (.idxs (cs [48, 48, 48, 49, 48, 50, 48, 51, 48, 52, 48, 53, 48, 54, 48, 55, 48, 56, 48, 57, 49, 48, 49, 49, 49, 50, 49, 51, 49, 52, 49, 53, 49, 54, 49, 55, 49, 56, 49, 57, 50, 48, 50, 49, 50, 50, 50, 51, 50, 52, 50, 53, 50, 54, 50, 55, 50, 56, 50, 57, 51, 48, 51, 49, 51, 50, 51, 51, 51, 52, 51, 53, 51, 54, 51, 55, 51, 56, 51, 57, 52, 48, 52, 49, 52, 50, 52, 51, 52, 52, 52, 53, 52, 54, 52, 55, 52, 56, 52, 57, 53, 48, 53, 49, 53, 50, 53, 51, 53, 52, 53, 53, 53, 54, 53, 55, 53, 56, 53, 57, 54, 48, 54, 49, 54, 50, 54, 51, 54, 52, 54, 53, 54, 54, 54, 55, 54, 56, 54, 57, 55, 48, 55, 49, 55, 50, 55, 51, 55, 52, 55, 53, 55, 54, 55, 55, 55, 56, 55, 57, 56, 48, 56, 49, 56, 50, 56, 51, 56, 52, 56, 53, 56, 54, 56, 55, 56, 56, 56, 57, 57, 48, 57, 49, 57, 50, 57, 51, 57, 52, 57, 53, 57, 54, 57, 55, 57, 56, 57, 57]) (.t 119)),
 o 121 (.iadr 1 (.t 110) (.t 112)), u (.st 1 (.t 121) (.t 118)), o 122 (.iadr 1 (.t 113) (.t 115)), u (.st 1 (.t 122) (.t 120))] [0, 4, 12, 14])
 (.seq (.opsd [(0, 1), (1, 1), (2, 1), (3, 1), (4, 1), (5, 1), (6, 1), (7, 1), (8, 1), (9, 1), (10, 1), (11, 1), (12, 0), (13, 1), (14, 0)] [o 123 (.mv (.t 0)),
 o 124 (.mv (.t 4)), o 125 (.bin .sub (.t 124) (ci 3)), o 126 (.mv (.t 0)), o 127 (.mv (.t 4)), o 128 (.bin .sub (.t 127) (ci 4)), o 129 (.mv (.t 14)),
 o 130 (.bin .add (.t 129) (.c (.p (.int .u32 1)))),
 o 131 (.idxs (cs [48, 48, 48, 49, 48, 50, 48, 51, 48, 52, 48, 53, 48, 54, 48, 55, 48, 56, 48, 57, 49, 48, 49, 49, 49, 50, 49, 51, 49, 52, 49, 53, 49, 54, 49, 55, 49, 56, 49, 57, 50, 48, 50, 49, 50, 50, 50, 51, 50, 52, 50, 53, 50, 54, 50, 55, 50, 56, 50, 57, 51, 48, 51, 49, 51, 50, 51, 51, 51, 52, 51, 53, 51, 54, 51, 55, 51, 56, 51, 57, 52, 48, 52, 49, 52, 50, 52, 51, 52, 52, 52, 53, 52, 54, 52, 55, 52, 56, 52, 57, 53, 48, 53, 49, 53, 50, 53, 51, 53, 52, 53, 53, 53, 54, 53, 55, 53, 56, 53, 57, 54, 48, 54, 49, 54, 50, 54, 51, 54, 52, 54, 53, 54, 54, 54, 55, 54, 56, 54, 57, 55, 48, 55, 49, 55, 50, 55, 51, 55, 52, 55, 53, 55, 54, 55, 55, 55, 56, 55, 57, 56, 48, 56, 49, 56, 50, 56, 51, 56, 52, 56, 53, 56, 54, 56, 55, 56, 56, 56, 57, 57, 48, 57, 49, 57, 50, 57, 51, 57, 52, 57, 53, 57, 54, 57, 55, 57, 56, 57, 57]) (.t 130)),
 o 132 (.mv (.t 14)),
 o 133 (.idxs (cs [48, 48, 48, 49, 48, 50, 48, 51, 48, 52, 48, 53, 48, 54, 48, 55, 48, 56, 48, 57, 49, 48, 49, 49, 49, 50, 49, 51, 49, 52, 49, 53, 49, 54, 49, 55, 49, 56, 49, 57, 50, 48, 50, 49, 50, 50, 50, 51, 50, 52, 50, 53, 50, 54, 50, 55, 50, 56, 50, 57, 51, 48, 51, 49, 51, 50, 51, 51, 51, 52, 51, 53, 51, 54, 51, 55, 51, 56, 51, 57, 52, 48, 52, 49, 52, 50, 52, 51, 52, 52, 52, 53, 52, 54, 52, 55, 52, 56, 52, 57, 53, 48, 53, 49, 53, 50, 53, 51, 53, 52, 53, 53, 53, 54, 53, 55, 53, 56, 53, 57, 54, 48, 54, 49, 54, 50, 54, 51, 54, 52, 54, 53, 54, 54, 54, 55, 54, 56, 54, 57, 55, 48, 55, 49, 55, 50, 55, 51, 55, 52, 55, 53, 55, 54, 55, 55, 55, 56, 55, 57, 56, 48, 56, 49, 56, 50, 56, 51, 56, 52, 56, 53, 56, 54, 56, 55, 56, 56, 56, 57, 57, 48, 57, 49, 57, 50, 57, 51, 57, 52, 57, 53, 57, 54, 57, 55, 57, 56, 57, 57]) (.t 132)),
 o 134 (.iadr 1 (.t 123) (.t 125)), u (.st 1 (.t 134) (.t 131)), o 135 (.iadr 1 (.t 126) (.t 128)), u (.st 1 (.t 135) (.t 133))] [0, 4, 12])
 (.ops [o 136 (.mv (.t 4)), o 137 (.bin .sub (.t 136) (ci 4)), o 4 (.mv (.t 137))] [0, 4, 12]))))))
 (.skip)))
 (.seq (.seq (.ops [o 138 (.mv (.t 4)), o 139 (.bin .geq (.t 138) (ci 2))] [0, 4, 12, 139])
 (.cond (.t 139)
 (.seq (.ops [o 140 (.mv (.t 12)), o 141 (.bin .rem (.t 140) (.c (.p (.int .u32 100)))), o 142 (.bin .mul (.t 141) (.c (.p (.int .u32 2)))),
 o 16 (.mv (.t 142))] [0, 4, 12, 16])
 (.seq (.ops [o 143 (.mv (.t 12)), o 144 (.bin .quo (.t 143) (.c (.p (.int .u32 100)))), o 12 (.mv (.t 144))] [0, 4, 12, 16])
 (.seq (.opsd [(0, 1), (1, 1), (2, 1), (3, 1), (4, 1), (5, 1), (6, 1), (7, 1), (8, 1), (9, 1), (10, 1), (11, 1), (12, 0), (13, 1), (14, 0)] [o 145 (.mv (.t 0)),
 o 146 (.mv (.t 4)), o 147 (.bin .sub (.t 146) (ci 1)), o 148 (.mv (.t 0)), o 149 (.mv (.t 4)), o 150 (.bin .sub (.t 149) (ci 2)), o 151 (.mv (.t 16)),
 o 152 (.bin .add (.t 151) (.c (.p (.int .u32 1)))),
 o 153 (.idxs (cs [48, 48, 48, 49, 48, 50, 48, 51, 48, 52, 48, 53, 48, 54, 48, 55, 48, 56, 48, 57, 49, 48, 49, 49, 49, 50, 49, 51, 49, 52, 49, 53, 49, 54, 49, 55, 49, 56, 49, 57, 50, 48, 50, 49, 50, 50, 50, 51, 50, 52, 50, 53, 50, 54, 50, 55, 50, 56, 50, 57, 51, 48, 51, 49, 51, 50, 51, 51, 51, 52, 51, 53, 51, 54, 51, 55, 51, 56, 51, 57, 52, 48, 52, 49, 52, 50, 52, 51, 52, 52, 52, 53, 52, 54, 52, 55, 52, 56, 52, 57, 53, 48, 53, 49, 53, 50, 53, 51, 53, 52, 53, 53, 53, 54, 53, 55, 53, 56, 53, 57, 54, 48, 54, 49, 54, 50, 54, 51, 54, 52, 54, 53, 54, 54, 54, 55, 54, 56, 54, 57, 55, 48, 55, 49, 55, 50, 55, 51, 55, 52, 55, 53, 55, 54, 55, 55, 55, 56, 55, 57, 56, 48, 56, 49, 56, 50, 56, 51, 56, 52, 56, 53, 56, 54, 56, 55, 56, 56, 56, 57, 57, 48, 57, 49, 57, 50, 57, 51, 57, 52, 57, 53, 57, 54, 57, 55, 57, 56, 57, 57]) (.t 152)),
 o 154 (.mv (.t 16)),
 o 155 (.idxs (cs [48, 48, 48, 49, 48, 50, 48, 51, 48, 52, 48, 53, 48, 54, 48, 55, 48, 56, 48, 57, 49, 48, 49, 49, 49, 50, 49, 51, 49, 52, 49, 53, 49, 54, 49, 55, 49, 56, 49, 57, 50, 48, 50, 49, 50, 50, 50, 51, 50, 52, 50, 53, 50, 54, 50, 55, 50, 56, 50, 57, 51, 48, 51, 49, 51, 50, 51, 51, 51, 52, 51, 53, 51, 54, 51, 55, 51, 56, 51, 57, 52, 48, 52, 49, 52, 50, 52, 51, 52, 52, 52, 53, 52, 54, 52, 55, 52, 56, 52, 57, 53, 48, 53, 49, 53, 50, 53, 51, 53, 52, 53, 53, 53, 54, 53, 55, 53, 56, 53, 57, 54, 48, 54, 49, 54, 50, 54, 51, 54, 52, 54, 53, 54, 54, 54, 55, 54, 56, 54, 57, 55, 48, 55, 49, 55, 50, 55, 51, 55, 52, 55, 53, 55, 54, 55, 55, 55, 56, 55, 57, 56, 48, 56, 49, 56, 50, 56, 51, 56, 52, 56, 53, 56, 54, 56, 55, 56, 56, 56, 57, 57, 48, 57, 49, 57, 50, 57, 51, 57, 52, 57, 53, 57, 54, 57, 55, 57, 56, 57, 57]) (.t 154)),
 o 156 (.iadr 1 (.t 145) (.t 147)), u (.st 1 (.t 156) (.t 153)), o 157 (.iadr 1 (.t 148) (.t 150)), u (.st 1 (.t 157) (.t 155))] [0, 4, 12])
 (.ops [o 158 (.mv (.t 4)), o 159 (.bin .sub (.t 158) (ci 2)), o 4 (.mv (.t 159))] [0, 4, 12]))))
 (.skip)))
 (.seq (.ops [o 160 (.mv (.t 4)), o 161 (.bin .gtr (.t 160) (ci 0))] [0, 12, 161])
 (.cond (.t 161)
 (.ops [o 162 (.mv (.t 0)), o 163 (.mv (.t 12)), o 164 (.bin .add (.c (.p (.int .u32 48))) (.t 163)), o 165 (.conv (.int .u8) (.t 164)), o 166 (.iadr 1 (.t 162) (ci 0)),
 u (.st 1 (.t 166) (.t 165))] [])
 (.skip)))))))⟩

/-- internal/strconv.formatBits -/
def c197L0 : ACode :=
 .seq (.seq (.ops [o 44 (.mv (.t 1)), o 45 (.mv (.t 15)), o 46 (.bin .geq (.t 44) (.t 45))] [0, 1, 3, 4, 10, 11, 12, 13, 14, 15, 16, 46])
 (.cond (.t 46)
 (.skip)
 (.exit 0)))
 (.block 1 (.seq (.ops [o 47 (.mv (.t 13)), o 48 (.bin .sub (.t 47) (ci 1)), o 13 (.mv (.t 48))] [0, 1, 3, 4, 10, 11, 12, 13, 14, 15, 16])
 (.seq (.ops [o 49 (.mv (.t 13)), o 50 (.mv (.t 1)), o 51 (.mv (.t 16)), o 52 (.bin .and (.t 50) (.t 51)),
 o 53 (.idxs (cs [48, 49, 50, 51, 52, 53, 54, 55, 56, 57, 97, 98, 99, 100, 101, 102, 103, 104, 105, 106, 107, 108, 109, 110, 111, 112, 113, 114, 115, 116, 117, 118, 119, 120, 121, 122]) (.t 52)),
 o 54 (.iadra 1 65 (.t 12) (.t 49)), u (.st 1 (.t 54) (.t 53))] [0, 1, 3, 4, 10, 11, 12, 13, 14, 15, 16])
 (.ops [o 55 (.mv (.t 1)), o 56 (.mv (.t 14)), o 57 (.shift false (.t 55) (.t 56)), o 1 (.mv (.t 57))] [0, 1, 3, 4, 10, 11, 12, 13, 14, 15, 16]))))
def c197L1 : ACode :=
 .seq (.seq (.ops [o 66 (.mv (.t 1)), o 67 (.mv (.t 17)), o 68 (.bin .geq (.t 66) (.t 67))] [0, 1, 3, 4, 10, 11, 12, 13, 17, 68])
 (.cond (.t 68)
 (.skip)
 (.exit 2)))
 (.block 3 (.seq (.ops [o 69 (.mv (.t 13)), o 70 (.bin .sub (.t 69) (ci 1)), o 13 (.mv (.t 70))] [0, 1, 3, 4, 10, 11, 12, 13, 17])
 (.seq (.ops [o 71 (.mv (.t 1)), o 72 (.mv (.t 17)), o 73 (.bin .quo (.t 71) (.t 72)), o 18 (.mv (.t 73))] [0, 1, 3, 4, 10, 11, 12, 13, 17, 18])
 (.seq (.ops [o 74 (.mv (.t 13)), o 75 (.mv (.t 1)), o 76 (.mv (.t 18)), o 77 (.mv (.t 17)), o 78 (.bin .mul (.t 76) (.t 77)), o 79 (.bin .sub (.t 75) (.t 78)),
 o 80 (.idxs (cs [48, 49, 50, 51, 52, 53, 54, 55, 56, 57, 97, 98, 99, 100, 101, 102, 103, 104, 105, 106, 107, 108, 109, 110, 111, 112, 113, 114, 115, 116, 117, 118, 119, 120, 121, 122]) (.t 79)),
 o 81 (.iadra 1 65 (.t 12) (.t 74)), u (.st 1 (.t 81) (.t 80))] [0, 3, 4, 10, 11, 12, 13, 17, 18])
 (.ops [o 82 (.mv (.t 18)), o 1 (.mv (.t 82))] [0, 1, 3, 4, 10, 11, 12, 13, 17])))))
def c197 : AFunc := ⟨102, [.tmp 10, .tmp 11],
 .seq (.ops [o 10 (.mv (cn)), o 11 (.mv (cs []))] [0, 1, 2, 3, 4, 10, 11])
 (.seq (.seq (.ops [o 19 (.mv (.t 2)), o 20 (.bin .lss (.t 19) (ci 2)), o 21 (.mv (.t 20)), ⟨some 22, .mv (.t 2), some (21, false)⟩,
 ⟨some 23, .bin .eql (.t 22) (ci 10), some (21, false)⟩, o 24 (.pick (.t 21) (cb true) (.t 23)), o 25 (.mv (.t 24)), ⟨some 26, .mv (.t 2), some (25, false)⟩,
 ⟨some 27, .bin .gtr (.t 26) (ci 36), some (25, false)⟩, o 28 (.pick (.t 25) (cb true) (.t 27))] [0, 1, 2, 3, 4, 10, 11, 28])
 (.cond (.t 28)
 (.ops [o 29 (.fail), u (.fail)] [0, 1, 2, 3, 4, 10, 11])
 (.skip)))
 (.seq (.ops [o 12 (.alloc true 1 [.p (.int .u8 0), .p (.int .u8 0), .p (.int .u8 0), .p (.int .u8 0), .p (.int .u8 0), .p (.int .u8 0), .p (.int .u8 0), .p (.int .u8 0), .p (.int .u8 0), .p (.int .u8 0), .p (.int .u8 0), .p (.int .u8 0), .p (.int .u8 0), .p (.int .u8 0), .p (.int .u8 0), .p (.int .u8 0), .p (.int .u8 0), .p (.int .u8 0), .p (.int .u8 0), .p (.int .u8 0), .p (.int .u8 0), .p (.int .u8 0), .p (.int .u8 0), .p (.int .u8 0), .p (.int .u8 0), .p (.int .u8 0), .p (.int .u8 0), .p (.int .u8 0), .p (.int .u8 0), .p (.int .u8 0), .p (.int .u8 0), .p (.int .u8 0), .p (.int .u8 0), .p (.int .u8 0), .p (.int .u8 0), .p (.int .u8 0), .p (.int .u8 0), .p (.int .u8 0), .p (.int .u8 0), .p (.int .u8 0), .p (.int .u8 0), .p (.int .u8 0), .p (.int .u8 0), .p (.int .u8 0), .p (.int .u8 0), .p (.int .u8 0), .p (.int .u8 0), .p (.int .u8 0), .p (.int .u8 0), .p (.int .u8 0), .p (.int .u8 0), .p (.int .u8 0), .p (.int .u8 0), .p (.int .u8 0), .p (.int .u8 0), .p (.int .u8 0), .p (.int .u8 0), .p (.int .u8 0), .p (.int .u8 0), .p (.int .u8 0), .p (.int .u8 0), .p (.int .u8 0), .p (.int .u8 0), .p (.int .u8 0), .p (.int .u8 0)])] [0, 1, 2, 3, 4, 10, 11, 12])
 (.seq (.ops [o 13 (.mv (ci 65))] [0, 1, 2, 3, 4, 10, 11, 12, 13])
 (.seq (.seq (.ops [o 30 (.mv (.t 3))] [0, 1, 2, 3, 4, 10, 11, 12, 13, 30])
 (.cond (.t 30)
 (.ops [o 31 (.mv (.t 1)), o 32 (.neg (.t 31)), o 1 (.mv (.t 32))] [0, 1, 2, 3, 4, 10, 11, 12, 13])
 (.skip)))
 (.seq (.seq (.ops [o 33 (.mv (.t 2)), o 34 (.call true true 0 (.fn 206) [.t 33])] [0, 1, 2, 3, 4, 10, 11, 12, 13, 34])
 (.cond (.t 34)
 (.seq (.ops [o 35 (.mv (.t 2)), o 36 (.conv (.int .u64) (.t 35)), o 37 (.call true true 0 (.fn 207) [.t 36]), o 38 (.conv (.int .u64) (.t 37)),
 o 14 (.mv (.t 38))] [0, 1, 2, 3, 4, 10, 11, 12, 13, 14])
 (.seq (.ops [o 39 (.mv (.t 2)), o 40 (.conv (.int .u64) (.t 39)), o 15 (.mv (.t 40))] [0, 1, 2, 3, 4, 10, 11, 12, 13, 14, 15])
 (.seq (.ops [o 41 (.mv (.t 2)), o 42 (.conv (.int .u64) (.t 41)), o 43 (.bin .sub (.t 42) (.c (.p (.int .u64 1)))),
 o 16 (.mv (.t 43))] [0, 1, 3, 4, 10, 11, 12, 13, 14, 15, 16])
 (.seq (.block 0 (.loop false [0, 1, 3, 4, 10, 11, 12, 13, 14, 15, 16] c197L0))
 (.seq (.ops [o 58 (.mv (.t 13)), o 59 (.bin .sub (.t 58) (ci 1)), o 13 (.mv (.t 59))] [0, 1, 3, 4, 10, 11, 12, 13])
 (.ops [o 60 (.mv (.t 13)), o 61 (.mv (.t 1)),
 o 62 (.idxs (cs [48, 49, 50, 51, 52, 53, 54, 55, 56, 57, 97, 98, 99, 100, 101, 102, 103, 104, 105, 106, 107, 108, 109, 110, 111, 112, 113, 114, 115, 116, 117, 118, 119, 120, 121, 122]) (.t 61)),
 o 63 (.iadra 1 65 (.t 12) (.t 60)), u (.st 1 (.t 63) (.t 62))] [0, 3, 4, 10, 11, 12, 13]))))))
 (.seq (.ops [o 64 (.mv (.t 2)), o 65 (.conv (.int .u64) (.t 64)), o 17 (.mv (.t 65))] [0, 1, 3, 4, 10, 11, 12, 13, 17])
 (.seq (.block 2 (.loop false [0, 1, 3, 4, 10, 11, 12, 13, 17] c197L1))
 (.seq (.ops [o 83 (.mv (.t 13)), o 84 (.bin .sub (.t 83) (ci 1)), o 13 (.mv (.t 84))] [0, 1, 3, 4, 10, 11, 12, 13])
 (.ops [o 85 (.mv (.t 13)), o 86 (.mv (.t 1)),
 o 87 (.idxs (cs [48, 49, 50, 51, 52, 53, 54, 55, 56, 57, 97, 98, 99, 100, 101, 102, 103, 104, 105, 106, 107, 108, 109, 110, 111, 112, 113, 114, 115, 116, 117, 118, 119, 120, 121, 122]) (.t 86)),
 o 88 (.iadra 1 65 (.t 12) (.t 85)), u (.st 1 (.t 88) (.t 87))] [0, 3, 4, 10, 11, 12, 13]))))))
 (.seq (.seq (.ops [o 89 (.mv (.t 3))] [0, 4, 10, 11, 12, 13, 89])
 (.cond (.t 89)
 (.seq (.ops [o 90 (.mv (.t 13)), o 91 (.bin .sub (.t 90) (ci 1)), o 13 (.mv (.t 91))] [0, 4, 10, 11, 12, 13])
 (.ops [o 92 (.mv (.t 13)), o 93 (.iadra 1 65 (.t 12) (.t 92)), u (.st 1 (.t 93) (.c (.p (.int .u8 45))))] [0, 4, 10, 11, 12, 13]))
 (.skip)))
 (.seq (.seq (.ops [o 94 (.mv (.t 4))] [0, 10, 11, 12, 13, 94])
 (.cond (.t 94)
 (.seq (.ops [o 95 (.mv (.t 0)), o 96 (.mv (.t 13)), o 97 (.slca 1 65 (.t 12) (some (.t 96)) none), o 98 (.app 1 1 [.p (.int .u8 0)] (.t 95) (.t 97)),
 o 10 (.mv (.t 98))] [10, 11])
 (.ret))
 (.skip)))
 (.seq (.ops [o 99 (.mv (.t 13)), o 100 (.slca 1 65 (.t 12) (some (.t 99)) none), o 101 (.conv .b2s (.t 100)), o 11 (.mv (.t 101))] [10, 11])
 (.ret)))))))))⟩



/-- unicode/utf8.RuneCountInString -/
def c199L0 : ACode :=
 .seq (.ops [o 5 (.nxt (.t 4) true), o 6 (.ext (.t 5) 0)] [2, 4, 6])
 (.seq (.cond (.t 6)
 (.skip)
 (.exit 0))
 (.block 1 (.ops [o 7 (.mv (.t 2)), o 8 (.bin .add (.t 7) (ci 1)), o 2 (.mv (.t 8))] [2, 4])))
def c199 : AFunc := ⟨10, [.tmp 2],
 .seq (.ops [o 2 (.mv (ci 0))] [0, 2])
 (.seq (.seq (.ops [o 3 (.mv (.t 0)), o 4 (.rngs (.t 3))] [2, 4])
 (.block 0 (.loop false [2, 4] c199L0)))
 (.seq (.ops [o 9 (.mv (.t 2)), o 2 (.mv (.t 9))] [2])
 (.ret)))⟩

/-- unicode/utf8.DecodeRuneInString -/
def c200 : AFunc := ⟨19, [.tmp 2, .tmp 3],
 .seq (.ops [o 2 (.mv (.c (.p (.int .i32 0)))), o 3 (.mv (ci 0))] [0])
 (.seq (.seq (.ops [o 4 (.mv (.t 0)), o 5 (.bin .neq (.t 4) (cs [])), o 6 (.mv (.t 5)), ⟨some 7, .mv (.t 0), some (6, true)⟩, ⟨some 8, .idxs (.t 7) (ci 0), some (6, true)⟩,
 ⟨some 9, .bin .lss (.t 8) (.c (.p (.int .u8 128))), some (6, true)⟩, o 10 (.pick (.t 6) (.t 9) (cb false))] [0, 10])
 (.cond (.t 10)
 (.seq (.ops [o 11 (.mv (.t 0)), o 12 (.idxs (.t 11) (ci 0)), o 13 (.conv (.int .i32) (.t 12)), o 2 (.mv (.t 13)), o 3 (.mv (ci 1))] [2, 3])
 (.ret))
 (.ops [o 15 (.mv (.t 0)), o 16 (.call true true 0 (.fn 208) [.t 15]), o 14 (.mv (.t 16)), o 17 (.ext (.t 14) 0), o 18 (.ext (.t 14) 1), o 2 (.mv (.t 17)),
 o 3 (.mv (.t 18))] [2, 3])))
 (.ret))⟩



/-- internal/stringslite.Index -/
def c202L0 : ACode :=
 .seq (.seq (.ops [o 57 (.mv (.t 8)), o 58 (.mv (.t 9)), o 59 (.bin .lss (.t 57) (.t 58))] [0, 1, 5, 6, 7, 8, 9, 10, 59])
 (.cond (.t 59)
 (.skip)
 (.exit 1)))
 (.block 2 (.seq (.seq (.ops [o 60 (.mv (.t 0)), o 61 (.mv (.t 8)), o 62 (.idxs (.t 60) (.t 61)), o 63 (.mv (.t 6)),
 o 64 (.bin .neq (.t 62) (.t 63))] [0, 1, 5, 6, 7, 8, 9, 10, 64])
 (.cond (.t 64)
 (.seq (.ops [o 65 (.mv (.t 0)), o 66 (.mv (.t 8)), o 67 (.bin .add (.t 66) (ci 1)), o 68 (.mv (.t 9)), o 69 (.slcs (.t 65) (some (.t 67)) (some (.t 68))),
 o 70 (.mv (.t 6)), o 71 (.call true true 0 (.fn 185) [.t 69, .t 70]), o 11 (.mv (.t 71))] [0, 1, 5, 6, 7, 8, 9, 10, 11])
 (.seq (.seq (.ops [o 72 (.mv (.t 11)), o 73 (.bin .lss (.t 72) (ci 0))] [0, 1, 5, 6, 7, 8, 9, 10, 11, 73])
 (.cond (.t 73)
 (.seq (.ops [o 4 (.mv (ci (-1)))] [4])
 (.ret))
 (.skip)))
 (.ops [o 74 (.mv (.t 8)), o 75 (.mv (.t 11)), o 76 (.bin .add (.t 75) (ci 1)), o 77 (.bin .add (.t 74) (.t 76)), o 8 (.mv (.t 77))] [0, 1, 5, 6, 7, 8, 9, 10])))
 (.skip)))
 (.seq (.seq (.ops [o 78 (.mv (.t 0)), o 79 (.mv (.t 8)), o 80 (.bin .add (.t 79) (ci 1)), o 81 (.idxs (.t 78) (.t 80)), o 82 (.mv (.t 7)),
 o 83 (.bin .eql (.t 81) (.t 82)), o 84 (.mv (.t 83)), ⟨some 85, .mv (.t 0), some (84, true)⟩, ⟨some 86, .mv (.t 8), some (84, true)⟩,
 ⟨some 87, .mv (.t 8), some (84, true)⟩, ⟨some 88, .mv (.t 5), some (84, true)⟩, ⟨some 89, .bin .add (.t 87) (.t 88), some (84, true)⟩,
 ⟨some 90, .slcs (.t 85) (some (.t 86)) (some (.t 89)), some (84, true)⟩, ⟨some 91, .mv (.t 1), some (84, true)⟩, ⟨some 92, .bin .eql (.t 90) (.t 91), some (84, true)⟩,
 o 93 (.pick (.t 84) (.t 92) (cb false))] [0, 1, 5, 6, 7, 8, 9, 10, 93])
 (.cond (.t 93)
 (.seq (.ops [o 94 (.mv (.t 8)), o 4 (.mv (.t 94))] [4])
 (.ret))
 (.skip)))
 (.seq (.ops [o 95 (.mv (.t 8)), o 96 (.bin .add (.t 95) (ci 1)), o 8 (.mv (.t 96))] [0, 1, 5, 6, 7, 8, 9, 10])
 (.seq (.ops [o 97 (.mv (.t 10)), o 98 (.bin .add (.t 97) (ci 1)), o 10 (.mv (.t 98))] [0, 1, 5, 6, 7, 8, 9, 10])
 (.seq (.ops [o 99 (.mv (.t 5)), o 100 (.ld false 1 (.g 1)), o 101 (.bin .leq (.t 99) (.t 100)), o 102 (.mv (.t 101)), ⟨some 103, .mv (.t 10), some (102, true)⟩,
 ⟨some 104, .mv (.t 8), some (102, true)⟩, ⟨some 105, .call true true 0 (.fn 210) [.t 104], some (102, true)⟩, ⟨some 106, .bin .gtr (.t 103) (.t 105), some (102, true)⟩,
 o 107 (.pick (.t 102) (.t 106) (cb false))] [0, 1, 5, 6, 7, 8, 9, 10, 107])
 (.cond (.t 107)
 (.seq (.ops [o 108 (.mv (.t 0)), o 109 (.mv (.t 8)), o 110 (.slcs (.t 108) (some (.t 109)) none), o 111 (.mv (.t 1)),
 o 112 (.call true true 0 (.fn 209) [.t 110, .t 111]), o 12 (.mv (.t 112))] [8, 12])
 (.seq (.seq (.ops [o 113 (.mv (.t 12)), o 114 (.bin .geq (.t 113) (ci 0))] [8, 12, 114])
 (.cond (.t 114)
 (.seq (.ops [o 115 (.mv (.t 12)), o 116 (.mv (.t 8)), o 117 (.bin .add (.t 115) (.t 116)), o 4 (.mv (.t 117))] [4])
 (.ret))
 (.skip)))
 (.seq (.ops [o 4 (.mv (ci (-1)))] [4])
 (.ret))))
 (.seq (.ops [o 118 (.mv (.t 5)), o 119 (.ld false 1 (.g 1)), o 120 (.bin .gtr (.t 118) (.t 119)), o 121 (.mv (.t 120)), ⟨some 122, .mv (.t 10), some (121, true)⟩,
 ⟨some 123, .mv (.t 8), some (121, true)⟩, ⟨some 124, .shift false (.t 123) (.c (.p (.int .u64 4))), some (121, true)⟩,
 ⟨some 125, .bin .add (ci 4) (.t 124), some (121, true)⟩, ⟨some 126, .bin .geq (.t 122) (.t 125), some (121, true)⟩, o 127 (.pick (.t 121) (.t 126) (cb false)),
 o 128 (.mv (.t 127)), ⟨some 129, .mv (.t 8), some (128, true)⟩, ⟨some 130, .mv (.t 9), some (128, true)⟩, ⟨some 131, .bin .lss (.t 129) (.t 130), some (128, true)⟩,
 o 132 (.pick (.t 128) (.t 131) (cb false))] [0, 1, 5, 6, 7, 8, 9, 10, 132])
 (.cond (.t 132)
 (.seq (.ops [o 133 (.mv (.t 0)), o 134 (.mv (.t 8)), o 135 (.slcs (.t 133) (some (.t 134)) none), o 136 (.mv (.t 1)),
 o 137 (.call true true 0 (.fn 211) [.t 135, .t 136]), o 13 (.mv (.t 137))] [8, 13])
 (.seq (.seq (.ops [o 138 (.mv (.t 13)), o 139 (.bin .lss (.t 138) (ci 0))] [8, 13, 139])
 (.cond (.t 139)
 (.seq (.ops [o 4 (.mv (ci (-1)))] [4])
 (.ret))
 (.skip)))
 (.seq (.ops [o 140 (.mv (.t 8)), o 141 (.mv (.t 13)), o 142 (.bin .add (.t 140) (.t 141)), o 4 (.mv (.t 142))] [4])
 (.ret))))
 (.skip))))))))))
def c202 : AFunc := ⟨143, [.tmp 4],
 .seq (.ops [o 4 (.mv (ci 0))] [0, 1])
 (.seq (.ops [o 14 (.mv (.t 1)), o 15 (.len 0 (.t 14)), o 5 (.mv (.t 15))] [0, 1, 5])
 (.seq (.block 0 (.seq (.ops [o 17 (.mv (.t 5)), o 18 (.bin .eql (.t 17) (ci 0)), o 19 (.mv (.t 18)), ⟨some 20, .mv (.t 1), some (19, false)⟩,
 ⟨some 21, .mv (.t 0), some (19, false)⟩, ⟨some 22, .bin .eql (.t 20) (.t 21), some (19, false)⟩, o 23 (.pick (.t 19) (cb true) (.t 22)), o 16 (.mv (.t 23))] [0, 1, 5, 16])
 (.cond (.t 16)
 (.seq (.ops [o 4 (.mv (ci 0))] [4])
 (.ret))
 (.seq (.ops [o 25 (.mv (.t 5)), o 26 (.bin .eql (.t 25) (ci 1)), o 24 (.mv (.t 26))] [0, 1, 5, 24])
 (.cond (.t 24)
 (.seq (.ops [o 27 (.mv (.t 0)), o 28 (.mv (.t 1)), o 29 (.idxs (.t 28) (ci 0)), o 30 (.call true true 0 (.fn 185) [.t 27, .t 29]), o 4 (.mv (.t 30))] [4])
 (.ret))
 (.seq (.ops [o 32 (.mv (.t 5)), o 33 (.mv (.t 0)), o 34 (.len 0 (.t 33)), o 35 (.bin .geq (.t 32) (.t 34)), o 31 (.mv (.t 35))] [0, 1, 5, 31])
 (.cond (.t 31)
 (.seq (.ops [o 4 (.mv (ci (-1)))] [4])
 (.ret))
 (.seq (.ops [o 37 (.mv (.t 5)), o 38 (.ld false 1 (.g 1)), o 39 (.bin .leq (.t 37) (.t 38)), o 40 (.mv (.t 39)), ⟨some 41, .mv (.t 0), some (40, true)⟩,
 ⟨some 42, .len 0 (.t 41), some (40, true)⟩, ⟨some 43, .bin .leq (.t 42) (ci 64), some (40, true)⟩, o 44 (.pick (.t 40) (.t 43) (cb false)),
 o 36 (.mv (.t 44))] [0, 1, 5, 36])
 (.cond (.t 36)
 (.seq (.ops [o 45 (.mv (.t 0)), o 46 (.mv (.t 1)), o 47 (.call true true 0 (.fn 209) [.t 45, .t 46]), o 4 (.mv (.t 47))] [4])
 (.ret))
 (.skip))))))))))
 (.seq (.ops [o 48 (.mv (.t 1)), o 49 (.idxs (.t 48) (ci 0)), o 6 (.mv (.t 49))] [0, 1, 5, 6])
 (.seq (.ops [o 50 (.mv (.t 1)), o 51 (.idxs (.t 50) (ci 1)), o 7 (.mv (.t 51))] [0, 1, 5, 6, 7])
 (.seq (.ops [o 8 (.mv (ci 0))] [0, 1, 5, 6, 7, 8])
 (.seq (.ops [o 52 (.mv (.t 0)), o 53 (.len 0 (.t 52)), o 54 (.mv (.t 5)), o 55 (.bin .sub (.t 53) (.t 54)), o 56 (.bin .add (.t 55) (ci 1)),
 o 9 (.mv (.t 56))] [0, 1, 5, 6, 7, 8, 9])
 (.seq (.ops [o 10 (.mv (ci 0))] [0, 1, 5, 6, 7, 8, 9, 10])
 (.seq (.block 1 (.loop false [0, 1, 5, 6, 7, 8, 9, 10] c202L0))
 (.seq (.ops [o 4 (.mv (ci (-1)))] [4])
 (.ret))))))))))⟩

/-- internal/strconv.log10Pow2 -/
def c203 : AFunc := ⟨6, [.tmp 2],
 .seq (.ops [o 2 (.mv (ci 0))] [0])
 (.seq (.ops [o 3 (.mv (.t 0)), o 4 (.bin .mul (.t 3) (ci 78913)), o 5 (.shift false (.t 4) (.c (.p (.int .u64 18)))), o 2 (.mv (.t 5))] [2])
 (.ret))⟩

/-- math/bits.Len64 -/
def c204 : AFunc := ⟨25, [.tmp 2],
 .seq (.ops [o 2 (.mv (ci 0))] [0, 2])
 (.seq (.seq (.ops [o 3 (.mv (.t 0)), o 4 (.bin .geq (.t 3) (.c (.p (.int .u64 4294967296))))] [0, 2, 4])
 (.cond (.t 4)
 (.seq (.ops [o 5 (.mv (.t 0)), o 6 (.shift false (.t 5) (.c (.p (.int .u64 32)))), o 0 (.mv (.t 6))] [0])
 (.ops [o 2 (.mv (ci 32))] [0, 2]))
 (.skip)))
 (.seq (.seq (.ops [o 7 (.mv (.t 0)), o 8 (.bin .geq (.t 7) (.c (.p (.int .u64 65536))))] [0, 2, 8])
 (.cond (.t 8)
 (.seq (.ops [o 9 (.mv (.t 0)), o 10 (.shift false (.t 9) (.c (.p (.int .u64 16)))), o 0 (.mv (.t 10))] [0, 2])
 (.ops [o 11 (.mv (.t 2)), o 12 (.bin .add (.t 11) (ci 16)), o 2 (.mv (.t 12))] [0, 2]))
 (.skip)))
 (.seq (.seq (.ops [o 13 (.mv (.t 0)), o 14 (.bin .geq (.t 13) (.c (.p (.int .u64 256))))] [0, 2, 14])
 (.cond (.t 14)
 (.seq (.ops [o 15 (.mv (.t 0)), o 16 (.shift false (.t 15) (.c (.p (.int .u64 8)))), o 0 (.mv (.t 16))] [0, 2])
 (.ops [o 17 (.mv (.t 2)), o 18 (.bin .add (.t 17) (ci 8)), o 2 (.mv (.t 18))] [0, 2]))
 (.skip)))
 (.seq (.ops [o 19 (.mv (.t 2)), o 20 (.mv (.t 0)), o 21 (.conv (.int .u8) (.t 20)),
 o 22 (.idxs (cs [0, 1, 2, 2, 3, 3, 3, 3, 4, 4, 4, 4, 4, 4, 4, 4, 5, 5, 5, 5, 5, 5, 5, 5, 5, 5, 5, 5, 5, 5, 5, 5, 6, 6, 6, 6, 6, 6, 6, 6, 6, 6, 6, 6, 6, 6, 6, 6, 6, 6, 6, 6, 6, 6, 6, 6, 6, 6, 6, 6, 6, 6, 6, 6, 7, 7, 7, 7, 7, 7, 7, 7, 7, 7, 7, 7, 7, 7, 7, 7, 7, 7, 7, 7, 7, 7, 7, 7, 7, 7, 7, 7, 7, 7, 7, 7, 7, 7, 7, 7, 7, 7, 7, 7, 7, 7, 7, 7, 7, 7, 7, 7, 7, 7, 7, 7, 7, 7, 7, 7, 7, 7, 7, 7, 7, 7, 7, 7, 8, 8, 8, 8, 8, 8, 8, 8, 8, 8, 8, 8, 8, 8, 8, 8, 8, 8, 8, 8, 8, 8, 8, 8, 8, 8, 8, 8, 8, 8, 8, 8, 8, 8, 8, 8, 8, 8, 8, 8, 8, 8, 8, 8, 8, 8, 8, 8, 8, 8, 8, 8, 8, 8, 8, 8, 8, 8, 8, 8, 8, 8, 8, 8, 8, 8, 8, 8, 8, 8, 8, 8, 8, 8, 8, 8, 8, 8, 8, 8, 8, 8, 8, 8, 8, 8, 8, 8, 8, 8, 8, 8, 8, 8, 8, 8, 8, 8, 8, 8, 8, 8, 8, 8, 8, 8, 8, 8, 8, 8, 8, 8, 8, 8, 8, 8, 8, 8, 8, 8, 8, 8, 8, 8, 8, 8, 8, 8]) (.t 21)),
 o 23 (.conv (.int .i64) (.t 22)), o 24 (.bin .add (.t 19) (.t 23)), o 2 (.mv (.t 24))] [2])
 (.ret)))))⟩

/-- internal/strconv.bool2[int] -/
def c205 : AFunc := ⟨4, [.tmp 2],
 .seq (.ops [o 2 (.mv (ci 0))] [0])
 (.seq (.seq (.ops [o 3 (.mv (.t 0))] [3])
 (.cond (.t 3)
 (.seq (.ops [o 2 (.mv (ci 1))] [2])
 (.ret))
 (.skip)))
 (.seq (.ops [o 2 (.mv (ci 0))] [2])
 (.ret)))⟩

/-- internal/strconv.isPowerOfTwo -/
def c206 : AFunc := ⟨8, [.tmp 2],
 .seq (.ops [o 2 (.mv (cb false))] [0])
 (.seq (.ops [o 3 (.mv (.t 0)), o 4 (.mv (.t 0)), o 5 (.bin .sub (.t 4) (ci 1)), o 6 (.bin .and (.t 3) (.t 5)), o 7 (.bin .eql (.t 6) (ci 0)), o 2 (.mv (.t 7))] [2])
 (.ret))⟩

/-- math/bits.TrailingZeros -/
def c207 : AFunc := ⟨8, [.tmp 2],
 .seq (.ops [o 2 (.mv (ci 0))] [0])
 (.seq (.cond (cb false)
 (.seq (.ops [o 3 (.mv (.t 0)), o 4 (.conv (.int .u32) (.t 3)), o 5 (.call true true 0 (.fn 212) [.t 4]), o 2 (.mv (.t 5))] [2])
 (.ret))
 (.skip))
 (.seq (.ops [o 6 (.mv (.t 0)), o 7 (.call true true 0 (.fn 213) [.t 6]), o 2 (.mv (.t 7))] [2])
 (.ret)))⟩

/-- unicode/utf8.decodeRuneInStringSlow -/
def c208 : AFunc := ⟨117, [.tmp 2, .tmp 3],
 .seq (.ops [o 2 (.mv (.c (.p (.int .i32 0)))), o 3 (.mv (ci 0))] [0])
 (.seq (.ops [o 13 (.mv (.t 0)), o 14 (.len 0 (.t 13)), o 4 (.mv (.t 14))] [0, 4])
 (.seq (.seq (.ops [o 15 (.mv (.t 4)), o 16 (.bin .lss (.t 15) (ci 1))] [0, 4, 16])
 (.cond (.t 16)
 (.seq (.ops [o 2 (.mv (.c (.p (.int .i32 65533)))), o 3 (.mv (ci 0))] [2, 3])
 (.ret))
 (.skip)))
 (.seq (.ops [o 17 (.mv (.t 0)), o 18 (.idxs (.t 17) (ci 0)), o 5 (.mv (.t 18))] [0, 4, 5])
 (.seq (.ops [o 19 (.mv (.t 5)), o 20 (.iadra 1 256 (.g 3) (.t 19)), o 21 (.ld false 1 (.t 20)), o 6 (.mv (.t 21))] [0, 4, 5, 6])
 (.seq (.seq (.ops [o 22 (.mv (.t 6)), o 23 (.bin .geq (.t 22) (.c (.p (.int .u8 240))))] [0, 4, 5, 6, 23])
 (.cond (.t 23)
 (.seq (.ops [o 24 (.mv (.t 6)), o 25 (.conv (.int .i32) (.t 24)), o 26 (.shift true (.t 25) (.c (.p (.int .u64 31)))),
 o 27 (.shift false (.t 26) (.c (.p (.int .u64 31)))), o 7 (.mv (.t 27))] [0, 7])
 (.seq (.ops [o 28 (.mv (.t 0)), o 29 (.idxs (.t 28) (ci 0)), o 30 (.conv (.int .i32) (.t 29)), o 31 (.mv (.t 7)), o 32 (.bin .andNot (.t 30) (.t 31)), o 33 (.mv (.t 7)),
 o 34 (.bin .and (.c (.p (.int .i32 65533))) (.t 33)), o 35 (.bin .or (.t 32) (.t 34)), o 2 (.mv (.t 35)), o 3 (.mv (ci 1))] [2, 3])
 (.ret)))
 (.skip)))
 (.seq (.ops [o 36 (.mv (.t 6)), o 37 (.bin .and (.t 36) (.c (.p (.int .u8 7)))), o 38 (.conv (.int .i64) (.t 37)), o 8 (.mv (.t 38))] [0, 4, 5, 6, 8])
 (.seq (.ops [o 39 (.mv (.t 6)), o 40 (.shift false (.t 39) (.c (.p (.int .u64 4)))), o 41 (.iadra 2 16 (.g 4) (.t 40)), o 42 (.ld true 2 (.t 41)),
 o 9 (.alloc true 1 [.p (.int .u8 0), .p (.int .u8 0)]), u (.st 2 (.t 9) (.t 42))] [0, 4, 5, 8, 9])
 (.seq (.seq (.ops [o 43 (.mv (.t 4)), o 44 (.mv (.t 8)), o 45 (.bin .lss (.t 43) (.t 44))] [0, 5, 8, 9, 45])
 (.cond (.t 45)
 (.seq (.ops [o 2 (.mv (.c (.p (.int .i32 65533)))), o 3 (.mv (ci 1))] [2, 3])
 (.ret))
 (.skip)))
 (.seq (.ops [o 46 (.mv (.t 0)), o 47 (.idxs (.t 46) (ci 1)), o 10 (.mv (.t 47))] [0, 5, 8, 9, 10])
 (.seq (.seq (.ops [o 48 (.mv (.t 10)), o 49 (.fadr 0 (.t 9)), o 50 (.ld false 1 (.t 49)), o 51 (.bin .lss (.t 48) (.t 50)), o 52 (.mv (.t 51)),
 ⟨some 53, .fadr 1 (.t 9), some (52, false)⟩, ⟨some 54, .ld false 1 (.t 53), some (52, false)⟩, ⟨some 55, .mv (.t 10), some (52, false)⟩,
 ⟨some 56, .bin .lss (.t 54) (.t 55), some (52, false)⟩, o 57 (.pick (.t 52) (cb true) (.t 56))] [0, 5, 8, 10, 57])
 (.cond (.t 57)
 (.seq (.ops [o 2 (.mv (.c (.p (.int .i32 65533)))), o 3 (.mv (ci 1))] [2, 3])
 (.ret))
 (.skip)))
 (.seq (.seq (.ops [o 58 (.mv (.t 8)), o 59 (.bin .leq (.t 58) (ci 2))] [0, 5, 8, 10, 59])
 (.cond (.t 59)
 (.seq (.ops [o 60 (.mv (.t 5)), o 61 (.bin .and (.t 60) (.c (.p (.int .u8 31)))), o 62 (.conv (.int .i32) (.t 61)), o 63 (.shift true (.t 62) (.c (.p (.int .u64 6)))),
 o 64 (.mv (.t 10)), o 65 (.bin .and (.t 64) (.c (.p (.int .u8 63)))), o 66 (.conv (.int .i32) (.t 65)), o 67 (.bin .or (.t 63) (.t 66)), o 2 (.mv (.t 67)),
 o 3 (.mv (ci 2))] [2, 3])
 (.ret))
 (.skip)))
 (.seq (.ops [o 68 (.mv (.t 0)), o 69 (.idxs (.t 68) (ci 2)), o 11 (.mv (.t 69))] [0, 5, 8, 10, 11])
 (.seq (.seq (.ops [o 70 (.mv (.t 11)), o 71 (.bin .lss (.t 70) (.c (.p (.int .u8 128)))), o 72 (.mv (.t 71)), ⟨some 73, .mv (.t 11), some (72, false)⟩,
 ⟨some 74, .bin .lss (.c (.p (.int .u8 191))) (.t 73), some (72, false)⟩, o 75 (.pick (.t 72) (cb true) (.t 74))] [0, 5, 8, 10, 11, 75])
 (.cond (.t 75)
 (.seq (.ops [o 2 (.mv (.c (.p (.int .i32 65533)))), o 3 (.mv (ci 1))] [2, 3])
 (.ret))
 (.skip)))
 (.seq (.seq (.ops [o 76 (.mv (.t 8)), o 77 (.bin .leq (.t 76) (ci 3))] [0, 5, 10, 11, 77])
 (.cond (.t 77)
 (.seq (.ops [o 78 (.mv (.t 5)), o 79 (.bin .and (.t 78) (.c (.p (.int .u8 15)))), o 80 (.conv (.int .i32) (.t 79)), o 81 (.shift true (.t 80) (.c (.p (.int .u64 12)))),
 o 82 (.mv (.t 10)), o 83 (.bin .and (.t 82) (.c (.p (.int .u8 63)))), o 84 (.conv (.int .i32) (.t 83)), o 85 (.shift true (.t 84) (.c (.p (.int .u64 6)))),
 o 86 (.bin .or (.t 81) (.t 85)), o 87 (.mv (.t 11)), o 88 (.bin .and (.t 87) (.c (.p (.int .u8 63)))), o 89 (.conv (.int .i32) (.t 88)), o 90 (.bin .or (.t 86) (.t 89)),
 o 2 (.mv (.t 90)), o 3 (.mv (ci 3))] [2, 3])
 (.ret))
 (.skip)))
 (.seq (.ops [o 91 (.mv (.t 0)), o 92 (.idxs (.t 91) (ci 3)), o 12 (.mv (.t 92))] [5, 10, 11, 12])
 (.seq (.seq (.ops [o 93 (.mv (.t 12)), o 94 (.bin .lss (.t 93) (.c (.p (.int .u8 128)))), o 95 (.mv (.t 94)), ⟨some 96, .mv (.t 12), some (95, false)⟩,
 ⟨some 97, .bin .lss (.c (.p (.int .u8 191))) (.t 96), some (95, false)⟩, o 98 (.pick (.t 95) (cb true) (.t 97))] [5, 10, 11, 12, 98])
 (.cond (.t 98)
 (.seq (.ops [o 2 (.mv (.c (.p (.int .i32 65533)))), o 3 (.mv (ci 1))] [2, 3])
 (.ret))
 (.skip)))
 (.seq (.ops [o 99 (.mv (.t 5)), o 100 (.bin .and (.t 99) (.c (.p (.int .u8 7)))), o 101 (.conv (.int .i32) (.t 100)), o 102 (.shift true (.t 101) (.c (.p (.int .u64 18)))),
 o 103 (.mv (.t 10)), o 104 (.bin .and (.t 103) (.c (.p (.int .u8 63)))), o 105 (.conv (.int .i32) (.t 104)), o 106 (.shift true (.t 105) (.c (.p (.int .u64 12)))),
 o 107 (.bin .or (.t 102) (.t 106)), o 108 (.mv (.t 11)), o 109 (.bin .and (.t 108) (.c (.p (.int .u8 63)))), o 110 (.conv (.int .i32) (.t 109)),
 o 111 (.shift true (.t 110) (.c (.p (.int .u64 6)))), o 112 (.bin .or (.t 107) (.t 111)), o 113 (.mv (.t 12)), o 114 (.bin .and (.t 113) (.c (.p (.int .u8 63)))),
 o 115 (.conv (.int .i32) (.t 114)), o 116 (.bin .or (.t 112) (.t 115)), o 2 (.mv (.t 116)), o 3 (.mv (ci 4))] [2, 3])
 (.ret))))))))))))))))))⟩



/-- internal/bytealg.Cutover -/
def c210 : AFunc := ⟨6, [.tmp 2],
 .seq (.ops [o 2 (.mv (ci 0))] [0])
 (.seq (.ops [o 3 (.mv (.t 0)), o 4 (.bin .add (.t 3) (ci 16)), o 5 (.bin .quo (.t 4) (ci 8)), o 2 (.mv (.t 5))] [2])
 (.ret))⟩

/-- internal/bytealg.IndexRabinKarp[string] -/
def c211L0 : ACode :=
 .seq (.seq (.ops [o 18 (.mv (.t 9)), o 19 (.mv (.t 7)), o 20 (.bin .lss (.t 18) (.t 19))] [0, 1, 5, 6, 7, 8, 9, 20])
 (.cond (.t 20)
 (.skip)
 (.exit 0)))
 (.seq (.block 1 (.ops [o 23 (.mv (.t 8)), o 24 (.bin .mul (.t 23) (.c (.p (.int .u32 16777619)))), o 25 (.mv (.t 0)), o 26 (.mv (.t 9)), o 27 (.idxs (.t 25) (.t 26)),
 o 28 (.conv (.int .u32) (.t 27)), o 29 (.bin .add (.t 24) (.t 28)), o 8 (.mv (.t 29))] [0, 1, 5, 6, 7, 8, 9]))
 (.ops [o 21 (.mv (.t 9)), o 22 (.bin .add (.t 21) (ci 1)), o 9 (.mv (.t 22))] [0, 1, 5, 6, 7, 8, 9]))
def c211L1 : ACode :=
 .seq (.seq (.ops [o 41 (.mv (.t 10)), o 42 (.mv (.t 0)), o 43 (.len 0 (.t 42)), o 44 (.bin .lss (.t 41) (.t 43))] [0, 1, 5, 6, 7, 8, 10, 44])
 (.cond (.t 44)
 (.skip)
 (.exit 2)))
 (.block 3 (.seq (.ops [o 45 (.mv (.t 8)), o 46 (.bin .mul (.t 45) (.c (.p (.int .u32 16777619)))), o 8 (.mv (.t 46))] [0, 1, 5, 6, 7, 8, 10])
 (.seq (.ops [o 47 (.mv (.t 8)), o 48 (.mv (.t 0)), o 49 (.mv (.t 10)), o 50 (.idxs (.t 48) (.t 49)), o 51 (.conv (.int .u32) (.t 50)), o 52 (.bin .add (.t 47) (.t 51)),
 o 8 (.mv (.t 52))] [0, 1, 5, 6, 7, 8, 10])
 (.seq (.ops [o 53 (.mv (.t 8)), o 54 (.mv (.t 6)), o 55 (.mv (.t 0)), o 56 (.mv (.t 10)), o 57 (.mv (.t 7)), o 58 (.bin .sub (.t 56) (.t 57)), o 59 (.idxs (.t 55) (.t 58)),
 o 60 (.conv (.int .u32) (.t 59)), o 61 (.bin .mul (.t 54) (.t 60)), o 62 (.bin .sub (.t 53) (.t 61)), o 8 (.mv (.t 62))] [0, 1, 5, 6, 7, 8, 10])
 (.seq (.ops [o 63 (.mv (.t 10)), o 64 (.bin .add (.t 63) (ci 1)), o 10 (.mv (.t 64))] [0, 1, 5, 6, 7, 8, 10])
 (.seq (.ops [o 65 (.mv (.t 8)), o 66 (.mv (.t 5)), o 67 (.bin .eql (.t 65) (.t 66)), o 68 (.mv (.t 67)), ⟨some 69, .mv (.t 0), some (68, true)⟩,
 ⟨some 70, .mv (.t 10), some (68, true)⟩, ⟨some 71, .mv (.t 7), some (68, true)⟩, ⟨some 72, .bin .sub (.t 70) (.t 71), some (68, true)⟩,
 ⟨some 73, .mv (.t 10), some (68, true)⟩, ⟨some 74, .slcs (.t 69) (some (.t 72)) (some (.t 73)), some (68, true)⟩, ⟨some 75, .mv (.t 1), some (68, true)⟩,
 ⟨some 76, .bin .eql (.t 74) (.t 75), some (68, true)⟩, o 77 (.pick (.t 68) (.t 76) (cb false))] [0, 1, 5, 6, 7, 8, 10, 77])
 (.cond (.t 77)
 (.seq (.ops [o 78 (.mv (.t 10)), o 79 (.mv (.t 7)), o 80 (.bin .sub (.t 78) (.t 79)), o 4 (.mv (.t 80))] [4])
 (.ret))
 (.skip))))))))
def c211 : AFunc := ⟨81, [.tmp 4],
 .seq (.ops [o 4 (.mv (ci 0))] [0, 1])
 (.seq (.ops [o 12 (.mv (.t 1)), o 13 (.call true true 0 (.fn 214) [.t 12]), o 11 (.mv (.t 13)), o 14 (.ext (.t 11) 0), o 15 (.ext (.t 11) 1), o 5 (.mv (.t 14)),
 o 6 (.mv (.t 15))] [0, 1, 5, 6])
 (.seq (.ops [o 16 (.mv (.t 1)), o 17 (.len 0 (.t 16)), o 7 (.mv (.t 17))] [0, 1, 5, 6, 7])
 (.seq (.ops [o 8 (.mv (.c (.p (.int .u32 0))))] [0, 1, 5, 6, 7, 8])
 (.seq (.seq (.ops [o 9 (.mv (ci 0))] [0, 1, 5, 6, 7, 8, 9])
 (.block 0 (.loop false [0, 1, 5, 6, 7, 8, 9] c211L0)))
 (.seq (.seq (.ops [o 30 (.mv (.t 8)), o 31 (.mv (.t 5)), o 32 (.bin .eql (.t 30) (.t 31)), o 33 (.mv (.t 32)), ⟨some 34, .mv (.t 0), some (33, true)⟩,
 ⟨some 35, .mv (.t 7), some (33, true)⟩, ⟨some 36, .slcs (.t 34) none (some (.t 35)), some (33, true)⟩, ⟨some 37, .mv (.t 1), some (33, true)⟩,
 ⟨some 38, .bin .eql (.t 36) (.t 37), some (33, true)⟩, o 39 (.pick (.t 33) (.t 38) (cb false))] [0, 1, 5, 6, 7, 8, 39])
 (.cond (.t 39)
 (.seq (.ops [o 4 (.mv (ci 0))] [4])
 (.ret))
 (.skip)))
 (.seq (.seq (.ops [o 40 (.mv (.t 7)), o 10 (.mv (.t 40))] [0, 1, 5, 6, 7, 8, 10])
 (.block 2 (.loop false [0, 1, 5, 6, 7, 8, 10] c211L1)))
 (.seq (.ops [o 4 (.mv (ci (-1)))] [4])
 (.ret))))))))⟩

/-- math/bits.TrailingZeros32 -/
def c212 : AFunc := ⟨14, [.tmp 2],
 .seq (.ops [o 2 (.mv (ci 0))] [0])
 (.seq (.seq (.ops [o 3 (.mv (.t 0)), o 4 (.bin .eql (.t 3) (.c (.p (.int .u32 0))))] [0, 4])
 (.cond (.t 4)
 (.seq (.ops [o 2 (.mv (ci 32))] [2])
 (.ret))
 (.skip)))
 (.seq (.ops [o 5 (.mv (.t 0)), o 6 (.mv (.t 0)), o 7 (.neg (.t 6)), o 8 (.bin .and (.t 5) (.t 7)), o 9 (.bin .mul (.t 8) (.c (.p (.int .u32 125613361)))),
 o 10 (.shift false (.t 9) (.c (.p (.int .u64 27)))), o 11 (.iadra 1 32 (.g 5) (.t 10)), o 12 (.ld false 1 (.t 11)), o 13 (.conv (.int .i64) (.t 12)), o 2 (.mv (.t 13))] [2])
 (.ret)))⟩

/-- math/bits.TrailingZeros64 -/
def c213 : AFunc := ⟨14, [.tmp 2],
 .seq (.ops [o 2 (.mv (ci 0))] [0])
 (.seq (.seq (.ops [o 3 (.mv (.t 0)), o 4 (.bin .eql (.t 3) (.c (.p (.int .u64 0))))] [0, 4])
 (.cond (.t 4)
 (.seq (.ops [o 2 (.mv (ci 64))] [2])
 (.ret))
 (.skip)))
 (.seq (.ops [o 5 (.mv (.t 0)), o 6 (.mv (.t 0)), o 7 (.neg (.t 6)), o 8 (.bin .and (.t 5) (.t 7)), o 9 (.bin .mul (.t 8) (.c (.p (.int .u64 285870213051353865)))),
 o 10 (.shift false (.t 9) (.c (.p (.int .u64 58)))), o 11 (.iadra 1 64 (.g 6) (.t 10)), o 12 (.ld false 1 (.t 11)), o 13 (.conv (.int .i64) (.t 12)), o 2 (.mv (.t 13))] [2])
 (.ret)))⟩

/-- internal/bytealg.hashStr[string] -/
def c214L0 : ACode :=
 .seq (.seq (.ops [o 9 (.mv (.t 5)), o 10 (.mv (.t 0)), o 11 (.len 0 (.t 10)), o 12 (.bin .lss (.t 9) (.t 11))] [0, 4, 5, 12])
 (.cond (.t 12)
 (.skip)
 (.exit 0)))
 (.seq (.block 1 (.ops [o 15 (.mv (.t 4)), o 16 (.bin .mul (.t 15) (.c (.p (.int .u32 16777619)))), o 17 (.mv (.t 0)), o 18 (.mv (.t 5)), o 19 (.idxs (.t 17) (.t 18)),
 o 20 (.conv (.int .u32) (.t 19)), o 21 (.bin .add (.t 16) (.t 20)), o 4 (.mv (.t 21))] [0, 4, 5]))
 (.ops [o 13 (.mv (.t 5)), o 14 (.bin .add (.t 13) (ci 1)), o 5 (.mv (.t 14))] [0, 4, 5]))
def c214L1 : ACode :=
 .seq (.seq (.ops [o 24 (.mv (.t 8)), o 25 (.bin .gtr (.t 24) (ci 0))] [4, 6, 7, 8, 25])
 (.cond (.t 25)
 (.skip)
 (.exit 2)))
 (.seq (.block 3 (.seq (.seq (.ops [o 28 (.mv (.t 8)), o 29 (.bin .and (.t 28) (ci 1)), o 30 (.bin .neq (.t 29) (ci 0))] [4, 6, 7, 8, 30])
 (.cond (.t 30)
 (.ops [o 31 (.mv (.t 6)), o 32 (.mv (.t 7)), o 33 (.bin .mul (.t 31) (.t 32)), o 6 (.mv (.t 33))] [4, 6, 7, 8])
 (.skip)))
 (.ops [o 34 (.mv (.t 7)), o 35 (.mv (.t 7)), o 36 (.bin .mul (.t 34) (.t 35)), o 7 (.mv (.t 36))] [4, 6, 7, 8])))
 (.ops [o 26 (.mv (.t 8)), o 27 (.shift false (.t 26) (.c (.p (.int .u64 1)))), o 8 (.mv (.t 27))] [4, 6, 7, 8]))
def c214 : AFunc := ⟨39, [.tmp 2, .tmp 3],
 .seq (.ops [o 2 (.mv (.c (.p (.int .u32 0)))), o 3 (.mv (.c (.p (.int .u32 0))))] [0])
 (.seq (.ops [o 4 (.mv (.c (.p (.int .u32 0))))] [0, 4])
 (.seq (.seq (.ops [o 5 (.mv (ci 0))] [0, 4, 5])
 (.block 0 (.loop false [0, 4, 5] c214L0)))
 (.seq (.ops [o 6 (.mv (.c (.p (.int .u32 1)))), o 7 (.mv (.c (.p (.int .u32 16777619))))] [0, 4, 6, 7])
 (.seq (.seq (.ops [o 22 (.mv (.t 0)), o 23 (.len 0 (.t 22)), o 8 (.mv (.t 23))] [4, 6, 7, 8])
 (.block 2 (.loop false [4, 6, 7, 8] c214L1)))
 (.seq (.ops [o 37 (.mv (.t 4)), o 38 (.mv (.t 6)), o 2 (.mv (.t 37)), o 3 (.mv (.t 38))] [2, 3])
 (.ret))))))⟩









def FT : Tr := (.node 104 c104 (.node 54 c54 (.node 29 c29 (.node 17 c17 (.node 10 c10 (.node 6 c6 (.node 4 c4 (.node 3 c3 .leaf .leaf) (.node 5 c5 .leaf .leaf)) (.node 8 c8 (.node 7 c7 .leaf .leaf) .leaf)) (.node 14 c14 (.node 13 c13 (.node 12 c12 .leaf .leaf) .leaf) (.node 16 c16 (.node 15 c15 .leaf .leaf) .leaf))) (.node 23 c23 (.node 20 c20 (.node 19 c19 (.node 18 c18 .leaf .leaf) .leaf) (.node 22 c22 (.node 21 c21 .leaf .leaf) .leaf)) (.node 26 c26 (.node 25 c25 (.node 24 c24 .leaf .leaf) .leaf) (.node 28 c28 (.node 27 c27 .leaf .leaf) .leaf)))) (.node 42 c42 (.node 36 c36 (.node 33 c33 (.node 31 c31 (.node 30 c30 .leaf .leaf) (.node 32 c32 .leaf .leaf)) (.node 35 c35 (.node 34 c34 .leaf .leaf) .leaf)) (.node 39 c39 (.node 38 c38 (.node 37 c37 .leaf .leaf) .leaf) (.node 41 c41 (.node 40 c40 .leaf .leaf) .leaf))) (.node 48 c48 (.node 45 c45 (.node 44 c44 (.node 43 c43 .leaf .leaf) .leaf) (.node 47 c47 (.node 46 c46 .leaf .leaf) .leaf)) (.node 51 c51 (.node 50 c50 (.node 49 c49 .leaf .leaf) .leaf) (.node 53 c53 (.node 52 c52 .leaf .leaf) .leaf))))) (.node 79 c79 (.node 67 c67 (.node 61 c61 (.node 58 c58 (.node 56 c56 (.node 55 c55 .leaf .leaf) (.node 57 c57 .leaf .leaf)) (.node 60 c60 (.node 59 c59 .leaf .leaf) .leaf)) (.node 64 c64 (.node 63 c63 (.node 62 c62 .leaf .leaf) .leaf) (.node 66 c66 (.node 65 c65 .leaf .leaf) .leaf))) (.node 73 c73 (.node 70 c70 (.node 69 c69 (.node 68 c68 .leaf .leaf) .leaf) (.node 72 c72 (.node 71 c71 .leaf .leaf) .leaf)) (.node 76 c76 (.node 75 c75 (.node 74 c74 .leaf .leaf) .leaf) (.node 78 c78 (.node 77 c77 .leaf .leaf) .leaf)))) (.node 92 c92 (.node 86 c86 (.node 83 c83 (.node 81 c81 (.node 80 c80 .leaf .leaf) (.node 82 c82 .leaf .leaf)) (.node 85 c85 (.node 84 c84 .leaf .leaf) .leaf)) (.node 89 c89 (.node 88 c88 (.node 87 c87 .leaf .leaf) .leaf) (.node 91 c91 (.node 90 c90 .leaf .leaf) .leaf))) (.node 98 c98 (.node 95 c95 (.node 94 c94 (.node 93 c93 .leaf .leaf) .leaf) (.node 97 c97 (.node 96 c96 .leaf .leaf) .leaf)) (.node 101 c101 (.node 100 c100 (.node 99 c99 .leaf .leaf) .leaf) (.node 103 c103 (.node 102 c102 .leaf .leaf) .leaf)))))) (.node 155 c155 (.node 129 c129 (.node 117 c117 (.node 111 c111 (.node 108 c108 (.node 106 c106 (.node 105 c105 .leaf .leaf) (.node 107 c107 .leaf .leaf)) (.node 110 c110 (.node 109 c109 .leaf .leaf) .leaf)) (.node 114 c114 (.node 113 c113 (.node 112 c112 .leaf .leaf) .leaf) (.node 116 c116 (.node 115 c115 .leaf .leaf) .leaf))) (.node 123 c123 (.node 120 c120 (.node 119 c119 (.node 118 c118 .leaf .leaf) .leaf) (.node 122 c122 (.node 121 c121 .leaf .leaf) .leaf)) (.node 126 c126 (.node 125 c125 (.node 124 c124 .leaf .leaf) .leaf) (.node 128 c128 (.node 127 c127 .leaf .leaf) .leaf)))) (.node 143 c143 (.node 137 c137 (.node 134 c134 (.node 132 c132 (.node 131 c131 .leaf .leaf) (.node 133 c133 .leaf .leaf)) (.node 136 c136 (.node 135 c135 .leaf .leaf) .leaf)) (.node 140 c140 (.node 139 c139 (.node 138 c138 .leaf .leaf) .leaf) (.node 142 c142 (.node 141 c141 .leaf .leaf) .leaf))) (.node 149 c149 (.node 146 c146 (.node 145 c145 (.node 144 c144 .leaf .leaf) .leaf) (.node 148 c148 (.node 147 c147 .leaf .leaf) .leaf)) (.node 152 c152 (.node 151 c151 (.node 150 c150 .leaf .leaf) .leaf) (.node 154 c154 (.node 153 c153 .leaf .leaf) .leaf))))) (.node 185 c185 (.node 171 c171 (.node 165 c165 (.node 159 c159 (.node 157 c157 (.node 156 c156 .leaf .leaf) (.node 158 c158 .leaf .leaf)) (.node 161 c161 (.node 160 c160 .leaf .leaf) .leaf)) (.node 168 c168 (.node 167 c167 (.node 166 c166 .leaf .leaf) .leaf) (.node 170 c170 (.node 169 c169 .leaf .leaf) .leaf))) (.node 177 c177 (.node 174 c174 (.node 173 c173 (.node 172 c172 .leaf .leaf) .leaf) (.node 176 c176 (.node 175 c175 .leaf .leaf) .leaf)) (.node 180 c180 (.node 179 c179 (.node 178 c178 .leaf .leaf) .leaf) (.node 184 c184 (.node 181 c181 .leaf .leaf) .leaf)))) (.node 202 c202 (.node 194 c194 (.node 189 c189 (.node 187 c187 (.node 186 c186 .leaf .leaf) (.node 188 c188 .leaf .leaf)) (.node 191 c191 (.node 190 c190 .leaf .leaf) .leaf)) (.node 197 c197 (.node 196 c196 (.node 195 c195 .leaf .leaf) .leaf) (.node 200 c200 (.node 199 c199 .leaf .leaf) .leaf))) (.node 208 c208 (.node 205 c205 (.node 204 c204 (.node 203 c203 .leaf .leaf) .leaf) (.node 207 c207 (.node 206 c206 .leaf .leaf) .leaf)) (.node 212 c212 (.node 211 c211 (.node 210 c210 .leaf .leaf) .leaf) (.node 214 c214 (.node 213 c213 .leaf .leaf) .leaf)))))))
def F (n : Nat) : Option AFunc := FT.find n
end Fw
