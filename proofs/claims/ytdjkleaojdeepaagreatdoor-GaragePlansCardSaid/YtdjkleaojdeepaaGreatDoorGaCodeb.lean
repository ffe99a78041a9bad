/- The functions of the program, written for the evaluator, second part: definitions alone. -/
import Derived.Test.YtdjkleaojdeepaaGreatDoorGaCode
namespace Fw
open Go
/-- (crumple/garage.Job).ranges -/
def c114 : AFunc := ⟨20, [.tmp 2],
 .seq (.ops [o 1 (.box true (.t 0)), o 2 (.mv (ci 0))] [1])
 (.seq (.opsd [(0, 1), (1, 1), (2, 1), (3, 1), (4, 1), (5, 1), (6, 1), (7, 1), (8, 1), (9, 1), (10, 1), (11, 1), (12, 1), (13, 1), (14, 0), (15, 0), (16, 0), (17, 1)] [o 3 (.fadr 1 (.t 1)), o 4 (.ld false 1 (.t 3)), o 5 (.call true true 0 (.fn 92) [.t 4, ci 0, ci 16]), o 6 (.fadr 2 (.t 1)), o 7 (.ld false 1 (.t 6)), o 8 (.call true true 0 (.fn 92) [.t 7, ci 0, ci 16]), o 9 (.fadr 3 (.t 1)), o 10 (.ld false 1 (.t 9)), o 11 (.call true true 0 (.fn 92) [.t 10, ci 0, ci 16]), o 12 (.fadr 4 (.t 1)), o 13 (.ld false 1 (.t 12)), o 14 (.call true true 0 (.fn 92) [.t 13, ci 1, ci 10000]), o 15 (.fadr 5 (.t 1)), o 16 (.ld false 1 (.t 15)), o 17 (.call true true 0 (.fn 92) [.t 16, ci 0, ci 10000]), o 18 (.bslice false 1 [.p (.int .i64 0)] 5 [(0, .t 5), (1, .t 8), (2, .t 11), (3, .t 14), (4, .t 17)]), o 19 (.call true true 0 (.fn 91) [.t 18]), o 2 (.mv (.t 19))] [2])
 (.ret))⟩

/-- crumple/garage.checkStarts -/
def c115 : AFunc := ⟨22, [.tmp 4],
 .seq (.ops [o 4 (.mv (ci 0))] [0, 1])
 (.seq (.seq (.ops [o 6 (.mv (.t 0)), o 7 (.call true true 0 (.fn 57) [.t 6]), o 8 (.mv (.t 1)), o 9 (.len 1 (.t 8)), o 10 (.mv (.t 0)), o 11 (.len 1 (.t 10)), o 12 (.bin .neq (.t 9) (.t 11)), o 13 (.call true true 0 (.fn 104) [.t 12, ci 2]), o 14 (.bslice false 1 [.p (.int .i64 0)] 2 [(0, .t 7), (1, .t 13)]), o 15 (.call true true 0 (.fn 91) [.t 14]), o 5 (.mv (.t 15))] [1, 5])
 (.seq (.ops [o 16 (.mv (.t 5)), o 17 (.bin .neq (.t 16) (ci 0))] [1, 5, 17])
 (.cond (.t 17)
 (.seq (.ops [o 18 (.mv (.t 5)), o 4 (.mv (.t 18))] [4])
 (.ret))
 (.skip))))
 (.seq (.ops [o 19 (.mv (.t 1)), o 20 (.call true false 0 (.fn 105) [.t 19, cf 144]), o 21 (.call true true 0 (.fn 91) [.t 20]), o 4 (.mv (.t 21))] [4])
 (.ret)))⟩

/-- (crumple/garage.Job).free -/
def c116 : AFunc := ⟨37, [.tmp 6],
 .seq (.ops [o 3 (.box true (.t 0)), o 4 (.box true (.t 1)), o 6 (.mv (ci 0))] [2, 3, 4])
 (.seq (.ops [o 7 (.mv (ci 0))] [2, 3, 4, 7])
 (.seq (.seq (.ops [o 8 (.fadr 2 (.t 3)), o 9 (.ld false 1 (.t 8)), o 10 (.fadr 2 (.t 4)), o 11 (.ld false 1 (.t 10)), o 12 (.bin .eql (.t 9) (.t 11)), o 13 (.mv (.t 12)), ⟨some 14, .fadr 3 (.t 3), some (13, false)⟩, ⟨some 15, .ld false 1 (.t 14), some (13, false)⟩, ⟨some 16, .fadr 3 (.t 4), some (13, false)⟩, ⟨some 17, .ld false 1 (.t 16), some (13, false)⟩, ⟨some 18, .bin .eql (.t 15) (.t 17), some (13, false)⟩, o 19 (.pick (.t 13) (cb true) (.t 18))] [2, 3, 4, 7, 19])
 (.cond (.t 19)
 (.ops [o 20 (.mv (.t 2)), o 21 (.fadr 4 (.t 4)), o 22 (.ld false 1 (.t 21)), o 23 (.bin .add (.t 20) (.t 22)), o 7 (.mv (.t 23))] [2, 3, 4, 7])
 (.skip)))
 (.seq (.seq (.ops [o 24 (.fadr 1 (.t 3)), o 25 (.ld false 1 (.t 24)), o 26 (.fadr 1 (.t 4)), o 27 (.ld false 1 (.t 26)), o 28 (.bin .eql (.t 25) (.t 27))] [2, 4, 7, 28])
 (.cond (.t 28)
 (.ops [o 29 (.mv (.t 2)), o 30 (.fadr 4 (.t 4)), o 31 (.ld false 1 (.t 30)), o 32 (.bin .add (.t 29) (.t 31)), o 33 (.fadr 5 (.t 4)), o 34 (.ld false 1 (.t 33)), o 35 (.bin .add (.t 32) (.t 34)), o 7 (.mv (.t 35))] [7])
 (.skip)))
 (.seq (.ops [o 36 (.mv (.t 7)), o 6 (.mv (.t 36))] [6])
 (.ret)))))⟩

/-- slices.Clone[[]int,int] -/
def c117 : AFunc := ⟨8, [.tmp 2],
 .seq (.ops [o 2 (.mv (cn))] [0])
 (.seq (.seq (.ops [o 3 (.mv (.t 0)), o 4 (.eqnil 1 false (.t 3))] [0, 4])
 (.cond (.t 4)
 (.seq (.ops [o 2 (.mv (cn))] [2])
 (.ret))
 (.skip)))
 (.seq (.ops [o 5 (.bslice true 1 [.p (.int .i64 0)] 0 []), o 6 (.mv (.t 0)), o 7 (.app 1 8 [.p (.int .i64 0)] (.t 5) (.t 6)), o 2 (.mv (.t 7))] [2])
 (.ret)))⟩

/-- (crumple/garage.timed).compare -/
def c118 : AFunc := ⟨19, [.tmp 4],
 .seq (.ops [o 2 (.box false (.t 0)), o 3 (.box false (.t 1)), o 4 (.mv (ci 0))] [2, 3])
 (.seq (.opsd [(0, 1), (1, 1), (2, 1), (3, 1), (4, 1), (5, 1), (6, 1), (7, 1), (8, 1), (9, 1), (10, 1), (11, 0), (12, 0), (13, 0), (14, 1)] [o 5 (.fadr 1 (.t 2)), o 6 (.ld false 1 (.t 5)), o 7 (.fadr 1 (.t 3)), o 8 (.ld false 1 (.t 7)), o 9 (.call true true 0 (.fn 146) [.t 6, .t 8]), o 10 (.fadr 0 (.t 2)), o 11 (.fadr 0 (.t 10)), o 12 (.ld false 1 (.t 11)), o 13 (.fadr 0 (.t 3)), o 14 (.fadr 0 (.t 13)), o 15 (.ld false 1 (.t 14)), o 16 (.call true true 0 (.fn 147) [.t 12, .t 15]), o 17 (.bslice false 1 [.p (.int .i64 0)] 2 [(0, .t 9), (1, .t 16)]), o 18 (.call true true 0 (.fn 145) [.t 17]), o 4 (.mv (.t 18))] [4])
 (.ret))⟩

/-- crumple/garage.next -/
def c119L0 : ACode :=
 .seq (.seq (.ops [o 10 (.mv (.t 4)), o 11 (.bin .geq (.t 10) (ci 0))] [0, 3, 4, 11])
 (.cond (.t 11)
 (.skip)
 (.exit 0)))
 (.seq (.block 1 (.seq (.opsd [(0, 1), (1, 1), (2, 1), (3, 1), (4, 1), (5, 1), (6, 1), (7, 1), (8, 1), (9, 1)] [o 14 (.mv (.t 0)), o 15 (.mv (.t 4)), o 16 (.iadr 1 (.t 14) (.t 15)), o 17 (.ld false 1 (.t 16)), o 18 (.mv (.t 0)), o 19 (.mv (.t 4)), o 20 (.bin .add (.t 19) (ci 1)), o 21 (.iadr 1 (.t 18) (.t 20)), o 22 (.ld false 1 (.t 21)), o 23 (.bin .lss (.t 17) (.t 22))] [0, 3, 4, 23])
 (.cond (.t 23)
 (.seq (.ops [o 24 (.mv (.t 4)), o 3 (.mv (.t 24))] [0, 3])
 (.exit 0))
 (.skip))))
 (.ops [o 12 (.mv (.t 4)), o 13 (.bin .sub (.t 12) (ci 1)), o 4 (.mv (.t 13))] [0, 3, 4]))
def c119L1 : ACode :=
 .seq (.seq (.opsd [(0, 1), (1, 1), (2, 1), (3, 1), (4, 1), (5, 1), (6, 1), (7, 1), (8, 1)] [o 30 (.mv (.t 0)), o 31 (.mv (.t 5)), o 32 (.iadr 1 (.t 30) (.t 31)), o 33 (.ld false 1 (.t 32)), o 34 (.mv (.t 0)), o 35 (.mv (.t 3)), o 36 (.iadr 1 (.t 34) (.t 35)), o 37 (.ld false 1 (.t 36)), o 38 (.bin .lss (.t 33) (.t 37))] [0, 3, 5, 38])
 (.cond (.t 38)
 (.skip)
 (.exit 2)))
 (.block 3 (.ops [o 39 (.mv (.t 5)), o 40 (.bin .sub (.t 39) (ci 1)), o 5 (.mv (.t 40))] [0, 3, 5]))
def c119 : AFunc := ⟨61, [.tmp 2],
 .seq (.ops [o 2 (.mv (cb false))] [0])
 (.scope (.seq (.ops [o 3 (.mv (ci (-1)))] [0, 3])
 (.seq (.skip)
 (.seq (.seq (.ops [o 7 (.mv (.t 0)), o 8 (.len 1 (.t 7)), o 9 (.bin .sub (.t 8) (ci 2)), o 4 (.mv (.t 9))] [0, 3, 4])
 (.block 0 (.loop false [0, 3, 4] c119L0)))
 (.seq (.seq (.ops [o 25 (.mv (.t 3)), o 26 (.bin .lss (.t 25) (ci 0))] [0, 3, 26])
 (.cond (.t 26)
 (.seq (.ops [o 2 (.mv (cb false))] [2])
 (.ret))
 (.skip)))
 (.seq (.ops [o 27 (.mv (.t 0)), o 28 (.len 1 (.t 27)), o 29 (.bin .sub (.t 28) (ci 1)), o 5 (.mv (.t 29))] [0, 3, 5])
 (.seq (.block 2 (.loop false [0, 3, 5] c119L1))
 (.seq (.ops [o 41 (.mv (.t 0)), o 42 (.mv (.t 3)), o 43 (.iadr 1 (.t 41) (.t 42)), o 44 (.ld false 1 (.t 43)), o 6 (.mv (.t 44))] [0, 3, 5, 6])
 (.seq (.ops [o 45 (.mv (.t 0)), o 46 (.mv (.t 3)), o 47 (.mv (.t 0)), o 48 (.mv (.t 5)), o 49 (.iadr 1 (.t 47) (.t 48)), o 50 (.ld false 1 (.t 49)), o 51 (.iadr 1 (.t 45) (.t 46)), u (.st 1 (.t 51) (.t 50))] [0, 3, 5, 6])
 (.seq (.ops [o 52 (.mv (.t 0)), o 53 (.mv (.t 5)), o 54 (.mv (.t 6)), o 55 (.iadr 1 (.t 52) (.t 53)), u (.st 1 (.t 55) (.t 54))] [0, 3])
 (.seq (.ops [o 56 (.mv (.t 0)), o 57 (.mv (.t 3)), o 58 (.bin .add (.t 57) (ci 1)), o 59 (.slc 1 (.t 56) (some (.t 58)) none), o 60 (.call false true 0 (.fn 148) [.t 59])] [])
 (.seq (.ops [o 2 (.mv (cb true))] [2])
 (.ret)))))))))))))⟩

/-- crumple/crumpleref09.Orders -/
def c120L0 : ACode :=
 .seq (.seq (.ops [o 13 (.mv (.t 6)), o 14 (.mv (.t 0)), o 15 (.bin .lss (.t 13) (.t 14))] [0, 1, 5, 6, 15])
 (.cond (.t 15)
 (.skip)
 (.exit 0)))
 (.seq (.block 1 (.seq (.ops [o 18 (.mv (.t 1)), o 19 (.mv (.t 6)), o 20 (.call true true 0 (.fn 73) [.t 18, .t 19]), o 21 (.not (.t 20))] [0, 1, 5, 6, 21])
 (.cond (.t 21)
 (.ops [o 22 (.mv (.t 5)), o 23 (.mv (.t 0)), o 24 (.bslice true 1 [.p (.int .i64 0)] 0 []), o 25 (.mv (.t 1)), o 26 (.app 1 8 [.p (.int .i64 0)] (.t 24) (.t 25)), o 27 (.mv (.t 6)), o 28 (.bslice false 1 [.p (.int .i64 0)] 1 [(0, .t 27)]), o 29 (.app 1 8 [.p (.int .i64 0)] (.t 26) (.t 28)), o 30 (.call true false 0 (.fn 120) [.t 23, .t 29]), o 31 (.app 1 24 [.p (.nils)] (.t 22) (.t 30)), o 5 (.mv (.t 31))] [0, 1, 5, 6])
 (.skip))))
 (.ops [o 16 (.mv (.t 6)), o 17 (.bin .add (.t 16) (ci 1)), o 6 (.mv (.t 17))] [0, 1, 5, 6]))
def c120 : AFunc := ⟨33, [.tmp 4],
 .seq (.ops [o 4 (.mv (cn))] [0, 1])
 (.seq (.seq (.ops [o 7 (.mv (.t 1)), o 8 (.len 1 (.t 7)), o 9 (.mv (.t 0)), o 10 (.bin .eql (.t 8) (.t 9))] [0, 1, 10])
 (.cond (.t 10)
 (.seq (.ops [o 11 (.mv (.t 1)), o 12 (.bslice false 1 [.p (.nils)] 1 [(0, .t 11)]), o 4 (.mv (.t 12))] [4])
 (.ret))
 (.skip)))
 (.seq (.ops [o 5 (.nilown 1)] [0, 1, 5])
 (.seq (.seq (.ops [o 6 (.mv (ci 0))] [0, 1, 5, 6])
 (.block 0 (.loop true [0, 1, 5, 6] c120L0)))
 (.seq (.ops [o 32 (.mv (.t 5)), o 4 (.mv (.t 32))] [4])
 (.ret)))))⟩

/-- crumple/garage.mapped[int,string] -/
def c122L0 : ACode :=
 .seq (.ops [o 11 (.bin .lss (.t 10) (.t 9))] [1, 5, 8, 9, 10, 11])
 (.seq (.cond (.t 11)
 (.skip)
 (.exit 0))
 (.seq (.block 1 (.seq (.ops [o 12 (.iadr 1 (.t 8) (.t 10)), o 13 (.ld false 1 (.t 12)), o 7 (.mv (.t 13))] [1, 5, 7, 8, 9, 10])
 (.ops [o 14 (.mv (.t 5)), o 15 (.mv (.t 1)), o 16 (.mv (.t 7)), o 17 (.call false true 0 (.val (.t 15)) [.t 16]), o 18 (.bslice false 1 [.p (.str [])] 1 [(0, .t 17)]), o 19 (.app 1 16 [.p (.str [])] (.t 14) (.t 18)), o 5 (.mv (.t 19))] [1, 5, 8, 9, 10])))
 (.ops [o 20 (.bin .add (.t 10) (ci 1)), o 10 (.mv (.t 20))] [1, 5, 8, 9, 10])))
def c122 : AFunc := ⟨22, [.tmp 4],
 .seq (.ops [o 4 (.mv (cn))] [0, 1])
 (.seq (.ops [o 5 (.nilown 1)] [0, 1, 5])
 (.seq (.seq (.ops [o 8 (.mv (.t 0)), o 9 (.len 1 (.t 8)), o 10 (.mv (ci 0))] [1, 5, 8, 9, 10])
 (.block 0 (.loop true [1, 5, 8, 9, 10] c122L0)))
 (.seq (.ops [o 21 (.mv (.t 5)), o 4 (.mv (.t 21))] [4])
 (.ret))))⟩

/-- (crumple/garage.Act).integers -/
def c123 : AFunc := ⟨23, [.tmp 2],
 .seq (.ops [o 1 (.box true (.t 0)), o 2 (.mv (cn))] [1])
 (.seq (.seq (.ops [o 3 (.ld true 6 (.t 1)), o 4 (.bslice false 1 [.p (.str [])] 1 [(0, cs [109, 101, 97, 115, 117, 114, 101])]), o 5 (.call true true 0 (.fn 93) [.t 3, .t 4])] [1, 5])
 (.cond (.t 5)
 (.seq (.opsd [(0, 1), (1, 1), (3, 1), (4, 1), (2, 2), (5, 0), (6, 1)] [o 6 (.fadr 0 (.t 1)), o 7 (.ld false 1 (.t 6)), o 9 (.fadr 3 (.t 1)), o 10 (.slca 1 3 (.t 9) none none), o 8 (.bslice true 1 [.p (.int .i64 0)] 1 [(0, .t 7)]), o 11 (.app 1 8 [.p (.int .i64 0)] (.t 8) (.t 10)), o 2 (.mv (.t 11))] [2])
 (.ret))
 (.skip)))
 (.seq (.seq (.ops [o 12 (.ld true 6 (.t 1)), o 13 (.bslice false 1 [.p (.str [])] 3 [(0, cs [97, 114, 109]), (1, cs [100, 105, 115, 97, 114, 109]), (2, cs [115, 104, 111, 111, 116])]), o 14 (.call true true 0 (.fn 93) [.t 12, .t 13])] [1, 14])
 (.cond (.t 14)
 (.seq (.ops [o 15 (.fadr 0 (.t 1)), o 16 (.ld false 1 (.t 15)), o 17 (.bslice false 1 [.p (.int .i64 0)] 1 [(0, .t 16)]), o 2 (.mv (.t 17))] [2])
 (.ret))
 (.skip)))
 (.seq (.ops [o 18 (.fadr 0 (.t 1)), o 19 (.ld false 1 (.t 18)), o 20 (.fadr 2 (.t 1)), o 21 (.ld false 1 (.t 20)), o 22 (.bslice false 1 [.p (.int .i64 0)] 2 [(0, .t 19), (1, .t 21)]), o 2 (.mv (.t 22))] [2])
 (.ret))))⟩

/-- strings.Lines -/
def c125 : AFunc := ⟨4, [.tmp 2],
 .seq (.ops [o 1 (.box true (.t 0)), o 2 (.mv (.c (.p (.nilf))))] [1])
 (.seq (.ops [o 3 (.mkclo 153 [] [.t 1]), o 2 (.mv (.t 3))] [2])
 (.ret))⟩

/-- strings.CutSuffix -/
def c126 : AFunc := ⟨11, [.tmp 4, .tmp 5],
 .seq (.ops [o 4 (.mv (cs [])), o 5 (.mv (cb false))] [0, 1])
 (.seq (.ops [o 6 (.mv (.t 0)), o 7 (.mv (.t 1)), o 8 (.call true true 0 (.fn 155) [.t 6, .t 7]), o 9 (.ext (.t 8) 0), o 10 (.ext (.t 8) 1), o 4 (.mv (.t 9)), o 5 (.mv (.t 10))] [4, 5])
 (.ret))⟩

/-- crumple/garage.act -/
def c127L0 : ACode :=
 .seq (.ops [o 27 (.bin .lss (.t 26) (ci 3))] [2, 4, 5, 6, 26, 27])
 (.seq (.cond (.t 27)
 (.skip)
 (.exit 1))
 (.seq (.block 2 (.seq (.ops [o 28 (.mv (.t 26)), o 7 (.mv (.t 28))] [2, 4, 5, 6, 7, 26])
 (.ops [o 29 (.mv (.t 7)), o 30 (.mv (.t 5)), o 31 (.call false true 0 (.val (.t 30)) []), o 32 (.fadr 3 (.t 6)), o 33 (.iadra 1 3 (.t 32) (.t 29)), u (.st 1 (.t 33) (.t 31))] [2, 4, 5, 6, 26])))
 (.ops [o 34 (.bin .add (.t 26) (ci 1)), o 26 (.mv (.t 34))] [2, 4, 5, 6, 26])))
def c127 : AFunc := ⟨67, [.cell 2 true 6, .tmp 3],
 .seq (.ops [o 2 (.alloc true 1 [.p (.int .i64 0), .p (.str []), .p (.int .i64 0), .p (.int .i64 0), .p (.int .i64 0), .p (.int .i64 0)]), o 3 (.mv (cb false))] [0, 2])
 (.seq (.ops [o 10 (.mv (.t 0)), o 11 (.call true false 0 (.fn 156) [.t 10, cs [32]]), o 12 (.build [.p (.nils), .p (.bool false)] [(0, 1, .t 11)]), o 13 (.box false (.t 12)), o 4 (.mv (.t 13))] [2, 4])
 (.seq (.ops [o 14 (.mv (.t 4)), o 15 (.mkclo 157 [.t 14] []), o 5 (.mv (.t 15))] [2, 4, 5])
 (.seq (.ops [o 16 (.mv (.t 4)), o 17 (.call false true 0 (.fn 158) [.t 16]), o 18 (.build [.p (.int .i64 0), .p (.str []), .p (.int .i64 0), .p (.int .i64 0), .p (.int .i64 0), .p (.int .i64 0)] [(1, 1, .t 17)]), o 6 (.alloc true 1 [.p (.int .i64 0), .p (.str []), .p (.int .i64 0), .p (.int .i64 0), .p (.int .i64 0), .p (.int .i64 0)]), u (.st 6 (.t 6) (.t 18))] [2, 4, 5, 6])
 (.seq (.ops [o 19 (.mv (.t 5)), o 20 (.call false true 0 (.val (.t 19)) []), o 21 (.fadr 0 (.t 6)), u (.st 1 (.t 21) (.t 20))] [2, 4, 5, 6])
 (.seq (.block 0 (.seq (.ops [o 23 (.ld true 6 (.t 6)), o 24 (.bslice false 1 [.p (.str [])] 1 [(0, cs [109, 101, 97, 115, 117, 114, 101])]), o 25 (.call true true 0 (.fn 93) [.t 23, .t 24]), o 22 (.mv (.t 25))] [2, 4, 5, 6, 22])
 (.cond (.t 22)
 (.seq (.ops [o 26 (.mv (ci 0))] [2, 4, 5, 6, 26])
 (.block 1 (.loop true [2, 4, 5, 6, 26] c127L0)))
 (.seq (.ops [o 36 (.ld true 6 (.t 6)), o 37 (.bslice false 1 [.p (.str [])] 3 [(0, cs [97, 114, 109]), (1, cs [100, 105, 115, 97, 114, 109]), (2, cs [115, 104, 111, 111, 116])]), o 38 (.call true true 0 (.fn 93) [.t 36, .t 37]), o 39 (.not (.t 38)), o 35 (.mv (.t 39))] [2, 4, 5, 6, 35])
 (.cond (.t 35)
 (.ops [o 40 (.mv (.t 5)), o 41 (.call false true 0 (.val (.t 40)) []), o 42 (.fadr 2 (.t 6)), u (.st 1 (.t 42) (.t 41))] [2, 4, 6])
 (.skip))))))
 (.seq (.opsd [(0, 1), (1, 1), (2, 1), (3, 1), (4, 1), (5, 1), (6, 1), (7, 1), (8, 1)] [o 44 (.call true false 0 (.fn 136) []), o 45 (.fadr 1 (.t 6)), o 46 (.ld false 1 (.t 45)), o 47 (.lkup 1 (.p (.int .i64 0)) (.t 44) (.t 46) true), o 43 (.mv (.t 47)), o 48 (.ext (.t 43) 0), o 49 (.ext (.t 43) 1), o 8 (.mv (.t 48)), o 9 (.mv (.t 49))] [2, 4, 6, 9])
 (.seq (.opsd [(0, 1), (1, 1), (2, 1), (3, 1), (4, 1), (5, 1), (6, 1), (7, 1), (8, 1), (9, 1), (10, 1), (11, 18), (12, 18), (13, 18), (14, 18), (15, 1), (16, 1), (17, 3), (18, 1)] [o 50 (.ld true 6 (.t 6)), o 51 (.mv (.t 9)), o 52 (.mv (.t 51)), ⟨some 53, .mv (.t 4), some (52, true)⟩, ⟨some 54, .nilck (.t 53), some (52, true)⟩, ⟨some 55, .fadr 1 (.t 54), some (52, true)⟩, ⟨some 56, .ld false 1 (.t 55), some (52, true)⟩, ⟨some 57, .not (.t 56), some (52, true)⟩, o 58 (.pick (.t 52) (.t 57) (cb false)), o 59 (.mv (.t 58)), ⟨some 60, .mv (.t 4), some (59, true)⟩, ⟨some 61, .nilck (.t 60), some (59, true)⟩, ⟨some 62, .fadr 0 (.t 61), some (59, true)⟩, ⟨some 63, .ld false 1 (.t 62), some (59, true)⟩, ⟨some 64, .len 1 (.t 63), some (59, true)⟩, ⟨some 65, .bin .eql (.t 64) (ci 0), some (59, true)⟩, o 66 (.pick (.t 59) (.t 65) (cb false)), u (.st 6 (.t 2) (.t 50)), o 3 (.mv (.t 66))] [2, 3])
 (.ret))))))))⟩

/-- crumple/garage.measures -/
def c131 : AFunc := ⟨6, [.tmp 2],
 .seq (.ops [o 1 (.box true (.t 0)), o 2 (.mv (ci 0))] [1])
 (.seq (.ops [o 3 (.slca 1 3 (.t 1) none none), o 4 (.call true false 0 (.fn 105) [.t 3, cf 160]), o 5 (.call true true 0 (.fn 91) [.t 4]), o 2 (.mv (.t 5))] [2])
 (.ret))⟩

/-- (crumple/garage.Hall).wait -/
def c132L0 : ACode :=
 .seq (.ops [o 19 (.bin .lss (.t 18) (.t 17))] [3, 5, 6, 11, 12, 16, 17, 18, 19])
 (.seq (.cond (.t 19)
 (.skip)
 (.exit 2))
 (.seq (.block 3 (.seq (.ops [o 20 (.iadr 2 (.t 16) (.t 18)), o 21 (.ld true 2 (.t 20)), o 9 (.alloc true 1 [.p (.int .i64 0), .p (.int .i64 0)]), u (.st 2 (.t 9) (.t 21))] [3, 5, 6, 9, 11, 12, 16, 17, 18])
 (.seq (.opsd [(0, 1), (1, 1), (2, 1), (3, 1), (4, 1), (5, 1)] [o 22 (.fadr 0 (.t 9)), o 23 (.ld false 1 (.t 22)), o 24 (.mv (.t 6)), o 25 (.iadra 1 3 (.t 3) (.t 24)), o 26 (.ld false 1 (.t 25)), o 27 (.bin .leq (.t 23) (.t 26))] [3, 5, 6, 9, 11, 12, 16, 17, 18, 27])
 (.cond (.t 27)
 (.ops [o 28 (.mv (.t 5)), o 29 (.fadr 1 (.t 9)), o 30 (.ld false 1 (.t 29)), o 31 (.max [.t 28, .t 30]), o 5 (.mv (.t 31))] [3, 5, 6, 11, 12, 16, 17, 18])
 (.skip)))))
 (.ops [o 32 (.bin .add (.t 18) (ci 1)), o 18 (.mv (.t 32))] [3, 5, 6, 11, 12, 16, 17, 18])))
def c132L1 : ACode :=
 .seq (.ops [o 13 (.bin .lss (.t 12) (ci 3))] [3, 5, 11, 12, 13])
 (.seq (.cond (.t 13)
 (.skip)
 (.exit 0))
 (.seq (.block 1 (.seq (.ops [o 14 (.mv (.t 12)), o 15 (.idx false 1 3 (.t 11) (.t 12)), o 6 (.mv (.t 14)), o 7 (.mv (.t 15))] [3, 5, 6, 7, 11, 12])
 (.seq (.ops [o 16 (.mv (.t 7)), o 17 (.len 1 (.t 16)), o 18 (.mv (ci 0))] [3, 5, 6, 11, 12, 16, 17, 18])
 (.block 2 (.loop true [3, 5, 6, 11, 12, 16, 17, 18] c132L0)))))
 (.ops [o 33 (.bin .add (.t 12) (ci 1)), o 12 (.mv (.t 33))] [3, 5, 11, 12])))
def c132 : AFunc := ⟨35, [.tmp 4],
 .seq (.ops [o 2 (.box false (.t 0)), o 3 (.box true (.t 1)), o 4 (.mv (ci 0))] [2, 3])
 (.seq (.ops [o 5 (.mv (ci 0))] [2, 3, 5])
 (.seq (.seq (.ops [o 10 (.fadr 2 (.t 2)), o 11 (.ld true 3 (.t 10)), o 12 (.mv (ci 0))] [3, 5, 11, 12])
 (.block 0 (.loop true [3, 5, 11, 12] c132L1)))
 (.seq (.ops [o 34 (.mv (.t 5)), o 4 (.mv (.t 34))] [4])
 (.ret))))⟩

/-- crumple/garage.mapped[[]crumple/garage.Step,crumple/api.Errno] -/
def c134L0 : ACode :=
 .seq (.ops [o 11 (.bin .lss (.t 10) (.t 9))] [1, 5, 8, 9, 10, 11])
 (.seq (.cond (.t 11)
 (.skip)
 (.exit 0))
 (.seq (.block 1 (.seq (.ops [o 12 (.iadr 1 (.t 8) (.t 10)), o 13 (.ld false 1 (.t 12)), o 7 (.mv (.t 13))] [1, 5, 7, 8, 9, 10])
 (.ops [o 14 (.mv (.t 5)), o 15 (.mv (.t 1)), o 16 (.mv (.t 7)), o 17 (.call false true 0 (.val (.t 15)) [.t 16]), o 18 (.bslice false 1 [.p (.int .i64 0)] 1 [(0, .t 17)]), o 19 (.app 1 8 [.p (.int .i64 0)] (.t 14) (.t 18)), o 5 (.mv (.t 19))] [1, 5, 8, 9, 10])))
 (.ops [o 20 (.bin .add (.t 10) (ci 1)), o 10 (.mv (.t 20))] [1, 5, 8, 9, 10])))
def c134 : AFunc := ⟨22, [.tmp 4],
 .seq (.ops [o 4 (.mv (cn))] [0, 1])
 (.seq (.ops [o 5 (.nilown 1)] [0, 1, 5])
 (.seq (.seq (.ops [o 8 (.mv (.t 0)), o 9 (.len 1 (.t 8)), o 10 (.mv (ci 0))] [1, 5, 8, 9, 10])
 (.block 0 (.loop true [1, 5, 8, 9, 10] c134L0)))
 (.seq (.ops [o 21 (.mv (.t 5)), o 4 (.mv (.t 21))] [4])
 (.ret))))⟩

/-- crumple/garage.checkTable -/
def c135L0 : ACode :=
 .seq (.ops [o 25 (.bin .lss (.t 24) (.t 23))] [4, 22, 23, 24, 25])
 (.seq (.cond (.t 25)
 (.skip)
 (.exit 0))
 (.seq (.block 1 (.seq (.ops [o 26 (.mv (.t 24)), o 27 (.iadr 2 (.t 22) (.t 24)), o 28 (.ld true 2 (.t 27)), o 6 (.alloc true 1 [.p (.int .i64 0), .p (.int .i64 0)]), o 5 (.mv (.t 26)), u (.st 2 (.t 6) (.t 28))] [4, 5, 6, 22, 23, 24])
 (.seq (.seq (.opsd [(0, 1), (1, 1), (2, 1), (3, 1), (4, 1), (6, 1), (7, 1), (5, 0), (8, 1), (9, 1), (10, 1), (11, 1), (12, 1), (13, 1), (14, 1), (15, 1), (16, 1), (17, 1), (18, 1), (19, 1), (20, 1), (21, 1), (22, 1), (23, 1), (24, 1), (25, 1), (26, 1), (27, 0), (28, 0), (29, 0), (30, 1)] [o 29 (.fadr 0 (.t 6)), o 30 (.ld false 1 (.t 29)), o 31 (.call true true 0 (.fn 92) [.t 30, ci 0, ci 100000]), o 32 (.fadr 1 (.t 6)), o 33 (.ld false 1 (.t 32)), o 35 (.mv (.t 5)), o 36 (.bin .eql (.t 35) (ci 0)), o 34 (.call true true 0 (.fn 92) [.t 33, ci 0, ci 1000000]), o 37 (.mv (.t 36)), ⟨some 38, .fadr 0 (.t 6), some (37, true)⟩, ⟨some 39, .ld false 1 (.t 38), some (37, true)⟩, ⟨some 40, .bin .neq (.t 39) (ci 0), some (37, true)⟩, o 41 (.pick (.t 37) (.t 40) (cb false)), o 42 (.mv (.t 41)), ⟨some 43, .fadr 0 (.t 6), some (42, false)⟩, ⟨some 44, .ld false 1 (.t 43), some (42, false)⟩, ⟨some 45, .fadr 0 (.t 4), some (42, false)⟩, ⟨some 46, .ld false 1 (.t 45), some (42, false)⟩, ⟨some 47, .bin .leq (.t 44) (.t 46), some (42, false)⟩, o 48 (.pick (.t 42) (cb true) (.t 47)), o 49 (.mv (.t 48)), ⟨some 50, .fadr 1 (.t 6), some (49, false)⟩, ⟨some 51, .ld false 1 (.t 50), some (49, false)⟩, ⟨some 52, .fadr 1 (.t 4), some (49, false)⟩, ⟨some 53, .ld false 1 (.t 52), some (49, false)⟩, ⟨some 54, .bin .lss (.t 51) (.t 53), some (49, false)⟩, o 55 (.pick (.t 49) (cb true) (.t 54)), o 56 (.call true true 0 (.fn 104) [.t 55, ci 11]), o 57 (.bslice false 1 [.p (.int .i64 0)] 3 [(0, .t 31), (1, .t 34), (2, .t 56)]), o 58 (.call true true 0 (.fn 91) [.t 57]), o 7 (.mv (.t 58))] [4, 6, 7, 22, 23, 24])
 (.seq (.ops [o 59 (.mv (.t 7)), o 60 (.bin .neq (.t 59) (ci 0))] [4, 6, 7, 22, 23, 24, 60])
 (.cond (.t 60)
 (.seq (.ops [o 61 (.mv (.t 7)), o 2 (.mv (.t 61))] [2])
 (.ret))
 (.skip))))
 (.ops [o 62 (.ld true 2 (.t 6)), u (.st 2 (.t 4) (.t 62))] [4, 22, 23, 24]))))
 (.ops [o 63 (.bin .add (.t 24) (ci 1)), o 24 (.mv (.t 63))] [4, 22, 23, 24])))
def c135 : AFunc := ⟨64, [.tmp 2],
 .seq (.ops [o 2 (.mv (ci 0))] [0])
 (.seq (.seq (.ops [o 8 (.mv (.t 0)), o 9 (.len 1 (.t 8)), o 10 (.bin .eql (.t 9) (ci 0)), o 11 (.call true true 0 (.fn 104) [.t 10, ci 12]), o 12 (.mv (.t 0)), o 13 (.len 1 (.t 12)), o 14 (.bin .gtr (.t 13) (ci 8)), o 15 (.call true true 0 (.fn 104) [.t 14, ci 5]), o 16 (.bslice false 1 [.p (.int .i64 0)] 2 [(0, .t 11), (1, .t 15)]), o 17 (.call true true 0 (.fn 91) [.t 16]), o 3 (.mv (.t 17))] [0, 3])
 (.seq (.ops [o 18 (.mv (.t 3)), o 19 (.bin .neq (.t 18) (ci 0))] [0, 3, 19])
 (.cond (.t 19)
 (.seq (.ops [o 20 (.mv (.t 3)), o 2 (.mv (.t 20))] [2])
 (.ret))
 (.skip))))
 (.seq (.ops [o 21 (.build [.p (.int .i64 0), .p (.int .i64 0)] [(0, 1, ci (-1)), (1, 1, ci 0)]), o 4 (.alloc true 1 [.p (.int .i64 0), .p (.int .i64 0)]), u (.st 2 (.t 4) (.t 21))] [0, 4])
 (.seq (.seq (.ops [o 22 (.mv (.t 0)), o 23 (.len 1 (.t 22)), o 24 (.mv (ci 0))] [4, 22, 23, 24])
 (.block 0 (.loop true [4, 22, 23, 24] c135L0)))
 (.seq (.ops [o 2 (.mv (ci 0))] [2])
 (.ret)))))⟩

/-- crumple/garage.byWord -/
def c136L0 : ACode :=
 .seq (.ops [o 7 (.bin .lss (.t 6) (ci 10))] [1, 5, 6, 7])
 (.seq (.cond (.t 7)
 (.skip)
 (.exit 0))
 (.seq (.block 1 (.seq (.ops [o 8 (.mv (.t 6)), o 9 (.idx true 4 10 (.t 5) (.t 6)), o 3 (.alloc false 1 [.p (.str []), .p (.nilf), .p (.nilf), .p (.nilf)]), o 2 (.mv (.t 8)), u (.st 4 (.t 3) (.t 9))] [1, 2, 3, 5, 6])
 (.ops [o 10 (.mv (.t 1)), o 11 (.fadr 0 (.t 3)), o 12 (.ld false 1 (.t 11)), o 13 (.mv (.t 2)), u (.mupd 1 (.t 10) (.t 12) (.t 13))] [1, 5, 6])))
 (.ops [o 14 (.bin .add (.t 6) (ci 1)), o 6 (.mv (.t 14))] [1, 5, 6])))
def c136 : AFunc := ⟨16, [.tmp 0],
 .seq (.ops [o 0 (.mv (.c (.p (.nilm))))] [])
 (.seq (.ops [o 4 (.mkmap), o 1 (.mv (.t 4))] [1])
 (.seq (.seq (.ops [o 5 (.ld true 40 (.g 0)), o 6 (.mv (ci 0))] [1, 5, 6])
 (.block 0 (.loop true [1, 5, 6] c136L0)))
 (.seq (.ops [o 15 (.mv (.t 1)), o 0 (.mv (.t 15))] [0])
 (.ret))))⟩

/-- crumple/garage.states -/
def c137 : AFunc := ⟨6, [.tmp 4],
 .seq (.ops [o 2 (.box false (.t 0)), o 3 (.box false (.t 1)), o 4 (.mv (.c (.p (.nilf))))] [2, 3])
 (.seq (.ops [o 5 (.mkclo 161 [] [.t 3, .t 2]), o 4 (.mv (.t 5))] [4])
 (.ret))⟩

/-- crumple/garage.begin -/
def c138 : AFunc := ⟨2, [.cell 0 true 15],
 .seq (.ops [o 0 (.alloc true 1 [.p (.int .i64 0), .p (.bool false), .p (.bool false), .p (.bool false), .p (.bool false), .p (.bool false), .p (.bool false), .p (.bool false), .p (.bool false), .p (.bool false), .p (.bool false), .p (.int .i64 0), .p (.bool false), .p (.int .i64 0), .p (.int .i64 0)])] [0])
 (.seq (.ops [o 1 (.build [.p (.int .i64 0), .p (.bool false), .p (.bool false), .p (.bool false), .p (.bool false), .p (.bool false), .p (.bool false), .p (.bool false), .p (.bool false), .p (.bool false), .p (.bool false), .p (.int .i64 0), .p (.bool false), .p (.int .i64 0), .p (.int .i64 0)] [(13, 1, ci (-1))]), u (.st 15 (.t 0) (.t 1))] [0])
 (.ret))⟩

/-- slices.Contains[[]string,string] -/
def c139 : AFunc := ⟨9, [.tmp 4],
 .seq (.ops [o 4 (.mv (cb false))] [0, 1])
 (.seq (.ops [o 5 (.mv (.t 0)), o 6 (.mv (.t 1)), o 7 (.call true true 0 (.fn 163) [.t 5, .t 6]), o 8 (.bin .geq (.t 7) (ci 0)), o 4 (.mv (.t 8))] [4])
 (.ret))⟩

/-- slices.IndexFunc[[]crumple/api.Span,crumple/api.Span] -/
def c140L0 : ACode :=
 .seq (.ops [o 9 (.bin .lss (.t 8) (.t 7))] [0, 1, 7, 8, 9])
 (.seq (.cond (.t 9)
 (.skip)
 (.exit 0))
 (.seq (.block 1 (.seq (.ops [o 10 (.mv (.t 8)), o 5 (.mv (.t 10))] [0, 1, 5, 7, 8])
 (.seq (.ops [o 11 (.mv (.t 1)), o 12 (.mv (.t 0)), o 13 (.mv (.t 5)), o 14 (.iadr 2 (.t 12) (.t 13)), o 15 (.ld true 2 (.t 14)), o 16 (.call false true 0 (.val (.t 11)) [.t 15])] [0, 1, 5, 7, 8, 16])
 (.cond (.t 16)
 (.seq (.ops [o 17 (.mv (.t 5)), o 4 (.mv (.t 17))] [4])
 (.ret))
 (.skip)))))
 (.ops [o 18 (.bin .add (.t 8) (ci 1)), o 8 (.mv (.t 18))] [0, 1, 7, 8])))
def c140 : AFunc := ⟨19, [.tmp 4],
 .seq (.ops [o 4 (.mv (ci 0))] [0, 1])
 (.seq (.seq (.ops [o 6 (.mv (.t 0)), o 7 (.len 1 (.t 6)), o 8 (.mv (ci 0))] [0, 1, 7, 8])
 (.block 0 (.loop true [0, 1, 7, 8] c140L0)))
 (.seq (.ops [o 4 (.mv (ci (-1)))] [4])
 (.ret)))⟩

/-- slices.Contains[[]int,int] -/
def c141 : AFunc := ⟨9, [.tmp 4],
 .seq (.ops [o 4 (.mv (cb false))] [0, 1])
 (.seq (.ops [o 5 (.mv (.t 0)), o 6 (.mv (.t 1)), o 7 (.call true true 0 (.fn 164) [.t 5, .t 6]), o 8 (.bin .geq (.t 7) (ci 0)), o 4 (.mv (.t 8))] [4])
 (.ret))⟩

/-- crumple/crumpleref01.IsName -/
def c142L0 : ACode :=
 .seq (.seq (.ops [o 14 (.mv (.t 3)), o 15 (.mv (.t 0)), o 16 (.len 0 (.t 15)), o 17 (.bin .lss (.t 14) (.t 16))] [0, 3, 17])
 (.cond (.t 17)
 (.skip)
 (.exit 0)))
 (.seq (.block 1 (.seq (.ops [o 20 (.mv (.t 0)), o 21 (.mv (.t 3)), o 22 (.idxs (.t 20) (.t 21)), o 23 (.bin .geq (.t 22) (.c (.p (.int .u8 65)))), o 24 (.mv (.t 23)), ⟨some 25, .mv (.t 0), some (24, true)⟩, ⟨some 26, .mv (.t 3), some (24, true)⟩, ⟨some 27, .idxs (.t 25) (.t 26), some (24, true)⟩, ⟨some 28, .bin .leq (.t 27) (.c (.p (.int .u8 90))), some (24, true)⟩, o 29 (.pick (.t 24) (.t 28) (cb false)), o 30 (.mv (.t 29)), ⟨some 31, .mv (.t 0), some (30, false)⟩, ⟨some 32, .mv (.t 3), some (30, false)⟩, ⟨some 33, .idxs (.t 31) (.t 32), some (30, false)⟩, ⟨some 34, .bin .geq (.t 33) (.c (.p (.int .u8 97))), some (30, false)⟩, ⟨some 35, .mv (.t 34), some (30, false)⟩, ⟨some 36, .mv (.t 0), some (35, true)⟩, ⟨some 37, .mv (.t 3), some (35, true)⟩, ⟨some 38, .idxs (.t 36) (.t 37), some (35, true)⟩, ⟨some 39, .bin .leq (.t 38) (.c (.p (.int .u8 122))), some (35, true)⟩, ⟨some 40, .pick (.t 35) (.t 39) (cb false), some (30, false)⟩, o 41 (.pick (.t 30) (cb true) (.t 40)), o 4 (.mv (.t 41))] [0, 3, 4])
 (.seq (.ops [o 42 (.mv (.t 0)), o 43 (.mv (.t 3)), o 44 (.idxs (.t 42) (.t 43)), o 45 (.bin .geq (.t 44) (.c (.p (.int .u8 48)))), o 46 (.mv (.t 45)), ⟨some 47, .mv (.t 0), some (46, true)⟩, ⟨some 48, .mv (.t 3), some (46, true)⟩, ⟨some 49, .idxs (.t 47) (.t 48), some (46, true)⟩, ⟨some 50, .bin .leq (.t 49) (.c (.p (.int .u8 57))), some (46, true)⟩, o 51 (.pick (.t 46) (.t 50) (cb false)), o 52 (.mv (.t 51)), ⟨some 53, .mv (.t 0), some (52, false)⟩, ⟨some 54, .mv (.t 3), some (52, false)⟩, ⟨some 55, .idxs (.t 53) (.t 54), some (52, false)⟩, ⟨some 56, .bin .eql (.t 55) (.c (.p (.int .u8 95))), some (52, false)⟩, o 57 (.pick (.t 52) (cb true) (.t 56)), o 5 (.mv (.t 57))] [0, 3, 4, 5])
 (.seq (.ops [o 58 (.mv (.t 4)), o 59 (.not (.t 58)), o 60 (.mv (.t 59)), ⟨some 61, .mv (.t 3), some (60, true)⟩, ⟨some 62, .bin .eql (.t 61) (ci 0), some (60, true)⟩, ⟨some 63, .mv (.t 62), some (60, true)⟩, ⟨some 64, .mv (.t 5), some (63, false)⟩, ⟨some 65, .not (.t 64), some (63, false)⟩, ⟨some 66, .pick (.t 63) (cb true) (.t 65), some (60, true)⟩, o 67 (.pick (.t 60) (.t 66) (cb false))] [0, 3, 67])
 (.cond (.t 67)
 (.seq (.ops [o 2 (.mv (cb false))] [2])
 (.ret))
 (.skip))))))
 (.ops [o 18 (.mv (.t 3)), o 19 (.bin .add (.t 18) (ci 1)), o 3 (.mv (.t 19))] [0, 3]))
def c142 : AFunc := ⟨68, [.tmp 2],
 .seq (.ops [o 2 (.mv (cb false))] [0])
 (.seq (.seq (.ops [o 6 (.mv (.t 0)), o 7 (.len 0 (.t 6)), o 8 (.bin .eql (.t 7) (ci 0)), o 9 (.mv (.t 8)), ⟨some 10, .mv (.t 0), some (9, false)⟩, ⟨some 11, .len 0 (.t 10), some (9, false)⟩, ⟨some 12, .bin .gtr (.t 11) (ci 24), some (9, false)⟩, o 13 (.pick (.t 9) (cb true) (.t 12))] [0, 13])
 (.cond (.t 13)
 (.seq (.ops [o 2 (.mv (cb false))] [2])
 (.ret))
 (.skip)))
 (.seq (.seq (.ops [o 3 (.mv (ci 0))] [0, 3])
 (.block 0 (.loop false [0, 3] c142L0)))
 (.seq (.ops [o 2 (.mv (cb true))] [2])
 (.ret))))⟩

/-- crumple/record.IsName -/
def c143L0 : ACode :=
 .seq (.ops [o 8 (.nxt (.t 7) true), o 9 (.ext (.t 8) 0)] [0, 7, 8, 9])
 (.seq (.cond (.t 9)
 (.skip)
 (.exit 0))
 (.block 1 (.seq (.ops [o 10 (.ext (.t 8) 1), o 11 (.ext (.t 8) 2), o 3 (.mv (.t 10)), o 4 (.mv (.t 11))] [0, 3, 4, 7])
 (.seq (.ops [o 12 (.mv (.t 4)), o 13 (.bin .geq (.t 12) (.c (.p (.int .i32 97)))), o 14 (.mv (.t 13)), ⟨some 15, .mv (.t 4), some (14, true)⟩, ⟨some 16, .bin .leq (.t 15) (.c (.p (.int .i32 122))), some (14, true)⟩, o 17 (.pick (.t 14) (.t 16) (cb false)), o 18 (.mv (.t 17)), ⟨some 19, .mv (.t 4), some (18, false)⟩, ⟨some 20, .bin .geq (.t 19) (.c (.p (.int .i32 65))), some (18, false)⟩, ⟨some 21, .mv (.t 20), some (18, false)⟩, ⟨some 22, .mv (.t 4), some (21, true)⟩, ⟨some 23, .bin .leq (.t 22) (.c (.p (.int .i32 90))), some (21, true)⟩, ⟨some 24, .pick (.t 21) (.t 23) (cb false), some (18, false)⟩, o 25 (.pick (.t 18) (cb true) (.t 24)), o 5 (.mv (.t 25))] [0, 3, 4, 5, 7])
 (.seq (.ops [o 26 (.mv (.t 5)), o 27 (.not (.t 26)), o 28 (.mv (.t 27)), ⟨some 29, .mv (.t 3), some (28, true)⟩, ⟨some 30, .bin .eql (.t 29) (ci 0), some (28, true)⟩, ⟨some 31, .mv (.t 30), some (28, true)⟩, ⟨some 32, .mv (.t 4), some (31, false)⟩, ⟨some 33, .bin .neq (.t 32) (.c (.p (.int .i32 95))), some (31, false)⟩, ⟨some 34, .mv (.t 33), some (31, false)⟩, ⟨some 35, .mv (.t 4), some (34, true)⟩, ⟨some 36, .bin .lss (.t 35) (.c (.p (.int .i32 48))), some (34, true)⟩, ⟨some 37, .mv (.t 36), some (34, true)⟩, ⟨some 38, .mv (.t 4), some (37, false)⟩, ⟨some 39, .bin .gtr (.t 38) (.c (.p (.int .i32 57))), some (37, false)⟩, ⟨some 40, .pick (.t 37) (cb true) (.t 39), some (34, true)⟩, ⟨some 41, .pick (.t 34) (.t 40) (cb false), some (31, false)⟩, ⟨some 42, .pick (.t 31) (cb true) (.t 41), some (28, true)⟩, o 43 (.pick (.t 28) (.t 42) (cb false))] [0, 7, 43])
 (.cond (.t 43)
 (.seq (.ops [o 2 (.mv (cb false))] [2])
 (.ret))
 (.skip)))))))
def c143 : AFunc := ⟨51, [.tmp 2],
 .seq (.ops [o 2 (.mv (cb false))] [0])
 (.seq (.seq (.ops [o 6 (.mv (.t 0)), o 7 (.rngs (.t 6))] [0, 7])
 (.block 0 (.loop false [0, 7] c143L0)))
 (.seq (.ops [o 44 (.mv (.t 0)), o 45 (.bin .neq (.t 44) (cs [])), o 46 (.mv (.t 45)), ⟨some 47, .mv (.t 0), some (46, true)⟩, ⟨some 48, .len 0 (.t 47), some (46, true)⟩, ⟨some 49, .bin .leq (.t 48) (ci 24), some (46, true)⟩, o 50 (.pick (.t 46) (.t 49) (cb false)), o 2 (.mv (.t 50))] [2])
 (.ret)))⟩

/-- crumple/garage.checkStarts$1 -/
def c144 : AFunc := ⟨5, [.tmp 2],
 .seq (.ops [o 2 (.mv (ci 0))] [0])
 (.seq (.ops [o 3 (.mv (.t 0)), o 4 (.call true true 0 (.fn 92) [.t 3, ci 0, ci 1000000]), o 2 (.mv (.t 4))] [2])
 (.ret))⟩

/-- cmp.Or[int] -/
def c145L0 : ACode :=
 .seq (.ops [o 9 (.bin .lss (.t 8) (.t 7))] [3, 6, 7, 8, 9])
 (.seq (.cond (.t 9)
 (.skip)
 (.exit 0))
 (.seq (.block 1 (.seq (.ops [o 10 (.iadr 1 (.t 6) (.t 8)), o 11 (.ld false 1 (.t 10)), o 5 (.mv (.t 11))] [3, 5, 6, 7, 8])
 (.seq (.ops [o 12 (.mv (.t 5)), o 13 (.mv (.t 3)), o 14 (.bin .neq (.t 12) (.t 13))] [3, 5, 6, 7, 8, 14])
 (.cond (.t 14)
 (.seq (.ops [o 15 (.mv (.t 5)), o 2 (.mv (.t 15))] [2])
 (.ret))
 (.skip)))))
 (.ops [o 16 (.bin .add (.t 8) (ci 1)), o 8 (.mv (.t 16))] [3, 6, 7, 8])))
def c145 : AFunc := ⟨18, [.tmp 2],
 .seq (.ops [o 2 (.mv (ci 0))] [0])
 (.seq (.ops [o 3 (.mv (ci 0))] [0, 3])
 (.seq (.seq (.ops [o 6 (.mv (.t 0)), o 7 (.len 1 (.t 6)), o 8 (.mv (ci 0))] [3, 6, 7, 8])
 (.block 0 (.loop false [3, 6, 7, 8] c145L0)))
 (.seq (.ops [o 17 (.mv (.t 3)), o 2 (.mv (.t 17))] [2])
 (.ret))))⟩

/-- cmp.Compare[int] -/
def c146 : AFunc := ⟨20, [.tmp 4],
 .seq (.ops [o 4 (.mv (ci 0))] [0, 1])
 (.seq (.ops [o 7 (.mv (.t 0)), o 8 (.call true true 0 (.fn 165) [.t 7]), o 5 (.mv (.t 8))] [0, 1, 5])
 (.seq (.ops [o 9 (.mv (.t 1)), o 10 (.call true true 0 (.fn 165) [.t 9]), o 6 (.mv (.t 10))] [0, 1, 5, 6])
 (.seq (.seq (.ops [o 11 (.mv (.t 5))] [0, 1, 6, 11])
 (.cond (.t 11)
 (.seq (.seq (.ops [o 12 (.mv (.t 6))] [12])
 (.cond (.t 12)
 (.seq (.ops [o 4 (.mv (ci 0))] [4])
 (.ret))
 (.skip)))
 (.seq (.ops [o 4 (.mv (ci (-1)))] [4])
 (.ret)))
 (.skip)))
 (.seq (.seq (.ops [o 13 (.mv (.t 6))] [0, 1, 13])
 (.cond (.t 13)
 (.seq (.ops [o 4 (.mv (ci 1))] [4])
 (.ret))
 (.skip)))
 (.seq (.seq (.ops [o 14 (.mv (.t 0)), o 15 (.mv (.t 1)), o 16 (.bin .lss (.t 14) (.t 15))] [0, 1, 16])
 (.cond (.t 16)
 (.seq (.ops [o 4 (.mv (ci (-1)))] [4])
 (.ret))
 (.skip)))
 (.seq (.seq (.ops [o 17 (.mv (.t 0)), o 18 (.mv (.t 1)), o 19 (.bin .gtr (.t 17) (.t 18))] [19])
 (.cond (.t 19)
 (.seq (.ops [o 4 (.mv (ci 1))] [4])
 (.ret))
 (.skip)))
 (.seq (.ops [o 4 (.mv (ci 0))] [4])
 (.ret))))))))⟩

/-- slices.Compare[[]int,int] -/
def c147L0 : ACode :=
 .seq (.ops [o 12 (.bin .lss (.t 11) (.t 10))] [0, 1, 9, 10, 11, 12])
 (.seq (.cond (.t 12)
 (.skip)
 (.exit 0))
 (.seq (.block 1 (.seq (.ops [o 13 (.mv (.t 11)), o 14 (.iadr 1 (.t 9) (.t 11)), o 15 (.ld false 1 (.t 14)), o 5 (.mv (.t 13)), o 6 (.mv (.t 15))] [0, 1, 5, 6, 9, 10, 11])
 (.seq (.seq (.ops [o 16 (.mv (.t 5)), o 17 (.mv (.t 1)), o 18 (.len 1 (.t 17)), o 19 (.bin .geq (.t 16) (.t 18))] [0, 1, 5, 6, 9, 10, 11, 19])
 (.cond (.t 19)
 (.seq (.ops [o 4 (.mv (ci 1))] [4])
 (.ret))
 (.skip)))
 (.seq (.ops [o 20 (.mv (.t 1)), o 21 (.mv (.t 5)), o 22 (.iadr 1 (.t 20) (.t 21)), o 23 (.ld false 1 (.t 22)), o 7 (.mv (.t 23))] [0, 1, 6, 7, 9, 10, 11])
 (.seq (.ops [o 24 (.mv (.t 6)), o 25 (.mv (.t 7)), o 26 (.call true true 0 (.fn 146) [.t 24, .t 25]), o 8 (.mv (.t 26))] [0, 1, 8, 9, 10, 11])
 (.seq (.ops [o 27 (.mv (.t 8)), o 28 (.bin .neq (.t 27) (ci 0))] [0, 1, 8, 9, 10, 11, 28])
 (.cond (.t 28)
 (.seq (.ops [o 29 (.mv (.t 8)), o 4 (.mv (.t 29))] [4])
 (.ret))
 (.skip))))))))
 (.ops [o 30 (.bin .add (.t 11) (ci 1)), o 11 (.mv (.t 30))] [0, 1, 9, 10, 11])))
def c147 : AFunc := ⟨36, [.tmp 4],
 .seq (.ops [o 4 (.mv (ci 0))] [0, 1])
 (.seq (.seq (.ops [o 9 (.mv (.t 0)), o 10 (.len 1 (.t 9)), o 11 (.mv (ci 0))] [0, 1, 9, 10, 11])
 (.block 0 (.loop false [0, 1, 9, 10, 11] c147L0)))
 (.seq (.seq (.ops [o 31 (.mv (.t 0)), o 32 (.len 1 (.t 31)), o 33 (.mv (.t 1)), o 34 (.len 1 (.t 33)), o 35 (.bin .lss (.t 32) (.t 34))] [35])
 (.cond (.t 35)
 (.seq (.ops [o 4 (.mv (ci (-1)))] [4])
 (.ret))
 (.skip)))
 (.seq (.ops [o 4 (.mv (ci 0))] [4])
 (.ret))))⟩

/-- slices.Reverse[[]int,int] -/
def c148L0 : ACode :=
 .seq (.seq (.ops [o 7 (.mv (.t 2)), o 8 (.mv (.t 3)), o 9 (.bin .lss (.t 7) (.t 8))] [0, 2, 3, 9])
 (.cond (.t 9)
 (.skip)
 (.exit 0)))
 (.seq (.block 1 (.opsd [(0, 1), (1, 1), (2, 1), (3, 1), (4, 1), (5, 1), (6, 1), (7, 1), (8, 1), (9, 1), (10, 1), (11, 1), (12, 1), (13, 0), (14, 1), (15, 0)] [o 14 (.mv (.t 0)), o 15 (.mv (.t 2)), o 16 (.mv (.t 0)), o 17 (.mv (.t 3)), o 18 (.mv (.t 0)), o 19 (.mv (.t 3)), o 20 (.iadr 1 (.t 18) (.t 19)), o 21 (.ld false 1 (.t 20)), o 22 (.mv (.t 0)), o 23 (.mv (.t 2)), o 24 (.iadr 1 (.t 22) (.t 23)), o 25 (.ld false 1 (.t 24)), o 26 (.iadr 1 (.t 14) (.t 15)), u (.st 1 (.t 26) (.t 21)), o 27 (.iadr 1 (.t 16) (.t 17)), u (.st 1 (.t 27) (.t 25))] [0, 2, 3]))
 (.ops [o 10 (.mv (.t 2)), o 11 (.bin .add (.t 10) (ci 1)), o 12 (.mv (.t 3)), o 13 (.bin .sub (.t 12) (ci 1)), o 2 (.mv (.t 11)), o 3 (.mv (.t 13))] [0, 2, 3]))
def c148 : AFunc := ⟨28, [],
 .seq (.ops [o 4 (.mv (.t 0)), o 5 (.len 1 (.t 4)), o 6 (.bin .sub (.t 5) (ci 1)), o 2 (.mv (ci 0)), o 3 (.mv (.t 6))] [0, 2, 3])
 (.block 0 (.loop false [0, 2, 3] c148L0))⟩

/-- strings.Lines$1 -/
def c153L0 : ACode :=
 .seq (.seq (.ops [o 5 (.ld false 1 (.t 1)), o 6 (.len 0 (.t 5)), o 7 (.bin .gtr (.t 6) (ci 0))] [0, 1, 7])
 (.cond (.t 7)
 (.skip)
 (.exit 0)))
 (.block 1 (.seq (.ops [o 3 (.mv (cs []))] [0, 1])
 (.seq (.seq (.ops [o 8 (.ld false 1 (.t 1)), o 9 (.call true true 0 (.fn 154) [.t 8, .c (.p (.int .u8 10))]), o 4 (.mv (.t 9))] [0, 1, 4])
 (.seq (.ops [o 10 (.mv (.t 4)), o 11 (.bin .geq (.t 10) (ci 0))] [0, 1, 4, 11])
 (.cond (.t 11)
 (.opsd [(0, 1), (1, 1), (2, 1), (3, 1), (4, 1), (5, 1), (6, 1), (7, 1), (8, 1), (9, 0)] [o 12 (.ld false 1 (.t 1)), o 13 (.mv (.t 4)), o 14 (.bin .add (.t 13) (ci 1)), o 15 (.slcs (.t 12) none (some (.t 14))), o 16 (.ld false 1 (.t 1)), o 17 (.mv (.t 4)), o 18 (.bin .add (.t 17) (ci 1)), o 19 (.slcs (.t 16) (some (.t 18)) none), o 3 (.mv (.t 15)), u (.st 1 (.t 1) (.t 19))] [0, 1, 3])
 (.ops [o 20 (.ld false 1 (.t 1)), o 3 (.mv (.t 20)), u (.st 1 (.t 1) (cs []))] [0, 1, 3]))))
 (.seq (.ops [o 21 (.mv (.t 0)), o 22 (.mv (.t 3)), o 23 (.call false true 0 (.val (.t 21)) [.t 22]), o 24 (.not (.t 23))] [0, 1, 24])
 (.cond (.t 24)
 (.ret)
 (.skip))))))
def c153 : AFunc := ⟨25, [],
 .block 0 (.loop true [0, 1] c153L0)⟩

/-- strings.IndexByte -/
def c154 : AFunc := ⟨8, [.tmp 4],
 .seq (.ops [o 4 (.mv (ci 0))] [0, 1])
 (.seq (.ops [o 5 (.mv (.t 0)), o 6 (.mv (.t 1)), o 7 (.call true true 0 (.fn 169) [.t 5, .t 6]), o 4 (.mv (.t 7))] [4])
 (.ret))⟩

/-- internal/stringslite.CutSuffix -/
def c155 : AFunc := ⟨18, [.tmp 4, .tmp 5],
 .seq (.ops [o 4 (.mv (cs [])), o 5 (.mv (cb false))] [0, 1])
 (.seq (.seq (.ops [o 6 (.mv (.t 0)), o 7 (.mv (.t 1)), o 8 (.call true true 0 (.fn 170) [.t 6, .t 7]), o 9 (.not (.t 8))] [0, 1, 9])
 (.cond (.t 9)
 (.seq (.ops [o 10 (.mv (.t 0)), o 4 (.mv (.t 10)), o 5 (.mv (cb false))] [4, 5])
 (.ret))
 (.skip)))
 (.seq (.ops [o 11 (.mv (.t 0)), o 12 (.mv (.t 0)), o 13 (.len 0 (.t 12)), o 14 (.mv (.t 1)), o 15 (.len 0 (.t 14)), o 16 (.bin .sub (.t 13) (.t 15)), o 17 (.slcs (.t 11) none (some (.t 16))), o 4 (.mv (.t 17)), o 5 (.mv (cb true))] [4, 5])
 (.ret)))⟩

/-- strings.Split -/
def c156 : AFunc := ⟨8, [.tmp 4],
 .seq (.ops [o 4 (.mv (cn))] [0, 1])
 (.seq (.ops [o 5 (.mv (.t 0)), o 6 (.mv (.t 1)), o 7 (.call true false 0 (.fn 171) [.t 5, .t 6, ci 0, ci (-1)]), o 4 (.mv (.t 7))] [4])
 (.ret))⟩

/-- (*crumple/garage.taker).number -/
def c157 : AFunc := ⟨23, [.tmp 2],
 .seq (.ops [o 2 (.mv (ci 0))] [0])
 (.seq (.ops [o 6 (.mv (.t 0)), o 7 (.call false true 0 (.fn 158) [.t 6]), o 8 (.call true true 0 (.fn 172) [.t 7]), o 5 (.mv (.t 8)), o 9 (.ext (.t 5) 0), o 10 (.ext (.t 5) 1), o 3 (.mv (.t 9)), o 4 (.mv (.t 10))] [0, 3, 4])
 (.seq (.ops [o 11 (.mv (.t 0)), o 12 (.mv (.t 0)), o 13 (.nilck (.t 12)), o 14 (.fadr 1 (.t 13)), o 15 (.ld false 1 (.t 14)), o 16 (.mv (.t 15)), ⟨some 17, .mv (.t 4), some (16, false)⟩, ⟨some 18, .not (.t 17), some (16, false)⟩, o 19 (.pick (.t 16) (cb true) (.t 18)), o 20 (.nilck (.t 11)), o 21 (.fadr 1 (.t 20)), u (.st 1 (.t 21) (.t 19))] [3])
 (.seq (.ops [o 22 (.mv (.t 3)), o 2 (.mv (.t 22))] [2])
 (.ret))))⟩

/-- (*crumple/garage.taker).word -/
def c158 : AFunc := ⟨28, [.tmp 2],
 .seq (.ops [o 2 (.mv (cs []))] [0])
 (.seq (.seq (.ops [o 4 (.mv (.t 0)), o 5 (.nilck (.t 4)), o 6 (.fadr 0 (.t 5)), o 7 (.ld false 1 (.t 6)), o 8 (.len 1 (.t 7)), o 9 (.bin .eql (.t 8) (ci 0))] [0, 9])
 (.cond (.t 9)
 (.seq (.ops [o 10 (.mv (.t 0)), o 11 (.nilck (.t 10)), o 12 (.fadr 1 (.t 11)), u (.st 1 (.t 12) (cb true))] [])
 (.seq (.ops [o 2 (.mv (cs []))] [2])
 (.ret)))
 (.skip)))
 (.seq (.ops [o 13 (.mv (.t 0)), o 14 (.nilck (.t 13)), o 15 (.fadr 0 (.t 14)), o 16 (.ld false 1 (.t 15)), o 17 (.iadr 1 (.t 16) (ci 0)), o 18 (.ld false 1 (.t 17)), o 3 (.mv (.t 18))] [0, 3])
 (.seq (.ops [o 19 (.mv (.t 0)), o 20 (.mv (.t 0)), o 21 (.nilck (.t 20)), o 22 (.fadr 0 (.t 21)), o 23 (.ld false 1 (.t 22)), o 24 (.slc 1 (.t 23) (some (ci 1)) none), o 25 (.nilck (.t 19)), o 26 (.fadr 0 (.t 25)), u (.st 1 (.t 26) (.t 24))] [3])
 (.seq (.ops [o 27 (.mv (.t 3)), o 2 (.mv (.t 27))] [2])
 (.ret)))))⟩

/-- crumple/garage.measures$1 -/
def c160 : AFunc := ⟨5, [.tmp 2],
 .seq (.ops [o 2 (.mv (ci 0))] [0])
 (.seq (.ops [o 3 (.mv (.t 0)), o 4 (.call true true 0 (.fn 92) [.t 3, ci 0, ci 100000]), o 2 (.mv (.t 4))] [2])
 (.ret))⟩

/-- crumple/garage.states$1 -/
def c161L0 : ACode :=
 .seq (.ops [o 11 (.bin .lss (.t 10) (.t 9))] [0, 2, 4, 8, 9, 10, 11])
 (.seq (.cond (.t 11)
 (.skip)
 (.exit 0))
 (.seq (.block 1 (.seq (.ops [o 12 (.mv (.t 10)), o 13 (.iadr 6 (.t 8) (.t 10)), o 14 (.ld true 6 (.t 13)), o 6 (.alloc true 1 [.p (.int .i64 0), .p (.str []), .p (.int .i64 0), .p (.int .i64 0), .p (.int .i64 0), .p (.int .i64 0)]), o 5 (.mv (.t 12)), u (.st 6 (.t 6) (.t 14))] [0, 2, 4, 5, 6, 8, 9, 10])
 (.seq (.seq (.ops [o 15 (.ld true 15 (.t 4)), o 16 (.ld true 6 (.t 6)), o 17 (.call true false 0 (.fn 90) [.t 15, .t 16]), o 18 (.len 1 (.t 17)), o 19 (.bin .gtr (.t 18) (ci 0))] [0, 2, 4, 5, 6, 8, 9, 10, 19])
 (.cond (.t 19)
 (.ret)
 (.skip)))
 (.seq (.ops [o 20 (.ld true 15 (.t 4)), o 21 (.ld true 5 (.t 2)), o 22 (.ld true 6 (.t 6)), o 23 (.call true true 0 (.fn 162) [.t 20, .t 21, .t 22]), u (.st 15 (.t 4) (.t 23))] [0, 2, 4, 5, 8, 9, 10])
 (.seq (.ops [o 24 (.mv (.t 0)), o 25 (.mv (.t 5)), o 26 (.ld true 15 (.t 4)), o 27 (.call false true 0 (.val (.t 24)) [.t 25, .t 26]), o 28 (.not (.t 27))] [0, 2, 4, 8, 9, 10, 28])
 (.cond (.t 28)
 (.ret)
 (.skip)))))))
 (.ops [o 29 (.bin .add (.t 10) (ci 1)), o 10 (.mv (.t 29))] [0, 2, 4, 8, 9, 10])))
def c161 : AFunc := ⟨30, [],
 .seq (.ops [o 7 (.call true true 0 (.fn 138) []), o 4 (.alloc true 1 [.p (.int .i64 0), .p (.bool false), .p (.bool false), .p (.bool false), .p (.bool false), .p (.bool false), .p (.bool false), .p (.bool false), .p (.bool false), .p (.bool false), .p (.bool false), .p (.int .i64 0), .p (.bool false), .p (.int .i64 0), .p (.int .i64 0)]), u (.st 15 (.t 4) (.t 7))] [0, 1, 2, 4])
 (.seq (.ops [o 8 (.ld false 1 (.t 1)), o 9 (.len 1 (.t 8)), o 10 (.mv (ci 0))] [0, 2, 4, 8, 9, 10])
 (.block 0 (.loop true [0, 2, 4, 8, 9, 10] c161L0)))⟩

/-- (crumple/garage.State).after -/
def c162 : AFunc := ⟨21, [.cell 6 true 15],
 .seq (.ops [o 3 (.box true (.t 0)), o 4 (.box false (.t 1)), o 5 (.box true (.t 2)), o 6 (.alloc true 1 [.p (.int .i64 0), .p (.bool false), .p (.bool false), .p (.bool false), .p (.bool false), .p (.bool false), .p (.bool false), .p (.bool false), .p (.bool false), .p (.bool false), .p (.bool false), .p (.int .i64 0), .p (.bool false), .p (.int .i64 0), .p (.int .i64 0)])] [3, 4, 5, 6])
 (.seq (.ops [o 7 (.fadr 0 (.t 5)), o 8 (.ld false 1 (.t 7)), o 9 (.fadr 0 (.t 3)), u (.st 1 (.t 9) (.t 8))] [3, 4, 5, 6])
 (.seq (.opsd [(0, 1), (1, 1), (2, 1), (3, 1), (4, 1), (5, 1), (6, 1), (7, 1), (8, 1), (9, 0)] [o 10 (.call true false 0 (.fn 136) []), o 11 (.fadr 1 (.t 5)), o 12 (.ld false 1 (.t 11)), o 13 (.lkup 1 (.p (.int .i64 0)) (.t 10) (.t 12) false), o 14 (.iadra 4 10 (.g 0) (.t 13)), o 15 (.fadr 3 (.t 14)), o 16 (.ld false 1 (.t 15)), o 17 (.ld true 5 (.t 4)), o 18 (.ld true 6 (.t 5)), o 19 (.call false true 0 (.val (.t 16)) [.t 17, .t 3, .t 18])] [3, 6])
 (.seq (.ops [o 20 (.ld true 15 (.t 3)), u (.st 15 (.t 6) (.t 20))] [6])
 (.ret))))⟩

/-- slices.Index[[]string,string] -/
def c163L0 : ACode :=
 .seq (.ops [o 9 (.bin .lss (.t 8) (.t 7))] [0, 1, 7, 8, 9])
 (.seq (.cond (.t 9)
 (.skip)
 (.exit 0))
 (.seq (.block 1 (.seq (.ops [o 10 (.mv (.t 8)), o 5 (.mv (.t 10))] [0, 1, 5, 7, 8])
 (.seq (.ops [o 11 (.mv (.t 1)), o 12 (.mv (.t 0)), o 13 (.mv (.t 5)), o 14 (.iadr 1 (.t 12) (.t 13)), o 15 (.ld false 1 (.t 14)), o 16 (.bin .eql (.t 11) (.t 15))] [0, 1, 5, 7, 8, 16])
 (.cond (.t 16)
 (.seq (.ops [o 17 (.mv (.t 5)), o 4 (.mv (.t 17))] [4])
 (.ret))
 (.skip)))))
 (.ops [o 18 (.bin .add (.t 8) (ci 1)), o 8 (.mv (.t 18))] [0, 1, 7, 8])))
def c163 : AFunc := ⟨19, [.tmp 4],
 .seq (.ops [o 4 (.mv (ci 0))] [0, 1])
 (.seq (.seq (.ops [o 6 (.mv (.t 0)), o 7 (.len 1 (.t 6)), o 8 (.mv (ci 0))] [0, 1, 7, 8])
 (.block 0 (.loop false [0, 1, 7, 8] c163L0)))
 (.seq (.ops [o 4 (.mv (ci (-1)))] [4])
 (.ret)))⟩

/-- slices.Index[[]int,int] -/
def c164L0 : ACode :=
 .seq (.ops [o 9 (.bin .lss (.t 8) (.t 7))] [0, 1, 7, 8, 9])
 (.seq (.cond (.t 9)
 (.skip)
 (.exit 0))
 (.seq (.block 1 (.seq (.ops [o 10 (.mv (.t 8)), o 5 (.mv (.t 10))] [0, 1, 5, 7, 8])
 (.seq (.ops [o 11 (.mv (.t 1)), o 12 (.mv (.t 0)), o 13 (.mv (.t 5)), o 14 (.iadr 1 (.t 12) (.t 13)), o 15 (.ld false 1 (.t 14)), o 16 (.bin .eql (.t 11) (.t 15))] [0, 1, 5, 7, 8, 16])
 (.cond (.t 16)
 (.seq (.ops [o 17 (.mv (.t 5)), o 4 (.mv (.t 17))] [4])
 (.ret))
 (.skip)))))
 (.ops [o 18 (.bin .add (.t 8) (ci 1)), o 8 (.mv (.t 18))] [0, 1, 7, 8])))
def c164 : AFunc := ⟨19, [.tmp 4],
 .seq (.ops [o 4 (.mv (ci 0))] [0, 1])
 (.seq (.seq (.ops [o 6 (.mv (.t 0)), o 7 (.len 1 (.t 6)), o 8 (.mv (ci 0))] [0, 1, 7, 8])
 (.block 0 (.loop false [0, 1, 7, 8] c164L0)))
 (.seq (.ops [o 4 (.mv (ci (-1)))] [4])
 (.ret)))⟩

/-- cmp.isNaN[int] -/
def c165 : AFunc := ⟨6, [.tmp 2],
 .seq (.ops [o 2 (.mv (cb false))] [0])
 (.seq (.ops [o 3 (.mv (.t 0)), o 4 (.mv (.t 0)), o 5 (.bin .neq (.t 3) (.t 4)), o 2 (.mv (.t 5))] [2])
 (.ret))⟩

/-- internal/stringslite.IndexByte -/
def c169 : AFunc := ⟨8, [.tmp 4],
 .seq (.ops [o 4 (.mv (ci 0))] [0, 1])
 (.seq (.ops [o 5 (.mv (.t 0)), o 6 (.mv (.t 1)), o 7 (.call true true 0 (.fn 179) [.t 5, .t 6]), o 4 (.mv (.t 7))] [4])
 (.ret))⟩

/-- internal/stringslite.HasSuffix -/
def c170 : AFunc := ⟨21, [.tmp 4],
 .seq (.ops [o 4 (.mv (cb false))] [0, 1])
 (.seq (.ops [o 5 (.mv (.t 0)), o 6 (.len 0 (.t 5)), o 7 (.mv (.t 1)), o 8 (.len 0 (.t 7)), o 9 (.bin .geq (.t 6) (.t 8)), o 10 (.mv (.t 9)), ⟨some 11, .mv (.t 0), some (10, true)⟩, ⟨some 12, .mv (.t 0), some (10, true)⟩, ⟨some 13, .len 0 (.t 12), some (10, true)⟩, ⟨some 14, .mv (.t 1), some (10, true)⟩, ⟨some 15, .len 0 (.t 14), some (10, true)⟩, ⟨some 16, .bin .sub (.t 13) (.t 15), some (10, true)⟩, ⟨some 17, .slcs (.t 11) (some (.t 16)) none, some (10, true)⟩, ⟨some 18, .mv (.t 1), some (10, true)⟩, ⟨some 19, .bin .eql (.t 17) (.t 18), some (10, true)⟩, o 20 (.pick (.t 10) (.t 19) (cb false)), o 4 (.mv (.t 20))] [4])
 (.ret))⟩

/-- strings.genSplit -/
def c171L0 : ACode :=
 .seq (.seq (.ops [o 34 (.mv (.t 10)), o 35 (.mv (.t 3)), o 36 (.bin .lss (.t 34) (.t 35))] [0, 1, 2, 3, 9, 10, 36])
 (.cond (.t 36)
 (.skip)
 (.exit 0)))
 (.block 1 (.seq (.ops [o 37 (.mv (.t 0)), o 38 (.mv (.t 1)), o 39 (.call true true 0 (.fn 182) [.t 37, .t 38]), o 11 (.mv (.t 39))] [0, 1, 2, 3, 9, 10, 11])
 (.seq (.seq (.ops [o 40 (.mv (.t 11)), o 41 (.bin .lss (.t 40) (ci 0))] [0, 1, 2, 3, 9, 10, 11, 41])
 (.cond (.t 41)
 (.exit 0)
 (.skip)))
 (.seq (.ops [o 42 (.mv (.t 9)), o 43 (.mv (.t 10)), o 44 (.mv (.t 0)), o 45 (.mv (.t 11)), o 46 (.mv (.t 2)), o 47 (.bin .add (.t 45) (.t 46)), o 48 (.slcs (.t 44) none (some (.t 47))), o 49 (.iadr 1 (.t 42) (.t 43)), u (.st 1 (.t 49) (.t 48))] [0, 1, 2, 3, 9, 10, 11])
 (.seq (.ops [o 50 (.mv (.t 0)), o 51 (.mv (.t 11)), o 52 (.mv (.t 1)), o 53 (.len 0 (.t 52)), o 54 (.bin .add (.t 51) (.t 53)), o 55 (.slcs (.t 50) (some (.t 54)) none), o 0 (.mv (.t 55))] [0, 1, 2, 3, 9, 10])
 (.ops [o 56 (.mv (.t 10)), o 57 (.bin .add (.t 56) (ci 1)), o 10 (.mv (.t 57))] [0, 1, 2, 3, 9, 10]))))))
def c171 : AFunc := ⟨66, [.tmp 8],
 .seq (.ops [o 8 (.mv (cn))] [0, 1, 2, 3])
 (.seq (.seq (.ops [o 12 (.mv (.t 3)), o 13 (.bin .eql (.t 12) (ci 0))] [0, 1, 2, 3, 13])
 (.cond (.t 13)
 (.seq (.ops [o 8 (.mv (cn))] [8])
 (.ret))
 (.skip)))
 (.seq (.seq (.ops [o 14 (.mv (.t 1)), o 15 (.bin .eql (.t 14) (cs []))] [0, 1, 2, 3, 15])
 (.cond (.t 15)
 (.seq (.ops [o 16 (.mv (.t 0)), o 17 (.mv (.t 3)), o 18 (.call true false 0 (.fn 180) [.t 16, .t 17]), o 8 (.mv (.t 18))] [8])
 (.ret))
 (.skip)))
 (.seq (.seq (.ops [o 19 (.mv (.t 3)), o 20 (.bin .lss (.t 19) (ci 0))] [0, 1, 2, 3, 20])
 (.cond (.t 20)
 (.ops [o 21 (.mv (.t 0)), o 22 (.mv (.t 1)), o 23 (.call true true 0 (.fn 181) [.t 21, .t 22]), o 24 (.bin .add (.t 23) (ci 1)), o 3 (.mv (.t 24))] [0, 1, 2, 3])
 (.skip)))
 (.seq (.ops [o 25 (.mv (.t 3)), o 26 (.mv (.t 0)), o 27 (.len 0 (.t 26)), o 28 (.bin .add (.t 27) (ci 1)), o 29 (.min [.t 25, .t 28]), o 3 (.mv (.t 29))] [0, 1, 2, 3])
 (.seq (.ops [o 30 (.mv (.t 3)), o 31 (.mkslice 1 [.p (.str [])] (.t 30) (.t 30)), o 9 (.mv (.t 31))] [0, 1, 2, 3, 9])
 (.seq (.ops [o 32 (.mv (.t 3)), o 33 (.bin .sub (.t 32) (ci 1)), o 3 (.mv (.t 33))] [0, 1, 2, 3, 9])
 (.seq (.ops [o 10 (.mv (ci 0))] [0, 1, 2, 3, 9, 10])
 (.seq (.block 0 (.loop false [0, 1, 2, 3, 9, 10] c171L0))
 (.seq (.ops [o 58 (.mv (.t 9)), o 59 (.mv (.t 10)), o 60 (.mv (.t 0)), o 61 (.iadr 1 (.t 58) (.t 59)), u (.st 1 (.t 61) (.t 60))] [9, 10])
 (.seq (.ops [o 62 (.mv (.t 9)), o 63 (.mv (.t 10)), o 64 (.bin .add (.t 63) (ci 1)), o 65 (.slc 1 (.t 62) none (some (.t 64))), o 8 (.mv (.t 65))] [8])
 (.ret)))))))))))⟩

/-- crumple/garage.integer -/
def c172L0 : ACode :=
 .seq (.ops [o 9 (.nxt (.t 8) true), o 10 (.ext (.t 9) 0)] [0, 4, 8, 9, 10])
 (.seq (.cond (.t 10)
 (.skip)
 (.exit 0))
 (.block 1 (.seq (.ops [o 11 (.ext (.t 9) 2), o 6 (.mv (.t 11))] [0, 4, 6, 8])
 (.seq (.seq (.ops [o 12 (.mv (.t 6)), o 13 (.bin .lss (.t 12) (.c (.p (.int .i32 48)))), o 14 (.mv (.t 13)), ⟨some 15, .mv (.t 6), some (14, false)⟩, ⟨some 16, .bin .gtr (.t 15) (.c (.p (.int .i32 57))), some (14, false)⟩, o 17 (.pick (.t 14) (cb true) (.t 16)), o 18 (.mv (.t 17)), ⟨some 19, .mv (.t 0), some (18, false)⟩, ⟨some 20, .len 0 (.t 19), some (18, false)⟩, ⟨some 21, .bin .gtr (.t 20) (ci 9), some (18, false)⟩, o 22 (.pick (.t 18) (cb true) (.t 21))] [0, 4, 6, 8, 22])
 (.cond (.t 22)
 (.seq (.ops [o 2 (.mv (ci 0)), o 3 (.mv (cb false))] [2, 3])
 (.ret))
 (.skip)))
 (.ops [o 23 (.mv (.t 4)), o 24 (.bin .mul (ci 10) (.t 23)), o 25 (.mv (.t 6)), o 26 (.bin .sub (.t 25) (.c (.p (.int .i32 48)))), o 27 (.conv (.int .i64) (.t 26)), o 28 (.bin .add (.t 24) (.t 27)), o 4 (.mv (.t 28))] [0, 4, 8])))))
def c172 : AFunc := ⟨42, [.tmp 2, .tmp 3],
 .seq (.ops [o 2 (.mv (ci 0)), o 3 (.mv (cb false))] [0])
 (.seq (.ops [o 4 (.mv (ci 0))] [0, 4])
 (.seq (.seq (.ops [o 7 (.mv (.t 0)), o 8 (.rngs (.t 7))] [0, 4, 8])
 (.block 0 (.loop false [0, 4, 8] c172L0)))
 (.seq (.opsd [(0, 1), (1, 1), (2, 1), (3, 1), (4, 1), (5, 1), (6, 1), (7, 1), (8, 1), (9, 1), (10, 1), (11, 1), (12, 1), (13, 1), (14, 1)] [o 29 (.mv (.t 4)), o 30 (.mv (.t 0)), o 31 (.bin .neq (.t 30) (cs [])), o 32 (.mv (.t 31)), ⟨some 33, .mv (.t 0), some (32, true)⟩, ⟨some 34, .len 0 (.t 33), some (32, true)⟩, ⟨some 35, .bin .eql (.t 34) (ci 1), some (32, true)⟩, ⟨some 36, .mv (.t 35), some (32, true)⟩, ⟨some 37, .mv (.t 0), some (36, false)⟩, ⟨some 38, .idxs (.t 37) (ci 0), some (36, false)⟩, ⟨some 39, .bin .neq (.t 38) (.c (.p (.int .u8 48))), some (36, false)⟩, ⟨some 40, .pick (.t 36) (cb true) (.t 39), some (32, true)⟩, o 41 (.pick (.t 32) (.t 40) (cb false)), o 2 (.mv (.t 29)), o 3 (.mv (.t 41))] [2, 3])
 (.ret))))⟩

/-- strings.explode -/
def c180L0 : ACode :=
 .seq (.seq (.ops [o 22 (.mv (.t 7)), o 23 (.mv (.t 1)), o 24 (.bin .sub (.t 23) (ci 1)), o 25 (.bin .lss (.t 22) (.t 24))] [0, 1, 6, 7, 25])
 (.cond (.t 25)
 (.skip)
 (.exit 0)))
 (.seq (.block 1 (.seq (.ops [o 29 (.mv (.t 0)), o 30 (.call true true 0 (.fn 189) [.t 29]), o 28 (.mv (.t 30)), o 31 (.ext (.t 28) 0), o 32 (.ext (.t 28) 1), o 8 (.mv (.t 31)), o 9 (.mv (.t 32))] [0, 1, 6, 7, 9])
 (.seq (.ops [o 33 (.mv (.t 6)), o 34 (.mv (.t 7)), o 35 (.mv (.t 0)), o 36 (.mv (.t 9)), o 37 (.slcs (.t 35) none (some (.t 36))), o 38 (.iadr 1 (.t 33) (.t 34)), u (.st 1 (.t 38) (.t 37))] [0, 1, 6, 7, 9])
 (.ops [o 39 (.mv (.t 0)), o 40 (.mv (.t 9)), o 41 (.slcs (.t 39) (some (.t 40)) none), o 0 (.mv (.t 41))] [0, 1, 6, 7]))))
 (.ops [o 26 (.mv (.t 7)), o 27 (.bin .add (.t 26) (ci 1)), o 7 (.mv (.t 27))] [0, 1, 6, 7]))
def c180 : AFunc := ⟨50, [.tmp 4],
 .seq (.ops [o 4 (.mv (cn))] [0, 1])
 (.seq (.ops [o 10 (.mv (.t 0)), o 11 (.call true true 0 (.fn 188) [.t 10]), o 5 (.mv (.t 11))] [0, 1, 5])
 (.seq (.seq (.ops [o 12 (.mv (.t 1)), o 13 (.bin .lss (.t 12) (ci 0)), o 14 (.mv (.t 13)), ⟨some 15, .mv (.t 1), some (14, false)⟩, ⟨some 16, .mv (.t 5), some (14, false)⟩, ⟨some 17, .bin .gtr (.t 15) (.t 16), some (14, false)⟩, o 18 (.pick (.t 14) (cb true) (.t 17))] [0, 1, 5, 18])
 (.cond (.t 18)
 (.ops [o 19 (.mv (.t 5)), o 1 (.mv (.t 19))] [0, 1])
 (.skip)))
 (.seq (.ops [o 20 (.mv (.t 1)), o 21 (.mkslice 1 [.p (.str [])] (.t 20) (.t 20)), o 6 (.mv (.t 21))] [0, 1, 6])
 (.seq (.seq (.ops [o 7 (.mv (ci 0))] [0, 1, 6, 7])
 (.block 0 (.loop false [0, 1, 6, 7] c180L0)))
 (.seq (.seq (.ops [o 42 (.mv (.t 1)), o 43 (.bin .gtr (.t 42) (ci 0))] [0, 1, 6, 43])
 (.cond (.t 43)
 (.ops [o 44 (.mv (.t 6)), o 45 (.mv (.t 1)), o 46 (.bin .sub (.t 45) (ci 1)), o 47 (.mv (.t 0)), o 48 (.iadr 1 (.t 44) (.t 46)), u (.st 1 (.t 48) (.t 47))] [6])
 (.skip)))
 (.seq (.ops [o 49 (.mv (.t 6)), o 4 (.mv (.t 49))] [4])
 (.ret)))))))⟩

/-- strings.Count -/
def c181L0 : ACode :=
 .block 1 (.seq (.ops [o 20 (.mv (.t 0)), o 21 (.mv (.t 1)), o 22 (.call true true 0 (.fn 182) [.t 20, .t 21]), o 6 (.mv (.t 22))] [0, 1, 5, 6])
 (.seq (.seq (.ops [o 23 (.mv (.t 6)), o 24 (.bin .eql (.t 23) (ci (-1)))] [0, 1, 5, 6, 24])
 (.cond (.t 24)
 (.seq (.ops [o 25 (.mv (.t 5)), o 4 (.mv (.t 25))] [4])
 (.ret))
 (.skip)))
 (.seq (.ops [o 26 (.mv (.t 5)), o 27 (.bin .add (.t 26) (ci 1)), o 5 (.mv (.t 27))] [0, 1, 5, 6])
 (.ops [o 28 (.mv (.t 0)), o 29 (.mv (.t 6)), o 30 (.mv (.t 1)), o 31 (.len 0 (.t 30)), o 32 (.bin .add (.t 29) (.t 31)), o 33 (.slcs (.t 28) (some (.t 32)) none), o 0 (.mv (.t 33))] [0, 1, 5]))))
def c181 : AFunc := ⟨34, [.tmp 4],
 .seq (.ops [o 4 (.mv (ci 0))] [0, 1])
 (.seq (.seq (.ops [o 7 (.mv (.t 1)), o 8 (.len 0 (.t 7)), o 9 (.bin .eql (.t 8) (ci 0))] [0, 1, 9])
 (.cond (.t 9)
 (.seq (.ops [o 10 (.mv (.t 0)), o 11 (.call true true 0 (.fn 188) [.t 10]), o 12 (.bin .add (.t 11) (ci 1)), o 4 (.mv (.t 12))] [4])
 (.ret))
 (.skip)))
 (.seq (.seq (.ops [o 13 (.mv (.t 1)), o 14 (.len 0 (.t 13)), o 15 (.bin .eql (.t 14) (ci 1))] [0, 1, 15])
 (.cond (.t 15)
 (.seq (.ops [o 16 (.mv (.t 0)), o 17 (.mv (.t 1)), o 18 (.idxs (.t 17) (ci 0)), o 19 (.call true true 0 (.fn 190) [.t 16, .t 18]), o 4 (.mv (.t 19))] [4])
 (.ret))
 (.skip)))
 (.seq (.ops [o 5 (.mv (ci 0))] [0, 1, 5])
 (.block 0 (.loop false [0, 1, 5] c181L0)))))⟩

/-- strings.Index -/
def c182 : AFunc := ⟨8, [.tmp 4],
 .seq (.ops [o 4 (.mv (ci 0))] [0, 1])
 (.seq (.ops [o 5 (.mv (.t 0)), o 6 (.mv (.t 1)), o 7 (.call true true 0 (.fn 191) [.t 5, .t 6]), o 4 (.mv (.t 7))] [4])
 (.ret))⟩

/-- unicode/utf8.RuneCountInString -/
def c188L0 : ACode :=
 .seq (.ops [o 5 (.nxt (.t 4) true), o 6 (.ext (.t 5) 0)] [2, 4, 6])
 (.seq (.cond (.t 6)
 (.skip)
 (.exit 0))
 (.block 1 (.ops [o 7 (.mv (.t 2)), o 8 (.bin .add (.t 7) (ci 1)), o 2 (.mv (.t 8))] [2, 4])))
def c188 : AFunc := ⟨10, [.tmp 2],
 .seq (.ops [o 2 (.mv (ci 0))] [0, 2])
 (.seq (.seq (.ops [o 3 (.mv (.t 0)), o 4 (.rngs (.t 3))] [2, 4])
 (.block 0 (.loop false [2, 4] c188L0)))
 (.seq (.ops [o 9 (.mv (.t 2)), o 2 (.mv (.t 9))] [2])
 (.ret)))⟩

/-- unicode/utf8.DecodeRuneInString -/
def c189 : AFunc := ⟨19, [.tmp 2, .tmp 3],
 .seq (.ops [o 2 (.mv (.c (.p (.int .i32 0)))), o 3 (.mv (ci 0))] [0])
 (.seq (.seq (.ops [o 4 (.mv (.t 0)), o 5 (.bin .neq (.t 4) (cs [])), o 6 (.mv (.t 5)), ⟨some 7, .mv (.t 0), some (6, true)⟩, ⟨some 8, .idxs (.t 7) (ci 0), some (6, true)⟩, ⟨some 9, .bin .lss (.t 8) (.c (.p (.int .u8 128))), some (6, true)⟩, o 10 (.pick (.t 6) (.t 9) (cb false))] [0, 10])
 (.cond (.t 10)
 (.seq (.ops [o 11 (.mv (.t 0)), o 12 (.idxs (.t 11) (ci 0)), o 13 (.conv (.int .i32) (.t 12)), o 2 (.mv (.t 13)), o 3 (.mv (ci 1))] [2, 3])
 (.ret))
 (.ops [o 15 (.mv (.t 0)), o 16 (.call true true 0 (.fn 194) [.t 15]), o 14 (.mv (.t 16)), o 17 (.ext (.t 14) 0), o 18 (.ext (.t 14) 1), o 2 (.mv (.t 17)), o 3 (.mv (.t 18))] [2, 3])))
 (.ret))⟩

/-- internal/stringslite.Index -/
def c191L0 : ACode :=
 .seq (.seq (.ops [o 57 (.mv (.t 8)), o 58 (.mv (.t 9)), o 59 (.bin .lss (.t 57) (.t 58))] [0, 1, 5, 6, 7, 8, 9, 10, 59])
 (.cond (.t 59)
 (.skip)
 (.exit 1)))
 (.block 2 (.seq (.seq (.ops [o 60 (.mv (.t 0)), o 61 (.mv (.t 8)), o 62 (.idxs (.t 60) (.t 61)), o 63 (.mv (.t 6)), o 64 (.bin .neq (.t 62) (.t 63))] [0, 1, 5, 6, 7, 8, 9, 10, 64])
 (.cond (.t 64)
 (.seq (.ops [o 65 (.mv (.t 0)), o 66 (.mv (.t 8)), o 67 (.bin .add (.t 66) (ci 1)), o 68 (.mv (.t 9)), o 69 (.slcs (.t 65) (some (.t 67)) (some (.t 68))), o 70 (.mv (.t 6)), o 71 (.call true true 0 (.fn 169) [.t 69, .t 70]), o 11 (.mv (.t 71))] [0, 1, 5, 6, 7, 8, 9, 10, 11])
 (.seq (.seq (.ops [o 72 (.mv (.t 11)), o 73 (.bin .lss (.t 72) (ci 0))] [0, 1, 5, 6, 7, 8, 9, 10, 11, 73])
 (.cond (.t 73)
 (.seq (.ops [o 4 (.mv (ci (-1)))] [4])
 (.ret))
 (.skip)))
 (.ops [o 74 (.mv (.t 8)), o 75 (.mv (.t 11)), o 76 (.bin .add (.t 75) (ci 1)), o 77 (.bin .add (.t 74) (.t 76)), o 8 (.mv (.t 77))] [0, 1, 5, 6, 7, 8, 9, 10])))
 (.skip)))
 (.seq (.seq (.ops [o 78 (.mv (.t 0)), o 79 (.mv (.t 8)), o 80 (.bin .add (.t 79) (ci 1)), o 81 (.idxs (.t 78) (.t 80)), o 82 (.mv (.t 7)), o 83 (.bin .eql (.t 81) (.t 82)), o 84 (.mv (.t 83)), ⟨some 85, .mv (.t 0), some (84, true)⟩, ⟨some 86, .mv (.t 8), some (84, true)⟩, ⟨some 87, .mv (.t 8), some (84, true)⟩, ⟨some 88, .mv (.t 5), some (84, true)⟩, ⟨some 89, .bin .add (.t 87) (.t 88), some (84, true)⟩, ⟨some 90, .slcs (.t 85) (some (.t 86)) (some (.t 89)), some (84, true)⟩, ⟨some 91, .mv (.t 1), some (84, true)⟩, ⟨some 92, .bin .eql (.t 90) (.t 91), some (84, true)⟩, o 93 (.pick (.t 84) (.t 92) (cb false))] [0, 1, 5, 6, 7, 8, 9, 10, 93])
 (.cond (.t 93)
 (.seq (.ops [o 94 (.mv (.t 8)), o 4 (.mv (.t 94))] [4])
 (.ret))
 (.skip)))
 (.seq (.ops [o 95 (.mv (.t 8)), o 96 (.bin .add (.t 95) (ci 1)), o 8 (.mv (.t 96))] [0, 1, 5, 6, 7, 8, 9, 10])
 (.seq (.ops [o 97 (.mv (.t 10)), o 98 (.bin .add (.t 97) (ci 1)), o 10 (.mv (.t 98))] [0, 1, 5, 6, 7, 8, 9, 10])
 (.seq (.ops [o 99 (.mv (.t 5)), o 100 (.ld false 1 (.g 2)), o 101 (.bin .leq (.t 99) (.t 100)), o 102 (.mv (.t 101)), ⟨some 103, .mv (.t 10), some (102, true)⟩, ⟨some 104, .mv (.t 8), some (102, true)⟩, ⟨some 105, .call true true 0 (.fn 196) [.t 104], some (102, true)⟩, ⟨some 106, .bin .gtr (.t 103) (.t 105), some (102, true)⟩, o 107 (.pick (.t 102) (.t 106) (cb false))] [0, 1, 5, 6, 7, 8, 9, 10, 107])
 (.cond (.t 107)
 (.seq (.ops [o 108 (.mv (.t 0)), o 109 (.mv (.t 8)), o 110 (.slcs (.t 108) (some (.t 109)) none), o 111 (.mv (.t 1)), o 112 (.call true true 0 (.fn 195) [.t 110, .t 111]), o 12 (.mv (.t 112))] [8, 12])
 (.seq (.seq (.ops [o 113 (.mv (.t 12)), o 114 (.bin .geq (.t 113) (ci 0))] [8, 12, 114])
 (.cond (.t 114)
 (.seq (.ops [o 115 (.mv (.t 12)), o 116 (.mv (.t 8)), o 117 (.bin .add (.t 115) (.t 116)), o 4 (.mv (.t 117))] [4])
 (.ret))
 (.skip)))
 (.seq (.ops [o 4 (.mv (ci (-1)))] [4])
 (.ret))))
 (.seq (.ops [o 118 (.mv (.t 5)), o 119 (.ld false 1 (.g 2)), o 120 (.bin .gtr (.t 118) (.t 119)), o 121 (.mv (.t 120)), ⟨some 122, .mv (.t 10), some (121, true)⟩, ⟨some 123, .mv (.t 8), some (121, true)⟩, ⟨some 124, .shift false (.t 123) (.c (.p (.int .u64 4))), some (121, true)⟩, ⟨some 125, .bin .add (ci 4) (.t 124), some (121, true)⟩, ⟨some 126, .bin .geq (.t 122) (.t 125), some (121, true)⟩, o 127 (.pick (.t 121) (.t 126) (cb false)), o 128 (.mv (.t 127)), ⟨some 129, .mv (.t 8), some (128, true)⟩, ⟨some 130, .mv (.t 9), some (128, true)⟩, ⟨some 131, .bin .lss (.t 129) (.t 130), some (128, true)⟩, o 132 (.pick (.t 128) (.t 131) (cb false))] [0, 1, 5, 6, 7, 8, 9, 10, 132])
 (.cond (.t 132)
 (.seq (.ops [o 133 (.mv (.t 0)), o 134 (.mv (.t 8)), o 135 (.slcs (.t 133) (some (.t 134)) none), o 136 (.mv (.t 1)), o 137 (.call true true 0 (.fn 197) [.t 135, .t 136]), o 13 (.mv (.t 137))] [8, 13])
 (.seq (.seq (.ops [o 138 (.mv (.t 13)), o 139 (.bin .lss (.t 138) (ci 0))] [8, 13, 139])
 (.cond (.t 139)
 (.seq (.ops [o 4 (.mv (ci (-1)))] [4])
 (.ret))
 (.skip)))
 (.seq (.ops [o 140 (.mv (.t 8)), o 141 (.mv (.t 13)), o 142 (.bin .add (.t 140) (.t 141)), o 4 (.mv (.t 142))] [4])
 (.ret))))
 (.skip))))))))))
def c191 : AFunc := ⟨143, [.tmp 4],
 .seq (.ops [o 4 (.mv (ci 0))] [0, 1])
 (.seq (.ops [o 14 (.mv (.t 1)), o 15 (.len 0 (.t 14)), o 5 (.mv (.t 15))] [0, 1, 5])
 (.seq (.block 0 (.seq (.ops [o 17 (.mv (.t 5)), o 18 (.bin .eql (.t 17) (ci 0)), o 19 (.mv (.t 18)), ⟨some 20, .mv (.t 1), some (19, false)⟩, ⟨some 21, .mv (.t 0), some (19, false)⟩, ⟨some 22, .bin .eql (.t 20) (.t 21), some (19, false)⟩, o 23 (.pick (.t 19) (cb true) (.t 22)), o 16 (.mv (.t 23))] [0, 1, 5, 16])
 (.cond (.t 16)
 (.seq (.ops [o 4 (.mv (ci 0))] [4])
 (.ret))
 (.seq (.ops [o 25 (.mv (.t 5)), o 26 (.bin .eql (.t 25) (ci 1)), o 24 (.mv (.t 26))] [0, 1, 5, 24])
 (.cond (.t 24)
 (.seq (.ops [o 27 (.mv (.t 0)), o 28 (.mv (.t 1)), o 29 (.idxs (.t 28) (ci 0)), o 30 (.call true true 0 (.fn 169) [.t 27, .t 29]), o 4 (.mv (.t 30))] [4])
 (.ret))
 (.seq (.ops [o 32 (.mv (.t 5)), o 33 (.mv (.t 0)), o 34 (.len 0 (.t 33)), o 35 (.bin .geq (.t 32) (.t 34)), o 31 (.mv (.t 35))] [0, 1, 5, 31])
 (.cond (.t 31)
 (.seq (.ops [o 4 (.mv (ci (-1)))] [4])
 (.ret))
 (.seq (.ops [o 37 (.mv (.t 5)), o 38 (.ld false 1 (.g 2)), o 39 (.bin .leq (.t 37) (.t 38)), o 40 (.mv (.t 39)), ⟨some 41, .mv (.t 0), some (40, true)⟩, ⟨some 42, .len 0 (.t 41), some (40, true)⟩, ⟨some 43, .bin .leq (.t 42) (ci 64), some (40, true)⟩, o 44 (.pick (.t 40) (.t 43) (cb false)), o 36 (.mv (.t 44))] [0, 1, 5, 36])
 (.cond (.t 36)
 (.seq (.ops [o 45 (.mv (.t 0)), o 46 (.mv (.t 1)), o 47 (.call true true 0 (.fn 195) [.t 45, .t 46]), o 4 (.mv (.t 47))] [4])
 (.ret))
 (.skip))))))))))
 (.seq (.ops [o 48 (.mv (.t 1)), o 49 (.idxs (.t 48) (ci 0)), o 6 (.mv (.t 49))] [0, 1, 5, 6])
 (.seq (.ops [o 50 (.mv (.t 1)), o 51 (.idxs (.t 50) (ci 1)), o 7 (.mv (.t 51))] [0, 1, 5, 6, 7])
 (.seq (.ops [o 8 (.mv (ci 0))] [0, 1, 5, 6, 7, 8])
 (.seq (.ops [o 52 (.mv (.t 0)), o 53 (.len 0 (.t 52)), o 54 (.mv (.t 5)), o 55 (.bin .sub (.t 53) (.t 54)), o 56 (.bin .add (.t 55) (ci 1)), o 9 (.mv (.t 56))] [0, 1, 5, 6, 7, 8, 9])
 (.seq (.ops [o 10 (.mv (ci 0))] [0, 1, 5, 6, 7, 8, 9, 10])
 (.seq (.block 1 (.loop false [0, 1, 5, 6, 7, 8, 9, 10] c191L0))
 (.seq (.ops [o 4 (.mv (ci (-1)))] [4])
 (.ret))))))))))⟩

/-- unicode/utf8.decodeRuneInStringSlow -/
def c194 : AFunc := ⟨117, [.tmp 2, .tmp 3],
 .seq (.ops [o 2 (.mv (.c (.p (.int .i32 0)))), o 3 (.mv (ci 0))] [0])
 (.seq (.ops [o 13 (.mv (.t 0)), o 14 (.len 0 (.t 13)), o 4 (.mv (.t 14))] [0, 4])
 (.seq (.seq (.ops [o 15 (.mv (.t 4)), o 16 (.bin .lss (.t 15) (ci 1))] [0, 4, 16])
 (.cond (.t 16)
 (.seq (.ops [o 2 (.mv (.c (.p (.int .i32 65533)))), o 3 (.mv (ci 0))] [2, 3])
 (.ret))
 (.skip)))
 (.seq (.ops [o 17 (.mv (.t 0)), o 18 (.idxs (.t 17) (ci 0)), o 5 (.mv (.t 18))] [0, 4, 5])
 (.seq (.ops [o 19 (.mv (.t 5)), o 20 (.iadra 1 256 (.g 6) (.t 19)), o 21 (.ld false 1 (.t 20)), o 6 (.mv (.t 21))] [0, 4, 5, 6])
 (.seq (.seq (.ops [o 22 (.mv (.t 6)), o 23 (.bin .geq (.t 22) (.c (.p (.int .u8 240))))] [0, 4, 5, 6, 23])
 (.cond (.t 23)
 (.seq (.ops [o 24 (.mv (.t 6)), o 25 (.conv (.int .i32) (.t 24)), o 26 (.shift true (.t 25) (.c (.p (.int .u64 31)))), o 27 (.shift false (.t 26) (.c (.p (.int .u64 31)))), o 7 (.mv (.t 27))] [0, 7])
 (.seq (.ops [o 28 (.mv (.t 0)), o 29 (.idxs (.t 28) (ci 0)), o 30 (.conv (.int .i32) (.t 29)), o 31 (.mv (.t 7)), o 32 (.bin .andNot (.t 30) (.t 31)), o 33 (.mv (.t 7)), o 34 (.bin .and (.c (.p (.int .i32 65533))) (.t 33)), o 35 (.bin .or (.t 32) (.t 34)), o 2 (.mv (.t 35)), o 3 (.mv (ci 1))] [2, 3])
 (.ret)))
 (.skip)))
 (.seq (.ops [o 36 (.mv (.t 6)), o 37 (.bin .and (.t 36) (.c (.p (.int .u8 7)))), o 38 (.conv (.int .i64) (.t 37)), o 8 (.mv (.t 38))] [0, 4, 5, 6, 8])
 (.seq (.ops [o 39 (.mv (.t 6)), o 40 (.shift false (.t 39) (.c (.p (.int .u64 4)))), o 41 (.iadra 2 16 (.g 7) (.t 40)), o 42 (.ld true 2 (.t 41)), o 9 (.alloc true 1 [.p (.int .u8 0), .p (.int .u8 0)]), u (.st 2 (.t 9) (.t 42))] [0, 4, 5, 8, 9])
 (.seq (.seq (.ops [o 43 (.mv (.t 4)), o 44 (.mv (.t 8)), o 45 (.bin .lss (.t 43) (.t 44))] [0, 5, 8, 9, 45])
 (.cond (.t 45)
 (.seq (.ops [o 2 (.mv (.c (.p (.int .i32 65533)))), o 3 (.mv (ci 1))] [2, 3])
 (.ret))
 (.skip)))
 (.seq (.ops [o 46 (.mv (.t 0)), o 47 (.idxs (.t 46) (ci 1)), o 10 (.mv (.t 47))] [0, 5, 8, 9, 10])
 (.seq (.seq (.ops [o 48 (.mv (.t 10)), o 49 (.fadr 0 (.t 9)), o 50 (.ld false 1 (.t 49)), o 51 (.bin .lss (.t 48) (.t 50)), o 52 (.mv (.t 51)), ⟨some 53, .fadr 1 (.t 9), some (52, false)⟩, ⟨some 54, .ld false 1 (.t 53), some (52, false)⟩, ⟨some 55, .mv (.t 10), some (52, false)⟩, ⟨some 56, .bin .lss (.t 54) (.t 55), some (52, false)⟩, o 57 (.pick (.t 52) (cb true) (.t 56))] [0, 5, 8, 10, 57])
 (.cond (.t 57)
 (.seq (.ops [o 2 (.mv (.c (.p (.int .i32 65533)))), o 3 (.mv (ci 1))] [2, 3])
 (.ret))
 (.skip)))
 (.seq (.seq (.ops [o 58 (.mv (.t 8)), o 59 (.bin .leq (.t 58) (ci 2))] [0, 5, 8, 10, 59])
 (.cond (.t 59)
 (.seq (.ops [o 60 (.mv (.t 5)), o 61 (.bin .and (.t 60) (.c (.p (.int .u8 31)))), o 62 (.conv (.int .i32) (.t 61)), o 63 (.shift true (.t 62) (.c (.p (.int .u64 6)))), o 64 (.mv (.t 10)), o 65 (.bin .and (.t 64) (.c (.p (.int .u8 63)))), o 66 (.conv (.int .i32) (.t 65)), o 67 (.bin .or (.t 63) (.t 66)), o 2 (.mv (.t 67)), o 3 (.mv (ci 2))] [2, 3])
 (.ret))
 (.skip)))
 (.seq (.ops [o 68 (.mv (.t 0)), o 69 (.idxs (.t 68) (ci 2)), o 11 (.mv (.t 69))] [0, 5, 8, 10, 11])
 (.seq (.seq (.ops [o 70 (.mv (.t 11)), o 71 (.bin .lss (.t 70) (.c (.p (.int .u8 128)))), o 72 (.mv (.t 71)), ⟨some 73, .mv (.t 11), some (72, false)⟩, ⟨some 74, .bin .lss (.c (.p (.int .u8 191))) (.t 73), some (72, false)⟩, o 75 (.pick (.t 72) (cb true) (.t 74))] [0, 5, 8, 10, 11, 75])
 (.cond (.t 75)
 (.seq (.ops [o 2 (.mv (.c (.p (.int .i32 65533)))), o 3 (.mv (ci 1))] [2, 3])
 (.ret))
 (.skip)))
 (.seq (.seq (.ops [o 76 (.mv (.t 8)), o 77 (.bin .leq (.t 76) (ci 3))] [0, 5, 10, 11, 77])
 (.cond (.t 77)
 (.seq (.ops [o 78 (.mv (.t 5)), o 79 (.bin .and (.t 78) (.c (.p (.int .u8 15)))), o 80 (.conv (.int .i32) (.t 79)), o 81 (.shift true (.t 80) (.c (.p (.int .u64 12)))), o 82 (.mv (.t 10)), o 83 (.bin .and (.t 82) (.c (.p (.int .u8 63)))), o 84 (.conv (.int .i32) (.t 83)), o 85 (.shift true (.t 84) (.c (.p (.int .u64 6)))), o 86 (.bin .or (.t 81) (.t 85)), o 87 (.mv (.t 11)), o 88 (.bin .and (.t 87) (.c (.p (.int .u8 63)))), o 89 (.conv (.int .i32) (.t 88)), o 90 (.bin .or (.t 86) (.t 89)), o 2 (.mv (.t 90)), o 3 (.mv (ci 3))] [2, 3])
 (.ret))
 (.skip)))
 (.seq (.ops [o 91 (.mv (.t 0)), o 92 (.idxs (.t 91) (ci 3)), o 12 (.mv (.t 92))] [5, 10, 11, 12])
 (.seq (.seq (.ops [o 93 (.mv (.t 12)), o 94 (.bin .lss (.t 93) (.c (.p (.int .u8 128)))), o 95 (.mv (.t 94)), ⟨some 96, .mv (.t 12), some (95, false)⟩, ⟨some 97, .bin .lss (.c (.p (.int .u8 191))) (.t 96), some (95, false)⟩, o 98 (.pick (.t 95) (cb true) (.t 97))] [5, 10, 11, 12, 98])
 (.cond (.t 98)
 (.seq (.ops [o 2 (.mv (.c (.p (.int .i32 65533)))), o 3 (.mv (ci 1))] [2, 3])
 (.ret))
 (.skip)))
 (.seq (.ops [o 99 (.mv (.t 5)), o 100 (.bin .and (.t 99) (.c (.p (.int .u8 7)))), o 101 (.conv (.int .i32) (.t 100)), o 102 (.shift true (.t 101) (.c (.p (.int .u64 18)))), o 103 (.mv (.t 10)), o 104 (.bin .and (.t 103) (.c (.p (.int .u8 63)))), o 105 (.conv (.int .i32) (.t 104)), o 106 (.shift true (.t 105) (.c (.p (.int .u64 12)))), o 107 (.bin .or (.t 102) (.t 106)), o 108 (.mv (.t 11)), o 109 (.bin .and (.t 108) (.c (.p (.int .u8 63)))), o 110 (.conv (.int .i32) (.t 109)), o 111 (.shift true (.t 110) (.c (.p (.int .u64 6)))), o 112 (.bin .or (.t 107) (.t 111)), o 113 (.mv (.t 12)), o 114 (.bin .and (.t 113) (.c (.p (.int .u8 63)))), o 115 (.conv (.int .i32) (.t 114)), o 116 (.bin .or (.t 112) (.t 115)), o 2 (.mv (.t 116)), o 3 (.mv (ci 4))] [2, 3])
 (.ret))))))))))))))))))⟩

/-- internal/bytealg.Cutover -/
def c196 : AFunc := ⟨6, [.tmp 2],
 .seq (.ops [o 2 (.mv (ci 0))] [0])
 (.seq (.ops [o 3 (.mv (.t 0)), o 4 (.bin .add (.t 3) (ci 16)), o 5 (.bin .quo (.t 4) (ci 8)), o 2 (.mv (.t 5))] [2])
 (.ret))⟩

/-- internal/bytealg.IndexRabinKarp[string] -/
def c197L0 : ACode :=
 .seq (.seq (.ops [o 18 (.mv (.t 9)), o 19 (.mv (.t 7)), o 20 (.bin .lss (.t 18) (.t 19))] [0, 1, 5, 6, 7, 8, 9, 20])
 (.cond (.t 20)
 (.skip)
 (.exit 0)))
 (.seq (.block 1 (.ops [o 23 (.mv (.t 8)), o 24 (.bin .mul (.t 23) (.c (.p (.int .u32 16777619)))), o 25 (.mv (.t 0)), o 26 (.mv (.t 9)), o 27 (.idxs (.t 25) (.t 26)), o 28 (.conv (.int .u32) (.t 27)), o 29 (.bin .add (.t 24) (.t 28)), o 8 (.mv (.t 29))] [0, 1, 5, 6, 7, 8, 9]))
 (.ops [o 21 (.mv (.t 9)), o 22 (.bin .add (.t 21) (ci 1)), o 9 (.mv (.t 22))] [0, 1, 5, 6, 7, 8, 9]))
def c197L1 : ACode :=
 .seq (.seq (.ops [o 41 (.mv (.t 10)), o 42 (.mv (.t 0)), o 43 (.len 0 (.t 42)), o 44 (.bin .lss (.t 41) (.t 43))] [0, 1, 5, 6, 7, 8, 10, 44])
 (.cond (.t 44)
 (.skip)
 (.exit 2)))
 (.block 3 (.seq (.ops [o 45 (.mv (.t 8)), o 46 (.bin .mul (.t 45) (.c (.p (.int .u32 16777619)))), o 8 (.mv (.t 46))] [0, 1, 5, 6, 7, 8, 10])
 (.seq (.ops [o 47 (.mv (.t 8)), o 48 (.mv (.t 0)), o 49 (.mv (.t 10)), o 50 (.idxs (.t 48) (.t 49)), o 51 (.conv (.int .u32) (.t 50)), o 52 (.bin .add (.t 47) (.t 51)), o 8 (.mv (.t 52))] [0, 1, 5, 6, 7, 8, 10])
 (.seq (.ops [o 53 (.mv (.t 8)), o 54 (.mv (.t 6)), o 55 (.mv (.t 0)), o 56 (.mv (.t 10)), o 57 (.mv (.t 7)), o 58 (.bin .sub (.t 56) (.t 57)), o 59 (.idxs (.t 55) (.t 58)), o 60 (.conv (.int .u32) (.t 59)), o 61 (.bin .mul (.t 54) (.t 60)), o 62 (.bin .sub (.t 53) (.t 61)), o 8 (.mv (.t 62))] [0, 1, 5, 6, 7, 8, 10])
 (.seq (.ops [o 63 (.mv (.t 10)), o 64 (.bin .add (.t 63) (ci 1)), o 10 (.mv (.t 64))] [0, 1, 5, 6, 7, 8, 10])
 (.seq (.ops [o 65 (.mv (.t 8)), o 66 (.mv (.t 5)), o 67 (.bin .eql (.t 65) (.t 66)), o 68 (.mv (.t 67)), ⟨some 69, .mv (.t 0), some (68, true)⟩, ⟨some 70, .mv (.t 10), some (68, true)⟩, ⟨some 71, .mv (.t 7), some (68, true)⟩, ⟨some 72, .bin .sub (.t 70) (.t 71), some (68, true)⟩, ⟨some 73, .mv (.t 10), some (68, true)⟩, ⟨some 74, .slcs (.t 69) (some (.t 72)) (some (.t 73)), some (68, true)⟩, ⟨some 75, .mv (.t 1), some (68, true)⟩, ⟨some 76, .bin .eql (.t 74) (.t 75), some (68, true)⟩, o 77 (.pick (.t 68) (.t 76) (cb false))] [0, 1, 5, 6, 7, 8, 10, 77])
 (.cond (.t 77)
 (.seq (.ops [o 78 (.mv (.t 10)), o 79 (.mv (.t 7)), o 80 (.bin .sub (.t 78) (.t 79)), o 4 (.mv (.t 80))] [4])
 (.ret))
 (.skip))))))))
def c197 : AFunc := ⟨81, [.tmp 4],
 .seq (.ops [o 4 (.mv (ci 0))] [0, 1])
 (.seq (.ops [o 12 (.mv (.t 1)), o 13 (.call true true 0 (.fn 198) [.t 12]), o 11 (.mv (.t 13)), o 14 (.ext (.t 11) 0), o 15 (.ext (.t 11) 1), o 5 (.mv (.t 14)), o 6 (.mv (.t 15))] [0, 1, 5, 6])
 (.seq (.ops [o 16 (.mv (.t 1)), o 17 (.len 0 (.t 16)), o 7 (.mv (.t 17))] [0, 1, 5, 6, 7])
 (.seq (.ops [o 8 (.mv (.c (.p (.int .u32 0))))] [0, 1, 5, 6, 7, 8])
 (.seq (.seq (.ops [o 9 (.mv (ci 0))] [0, 1, 5, 6, 7, 8, 9])
 (.block 0 (.loop false [0, 1, 5, 6, 7, 8, 9] c197L0)))
 (.seq (.seq (.ops [o 30 (.mv (.t 8)), o 31 (.mv (.t 5)), o 32 (.bin .eql (.t 30) (.t 31)), o 33 (.mv (.t 32)), ⟨some 34, .mv (.t 0), some (33, true)⟩, ⟨some 35, .mv (.t 7), some (33, true)⟩, ⟨some 36, .slcs (.t 34) none (some (.t 35)), some (33, true)⟩, ⟨some 37, .mv (.t 1), some (33, true)⟩, ⟨some 38, .bin .eql (.t 36) (.t 37), some (33, true)⟩, o 39 (.pick (.t 33) (.t 38) (cb false))] [0, 1, 5, 6, 7, 8, 39])
 (.cond (.t 39)
 (.seq (.ops [o 4 (.mv (ci 0))] [4])
 (.ret))
 (.skip)))
 (.seq (.seq (.ops [o 40 (.mv (.t 7)), o 10 (.mv (.t 40))] [0, 1, 5, 6, 7, 8, 10])
 (.block 2 (.loop false [0, 1, 5, 6, 7, 8, 10] c197L1)))
 (.seq (.ops [o 4 (.mv (ci (-1)))] [4])
 (.ret))))))))⟩

/-- internal/bytealg.hashStr[string] -/
def c198L0 : ACode :=
 .seq (.seq (.ops [o 9 (.mv (.t 5)), o 10 (.mv (.t 0)), o 11 (.len 0 (.t 10)), o 12 (.bin .lss (.t 9) (.t 11))] [0, 4, 5, 12])
 (.cond (.t 12)
 (.skip)
 (.exit 0)))
 (.seq (.block 1 (.ops [o 15 (.mv (.t 4)), o 16 (.bin .mul (.t 15) (.c (.p (.int .u32 16777619)))), o 17 (.mv (.t 0)), o 18 (.mv (.t 5)), o 19 (.idxs (.t 17) (.t 18)), o 20 (.conv (.int .u32) (.t 19)), o 21 (.bin .add (.t 16) (.t 20)), o 4 (.mv (.t 21))] [0, 4, 5]))
 (.ops [o 13 (.mv (.t 5)), o 14 (.bin .add (.t 13) (ci 1)), o 5 (.mv (.t 14))] [0, 4, 5]))
def c198L1 : ACode :=
 .seq (.seq (.ops [o 24 (.mv (.t 8)), o 25 (.bin .gtr (.t 24) (ci 0))] [4, 6, 7, 8, 25])
 (.cond (.t 25)
 (.skip)
 (.exit 2)))
 (.seq (.block 3 (.seq (.seq (.ops [o 28 (.mv (.t 8)), o 29 (.bin .and (.t 28) (ci 1)), o 30 (.bin .neq (.t 29) (ci 0))] [4, 6, 7, 8, 30])
 (.cond (.t 30)
 (.ops [o 31 (.mv (.t 6)), o 32 (.mv (.t 7)), o 33 (.bin .mul (.t 31) (.t 32)), o 6 (.mv (.t 33))] [4, 6, 7, 8])
 (.skip)))
 (.ops [o 34 (.mv (.t 7)), o 35 (.mv (.t 7)), o 36 (.bin .mul (.t 34) (.t 35)), o 7 (.mv (.t 36))] [4, 6, 7, 8])))
 (.ops [o 26 (.mv (.t 8)), o 27 (.shift false (.t 26) (.c (.p (.int .u64 1)))), o 8 (.mv (.t 27))] [4, 6, 7, 8]))
def c198 : AFunc := ⟨39, [.tmp 2, .tmp 3],
 .seq (.ops [o 2 (.mv (.c (.p (.int .u32 0)))), o 3 (.mv (.c (.p (.int .u32 0))))] [0])
 (.seq (.ops [o 4 (.mv (.c (.p (.int .u32 0))))] [0, 4])
 (.seq (.seq (.ops [o 5 (.mv (ci 0))] [0, 4, 5])
 (.block 0 (.loop false [0, 4, 5] c198L0)))
 (.seq (.ops [o 6 (.mv (.c (.p (.int .u32 1)))), o 7 (.mv (.c (.p (.int .u32 16777619))))] [0, 4, 6, 7])
 (.seq (.seq (.ops [o 22 (.mv (.t 0)), o 23 (.len 0 (.t 22)), o 8 (.mv (.t 23))] [4, 6, 7, 8])
 (.block 2 (.loop false [4, 6, 7, 8] c198L1)))
 (.seq (.ops [o 37 (.mv (.t 4)), o 38 (.mv (.t 6)), o 2 (.mv (.t 37)), o 3 (.mv (.t 38))] [2, 3])
 (.ret))))))⟩

/-- (crumple/garage.State).open -/
def c214 : AFunc := ⟨7, [.tmp 2],
 .seq (.ops [o 1 (.box true (.t 0)), o 2 (.mv (cb false))] [1])
 (.seq (.ops [o 3 (.fadr 1 (.t 1)), o 4 (.ld true 8 (.t 3)), o 5 (.build [.p (.bool false), .p (.bool false), .p (.bool false), .p (.bool false), .p (.bool false), .p (.bool false), .p (.bool false), .p (.bool false)] []), o 6 (.eqagg [2, 2, 2, 2, 2, 2, 2, 2] true (.t 4) (.t 5)), o 2 (.mv (.t 6))] [2])
 (.ret))⟩

/-- crumple/garage.doors -/
def c217 : AFunc := ⟨5, [.tmp 2],
 .seq (.ops [o 1 (.box false (.t 0)), o 2 (.mv (ci 0))] [1])
 (.seq (.ops [o 3 (.fadr 0 (.t 1)), o 4 (.ld false 1 (.t 3)), o 2 (.mv (.t 4))] [2])
 (.ret))⟩

/-- crumple/garage.kinds$1 -/
def c218 : AFunc := ⟨10, [.tmp 4],
 .seq (.ops [o 2 (.box true (.t 0)), o 3 (.box true (.t 1)), o 4 (.mv (cb false))] [2, 3])
 (.seq (.ops [o 5 (.fadr 2 (.t 3)), o 6 (.ld false 1 (.t 5)), o 7 (.fadr 1 (.t 2)), o 8 (.iadra 1 8 (.t 7) (.t 6)), o 9 (.ld false 1 (.t 8)), o 4 (.mv (.t 9))] [4])
 (.ret))⟩

/-- crumple/garage.kinds$2 -/
def c219 : AFunc := ⟨12, [],
 .seq (.ops [o 3 (.box false (.t 0)), o 5 (.box true (.t 2))] [1, 5])
 (.opsd [(0, 1), (1, 1), (2, 1), (3, 1), (4, 1), (5, 1), (6, 0)] [o 6 (.mv (.t 1)), o 7 (.fadr 2 (.t 5)), o 8 (.ld false 1 (.t 7)), o 9 (.nilck (.t 6)), o 10 (.fadr 1 (.t 9)), o 11 (.iadra 1 8 (.t 10) (.t 8)), u (.st 1 (.t 11) (cb true))] [])⟩

/-- crumple/garage.kinds$3 -/
def c220 : AFunc := ⟨11, [.tmp 4],
 .seq (.ops [o 2 (.box true (.t 0)), o 3 (.box true (.t 1)), o 4 (.mv (cb false))] [2, 3])
 (.seq (.ops [o 5 (.fadr 2 (.t 3)), o 6 (.ld false 1 (.t 5)), o 7 (.fadr 1 (.t 2)), o 8 (.iadra 1 8 (.t 7) (.t 6)), o 9 (.ld false 1 (.t 8)), o 10 (.not (.t 9)), o 4 (.mv (.t 10))] [4])
 (.ret))⟩

/-- crumple/garage.kinds$4 -/
def c221 : AFunc := ⟨12, [],
 .seq (.ops [o 3 (.box false (.t 0)), o 5 (.box true (.t 2))] [1, 5])
 (.opsd [(0, 1), (1, 1), (2, 1), (3, 1), (4, 1), (5, 1), (6, 0)] [o 6 (.mv (.t 1)), o 7 (.fadr 2 (.t 5)), o 8 (.ld false 1 (.t 7)), o 9 (.nilck (.t 6)), o 10 (.fadr 1 (.t 9)), o 11 (.iadra 1 8 (.t 10) (.t 8)), u (.st 1 (.t 11) (cb false))] [])⟩

/-- crumple/garage.keys -/
def c222 : AFunc := ⟨3, [.tmp 2],
 .seq (.ops [o 1 (.box false (.t 0)), o 2 (.mv (ci 0))] [])
 (.seq (.ops [o 2 (.mv (ci 2))] [2])
 (.ret))⟩

/-- crumple/garage.kinds$5 -/
def c223 : AFunc := ⟨10, [.tmp 4],
 .seq (.ops [o 2 (.box true (.t 0)), o 3 (.box true (.t 1)), o 4 (.mv (cb false))] [2, 3])
 (.seq (.ops [o 5 (.fadr 2 (.t 3)), o 6 (.ld false 1 (.t 5)), o 7 (.fadr 9 (.t 2)), o 8 (.iadra 1 2 (.t 7) (.t 6)), o 9 (.ld false 1 (.t 8)), o 4 (.mv (.t 9))] [4])
 (.ret))⟩

/-- crumple/garage.kinds$6 -/
def c224 : AFunc := ⟨12, [],
 .seq (.ops [o 3 (.box false (.t 0)), o 5 (.box true (.t 2))] [1, 5])
 (.opsd [(0, 1), (1, 1), (2, 1), (3, 1), (4, 1), (5, 1), (6, 0)] [o 6 (.mv (.t 1)), o 7 (.fadr 2 (.t 5)), o 8 (.ld false 1 (.t 7)), o 9 (.nilck (.t 6)), o 10 (.fadr 9 (.t 9)), o 11 (.iadra 1 2 (.t 10) (.t 8)), u (.st 1 (.t 11) (cb true))] [])⟩

/-- crumple/garage.kinds$7 -/
def c225 : AFunc := ⟨11, [.tmp 4],
 .seq (.ops [o 2 (.box true (.t 0)), o 3 (.box true (.t 1)), o 4 (.mv (cb false))] [2, 3])
 (.seq (.ops [o 5 (.fadr 2 (.t 3)), o 6 (.ld false 1 (.t 5)), o 7 (.fadr 9 (.t 2)), o 8 (.iadra 1 2 (.t 7) (.t 6)), o 9 (.ld false 1 (.t 8)), o 10 (.not (.t 9)), o 4 (.mv (.t 10))] [4])
 (.ret))⟩

/-- crumple/garage.kinds$8 -/
def c226 : AFunc := ⟨12, [],
 .seq (.ops [o 3 (.box false (.t 0)), o 5 (.box true (.t 2))] [1, 5])
 (.opsd [(0, 1), (1, 1), (2, 1), (3, 1), (4, 1), (5, 1), (6, 0)] [o 6 (.mv (.t 1)), o 7 (.fadr 2 (.t 5)), o 8 (.ld false 1 (.t 7)), o 9 (.nilck (.t 6)), o 10 (.fadr 9 (.t 9)), o 11 (.iadra 1 2 (.t 10) (.t 8)), u (.st 1 (.t 11) (cb false))] [])⟩

/-- crumple/garage.kinds$9 -/
def c227 : AFunc := ⟨8, [.tmp 4],
 .seq (.ops [o 2 (.box true (.t 0)), o 3 (.box true (.t 1)), o 4 (.mv (cb false))] [2])
 (.seq (.ops [o 5 (.fadr 11 (.t 2)), o 6 (.ld false 1 (.t 5)), o 7 (.bin .geq (.t 6) (ci 100)), o 4 (.mv (.t 7))] [4])
 (.ret))⟩

/-- crumple/garage.kinds$10 -/
def c228 : AFunc := ⟨13, [],
 .seq (.ops [o 3 (.box false (.t 0)), o 5 (.box true (.t 2))] [1])
 (.ops [o 6 (.mv (.t 1)), o 7 (.nilck (.t 6)), o 8 (.fadr 11 (.t 7)), o 9 (.ld false 1 (.t 8)), o 10 (.bin .add (.t 9) (ci 1)), o 11 (.nilck (.t 6)), o 12 (.fadr 11 (.t 11)), u (.st 1 (.t 12) (.t 10))] [])⟩

/-- crumple/garage.kinds$11 -/
def c229 : AFunc := ⟨8, [.tmp 4],
 .seq (.ops [o 2 (.box true (.t 0)), o 3 (.box true (.t 1)), o 4 (.mv (cb false))] [2])
 (.seq (.ops [o 5 (.fadr 11 (.t 2)), o 6 (.ld false 1 (.t 5)), o 7 (.bin .eql (.t 6) (ci 0)), o 4 (.mv (.t 7))] [4])
 (.ret))⟩

/-- crumple/garage.kinds$12 -/
def c230 : AFunc := ⟨13, [],
 .seq (.ops [o 3 (.box false (.t 0)), o 5 (.box true (.t 2))] [1])
 (.ops [o 6 (.mv (.t 1)), o 7 (.nilck (.t 6)), o 8 (.fadr 11 (.t 7)), o 9 (.ld false 1 (.t 8)), o 10 (.bin .sub (.t 9) (ci 1)), o 11 (.nilck (.t 6)), o 12 (.fadr 11 (.t 11)), u (.st 1 (.t 12) (.t 10))] [])⟩

/-- crumple/garage.nothing -/
def c231 : AFunc := ⟨3, [.tmp 2],
 .seq (.ops [o 1 (.box false (.t 0)), o 2 (.mv (ci 0))] [])
 (.seq (.ops [o 2 (.mv (ci 1))] [2])
 (.ret))⟩

/-- crumple/garage.kinds$13 -/
def c232 : AFunc := ⟨7, [.tmp 4],
 .seq (.ops [o 2 (.box true (.t 0)), o 3 (.box true (.t 1)), o 4 (.mv (cb false))] [2])
 (.seq (.ops [o 5 (.fadr 12 (.t 2)), o 6 (.ld false 1 (.t 5)), o 4 (.mv (.t 6))] [4])
 (.ret))⟩

/-- crumple/garage.kinds$14 -/
def c233 : AFunc := ⟨9, [],
 .seq (.ops [o 3 (.box false (.t 0)), o 5 (.box true (.t 2))] [1])
 (.ops [o 6 (.mv (.t 1)), o 7 (.nilck (.t 6)), o 8 (.fadr 12 (.t 7)), u (.st 1 (.t 8) (cb true))] [])⟩

/-- crumple/garage.kinds$15 -/
def c234 : AFunc := ⟨8, [.tmp 4],
 .seq (.ops [o 2 (.box true (.t 0)), o 3 (.box true (.t 1)), o 4 (.mv (cb false))] [2])
 (.seq (.ops [o 5 (.fadr 12 (.t 2)), o 6 (.ld false 1 (.t 5)), o 7 (.not (.t 6)), o 4 (.mv (.t 7))] [4])
 (.ret))⟩

/-- crumple/garage.kinds$16 -/
def c235 : AFunc := ⟨9, [],
 .seq (.ops [o 3 (.box false (.t 0)), o 5 (.box true (.t 2))] [1])
 (.ops [o 6 (.mv (.t 1)), o 7 (.nilck (.t 6)), o 8 (.fadr 12 (.t 7)), u (.st 1 (.t 8) (cb false))] [])⟩

/-- crumple/garage.kinds$17 -/
def c236 : AFunc := ⟨8, [.tmp 4],
 .seq (.ops [o 2 (.box true (.t 0)), o 3 (.box true (.t 1)), o 4 (.mv (cb false))] [2])
 (.seq (.ops [o 5 (.fadr 12 (.t 2)), o 6 (.ld false 1 (.t 5)), o 7 (.not (.t 6)), o 4 (.mv (.t 7))] [4])
 (.ret))⟩

/-- crumple/garage.kinds$18 -/
def c237 : AFunc := ⟨17, [],
 .seq (.ops [o 3 (.box false (.t 0)), o 5 (.box true (.t 2))] [1, 5])
 (.ops [o 6 (.mv (.t 1)), o 7 (.mv (.t 1)), o 8 (.mv (.t 1)), o 9 (.fadr 0 (.t 5)), o 10 (.ld false 1 (.t 9)), o 11 (.nilck (.t 6)), o 12 (.fadr 13 (.t 11)), u (.st 1 (.t 12) (.t 10)), o 13 (.nilck (.t 7)), o 14 (.fadr 14 (.t 13)), u (.st 1 (.t 14) (ci (-1))), o 15 (.nilck (.t 8)), o 16 (.fadr 12 (.t 15)), u (.st 1 (.t 16) (cb false))] [])⟩

/-- crumple/garage.kinds$19 -/
def c238 : AFunc := ⟨8, [.tmp 4],
 .seq (.ops [o 2 (.box true (.t 0)), o 3 (.box true (.t 1)), o 4 (.mv (cb false))] [2])
 (.seq (.ops [o 5 (.fadr 13 (.t 2)), o 6 (.ld false 1 (.t 5)), o 7 (.bin .eql (.t 6) (ci (-1))), o 4 (.mv (.t 7))] [4])
 (.ret))⟩

/-- crumple/garage.kinds$20 -/
def c239 : AFunc := ⟨24, [],
 .seq (.ops [o 3 (.box false (.t 0)), o 5 (.box true (.t 2))] [1, 3, 5])
 (.opsd [(0, 1), (1, 1), (2, 1), (3, 1), (4, 1), (5, 1), (6, 1), (7, 1), (8, 1), (9, 1), (10, 1), (11, 1), (12, 1), (13, 1), (14, 1), (15, 1), (16, 1), (17, 1), (18, 0)] [o 6 (.mv (.t 1)), o 7 (.mv (.t 1)), o 8 (.nilck (.t 7)), o 9 (.fadr 13 (.t 8)), o 10 (.ld false 1 (.t 9)), o 11 (.fadr 1 (.t 3)), o 12 (.ld false 1 (.t 11)), o 13 (.bin .add (.t 10) (.t 12)), o 14 (.fadr 0 (.t 5)), o 15 (.ld false 1 (.t 14)), o 16 (.ld true 5 (.t 3)), o 17 (.fadr 3 (.t 5)), o 18 (.ld true 3 (.t 17)), o 19 (.call true true 0 (.fn 132) [.t 16, .t 18]), o 20 (.bin .add (.t 15) (.t 19)), o 21 (.max [.t 13, .t 20]), o 22 (.nilck (.t 6)), o 23 (.fadr 14 (.t 22)), u (.st 1 (.t 23) (.t 21))] [])⟩

/-- crumple/garage.all$1 -/
def c240 : AFunc := ⟨10, [.tmp 4],
 .seq (.ops [o 2 (.box true (.t 0)), o 3 (.box true (.t 1)), o 4 (.mv (cb false))] [2, 3])
 (.seq (.ops [o 5 (.fadr 0 (.t 3)), o 6 (.ld false 1 (.t 5)), o 7 (.fadr 0 (.t 2)), o 8 (.ld false 1 (.t 7)), o 9 (.bin .lss (.t 6) (.t 8)), o 4 (.mv (.t 9))] [4])
 (.ret))⟩

/-- crumple/garage.all$2 -/
def c241 : AFunc := ⟨20, [.tmp 4],
 .seq (.ops [o 2 (.box true (.t 0)), o 3 (.box true (.t 1)), o 4 (.mv (cb false))] [2, 3])
 (.seq (.ops [o 6 (.slca 4 10 (.g 0) none none), o 7 (.mkclo 243 [] [.t 3]), o 8 (.call true true 0 (.fn 242) [.t 6, .t 7]), o 5 (.mv (.t 8))] [2, 3, 5])
 (.seq (.opsd [(0, 1), (1, 1), (2, 1), (3, 1), (4, 1), (5, 1), (6, 1), (7, 1), (8, 1), (9, 0), (10, 1), (11, 1)] [o 9 (.mv (.t 5)), o 10 (.bin .geq (.t 9) (ci 0)), o 11 (.mv (.t 10)), ⟨some 12, .mv (.t 5), some (11, true)⟩, ⟨some 13, .iadra 4 10 (.g 0) (.t 12), some (11, true)⟩, ⟨some 14, .fadr 2 (.t 13), some (11, true)⟩, ⟨some 15, .ld false 1 (.t 14), some (11, true)⟩, ⟨some 16, .ld true 15 (.t 2), some (11, true)⟩, ⟨some 17, .ld true 6 (.t 3), some (11, true)⟩, ⟨some 18, .call false true 0 (.val (.t 15)) [.t 16, .t 17], some (11, true)⟩, o 19 (.pick (.t 11) (.t 18) (cb false)), o 4 (.mv (.t 19))] [4])
 (.ret)))⟩

/-- slices.IndexFunc[[]crumple/garage.kind,crumple/garage.kind] -/
def c242L0 : ACode :=
 .seq (.ops [o 9 (.bin .lss (.t 8) (.t 7))] [0, 1, 7, 8, 9])
 (.seq (.cond (.t 9)
 (.skip)
 (.exit 0))
 (.seq (.block 1 (.seq (.ops [o 10 (.mv (.t 8)), o 5 (.mv (.t 10))] [0, 1, 5, 7, 8])
 (.seq (.ops [o 11 (.mv (.t 1)), o 12 (.mv (.t 0)), o 13 (.mv (.t 5)), o 14 (.iadr 4 (.t 12) (.t 13)), o 15 (.ld true 4 (.t 14)), o 16 (.call false true 0 (.val (.t 11)) [.t 15])] [0, 1, 5, 7, 8, 16])
 (.cond (.t 16)
 (.seq (.ops [o 17 (.mv (.t 5)), o 4 (.mv (.t 17))] [4])
 (.ret))
 (.skip)))))
 (.ops [o 18 (.bin .add (.t 8) (ci 1)), o 8 (.mv (.t 18))] [0, 1, 7, 8])))
def c242 : AFunc := ⟨19, [.tmp 4],
 .seq (.ops [o 4 (.mv (ci 0))] [0, 1])
 (.seq (.seq (.ops [o 6 (.mv (.t 0)), o 7 (.len 1 (.t 6)), o 8 (.mv (ci 0))] [0, 1, 7, 8])
 (.block 0 (.loop true [0, 1, 7, 8] c242L0)))
 (.seq (.ops [o 4 (.mv (ci (-1)))] [4])
 (.ret)))⟩

/-- crumple/garage.all$2$1 -/
def c243 : AFunc := ⟨9, [.tmp 3],
 .seq (.ops [o 2 (.box false (.t 0)), o 3 (.mv (cb false))] [1, 2])
 (.seq (.ops [o 4 (.fadr 0 (.t 2)), o 5 (.ld false 1 (.t 4)), o 6 (.fadr 1 (.t 1)), o 7 (.ld false 1 (.t 6)), o 8 (.bin .eql (.t 5) (.t 7)), o 3 (.mv (.t 8))] [3])
 (.ret))⟩

/-- crumple/garage.all$3 -/
def c244 : AFunc := ⟨12, [.tmp 4],
 .seq (.ops [o 2 (.box true (.t 0)), o 3 (.box true (.t 1)), o 4 (.mv (cb false))] [2, 3])
 (.seq (.ops [o 5 (.fadr 12 (.t 2)), o 6 (.ld false 1 (.t 5)), o 7 (.mv (.t 6)), ⟨some 8, .ld true 6 (.t 3), some (7, true)⟩, ⟨some 9, .bslice false 1 [.p (.str [])] 3 [(0, cs [111, 112, 101, 110]), (1, cs [114, 101, 109, 111, 118, 101]), (2, cs [101, 110, 116, 101, 114])], some (7, true)⟩, ⟨some 10, .call true true 0 (.fn 93) [.t 8, .t 9], some (7, true)⟩, o 11 (.pick (.t 7) (.t 10) (cb false)), o 4 (.mv (.t 11))] [4])
 (.ret))⟩

/-- crumple/garage.all$4 -/
def c245 : AFunc := ⟨25, [.tmp 4],
 .seq (.ops [o 2 (.box true (.t 0)), o 3 (.box true (.t 1)), o 4 (.mv (cb false))] [2, 3])
 (.seq (.ops [o 5 (.ld true 6 (.t 3)), o 6 (.bslice false 1 [.p (.str [])] 2 [(0, cs [101, 110, 116, 101, 114]), (1, cs [108, 101, 97, 118, 101])]), o 7 (.call true true 0 (.fn 93) [.t 5, .t 6]), o 8 (.mv (.t 7)), ⟨some 9, .fadr 2 (.t 3), some (8, true)⟩, ⟨some 10, .ld false 1 (.t 9), some (8, true)⟩, ⟨some 11, .fadr 1 (.t 2), some (8, true)⟩, ⟨some 12, .iadra 1 8 (.t 11) (.t 10), some (8, true)⟩, ⟨some 13, .ld false 1 (.t 12), some (8, true)⟩, ⟨some 14, .not (.t 13), some (8, true)⟩, o 15 (.pick (.t 8) (.t 14) (cb false)), o 16 (.mv (.t 15)), ⟨some 17, .ld true 6 (.t 3), some (16, false)⟩, ⟨some 18, .bslice false 1 [.p (.str [])] 1 [(0, cs [97, 114, 109])], some (16, false)⟩, ⟨some 19, .call true true 0 (.fn 93) [.t 17, .t 18], some (16, false)⟩, ⟨some 20, .mv (.t 19), some (16, false)⟩, ⟨some 21, .ld true 15 (.t 2), some (20, true)⟩, ⟨some 22, .call true true 0 (.fn 214) [.t 21], some (20, true)⟩, ⟨some 23, .pick (.t 20) (.t 22) (cb false), some (16, false)⟩, o 24 (.pick (.t 16) (cb true) (.t 23)), o 4 (.mv (.t 24))] [4])
 (.ret))⟩

/-- crumple/garage.all$5 -/
def c246 : AFunc := ⟨13, [.tmp 4],
 .seq (.ops [o 2 (.box true (.t 0)), o 3 (.box true (.t 1)), o 4 (.mv (cb false))] [2, 3])
 (.seq (.ops [o 5 (.ld true 6 (.t 3)), o 6 (.bslice false 1 [.p (.str [])] 1 [(0, cs [97, 114, 109])]), o 7 (.call true true 0 (.fn 93) [.t 5, .t 6]), o 8 (.mv (.t 7)), ⟨some 9, .fadr 11 (.t 2), some (8, true)⟩, ⟨some 10, .ld false 1 (.t 9), some (8, true)⟩, ⟨some 11, .bin .gtr (.t 10) (ci 0), some (8, true)⟩, o 12 (.pick (.t 8) (.t 11) (cb false)), o 4 (.mv (.t 12))] [4])
 (.ret))⟩

/-- crumple/garage.all$6 -/
def c247 : AFunc := ⟨14, [.tmp 4],
 .seq (.ops [o 2 (.box true (.t 0)), o 3 (.box true (.t 1)), o 4 (.mv (cb false))] [2, 3])
 (.seq (.ops [o 5 (.ld true 6 (.t 3)), o 6 (.bslice false 1 [.p (.str [])] 1 [(0, cs [97, 114, 109])]), o 7 (.call true true 0 (.fn 93) [.t 5, .t 6]), o 8 (.mv (.t 7)), ⟨some 9, .fadr 9 (.t 2), some (8, true)⟩, ⟨some 10, .ld true 2 (.t 9), some (8, true)⟩, ⟨some 11, .build [.p (.bool false), .p (.bool false)] [(0, 1, cb true), (1, 1, cb true)], some (8, true)⟩, ⟨some 12, .eqagg [2, 2] true (.t 10) (.t 11), some (8, true)⟩, o 13 (.pick (.t 8) (.t 12) (cb false)), o 4 (.mv (.t 13))] [4])
 (.ret))⟩

/-- crumple/garage.all$7 -/
def c248 : AFunc := ⟨15, [.tmp 4],
 .seq (.ops [o 2 (.box true (.t 0)), o 3 (.box true (.t 1)), o 4 (.mv (cb false))] [2, 3])
 (.seq (.ops [o 5 (.ld true 6 (.t 3)), o 6 (.bslice false 1 [.p (.str [])] 3 [(0, cs [111, 112, 101, 110]), (1, cs [101, 110, 116, 101, 114]), (2, cs [97, 114, 109])]), o 7 (.call true true 0 (.fn 93) [.t 5, .t 6]), o 8 (.mv (.t 7)), ⟨some 9, .ld true 15 (.t 2), some (8, true)⟩, ⟨some 10, .fadr 0 (.t 3), some (8, true)⟩, ⟨some 11, .ld false 1 (.t 10), some (8, true)⟩, ⟨some 12, .call true true 0 (.fn 249) [.t 9, .t 11], some (8, true)⟩, ⟨some 13, .not (.t 12), some (8, true)⟩, o 14 (.pick (.t 8) (.t 13) (cb false)), o 4 (.mv (.t 14))] [4])
 (.ret))⟩

/-- (crumple/garage.State).admits -/
def c249 : AFunc := ⟨14, [.tmp 4],
 .seq (.ops [o 2 (.box true (.t 0)), o 4 (.mv (cb false))] [1, 2])
 (.seq (.ops [o 5 (.fadr 14 (.t 2)), o 6 (.ld false 1 (.t 5)), o 7 (.bin .neq (.t 6) (ci (-1))), o 8 (.mv (.t 7)), ⟨some 9, .fadr 14 (.t 2), some (8, true)⟩, ⟨some 10, .ld false 1 (.t 9), some (8, true)⟩, ⟨some 11, .mv (.t 1), some (8, true)⟩, ⟨some 12, .bin .leq (.t 10) (.t 11), some (8, true)⟩, o 13 (.pick (.t 8) (.t 12) (cb false)), o 4 (.mv (.t 13))] [4])
 (.ret))⟩


def FT : Tr := (.node 135 c135 (.node 86 c86 (.node 51 c51 (.node 33 c33 (.node 23 c23 (.node 18 c18 (.node 17 c17 (.node 7 c7 .leaf .leaf) .leaf) (.node 21 c21 .leaf .leaf)) (.node 31 c31 (.node 30 c30 (.node 24 c24 .leaf .leaf) .leaf) (.node 32 c32 .leaf .leaf))) (.node 47 c47 (.node 39 c39 (.node 38 c38 (.node 34 c34 .leaf .leaf) .leaf) (.node 42 c42 .leaf .leaf)) (.node 49 c49 (.node 48 c48 .leaf .leaf) (.node 50 c50 .leaf .leaf)))) (.node 63 c63 (.node 59 c59 (.node 57 c57 (.node 55 c55 (.node 54 c54 .leaf .leaf) .leaf) (.node 58 c58 .leaf .leaf)) (.node 61 c61 (.node 60 c60 .leaf .leaf) (.node 62 c62 .leaf .leaf))) (.node 81 c81 (.node 72 c72 (.node 70 c70 (.node 64 c64 .leaf .leaf) .leaf) (.node 73 c73 .leaf .leaf)) (.node 84 c84 (.node 83 c83 .leaf .leaf) (.node 85 c85 .leaf .leaf))))) (.node 111 c111 (.node 100 c100 (.node 91 c91 (.node 89 c89 (.node 88 c88 (.node 87 c87 .leaf .leaf) .leaf) (.node 90 c90 .leaf .leaf)) (.node 94 c94 (.node 93 c93 (.node 92 c92 .leaf .leaf) .leaf) (.node 99 c99 .leaf .leaf))) (.node 106 c106 (.node 104 c104 (.node 103 c103 (.node 101 c101 .leaf .leaf) .leaf) (.node 105 c105 .leaf .leaf)) (.node 109 c109 (.node 107 c107 .leaf .leaf) (.node 110 c110 .leaf .leaf)))) (.node 120 c120 (.node 116 c116 (.node 114 c114 (.node 113 c113 (.node 112 c112 .leaf .leaf) .leaf) (.node 115 c115 .leaf .leaf)) (.node 118 c118 (.node 117 c117 .leaf .leaf) (.node 119 c119 .leaf .leaf))) (.node 127 c127 (.node 125 c125 (.node 123 c123 (.node 122 c122 .leaf .leaf) .leaf) (.node 126 c126 .leaf .leaf)) (.node 132 c132 (.node 131 c131 .leaf .leaf) (.node 134 c134 .leaf .leaf)))))) (.node 196 c196 (.node 158 c158 (.node 145 c145 (.node 140 c140 (.node 138 c138 (.node 137 c137 (.node 136 c136 .leaf .leaf) .leaf) (.node 139 c139 .leaf .leaf)) (.node 143 c143 (.node 142 c142 (.node 141 c141 .leaf .leaf) .leaf) (.node 144 c144 .leaf .leaf))) (.node 154 c154 (.node 148 c148 (.node 147 c147 (.node 146 c146 .leaf .leaf) .leaf) (.node 153 c153 .leaf .leaf)) (.node 156 c156 (.node 155 c155 .leaf .leaf) (.node 157 c157 .leaf .leaf)))) (.node 171 c171 (.node 164 c164 (.node 162 c162 (.node 161 c161 (.node 160 c160 .leaf .leaf) .leaf) (.node 163 c163 .leaf .leaf)) (.node 169 c169 (.node 165 c165 .leaf .leaf) (.node 170 c170 .leaf .leaf))) (.node 188 c188 (.node 181 c181 (.node 180 c180 (.node 172 c172 .leaf .leaf) .leaf) (.node 182 c182 .leaf .leaf)) (.node 191 c191 (.node 189 c189 .leaf .leaf) (.node 194 c194 .leaf .leaf))))) (.node 232 c232 (.node 223 c223 (.node 218 c218 (.node 214 c214 (.node 198 c198 (.node 197 c197 .leaf .leaf) .leaf) (.node 217 c217 .leaf .leaf)) (.node 221 c221 (.node 220 c220 (.node 219 c219 .leaf .leaf) .leaf) (.node 222 c222 .leaf .leaf))) (.node 228 c228 (.node 226 c226 (.node 225 c225 (.node 224 c224 .leaf .leaf) .leaf) (.node 227 c227 .leaf .leaf)) (.node 230 c230 (.node 229 c229 .leaf .leaf) (.node 231 c231 .leaf .leaf)))) (.node 241 c241 (.node 237 c237 (.node 235 c235 (.node 234 c234 (.node 233 c233 .leaf .leaf) .leaf) (.node 236 c236 .leaf .leaf)) (.node 239 c239 (.node 238 c238 .leaf .leaf) (.node 240 c240 .leaf .leaf))) (.node 246 c246 (.node 244 c244 (.node 243 c243 (.node 242 c242 .leaf .leaf) .leaf) (.node 245 c245 .leaf .leaf)) (.node 248 c248 (.node 247 c247 .leaf .leaf) (.node 249 c249 .leaf .leaf)))))))
def F (n : Nat) : Option AFunc := FT.find n
end Fw
