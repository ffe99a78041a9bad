/- The functions of the program, written for the evaluator, second part: definitions alone. -/
import Derived.Test.YtbaedpfgjpkabaaGreatDoorChCode
namespace Fw
open Go
/-- crumple/channel.checkInterval -/
def c121 : AFunc := ⟨25, [.tmp 6],
 .seq (.ops [o 3 (.box true (.t 0)), o 6 (.mv (ci 0))] [1, 2, 3])
 (.seq (.opsd [(0, 1), (1, 1), (2, 1), (3, 1), (4, 1), (5, 1), (6, 1), (7, 1), (8, 1), (9, 1), (10, 1), (11, 1), (12, 1), (13, 1), (14, 1), (15, 0), (16, 0), (17, 0), (18, 1)] [o 7 (.fadr 0 (.t 3)), o 8 (.ld false 1 (.t 7)), o 9 (.mv (.t 1)), o 10 (.mv (.t 2)), o 11 (.call true true 0 (.fn 111) [.t 8, .t 9, .t 10]), o 12 (.fadr 1 (.t 3)), o 13 (.ld false 1 (.t 12)), o 14 (.mv (.t 1)), o 15 (.mv (.t 2)), o 16 (.call true true 0 (.fn 111) [.t 13, .t 14, .t 15]), o 17 (.fadr 0 (.t 3)), o 18 (.ld false 1 (.t 17)), o 19 (.fadr 1 (.t 3)), o 20 (.ld false 1 (.t 19)), o 21 (.bin .gtr (.t 18) (.t 20)), o 22 (.call true true 0 (.fn 104) [.t 21, ci 11]), o 23 (.bslice false 1 [.p (.int .i64 0)] 3 [(0, .t 11), (1, .t 16), (2, .t 22)]), o 24 (.call true true 0 (.fn 103) [.t 23]), o 6 (.mv (.t 24))] [6])
 (.ret))⟩

/-- crumple/record.CheckSamples -/
def c122 : AFunc := ⟨8, [.tmp 2],
 .seq (.ops [o 2 (.mv (ci 0))] [0])
 (.seq (.seq (.ops [o 3 (.mv (.t 0)), o 4 (.len 1 (.t 3)), o 5 (.bin .gtr (.t 4) (ci 4096))] [0, 5])
 (.cond (.t 5)
 (.seq (.ops [o 2 (.mv (ci 5))] [2])
 (.ret))
 (.skip)))
 (.seq (.ops [o 6 (.mv (.t 0)), o 7 (.call true true 0 (.fn 176) [.t 6]), o 2 (.mv (.t 7))] [2])
 (.ret)))⟩

/-- crumple/channel.run -/
def c123A0 : ACode :=
 .seq (.ops [o 12 (.mv (.t 27))] [8, 11, 12, 28])
 (.ops [o 13 (.mv (.t 28))] [8, 11, 12, 13])
def c123B0 : ACode :=
 .block 3 (.opsd [(0, 1), (1, 1), (2, 1), (3, 1), (4, 1), (5, 1), (6, 1), (7, 1), (8, 0)] [o 29 (.ld false 1 (.t 11)), o 30 (.mv (.t 13)), o 31 (.ld false 1 (.t 8)), o 32 (.mv (.t 12)), o 33 (.iadr 1 (.t 31) (.t 32)), o 34 (.ld false 1 (.t 33)), o 35 (.bin .mul (.t 30) (.t 34)), o 36 (.bin .add (.t 29) (.t 35)), u (.st 1 (.t 11) (.t 36))] [])
def c123L1 : ACode :=
 .seq (.ops [o 20 (.bin .lss (.t 19) (.t 18))] [1, 2, 6, 7, 8, 9, 18, 19, 20])
 (.seq (.cond (.t 20)
 (.skip)
 (.exit 0))
 (.seq (.block 1 (.seq (.ops [o 21 (.mv (.t 19)), o 10 (.mv (.t 21))] [1, 2, 6, 7, 8, 9, 10, 18, 19])
 (.seq (.ops [o 11 (.alloc true 1 [.p (.int .i64 0)]), u (.st 1 (.t 11) (ci 0))] [1, 2, 6, 7, 8, 9, 10, 11, 18, 19])
 (.seq (.seq (.ops [o 22 (.mv (.t 1)), o 23 (.mv (.t 10)), o 24 (.ld false 1 (.t 8)), o 25 (.len 1 (.t 24)), o 26 (.call true false 0 (.fn 136) [.t 22, .t 23, .t 25])] [1, 2, 6, 7, 8, 9, 11, 18, 19, 26])
 (.block 2 (.rfun (.t 26) [27, 28] c123A0 c123B0)))
 (.ops [o 37 (.mv (.t 9)), o 38 (.fadr 0 (.g 4)), o 39 (.ld false 1 (.t 38)), o 40 (.ld false 1 (.t 11)), o 41 (.mv (.t 2)), o 42 (.call false true 0 (.val (.t 39)) [.t 40, .t 41]), o 43 (.bslice false 1 [.p (.int .i64 0)] 1 [(0, .t 42)]), o 44 (.app 1 8 [.p (.int .i64 0)] (.t 37) (.t 43)), o 9 (.mv (.t 44))] [1, 2, 6, 7, 8, 9, 18, 19])))))
 (.ops [o 45 (.bin .add (.t 19) (ci 1)), o 19 (.mv (.t 45))] [1, 2, 6, 7, 8, 9, 18, 19])))
def c123 : AFunc := ⟨54, [.tmp 6, .tmp 7],
 .seq (.ops [o 6 (.mv (cn)), o 7 (.mv (ci 0))] [0, 1, 2, 6, 7])
 (.seq (.ops [o 15 (.mv (.t 0)), o 16 (.call true false 0 (.fn 115) [.t 15]), o 8 (.alloc false 1 [.p (.nils)]), u (.st 1 (.t 8) (.t 16))] [1, 2, 6, 7, 8])
 (.seq (.ops [o 9 (.nilown 1)] [1, 2, 6, 7, 8, 9])
 (.seq (.seq (.ops [o 17 (.ld false 1 (.t 8)), o 18 (.len 1 (.t 17)), o 19 (.mv (ci 0))] [1, 2, 6, 7, 8, 9, 18, 19])
 (.block 0 (.loop true [1, 2, 6, 7, 8, 9, 18, 19] c123L1)))
 (.seq (.seq (.ops [o 46 (.mv (.t 9)), o 47 (.call true false 0 (.fn 131) [.t 46, cf 177]), o 48 (.call true true 0 (.fn 103) [.t 47]), o 14 (.mv (.t 48))] [9, 14])
 (.seq (.ops [o 49 (.mv (.t 14)), o 50 (.bin .neq (.t 49) (ci 0))] [9, 14, 50])
 (.cond (.t 50)
 (.seq (.ops [o 51 (.mv (.t 14)), o 6 (.mv (cn)), o 7 (.mv (.t 51))] [6, 7])
 (.ret))
 (.skip))))
 (.seq (.ops [o 52 (.mv (.t 9)), o 53 (.call true false 0 (.fn 178) [.t 52, cf 154]), o 6 (.mv (.t 53)), o 7 (.mv (ci 0))] [6, 7])
 (.ret))))))⟩

/-- crumple/channel.sum -/
def c124L0 : ACode :=
 .seq (.ops [o 9 (.bin .lss (.t 8) (.t 7))] [3, 6, 7, 8, 9])
 (.seq (.cond (.t 9)
 (.skip)
 (.exit 0))
 (.seq (.block 1 (.seq (.ops [o 10 (.iadr 1 (.t 6) (.t 8)), o 11 (.ld false 1 (.t 10)), o 5 (.mv (.t 11))] [3, 5, 6, 7, 8])
 (.ops [o 12 (.mv (.t 3)), o 13 (.mv (.t 5)), o 14 (.bin .add (.t 12) (.t 13)), o 3 (.mv (.t 14))] [3, 6, 7, 8])))
 (.ops [o 15 (.bin .add (.t 8) (ci 1)), o 8 (.mv (.t 15))] [3, 6, 7, 8])))
def c124 : AFunc := ⟨17, [.tmp 2],
 .seq (.ops [o 2 (.mv (ci 0))] [0])
 (.seq (.ops [o 3 (.mv (ci 0))] [0, 3])
 (.seq (.seq (.ops [o 6 (.mv (.t 0)), o 7 (.len 1 (.t 6)), o 8 (.mv (ci 0))] [3, 6, 7, 8])
 (.block 0 (.loop false [3, 6, 7, 8] c124L0)))
 (.seq (.ops [o 16 (.mv (.t 3)), o 2 (.mv (.t 16))] [2])
 (.ret))))⟩

/-- crumple/channel.weights -/
def c125L0 : ACode :=
 .seq (.ops [o 19 (.bin .lss (.t 18) (.t 17))] [0, 3, 4, 5, 9, 10, 11, 16, 17, 18, 19])
 (.seq (.cond (.t 19)
 (.skip)
 (.exit 2))
 (.seq (.block 3 (.seq (.ops [o 20 (.mv (.t 18)), o 21 (.iadr 1 (.t 16) (.t 18)), o 22 (.ld false 1 (.t 21)), o 6 (.mv (.t 20)), o 7 (.mv (.t 22))] [0, 3, 4, 5, 6, 7, 9, 10, 11, 16, 17, 18])
 (.ops [o 23 (.mv (.t 3)), o 24 (.mv (.t 4)), o 25 (.mv (.t 6)), o 26 (.bin .sub (.t 24) (.t 25)), o 27 (.lkup 0 (.p (.int .i64 0)) (.t 23) (.t 26) false), o 28 (.mv (.t 5)), o 29 (.mv (.t 7)), o 30 (.bin .mul (.t 28) (.t 29)), o 31 (.bin .add (.t 27) (.t 30)), u (.mupd 0 (.t 23) (.t 26) (.t 31))] [0, 3, 4, 5, 9, 10, 11, 16, 17, 18])))
 (.ops [o 32 (.bin .add (.t 18) (ci 1)), o 18 (.mv (.t 32))] [0, 3, 4, 5, 9, 10, 11, 16, 17, 18])))
def c125L1 : ACode :=
 .seq (.ops [o 12 (.bin .lss (.t 11) (.t 10))] [0, 3, 9, 10, 11, 12])
 (.seq (.cond (.t 12)
 (.skip)
 (.exit 0))
 (.seq (.block 1 (.seq (.ops [o 13 (.mv (.t 11)), o 14 (.iadr 1 (.t 9) (.t 11)), o 15 (.ld false 1 (.t 14)), o 4 (.mv (.t 13)), o 5 (.mv (.t 15))] [0, 3, 4, 5, 9, 10, 11])
 (.seq (.ops [o 16 (.mv (.t 0)), o 17 (.len 1 (.t 16)), o 18 (.mv (ci 0))] [0, 3, 4, 5, 9, 10, 11, 16, 17, 18])
 (.block 2 (.loop false [0, 3, 4, 5, 9, 10, 11, 16, 17, 18] c125L0)))))
 (.ops [o 33 (.bin .add (.t 11) (ci 1)), o 11 (.mv (.t 33))] [0, 3, 9, 10, 11])))
def c125 : AFunc := ⟨35, [.tmp 2],
 .seq (.ops [o 2 (.mv (.c (.p (.nilm))))] [0])
 (.seq (.ops [o 8 (.mkmap), o 3 (.mv (.t 8))] [0, 3])
 (.seq (.seq (.ops [o 9 (.mv (.t 0)), o 10 (.len 1 (.t 9)), o 11 (.mv (ci 0))] [0, 3, 9, 10, 11])
 (.block 0 (.loop false [0, 3, 9, 10, 11] c125L1)))
 (.seq (.ops [o 34 (.mv (.t 3)), o 2 (.mv (.t 34))] [2])
 (.ret))))⟩

/-- crumple/channel.mapped[int,crumple/api.Errno] -/
def c131L0 : ACode :=
 .seq (.ops [o 11 (.bin .lss (.t 10) (.t 9))] [1, 5, 8, 9, 10, 11])
 (.seq (.cond (.t 11)
 (.skip)
 (.exit 0))
 (.seq (.block 1 (.seq (.ops [o 12 (.iadr 1 (.t 8) (.t 10)), o 13 (.ld false 1 (.t 12)), o 7 (.mv (.t 13))] [1, 5, 7, 8, 9, 10])
 (.ops [o 14 (.mv (.t 5)), o 15 (.mv (.t 1)), o 16 (.mv (.t 7)), o 17 (.call false true 0 (.val (.t 15)) [.t 16]), o 18 (.bslice false 1 [.p (.int .i64 0)] 1 [(0, .t 17)]), o 19 (.app 1 8 [.p (.int .i64 0)] (.t 14) (.t 18)), o 5 (.mv (.t 19))] [1, 5, 8, 9, 10])))
 (.ops [o 20 (.bin .add (.t 10) (ci 1)), o 10 (.mv (.t 20))] [1, 5, 8, 9, 10])))
def c131 : AFunc := ⟨22, [.tmp 4],
 .seq (.ops [o 4 (.mv (cn))] [0, 1])
 (.seq (.ops [o 5 (.nilown 1)] [0, 1, 5])
 (.seq (.seq (.ops [o 8 (.mv (.t 0)), o 9 (.len 1 (.t 8)), o 10 (.mv (ci 0))] [1, 5, 8, 9, 10])
 (.block 0 (.loop true [1, 5, 8, 9, 10] c131L0)))
 (.seq (.ops [o 21 (.mv (.t 5)), o 4 (.mv (.t 21))] [4])
 (.ret))))⟩

/-- crumple/channel.CheckKernel$1 -/
def c132 : AFunc := ⟨5, [.tmp 2],
 .seq (.ops [o 2 (.mv (ci 0))] [0])
 (.seq (.ops [o 3 (.mv (.t 0)), o 4 (.call true true 0 (.fn 111) [.t 3, ci (-100), ci 100]), o 2 (.mv (.t 4))] [2])
 (.ret))⟩

/-- crumple/channel.Enclosed$1 -/
def c133 : AFunc := ⟨5, [.tmp 2],
 .seq (.ops [o 1 (.box true (.t 0)), o 2 (.mv (ci 0))] [1])
 (.seq (.ops [o 3 (.ld true 2 (.t 1)), o 4 (.call true true 0 (.fn 121) [.t 3, ci (-200000), ci 200000]), o 2 (.mv (.t 4))] [2])
 (.ret))⟩

/-- crumple/channel.checkMany -/
def c134 : AFunc := ⟨11, [.tmp 2],
 .seq (.ops [o 2 (.mv (ci 0))] [0])
 (.seq (.ops [o 3 (.mv (.t 0)), o 4 (.bin .eql (.t 3) (ci 0)), o 5 (.call true true 0 (.fn 104) [.t 4, ci 12]), o 6 (.mv (.t 0)), o 7 (.bin .gtr (.t 6) (ci 4096)), o 8 (.call true true 0 (.fn 104) [.t 7, ci 5]), o 9 (.bslice false 1 [.p (.int .i64 0)] 2 [(0, .t 5), (1, .t 8)]), o 10 (.call true true 0 (.fn 103) [.t 9]), o 2 (.mv (.t 10))] [2])
 (.ret))⟩

/-- crumple/channel.mapped[crumple/api.Interval,crumple/api.Errno] -/
def c135L0 : ACode :=
 .seq (.ops [o 11 (.bin .lss (.t 10) (.t 9))] [1, 5, 8, 9, 10, 11])
 (.seq (.cond (.t 11)
 (.skip)
 (.exit 0))
 (.seq (.block 1 (.seq (.ops [o 12 (.iadr 2 (.t 8) (.t 10)), o 13 (.ld true 2 (.t 12)), o 7 (.alloc true 1 [.p (.int .i64 0), .p (.int .i64 0)]), u (.st 2 (.t 7) (.t 13))] [1, 5, 7, 8, 9, 10])
 (.ops [o 14 (.mv (.t 5)), o 15 (.mv (.t 1)), o 16 (.ld true 2 (.t 7)), o 17 (.call false true 0 (.val (.t 15)) [.t 16]), o 18 (.bslice false 1 [.p (.int .i64 0)] 1 [(0, .t 17)]), o 19 (.app 1 8 [.p (.int .i64 0)] (.t 14) (.t 18)), o 5 (.mv (.t 19))] [1, 5, 8, 9, 10])))
 (.ops [o 20 (.bin .add (.t 10) (ci 1)), o 10 (.mv (.t 20))] [1, 5, 8, 9, 10])))
def c135 : AFunc := ⟨22, [.tmp 4],
 .seq (.ops [o 4 (.mv (cn))] [0, 1])
 (.seq (.ops [o 5 (.nilown 1)] [0, 1, 5])
 (.seq (.seq (.ops [o 8 (.mv (.t 0)), o 9 (.len 1 (.t 8)), o 10 (.mv (ci 0))] [1, 5, 8, 9, 10])
 (.block 0 (.loop true [1, 5, 8, 9, 10] c135L0)))
 (.seq (.ops [o 21 (.mv (.t 5)), o 4 (.mv (.t 21))] [4])
 (.ret))))⟩

/-- crumple/channel.padded -/
def c136 : AFunc := ⟨8, [.tmp 6],
 .seq (.ops [o 3 (.box false (.t 0)), o 4 (.box true (.t 1)), o 5 (.box true (.t 2)), o 6 (.mv (.c (.p (.nilf))))] [3, 4, 5])
 (.seq (.ops [o 7 (.mkclo 181 [] [.t 3, .t 5, .t 4]), o 6 (.mv (.t 7))] [6])
 (.ret))⟩

/-- crumple/channel.checkValues -/
def c137 : AFunc := ⟨13, [.tmp 2],
 .seq (.ops [o 2 (.mv (ci 0))] [0])
 (.seq (.ops [o 3 (.mv (cf 182))] [0, 3])
 (.seq (.ops [o 4 (.mv (.t 0)), o 5 (.len 1 (.t 4)), o 6 (.call true true 0 (.fn 134) [.t 5]), o 7 (.mv (.t 0)), o 8 (.mv (.t 3)), o 9 (.call true false 0 (.fn 184) [.t 7, .t 8]), o 10 (.call true true 0 (.fn 103) [.t 9]), o 11 (.bslice false 1 [.p (.int .i64 0)] 2 [(0, .t 6), (1, .t 10)]), o 12 (.call true true 0 (.fn 103) [.t 11]), o 2 (.mv (.t 12))] [2])
 (.ret)))⟩

/-- slices.DeleteFunc[[]crumple/channel.Value,crumple/channel.Value] -/
def c138L0 : ACode :=
 .seq (.seq (.ops [o 16 (.mv (.t 6)), o 17 (.mv (.t 0)), o 18 (.len 1 (.t 17)), o 19 (.bin .lss (.t 16) (.t 18))] [0, 1, 5, 6, 19])
 (.cond (.t 19)
 (.skip)
 (.exit 0)))
 (.seq (.block 1 (.seq (.ops [o 22 (.mv (.t 0)), o 23 (.mv (.t 6)), o 24 (.iadr 4 (.t 22) (.t 23)), o 25 (.ld true 4 (.t 24)), o 7 (.alloc true 1 [.p (.int .i64 0), .p (.int .i64 0), .p (.bool false), .p (.bool false)]), u (.st 4 (.t 7) (.t 25))] [0, 1, 5, 6, 7])
 (.seq (.ops [o 26 (.mv (.t 1)), o 27 (.ld true 4 (.t 7)), o 28 (.call false true 0 (.val (.t 26)) [.t 27]), o 29 (.not (.t 28))] [0, 1, 5, 6, 7, 29])
 (.cond (.t 29)
 (.seq (.ops [o 30 (.mv (.t 0)), o 31 (.mv (.t 5)), o 32 (.ld true 4 (.t 7)), o 33 (.iadr 4 (.t 30) (.t 31)), u (.st 4 (.t 33) (.t 32))] [0, 1, 5, 6])
 (.ops [o 34 (.mv (.t 5)), o 35 (.bin .add (.t 34) (ci 1)), o 5 (.mv (.t 35))] [0, 1, 5, 6]))
 (.skip)))))
 (.ops [o 20 (.mv (.t 6)), o 21 (.bin .add (.t 20) (ci 1)), o 6 (.mv (.t 21))] [0, 1, 5, 6]))
def c138 : AFunc := ⟨42, [.tmp 4],
 .seq (.ops [o 4 (.mv (cn))] [0, 1])
 (.seq (.ops [o 8 (.mv (.t 0)), o 9 (.mv (.t 1)), o 10 (.call true true 0 (.fn 185) [.t 8, .t 9]), o 5 (.mv (.t 10))] [0, 1, 5])
 (.seq (.seq (.ops [o 11 (.mv (.t 5)), o 12 (.bin .eql (.t 11) (ci (-1)))] [0, 1, 5, 12])
 (.cond (.t 12)
 (.seq (.ops [o 13 (.mv (.t 0)), o 4 (.mv (.t 13))] [4])
 (.ret))
 (.skip)))
 (.seq (.seq (.ops [o 14 (.mv (.t 5)), o 15 (.bin .add (.t 14) (ci 1)), o 6 (.mv (.t 15))] [0, 1, 5, 6])
 (.block 0 (.loop true [0, 1, 5, 6] c138L0)))
 (.seq (.ops [o 36 (.mv (.t 0)), o 37 (.mv (.t 5)), o 38 (.slc 4 (.t 36) (some (.t 37)) none), u (.fail)] [0, 5])
 (.seq (.ops [o 39 (.mv (.t 0)), o 40 (.mv (.t 5)), o 41 (.slc 4 (.t 39) none (some (.t 40))), o 4 (.mv (.t 41))] [4])
 (.ret))))))⟩

/-- slices.Clone[[]crumple/channel.Value,crumple/channel.Value] -/
def c139 : AFunc := ⟨8, [.tmp 2],
 .seq (.ops [o 2 (.mv (cn))] [0])
 (.seq (.seq (.ops [o 3 (.mv (.t 0)), o 4 (.eqnil 1 false (.t 3))] [0, 4])
 (.cond (.t 4)
 (.seq (.ops [o 2 (.mv (cn))] [2])
 (.ret))
 (.skip)))
 (.seq (.ops [o 5 (.bslice true 4 [.p (.int .i64 0), .p (.int .i64 0), .p (.bool false), .p (.bool false)] 0 []), o 6 (.mv (.t 0)), o 7 (.app 4 24 [.p (.int .i64 0), .p (.int .i64 0), .p (.bool false), .p (.bool false)] (.t 5) (.t 6)), o 2 (.mv (.t 7))] [2])
 (.ret)))⟩

/-- crumple/channel.Peak$1 -/
def c140 : AFunc := ⟨5, [.tmp 2],
 .seq (.ops [o 1 (.box true (.t 0)), o 2 (.mv (cb false))] [1])
 (.seq (.ops [o 3 (.fadr 2 (.t 1)), o 4 (.ld false 1 (.t 3)), o 2 (.mv (.t 4))] [2])
 (.ret))⟩

/-- slices.MaxFunc[[]crumple/channel.Value,crumple/channel.Value] -/
def c141L0 : ACode :=
 .seq (.seq (.ops [o 14 (.mv (.t 6)), o 15 (.mv (.t 0)), o 16 (.len 1 (.t 15)), o 17 (.bin .lss (.t 14) (.t 16))] [0, 1, 4, 5, 6, 17])
 (.cond (.t 17)
 (.skip)
 (.exit 0)))
 (.seq (.block 1 (.seq (.opsd [(0, 1), (1, 1), (2, 1), (3, 1), (4, 1), (5, 1), (6, 0), (7, 1)] [o 20 (.mv (.t 1)), o 21 (.mv (.t 0)), o 22 (.mv (.t 6)), o 23 (.iadr 4 (.t 21) (.t 22)), o 24 (.ld true 4 (.t 23)), o 25 (.ld true 4 (.t 5)), o 26 (.call false true 0 (.val (.t 20)) [.t 24, .t 25]), o 27 (.bin .gtr (.t 26) (ci 0))] [0, 1, 4, 5, 6, 27])
 (.cond (.t 27)
 (.ops [o 28 (.mv (.t 0)), o 29 (.mv (.t 6)), o 30 (.iadr 4 (.t 28) (.t 29)), o 31 (.ld true 4 (.t 30)), u (.st 4 (.t 5) (.t 31))] [0, 1, 4, 5, 6])
 (.skip))))
 (.ops [o 18 (.mv (.t 6)), o 19 (.bin .add (.t 18) (ci 1)), o 6 (.mv (.t 19))] [0, 1, 4, 5, 6]))
def c141 : AFunc := ⟨33, [.cell 4 true 4],
 .seq (.ops [o 4 (.alloc true 1 [.p (.int .i64 0), .p (.int .i64 0), .p (.bool false), .p (.bool false)])] [0, 1, 4])
 (.seq (.seq (.ops [o 7 (.mv (.t 0)), o 8 (.len 1 (.t 7)), o 9 (.bin .lss (.t 8) (ci 1))] [0, 1, 4, 9])
 (.cond (.t 9)
 (.ops [o 10 (.fail), u (.fail)] [0, 1, 4])
 (.skip)))
 (.seq (.ops [o 11 (.mv (.t 0)), o 12 (.iadr 4 (.t 11) (ci 0)), o 13 (.ld true 4 (.t 12)), o 5 (.alloc true 1 [.p (.int .i64 0), .p (.int .i64 0), .p (.bool false), .p (.bool false)]), u (.st 4 (.t 5) (.t 13))] [0, 1, 4, 5])
 (.seq (.seq (.ops [o 6 (.mv (ci 1))] [0, 1, 4, 5, 6])
 (.block 0 (.loop true [0, 1, 4, 5, 6] c141L0)))
 (.seq (.ops [o 32 (.ld true 4 (.t 5)), u (.st 4 (.t 4) (.t 32))] [4])
 (.ret)))))⟩

/-- crumple/channel.Peak$2 -/
def c142 : AFunc := ⟨10, [.tmp 4],
 .seq (.ops [o 2 (.box true (.t 0)), o 3 (.box true (.t 1)), o 4 (.mv (ci 0))] [2, 3])
 (.seq (.ops [o 5 (.fadr 0 (.t 2)), o 6 (.ld false 1 (.t 5)), o 7 (.fadr 0 (.t 3)), o 8 (.ld false 1 (.t 7)), o 9 (.call true true 0 (.fn 143) [.t 6, .t 8]), o 4 (.mv (.t 9))] [4])
 (.ret))⟩

/-- cmp.Compare[int] -/
def c143 : AFunc := ⟨20, [.tmp 4],
 .seq (.ops [o 4 (.mv (ci 0))] [0, 1])
 (.seq (.ops [o 7 (.mv (.t 0)), o 8 (.call true true 0 (.fn 186) [.t 7]), o 5 (.mv (.t 8))] [0, 1, 5])
 (.seq (.ops [o 9 (.mv (.t 1)), o 10 (.call true true 0 (.fn 186) [.t 9]), o 6 (.mv (.t 10))] [0, 1, 5, 6])
 (.seq (.seq (.ops [o 11 (.mv (.t 5))] [0, 1, 6, 11])
 (.cond (.t 11)
 (.seq (.seq (.ops [o 12 (.mv (.t 6))] [12])
 (.cond (.t 12)
 (.seq (.ops [o 4 (.mv (ci 0))] [4])
 (.ret))
 (.skip)))
 (.seq (.ops [o 4 (.mv (ci (-1)))] [4])
 (.ret)))
 (.skip)))
 (.seq (.seq (.ops [o 13 (.mv (.t 6))] [0, 1, 13])
 (.cond (.t 13)
 (.seq (.ops [o 4 (.mv (ci 1))] [4])
 (.ret))
 (.skip)))
 (.seq (.seq (.ops [o 14 (.mv (.t 0)), o 15 (.mv (.t 1)), o 16 (.bin .lss (.t 14) (.t 15))] [0, 1, 16])
 (.cond (.t 16)
 (.seq (.ops [o 4 (.mv (ci (-1)))] [4])
 (.ret))
 (.skip)))
 (.seq (.seq (.ops [o 17 (.mv (.t 0)), o 18 (.mv (.t 1)), o 19 (.bin .gtr (.t 17) (.t 18))] [19])
 (.cond (.t 19)
 (.seq (.ops [o 4 (.mv (ci 1))] [4])
 (.ret))
 (.skip)))
 (.seq (.ops [o 4 (.mv (ci 0))] [4])
 (.ret))))))))⟩

/-- crumple/channel.Peak$3 -/
def c144 : AFunc := ⟨10, [.tmp 4],
 .seq (.ops [o 2 (.box true (.t 0)), o 3 (.box true (.t 1)), o 4 (.mv (ci 0))] [2, 3])
 (.seq (.ops [o 5 (.fadr 1 (.t 2)), o 6 (.ld false 1 (.t 5)), o 7 (.fadr 1 (.t 3)), o 8 (.ld false 1 (.t 7)), o 9 (.call true true 0 (.fn 143) [.t 6, .t 8]), o 4 (.mv (.t 9))] [4])
 (.ret))⟩

/-- slices.ContainsFunc[[]crumple/channel.Value,crumple/channel.Value] -/
def c145 : AFunc := ⟨9, [.tmp 4],
 .seq (.ops [o 4 (.mv (cb false))] [0, 1])
 (.seq (.ops [o 5 (.mv (.t 0)), o 6 (.mv (.t 1)), o 7 (.call true true 0 (.fn 185) [.t 5, .t 6]), o 8 (.bin .geq (.t 7) (ci 0)), o 4 (.mv (.t 8))] [4])
 (.ret))⟩

/-- crumple/channel.Peak$4 -/
def c146 : AFunc := ⟨5, [.tmp 2],
 .seq (.ops [o 1 (.box true (.t 0)), o 2 (.mv (cb false))] [1])
 (.seq (.ops [o 3 (.fadr 3 (.t 1)), o 4 (.ld false 1 (.t 3)), o 2 (.mv (.t 4))] [2])
 (.ret))⟩

/-- (crumple/channel.Value).clipped -/
def c147 : AFunc := ⟨10, [.tmp 2],
 .seq (.ops [o 1 (.box true (.t 0)), o 2 (.mv (cb false))] [1])
 (.seq (.ops [o 3 (.ld true 4 (.t 1)), o 4 (.fadr 0 (.t 1)), o 5 (.ld false 1 (.t 4)), o 6 (.fadr 1 (.t 1)), o 7 (.ld false 1 (.t 6)), o 8 (.build [.p (.int .i64 0), .p (.int .i64 0), .p (.bool false), .p (.bool false)] [(0, 1, .t 5), (1, 1, .t 7)]), o 9 (.eqagg [0, 0, 2, 2] true (.t 3) (.t 8)), o 2 (.mv (.t 9))] [2])
 (.ret))⟩

/-- crumple/channel.checkGaps -/
def c148L0 : ACode :=
 .seq (.ops [o 15 (.bin .lss (.t 14) (.t 13))] [1, 5, 12, 13, 14, 15])
 (.seq (.cond (.t 15)
 (.skip)
 (.exit 0))
 (.seq (.block 1 (.seq (.ops [o 16 (.iadr 2 (.t 12) (.t 14)), o 17 (.ld true 2 (.t 16)), o 7 (.alloc true 1 [.p (.int .i64 0), .p (.int .i64 0)]), u (.st 2 (.t 7) (.t 17))] [1, 5, 7, 12, 13, 14])
 (.seq (.seq (.opsd [(0, 1), (1, 1), (2, 1), (3, 1), (4, 1), (5, 1), (6, 1), (7, 1), (8, 1), (9, 1), (10, 1), (11, 1), (12, 1), (13, 1), (14, 1), (15, 1), (16, 1), (17, 1), (18, 1), (19, 1), (20, 1), (21, 0), (22, 0), (23, 0), (24, 1)] [o 18 (.fadr 0 (.t 7)), o 19 (.ld false 1 (.t 18)), o 20 (.bin .lss (.t 19) (ci 0)), o 21 (.mv (.t 20)), ⟨some 22, .fadr 0 (.t 7), some (21, false)⟩, ⟨some 23, .ld false 1 (.t 22), some (21, false)⟩, ⟨some 24, .fadr 1 (.t 7), some (21, false)⟩, ⟨some 25, .ld false 1 (.t 24), some (21, false)⟩, ⟨some 26, .bin .geq (.t 23) (.t 25), some (21, false)⟩, o 27 (.pick (.t 21) (cb true) (.t 26)), o 28 (.mv (.t 27)), ⟨some 29, .fadr 1 (.t 7), some (28, false)⟩, ⟨some 30, .ld false 1 (.t 29), some (28, false)⟩, ⟨some 31, .mv (.t 1), some (28, false)⟩, ⟨some 32, .bin .gtr (.t 30) (.t 31), some (28, false)⟩, o 33 (.pick (.t 28) (cb true) (.t 32)), o 34 (.call true true 0 (.fn 104) [.t 33, ci 14]), o 35 (.fadr 0 (.t 7)), o 36 (.ld false 1 (.t 35)), o 37 (.mv (.t 5)), o 38 (.bin .leq (.t 36) (.t 37)), o 39 (.call true true 0 (.fn 104) [.t 38, ci 15]), o 40 (.bslice false 1 [.p (.int .i64 0)] 2 [(0, .t 34), (1, .t 39)]), o 41 (.call true true 0 (.fn 103) [.t 40]), o 8 (.mv (.t 41))] [1, 7, 8, 12, 13, 14])
 (.seq (.ops [o 42 (.mv (.t 8)), o 43 (.bin .neq (.t 42) (ci 0))] [1, 7, 8, 12, 13, 14, 43])
 (.cond (.t 43)
 (.seq (.ops [o 44 (.mv (.t 8)), o 4 (.mv (.t 44))] [4])
 (.ret))
 (.skip))))
 (.ops [o 45 (.fadr 1 (.t 7)), o 46 (.ld false 1 (.t 45)), o 5 (.mv (.t 46))] [1, 5, 12, 13, 14]))))
 (.ops [o 47 (.bin .add (.t 14) (ci 1)), o 14 (.mv (.t 47))] [1, 5, 12, 13, 14])))
def c148 : AFunc := ⟨48, [.tmp 4],
 .seq (.ops [o 4 (.mv (ci 0))] [0, 1])
 (.seq (.seq (.ops [o 9 (.mv (.t 0)), o 10 (.len 1 (.t 9)), o 11 (.bin .gtr (.t 10) (ci 32))] [0, 1, 11])
 (.cond (.t 11)
 (.seq (.ops [o 4 (.mv (ci 5))] [4])
 (.ret))
 (.skip)))
 (.seq (.ops [o 5 (.mv (ci (-1)))] [0, 1, 5])
 (.seq (.seq (.ops [o 12 (.mv (.t 0)), o 13 (.len 1 (.t 12)), o 14 (.mv (ci 0))] [1, 5, 12, 13, 14])
 (.block 0 (.loop true [1, 5, 12, 13, 14] c148L0)))
 (.seq (.ops [o 4 (.mv (ci 0))] [4])
 (.ret)))))⟩

/-- slices.Contains[[]bool,bool] -/
def c149 : AFunc := ⟨9, [.tmp 4],
 .seq (.ops [o 4 (.mv (cb false))] [0, 1])
 (.seq (.ops [o 5 (.mv (.t 0)), o 6 (.mv (.t 1)), o 7 (.call true true 0 (.fn 187) [.t 5, .t 6]), o 8 (.bin .geq (.t 7) (ci 0)), o 4 (.mv (.t 8))] [4])
 (.ret))⟩

/-- crumple/channel.toward -/
def c150L0 : ACode :=
 .seq (.seq (.ops [o 10 (.mv (.t 8)), o 11 (.bin .geq (.t 10) (ci 0)), o 12 (.mv (.t 11)), ⟨some 13, .mv (.t 8), some (12, true)⟩, ⟨some 14, .mv (.t 0), some (12, true)⟩, ⟨some 15, .len 1 (.t 14), some (12, true)⟩, ⟨some 16, .bin .lss (.t 13) (.t 15), some (12, true)⟩, o 17 (.pick (.t 12) (.t 16) (cb false))] [0, 2, 7, 8, 17])
 (.cond (.t 17)
 (.skip)
 (.exit 0)))
 (.seq (.block 1 (.seq (.ops [o 21 (.mv (.t 0)), o 22 (.mv (.t 8)), o 23 (.iadr 1 (.t 21) (.t 22)), o 24 (.ld false 1 (.t 23)), o 25 (.not (.t 24))] [0, 2, 7, 8, 25])
 (.cond (.t 25)
 (.seq (.ops [o 26 (.mv (.t 8)), o 7 (.mv (.t 26))] [7])
 (.exit 0))
 (.skip))))
 (.ops [o 18 (.mv (.t 8)), o 19 (.mv (.t 2)), o 20 (.bin .add (.t 18) (.t 19)), o 8 (.mv (.t 20))] [0, 2, 7, 8]))
def c150 : AFunc := ⟨28, [.tmp 6],
 .seq (.ops [o 6 (.mv (ci 0))] [0, 1, 2])
 (.scope (.seq (.ops [o 7 (.mv (ci (-1)))] [0, 1, 2, 7])
 (.seq (.skip)
 (.seq (.seq (.ops [o 9 (.mv (.t 1)), o 8 (.mv (.t 9))] [0, 2, 7, 8])
 (.block 0 (.loop false [0, 2, 7, 8] c150L0)))
 (.seq (.ops [o 27 (.mv (.t 7)), o 6 (.mv (.t 27))] [6])
 (.ret))))))⟩

/-- crumple/channel.sample -/
def c154 : AFunc := ⟨6, [.tmp 2],
 .seq (.ops [o 2 (.mv (.c (.p (.flt .f32 0))))] [0])
 (.seq (.ops [o 3 (.mv (.t 0)), o 4 (.conv (.flt .f32) (.t 3)), o 5 (.bin .quo (.t 4) (.c (.p (.flt .f32 1098907648)))), o 2 (.mv (.t 5))] [2])
 (.ret))⟩

/-- crumple/channel.unit -/
def c155 : AFunc := ⟨6, [.tmp 2],
 .seq (.ops [o 2 (.mv (ci 0))] [0])
 (.seq (.ops [o 3 (.mv (.t 0)), o 4 (.bin .mul (.c (.p (.flt .f32 1098907648))) (.t 3)), o 5 (.conv (.int .i64) (.t 4)), o 2 (.mv (.t 5))] [2])
 (.ret))⟩

/-- crumple/channel.checkStart -/
def c156 : AFunc := ⟨11, [.tmp 4],
 .seq (.ops [o 4 (.mv (ci 0))] [0, 1])
 (.seq (.ops [o 5 (.mv (.t 0)), o 6 (.call true true 0 (.fn 122) [.t 5]), o 7 (.mv (.t 1)), o 8 (.call true true 0 (.fn 111) [.t 7, ci (-999999999), ci 999999999]), o 9 (.bslice false 1 [.p (.int .i64 0)] 2 [(0, .t 6), (1, .t 8)]), o 10 (.call true true 0 (.fn 103) [.t 9]), o 4 (.mv (.t 10))] [4])
 (.ret))⟩

/-- crumple/channel.sums -/
def c157 : AFunc := ⟨8, [.tmp 4],
 .seq (.ops [o 3 (.box true (.t 1)), o 4 (.mv (cn))] [0, 3])
 (.seq (.ops [o 5 (.mv (.t 0)), o 6 (.mkclo 189 [] [.t 3]), o 7 (.call false false 0 (.fn 188) [.t 5, .t 6]), o 4 (.mv (.t 7))] [4])
 (.ret))⟩

/-- crumple/channel.Squares$1 -/
def c158 : AFunc := ⟨16, [.tmp 3],
 .seq (.ops [o 3 (.mv (ci 0))] [0, 1])
 (.seq (.opsd [(0, 1), (1, 1), (2, 1), (3, 5), (4, 1), (5, 1), (6, 1), (7, 1), (8, 1), (9, 0), (10, 0), (11, 0), (12, 1)] [o 4 (.mv (.t 0)), o 5 (.call true true 0 (.fn 122) [.t 4]), o 6 (.mv (.t 0)), o 7 (.len 1 (.t 6)), o 8 (.ld false 1 (.t 1)), o 9 (.iadr 1 (.t 8) (ci 0)), o 10 (.ld false 1 (.t 9)), o 11 (.len 1 (.t 10)), o 12 (.bin .neq (.t 7) (.t 11)), o 13 (.call true true 0 (.fn 104) [.t 12, ci 2]), o 14 (.bslice false 1 [.p (.int .i64 0)] 2 [(0, .t 5), (1, .t 13)]), o 15 (.call true true 0 (.fn 103) [.t 14]), o 3 (.mv (.t 15))] [3])
 (.ret))⟩

/-- crumple/channel.mapped[[]float32,crumple/api.Errno] -/
def c159L0 : ACode :=
 .seq (.ops [o 11 (.bin .lss (.t 10) (.t 9))] [1, 5, 8, 9, 10, 11])
 (.seq (.cond (.t 11)
 (.skip)
 (.exit 0))
 (.seq (.block 1 (.seq (.ops [o 12 (.iadr 1 (.t 8) (.t 10)), o 13 (.ld false 1 (.t 12)), o 7 (.mv (.t 13))] [1, 5, 7, 8, 9, 10])
 (.ops [o 14 (.mv (.t 5)), o 15 (.mv (.t 1)), o 16 (.mv (.t 7)), o 17 (.call false true 0 (.val (.t 15)) [.t 16]), o 18 (.bslice false 1 [.p (.int .i64 0)] 1 [(0, .t 17)]), o 19 (.app 1 8 [.p (.int .i64 0)] (.t 14) (.t 18)), o 5 (.mv (.t 19))] [1, 5, 8, 9, 10])))
 (.ops [o 20 (.bin .add (.t 10) (ci 1)), o 10 (.mv (.t 20))] [1, 5, 8, 9, 10])))
def c159 : AFunc := ⟨22, [.tmp 4],
 .seq (.ops [o 4 (.mv (cn))] [0, 1])
 (.seq (.ops [o 5 (.nilown 1)] [0, 1, 5])
 (.seq (.seq (.ops [o 8 (.mv (.t 0)), o 9 (.len 1 (.t 8)), o 10 (.mv (ci 0))] [1, 5, 8, 9, 10])
 (.block 0 (.loop true [1, 5, 8, 9, 10] c159L0)))
 (.seq (.ops [o 21 (.mv (.t 5)), o 4 (.mv (.t 21))] [4])
 (.ret))))⟩

/-- crumple/channel.checkSensors -/
def c161L0 : ACode :=
 .seq (.ops [o 14 (.bin .lss (.t 13) (.t 12))] [3, 11, 12, 13, 14])
 (.seq (.cond (.t 14)
 (.skip)
 (.exit 0))
 (.seq (.block 1 (.seq (.ops [o 15 (.iadr 4 (.t 11) (.t 13)), o 16 (.ld true 4 (.t 15)), o 5 (.alloc true 1 [.p (.str []), .p (.int .i64 0), .p (.int .i64 0), .p (.int .i64 0)]), u (.st 4 (.t 5) (.t 16))] [3, 5, 11, 12, 13])
 (.seq (.seq (.opsd [(0, 1), (1, 1), (2, 1), (3, 1), (4, 1), (5, 1), (6, 0), (7, 0), (8, 0), (9, 1)] [o 17 (.ld true 4 (.t 5)), o 18 (.call true true 0 (.fn 34) [.t 17]), o 19 (.mv (.t 3)), o 20 (.fadr 0 (.t 5)), o 21 (.ld false 1 (.t 20)), o 22 (.lkup 1 (.p (.bool false)) (.t 19) (.t 21) false), o 23 (.call true true 0 (.fn 104) [.t 22, ci 9]), o 24 (.bslice false 1 [.p (.int .i64 0)] 2 [(0, .t 18), (1, .t 23)]), o 25 (.call true true 0 (.fn 103) [.t 24]), o 6 (.mv (.t 25))] [3, 5, 6, 11, 12, 13])
 (.seq (.ops [o 26 (.mv (.t 6)), o 27 (.bin .neq (.t 26) (ci 0))] [3, 5, 6, 11, 12, 13, 27])
 (.cond (.t 27)
 (.seq (.ops [o 28 (.mv (.t 6)), o 2 (.mv (.t 28))] [2])
 (.ret))
 (.skip))))
 (.ops [o 29 (.mv (.t 3)), o 30 (.fadr 0 (.t 5)), o 31 (.ld false 1 (.t 30)), u (.mupd 1 (.t 29) (.t 31) (cb true))] [3, 11, 12, 13]))))
 (.ops [o 32 (.bin .add (.t 13) (ci 1)), o 13 (.mv (.t 32))] [3, 11, 12, 13])))
def c161 : AFunc := ⟨33, [.tmp 2],
 .seq (.ops [o 2 (.mv (ci 0))] [0])
 (.seq (.seq (.ops [o 7 (.mv (.t 0)), o 8 (.len 1 (.t 7)), o 9 (.bin .gtr (.t 8) (ci 16))] [0, 9])
 (.cond (.t 9)
 (.seq (.ops [o 2 (.mv (ci 5))] [2])
 (.ret))
 (.skip)))
 (.seq (.ops [o 10 (.mkmap), o 3 (.mv (.t 10))] [0, 3])
 (.seq (.seq (.ops [o 11 (.mv (.t 0)), o 12 (.len 1 (.t 11)), o 13 (.mv (ci 0))] [3, 11, 12, 13])
 (.block 0 (.loop true [3, 11, 12, 13] c161L0)))
 (.seq (.ops [o 2 (.mv (ci 0))] [2])
 (.ret)))))⟩

/-- crumple/channel.mapped[crumple/channel.Sensor,string] -/
def c163L0 : ACode :=
 .seq (.ops [o 11 (.bin .lss (.t 10) (.t 9))] [1, 5, 8, 9, 10, 11])
 (.seq (.cond (.t 11)
 (.skip)
 (.exit 0))
 (.seq (.block 1 (.seq (.ops [o 12 (.iadr 4 (.t 8) (.t 10)), o 13 (.ld true 4 (.t 12)), o 7 (.alloc true 1 [.p (.str []), .p (.int .i64 0), .p (.int .i64 0), .p (.int .i64 0)]), u (.st 4 (.t 7) (.t 13))] [1, 5, 7, 8, 9, 10])
 (.ops [o 14 (.mv (.t 5)), o 15 (.mv (.t 1)), o 16 (.ld true 4 (.t 7)), o 17 (.call false true 0 (.val (.t 15)) [.t 16]), o 18 (.bslice false 1 [.p (.str [])] 1 [(0, .t 17)]), o 19 (.app 1 16 [.p (.str [])] (.t 14) (.t 18)), o 5 (.mv (.t 19))] [1, 5, 8, 9, 10])))
 (.ops [o 20 (.bin .add (.t 10) (ci 1)), o 10 (.mv (.t 20))] [1, 5, 8, 9, 10])))
def c163 : AFunc := ⟨22, [.tmp 4],
 .seq (.ops [o 4 (.mv (cn))] [0, 1])
 (.seq (.ops [o 5 (.nilown 1)] [0, 1, 5])
 (.seq (.seq (.ops [o 8 (.mv (.t 0)), o 9 (.len 1 (.t 8)), o 10 (.mv (ci 0))] [1, 5, 8, 9, 10])
 (.block 0 (.loop true [1, 5, 8, 9, 10] c163L0)))
 (.seq (.ops [o 21 (.mv (.t 5)), o 4 (.mv (.t 21))] [4])
 (.ret))))⟩

/-- (crumple/channel.Sensor).line -/
def c164 : AFunc := ⟨19, [.tmp 2],
 .seq (.ops [o 1 (.box true (.t 0)), o 2 (.mv (cs []))] [1])
 (.seq (.opsd [(0, 1), (1, 1), (3, 1), (4, 1), (5, 1), (6, 1), (7, 1), (8, 1), (9, 1), (10, 1), (11, 1), (12, 1), (2, 2), (13, 0), (14, 0), (15, 1), (16, 1)] [o 3 (.fadr 0 (.t 1)), o 4 (.ld false 1 (.t 3)), o 6 (.fadr 1 (.t 1)), o 7 (.ld false 1 (.t 6)), o 8 (.fadr 2 (.t 1)), o 9 (.fadr 0 (.t 8)), o 10 (.ld false 1 (.t 9)), o 11 (.fadr 2 (.t 1)), o 12 (.fadr 1 (.t 11)), o 13 (.ld false 1 (.t 12)), o 14 (.bslice false 1 [.p (.int .i64 0)] 3 [(0, .t 7), (1, .t 10), (2, .t 13)]), o 15 (.call true false 0 (.fn 193) [.t 14, cf 194]), o 5 (.bslice true 1 [.p (.str [])] 2 [(0, cs [115, 101, 110, 115, 111, 114]), (1, .t 4)]), o 16 (.app 1 16 [.p (.str [])] (.t 5) (.t 15)), o 17 (.call true true 0 (.fn 162) [.t 16, cs [32]]), o 18 (.bin .add (.t 17) (cs [10])), o 2 (.mv (.t 18))] [2])
 (.ret))⟩

/-- strings.Lines -/
def c165 : AFunc := ⟨4, [.tmp 2],
 .seq (.ops [o 1 (.box true (.t 0)), o 2 (.mv (.c (.p (.nilf))))] [1])
 (.seq (.ops [o 3 (.mkclo 195 [] [.t 1]), o 2 (.mv (.t 3))] [2])
 (.ret))⟩

/-- strings.CutSuffix -/
def c166 : AFunc := ⟨11, [.tmp 4, .tmp 5],
 .seq (.ops [o 4 (.mv (cs [])), o 5 (.mv (cb false))] [0, 1])
 (.seq (.ops [o 6 (.mv (.t 0)), o 7 (.mv (.t 1)), o 8 (.call true true 0 (.fn 197) [.t 6, .t 7]), o 9 (.ext (.t 8) 0), o 10 (.ext (.t 8) 1), o 4 (.mv (.t 9)), o 5 (.mv (.t 10))] [4, 5])
 (.ret))⟩

/-- strings.Split -/
def c167 : AFunc := ⟨8, [.tmp 4],
 .seq (.ops [o 4 (.mv (cn))] [0, 1])
 (.seq (.ops [o 5 (.mv (.t 0)), o 6 (.mv (.t 1)), o 7 (.call true false 0 (.fn 198) [.t 5, .t 6, ci 0, ci (-1)]), o 4 (.mv (.t 7))] [4])
 (.ret))⟩

/-- (*crumple/channel.taker).word -/
def c168 : AFunc := ⟨40, [.tmp 2],
 .seq (.ops [o 2 (.mv (cs []))] [0])
 (.seq (.seq (.ops [o 4 (.mv (.t 0)), o 5 (.nilck (.t 4)), o 6 (.fadr 0 (.t 5)), o 7 (.ld false 1 (.t 6)), o 8 (.len 1 (.t 7)), o 9 (.bin .eql (.t 8) (ci 0)), o 10 (.mv (.t 9)), ⟨some 11, .mv (.t 0), some (10, false)⟩, ⟨some 12, .nilck (.t 11), some (10, false)⟩, ⟨some 13, .fadr 0 (.t 12), some (10, false)⟩, ⟨some 14, .ld false 1 (.t 13), some (10, false)⟩, ⟨some 15, .iadr 1 (.t 14) (ci 0), some (10, false)⟩, ⟨some 16, .ld false 1 (.t 15), some (10, false)⟩, ⟨some 17, .bin .eql (.t 16) (cs []), some (10, false)⟩, o 18 (.pick (.t 10) (cb true) (.t 17))] [0, 18])
 (.cond (.t 18)
 (.seq (.ops [o 19 (.mv (.t 0)), o 20 (.mv (.t 0)), o 21 (.nilck (.t 19)), o 22 (.fadr 0 (.t 21)), u (.st 1 (.t 22) (cn)), o 23 (.nilck (.t 20)), o 24 (.fadr 1 (.t 23)), u (.st 1 (.t 24) (cb true))] [])
 (.seq (.ops [o 2 (.mv (cs []))] [2])
 (.ret)))
 (.skip)))
 (.seq (.ops [o 25 (.mv (.t 0)), o 26 (.nilck (.t 25)), o 27 (.fadr 0 (.t 26)), o 28 (.ld false 1 (.t 27)), o 29 (.iadr 1 (.t 28) (ci 0)), o 30 (.ld false 1 (.t 29)), o 3 (.mv (.t 30))] [0, 3])
 (.seq (.ops [o 31 (.mv (.t 0)), o 32 (.mv (.t 0)), o 33 (.nilck (.t 32)), o 34 (.fadr 0 (.t 33)), o 35 (.ld false 1 (.t 34)), o 36 (.slc 1 (.t 35) (some (ci 1)) none), o 37 (.nilck (.t 31)), o 38 (.fadr 0 (.t 37)), u (.st 1 (.t 38) (.t 36))] [3])
 (.seq (.ops [o 39 (.mv (.t 3)), o 2 (.mv (.t 39))] [2])
 (.ret)))))⟩

/-- (*crumple/channel.taker).number -/
def c169L0 : ACode :=
 .seq (.ops [o 33 (.nxt (.t 32) true), o 34 (.ext (.t 33) 0)] [0, 4, 32, 33, 34])
 (.seq (.cond (.t 34)
 (.skip)
 (.exit 0))
 (.block 1 (.seq (.ops [o 35 (.ext (.t 33) 2), o 6 (.mv (.t 35))] [0, 4, 6, 32])
 (.seq (.seq (.ops [o 36 (.mv (.t 0)), o 37 (.nilck (.t 36)), o 38 (.fadr 1 (.t 37)), o 39 (.ld false 1 (.t 38)), o 40 (.mv (.t 39)), ⟨some 41, .mv (.t 6), some (40, false)⟩, ⟨some 42, .bin .lss (.t 41) (.c (.p (.int .i32 48))), some (40, false)⟩, o 43 (.pick (.t 40) (cb true) (.t 42)), o 44 (.mv (.t 43)), ⟨some 45, .mv (.t 6), some (44, false)⟩, ⟨some 46, .bin .gtr (.t 45) (.c (.p (.int .i32 57))), some (44, false)⟩, o 47 (.pick (.t 44) (cb true) (.t 46))] [0, 4, 6, 32, 47])
 (.cond (.t 47)
 (.seq (.ops [o 48 (.mv (.t 0)), o 49 (.nilck (.t 48)), o 50 (.fadr 1 (.t 49)), u (.st 1 (.t 50) (cb true))] [4])
 (.exit 0))
 (.skip)))
 (.ops [o 51 (.mv (.t 4)), o 52 (.bin .mul (ci 10) (.t 51)), o 53 (.mv (.t 6)), o 54 (.bin .sub (.t 53) (.c (.p (.int .i32 48)))), o 55 (.conv (.int .i64) (.t 54)), o 56 (.bin .add (.t 52) (.t 55)), o 4 (.mv (.t 56))] [0, 4, 32])))))
def c169 : AFunc := ⟨58, [.tmp 2],
 .seq (.ops [o 2 (.mv (ci 0))] [0])
 (.seq (.ops [o 7 (.mv (.t 0)), o 8 (.call false true 0 (.fn 168) [.t 7]), o 3 (.mv (.t 8))] [0, 3])
 (.seq (.ops [o 9 (.mv (.t 0)), o 10 (.mv (.t 0)), o 11 (.nilck (.t 10)), o 12 (.fadr 1 (.t 11)), o 13 (.ld false 1 (.t 12)), o 14 (.mv (.t 13)), ⟨some 15, .mv (.t 3), some (14, false)⟩, ⟨some 16, .len 0 (.t 15), some (14, false)⟩, ⟨some 17, .bin .gtr (.t 16) (ci 9), some (14, false)⟩, o 18 (.pick (.t 14) (cb true) (.t 17)), o 19 (.mv (.t 18)), ⟨some 20, .mv (.t 3), some (19, false)⟩, ⟨some 21, .len 0 (.t 20), some (19, false)⟩, ⟨some 22, .bin .gtr (.t 21) (ci 1), some (19, false)⟩, ⟨some 23, .mv (.t 22), some (19, false)⟩, ⟨some 24, .mv (.t 3), some (23, true)⟩, ⟨some 25, .idxs (.t 24) (ci 0), some (23, true)⟩, ⟨some 26, .bin .eql (.t 25) (.c (.p (.int .u8 48))), some (23, true)⟩, ⟨some 27, .pick (.t 23) (.t 26) (cb false), some (19, false)⟩, o 28 (.pick (.t 19) (cb true) (.t 27)), o 29 (.nilck (.t 9)), o 30 (.fadr 1 (.t 29)), u (.st 1 (.t 30) (.t 28))] [0, 3])
 (.seq (.ops [o 4 (.mv (ci 0))] [0, 3, 4])
 (.seq (.seq (.ops [o 31 (.mv (.t 3)), o 32 (.rngs (.t 31))] [0, 4, 32])
 (.block 0 (.loop false [0, 4, 32] c169L0)))
 (.seq (.ops [o 57 (.mv (.t 4)), o 2 (.mv (.t 57))] [2])
 (.ret))))))⟩

/-- crumple/crumpleref01.Text -/
def c170L0 : ACode :=
 .seq (.seq (.ops [o 8 (.mv (.t 4)), o 9 (.bin .neq (.t 8) (ci 0))] [0, 3, 4, 9])
 (.cond (.t 9)
 (.skip)
 (.exit 0)))
 (.seq (.block 1 (.ops [o 12 (.mv (.t 4)), o 13 (.bin .rem (.t 12) (ci 10)), o 14 (.mv (.t 4)), o 15 (.bin .rem (.t 14) (ci 10)), o 16 (.bin .sub (ci 0) (.t 15)), o 17 (.max [.t 13, .t 16]), o 18 (.bin .add (ci 48) (.t 17)), o 19 (.conv (.int .u8) (.t 18)), o 20 (.bslice false 1 [.p (.int .u8 0)] 1 [(0, .t 19)]), o 21 (.conv .b2s (.t 20)), o 22 (.mv (.t 3)), o 23 (.bin .add (.t 21) (.t 22)), o 3 (.mv (.t 23))] [0, 3, 4]))
 (.ops [o 10 (.mv (.t 4)), o 11 (.bin .quo (.t 10) (ci 10)), o 4 (.mv (.t 11))] [0, 3, 4]))
def c170 : AFunc := ⟨29, [.tmp 2],
 .seq (.ops [o 2 (.mv (cs []))] [0])
 (.seq (.seq (.ops [o 5 (.mv (.t 0)), o 6 (.bin .eql (.t 5) (ci 0))] [0, 6])
 (.cond (.t 6)
 (.seq (.ops [o 2 (.mv (cs [48]))] [2])
 (.ret))
 (.skip)))
 (.seq (.ops [o 3 (.mv (cs []))] [0, 3])
 (.seq (.seq (.ops [o 7 (.mv (.t 0)), o 4 (.mv (.t 7))] [0, 3, 4])
 (.block 0 (.loop false [0, 3, 4] c170L0)))
 (.seq (.seq (.ops [o 24 (.mv (.t 0)), o 25 (.bin .lss (.t 24) (ci 0))] [3, 25])
 (.cond (.t 25)
 (.seq (.ops [o 26 (.mv (.t 3)), o 27 (.bin .add (cs [45]) (.t 26)), o 2 (.mv (.t 27))] [2])
 (.ret))
 (.skip)))
 (.seq (.ops [o 28 (.mv (.t 3)), o 2 (.mv (.t 28))] [2])
 (.ret))))))⟩

/-- crumple/crumpleref01.Digits -/
def c171L0 : ACode :=
 .seq (.seq (.ops [o 23 (.mv (.t 5)), o 24 (.mv (.t 0)), o 25 (.len 0 (.t 24)), o 26 (.bin .lss (.t 23) (.t 25))] [0, 4, 5, 26])
 (.cond (.t 26)
 (.skip)
 (.exit 0)))
 (.seq (.block 1 (.seq (.seq (.ops [o 29 (.mv (.t 0)), o 30 (.mv (.t 5)), o 31 (.idxs (.t 29) (.t 30)), o 32 (.bin .lss (.t 31) (.c (.p (.int .u8 48)))), o 33 (.mv (.t 32)), ⟨some 34, .mv (.t 0), some (33, false)⟩, ⟨some 35, .mv (.t 5), some (33, false)⟩, ⟨some 36, .idxs (.t 34) (.t 35), some (33, false)⟩, ⟨some 37, .bin .gtr (.t 36) (.c (.p (.int .u8 57))), some (33, false)⟩, o 38 (.pick (.t 33) (cb true) (.t 37))] [0, 4, 5, 38])
 (.cond (.t 38)
 (.seq (.ops [o 2 (.mv (ci 0)), o 3 (.mv (cb false))] [2, 3])
 (.ret))
 (.skip)))
 (.ops [o 39 (.mv (.t 4)), o 40 (.bin .mul (ci 10) (.t 39)), o 41 (.mv (.t 0)), o 42 (.mv (.t 5)), o 43 (.idxs (.t 41) (.t 42)), o 44 (.bin .sub (.t 43) (.c (.p (.int .u8 48)))), o 45 (.conv (.int .i64) (.t 44)), o 46 (.bin .add (.t 40) (.t 45)), o 4 (.mv (.t 46))] [0, 4, 5])))
 (.ops [o 27 (.mv (.t 5)), o 28 (.bin .add (.t 27) (ci 1)), o 5 (.mv (.t 28))] [0, 4, 5]))
def c171 : AFunc := ⟨48, [.tmp 2, .tmp 3],
 .seq (.ops [o 2 (.mv (ci 0)), o 3 (.mv (cb false))] [0])
 (.seq (.seq (.ops [o 6 (.mv (.t 0)), o 7 (.bin .eql (.t 6) (cs [])), o 8 (.mv (.t 7)), ⟨some 9, .mv (.t 0), some (8, false)⟩, ⟨some 10, .len 0 (.t 9), some (8, false)⟩, ⟨some 11, .bin .gtr (.t 10) (ci 9), some (8, false)⟩, o 12 (.pick (.t 8) (cb true) (.t 11)), o 13 (.mv (.t 12)), ⟨some 14, .mv (.t 0), some (13, false)⟩, ⟨some 15, .len 0 (.t 14), some (13, false)⟩, ⟨some 16, .bin .gtr (.t 15) (ci 1), some (13, false)⟩, ⟨some 17, .mv (.t 16), some (13, false)⟩, ⟨some 18, .mv (.t 0), some (17, true)⟩, ⟨some 19, .idxs (.t 18) (ci 0), some (17, true)⟩, ⟨some 20, .bin .eql (.t 19) (.c (.p (.int .u8 48))), some (17, true)⟩, ⟨some 21, .pick (.t 17) (.t 20) (cb false), some (13, false)⟩, o 22 (.pick (.t 13) (cb true) (.t 21))] [0, 22])
 (.cond (.t 22)
 (.seq (.ops [o 2 (.mv (ci 0)), o 3 (.mv (cb false))] [2, 3])
 (.ret))
 (.skip)))
 (.seq (.ops [o 4 (.mv (ci 0))] [0, 4])
 (.seq (.seq (.ops [o 5 (.mv (ci 0))] [0, 4, 5])
 (.block 0 (.loop false [0, 4, 5] c171L0)))
 (.seq (.ops [o 47 (.mv (.t 4)), o 2 (.mv (.t 47)), o 3 (.mv (cb true))] [2, 3])
 (.ret)))))⟩

/-- crumple/crumpleref01.IsName -/
def c172L0 : ACode :=
 .seq (.seq (.ops [o 14 (.mv (.t 3)), o 15 (.mv (.t 0)), o 16 (.len 0 (.t 15)), o 17 (.bin .lss (.t 14) (.t 16))] [0, 3, 17])
 (.cond (.t 17)
 (.skip)
 (.exit 0)))
 (.seq (.block 1 (.seq (.ops [o 20 (.mv (.t 0)), o 21 (.mv (.t 3)), o 22 (.idxs (.t 20) (.t 21)), o 23 (.bin .geq (.t 22) (.c (.p (.int .u8 65)))), o 24 (.mv (.t 23)), ⟨some 25, .mv (.t 0), some (24, true)⟩, ⟨some 26, .mv (.t 3), some (24, true)⟩, ⟨some 27, .idxs (.t 25) (.t 26), some (24, true)⟩, ⟨some 28, .bin .leq (.t 27) (.c (.p (.int .u8 90))), some (24, true)⟩, o 29 (.pick (.t 24) (.t 28) (cb false)), o 30 (.mv (.t 29)), ⟨some 31, .mv (.t 0), some (30, false)⟩, ⟨some 32, .mv (.t 3), some (30, false)⟩, ⟨some 33, .idxs (.t 31) (.t 32), some (30, false)⟩, ⟨some 34, .bin .geq (.t 33) (.c (.p (.int .u8 97))), some (30, false)⟩, ⟨some 35, .mv (.t 34), some (30, false)⟩, ⟨some 36, .mv (.t 0), some (35, true)⟩, ⟨some 37, .mv (.t 3), some (35, true)⟩, ⟨some 38, .idxs (.t 36) (.t 37), some (35, true)⟩, ⟨some 39, .bin .leq (.t 38) (.c (.p (.int .u8 122))), some (35, true)⟩, ⟨some 40, .pick (.t 35) (.t 39) (cb false), some (30, false)⟩, o 41 (.pick (.t 30) (cb true) (.t 40)), o 4 (.mv (.t 41))] [0, 3, 4])
 (.seq (.ops [o 42 (.mv (.t 0)), o 43 (.mv (.t 3)), o 44 (.idxs (.t 42) (.t 43)), o 45 (.bin .geq (.t 44) (.c (.p (.int .u8 48)))), o 46 (.mv (.t 45)), ⟨some 47, .mv (.t 0), some (46, true)⟩, ⟨some 48, .mv (.t 3), some (46, true)⟩, ⟨some 49, .idxs (.t 47) (.t 48), some (46, true)⟩, ⟨some 50, .bin .leq (.t 49) (.c (.p (.int .u8 57))), some (46, true)⟩, o 51 (.pick (.t 46) (.t 50) (cb false)), o 52 (.mv (.t 51)), ⟨some 53, .mv (.t 0), some (52, false)⟩, ⟨some 54, .mv (.t 3), some (52, false)⟩, ⟨some 55, .idxs (.t 53) (.t 54), some (52, false)⟩, ⟨some 56, .bin .eql (.t 55) (.c (.p (.int .u8 95))), some (52, false)⟩, o 57 (.pick (.t 52) (cb true) (.t 56)), o 5 (.mv (.t 57))] [0, 3, 4, 5])
 (.seq (.ops [o 58 (.mv (.t 4)), o 59 (.not (.t 58)), o 60 (.mv (.t 59)), ⟨some 61, .mv (.t 3), some (60, true)⟩, ⟨some 62, .bin .eql (.t 61) (ci 0), some (60, true)⟩, ⟨some 63, .mv (.t 62), some (60, true)⟩, ⟨some 64, .mv (.t 5), some (63, false)⟩, ⟨some 65, .not (.t 64), some (63, false)⟩, ⟨some 66, .pick (.t 63) (cb true) (.t 65), some (60, true)⟩, o 67 (.pick (.t 60) (.t 66) (cb false))] [0, 3, 67])
 (.cond (.t 67)
 (.seq (.ops [o 2 (.mv (cb false))] [2])
 (.ret))
 (.skip))))))
 (.ops [o 18 (.mv (.t 3)), o 19 (.bin .add (.t 18) (ci 1)), o 3 (.mv (.t 19))] [0, 3]))
def c172 : AFunc := ⟨68, [.tmp 2],
 .seq (.ops [o 2 (.mv (cb false))] [0])
 (.seq (.seq (.ops [o 6 (.mv (.t 0)), o 7 (.len 0 (.t 6)), o 8 (.bin .eql (.t 7) (ci 0)), o 9 (.mv (.t 8)), ⟨some 10, .mv (.t 0), some (9, false)⟩, ⟨some 11, .len 0 (.t 10), some (9, false)⟩, ⟨some 12, .bin .gtr (.t 11) (ci 24), some (9, false)⟩, o 13 (.pick (.t 9) (cb true) (.t 12))] [0, 13])
 (.cond (.t 13)
 (.seq (.ops [o 2 (.mv (cb false))] [2])
 (.ret))
 (.skip)))
 (.seq (.seq (.ops [o 3 (.mv (ci 0))] [0, 3])
 (.block 0 (.loop false [0, 3] c172L0)))
 (.seq (.ops [o 2 (.mv (cb true))] [2])
 (.ret))))⟩

/-- slices.Min[[]int,int] -/
def c173L0 : ACode :=
 .seq (.seq (.ops [o 12 (.mv (.t 4)), o 13 (.mv (.t 0)), o 14 (.len 1 (.t 13)), o 15 (.bin .lss (.t 12) (.t 14))] [0, 3, 4, 15])
 (.cond (.t 15)
 (.skip)
 (.exit 0)))
 (.seq (.block 1 (.ops [o 18 (.mv (.t 3)), o 19 (.mv (.t 0)), o 20 (.mv (.t 4)), o 21 (.iadr 1 (.t 19) (.t 20)), o 22 (.ld false 1 (.t 21)), o 23 (.min [.t 18, .t 22]), o 3 (.mv (.t 23))] [0, 3, 4]))
 (.ops [o 16 (.mv (.t 4)), o 17 (.bin .add (.t 16) (ci 1)), o 4 (.mv (.t 17))] [0, 3, 4]))
def c173 : AFunc := ⟨25, [.tmp 2],
 .seq (.ops [o 2 (.mv (ci 0))] [0])
 (.seq (.seq (.ops [o 5 (.mv (.t 0)), o 6 (.len 1 (.t 5)), o 7 (.bin .lss (.t 6) (ci 1))] [0, 7])
 (.cond (.t 7)
 (.ops [o 8 (.fail), u (.fail)] [0])
 (.skip)))
 (.seq (.ops [o 9 (.mv (.t 0)), o 10 (.iadr 1 (.t 9) (ci 0)), o 11 (.ld false 1 (.t 10)), o 3 (.mv (.t 11))] [0, 3])
 (.seq (.seq (.ops [o 4 (.mv (ci 1))] [0, 3, 4])
 (.block 0 (.loop false [0, 3, 4] c173L0)))
 (.seq (.ops [o 24 (.mv (.t 3)), o 2 (.mv (.t 24))] [2])
 (.ret)))))⟩

/-- slices.Max[[]int,int] -/
def c174L0 : ACode :=
 .seq (.seq (.ops [o 12 (.mv (.t 4)), o 13 (.mv (.t 0)), o 14 (.len 1 (.t 13)), o 15 (.bin .lss (.t 12) (.t 14))] [0, 3, 4, 15])
 (.cond (.t 15)
 (.skip)
 (.exit 0)))
 (.seq (.block 1 (.ops [o 18 (.mv (.t 3)), o 19 (.mv (.t 0)), o 20 (.mv (.t 4)), o 21 (.iadr 1 (.t 19) (.t 20)), o 22 (.ld false 1 (.t 21)), o 23 (.max [.t 18, .t 22]), o 3 (.mv (.t 23))] [0, 3, 4]))
 (.ops [o 16 (.mv (.t 4)), o 17 (.bin .add (.t 16) (ci 1)), o 4 (.mv (.t 17))] [0, 3, 4]))
def c174 : AFunc := ⟨25, [.tmp 2],
 .seq (.ops [o 2 (.mv (ci 0))] [0])
 (.seq (.seq (.ops [o 5 (.mv (.t 0)), o 6 (.len 1 (.t 5)), o 7 (.bin .lss (.t 6) (ci 1))] [0, 7])
 (.cond (.t 7)
 (.ops [o 8 (.fail), u (.fail)] [0])
 (.skip)))
 (.seq (.ops [o 9 (.mv (.t 0)), o 10 (.iadr 1 (.t 9) (ci 0)), o 11 (.ld false 1 (.t 10)), o 3 (.mv (.t 11))] [0, 3])
 (.seq (.seq (.ops [o 4 (.mv (ci 1))] [0, 3, 4])
 (.block 0 (.loop false [0, 3, 4] c174L0)))
 (.seq (.ops [o 24 (.mv (.t 3)), o 2 (.mv (.t 24))] [2])
 (.ret)))))⟩

/-- crumple/channel.mapped[float32,int] -/
def c175L0 : ACode :=
 .seq (.ops [o 11 (.bin .lss (.t 10) (.t 9))] [1, 5, 8, 9, 10, 11])
 (.seq (.cond (.t 11)
 (.skip)
 (.exit 0))
 (.seq (.block 1 (.seq (.ops [o 12 (.iadr 1 (.t 8) (.t 10)), o 13 (.ld false 1 (.t 12)), o 7 (.mv (.t 13))] [1, 5, 7, 8, 9, 10])
 (.ops [o 14 (.mv (.t 5)), o 15 (.mv (.t 1)), o 16 (.mv (.t 7)), o 17 (.call false true 0 (.val (.t 15)) [.t 16]), o 18 (.bslice false 1 [.p (.int .i64 0)] 1 [(0, .t 17)]), o 19 (.app 1 8 [.p (.int .i64 0)] (.t 14) (.t 18)), o 5 (.mv (.t 19))] [1, 5, 8, 9, 10])))
 (.ops [o 20 (.bin .add (.t 10) (ci 1)), o 10 (.mv (.t 20))] [1, 5, 8, 9, 10])))
def c175 : AFunc := ⟨22, [.tmp 4],
 .seq (.ops [o 4 (.mv (cn))] [0, 1])
 (.seq (.ops [o 5 (.nilown 1)] [0, 1, 5])
 (.seq (.seq (.ops [o 8 (.mv (.t 0)), o 9 (.len 1 (.t 8)), o 10 (.mv (ci 0))] [1, 5, 8, 9, 10])
 (.block 0 (.loop true [1, 5, 8, 9, 10] c175L0)))
 (.seq (.ops [o 21 (.mv (.t 5)), o 4 (.mv (.t 21))] [4])
 (.ret))))⟩

/-- crumple/record.checkAll -/
def c176 : AFunc := ⟨6, [.tmp 2],
 .seq (.ops [o 2 (.mv (ci 0))] [0])
 (.seq (.ops [o 3 (.mv (.t 0)), o 4 (.call true false 0 (.fn 200) [.t 3, cf 201]), o 5 (.call true true 0 (.fn 199) [.t 4]), o 2 (.mv (.t 5))] [2])
 (.ret))⟩

/-- crumple/channel.run$1 -/
def c177 : AFunc := ⟨10, [.tmp 2],
 .seq (.ops [o 2 (.mv (ci 0))] [0])
 (.seq (.ops [o 3 (.mv (.t 0)), o 4 (.bin .lss (.t 3) (ci (-16384))), o 5 (.mv (.t 4)), ⟨some 6, .mv (.t 0), some (5, false)⟩, ⟨some 7, .bin .gtr (.t 6) (ci 16384), some (5, false)⟩, o 8 (.pick (.t 5) (cb true) (.t 7)), o 9 (.call true true 0 (.fn 104) [.t 8, ci 4]), o 2 (.mv (.t 9))] [2])
 (.ret))⟩

/-- crumple/channel.mapped[int,float32] -/
def c178L0 : ACode :=
 .seq (.ops [o 11 (.bin .lss (.t 10) (.t 9))] [1, 5, 8, 9, 10, 11])
 (.seq (.cond (.t 11)
 (.skip)
 (.exit 0))
 (.seq (.block 1 (.seq (.ops [o 12 (.iadr 1 (.t 8) (.t 10)), o 13 (.ld false 1 (.t 12)), o 7 (.mv (.t 13))] [1, 5, 7, 8, 9, 10])
 (.ops [o 14 (.mv (.t 5)), o 15 (.mv (.t 1)), o 16 (.mv (.t 7)), o 17 (.call false true 0 (.val (.t 15)) [.t 16]), o 18 (.bslice false 1 [.p (.flt .f32 0)] 1 [(0, .t 17)]), o 19 (.app 1 4 [.p (.flt .f32 0)] (.t 14) (.t 18)), o 5 (.mv (.t 19))] [1, 5, 8, 9, 10])))
 (.ops [o 20 (.bin .add (.t 10) (ci 1)), o 10 (.mv (.t 20))] [1, 5, 8, 9, 10])))
def c178 : AFunc := ⟨22, [.tmp 4],
 .seq (.ops [o 4 (.mv (cn))] [0, 1])
 (.seq (.ops [o 5 (.nilown 1)] [0, 1, 5])
 (.seq (.seq (.ops [o 8 (.mv (.t 0)), o 9 (.len 1 (.t 8)), o 10 (.mv (ci 0))] [1, 5, 8, 9, 10])
 (.block 0 (.loop true [1, 5, 8, 9, 10] c178L0)))
 (.seq (.ops [o 21 (.mv (.t 5)), o 4 (.mv (.t 21))] [4])
 (.ret))))⟩

/-- crumple/channel.padded$1 -/
def c181L0 : ACode :=
 .seq (.ops [o 9 (.nxt (.t 8) false), o 10 (.ext (.t 9) 0)] [0, 2, 3, 8, 10])
 (.seq (.cond (.t 10)
 (.skip)
 (.exit 0))
 (.block 1 (.seq (.ops [o 11 (.entry (.t 8)), o 12 (.ext (.t 11) 0), o 13 (.ext (.t 11) 1), o 5 (.mv (.t 12)), o 6 (.mv (.t 13))] [0, 2, 3, 5, 6, 8])
 (.seq (.ops [o 14 (.mv (.t 0)), o 15 (.ld false 1 (.t 2)), o 16 (.bin .sub (.t 15) (ci 1)), o 17 (.ld false 1 (.t 3)), o 18 (.mv (.t 5)), o 19 (.bin .add (.t 17) (.t 18)), o 20 (.min [.t 16, .t 19]), o 21 (.max [ci 0, .t 20]), o 22 (.mv (.t 6)), o 23 (.call false true 0 (.val (.t 14)) [.t 21, .t 22]), o 24 (.not (.t 23))] [0, 2, 3, 8, 24])
 (.cond (.t 24)
 (.ret)
 (.skip))))))
def c181 : AFunc := ⟨25, [],
 .seq (.ops [o 7 (.ld false 1 (.t 1)), o 8 (.rngm (.t 7))] [0, 2, 3, 8])
 (.block 0 (.loop true [0, 2, 3, 8] c181L0))⟩

/-- crumple/channel.checkValues$1 -/
def c182 : AFunc := ⟨6, [.tmp 2],
 .seq (.ops [o 1 (.box true (.t 0)), o 2 (.mv (ci 0))] [1])
 (.seq (.ops [o 3 (.ld true 4 (.t 1)), o 4 (.call true true 0 (.fn 183) [.t 3]), o 5 (.call true true 0 (.fn 121) [.t 4, ci (-200000), ci 200000]), o 2 (.mv (.t 5))] [2])
 (.ret))⟩

/-- (crumple/channel.Value).bounds -/
def c183 : AFunc := ⟨8, [.cell 2 true 2],
 .seq (.ops [o 1 (.box true (.t 0)), o 2 (.alloc true 1 [.p (.int .i64 0), .p (.int .i64 0)])] [1, 2])
 (.seq (.ops [o 3 (.fadr 0 (.t 1)), o 4 (.ld false 1 (.t 3)), o 5 (.fadr 1 (.t 1)), o 6 (.ld false 1 (.t 5)), o 7 (.build [.p (.int .i64 0), .p (.int .i64 0)] [(0, 1, .t 4), (1, 1, .t 6)]), u (.st 2 (.t 2) (.t 7))] [2])
 (.ret))⟩

/-- crumple/channel.mapped[crumple/channel.Value,crumple/api.Errno] -/
def c184L0 : ACode :=
 .seq (.ops [o 11 (.bin .lss (.t 10) (.t 9))] [1, 5, 8, 9, 10, 11])
 (.seq (.cond (.t 11)
 (.skip)
 (.exit 0))
 (.seq (.block 1 (.seq (.ops [o 12 (.iadr 4 (.t 8) (.t 10)), o 13 (.ld true 4 (.t 12)), o 7 (.alloc true 1 [.p (.int .i64 0), .p (.int .i64 0), .p (.bool false), .p (.bool false)]), u (.st 4 (.t 7) (.t 13))] [1, 5, 7, 8, 9, 10])
 (.ops [o 14 (.mv (.t 5)), o 15 (.mv (.t 1)), o 16 (.ld true 4 (.t 7)), o 17 (.call false true 0 (.val (.t 15)) [.t 16]), o 18 (.bslice false 1 [.p (.int .i64 0)] 1 [(0, .t 17)]), o 19 (.app 1 8 [.p (.int .i64 0)] (.t 14) (.t 18)), o 5 (.mv (.t 19))] [1, 5, 8, 9, 10])))
 (.ops [o 20 (.bin .add (.t 10) (ci 1)), o 10 (.mv (.t 20))] [1, 5, 8, 9, 10])))
def c184 : AFunc := ⟨22, [.tmp 4],
 .seq (.ops [o 4 (.mv (cn))] [0, 1])
 (.seq (.ops [o 5 (.nilown 1)] [0, 1, 5])
 (.seq (.seq (.ops [o 8 (.mv (.t 0)), o 9 (.len 1 (.t 8)), o 10 (.mv (ci 0))] [1, 5, 8, 9, 10])
 (.block 0 (.loop true [1, 5, 8, 9, 10] c184L0)))
 (.seq (.ops [o 21 (.mv (.t 5)), o 4 (.mv (.t 21))] [4])
 (.ret))))⟩

/-- slices.IndexFunc[[]crumple/channel.Value,crumple/channel.Value] -/
def c185L0 : ACode :=
 .seq (.ops [o 9 (.bin .lss (.t 8) (.t 7))] [0, 1, 7, 8, 9])
 (.seq (.cond (.t 9)
 (.skip)
 (.exit 0))
 (.seq (.block 1 (.seq (.ops [o 10 (.mv (.t 8)), o 5 (.mv (.t 10))] [0, 1, 5, 7, 8])
 (.seq (.ops [o 11 (.mv (.t 1)), o 12 (.mv (.t 0)), o 13 (.mv (.t 5)), o 14 (.iadr 4 (.t 12) (.t 13)), o 15 (.ld true 4 (.t 14)), o 16 (.call false true 0 (.val (.t 11)) [.t 15])] [0, 1, 5, 7, 8, 16])
 (.cond (.t 16)
 (.seq (.ops [o 17 (.mv (.t 5)), o 4 (.mv (.t 17))] [4])
 (.ret))
 (.skip)))))
 (.ops [o 18 (.bin .add (.t 8) (ci 1)), o 8 (.mv (.t 18))] [0, 1, 7, 8])))
def c185 : AFunc := ⟨19, [.tmp 4],
 .seq (.ops [o 4 (.mv (ci 0))] [0, 1])
 (.seq (.seq (.ops [o 6 (.mv (.t 0)), o 7 (.len 1 (.t 6)), o 8 (.mv (ci 0))] [0, 1, 7, 8])
 (.block 0 (.loop true [0, 1, 7, 8] c185L0)))
 (.seq (.ops [o 4 (.mv (ci (-1)))] [4])
 (.ret)))⟩

/-- cmp.isNaN[int] -/
def c186 : AFunc := ⟨6, [.tmp 2],
 .seq (.ops [o 2 (.mv (cb false))] [0])
 (.seq (.ops [o 3 (.mv (.t 0)), o 4 (.mv (.t 0)), o 5 (.bin .neq (.t 3) (.t 4)), o 2 (.mv (.t 5))] [2])
 (.ret))⟩

/-- slices.Index[[]bool,bool] -/
def c187L0 : ACode :=
 .seq (.ops [o 9 (.bin .lss (.t 8) (.t 7))] [0, 1, 7, 8, 9])
 (.seq (.cond (.t 9)
 (.skip)
 (.exit 0))
 (.seq (.block 1 (.seq (.ops [o 10 (.mv (.t 8)), o 5 (.mv (.t 10))] [0, 1, 5, 7, 8])
 (.seq (.ops [o 11 (.mv (.t 1)), o 12 (.mv (.t 0)), o 13 (.mv (.t 5)), o 14 (.iadr 1 (.t 12) (.t 13)), o 15 (.ld false 1 (.t 14)), o 16 (.eqb false (.t 11) (.t 15))] [0, 1, 5, 7, 8, 16])
 (.cond (.t 16)
 (.seq (.ops [o 17 (.mv (.t 5)), o 4 (.mv (.t 17))] [4])
 (.ret))
 (.skip)))))
 (.ops [o 18 (.bin .add (.t 8) (ci 1)), o 8 (.mv (.t 18))] [0, 1, 7, 8])))
def c187 : AFunc := ⟨19, [.tmp 4],
 .seq (.ops [o 4 (.mv (ci 0))] [0, 1])
 (.seq (.seq (.ops [o 6 (.mv (.t 0)), o 7 (.len 1 (.t 6)), o 8 (.mv (ci 0))] [0, 1, 7, 8])
 (.block 0 (.loop false [0, 1, 7, 8] c187L0)))
 (.seq (.ops [o 4 (.mv (ci (-1)))] [4])
 (.ret)))⟩

/-- crumple/channel.mapped[int,int] -/
def c188L0 : ACode :=
 .seq (.ops [o 11 (.bin .lss (.t 10) (.t 9))] [1, 5, 8, 9, 10, 11])
 (.seq (.cond (.t 11)
 (.skip)
 (.exit 0))
 (.seq (.block 1 (.seq (.ops [o 12 (.iadr 1 (.t 8) (.t 10)), o 13 (.ld false 1 (.t 12)), o 7 (.mv (.t 13))] [1, 5, 7, 8, 9, 10])
 (.ops [o 14 (.mv (.t 5)), o 15 (.mv (.t 1)), o 16 (.mv (.t 7)), o 17 (.call false true 0 (.val (.t 15)) [.t 16]), o 18 (.bslice false 1 [.p (.int .i64 0)] 1 [(0, .t 17)]), o 19 (.app 1 8 [.p (.int .i64 0)] (.t 14) (.t 18)), o 5 (.mv (.t 19))] [1, 5, 8, 9, 10])))
 (.ops [o 20 (.bin .add (.t 10) (ci 1)), o 10 (.mv (.t 20))] [1, 5, 8, 9, 10])))
def c188 : AFunc := ⟨22, [.tmp 4],
 .seq (.ops [o 4 (.mv (cn))] [0, 1])
 (.seq (.ops [o 5 (.nilown 1)] [0, 1, 5])
 (.seq (.seq (.ops [o 8 (.mv (.t 0)), o 9 (.len 1 (.t 8)), o 10 (.mv (ci 0))] [1, 5, 8, 9, 10])
 (.block 0 (.loop true [1, 5, 8, 9, 10] c188L0)))
 (.seq (.ops [o 21 (.mv (.t 5)), o 4 (.mv (.t 21))] [4])
 (.ret))))⟩

/-- crumple/channel.sums$1 -/
def c189 : AFunc := ⟨8, [.tmp 3],
 .seq (.ops [o 3 (.mv (ci 0))] [0, 1])
 (.seq (.ops [o 4 (.ld false 1 (.t 1)), o 5 (.mv (.t 0)), o 6 (.bin .add (.t 4) (.t 5)), u (.st 1 (.t 1) (.t 6))] [1])
 (.seq (.ops [o 7 (.ld false 1 (.t 1)), o 3 (.mv (.t 7))] [3])
 (.ret)))⟩

/-- crumple/channel.mapped[int,string] -/
def c193L0 : ACode :=
 .seq (.ops [o 11 (.bin .lss (.t 10) (.t 9))] [1, 5, 8, 9, 10, 11])
 (.seq (.cond (.t 11)
 (.skip)
 (.exit 0))
 (.seq (.block 1 (.seq (.ops [o 12 (.iadr 1 (.t 8) (.t 10)), o 13 (.ld false 1 (.t 12)), o 7 (.mv (.t 13))] [1, 5, 7, 8, 9, 10])
 (.ops [o 14 (.mv (.t 5)), o 15 (.mv (.t 1)), o 16 (.mv (.t 7)), o 17 (.call false true 0 (.val (.t 15)) [.t 16]), o 18 (.bslice false 1 [.p (.str [])] 1 [(0, .t 17)]), o 19 (.app 1 16 [.p (.str [])] (.t 14) (.t 18)), o 5 (.mv (.t 19))] [1, 5, 8, 9, 10])))
 (.ops [o 20 (.bin .add (.t 10) (ci 1)), o 10 (.mv (.t 20))] [1, 5, 8, 9, 10])))
def c193 : AFunc := ⟨22, [.tmp 4],
 .seq (.ops [o 4 (.mv (cn))] [0, 1])
 (.seq (.ops [o 5 (.nilown 1)] [0, 1, 5])
 (.seq (.seq (.ops [o 8 (.mv (.t 0)), o 9 (.len 1 (.t 8)), o 10 (.mv (ci 0))] [1, 5, 8, 9, 10])
 (.block 0 (.loop true [1, 5, 8, 9, 10] c193L0)))
 (.seq (.ops [o 21 (.mv (.t 5)), o 4 (.mv (.t 21))] [4])
 (.ret))))⟩

/-- strings.Lines$1 -/
def c195L0 : ACode :=
 .seq (.seq (.ops [o 5 (.ld false 1 (.t 1)), o 6 (.len 0 (.t 5)), o 7 (.bin .gtr (.t 6) (ci 0))] [0, 1, 7])
 (.cond (.t 7)
 (.skip)
 (.exit 0)))
 (.block 1 (.seq (.ops [o 3 (.mv (cs []))] [0, 1])
 (.seq (.seq (.ops [o 8 (.ld false 1 (.t 1)), o 9 (.call true true 0 (.fn 196) [.t 8, .c (.p (.int .u8 10))]), o 4 (.mv (.t 9))] [0, 1, 4])
 (.seq (.ops [o 10 (.mv (.t 4)), o 11 (.bin .geq (.t 10) (ci 0))] [0, 1, 4, 11])
 (.cond (.t 11)
 (.opsd [(0, 1), (1, 1), (2, 1), (3, 1), (4, 1), (5, 1), (6, 1), (7, 1), (8, 1), (9, 0)] [o 12 (.ld false 1 (.t 1)), o 13 (.mv (.t 4)), o 14 (.bin .add (.t 13) (ci 1)), o 15 (.slcs (.t 12) none (some (.t 14))), o 16 (.ld false 1 (.t 1)), o 17 (.mv (.t 4)), o 18 (.bin .add (.t 17) (ci 1)), o 19 (.slcs (.t 16) (some (.t 18)) none), o 3 (.mv (.t 15)), u (.st 1 (.t 1) (.t 19))] [0, 1, 3])
 (.ops [o 20 (.ld false 1 (.t 1)), o 3 (.mv (.t 20)), u (.st 1 (.t 1) (cs []))] [0, 1, 3]))))
 (.seq (.ops [o 21 (.mv (.t 0)), o 22 (.mv (.t 3)), o 23 (.call false true 0 (.val (.t 21)) [.t 22]), o 24 (.not (.t 23))] [0, 1, 24])
 (.cond (.t 24)
 (.ret)
 (.skip))))))
def c195 : AFunc := ⟨25, [],
 .block 0 (.loop true [0, 1] c195L0)⟩

/-- strings.IndexByte -/
def c196 : AFunc := ⟨8, [.tmp 4],
 .seq (.ops [o 4 (.mv (ci 0))] [0, 1])
 (.seq (.ops [o 5 (.mv (.t 0)), o 6 (.mv (.t 1)), o 7 (.call true true 0 (.fn 206) [.t 5, .t 6]), o 4 (.mv (.t 7))] [4])
 (.ret))⟩

/-- internal/stringslite.CutSuffix -/
def c197 : AFunc := ⟨18, [.tmp 4, .tmp 5],
 .seq (.ops [o 4 (.mv (cs [])), o 5 (.mv (cb false))] [0, 1])
 (.seq (.seq (.ops [o 6 (.mv (.t 0)), o 7 (.mv (.t 1)), o 8 (.call true true 0 (.fn 207) [.t 6, .t 7]), o 9 (.not (.t 8))] [0, 1, 9])
 (.cond (.t 9)
 (.seq (.ops [o 10 (.mv (.t 0)), o 4 (.mv (.t 10)), o 5 (.mv (cb false))] [4, 5])
 (.ret))
 (.skip)))
 (.seq (.ops [o 11 (.mv (.t 0)), o 12 (.mv (.t 0)), o 13 (.len 0 (.t 12)), o 14 (.mv (.t 1)), o 15 (.len 0 (.t 14)), o 16 (.bin .sub (.t 13) (.t 15)), o 17 (.slcs (.t 11) none (some (.t 16))), o 4 (.mv (.t 17)), o 5 (.mv (cb true))] [4, 5])
 (.ret)))⟩

/-- strings.genSplit -/
def c198L0 : ACode :=
 .seq (.seq (.ops [o 34 (.mv (.t 10)), o 35 (.mv (.t 3)), o 36 (.bin .lss (.t 34) (.t 35))] [0, 1, 2, 3, 9, 10, 36])
 (.cond (.t 36)
 (.skip)
 (.exit 0)))
 (.block 1 (.seq (.ops [o 37 (.mv (.t 0)), o 38 (.mv (.t 1)), o 39 (.call true true 0 (.fn 210) [.t 37, .t 38]), o 11 (.mv (.t 39))] [0, 1, 2, 3, 9, 10, 11])
 (.seq (.seq (.ops [o 40 (.mv (.t 11)), o 41 (.bin .lss (.t 40) (ci 0))] [0, 1, 2, 3, 9, 10, 11, 41])
 (.cond (.t 41)
 (.exit 0)
 (.skip)))
 (.seq (.ops [o 42 (.mv (.t 9)), o 43 (.mv (.t 10)), o 44 (.mv (.t 0)), o 45 (.mv (.t 11)), o 46 (.mv (.t 2)), o 47 (.bin .add (.t 45) (.t 46)), o 48 (.slcs (.t 44) none (some (.t 47))), o 49 (.iadr 1 (.t 42) (.t 43)), u (.st 1 (.t 49) (.t 48))] [0, 1, 2, 3, 9, 10, 11])
 (.seq (.ops [o 50 (.mv (.t 0)), o 51 (.mv (.t 11)), o 52 (.mv (.t 1)), o 53 (.len 0 (.t 52)), o 54 (.bin .add (.t 51) (.t 53)), o 55 (.slcs (.t 50) (some (.t 54)) none), o 0 (.mv (.t 55))] [0, 1, 2, 3, 9, 10])
 (.ops [o 56 (.mv (.t 10)), o 57 (.bin .add (.t 56) (ci 1)), o 10 (.mv (.t 57))] [0, 1, 2, 3, 9, 10]))))))
def c198 : AFunc := ⟨66, [.tmp 8],
 .seq (.ops [o 8 (.mv (cn))] [0, 1, 2, 3])
 (.seq (.seq (.ops [o 12 (.mv (.t 3)), o 13 (.bin .eql (.t 12) (ci 0))] [0, 1, 2, 3, 13])
 (.cond (.t 13)
 (.seq (.ops [o 8 (.mv (cn))] [8])
 (.ret))
 (.skip)))
 (.seq (.seq (.ops [o 14 (.mv (.t 1)), o 15 (.bin .eql (.t 14) (cs []))] [0, 1, 2, 3, 15])
 (.cond (.t 15)
 (.seq (.ops [o 16 (.mv (.t 0)), o 17 (.mv (.t 3)), o 18 (.call true false 0 (.fn 208) [.t 16, .t 17]), o 8 (.mv (.t 18))] [8])
 (.ret))
 (.skip)))
 (.seq (.seq (.ops [o 19 (.mv (.t 3)), o 20 (.bin .lss (.t 19) (ci 0))] [0, 1, 2, 3, 20])
 (.cond (.t 20)
 (.ops [o 21 (.mv (.t 0)), o 22 (.mv (.t 1)), o 23 (.call true true 0 (.fn 209) [.t 21, .t 22]), o 24 (.bin .add (.t 23) (ci 1)), o 3 (.mv (.t 24))] [0, 1, 2, 3])
 (.skip)))
 (.seq (.ops [o 25 (.mv (.t 3)), o 26 (.mv (.t 0)), o 27 (.len 0 (.t 26)), o 28 (.bin .add (.t 27) (ci 1)), o 29 (.min [.t 25, .t 28]), o 3 (.mv (.t 29))] [0, 1, 2, 3])
 (.seq (.ops [o 30 (.mv (.t 3)), o 31 (.mkslice 1 [.p (.str [])] (.t 30) (.t 30)), o 9 (.mv (.t 31))] [0, 1, 2, 3, 9])
 (.seq (.ops [o 32 (.mv (.t 3)), o 33 (.bin .sub (.t 32) (ci 1)), o 3 (.mv (.t 33))] [0, 1, 2, 3, 9])
 (.seq (.ops [o 10 (.mv (ci 0))] [0, 1, 2, 3, 9, 10])
 (.seq (.block 0 (.loop false [0, 1, 2, 3, 9, 10] c198L0))
 (.seq (.ops [o 58 (.mv (.t 9)), o 59 (.mv (.t 10)), o 60 (.mv (.t 0)), o 61 (.iadr 1 (.t 58) (.t 59)), u (.st 1 (.t 61) (.t 60))] [9, 10])
 (.seq (.ops [o 62 (.mv (.t 9)), o 63 (.mv (.t 10)), o 64 (.bin .add (.t 63) (ci 1)), o 65 (.slc 1 (.t 62) none (some (.t 64))), o 8 (.mv (.t 65))] [8])
 (.ret)))))))))))⟩

/-- crumple/record.first -/
def c199L0 : ACode :=
 .seq (.ops [o 8 (.bin .lss (.t 7) (.t 6))] [5, 6, 7, 8])
 (.seq (.cond (.t 8)
 (.skip)
 (.exit 0))
 (.seq (.block 1 (.seq (.ops [o 9 (.iadr 1 (.t 5) (.t 7)), o 10 (.ld false 1 (.t 9)), o 4 (.mv (.t 10))] [4, 5, 6, 7])
 (.seq (.ops [o 11 (.mv (.t 4)), o 12 (.bin .neq (.t 11) (ci 0))] [4, 5, 6, 7, 12])
 (.cond (.t 12)
 (.seq (.ops [o 13 (.mv (.t 4)), o 2 (.mv (.t 13))] [2])
 (.ret))
 (.skip)))))
 (.ops [o 14 (.bin .add (.t 7) (ci 1)), o 7 (.mv (.t 14))] [5, 6, 7])))
def c199 : AFunc := ⟨15, [.tmp 2],
 .seq (.ops [o 2 (.mv (ci 0))] [0])
 (.seq (.seq (.ops [o 5 (.mv (.t 0)), o 6 (.len 1 (.t 5)), o 7 (.mv (ci 0))] [5, 6, 7])
 (.block 0 (.loop false [5, 6, 7] c199L0)))
 (.seq (.ops [o 2 (.mv (ci 0))] [2])
 (.ret)))⟩

/-- crumple/record.mapped[float32,crumple/api.Errno] -/
def c200L0 : ACode :=
 .seq (.ops [o 11 (.bin .lss (.t 10) (.t 9))] [1, 5, 8, 9, 10, 11])
 (.seq (.cond (.t 11)
 (.skip)
 (.exit 0))
 (.seq (.block 1 (.seq (.ops [o 12 (.iadr 1 (.t 8) (.t 10)), o 13 (.ld false 1 (.t 12)), o 7 (.mv (.t 13))] [1, 5, 7, 8, 9, 10])
 (.ops [o 14 (.mv (.t 5)), o 15 (.mv (.t 1)), o 16 (.mv (.t 7)), o 17 (.call false true 0 (.val (.t 15)) [.t 16]), o 18 (.bslice false 1 [.p (.int .i64 0)] 1 [(0, .t 17)]), o 19 (.app 1 8 [.p (.int .i64 0)] (.t 14) (.t 18)), o 5 (.mv (.t 19))] [1, 5, 8, 9, 10])))
 (.ops [o 20 (.bin .add (.t 10) (ci 1)), o 10 (.mv (.t 20))] [1, 5, 8, 9, 10])))
def c200 : AFunc := ⟨22, [.tmp 4],
 .seq (.ops [o 4 (.mv (cn))] [0, 1])
 (.seq (.ops [o 5 (.nilown 1)] [0, 1, 5])
 (.seq (.seq (.ops [o 8 (.mv (.t 0)), o 9 (.len 1 (.t 8)), o 10 (.mv (ci 0))] [1, 5, 8, 9, 10])
 (.block 0 (.loop true [1, 5, 8, 9, 10] c200L0)))
 (.seq (.ops [o 21 (.mv (.t 5)), o 4 (.mv (.t 21))] [4])
 (.ret))))⟩

/-- crumple/record.CheckSample -/
def c201 : AFunc := ⟨10, [.tmp 2],
 .seq (.ops [o 2 (.mv (ci 0))] [0])
 (.seq (.ops [o 3 (.mv (.t 0)), o 4 (.call true true 0 (.fn 212) [.t 3]), o 5 (.call true true 0 (.fn 211) [.t 4, ci 1]), o 6 (.mv (.t 0)), o 7 (.call true true 0 (.fn 213) [.t 6, .c (.p (.flt .f32 1149239296))]), o 8 (.bslice false 1 [.p (.int .i64 0)] 2 [(0, .t 5), (1, .t 7)]), o 9 (.call true true 0 (.fn 199) [.t 8]), o 2 (.mv (.t 9))] [2])
 (.ret))⟩

/-- crumple/crumpleref01.CheckPart -/
def c202 : AFunc := ⟨31, [.tmp 4],
 .seq (.ops [o 4 (.mv (ci 0))] [0, 1])
 (.seq (.seq (.ops [o 6 (.mv (.t 0)), o 7 (.mv (.t 0)), o 8 (.bin .sub (.t 6) (.t 7)), o 9 (.bin .neq (.t 8) (.c (.p (.flt .f32 0))))] [0, 1, 9])
 (.cond (.t 9)
 (.seq (.ops [o 4 (.mv (ci 1))] [4])
 (.ret))
 (.skip)))
 (.seq (.ops [o 10 (.mv (.t 0)), o 11 (.conv (.flt .f64) (.t 10)), o 12 (.bin .mul (.c (.p (.flt .f64 4625196817309499392))) (.t 11)), o 5 (.mv (.t 12))] [1, 5])
 (.seq (.seq (.ops [o 13 (.mv (.t 5)), o 14 (.mv (.t 1)), o 15 (.conv (.flt .f64) (.t 14)), o 16 (.bin .sub (.c (.p (.flt .f64 0))) (.t 15)), o 17 (.bin .lss (.t 13) (.t 16)), o 18 (.mv (.t 17)), ⟨some 19, .mv (.t 5), some (18, false)⟩, ⟨some 20, .mv (.t 1), some (18, false)⟩, ⟨some 21, .conv (.flt .f64) (.t 20), some (18, false)⟩, ⟨some 22, .bin .gtr (.t 19) (.t 21), some (18, false)⟩, o 23 (.pick (.t 18) (cb true) (.t 22)), o 24 (.mv (.t 23)), ⟨some 25, .mv (.t 5), some (24, false)⟩, ⟨some 26, .conv (.int .i64) (.t 25), some (24, false)⟩, ⟨some 27, .conv (.flt .f64) (.t 26), some (24, false)⟩, ⟨some 28, .mv (.t 5), some (24, false)⟩, ⟨some 29, .bin .neq (.t 27) (.t 28), some (24, false)⟩, o 30 (.pick (.t 24) (cb true) (.t 29))] [30])
 (.cond (.t 30)
 (.seq (.ops [o 4 (.mv (ci 3))] [4])
 (.ret))
 (.skip)))
 (.seq (.ops [o 4 (.mv (ci 0))] [4])
 (.ret)))))⟩

/-- internal/stringslite.IndexByte -/
def c206 : AFunc := ⟨8, [.tmp 4],
 .seq (.ops [o 4 (.mv (ci 0))] [0, 1])
 (.seq (.ops [o 5 (.mv (.t 0)), o 6 (.mv (.t 1)), o 7 (.call true true 0 (.fn 217) [.t 5, .t 6]), o 4 (.mv (.t 7))] [4])
 (.ret))⟩

/-- internal/stringslite.HasSuffix -/
def c207 : AFunc := ⟨21, [.tmp 4],
 .seq (.ops [o 4 (.mv (cb false))] [0, 1])
 (.seq (.ops [o 5 (.mv (.t 0)), o 6 (.len 0 (.t 5)), o 7 (.mv (.t 1)), o 8 (.len 0 (.t 7)), o 9 (.bin .geq (.t 6) (.t 8)), o 10 (.mv (.t 9)), ⟨some 11, .mv (.t 0), some (10, true)⟩, ⟨some 12, .mv (.t 0), some (10, true)⟩, ⟨some 13, .len 0 (.t 12), some (10, true)⟩, ⟨some 14, .mv (.t 1), some (10, true)⟩, ⟨some 15, .len 0 (.t 14), some (10, true)⟩, ⟨some 16, .bin .sub (.t 13) (.t 15), some (10, true)⟩, ⟨some 17, .slcs (.t 11) (some (.t 16)) none, some (10, true)⟩, ⟨some 18, .mv (.t 1), some (10, true)⟩, ⟨some 19, .bin .eql (.t 17) (.t 18), some (10, true)⟩, o 20 (.pick (.t 10) (.t 19) (cb false)), o 4 (.mv (.t 20))] [4])
 (.ret))⟩

/-- strings.explode -/
def c208L0 : ACode :=
 .seq (.seq (.ops [o 22 (.mv (.t 7)), o 23 (.mv (.t 1)), o 24 (.bin .sub (.t 23) (ci 1)), o 25 (.bin .lss (.t 22) (.t 24))] [0, 1, 6, 7, 25])
 (.cond (.t 25)
 (.skip)
 (.exit 0)))
 (.seq (.block 1 (.seq (.ops [o 29 (.mv (.t 0)), o 30 (.call true true 0 (.fn 219) [.t 29]), o 28 (.mv (.t 30)), o 31 (.ext (.t 28) 0), o 32 (.ext (.t 28) 1), o 8 (.mv (.t 31)), o 9 (.mv (.t 32))] [0, 1, 6, 7, 9])
 (.seq (.ops [o 33 (.mv (.t 6)), o 34 (.mv (.t 7)), o 35 (.mv (.t 0)), o 36 (.mv (.t 9)), o 37 (.slcs (.t 35) none (some (.t 36))), o 38 (.iadr 1 (.t 33) (.t 34)), u (.st 1 (.t 38) (.t 37))] [0, 1, 6, 7, 9])
 (.ops [o 39 (.mv (.t 0)), o 40 (.mv (.t 9)), o 41 (.slcs (.t 39) (some (.t 40)) none), o 0 (.mv (.t 41))] [0, 1, 6, 7]))))
 (.ops [o 26 (.mv (.t 7)), o 27 (.bin .add (.t 26) (ci 1)), o 7 (.mv (.t 27))] [0, 1, 6, 7]))
def c208 : AFunc := ⟨50, [.tmp 4],
 .seq (.ops [o 4 (.mv (cn))] [0, 1])
 (.seq (.ops [o 10 (.mv (.t 0)), o 11 (.call true true 0 (.fn 218) [.t 10]), o 5 (.mv (.t 11))] [0, 1, 5])
 (.seq (.seq (.ops [o 12 (.mv (.t 1)), o 13 (.bin .lss (.t 12) (ci 0)), o 14 (.mv (.t 13)), ⟨some 15, .mv (.t 1), some (14, false)⟩, ⟨some 16, .mv (.t 5), some (14, false)⟩, ⟨some 17, .bin .gtr (.t 15) (.t 16), some (14, false)⟩, o 18 (.pick (.t 14) (cb true) (.t 17))] [0, 1, 5, 18])
 (.cond (.t 18)
 (.ops [o 19 (.mv (.t 5)), o 1 (.mv (.t 19))] [0, 1])
 (.skip)))
 (.seq (.ops [o 20 (.mv (.t 1)), o 21 (.mkslice 1 [.p (.str [])] (.t 20) (.t 20)), o 6 (.mv (.t 21))] [0, 1, 6])
 (.seq (.seq (.ops [o 7 (.mv (ci 0))] [0, 1, 6, 7])
 (.block 0 (.loop false [0, 1, 6, 7] c208L0)))
 (.seq (.seq (.ops [o 42 (.mv (.t 1)), o 43 (.bin .gtr (.t 42) (ci 0))] [0, 1, 6, 43])
 (.cond (.t 43)
 (.ops [o 44 (.mv (.t 6)), o 45 (.mv (.t 1)), o 46 (.bin .sub (.t 45) (ci 1)), o 47 (.mv (.t 0)), o 48 (.iadr 1 (.t 44) (.t 46)), u (.st 1 (.t 48) (.t 47))] [6])
 (.skip)))
 (.seq (.ops [o 49 (.mv (.t 6)), o 4 (.mv (.t 49))] [4])
 (.ret)))))))⟩

/-- strings.Count -/
def c209L0 : ACode :=
 .block 1 (.seq (.ops [o 20 (.mv (.t 0)), o 21 (.mv (.t 1)), o 22 (.call true true 0 (.fn 210) [.t 20, .t 21]), o 6 (.mv (.t 22))] [0, 1, 5, 6])
 (.seq (.seq (.ops [o 23 (.mv (.t 6)), o 24 (.bin .eql (.t 23) (ci (-1)))] [0, 1, 5, 6, 24])
 (.cond (.t 24)
 (.seq (.ops [o 25 (.mv (.t 5)), o 4 (.mv (.t 25))] [4])
 (.ret))
 (.skip)))
 (.seq (.ops [o 26 (.mv (.t 5)), o 27 (.bin .add (.t 26) (ci 1)), o 5 (.mv (.t 27))] [0, 1, 5, 6])
 (.ops [o 28 (.mv (.t 0)), o 29 (.mv (.t 6)), o 30 (.mv (.t 1)), o 31 (.len 0 (.t 30)), o 32 (.bin .add (.t 29) (.t 31)), o 33 (.slcs (.t 28) (some (.t 32)) none), o 0 (.mv (.t 33))] [0, 1, 5]))))
def c209 : AFunc := ⟨34, [.tmp 4],
 .seq (.ops [o 4 (.mv (ci 0))] [0, 1])
 (.seq (.seq (.ops [o 7 (.mv (.t 1)), o 8 (.len 0 (.t 7)), o 9 (.bin .eql (.t 8) (ci 0))] [0, 1, 9])
 (.cond (.t 9)
 (.seq (.ops [o 10 (.mv (.t 0)), o 11 (.call true true 0 (.fn 218) [.t 10]), o 12 (.bin .add (.t 11) (ci 1)), o 4 (.mv (.t 12))] [4])
 (.ret))
 (.skip)))
 (.seq (.seq (.ops [o 13 (.mv (.t 1)), o 14 (.len 0 (.t 13)), o 15 (.bin .eql (.t 14) (ci 1))] [0, 1, 15])
 (.cond (.t 15)
 (.seq (.ops [o 16 (.mv (.t 0)), o 17 (.mv (.t 1)), o 18 (.idxs (.t 17) (ci 0)), o 19 (.call true true 0 (.fn 220) [.t 16, .t 18]), o 4 (.mv (.t 19))] [4])
 (.ret))
 (.skip)))
 (.seq (.ops [o 5 (.mv (ci 0))] [0, 1, 5])
 (.block 0 (.loop false [0, 1, 5] c209L0)))))⟩

/-- strings.Index -/
def c210 : AFunc := ⟨8, [.tmp 4],
 .seq (.ops [o 4 (.mv (ci 0))] [0, 1])
 (.seq (.ops [o 5 (.mv (.t 0)), o 6 (.mv (.t 1)), o 7 (.call true true 0 (.fn 221) [.t 5, .t 6]), o 4 (.mv (.t 7))] [4])
 (.ret))⟩

/-- crumple/record.when -/
def c211 : AFunc := ⟨7, [.tmp 4],
 .seq (.ops [o 4 (.mv (ci 0))] [0, 1])
 (.seq (.seq (.ops [o 5 (.mv (.t 0))] [1, 5])
 (.cond (.t 5)
 (.seq (.ops [o 6 (.mv (.t 1)), o 4 (.mv (.t 6))] [4])
 (.ret))
 (.skip)))
 (.seq (.ops [o 4 (.mv (ci 0))] [4])
 (.ret)))⟩

/-- crumple/record.infinite -/
def c212 : AFunc := ⟨11, [.tmp 2],
 .seq (.ops [o 2 (.mv (cb false))] [0])
 (.seq (.ops [o 3 (.mv (.t 0)), o 4 (.conv (.flt .f64) (.t 3)), o 5 (.call true true 0 (.fn 222) [.t 4]), o 6 (.mv (.t 5)), ⟨some 7, .mv (.t 0), some (6, false)⟩, ⟨some 8, .conv (.flt .f64) (.t 7), some (6, false)⟩, ⟨some 9, .call true true 0 (.fn 223) [.t 8, ci 0], some (6, false)⟩, o 10 (.pick (.t 6) (cb true) (.t 9)), o 2 (.mv (.t 10))] [2])
 (.ret))⟩

/-- crumple/record.onGrid -/
def c213 : AFunc := ⟨25, [.tmp 4],
 .seq (.ops [o 4 (.mv (ci 0))] [0, 1])
 (.seq (.ops [o 5 (.mv (.t 0)), o 6 (.mv (.t 1)), o 7 (.neg (.t 6)), o 8 (.bin .lss (.t 5) (.t 7)), o 9 (.mv (.t 8)), ⟨some 10, .mv (.t 0), some (9, false)⟩, ⟨some 11, .mv (.t 1), some (9, false)⟩, ⟨some 12, .bin .gtr (.t 10) (.t 11), some (9, false)⟩, o 13 (.pick (.t 9) (cb true) (.t 12)), o 14 (.mv (.t 13)), ⟨some 15, .mv (.t 0), some (14, false)⟩, ⟨some 16, .bin .mul (.c (.p (.flt .f32 1098907648))) (.t 15), some (14, false)⟩, ⟨some 17, .conv (.flt .f64) (.t 16), some (14, false)⟩, ⟨some 18, .call true true 0 (.fn 224) [.t 17], some (14, false)⟩, ⟨some 19, .conv (.flt .f32) (.t 18), some (14, false)⟩, ⟨some 20, .mv (.t 0), some (14, false)⟩, ⟨some 21, .bin .mul (.c (.p (.flt .f32 1098907648))) (.t 20), some (14, false)⟩, ⟨some 22, .bin .neq (.t 19) (.t 21), some (14, false)⟩, o 23 (.pick (.t 14) (cb true) (.t 22)), o 24 (.call true true 0 (.fn 211) [.t 23, ci 3]), o 4 (.mv (.t 24))] [4])
 (.ret))⟩

/-- unicode/utf8.RuneCountInString -/
def c218L0 : ACode :=
 .seq (.ops [o 5 (.nxt (.t 4) true), o 6 (.ext (.t 5) 0)] [2, 4, 6])
 (.seq (.cond (.t 6)
 (.skip)
 (.exit 0))
 (.block 1 (.ops [o 7 (.mv (.t 2)), o 8 (.bin .add (.t 7) (ci 1)), o 2 (.mv (.t 8))] [2, 4])))
def c218 : AFunc := ⟨10, [.tmp 2],
 .seq (.ops [o 2 (.mv (ci 0))] [0, 2])
 (.seq (.seq (.ops [o 3 (.mv (.t 0)), o 4 (.rngs (.t 3))] [2, 4])
 (.block 0 (.loop false [2, 4] c218L0)))
 (.seq (.ops [o 9 (.mv (.t 2)), o 2 (.mv (.t 9))] [2])
 (.ret)))⟩

/-- unicode/utf8.DecodeRuneInString -/
def c219 : AFunc := ⟨19, [.tmp 2, .tmp 3],
 .seq (.ops [o 2 (.mv (.c (.p (.int .i32 0)))), o 3 (.mv (ci 0))] [0])
 (.seq (.seq (.ops [o 4 (.mv (.t 0)), o 5 (.bin .neq (.t 4) (cs [])), o 6 (.mv (.t 5)), ⟨some 7, .mv (.t 0), some (6, true)⟩, ⟨some 8, .idxs (.t 7) (ci 0), some (6, true)⟩, ⟨some 9, .bin .lss (.t 8) (.c (.p (.int .u8 128))), some (6, true)⟩, o 10 (.pick (.t 6) (.t 9) (cb false))] [0, 10])
 (.cond (.t 10)
 (.seq (.ops [o 11 (.mv (.t 0)), o 12 (.idxs (.t 11) (ci 0)), o 13 (.conv (.int .i32) (.t 12)), o 2 (.mv (.t 13)), o 3 (.mv (ci 1))] [2, 3])
 (.ret))
 (.ops [o 15 (.mv (.t 0)), o 16 (.call true true 0 (.fn 229) [.t 15]), o 14 (.mv (.t 16)), o 17 (.ext (.t 14) 0), o 18 (.ext (.t 14) 1), o 2 (.mv (.t 17)), o 3 (.mv (.t 18))] [2, 3])))
 (.ret))⟩

/-- internal/stringslite.Index -/
def c221L0 : ACode :=
 .seq (.seq (.ops [o 57 (.mv (.t 8)), o 58 (.mv (.t 9)), o 59 (.bin .lss (.t 57) (.t 58))] [0, 1, 5, 6, 7, 8, 9, 10, 59])
 (.cond (.t 59)
 (.skip)
 (.exit 1)))
 (.block 2 (.seq (.seq (.ops [o 60 (.mv (.t 0)), o 61 (.mv (.t 8)), o 62 (.idxs (.t 60) (.t 61)), o 63 (.mv (.t 6)), o 64 (.bin .neq (.t 62) (.t 63))] [0, 1, 5, 6, 7, 8, 9, 10, 64])
 (.cond (.t 64)
 (.seq (.ops [o 65 (.mv (.t 0)), o 66 (.mv (.t 8)), o 67 (.bin .add (.t 66) (ci 1)), o 68 (.mv (.t 9)), o 69 (.slcs (.t 65) (some (.t 67)) (some (.t 68))), o 70 (.mv (.t 6)), o 71 (.call true true 0 (.fn 206) [.t 69, .t 70]), o 11 (.mv (.t 71))] [0, 1, 5, 6, 7, 8, 9, 10, 11])
 (.seq (.seq (.ops [o 72 (.mv (.t 11)), o 73 (.bin .lss (.t 72) (ci 0))] [0, 1, 5, 6, 7, 8, 9, 10, 11, 73])
 (.cond (.t 73)
 (.seq (.ops [o 4 (.mv (ci (-1)))] [4])
 (.ret))
 (.skip)))
 (.ops [o 74 (.mv (.t 8)), o 75 (.mv (.t 11)), o 76 (.bin .add (.t 75) (ci 1)), o 77 (.bin .add (.t 74) (.t 76)), o 8 (.mv (.t 77))] [0, 1, 5, 6, 7, 8, 9, 10])))
 (.skip)))
 (.seq (.seq (.ops [o 78 (.mv (.t 0)), o 79 (.mv (.t 8)), o 80 (.bin .add (.t 79) (ci 1)), o 81 (.idxs (.t 78) (.t 80)), o 82 (.mv (.t 7)), o 83 (.bin .eql (.t 81) (.t 82)), o 84 (.mv (.t 83)), ⟨some 85, .mv (.t 0), some (84, true)⟩, ⟨some 86, .mv (.t 8), some (84, true)⟩, ⟨some 87, .mv (.t 8), some (84, true)⟩, ⟨some 88, .mv (.t 5), some (84, true)⟩, ⟨some 89, .bin .add (.t 87) (.t 88), some (84, true)⟩, ⟨some 90, .slcs (.t 85) (some (.t 86)) (some (.t 89)), some (84, true)⟩, ⟨some 91, .mv (.t 1), some (84, true)⟩, ⟨some 92, .bin .eql (.t 90) (.t 91), some (84, true)⟩, o 93 (.pick (.t 84) (.t 92) (cb false))] [0, 1, 5, 6, 7, 8, 9, 10, 93])
 (.cond (.t 93)
 (.seq (.ops [o 94 (.mv (.t 8)), o 4 (.mv (.t 94))] [4])
 (.ret))
 (.skip)))
 (.seq (.ops [o 95 (.mv (.t 8)), o 96 (.bin .add (.t 95) (ci 1)), o 8 (.mv (.t 96))] [0, 1, 5, 6, 7, 8, 9, 10])
 (.seq (.ops [o 97 (.mv (.t 10)), o 98 (.bin .add (.t 97) (ci 1)), o 10 (.mv (.t 98))] [0, 1, 5, 6, 7, 8, 9, 10])
 (.seq (.ops [o 99 (.mv (.t 5)), o 100 (.ld false 1 (.g 5)), o 101 (.bin .leq (.t 99) (.t 100)), o 102 (.mv (.t 101)), ⟨some 103, .mv (.t 10), some (102, true)⟩, ⟨some 104, .mv (.t 8), some (102, true)⟩, ⟨some 105, .call true true 0 (.fn 231) [.t 104], some (102, true)⟩, ⟨some 106, .bin .gtr (.t 103) (.t 105), some (102, true)⟩, o 107 (.pick (.t 102) (.t 106) (cb false))] [0, 1, 5, 6, 7, 8, 9, 10, 107])
 (.cond (.t 107)
 (.seq (.ops [o 108 (.mv (.t 0)), o 109 (.mv (.t 8)), o 110 (.slcs (.t 108) (some (.t 109)) none), o 111 (.mv (.t 1)), o 112 (.call true true 0 (.fn 230) [.t 110, .t 111]), o 12 (.mv (.t 112))] [8, 12])
 (.seq (.seq (.ops [o 113 (.mv (.t 12)), o 114 (.bin .geq (.t 113) (ci 0))] [8, 12, 114])
 (.cond (.t 114)
 (.seq (.ops [o 115 (.mv (.t 12)), o 116 (.mv (.t 8)), o 117 (.bin .add (.t 115) (.t 116)), o 4 (.mv (.t 117))] [4])
 (.ret))
 (.skip)))
 (.seq (.ops [o 4 (.mv (ci (-1)))] [4])
 (.ret))))
 (.seq (.ops [o 118 (.mv (.t 5)), o 119 (.ld false 1 (.g 5)), o 120 (.bin .gtr (.t 118) (.t 119)), o 121 (.mv (.t 120)), ⟨some 122, .mv (.t 10), some (121, true)⟩, ⟨some 123, .mv (.t 8), some (121, true)⟩, ⟨some 124, .shift false (.t 123) (.c (.p (.int .u64 4))), some (121, true)⟩, ⟨some 125, .bin .add (ci 4) (.t 124), some (121, true)⟩, ⟨some 126, .bin .geq (.t 122) (.t 125), some (121, true)⟩, o 127 (.pick (.t 121) (.t 126) (cb false)), o 128 (.mv (.t 127)), ⟨some 129, .mv (.t 8), some (128, true)⟩, ⟨some 130, .mv (.t 9), some (128, true)⟩, ⟨some 131, .bin .lss (.t 129) (.t 130), some (128, true)⟩, o 132 (.pick (.t 128) (.t 131) (cb false))] [0, 1, 5, 6, 7, 8, 9, 10, 132])
 (.cond (.t 132)
 (.seq (.ops [o 133 (.mv (.t 0)), o 134 (.mv (.t 8)), o 135 (.slcs (.t 133) (some (.t 134)) none), o 136 (.mv (.t 1)), o 137 (.call true true 0 (.fn 232) [.t 135, .t 136]), o 13 (.mv (.t 137))] [8, 13])
 (.seq (.seq (.ops [o 138 (.mv (.t 13)), o 139 (.bin .lss (.t 138) (ci 0))] [8, 13, 139])
 (.cond (.t 139)
 (.seq (.ops [o 4 (.mv (ci (-1)))] [4])
 (.ret))
 (.skip)))
 (.seq (.ops [o 140 (.mv (.t 8)), o 141 (.mv (.t 13)), o 142 (.bin .add (.t 140) (.t 141)), o 4 (.mv (.t 142))] [4])
 (.ret))))
 (.skip))))))))))
def c221 : AFunc := ⟨143, [.tmp 4],
 .seq (.ops [o 4 (.mv (ci 0))] [0, 1])
 (.seq (.ops [o 14 (.mv (.t 1)), o 15 (.len 0 (.t 14)), o 5 (.mv (.t 15))] [0, 1, 5])
 (.seq (.block 0 (.seq (.ops [o 17 (.mv (.t 5)), o 18 (.bin .eql (.t 17) (ci 0)), o 19 (.mv (.t 18)), ⟨some 20, .mv (.t 1), some (19, false)⟩, ⟨some 21, .mv (.t 0), some (19, false)⟩, ⟨some 22, .bin .eql (.t 20) (.t 21), some (19, false)⟩, o 23 (.pick (.t 19) (cb true) (.t 22)), o 16 (.mv (.t 23))] [0, 1, 5, 16])
 (.cond (.t 16)
 (.seq (.ops [o 4 (.mv (ci 0))] [4])
 (.ret))
 (.seq (.ops [o 25 (.mv (.t 5)), o 26 (.bin .eql (.t 25) (ci 1)), o 24 (.mv (.t 26))] [0, 1, 5, 24])
 (.cond (.t 24)
 (.seq (.ops [o 27 (.mv (.t 0)), o 28 (.mv (.t 1)), o 29 (.idxs (.t 28) (ci 0)), o 30 (.call true true 0 (.fn 206) [.t 27, .t 29]), o 4 (.mv (.t 30))] [4])
 (.ret))
 (.seq (.ops [o 32 (.mv (.t 5)), o 33 (.mv (.t 0)), o 34 (.len 0 (.t 33)), o 35 (.bin .geq (.t 32) (.t 34)), o 31 (.mv (.t 35))] [0, 1, 5, 31])
 (.cond (.t 31)
 (.seq (.ops [o 4 (.mv (ci (-1)))] [4])
 (.ret))
 (.seq (.ops [o 37 (.mv (.t 5)), o 38 (.ld false 1 (.g 5)), o 39 (.bin .leq (.t 37) (.t 38)), o 40 (.mv (.t 39)), ⟨some 41, .mv (.t 0), some (40, true)⟩, ⟨some 42, .len 0 (.t 41), some (40, true)⟩, ⟨some 43, .bin .leq (.t 42) (ci 64), some (40, true)⟩, o 44 (.pick (.t 40) (.t 43) (cb false)), o 36 (.mv (.t 44))] [0, 1, 5, 36])
 (.cond (.t 36)
 (.seq (.ops [o 45 (.mv (.t 0)), o 46 (.mv (.t 1)), o 47 (.call true true 0 (.fn 230) [.t 45, .t 46]), o 4 (.mv (.t 47))] [4])
 (.ret))
 (.skip))))))))))
 (.seq (.ops [o 48 (.mv (.t 1)), o 49 (.idxs (.t 48) (ci 0)), o 6 (.mv (.t 49))] [0, 1, 5, 6])
 (.seq (.ops [o 50 (.mv (.t 1)), o 51 (.idxs (.t 50) (ci 1)), o 7 (.mv (.t 51))] [0, 1, 5, 6, 7])
 (.seq (.ops [o 8 (.mv (ci 0))] [0, 1, 5, 6, 7, 8])
 (.seq (.ops [o 52 (.mv (.t 0)), o 53 (.len 0 (.t 52)), o 54 (.mv (.t 5)), o 55 (.bin .sub (.t 53) (.t 54)), o 56 (.bin .add (.t 55) (ci 1)), o 9 (.mv (.t 56))] [0, 1, 5, 6, 7, 8, 9])
 (.seq (.ops [o 10 (.mv (ci 0))] [0, 1, 5, 6, 7, 8, 9, 10])
 (.seq (.block 1 (.loop false [0, 1, 5, 6, 7, 8, 9, 10] c221L0))
 (.seq (.ops [o 4 (.mv (ci (-1)))] [4])
 (.ret))))))))))⟩

/-- math.IsNaN -/
def c222 : AFunc := ⟨6, [.tmp 2],
 .seq (.ops [o 2 (.mv (cb false))] [0])
 (.seq (.ops [o 3 (.mv (.t 0)), o 4 (.mv (.t 0)), o 5 (.bin .neq (.t 3) (.t 4)), o 2 (.mv (.t 5))] [2])
 (.ret))⟩

/-- math.IsInf -/
def c223 : AFunc := ⟨15, [.tmp 4],
 .seq (.ops [o 4 (.mv (cb false))] [0, 1])
 (.seq (.seq (.ops [o 5 (.mv (.t 1)), o 6 (.bin .eql (.t 5) (ci 0))] [0, 1, 6])
 (.cond (.t 6)
 (.ops [o 7 (.mv (.t 0)), o 8 (.call true true 0 (.fn 233) [.t 7]), o 0 (.mv (.t 8))] [0])
 (.seq (.ops [o 9 (.mv (.t 1)), o 10 (.bin .lss (.t 9) (ci 0))] [0, 10])
 (.cond (.t 10)
 (.ops [o 11 (.mv (.t 0)), o 12 (.neg (.t 11)), o 0 (.mv (.t 12))] [0])
 (.skip)))))
 (.seq (.ops [o 13 (.mv (.t 0)), o 14 (.bin .gtr (.t 13) (.c (.p (.flt .f64 9218868437227405311)))), o 4 (.mv (.t 14))] [4])
 (.ret)))⟩

/-- math.Floor -/
def c224 : AFunc := ⟨7, [.tmp 2],
 .seq (.ops [o 2 (.mv (.c (.p (.flt .f64 0))))] [0])
 (.seq (.cond (cb true)
 (.seq (.ops [o 3 (.mv (.t 0)), o 4 (.call true true 0 (.fn 234) [.t 3]), o 2 (.mv (.t 4))] [2])
 (.ret))
 (.skip))
 (.seq (.ops [o 5 (.mv (.t 0)), o 6 (.call true true 0 (.fn 235) [.t 5]), o 2 (.mv (.t 6))] [2])
 (.ret)))⟩

/-- unicode/utf8.decodeRuneInStringSlow -/
def c229 : AFunc := ⟨117, [.tmp 2, .tmp 3],
 .seq (.ops [o 2 (.mv (.c (.p (.int .i32 0)))), o 3 (.mv (ci 0))] [0])
 (.seq (.ops [o 13 (.mv (.t 0)), o 14 (.len 0 (.t 13)), o 4 (.mv (.t 14))] [0, 4])
 (.seq (.seq (.ops [o 15 (.mv (.t 4)), o 16 (.bin .lss (.t 15) (ci 1))] [0, 4, 16])
 (.cond (.t 16)
 (.seq (.ops [o 2 (.mv (.c (.p (.int .i32 65533)))), o 3 (.mv (ci 0))] [2, 3])
 (.ret))
 (.skip)))
 (.seq (.ops [o 17 (.mv (.t 0)), o 18 (.idxs (.t 17) (ci 0)), o 5 (.mv (.t 18))] [0, 4, 5])
 (.seq (.ops [o 19 (.mv (.t 5)), o 20 (.iadra 1 256 (.g 8) (.t 19)), o 21 (.ld false 1 (.t 20)), o 6 (.mv (.t 21))] [0, 4, 5, 6])
 (.seq (.seq (.ops [o 22 (.mv (.t 6)), o 23 (.bin .geq (.t 22) (.c (.p (.int .u8 240))))] [0, 4, 5, 6, 23])
 (.cond (.t 23)
 (.seq (.ops [o 24 (.mv (.t 6)), o 25 (.conv (.int .i32) (.t 24)), o 26 (.shift true (.t 25) (.c (.p (.int .u64 31)))), o 27 (.shift false (.t 26) (.c (.p (.int .u64 31)))), o 7 (.mv (.t 27))] [0, 7])
 (.seq (.ops [o 28 (.mv (.t 0)), o 29 (.idxs (.t 28) (ci 0)), o 30 (.conv (.int .i32) (.t 29)), o 31 (.mv (.t 7)), o 32 (.bin .andNot (.t 30) (.t 31)), o 33 (.mv (.t 7)), o 34 (.bin .and (.c (.p (.int .i32 65533))) (.t 33)), o 35 (.bin .or (.t 32) (.t 34)), o 2 (.mv (.t 35)), o 3 (.mv (ci 1))] [2, 3])
 (.ret)))
 (.skip)))
 (.seq (.ops [o 36 (.mv (.t 6)), o 37 (.bin .and (.t 36) (.c (.p (.int .u8 7)))), o 38 (.conv (.int .i64) (.t 37)), o 8 (.mv (.t 38))] [0, 4, 5, 6, 8])
 (.seq (.ops [o 39 (.mv (.t 6)), o 40 (.shift false (.t 39) (.c (.p (.int .u64 4)))), o 41 (.iadra 2 16 (.g 9) (.t 40)), o 42 (.ld true 2 (.t 41)), o 9 (.alloc true 1 [.p (.int .u8 0), .p (.int .u8 0)]), u (.st 2 (.t 9) (.t 42))] [0, 4, 5, 8, 9])
 (.seq (.seq (.ops [o 43 (.mv (.t 4)), o 44 (.mv (.t 8)), o 45 (.bin .lss (.t 43) (.t 44))] [0, 5, 8, 9, 45])
 (.cond (.t 45)
 (.seq (.ops [o 2 (.mv (.c (.p (.int .i32 65533)))), o 3 (.mv (ci 1))] [2, 3])
 (.ret))
 (.skip)))
 (.seq (.ops [o 46 (.mv (.t 0)), o 47 (.idxs (.t 46) (ci 1)), o 10 (.mv (.t 47))] [0, 5, 8, 9, 10])
 (.seq (.seq (.ops [o 48 (.mv (.t 10)), o 49 (.fadr 0 (.t 9)), o 50 (.ld false 1 (.t 49)), o 51 (.bin .lss (.t 48) (.t 50)), o 52 (.mv (.t 51)), ⟨some 53, .fadr 1 (.t 9), some (52, false)⟩, ⟨some 54, .ld false 1 (.t 53), some (52, false)⟩, ⟨some 55, .mv (.t 10), some (52, false)⟩, ⟨some 56, .bin .lss (.t 54) (.t 55), some (52, false)⟩, o 57 (.pick (.t 52) (cb true) (.t 56))] [0, 5, 8, 10, 57])
 (.cond (.t 57)
 (.seq (.ops [o 2 (.mv (.c (.p (.int .i32 65533)))), o 3 (.mv (ci 1))] [2, 3])
 (.ret))
 (.skip)))
 (.seq (.seq (.ops [o 58 (.mv (.t 8)), o 59 (.bin .leq (.t 58) (ci 2))] [0, 5, 8, 10, 59])
 (.cond (.t 59)
 (.seq (.ops [o 60 (.mv (.t 5)), o 61 (.bin .and (.t 60) (.c (.p (.int .u8 31)))), o 62 (.conv (.int .i32) (.t 61)), o 63 (.shift true (.t 62) (.c (.p (.int .u64 6)))), o 64 (.mv (.t 10)), o 65 (.bin .and (.t 64) (.c (.p (.int .u8 63)))), o 66 (.conv (.int .i32) (.t 65)), o 67 (.bin .or (.t 63) (.t 66)), o 2 (.mv (.t 67)), o 3 (.mv (ci 2))] [2, 3])
 (.ret))
 (.skip)))
 (.seq (.ops [o 68 (.mv (.t 0)), o 69 (.idxs (.t 68) (ci 2)), o 11 (.mv (.t 69))] [0, 5, 8, 10, 11])
 (.seq (.seq (.ops [o 70 (.mv (.t 11)), o 71 (.bin .lss (.t 70) (.c (.p (.int .u8 128)))), o 72 (.mv (.t 71)), ⟨some 73, .mv (.t 11), some (72, false)⟩, ⟨some 74, .bin .lss (.c (.p (.int .u8 191))) (.t 73), some (72, false)⟩, o 75 (.pick (.t 72) (cb true) (.t 74))] [0, 5, 8, 10, 11, 75])
 (.cond (.t 75)
 (.seq (.ops [o 2 (.mv (.c (.p (.int .i32 65533)))), o 3 (.mv (ci 1))] [2, 3])
 (.ret))
 (.skip)))
 (.seq (.seq (.ops [o 76 (.mv (.t 8)), o 77 (.bin .leq (.t 76) (ci 3))] [0, 5, 10, 11, 77])
 (.cond (.t 77)
 (.seq (.ops [o 78 (.mv (.t 5)), o 79 (.bin .and (.t 78) (.c (.p (.int .u8 15)))), o 80 (.conv (.int .i32) (.t 79)), o 81 (.shift true (.t 80) (.c (.p (.int .u64 12)))), o 82 (.mv (.t 10)), o 83 (.bin .and (.t 82) (.c (.p (.int .u8 63)))), o 84 (.conv (.int .i32) (.t 83)), o 85 (.shift true (.t 84) (.c (.p (.int .u64 6)))), o 86 (.bin .or (.t 81) (.t 85)), o 87 (.mv (.t 11)), o 88 (.bin .and (.t 87) (.c (.p (.int .u8 63)))), o 89 (.conv (.int .i32) (.t 88)), o 90 (.bin .or (.t 86) (.t 89)), o 2 (.mv (.t 90)), o 3 (.mv (ci 3))] [2, 3])
 (.ret))
 (.skip)))
 (.seq (.ops [o 91 (.mv (.t 0)), o 92 (.idxs (.t 91) (ci 3)), o 12 (.mv (.t 92))] [5, 10, 11, 12])
 (.seq (.seq (.ops [o 93 (.mv (.t 12)), o 94 (.bin .lss (.t 93) (.c (.p (.int .u8 128)))), o 95 (.mv (.t 94)), ⟨some 96, .mv (.t 12), some (95, false)⟩, ⟨some 97, .bin .lss (.c (.p (.int .u8 191))) (.t 96), some (95, false)⟩, o 98 (.pick (.t 95) (cb true) (.t 97))] [5, 10, 11, 12, 98])
 (.cond (.t 98)
 (.seq (.ops [o 2 (.mv (.c (.p (.int .i32 65533)))), o 3 (.mv (ci 1))] [2, 3])
 (.ret))
 (.skip)))
 (.seq (.ops [o 99 (.mv (.t 5)), o 100 (.bin .and (.t 99) (.c (.p (.int .u8 7)))), o 101 (.conv (.int .i32) (.t 100)), o 102 (.shift true (.t 101) (.c (.p (.int .u64 18)))), o 103 (.mv (.t 10)), o 104 (.bin .and (.t 103) (.c (.p (.int .u8 63)))), o 105 (.conv (.int .i32) (.t 104)), o 106 (.shift true (.t 105) (.c (.p (.int .u64 12)))), o 107 (.bin .or (.t 102) (.t 106)), o 108 (.mv (.t 11)), o 109 (.bin .and (.t 108) (.c (.p (.int .u8 63)))), o 110 (.conv (.int .i32) (.t 109)), o 111 (.shift true (.t 110) (.c (.p (.int .u64 6)))), o 112 (.bin .or (.t 107) (.t 111)), o 113 (.mv (.t 12)), o 114 (.bin .and (.t 113) (.c (.p (.int .u8 63)))), o 115 (.conv (.int .i32) (.t 114)), o 116 (.bin .or (.t 112) (.t 115)), o 2 (.mv (.t 116)), o 3 (.mv (ci 4))] [2, 3])
 (.ret))))))))))))))))))⟩

/-- internal/bytealg.Cutover -/
def c231 : AFunc := ⟨6, [.tmp 2],
 .seq (.ops [o 2 (.mv (ci 0))] [0])
 (.seq (.ops [o 3 (.mv (.t 0)), o 4 (.bin .add (.t 3) (ci 16)), o 5 (.bin .quo (.t 4) (ci 8)), o 2 (.mv (.t 5))] [2])
 (.ret))⟩

/-- internal/bytealg.IndexRabinKarp[string] -/
def c232L0 : ACode :=
 .seq (.seq (.ops [o 18 (.mv (.t 9)), o 19 (.mv (.t 7)), o 20 (.bin .lss (.t 18) (.t 19))] [0, 1, 5, 6, 7, 8, 9, 20])
 (.cond (.t 20)
 (.skip)
 (.exit 0)))
 (.seq (.block 1 (.ops [o 23 (.mv (.t 8)), o 24 (.bin .mul (.t 23) (.c (.p (.int .u32 16777619)))), o 25 (.mv (.t 0)), o 26 (.mv (.t 9)), o 27 (.idxs (.t 25) (.t 26)), o 28 (.conv (.int .u32) (.t 27)), o 29 (.bin .add (.t 24) (.t 28)), o 8 (.mv (.t 29))] [0, 1, 5, 6, 7, 8, 9]))
 (.ops [o 21 (.mv (.t 9)), o 22 (.bin .add (.t 21) (ci 1)), o 9 (.mv (.t 22))] [0, 1, 5, 6, 7, 8, 9]))
def c232L1 : ACode :=
 .seq (.seq (.ops [o 41 (.mv (.t 10)), o 42 (.mv (.t 0)), o 43 (.len 0 (.t 42)), o 44 (.bin .lss (.t 41) (.t 43))] [0, 1, 5, 6, 7, 8, 10, 44])
 (.cond (.t 44)
 (.skip)
 (.exit 2)))
 (.block 3 (.seq (.ops [o 45 (.mv (.t 8)), o 46 (.bin .mul (.t 45) (.c (.p (.int .u32 16777619)))), o 8 (.mv (.t 46))] [0, 1, 5, 6, 7, 8, 10])
 (.seq (.ops [o 47 (.mv (.t 8)), o 48 (.mv (.t 0)), o 49 (.mv (.t 10)), o 50 (.idxs (.t 48) (.t 49)), o 51 (.conv (.int .u32) (.t 50)), o 52 (.bin .add (.t 47) (.t 51)), o 8 (.mv (.t 52))] [0, 1, 5, 6, 7, 8, 10])
 (.seq (.ops [o 53 (.mv (.t 8)), o 54 (.mv (.t 6)), o 55 (.mv (.t 0)), o 56 (.mv (.t 10)), o 57 (.mv (.t 7)), o 58 (.bin .sub (.t 56) (.t 57)), o 59 (.idxs (.t 55) (.t 58)), o 60 (.conv (.int .u32) (.t 59)), o 61 (.bin .mul (.t 54) (.t 60)), o 62 (.bin .sub (.t 53) (.t 61)), o 8 (.mv (.t 62))] [0, 1, 5, 6, 7, 8, 10])
 (.seq (.ops [o 63 (.mv (.t 10)), o 64 (.bin .add (.t 63) (ci 1)), o 10 (.mv (.t 64))] [0, 1, 5, 6, 7, 8, 10])
 (.seq (.ops [o 65 (.mv (.t 8)), o 66 (.mv (.t 5)), o 67 (.bin .eql (.t 65) (.t 66)), o 68 (.mv (.t 67)), ⟨some 69, .mv (.t 0), some (68, true)⟩, ⟨some 70, .mv (.t 10), some (68, true)⟩, ⟨some 71, .mv (.t 7), some (68, true)⟩, ⟨some 72, .bin .sub (.t 70) (.t 71), some (68, true)⟩, ⟨some 73, .mv (.t 10), some (68, true)⟩, ⟨some 74, .slcs (.t 69) (some (.t 72)) (some (.t 73)), some (68, true)⟩, ⟨some 75, .mv (.t 1), some (68, true)⟩, ⟨some 76, .bin .eql (.t 74) (.t 75), some (68, true)⟩, o 77 (.pick (.t 68) (.t 76) (cb false))] [0, 1, 5, 6, 7, 8, 10, 77])
 (.cond (.t 77)
 (.seq (.ops [o 78 (.mv (.t 10)), o 79 (.mv (.t 7)), o 80 (.bin .sub (.t 78) (.t 79)), o 4 (.mv (.t 80))] [4])
 (.ret))
 (.skip))))))))
def c232 : AFunc := ⟨81, [.tmp 4],
 .seq (.ops [o 4 (.mv (ci 0))] [0, 1])
 (.seq (.ops [o 12 (.mv (.t 1)), o 13 (.call true true 0 (.fn 241) [.t 12]), o 11 (.mv (.t 13)), o 14 (.ext (.t 11) 0), o 15 (.ext (.t 11) 1), o 5 (.mv (.t 14)), o 6 (.mv (.t 15))] [0, 1, 5, 6])
 (.seq (.ops [o 16 (.mv (.t 1)), o 17 (.len 0 (.t 16)), o 7 (.mv (.t 17))] [0, 1, 5, 6, 7])
 (.seq (.ops [o 8 (.mv (.c (.p (.int .u32 0))))] [0, 1, 5, 6, 7, 8])
 (.seq (.seq (.ops [o 9 (.mv (ci 0))] [0, 1, 5, 6, 7, 8, 9])
 (.block 0 (.loop false [0, 1, 5, 6, 7, 8, 9] c232L0)))
 (.seq (.seq (.ops [o 30 (.mv (.t 8)), o 31 (.mv (.t 5)), o 32 (.bin .eql (.t 30) (.t 31)), o 33 (.mv (.t 32)), ⟨some 34, .mv (.t 0), some (33, true)⟩, ⟨some 35, .mv (.t 7), some (33, true)⟩, ⟨some 36, .slcs (.t 34) none (some (.t 35)), some (33, true)⟩, ⟨some 37, .mv (.t 1), some (33, true)⟩, ⟨some 38, .bin .eql (.t 36) (.t 37), some (33, true)⟩, o 39 (.pick (.t 33) (.t 38) (cb false))] [0, 1, 5, 6, 7, 8, 39])
 (.cond (.t 39)
 (.seq (.ops [o 4 (.mv (ci 0))] [4])
 (.ret))
 (.skip)))
 (.seq (.seq (.ops [o 40 (.mv (.t 7)), o 10 (.mv (.t 40))] [0, 1, 5, 6, 7, 8, 10])
 (.block 2 (.loop false [0, 1, 5, 6, 7, 8, 10] c232L1)))
 (.seq (.ops [o 4 (.mv (ci (-1)))] [4])
 (.ret))))))))⟩

/-- math.Abs -/
def c233 : AFunc := ⟨7, [.tmp 2],
 .seq (.ops [o 2 (.mv (.c (.p (.flt .f64 0))))] [0])
 (.seq (.ops [o 3 (.mv (.t 0)), o 4 (.call true true 0 (.fn 243) [.t 3]), o 5 (.bin .andNot (.t 4) (.c (.p (.int .u64 9223372036854775808)))), o 6 (.call true true 0 (.fn 242) [.t 5]), o 2 (.mv (.t 6))] [2])
 (.ret))⟩

/-- math.floor -/
def c235 : AFunc := ⟨38, [.tmp 2],
 .seq (.ops [o 2 (.mv (.c (.p (.flt .f64 0))))] [0])
 (.seq (.seq (.ops [o 7 (.mv (.t 0)), o 8 (.bin .eql (.t 7) (.c (.p (.flt .f64 0)))), o 9 (.mv (.t 8)), ⟨some 10, .mv (.t 0), some (9, false)⟩, ⟨some 11, .call true true 0 (.fn 222) [.t 10], some (9, false)⟩, o 12 (.pick (.t 9) (cb true) (.t 11)), o 13 (.mv (.t 12)), ⟨some 14, .mv (.t 0), some (13, false)⟩, ⟨some 15, .call true true 0 (.fn 223) [.t 14, ci 0], some (13, false)⟩, o 16 (.pick (.t 13) (cb true) (.t 15))] [0, 16])
 (.cond (.t 16)
 (.seq (.ops [o 17 (.mv (.t 0)), o 2 (.mv (.t 17))] [2])
 (.ret))
 (.skip)))
 (.seq (.seq (.ops [o 18 (.mv (.t 0)), o 19 (.bin .lss (.t 18) (.c (.p (.flt .f64 0))))] [0, 19])
 (.cond (.t 19)
 (.seq (.ops [o 21 (.mv (.t 0)), o 22 (.neg (.t 21)), o 23 (.call true true 0 (.fn 244) [.t 22]), o 20 (.mv (.t 23)), o 24 (.ext (.t 20) 0), o 25 (.ext (.t 20) 1), o 3 (.mv (.t 24)), o 4 (.mv (.t 25))] [3, 4])
 (.seq (.seq (.ops [o 26 (.mv (.t 4)), o 27 (.bin .neq (.t 26) (.c (.p (.flt .f64 0))))] [3, 27])
 (.cond (.t 27)
 (.ops [o 28 (.mv (.t 3)), o 29 (.bin .add (.t 28) (.c (.p (.flt .f64 4607182418800017408)))), o 3 (.mv (.t 29))] [3])
 (.skip)))
 (.seq (.ops [o 30 (.mv (.t 3)), o 31 (.neg (.t 30)), o 2 (.mv (.t 31))] [2])
 (.ret))))
 (.skip)))
 (.seq (.ops [o 33 (.mv (.t 0)), o 34 (.call true true 0 (.fn 244) [.t 33]), o 32 (.mv (.t 34)), o 35 (.ext (.t 32) 0), o 36 (.ext (.t 32) 1), o 5 (.mv (.t 35)), o 6 (.mv (.t 36))] [5])
 (.seq (.ops [o 37 (.mv (.t 5)), o 2 (.mv (.t 37))] [2])
 (.ret)))))⟩

/-- internal/bytealg.hashStr[string] -/
def c241L0 : ACode :=
 .seq (.seq (.ops [o 9 (.mv (.t 5)), o 10 (.mv (.t 0)), o 11 (.len 0 (.t 10)), o 12 (.bin .lss (.t 9) (.t 11))] [0, 4, 5, 12])
 (.cond (.t 12)
 (.skip)
 (.exit 0)))
 (.seq (.block 1 (.ops [o 15 (.mv (.t 4)), o 16 (.bin .mul (.t 15) (.c (.p (.int .u32 16777619)))), o 17 (.mv (.t 0)), o 18 (.mv (.t 5)), o 19 (.idxs (.t 17) (.t 18)), o 20 (.conv (.int .u32) (.t 19)), o 21 (.bin .add (.t 16) (.t 20)), o 4 (.mv (.t 21))] [0, 4, 5]))
 (.ops [o 13 (.mv (.t 5)), o 14 (.bin .add (.t 13) (ci 1)), o 5 (.mv (.t 14))] [0, 4, 5]))
def c241L1 : ACode :=
 .seq (.seq (.ops [o 24 (.mv (.t 8)), o 25 (.bin .gtr (.t 24) (ci 0))] [4, 6, 7, 8, 25])
 (.cond (.t 25)
 (.skip)
 (.exit 2)))
 (.seq (.block 3 (.seq (.seq (.ops [o 28 (.mv (.t 8)), o 29 (.bin .and (.t 28) (ci 1)), o 30 (.bin .neq (.t 29) (ci 0))] [4, 6, 7, 8, 30])
 (.cond (.t 30)
 (.ops [o 31 (.mv (.t 6)), o 32 (.mv (.t 7)), o 33 (.bin .mul (.t 31) (.t 32)), o 6 (.mv (.t 33))] [4, 6, 7, 8])
 (.skip)))
 (.ops [o 34 (.mv (.t 7)), o 35 (.mv (.t 7)), o 36 (.bin .mul (.t 34) (.t 35)), o 7 (.mv (.t 36))] [4, 6, 7, 8])))
 (.ops [o 26 (.mv (.t 8)), o 27 (.shift false (.t 26) (.c (.p (.int .u64 1)))), o 8 (.mv (.t 27))] [4, 6, 7, 8]))
def c241 : AFunc := ⟨39, [.tmp 2, .tmp 3],
 .seq (.ops [o 2 (.mv (.c (.p (.int .u32 0)))), o 3 (.mv (.c (.p (.int .u32 0))))] [0])
 (.seq (.ops [o 4 (.mv (.c (.p (.int .u32 0))))] [0, 4])
 (.seq (.seq (.ops [o 5 (.mv (ci 0))] [0, 4, 5])
 (.block 0 (.loop false [0, 4, 5] c241L0)))
 (.seq (.ops [o 6 (.mv (.c (.p (.int .u32 1)))), o 7 (.mv (.c (.p (.int .u32 16777619))))] [0, 4, 6, 7])
 (.seq (.seq (.ops [o 22 (.mv (.t 0)), o 23 (.len 0 (.t 22)), o 8 (.mv (.t 23))] [4, 6, 7, 8])
 (.block 2 (.loop false [4, 6, 7, 8] c241L1)))
 (.seq (.ops [o 37 (.mv (.t 4)), o 38 (.mv (.t 6)), o 2 (.mv (.t 37)), o 3 (.mv (.t 38))] [2, 3])
 (.ret))))))⟩

/-- math.Modf -/
def c244 : AFunc := ⟨11, [.tmp 2, .tmp 3],
 .seq (.ops [o 2 (.mv (.c (.p (.flt .f64 0)))), o 3 (.mv (.c (.p (.flt .f64 0))))] [0])
 (.seq (.ops [o 4 (.mv (.t 0)), o 5 (.call true true 0 (.fn 247) [.t 4]), o 2 (.mv (.t 5))] [0, 2])
 (.seq (.ops [o 6 (.mv (.t 0)), o 7 (.mv (.t 2)), o 8 (.bin .sub (.t 6) (.t 7)), o 9 (.mv (.t 0)), o 10 (.call true true 0 (.fn 248) [.t 8, .t 9]), o 3 (.mv (.t 10))] [2, 3])
 (.ret)))⟩

/-- math.Trunc -/
def c247 : AFunc := ⟨7, [.tmp 2],
 .seq (.ops [o 2 (.mv (.c (.p (.flt .f64 0))))] [0])
 (.seq (.cond (cb true)
 (.seq (.ops [o 3 (.mv (.t 0)), o 4 (.call true true 0 (.fn 249) [.t 3]), o 2 (.mv (.t 4))] [2])
 (.ret))
 (.skip))
 (.seq (.ops [o 5 (.mv (.t 0)), o 6 (.call true true 0 (.fn 250) [.t 5]), o 2 (.mv (.t 6))] [2])
 (.ret)))⟩

/-- math.Copysign -/
def c248 : AFunc := ⟨13, [.tmp 4],
 .seq (.ops [o 4 (.mv (.c (.p (.flt .f64 0))))] [0, 1])
 (.seq (.ops [o 5 (.mv (.t 0)), o 6 (.call true true 0 (.fn 243) [.t 5]), o 7 (.bin .andNot (.t 6) (.c (.p (.int .u64 9223372036854775808)))), o 8 (.mv (.t 1)), o 9 (.call true true 0 (.fn 243) [.t 8]), o 10 (.bin .and (.t 9) (.c (.p (.int .u64 9223372036854775808)))), o 11 (.bin .or (.t 7) (.t 10)), o 12 (.call true true 0 (.fn 242) [.t 11]), o 4 (.mv (.t 12))] [4])
 (.ret))⟩

/-- math.trunc -/
def c250 : AFunc := ⟨26, [.tmp 2],
 .seq (.ops [o 2 (.mv (.c (.p (.flt .f64 0))))] [0])
 (.seq (.seq (.ops [o 5 (.mv (.t 0)), o 6 (.call true true 0 (.fn 233) [.t 5]), o 7 (.bin .lss (.t 6) (.c (.p (.flt .f64 4607182418800017408))))] [0, 7])
 (.cond (.t 7)
 (.seq (.ops [o 8 (.mv (.t 0)), o 9 (.call true true 0 (.fn 248) [.c (.p (.flt .f64 0)), .t 8]), o 2 (.mv (.t 9))] [2])
 (.ret))
 (.skip)))
 (.seq (.ops [o 10 (.mv (.t 0)), o 11 (.call true true 0 (.fn 243) [.t 10]), o 3 (.mv (.t 11))] [3])
 (.seq (.ops [o 12 (.mv (.t 3)), o 13 (.shift false (.t 12) (.c (.p (.int .u64 52)))), o 14 (.bin .and (.t 13) (.c (.p (.int .u64 2047)))), o 15 (.bin .sub (.t 14) (.c (.p (.int .u64 1023)))), o 4 (.mv (.t 15))] [3, 4])
 (.seq (.seq (.ops [o 16 (.mv (.t 4)), o 17 (.bin .lss (.t 16) (.c (.p (.int .u64 52))))] [3, 4, 17])
 (.cond (.t 17)
 (.ops [o 18 (.mv (.t 3)), o 19 (.mv (.t 4)), o 20 (.bin .sub (.c (.p (.int .u64 52))) (.t 19)), o 21 (.shift true (.c (.p (.int .u64 1))) (.t 20)), o 22 (.bin .sub (.t 21) (.c (.p (.int .u64 1)))), o 23 (.bin .andNot (.t 18) (.t 22)), o 3 (.mv (.t 23))] [3])
 (.skip)))
 (.seq (.ops [o 24 (.mv (.t 3)), o 25 (.call true true 0 (.fn 242) [.t 24]), o 2 (.mv (.t 25))] [2])
 (.ret))))))⟩

/-- crumple/channel.floor -/
def c268 : AFunc := ⟨16, [.tmp 4],
 .seq (.ops [o 4 (.mv (ci 0))] [0, 1])
 (.seq (.ops [o 6 (.mv (.t 0)), o 7 (.mv (.t 1)), o 8 (.bin .quo (.t 6) (.t 7)), o 5 (.mv (.t 8))] [0, 1, 5])
 (.seq (.seq (.ops [o 9 (.mv (.t 0)), o 10 (.mv (.t 1)), o 11 (.bin .rem (.t 9) (.t 10)), o 12 (.bin .lss (.t 11) (ci 0))] [5, 12])
 (.cond (.t 12)
 (.ops [o 13 (.mv (.t 5)), o 14 (.bin .sub (.t 13) (ci 1)), o 5 (.mv (.t 14))] [5])
 (.skip)))
 (.seq (.ops [o 15 (.mv (.t 5)), o 4 (.mv (.t 15))] [4])
 (.ret))))⟩

/-- crumple/channel.up$1 -/
def c269 : AFunc := ⟨10, [.tmp 4],
 .seq (.ops [o 4 (.mv (ci 0))] [0, 1])
 (.seq (.ops [o 5 (.mv (.t 0)), o 6 (.neg (.t 5)), o 7 (.mv (.t 1)), o 8 (.call true true 0 (.fn 268) [.t 6, .t 7]), o 9 (.neg (.t 8)), o 4 (.mv (.t 9))] [4])
 (.ret))⟩

/-- crumple/channel.near$1 -/
def c270 : AFunc := ⟨12, [.tmp 4],
 .seq (.ops [o 4 (.mv (ci 0))] [0, 1])
 (.seq (.ops [o 5 (.mv (.t 0)), o 6 (.bin .mul (ci 2) (.t 5)), o 7 (.mv (.t 1)), o 8 (.bin .add (.t 6) (.t 7)), o 9 (.mv (.t 1)), o 10 (.bin .mul (ci 2) (.t 9)), o 11 (.call true true 0 (.fn 268) [.t 8, .t 10]), o 4 (.mv (.t 11))] [4])
 (.ret))⟩


def FT : Tr := (.node 141 c141 (.node 93 c93 (.node 49 c49 (.node 27 c27 (.node 17 c17 (.node 15 c15 (.node 14 c14 (.node 13 c13 .leaf .leaf) .leaf) (.node 16 c16 .leaf .leaf)) (.node 25 c25 (.node 23 c23 (.node 21 c21 .leaf .leaf) .leaf) (.node 26 c26 .leaf .leaf))) (.node 38 c38 (.node 35 c35 (.node 34 c34 (.node 29 c29 .leaf .leaf) .leaf) (.node 36 c36 .leaf .leaf)) (.node 47 c47 (.node 41 c41 (.node 40 c40 .leaf .leaf) .leaf) (.node 48 c48 .leaf .leaf)))) (.node 73 c73 (.node 63 c63 (.node 57 c57 (.node 55 c55 (.node 51 c51 .leaf .leaf) .leaf) (.node 59 c59 .leaf .leaf)) (.node 71 c71 (.node 70 c70 (.node 65 c65 .leaf .leaf) .leaf) (.node 72 c72 .leaf .leaf))) (.node 86 c86 (.node 84 c84 (.node 83 c83 (.node 74 c74 .leaf .leaf) .leaf) (.node 85 c85 .leaf .leaf)) (.node 91 c91 (.node 90 c90 (.node 88 c88 .leaf .leaf) .leaf) (.node 92 c92 .leaf .leaf))))) (.node 114 c114 (.node 103 c103 (.node 98 c98 (.node 96 c96 (.node 95 c95 (.node 94 c94 .leaf .leaf) .leaf) (.node 97 c97 .leaf .leaf)) (.node 101 c101 (.node 100 c100 (.node 99 c99 .leaf .leaf) .leaf) (.node 102 c102 .leaf .leaf))) (.node 108 c108 (.node 106 c106 (.node 105 c105 (.node 104 c104 .leaf .leaf) .leaf) (.node 107 c107 .leaf .leaf)) (.node 112 c112 (.node 111 c111 (.node 109 c109 .leaf .leaf) .leaf) (.node 113 c113 .leaf .leaf)))) (.node 132 c132 (.node 122 c122 (.node 117 c117 (.node 116 c116 (.node 115 c115 .leaf .leaf) .leaf) (.node 121 c121 .leaf .leaf)) (.node 125 c125 (.node 124 c124 (.node 123 c123 .leaf .leaf) .leaf) (.node 131 c131 .leaf .leaf))) (.node 137 c137 (.node 135 c135 (.node 134 c134 (.node 133 c133 .leaf .leaf) .leaf) (.node 136 c136 .leaf .leaf)) (.node 139 c139 (.node 138 c138 .leaf .leaf) (.node 140 c140 .leaf .leaf)))))) (.node 187 c187 (.node 166 c166 (.node 154 c154 (.node 146 c146 (.node 144 c144 (.node 143 c143 (.node 142 c142 .leaf .leaf) .leaf) (.node 145 c145 .leaf .leaf)) (.node 149 c149 (.node 148 c148 (.node 147 c147 .leaf .leaf) .leaf) (.node 150 c150 .leaf .leaf))) (.node 159 c159 (.node 157 c157 (.node 156 c156 (.node 155 c155 .leaf .leaf) .leaf) (.node 158 c158 .leaf .leaf)) (.node 164 c164 (.node 163 c163 (.node 161 c161 .leaf .leaf) .leaf) (.node 165 c165 .leaf .leaf)))) (.node 176 c176 (.node 171 c171 (.node 169 c169 (.node 168 c168 (.node 167 c167 .leaf .leaf) .leaf) (.node 170 c170 .leaf .leaf)) (.node 174 c174 (.node 173 c173 (.node 172 c172 .leaf .leaf) .leaf) (.node 175 c175 .leaf .leaf))) (.node 183 c183 (.node 181 c181 (.node 178 c178 (.node 177 c177 .leaf .leaf) .leaf) (.node 182 c182 .leaf .leaf)) (.node 185 c185 (.node 184 c184 .leaf .leaf) (.node 186 c186 .leaf .leaf))))) (.node 218 c218 (.node 201 c201 (.node 196 c196 (.node 193 c193 (.node 189 c189 (.node 188 c188 .leaf .leaf) .leaf) (.node 195 c195 .leaf .leaf)) (.node 199 c199 (.node 198 c198 (.node 197 c197 .leaf .leaf) .leaf) (.node 200 c200 .leaf .leaf))) (.node 209 c209 (.node 207 c207 (.node 206 c206 (.node 202 c202 .leaf .leaf) .leaf) (.node 208 c208 .leaf .leaf)) (.node 212 c212 (.node 211 c211 (.node 210 c210 .leaf .leaf) .leaf) (.node 213 c213 .leaf .leaf)))) (.node 235 c235 (.node 224 c224 (.node 222 c222 (.node 221 c221 (.node 219 c219 .leaf .leaf) .leaf) (.node 223 c223 .leaf .leaf)) (.node 232 c232 (.node 231 c231 (.node 229 c229 .leaf .leaf) .leaf) (.node 233 c233 .leaf .leaf))) (.node 250 c250 (.node 247 c247 (.node 244 c244 (.node 241 c241 .leaf .leaf) .leaf) (.node 248 c248 .leaf .leaf)) (.node 269 c269 (.node 268 c268 .leaf .leaf) (.node 270 c270 .leaf .leaf)))))))
def F (n : Nat) : Option AFunc := FT.find n
end Fw
