/- The functions of the program, written for the evaluator, second part: definitions alone. -/
import Derived.Test.YtbaedpfgjpkabaaGreatDoorChCode
namespace Fw
open Go
/-- crumple/crumpleref01.Sixteenths -/
def c85 : AFunc := ⟨6, [.tmp 2],
 .seq (.ops [o 2 (.mv (ci 0))] [0])
 (.seq (.ops [o 3 (.mv (.t 0)), o 4 (.bin .mul (.c (.p (.flt .f32 1098907648))) (.t 3)), o 5 (.conv (.int .i64) (.t 4)), o 2 (.mv (.t 5))] [2])
 (.ret))⟩

/-- crumple/crumpleref01.Made -/
def c86L0 : ACode :=
 .seq (.seq (.ops [o 5 (.mv (.t 4)), o 6 (.mv (.t 0)), o 7 (.len 1 (.t 6)), o 8 (.bin .lss (.t 5) (.t 7))] [0, 3, 4, 8])
 (.cond (.t 8)
 (.skip)
 (.exit 0)))
 (.seq (.block 1 (.ops [o 11 (.mv (.t 3)), o 12 (.mv (.t 0)), o 13 (.mv (.t 4)), o 14 (.iadr 1 (.t 12) (.t 13)), o 15 (.ld false 1 (.t 14)), o 16 (.call true true 0 (.fn 83) [.t 15]), o 17 (.bslice false 1 [.p (.flt .f32 0)] 1 [(0, .t 16)]), o 18 (.app 1 4 [.p (.flt .f32 0)] (.t 11) (.t 17)), o 3 (.mv (.t 18))] [0, 3, 4]))
 (.ops [o 9 (.mv (.t 4)), o 10 (.bin .add (.t 9) (ci 1)), o 4 (.mv (.t 10))] [0, 3, 4]))
def c86 : AFunc := ⟨20, [.tmp 2],
 .seq (.ops [o 2 (.mv (cn))] [0])
 (.seq (.ops [o 3 (.nilown 1)] [0, 3])
 (.seq (.seq (.ops [o 4 (.mv (ci 0))] [0, 3, 4])
 (.block 0 (.loop false [0, 3, 4] c86L0)))
 (.seq (.ops [o 19 (.mv (.t 3)), o 2 (.mv (.t 19))] [2])
 (.ret))))⟩

/-- crumple/crumpleref01.Integers -/
def c88L0 : ACode :=
 .seq (.seq (.ops [o 5 (.mv (.t 4)), o 6 (.mv (.t 0)), o 7 (.len 1 (.t 6)), o 8 (.bin .lss (.t 5) (.t 7))] [0, 3, 4, 8])
 (.cond (.t 8)
 (.skip)
 (.exit 0)))
 (.seq (.block 1 (.ops [o 11 (.mv (.t 3)), o 12 (.mv (.t 0)), o 13 (.mv (.t 4)), o 14 (.iadr 1 (.t 12) (.t 13)), o 15 (.ld false 1 (.t 14)), o 16 (.call true true 0 (.fn 85) [.t 15]), o 17 (.bslice false 1 [.p (.int .i64 0)] 1 [(0, .t 16)]), o 18 (.app 1 8 [.p (.int .i64 0)] (.t 11) (.t 17)), o 3 (.mv (.t 18))] [0, 3, 4]))
 (.ops [o 9 (.mv (.t 4)), o 10 (.bin .add (.t 9) (ci 1)), o 4 (.mv (.t 10))] [0, 3, 4]))
def c88 : AFunc := ⟨20, [.tmp 2],
 .seq (.ops [o 2 (.mv (cn))] [0])
 (.seq (.ops [o 3 (.nilown 1)] [0, 3])
 (.seq (.seq (.ops [o 4 (.mv (ci 0))] [0, 3, 4])
 (.block 0 (.loop false [0, 3, 4] c88L0)))
 (.seq (.ops [o 19 (.mv (.t 3)), o 2 (.mv (.t 19))] [2])
 (.ret))))⟩

/-- crumple/crumplelaw02.to -/
def c90 : AFunc := ⟨8, [.cell 4 true 2],
 .seq (.ops [o 4 (.alloc true 1 [.p (.int .i64 0), .p (.int .i64 0)])] [0, 1, 4])
 (.seq (.ops [o 5 (.mv (.t 0)), o 6 (.mv (.t 1)), o 7 (.build [.p (.int .i64 0), .p (.int .i64 0)] [(0, 1, .t 5), (1, 1, .t 6)]), u (.st 2 (.t 4) (.t 7))] [4])
 (.ret))⟩

/-- crumple/channel.Print -/
def c92 : AFunc := ⟨13, [.tmp 2, .tmp 3],
 .seq (.ops [o 2 (.mv (cs [])), o 3 (.mv (ci 0))] [0])
 (.seq (.seq (.ops [o 5 (.mv (.t 0)), o 6 (.call true true 0 (.fn 161) [.t 5]), o 4 (.mv (.t 6))] [0, 4])
 (.seq (.ops [o 7 (.mv (.t 4)), o 8 (.bin .neq (.t 7) (ci 0))] [0, 4, 8])
 (.cond (.t 8)
 (.seq (.ops [o 9 (.mv (.t 4)), o 2 (.mv (cs [])), o 3 (.mv (.t 9))] [2, 3])
 (.ret))
 (.skip))))
 (.seq (.ops [o 10 (.mv (.t 0)), o 11 (.call true false 0 (.fn 163) [.t 10, cf 164]), o 12 (.call true true 0 (.fn 162) [.t 11, cs []]), o 2 (.mv (.t 12)), o 3 (.mv (ci 0))] [2, 3])
 (.ret)))⟩

/-- crumple/crumplelaw02.gauge -/
def c101 : AFunc := ⟨3, [.cell 0 true 4],
 .seq (.ops [o 0 (.alloc true 1 [.p (.str []), .p (.int .i64 0), .p (.int .i64 0), .p (.int .i64 0)])] [0])
 (.seq (.ops [o 1 (.call true true 0 (.fn 90) [ci 990, ci 1010]), o 2 (.build [.p (.str []), .p (.int .i64 0), .p (.int .i64 0), .p (.int .i64 0)] [(0, 1, cs [115]), (1, 1, ci 1600), (2, 2, .t 1)]), u (.st 4 (.t 0) (.t 2))] [0])
 (.ret))⟩

/-- crumple/channel.letter -/
def c102L0 : ACode :=
 .seq (.ops [o 8 (.bin .lss (.t 7) (.t 6))] [0, 3, 6, 7, 8])
 (.seq (.cond (.t 8)
 (.skip)
 (.exit 0))
 (.seq (.block 1 (.seq (.ops [o 9 (.mv (.t 7)), o 4 (.mv (.t 9))] [0, 3, 4, 6, 7])
 (.ops [o 10 (.mv (.t 3)), o 11 (.mv (.t 0)), o 12 (.mv (.t 4)), o 13 (.idxs (.t 11) (.t 12)), o 14 (.conv (.int .i64) (.t 13)), o 15 (.bin .add (.t 10) (.t 14)), o 3 (.mv (.t 15))] [0, 3, 6, 7])))
 (.ops [o 16 (.bin .add (.t 7) (ci 1)), o 7 (.mv (.t 16))] [0, 3, 6, 7])))
def c102 : AFunc := ⟨21, [.tmp 2],
 .seq (.ops [o 2 (.mv (.c (.p (.int .u8 0))))] [0])
 (.seq (.ops [o 3 (.mv (ci 0))] [0, 3])
 (.seq (.seq (.ops [o 5 (.mv (.t 0)), o 6 (.len 0 (.t 5)), o 7 (.mv (ci 0))] [0, 3, 6, 7])
 (.block 0 (.loop false [0, 3, 6, 7] c102L0)))
 (.seq (.ops [o 17 (.mv (.t 3)), o 18 (.bin .rem (.t 17) (ci 26)), o 19 (.bin .add (ci 65) (.t 18)), o 20 (.conv (.int .u8) (.t 19)), o 2 (.mv (.t 20))] [2])
 (.ret))))⟩

/-- crumple/channel.first -/
def c103L0 : ACode :=
 .seq (.ops [o 8 (.bin .lss (.t 7) (.t 6))] [5, 6, 7, 8])
 (.seq (.cond (.t 8)
 (.skip)
 (.exit 0))
 (.seq (.block 1 (.seq (.ops [o 9 (.iadr 1 (.t 5) (.t 7)), o 10 (.ld false 1 (.t 9)), o 4 (.mv (.t 10))] [4, 5, 6, 7])
 (.seq (.ops [o 11 (.mv (.t 4)), o 12 (.bin .neq (.t 11) (ci 0))] [4, 5, 6, 7, 12])
 (.cond (.t 12)
 (.seq (.ops [o 13 (.mv (.t 4)), o 2 (.mv (.t 13))] [2])
 (.ret))
 (.skip)))))
 (.ops [o 14 (.bin .add (.t 7) (ci 1)), o 7 (.mv (.t 14))] [5, 6, 7])))
def c103 : AFunc := ⟨15, [.tmp 2],
 .seq (.ops [o 2 (.mv (ci 0))] [0])
 (.seq (.seq (.ops [o 5 (.mv (.t 0)), o 6 (.len 1 (.t 5)), o 7 (.mv (ci 0))] [5, 6, 7])
 (.block 0 (.loop false [5, 6, 7] c103L0)))
 (.seq (.ops [o 2 (.mv (ci 0))] [2])
 (.ret)))⟩

/-- crumple/channel.when -/
def c104 : AFunc := ⟨7, [.tmp 4],
 .seq (.ops [o 4 (.mv (ci 0))] [0, 1])
 (.seq (.seq (.ops [o 5 (.mv (.t 0))] [1, 5])
 (.cond (.t 5)
 (.seq (.ops [o 6 (.mv (.t 1)), o 4 (.mv (.t 6))] [4])
 (.ret))
 (.skip)))
 (.seq (.ops [o 4 (.mv (ci 0))] [4])
 (.ret)))⟩

/-- slices.Index[[]byte,byte] -/
def c105L0 : ACode :=
 .seq (.ops [o 9 (.bin .lss (.t 8) (.t 7))] [0, 1, 7, 8, 9])
 (.seq (.cond (.t 9)
 (.skip)
 (.exit 0))
 (.seq (.block 1 (.seq (.ops [o 10 (.mv (.t 8)), o 5 (.mv (.t 10))] [0, 1, 5, 7, 8])
 (.seq (.ops [o 11 (.mv (.t 1)), o 12 (.mv (.t 0)), o 13 (.mv (.t 5)), o 14 (.iadr 1 (.t 12) (.t 13)), o 15 (.ld false 1 (.t 14)), o 16 (.bin .eql (.t 11) (.t 15))] [0, 1, 5, 7, 8, 16])
 (.cond (.t 16)
 (.seq (.ops [o 17 (.mv (.t 5)), o 4 (.mv (.t 17))] [4])
 (.ret))
 (.skip)))))
 (.ops [o 18 (.bin .add (.t 8) (ci 1)), o 8 (.mv (.t 18))] [0, 1, 7, 8])))
def c105 : AFunc := ⟨19, [.tmp 4],
 .seq (.ops [o 4 (.mv (ci 0))] [0, 1])
 (.seq (.seq (.ops [o 6 (.mv (.t 0)), o 7 (.len 1 (.t 6)), o 8 (.mv (ci 0))] [0, 1, 7, 8])
 (.block 0 (.loop false [0, 1, 7, 8] c105L0)))
 (.seq (.ops [o 4 (.mv (ci (-1)))] [4])
 (.ret)))⟩

/-- crumple/record.IsName -/
def c106L0 : ACode :=
 .seq (.ops [o 8 (.nxt (.t 7) true), o 9 (.ext (.t 8) 0)] [0, 7, 8, 9])
 (.seq (.cond (.t 9)
 (.skip)
 (.exit 0))
 (.block 1 (.seq (.ops [o 10 (.ext (.t 8) 1), o 11 (.ext (.t 8) 2), o 3 (.mv (.t 10)), o 4 (.mv (.t 11))] [0, 3, 4, 7])
 (.seq (.ops [o 12 (.mv (.t 4)), o 13 (.bin .geq (.t 12) (.c (.p (.int .i32 97)))), o 14 (.mv (.t 13)), ⟨some 15, .mv (.t 4), some (14, true)⟩, ⟨some 16, .bin .leq (.t 15) (.c (.p (.int .i32 122))), some (14, true)⟩, o 17 (.pick (.t 14) (.t 16) (cb false)), o 18 (.mv (.t 17)), ⟨some 19, .mv (.t 4), some (18, false)⟩, ⟨some 20, .bin .geq (.t 19) (.c (.p (.int .i32 65))), some (18, false)⟩, ⟨some 21, .mv (.t 20), some (18, false)⟩, ⟨some 22, .mv (.t 4), some (21, true)⟩, ⟨some 23, .bin .leq (.t 22) (.c (.p (.int .i32 90))), some (21, true)⟩, ⟨some 24, .pick (.t 21) (.t 23) (cb false), some (18, false)⟩, o 25 (.pick (.t 18) (cb true) (.t 24)), o 5 (.mv (.t 25))] [0, 3, 4, 5, 7])
 (.seq (.ops [o 26 (.mv (.t 5)), o 27 (.not (.t 26)), o 28 (.mv (.t 27)), ⟨some 29, .mv (.t 3), some (28, true)⟩, ⟨some 30, .bin .eql (.t 29) (ci 0), some (28, true)⟩, ⟨some 31, .mv (.t 30), some (28, true)⟩, ⟨some 32, .mv (.t 4), some (31, false)⟩, ⟨some 33, .bin .neq (.t 32) (.c (.p (.int .i32 95))), some (31, false)⟩, ⟨some 34, .mv (.t 33), some (31, false)⟩, ⟨some 35, .mv (.t 4), some (34, true)⟩, ⟨some 36, .bin .lss (.t 35) (.c (.p (.int .i32 48))), some (34, true)⟩, ⟨some 37, .mv (.t 36), some (34, true)⟩, ⟨some 38, .mv (.t 4), some (37, false)⟩, ⟨some 39, .bin .gtr (.t 38) (.c (.p (.int .i32 57))), some (37, false)⟩, ⟨some 40, .pick (.t 37) (cb true) (.t 39), some (34, true)⟩, ⟨some 41, .pick (.t 34) (.t 40) (cb false), some (31, false)⟩, ⟨some 42, .pick (.t 31) (cb true) (.t 41), some (28, true)⟩, o 43 (.pick (.t 28) (.t 42) (cb false))] [0, 7, 43])
 (.cond (.t 43)
 (.seq (.ops [o 2 (.mv (cb false))] [2])
 (.ret))
 (.skip)))))))
def c106 : AFunc := ⟨51, [.tmp 2],
 .seq (.ops [o 2 (.mv (cb false))] [0])
 (.seq (.seq (.ops [o 6 (.mv (.t 0)), o 7 (.rngs (.t 6))] [0, 7])
 (.block 0 (.loop false [0, 7] c106L0)))
 (.seq (.ops [o 44 (.mv (.t 0)), o 45 (.bin .neq (.t 44) (cs [])), o 46 (.mv (.t 45)), ⟨some 47, .mv (.t 0), some (46, true)⟩, ⟨some 48, .len 0 (.t 47), some (46, true)⟩, ⟨some 49, .bin .leq (.t 48) (ci 24), some (46, true)⟩, o 50 (.pick (.t 46) (.t 49) (cb false)), o 2 (.mv (.t 50))] [2])
 (.ret)))⟩

/-- crumple/crumpleref01.CheckRange -/
def c108 : AFunc := ⟨16, [.tmp 6],
 .seq (.ops [o 6 (.mv (ci 0))] [0, 1, 2])
 (.seq (.ops [o 7 (.mv (.t 0)), o 8 (.mv (.t 1)), o 9 (.bin .lss (.t 7) (.t 8)), o 10 (.mv (.t 9)), ⟨some 11, .mv (.t 0), some (10, false)⟩, ⟨some 12, .mv (.t 2), some (10, false)⟩, ⟨some 13, .bin .gtr (.t 11) (.t 12), some (10, false)⟩, o 14 (.pick (.t 10) (cb true) (.t 13)), o 15 (.call true true 0 (.fn 109) [.t 14, ci 3]), o 6 (.mv (.t 15))] [6])
 (.ret))⟩

/-- crumple/crumpleref01.When -/
def c109 : AFunc := ⟨7, [.tmp 4],
 .seq (.ops [o 4 (.mv (ci 0))] [0, 1])
 (.seq (.seq (.ops [o 5 (.mv (.t 0))] [1, 5])
 (.cond (.t 5)
 (.seq (.ops [o 6 (.mv (.t 1)), o 4 (.mv (.t 6))] [4])
 (.ret))
 (.skip)))
 (.seq (.ops [o 4 (.mv (ci 0))] [4])
 (.ret)))⟩

/-- crumple/channel.within -/
def c111 : AFunc := ⟨16, [.tmp 6],
 .seq (.ops [o 6 (.mv (ci 0))] [0, 1, 2])
 (.seq (.ops [o 7 (.mv (.t 0)), o 8 (.mv (.t 1)), o 9 (.bin .lss (.t 7) (.t 8)), o 10 (.mv (.t 9)), ⟨some 11, .mv (.t 0), some (10, false)⟩, ⟨some 12, .mv (.t 2), some (10, false)⟩, ⟨some 13, .bin .gtr (.t 11) (.t 12), some (10, false)⟩, o 14 (.pick (.t 10) (cb true) (.t 13)), o 15 (.call true true 0 (.fn 104) [.t 14, ci 3]), o 6 (.mv (.t 15))] [6])
 (.ret))⟩

/-- crumple/channel.checkOffset -/
def c112 : AFunc := ⟨16, [.tmp 4],
 .seq (.ops [o 4 (.mv (ci 0))] [0, 1])
 (.seq (.ops [o 5 (.mv (.t 0)), o 6 (.call true true 0 (.fn 122) [.t 5]), o 7 (.mv (.t 1)), o 8 (.call true true 0 (.fn 111) [.t 7, ci 1, ci 64]), o 9 (.mv (.t 0)), o 10 (.len 1 (.t 9)), o 11 (.mv (.t 1)), o 12 (.bin .lss (.t 10) (.t 11)), o 13 (.call true true 0 (.fn 104) [.t 12, ci 16]), o 14 (.bslice false 1 [.p (.int .i64 0)] 3 [(0, .t 6), (1, .t 8), (2, .t 13)]), o 15 (.call true true 0 (.fn 103) [.t 14]), o 4 (.mv (.t 15))] [4])
 (.ret))⟩

/-- crumple/channel.offset -/
def c113 : AFunc := ⟨15, [.cell 4 true 2],
 .seq (.ops [o 4 (.alloc true 1 [.p (.int .i64 0), .p (.int .i64 0)])] [0, 1, 4])
 (.seq (.ops [o 6 (.mv (.t 0)), o 7 (.mv (.t 1)), o 8 (.slc 1 (.t 6) none (some (.t 7))), o 9 (.call true false 0 (.fn 115) [.t 8]), o 5 (.mv (.t 9))] [4, 5])
 (.seq (.ops [o 10 (.mv (.t 5)), o 11 (.call true true 0 (.fn 173) [.t 10]), o 12 (.mv (.t 5)), o 13 (.call true true 0 (.fn 174) [.t 12]), o 14 (.build [.p (.int .i64 0), .p (.int .i64 0)] [(0, 1, .t 11), (1, 1, .t 13)]), u (.st 2 (.t 4) (.t 14))] [4])
 (.ret)))⟩

/-- crumple/channel.mapped[int,crumple/channel.Value] -/
def c114L0 : ACode :=
 .seq (.ops [o 11 (.bin .lss (.t 10) (.t 9))] [1, 5, 8, 9, 10, 11])
 (.seq (.cond (.t 11)
 (.skip)
 (.exit 0))
 (.seq (.block 1 (.seq (.ops [o 12 (.iadr 1 (.t 8) (.t 10)), o 13 (.ld false 1 (.t 12)), o 7 (.mv (.t 13))] [1, 5, 7, 8, 9, 10])
 (.ops [o 14 (.mv (.t 5)), o 15 (.mv (.t 1)), o 16 (.mv (.t 7)), o 17 (.call false true 0 (.val (.t 15)) [.t 16]), o 18 (.bslice false 4 [.p (.int .i64 0), .p (.int .i64 0), .p (.bool false), .p (.bool false)] 1 [(0, .t 17)]), o 19 (.app 4 24 [.p (.int .i64 0), .p (.int .i64 0), .p (.bool false), .p (.bool false)] (.t 14) (.t 18)), o 5 (.mv (.t 19))] [1, 5, 8, 9, 10])))
 (.ops [o 20 (.bin .add (.t 10) (ci 1)), o 10 (.mv (.t 20))] [1, 5, 8, 9, 10])))
def c114 : AFunc := ⟨22, [.tmp 4],
 .seq (.ops [o 4 (.mv (cn))] [0, 1])
 (.seq (.ops [o 5 (.nilown 4)] [0, 1, 5])
 (.seq (.seq (.ops [o 8 (.mv (.t 0)), o 9 (.len 1 (.t 8)), o 10 (.mv (ci 0))] [1, 5, 8, 9, 10])
 (.block 0 (.loop true [1, 5, 8, 9, 10] c114L0)))
 (.seq (.ops [o 21 (.mv (.t 5)), o 4 (.mv (.t 21))] [4])
 (.ret))))⟩

/-- crumple/channel.units -/
def c115 : AFunc := ⟨5, [.tmp 2],
 .seq (.ops [o 2 (.mv (cn))] [0])
 (.seq (.ops [o 3 (.mv (.t 0)), o 4 (.call true false 0 (.fn 175) [.t 3, cf 155]), o 2 (.mv (.t 4))] [2])
 (.ret))⟩

/-- crumple/channel.Converted$1 -/
def c116 : AFunc := ⟨46, [.cell 4 true 4],
 .seq (.ops [o 4 (.alloc true 1 [.p (.int .i64 0), .p (.int .i64 0), .p (.bool false), .p (.bool false)])] [0, 1, 2, 4])
 (.seq (.ops [o 7 (.mv (.t 0)), o 8 (.fadr 1 (.t 1)), o 9 (.ld false 1 (.t 8)), o 10 (.bin .sub (.t 7) (.t 9)), o 11 (.mv (.t 0)), o 12 (.fadr 0 (.t 1)), o 13 (.ld false 1 (.t 12)), o 14 (.bin .sub (.t 11) (.t 13)), o 15 (.build [.p (.int .i64 0), .p (.int .i64 0)] [(0, 1, .t 10), (1, 1, .t 14)]), o 16 (.fadr 2 (.t 2)), o 17 (.ld true 2 (.t 16)), o 18 (.call true true 0 (.fn 117) [.t 15, .t 17]), o 5 (.alloc true 1 [.p (.int .i64 0), .p (.int .i64 0)]), u (.st 2 (.t 5) (.t 18))] [0, 2, 4, 5])
 (.seq (.ops [o 19 (.mv (.t 0)), o 20 (.fadr 1 (.t 2)), o 21 (.ld false 1 (.t 20)), o 22 (.neg (.t 21)), o 23 (.bin .leq (.t 19) (.t 22)), o 24 (.mv (.t 0)), o 25 (.fadr 1 (.t 2)), o 26 (.ld false 1 (.t 25)), o 27 (.bin .geq (.t 24) (.t 26)), o 28 (.build [.p (.int .i64 0), .p (.int .i64 0), .p (.bool false), .p (.bool false)] [(2, 1, .t 23), (3, 1, .t 27)]), o 6 (.alloc true 1 [.p (.int .i64 0), .p (.int .i64 0), .p (.bool false), .p (.bool false)]), u (.st 4 (.t 6) (.t 28))] [4, 5, 6])
 (.seq (.seq (.ops [o 29 (.ld true 2 (.t 5)), o 30 (.build [.p (.int .i64 0), .p (.int .i64 0)] []), o 31 (.eqagg [0, 0] false (.t 29) (.t 30))] [4, 5, 6, 31])
 (.cond (.t 31)
 (.seq (.ops [o 32 (.ld true 4 (.t 6)), u (.st 4 (.t 4) (.t 32))] [4])
 (.ret))
 (.skip)))
 (.seq (.opsd [(0, 1), (1, 1), (2, 1), (3, 1), (4, 1), (5, 1), (6, 1), (7, 1), (8, 1), (9, 1), (10, 1), (11, 0), (12, 1), (13, 0)] [o 33 (.fadr 0 (.g 2)), o 34 (.ld false 1 (.t 33)), o 35 (.iadra 1 2 (.t 5) (ci 0)), o 36 (.ld false 1 (.t 35)), o 37 (.call false true 0 (.val (.t 34)) [.t 36, ci 1000]), o 38 (.fadr 0 (.g 3)), o 39 (.ld false 1 (.t 38)), o 40 (.iadra 1 2 (.t 5) (ci 1)), o 41 (.ld false 1 (.t 40)), o 42 (.call false true 0 (.val (.t 39)) [.t 41, ci 1000]), o 43 (.fadr 0 (.t 6)), u (.st 1 (.t 43) (.t 37)), o 44 (.fadr 1 (.t 6)), u (.st 1 (.t 44) (.t 42))] [4, 6])
 (.seq (.ops [o 45 (.ld true 4 (.t 6)), u (.st 4 (.t 4) (.t 45))] [4])
 (.ret))))))⟩

/-- crumple/channel.ends -/
def c117 : AFunc := ⟨32, [.cell 4 true 2],
 .seq (.ops [o 2 (.box true (.t 0)), o 3 (.box true (.t 1)), o 4 (.alloc true 1 [.p (.int .i64 0), .p (.int .i64 0)])] [2, 3, 4])
 (.seq (.ops [o 6 (.fadr 0 (.t 2)), o 7 (.ld false 1 (.t 6)), o 8 (.fadr 0 (.t 3)), o 9 (.ld false 1 (.t 8)), o 10 (.bin .mul (.t 7) (.t 9)), o 11 (.fadr 0 (.t 2)), o 12 (.ld false 1 (.t 11)), o 13 (.fadr 1 (.t 3)), o 14 (.ld false 1 (.t 13)), o 15 (.bin .mul (.t 12) (.t 14)), o 16 (.fadr 1 (.t 2)), o 17 (.ld false 1 (.t 16)), o 18 (.fadr 0 (.t 3)), o 19 (.ld false 1 (.t 18)), o 20 (.bin .mul (.t 17) (.t 19)), o 21 (.fadr 1 (.t 2)), o 22 (.ld false 1 (.t 21)), o 23 (.fadr 1 (.t 3)), o 24 (.ld false 1 (.t 23)), o 25 (.bin .mul (.t 22) (.t 24)), o 26 (.build [.p (.int .i64 0), .p (.int .i64 0), .p (.int .i64 0), .p (.int .i64 0)] [(0, 1, .t 10), (1, 1, .t 15), (2, 1, .t 20), (3, 1, .t 25)]), o 5 (.alloc true 1 [.p (.int .i64 0), .p (.int .i64 0), .p (.int .i64 0), .p (.int .i64 0)]), u (.st 4 (.t 5) (.t 26))] [4, 5])
 (.seq (.opsd [(0, 1), (1, 1), (2, 1), (3, 0), (4, 1), (5, 0)] [o 27 (.slca 1 4 (.t 5) none none), o 28 (.call true true 0 (.fn 173) [.t 27]), o 29 (.slca 1 4 (.t 5) none none), o 30 (.call true true 0 (.fn 174) [.t 29]), o 31 (.build [.p (.int .i64 0), .p (.int .i64 0)] [(0, 1, .t 28), (1, 1, .t 30)]), u (.st 2 (.t 4) (.t 31))] [4])
 (.ret)))⟩

/-- crumple/channel.checkInterval -/
def c121 : AFunc := ⟨25, [.tmp 6],
 .seq (.ops [o 3 (.box true (.t 0)), o 6 (.mv (ci 0))] [1, 2, 3])
 (.seq (.opsd [(0, 1), (1, 1), (2, 1), (3, 1), (4, 1), (5, 1), (6, 1), (7, 1), (8, 1), (9, 1), (10, 1), (11, 1), (12, 1), (13, 1), (14, 1), (15, 0), (16, 0), (17, 0), (18, 1)] [o 7 (.fadr 0 (.t 3)), o 8 (.ld false 1 (.t 7)), o 9 (.mv (.t 1)), o 10 (.mv (.t 2)), o 11 (.call true true 0 (.fn 111) [.t 8, .t 9, .t 10]), o 12 (.fadr 1 (.t 3)), o 13 (.ld false 1 (.t 12)), o 14 (.mv (.t 1)), o 15 (.mv (.t 2)), o 16 (.call true true 0 (.fn 111) [.t 13, .t 14, .t 15]), o 17 (.fadr 0 (.t 3)), o 18 (.ld false 1 (.t 17)), o 19 (.fadr 1 (.t 3)), o 20 (.ld false 1 (.t 19)), o 21 (.bin .gtr (.t 18) (.t 20)), o 22 (.call true true 0 (.fn 104) [.t 21, ci 11]), o 23 (.bslice false 1 [.p (.int .i64 0)] 3 [(0, .t 11), (1, .t 16), (2, .t 22)]), o 24 (.call true true 0 (.fn 103) [.t 23]), o 6 (.mv (.t 24))] [6])
 (.ret))⟩

/-- crumple/record.CheckSamples -/
def c122 : AFunc := ⟨8, [.tmp 2],
 .seq (.ops [o 2 (.mv (ci 0))] [0])
 (.seq (.seq (.ops [o 3 (.mv (.t 0)), o 4 (.len 1 (.t 3)), o 5 (.bin .gtr (.t 4) (ci 4096))] [0, 5])
 (.cond (.t 5)
 (.seq (.ops [o 2 (.mv (ci 5))] [2])
 (.ret))
 (.skip)))
 (.seq (.ops [o 6 (.mv (.t 0)), o 7 (.call true true 0 (.fn 176) [.t 6]), o 2 (.mv (.t 7))] [2])
 (.ret)))⟩

/-- crumple/channel.run -/
def c123A0 : ACode :=
 .seq (.ops [o 12 (.mv (.t 27))] [8, 11, 12, 28])
 (.ops [o 13 (.mv (.t 28))] [8, 11, 12, 13])
def c123B0 : ACode :=
 .block 3 (.opsd [(0, 1), (1, 1), (2, 1), (3, 1), (4, 1), (5, 1), (6, 1), (7, 1), (8, 0)] [o 29 (.ld false 1 (.t 11)), o 30 (.mv (.t 13)), o 31 (.ld false 1 (.t 8)), o 32 (.mv (.t 12)), o 33 (.iadr 1 (.t 31) (.t 32)), o 34 (.ld false 1 (.t 33)), o 35 (.bin .mul (.t 30) (.t 34)), o 36 (.bin .add (.t 29) (.t 35)), u (.st 1 (.t 11) (.t 36))] [])
def c123L1 : ACode :=
 .seq (.ops [o 20 (.bin .lss (.t 19) (.t 18))] [1, 2, 6, 7, 8, 9, 18, 19, 20])
 (.seq (.cond (.t 20)
 (.skip)
 (.exit 0))
 (.seq (.block 1 (.seq (.ops [o 21 (.mv (.t 19)), o 10 (.mv (.t 21))] [1, 2, 6, 7, 8, 9, 10, 18, 19])
 (.seq (.ops [o 11 (.alloc true 1 [.p (.int .i64 0)]), u (.st 1 (.t 11) (ci 0))] [1, 2, 6, 7, 8, 9, 10, 11, 18, 19])
 (.seq (.seq (.ops [o 22 (.mv (.t 1)), o 23 (.mv (.t 10)), o 24 (.ld false 1 (.t 8)), o 25 (.len 1 (.t 24)), o 26 (.call true false 0 (.fn 136) [.t 22, .t 23, .t 25])] [1, 2, 6, 7, 8, 9, 11, 18, 19, 26])
 (.block 2 (.rfun (.t 26) [27, 28] c123A0 c123B0)))
 (.ops [o 37 (.mv (.t 9)), o 38 (.fadr 0 (.g 4)), o 39 (.ld false 1 (.t 38)), o 40 (.ld false 1 (.t 11)), o 41 (.mv (.t 2)), o 42 (.call false true 0 (.val (.t 39)) [.t 40, .t 41]), o 43 (.bslice false 1 [.p (.int .i64 0)] 1 [(0, .t 42)]), o 44 (.app 1 8 [.p (.int .i64 0)] (.t 37) (.t 43)), o 9 (.mv (.t 44))] [1, 2, 6, 7, 8, 9, 18, 19])))))
 (.ops [o 45 (.bin .add (.t 19) (ci 1)), o 19 (.mv (.t 45))] [1, 2, 6, 7, 8, 9, 18, 19])))
def c123 : AFunc := ⟨54, [.tmp 6, .tmp 7],
 .seq (.ops [o 6 (.mv (cn)), o 7 (.mv (ci 0))] [0, 1, 2, 6, 7])
 (.seq (.ops [o 15 (.mv (.t 0)), o 16 (.call true false 0 (.fn 115) [.t 15]), o 8 (.alloc false 1 [.p (.nils)]), u (.st 1 (.t 8) (.t 16))] [1, 2, 6, 7, 8])
 (.seq (.ops [o 9 (.nilown 1)] [1, 2, 6, 7, 8, 9])
 (.seq (.seq (.ops [o 17 (.ld false 1 (.t 8)), o 18 (.len 1 (.t 17)), o 19 (.mv (ci 0))] [1, 2, 6, 7, 8, 9, 18, 19])
 (.block 0 (.loop true [1, 2, 6, 7, 8, 9, 18, 19] c123L1)))
 (.seq (.seq (.ops [o 46 (.mv (.t 9)), o 47 (.call true false 0 (.fn 131) [.t 46, cf 177]), o 48 (.call true true 0 (.fn 103) [.t 47]), o 14 (.mv (.t 48))] [9, 14])
 (.seq (.ops [o 49 (.mv (.t 14)), o 50 (.bin .neq (.t 49) (ci 0))] [9, 14, 50])
 (.cond (.t 50)
 (.seq (.ops [o 51 (.mv (.t 14)), o 6 (.mv (cn)), o 7 (.mv (.t 51))] [6, 7])
 (.ret))
 (.skip))))
 (.seq (.ops [o 52 (.mv (.t 9)), o 53 (.call true false 0 (.fn 178) [.t 52, cf 154]), o 6 (.mv (.t 53)), o 7 (.mv (ci 0))] [6, 7])
 (.ret))))))⟩

/-- crumple/channel.sum -/
def c124L0 : ACode :=
 .seq (.ops [o 9 (.bin .lss (.t 8) (.t 7))] [3, 6, 7, 8, 9])
 (.seq (.cond (.t 9)
 (.skip)
 (.exit 0))
 (.seq (.block 1 (.seq (.ops [o 10 (.iadr 1 (.t 6) (.t 8)), o 11 (.ld false 1 (.t 10)), o 5 (.mv (.t 11))] [3, 5, 6, 7, 8])
 (.ops [o 12 (.mv (.t 3)), o 13 (.mv (.t 5)), o 14 (.bin .add (.t 12) (.t 13)), o 3 (.mv (.t 14))] [3, 6, 7, 8])))
 (.ops [o 15 (.bin .add (.t 8) (ci 1)), o 8 (.mv (.t 15))] [3, 6, 7, 8])))
def c124 : AFunc := ⟨17, [.tmp 2],
 .seq (.ops [o 2 (.mv (ci 0))] [0])
 (.seq (.ops [o 3 (.mv (ci 0))] [0, 3])
 (.seq (.seq (.ops [o 6 (.mv (.t 0)), o 7 (.len 1 (.t 6)), o 8 (.mv (ci 0))] [3, 6, 7, 8])
 (.block 0 (.loop false [3, 6, 7, 8] c124L0)))
 (.seq (.ops [o 16 (.mv (.t 3)), o 2 (.mv (.t 16))] [2])
 (.ret))))⟩

/-- crumple/channel.weights -/
def c125L0 : ACode :=
 .seq (.ops [o 19 (.bin .lss (.t 18) (.t 17))] [0, 3, 4, 5, 9, 10, 11, 16, 17, 18, 19])
 (.seq (.cond (.t 19)
 (.skip)
 (.exit 2))
 (.seq (.block 3 (.seq (.ops [o 20 (.mv (.t 18)), o 21 (.iadr 1 (.t 16) (.t 18)), o 22 (.ld false 1 (.t 21)), o 6 (.mv (.t 20)), o 7 (.mv (.t 22))] [0, 3, 4, 5, 6, 7, 9, 10, 11, 16, 17, 18])
 (.ops [o 23 (.mv (.t 3)), o 24 (.mv (.t 4)), o 25 (.mv (.t 6)), o 26 (.bin .sub (.t 24) (.t 25)), o 27 (.lkup 0 (.p (.int .i64 0)) (.t 23) (.t 26) false), o 28 (.mv (.t 5)), o 29 (.mv (.t 7)), o 30 (.bin .mul (.t 28) (.t 29)), o 31 (.bin .add (.t 27) (.t 30)), u (.mupd 0 (.t 23) (.t 26) (.t 31))] [0, 3, 4, 5, 9, 10, 11, 16, 17, 18])))
 (.ops [o 32 (.bin .add (.t 18) (ci 1)), o 18 (.mv (.t 32))] [0, 3, 4, 5, 9, 10, 11, 16, 17, 18])))
def c125L1 : ACode :=
 .seq (.ops [o 12 (.bin .lss (.t 11) (.t 10))] [0, 3, 9, 10, 11, 12])
 (.seq (.cond (.t 12)
 (.skip)
 (.exit 0))
 (.seq (.block 1 (.seq (.ops [o 13 (.mv (.t 11)), o 14 (.iadr 1 (.t 9) (.t 11)), o 15 (.ld false 1 (.t 14)), o 4 (.mv (.t 13)), o 5 (.mv (.t 15))] [0, 3, 4, 5, 9, 10, 11])
 (.seq (.ops [o 16 (.mv (.t 0)), o 17 (.len 1 (.t 16)), o 18 (.mv (ci 0))] [0, 3, 4, 5, 9, 10, 11, 16, 17, 18])
 (.block 2 (.loop false [0, 3, 4, 5, 9, 10, 11, 16, 17, 18] c125L0)))))
 (.ops [o 33 (.bin .add (.t 11) (ci 1)), o 11 (.mv (.t 33))] [0, 3, 9, 10, 11])))
def c125 : AFunc := ⟨35, [.tmp 2],
 .seq (.ops [o 2 (.mv (.c (.p (.nilm))))] [0])
 (.seq (.ops [o 8 (.mkmap), o 3 (.mv (.t 8))] [0, 3])
 (.seq (.seq (.ops [o 9 (.mv (.t 0)), o 10 (.len 1 (.t 9)), o 11 (.mv (ci 0))] [0, 3, 9, 10, 11])
 (.block 0 (.loop false [0, 3, 9, 10, 11] c125L1)))
 (.seq (.ops [o 34 (.mv (.t 3)), o 2 (.mv (.t 34))] [2])
 (.ret))))⟩

/-- crumple/channel.mapped[int,crumple/api.Errno] -/
def c131L0 : ACode :=
 .seq (.ops [o 11 (.bin .lss (.t 10) (.t 9))] [1, 5, 8, 9, 10, 11])
 (.seq (.cond (.t 11)
 (.skip)
 (.exit 0))
 (.seq (.block 1 (.seq (.ops [o 12 (.iadr 1 (.t 8) (.t 10)), o 13 (.ld false 1 (.t 12)), o 7 (.mv (.t 13))] [1, 5, 7, 8, 9, 10])
 (.ops [o 14 (.mv (.t 5)), o 15 (.mv (.t 1)), o 16 (.mv (.t 7)), o 17 (.call false true 0 (.val (.t 15)) [.t 16]), o 18 (.bslice false 1 [.p (.int .i64 0)] 1 [(0, .t 17)]), o 19 (.app 1 8 [.p (.int .i64 0)] (.t 14) (.t 18)), o 5 (.mv (.t 19))] [1, 5, 8, 9, 10])))
 (.ops [o 20 (.bin .add (.t 10) (ci 1)), o 10 (.mv (.t 20))] [1, 5, 8, 9, 10])))
def c131 : AFunc := ⟨22, [.tmp 4],
 .seq (.ops [o 4 (.mv (cn))] [0, 1])
 (.seq (.ops [o 5 (.nilown 1)] [0, 1, 5])
 (.seq (.seq (.ops [o 8 (.mv (.t 0)), o 9 (.len 1 (.t 8)), o 10 (.mv (ci 0))] [1, 5, 8, 9, 10])
 (.block 0 (.loop true [1, 5, 8, 9, 10] c131L0)))
 (.seq (.ops [o 21 (.mv (.t 5)), o 4 (.mv (.t 21))] [4])
 (.ret))))⟩

/-- crumple/channel.CheckKernel$1 -/
def c132 : AFunc := ⟨5, [.tmp 2],
 .seq (.ops [o 2 (.mv (ci 0))] [0])
 (.seq (.ops [o 3 (.mv (.t 0)), o 4 (.call true true 0 (.fn 111) [.t 3, ci (-100), ci 100]), o 2 (.mv (.t 4))] [2])
 (.ret))⟩

/-- crumple/channel.Enclosed$1 -/
def c133 : AFunc := ⟨5, [.tmp 2],
 .seq (.ops [o 1 (.box true (.t 0)), o 2 (.mv (ci 0))] [1])
 (.seq (.ops [o 3 (.ld true 2 (.t 1)), o 4 (.call true true 0 (.fn 121) [.t 3, ci (-200000), ci 200000]), o 2 (.mv (.t 4))] [2])
 (.ret))⟩

/-- crumple/channel.checkMany -/
def c134 : AFunc := ⟨11, [.tmp 2],
 .seq (.ops [o 2 (.mv (ci 0))] [0])
 (.seq (.ops [o 3 (.mv (.t 0)), o 4 (.bin .eql (.t 3) (ci 0)), o 5 (.call true true 0 (.fn 104) [.t 4, ci 12]), o 6 (.mv (.t 0)), o 7 (.bin .gtr (.t 6) (ci 4096)), o 8 (.call true true 0 (.fn 104) [.t 7, ci 5]), o 9 (.bslice false 1 [.p (.int .i64 0)] 2 [(0, .t 5), (1, .t 8)]), o 10 (.call true true 0 (.fn 103) [.t 9]), o 2 (.mv (.t 10))] [2])
 (.ret))⟩

/-- crumple/channel.mapped[crumple/api.Interval,crumple/api.Errno] -/
def c135L0 : ACode :=
 .seq (.ops [o 11 (.bin .lss (.t 10) (.t 9))] [1, 5, 8, 9, 10, 11])
 (.seq (.cond (.t 11)
 (.skip)
 (.exit 0))
 (.seq (.block 1 (.seq (.ops [o 12 (.iadr 2 (.t 8) (.t 10)), o 13 (.ld true 2 (.t 12)), o 7 (.alloc true 1 [.p (.int .i64 0), .p (.int .i64 0)]), u (.st 2 (.t 7) (.t 13))] [1, 5, 7, 8, 9, 10])
 (.ops [o 14 (.mv (.t 5)), o 15 (.mv (.t 1)), o 16 (.ld true 2 (.t 7)), o 17 (.call false true 0 (.val (.t 15)) [.t 16]), o 18 (.bslice false 1 [.p (.int .i64 0)] 1 [(0, .t 17)]), o 19 (.app 1 8 [.p (.int .i64 0)] (.t 14) (.t 18)), o 5 (.mv (.t 19))] [1, 5, 8, 9, 10])))
 (.ops [o 20 (.bin .add (.t 10) (ci 1)), o 10 (.mv (.t 20))] [1, 5, 8, 9, 10])))
def c135 : AFunc := ⟨22, [.tmp 4],
 .seq (.ops [o 4 (.mv (cn))] [0, 1])
 (.seq (.ops [o 5 (.nilown 1)] [0, 1, 5])
 (.seq (.seq (.ops [o 8 (.mv (.t 0)), o 9 (.len 1 (.t 8)), o 10 (.mv (ci 0))] [1, 5, 8, 9, 10])
 (.block 0 (.loop true [1, 5, 8, 9, 10] c135L0)))
 (.seq (.ops [o 21 (.mv (.t 5)), o 4 (.mv (.t 21))] [4])
 (.ret))))⟩

/-- crumple/channel.padded -/
def c136 : AFunc := ⟨8, [.tmp 6],
 .seq (.ops [o 3 (.box false (.t 0)), o 4 (.box true (.t 1)), o 5 (.box true (.t 2)), o 6 (.mv (.c (.p (.nilf))))] [3, 4, 5])
 (.seq (.ops [o 7 (.mkclo 181 [] [.t 3, .t 5, .t 4]), o 6 (.mv (.t 7))] [6])
 (.ret))⟩

/-- crumple/channel.checkValues -/
def c137 : AFunc := ⟨13, [.tmp 2],
 .seq (.ops [o 2 (.mv (ci 0))] [0])
 (.seq (.ops [o 3 (.mv (cf 182))] [0, 3])
 (.seq (.ops [o 4 (.mv (.t 0)), o 5 (.len 1 (.t 4)), o 6 (.call true true 0 (.fn 134) [.t 5]), o 7 (.mv (.t 0)), o 8 (.mv (.t 3)), o 9 (.call true false 0 (.fn 184) [.t 7, .t 8]), o 10 (.call true true 0 (.fn 103) [.t 9]), o 11 (.bslice false 1 [.p (.int .i64 0)] 2 [(0, .t 6), (1, .t 10)]), o 12 (.call true true 0 (.fn 103) [.t 11]), o 2 (.mv (.t 12))] [2])
 (.ret)))⟩

/-- slices.DeleteFunc[[]crumple/channel.Value,crumple/channel.Value] -/
def c138L0 : ACode :=
 .seq (.seq (.ops [o 16 (.mv (.t 6)), o 17 (.mv (.t 0)), o 18 (.len 1 (.t 17)), o 19 (.bin .lss (.t 16) (.t 18))] [0, 1, 5, 6, 19])
 (.cond (.t 19)
 (.skip)
 (.exit 0)))
 (.seq (.block 1 (.seq (.ops [o 22 (.mv (.t 0)), o 23 (.mv (.t 6)), o 24 (.iadr 4 (.t 22) (.t 23)), o 25 (.ld true 4 (.t 24)), o 7 (.alloc true 1 [.p (.int .i64 0), .p (.int .i64 0), .p (.bool false), .p (.bool false)]), u (.st 4 (.t 7) (.t 25))] [0, 1, 5, 6, 7])
 (.seq (.ops [o 26 (.mv (.t 1)), o 27 (.ld true 4 (.t 7)), o 28 (.call false true 0 (.val (.t 26)) [.t 27]), o 29 (.not (.t 28))] [0, 1, 5, 6, 7, 29])
 (.cond (.t 29)
 (.seq (.ops [o 30 (.mv (.t 0)), o 31 (.mv (.t 5)), o 32 (.ld true 4 (.t 7)), o 33 (.iadr 4 (.t 30) (.t 31)), u (.st 4 (.t 33) (.t 32))] [0, 1, 5, 6])
 (.ops [o 34 (.mv (.t 5)), o 35 (.bin .add (.t 34) (ci 1)), o 5 (.mv (.t 35))] [0, 1, 5, 6]))
 (.skip)))))
 (.ops [o 20 (.mv (.t 6)), o 21 (.bin .add (.t 20) (ci 1)), o 6 (.mv (.t 21))] [0, 1, 5, 6]))
def c138 : AFunc := ⟨42, [.tmp 4],
 .seq (.ops [o 4 (.mv (cn))] [0, 1])
 (.seq (.ops [o 8 (.mv (.t 0)), o 9 (.mv (.t 1)), o 10 (.call true true 0 (.fn 185) [.t 8, .t 9]), o 5 (.mv (.t 10))] [0, 1, 5])
 (.seq (.seq (.ops [o 11 (.mv (.t 5)), o 12 (.bin .eql (.t 11) (ci (-1)))] [0, 1, 5, 12])
 (.cond (.t 12)
 (.seq (.ops [o 13 (.mv (.t 0)), o 4 (.mv (.t 13))] [4])
 (.ret))
 (.skip)))
 (.seq (.seq (.ops [o 14 (.mv (.t 5)), o 15 (.bin .add (.t 14) (ci 1)), o 6 (.mv (.t 15))] [0, 1, 5, 6])
 (.block 0 (.loop true [0, 1, 5, 6] c138L0)))
 (.seq (.ops [o 36 (.mv (.t 0)), o 37 (.mv (.t 5)), o 38 (.slc 4 (.t 36) (some (.t 37)) none), u (.clr 4 [.p (.int .i64 0), .p (.int .i64 0), .p (.bool false), .p (.bool false)] (.t 38))] [0, 5])
 (.seq (.ops [o 39 (.mv (.t 0)), o 40 (.mv (.t 5)), o 41 (.slc 4 (.t 39) none (some (.t 40))), o 4 (.mv (.t 41))] [4])
 (.ret))))))⟩

/-- slices.Clone[[]crumple/channel.Value,crumple/channel.Value] -/
def c139 : AFunc := ⟨8, [.tmp 2],
 .seq (.ops [o 2 (.mv (cn))] [0])
 (.seq (.seq (.ops [o 3 (.mv (.t 0)), o 4 (.eqnil 1 false (.t 3))] [0, 4])
 (.cond (.t 4)
 (.seq (.ops [o 2 (.mv (cn))] [2])
 (.ret))
 (.skip)))
 (.seq (.ops [o 5 (.bslice true 4 [.p (.int .i64 0), .p (.int .i64 0), .p (.bool false), .p (.bool false)] 0 []), o 6 (.mv (.t 0)), o 7 (.app 4 24 [.p (.int .i64 0), .p (.int .i64 0), .p (.bool false), .p (.bool false)] (.t 5) (.t 6)), o 2 (.mv (.t 7))] [2])
 (.ret)))⟩

/-- crumple/channel.Peak$1 -/
def c140 : AFunc := ⟨5, [.tmp 2],
 .seq (.ops [o 1 (.box true (.t 0)), o 2 (.mv (cb false))] [1])
 (.seq (.ops [o 3 (.fadr 2 (.t 1)), o 4 (.ld false 1 (.t 3)), o 2 (.mv (.t 4))] [2])
 (.ret))⟩

/-- slices.MaxFunc[[]crumple/channel.Value,crumple/channel.Value] -/
def c141L0 : ACode :=
 .seq (.seq (.ops [o 14 (.mv (.t 6)), o 15 (.mv (.t 0)), o 16 (.len 1 (.t 15)), o 17 (.bin .lss (.t 14) (.t 16))] [0, 1, 4, 5, 6, 17])
 (.cond (.t 17)
 (.skip)
 (.exit 0)))
 (.seq (.block 1 (.seq (.opsd [(0, 1), (1, 1), (2, 1), (3, 1), (4, 1), (5, 1), (6, 0), (7, 1)] [o 20 (.mv (.t 1)), o 21 (.mv (.t 0)), o 22 (.mv (.t 6)), o 23 (.iadr 4 (.t 21) (.t 22)), o 24 (.ld true 4 (.t 23)), o 25 (.ld true 4 (.t 5)), o 26 (.call false true 0 (.val (.t 20)) [.t 24, .t 25]), o 27 (.bin .gtr (.t 26) (ci 0))] [0, 1, 4, 5, 6, 27])
 (.cond (.t 27)
 (.ops [o 28 (.mv (.t 0)), o 29 (.mv (.t 6)), o 30 (.iadr 4 (.t 28) (.t 29)), o 31 (.ld true 4 (.t 30)), u (.st 4 (.t 5) (.t 31))] [0, 1, 4, 5, 6])
 (.skip))))
 (.ops [o 18 (.mv (.t 6)), o 19 (.bin .add (.t 18) (ci 1)), o 6 (.mv (.t 19))] [0, 1, 4, 5, 6]))
def c141 : AFunc := ⟨33, [.cell 4 true 4],
 .seq (.ops [o 4 (.alloc true 1 [.p (.int .i64 0), .p (.int .i64 0), .p (.bool false), .p (.bool false)])] [0, 1, 4])
 (.seq (.seq (.ops [o 7 (.mv (.t 0)), o 8 (.len 1 (.t 7)), o 9 (.bin .lss (.t 8) (ci 1))] [0, 1, 4, 9])
 (.cond (.t 9)
 (.ops [o 10 (.fail), u (.fail)] [0, 1, 4])
 (.skip)))
 (.seq (.ops [o 11 (.mv (.t 0)), o 12 (.iadr 4 (.t 11) (ci 0)), o 13 (.ld true 4 (.t 12)), o 5 (.alloc true 1 [.p (.int .i64 0), .p (.int .i64 0), .p (.bool false), .p (.bool false)]), u (.st 4 (.t 5) (.t 13))] [0, 1, 4, 5])
 (.seq (.seq (.ops [o 6 (.mv (ci 1))] [0, 1, 4, 5, 6])
 (.block 0 (.loop true [0, 1, 4, 5, 6] c141L0)))
 (.seq (.ops [o 32 (.ld true 4 (.t 5)), u (.st 4 (.t 4) (.t 32))] [4])
 (.ret)))))⟩

/-- crumple/channel.Peak$2 -/
def c142 : AFunc := ⟨10, [.tmp 4],
 .seq (.ops [o 2 (.box true (.t 0)), o 3 (.box true (.t 1)), o 4 (.mv (ci 0))] [2, 3])
 (.seq (.ops [o 5 (.fadr 0 (.t 2)), o 6 (.ld false 1 (.t 5)), o 7 (.fadr 0 (.t 3)), o 8 (.ld false 1 (.t 7)), o 9 (.call true true 0 (.fn 143) [.t 6, .t 8]), o 4 (.mv (.t 9))] [4])
 (.ret))⟩

/-- cmp.Compare[int] -/
def c143 : AFunc := ⟨20, [.tmp 4],
 .seq (.ops [o 4 (.mv (ci 0))] [0, 1])
 (.seq (.ops [o 7 (.mv (.t 0)), o 8 (.call true true 0 (.fn 186) [.t 7]), o 5 (.mv (.t 8))] [0, 1, 5])
 (.seq (.ops [o 9 (.mv (.t 1)), o 10 (.call true true 0 (.fn 186) [.t 9]), o 6 (.mv (.t 10))] [0, 1, 5, 6])
 (.seq (.seq (.ops [o 11 (.mv (.t 5))] [0, 1, 6, 11])
 (.cond (.t 11)
 (.seq (.seq (.ops [o 12 (.mv (.t 6))] [12])
 (.cond (.t 12)
 (.seq (.ops [o 4 (.mv (ci 0))] [4])
 (.ret))
 (.skip)))
 (.seq (.ops [o 4 (.mv (ci (-1)))] [4])
 (.ret)))
 (.skip)))
 (.seq (.seq (.ops [o 13 (.mv (.t 6))] [0, 1, 13])
 (.cond (.t 13)
 (.seq (.ops [o 4 (.mv (ci 1))] [4])
 (.ret))
 (.skip)))
 (.seq (.seq (.ops [o 14 (.mv (.t 0)), o 15 (.mv (.t 1)), o 16 (.bin .lss (.t 14) (.t 15))] [0, 1, 16])
 (.cond (.t 16)
 (.seq (.ops [o 4 (.mv (ci (-1)))] [4])
 (.ret))
 (.skip)))
 (.seq (.seq (.ops [o 17 (.mv (.t 0)), o 18 (.mv (.t 1)), o 19 (.bin .gtr (.t 17) (.t 18))] [19])
 (.cond (.t 19)
 (.seq (.ops [o 4 (.mv (ci 1))] [4])
 (.ret))
 (.skip)))
 (.seq (.ops [o 4 (.mv (ci 0))] [4])
 (.ret))))))))⟩

/-- crumple/channel.Peak$3 -/
def c144 : AFunc := ⟨10, [.tmp 4],
 .seq (.ops [o 2 (.box true (.t 0)), o 3 (.box true (.t 1)), o 4 (.mv (ci 0))] [2, 3])
 (.seq (.ops [o 5 (.fadr 1 (.t 2)), o 6 (.ld false 1 (.t 5)), o 7 (.fadr 1 (.t 3)), o 8 (.ld false 1 (.t 7)), o 9 (.call true true 0 (.fn 143) [.t 6, .t 8]), o 4 (.mv (.t 9))] [4])
 (.ret))⟩

/-- slices.ContainsFunc[[]crumple/channel.Value,crumple/channel.Value] -/
def c145 : AFunc := ⟨9, [.tmp 4],
 .seq (.ops [o 4 (.mv (cb false))] [0, 1])
 (.seq (.ops [o 5 (.mv (.t 0)), o 6 (.mv (.t 1)), o 7 (.call true true 0 (.fn 185) [.t 5, .t 6]), o 8 (.bin .geq (.t 7) (ci 0)), o 4 (.mv (.t 8))] [4])
 (.ret))⟩

/-- crumple/channel.Peak$4 -/
def c146 : AFunc := ⟨5, [.tmp 2],
 .seq (.ops [o 1 (.box true (.t 0)), o 2 (.mv (cb false))] [1])
 (.seq (.ops [o 3 (.fadr 3 (.t 1)), o 4 (.ld false 1 (.t 3)), o 2 (.mv (.t 4))] [2])
 (.ret))⟩

/-- (crumple/channel.Value).clipped -/
def c147 : AFunc := ⟨10, [.tmp 2],
 .seq (.ops [o 1 (.box true (.t 0)), o 2 (.mv (cb false))] [1])
 (.seq (.ops [o 3 (.ld true 4 (.t 1)), o 4 (.fadr 0 (.t 1)), o 5 (.ld false 1 (.t 4)), o 6 (.fadr 1 (.t 1)), o 7 (.ld false 1 (.t 6)), o 8 (.build [.p (.int .i64 0), .p (.int .i64 0), .p (.bool false), .p (.bool false)] [(0, 1, .t 5), (1, 1, .t 7)]), o 9 (.eqagg [0, 0, 2, 2] true (.t 3) (.t 8)), o 2 (.mv (.t 9))] [2])
 (.ret))⟩

/-- crumple/channel.checkGaps -/
def c148L0 : ACode :=
 .seq (.ops [o 15 (.bin .lss (.t 14) (.t 13))] [1, 5, 12, 13, 14, 15])
 (.seq (.cond (.t 15)
 (.skip)
 (.exit 0))
 (.seq (.block 1 (.seq (.ops [o 16 (.iadr 2 (.t 12) (.t 14)), o 17 (.ld true 2 (.t 16)), o 7 (.alloc true 1 [.p (.int .i64 0), .p (.int .i64 0)]), u (.st 2 (.t 7) (.t 17))] [1, 5, 7, 12, 13, 14])
 (.seq (.seq (.opsd [(0, 1), (1, 1), (2, 1), (3, 1), (4, 1), (5, 1), (6, 1), (7, 1), (8, 1), (9, 1), (10, 1), (11, 1), (12, 1), (13, 1), (14, 1), (15, 1), (16, 1), (17, 1), (18, 1), (19, 1), (20, 1), (21, 0), (22, 0), (23, 0), (24, 1)] [o 18 (.fadr 0 (.t 7)), o 19 (.ld false 1 (.t 18)), o 20 (.bin .lss (.t 19) (ci 0)), o 21 (.mv (.t 20)), ⟨some 22, .fadr 0 (.t 7), some (21, false)⟩, ⟨some 23, .ld false 1 (.t 22), some (21, false)⟩, ⟨some 24, .fadr 1 (.t 7), some (21, false)⟩, ⟨some 25, .ld false 1 (.t 24), some (21, false)⟩, ⟨some 26, .bin .geq (.t 23) (.t 25), some (21, false)⟩, o 27 (.pick (.t 21) (cb true) (.t 26)), o 28 (.mv (.t 27)), ⟨some 29, .fadr 1 (.t 7), some (28, false)⟩, ⟨some 30, .ld false 1 (.t 29), some (28, false)⟩, ⟨some 31, .mv (.t 1), some (28, false)⟩, ⟨some 32, .bin .gtr (.t 30) (.t 31), some (28, false)⟩, o 33 (.pick (.t 28) (cb true) (.t 32)), o 34 (.call true true 0 (.fn 104) [.t 33, ci 14]), o 35 (.fadr 0 (.t 7)), o 36 (.ld false 1 (.t 35)), o 37 (.mv (.t 5)), o 38 (.bin .leq (.t 36) (.t 37)), o 39 (.call true true 0 (.fn 104) [.t 38, ci 15]), o 40 (.bslice false 1 [.p (.int .i64 0)] 2 [(0, .t 34), (1, .t 39)]), o 41 (.call true true 0 (.fn 103) [.t 40]), o 8 (.mv (.t 41))] [1, 7, 8, 12, 13, 14])
 (.seq (.ops [o 42 (.mv (.t 8)), o 43 (.bin .neq (.t 42) (ci 0))] [1, 7, 8, 12, 13, 14, 43])
 (.cond (.t 43)
 (.seq (.ops [o 44 (.mv (.t 8)), o 4 (.mv (.t 44))] [4])
 (.ret))
 (.skip))))
 (.ops [o 45 (.fadr 1 (.t 7)), o 46 (.ld false 1 (.t 45)), o 5 (.mv (.t 46))] [1, 5, 12, 13, 14]))))
 (.ops [o 47 (.bin .add (.t 14) (ci 1)), o 14 (.mv (.t 47))] [1, 5, 12, 13, 14])))
def c148 : AFunc := ⟨48, [.tmp 4],
 .seq (.ops [o 4 (.mv (ci 0))] [0, 1])
 (.seq (.seq (.ops [o 9 (.mv (.t 0)), o 10 (.len 1 (.t 9)), o 11 (.bin .gtr (.t 10) (ci 32))] [0, 1, 11])
 (.cond (.t 11)
 (.seq (.ops [o 4 (.mv (ci 5))] [4])
 (.ret))
 (.skip)))
 (.seq (.ops [o 5 (.mv (ci (-1)))] [0, 1, 5])
 (.seq (.seq (.ops [o 12 (.mv (.t 0)), o 13 (.len 1 (.t 12)), o 14 (.mv (ci 0))] [1, 5, 12, 13, 14])
 (.block 0 (.loop true [1, 5, 12, 13, 14] c148L0)))
 (.seq (.ops [o 4 (.mv (ci 0))] [4])
 (.ret)))))⟩

/-- slices.Contains[[]bool,bool] -/
def c149 : AFunc := ⟨9, [.tmp 4],
 .seq (.ops [o 4 (.mv (cb false))] [0, 1])
 (.seq (.ops [o 5 (.mv (.t 0)), o 6 (.mv (.t 1)), o 7 (.call true true 0 (.fn 187) [.t 5, .t 6]), o 8 (.bin .geq (.t 7) (ci 0)), o 4 (.mv (.t 8))] [4])
 (.ret))⟩

/-- crumple/channel.toward -/
def c150L0 : ACode :=
 .seq (.seq (.ops [o 10 (.mv (.t 8)), o 11 (.bin .geq (.t 10) (ci 0)), o 12 (.mv (.t 11)), ⟨some 13, .mv (.t 8), some (12, true)⟩, ⟨some 14, .mv (.t 0), some (12, true)⟩, ⟨some 15, .len 1 (.t 14), some (12, true)⟩, ⟨some 16, .bin .lss (.t 13) (.t 15), some (12, true)⟩, o 17 (.pick (.t 12) (.t 16) (cb false))] [0, 2, 7, 8, 17])
 (.cond (.t 17)
 (.skip)
 (.exit 0)))
 (.seq (.block 1 (.seq (.ops [o 21 (.mv (.t 0)), o 22 (.mv (.t 8)), o 23 (.iadr 1 (.t 21) (.t 22)), o 24 (.ld false 1 (.t 23)), o 25 (.not (.t 24))] [0, 2, 7, 8, 25])
 (.cond (.t 25)
 (.seq (.ops [o 26 (.mv (.t 8)), o 7 (.mv (.t 26))] [7])
 (.exit 0))
 (.skip))))
 (.ops [o 18 (.mv (.t 8)), o 19 (.mv (.t 2)), o 20 (.bin .add (.t 18) (.t 19)), o 8 (.mv (.t 20))] [0, 2, 7, 8]))
def c150 : AFunc := ⟨28, [.tmp 6],
 .seq (.ops [o 6 (.mv (ci 0))] [0, 1, 2])
 (.scope (.seq (.ops [o 7 (.mv (ci (-1)))] [0, 1, 2, 7])
 (.seq (.skip)
 (.seq (.seq (.ops [o 9 (.mv (.t 1)), o 8 (.mv (.t 9))] [0, 2, 7, 8])
 (.block 0 (.loop false [0, 2, 7, 8] c150L0)))
 (.seq (.ops [o 27 (.mv (.t 7)), o 6 (.mv (.t 27))] [6])
 (.ret))))))⟩

/-- crumple/channel.sample -/
def c154 : AFunc := ⟨6, [.tmp 2],
 .seq (.ops [o 2 (.mv (.c (.p (.flt .f32 0))))] [0])
 (.seq (.ops [o 3 (.mv (.t 0)), o 4 (.conv (.flt .f32) (.t 3)), o 5 (.bin .quo (.t 4) (.c (.p (.flt .f32 1098907648)))), o 2 (.mv (.t 5))] [2])
 (.ret))⟩

/-- crumple/channel.unit -/
def c155 : AFunc := ⟨6, [.tmp 2],
 .seq (.ops [o 2 (.mv (ci 0))] [0])
 (.seq (.ops [o 3 (.mv (.t 0)), o 4 (.bin .mul (.c (.p (.flt .f32 1098907648))) (.t 3)), o 5 (.conv (.int .i64) (.t 4)), o 2 (.mv (.t 5))] [2])
 (.ret))⟩

/-- crumple/channel.checkStart -/
def c156 : AFunc := ⟨11, [.tmp 4],
 .seq (.ops [o 4 (.mv (ci 0))] [0, 1])
 (.seq (.ops [o 5 (.mv (.t 0)), o 6 (.call true true 0 (.fn 122) [.t 5]), o 7 (.mv (.t 1)), o 8 (.call true true 0 (.fn 111) [.t 7, ci (-999999999), ci 999999999]), o 9 (.bslice false 1 [.p (.int .i64 0)] 2 [(0, .t 6), (1, .t 8)]), o 10 (.call true true 0 (.fn 103) [.t 9]), o 4 (.mv (.t 10))] [4])
 (.ret))⟩

/-- crumple/channel.sums -/
def c157 : AFunc := ⟨8, [.tmp 4],
 .seq (.ops [o 3 (.box true (.t 1)), o 4 (.mv (cn))] [0, 3])
 (.seq (.ops [o 5 (.mv (.t 0)), o 6 (.mkclo 189 [] [.t 3]), o 7 (.call false false 0 (.fn 188) [.t 5, .t 6]), o 4 (.mv (.t 7))] [4])
 (.ret))⟩

/-- crumple/channel.Squares$1 -/
def c158 : AFunc := ⟨16, [.tmp 3],
 .seq (.ops [o 3 (.mv (ci 0))] [0, 1])
 (.seq (.opsd [(0, 1), (1, 1), (2, 1), (3, 5), (4, 1), (5, 1), (6, 1), (7, 1), (8, 1), (9, 0), (10, 0), (11, 0), (12, 1)] [o 4 (.mv (.t 0)), o 5 (.call true true 0 (.fn 122) [.t 4]), o 6 (.mv (.t 0)), o 7 (.len 1 (.t 6)), o 8 (.ld false 1 (.t 1)), o 9 (.iadr 1 (.t 8) (ci 0)), o 10 (.ld false 1 (.t 9)), o 11 (.len 1 (.t 10)), o 12 (.bin .neq (.t 7) (.t 11)), o 13 (.call true true 0 (.fn 104) [.t 12, ci 2]), o 14 (.bslice false 1 [.p (.int .i64 0)] 2 [(0, .t 5), (1, .t 13)]), o 15 (.call true true 0 (.fn 103) [.t 14]), o 3 (.mv (.t 15))] [3])
 (.ret))⟩

/-- crumple/channel.mapped[[]float32,crumple/api.Errno] -/
def c159L0 : ACode :=
 .seq (.ops [o 11 (.bin .lss (.t 10) (.t 9))] [1, 5, 8, 9, 10, 11])
 (.seq (.cond (.t 11)
 (.skip)
 (.exit 0))
 (.seq (.block 1 (.seq (.ops [o 12 (.iadr 1 (.t 8) (.t 10)), o 13 (.ld false 1 (.t 12)), o 7 (.mv (.t 13))] [1, 5, 7, 8, 9, 10])
 (.ops [o 14 (.mv (.t 5)), o 15 (.mv (.t 1)), o 16 (.mv (.t 7)), o 17 (.call false true 0 (.val (.t 15)) [.t 16]), o 18 (.bslice false 1 [.p (.int .i64 0)] 1 [(0, .t 17)]), o 19 (.app 1 8 [.p (.int .i64 0)] (.t 14) (.t 18)), o 5 (.mv (.t 19))] [1, 5, 8, 9, 10])))
 (.ops [o 20 (.bin .add (.t 10) (ci 1)), o 10 (.mv (.t 20))] [1, 5, 8, 9, 10])))
def c159 : AFunc := ⟨22, [.tmp 4],
 .seq (.ops [o 4 (.mv (cn))] [0, 1])
 (.seq (.ops [o 5 (.nilown 1)] [0, 1, 5])
 (.seq (.seq (.ops [o 8 (.mv (.t 0)), o 9 (.len 1 (.t 8)), o 10 (.mv (ci 0))] [1, 5, 8, 9, 10])
 (.block 0 (.loop true [1, 5, 8, 9, 10] c159L0)))
 (.seq (.ops [o 21 (.mv (.t 5)), o 4 (.mv (.t 21))] [4])
 (.ret))))⟩

/-- crumple/channel.checkSensors -/
def c161L0 : ACode :=
 .seq (.ops [o 14 (.bin .lss (.t 13) (.t 12))] [3, 11, 12, 13, 14])
 (.seq (.cond (.t 14)
 (.skip)
 (.exit 0))
 (.seq (.block 1 (.seq (.ops [o 15 (.iadr 4 (.t 11) (.t 13)), o 16 (.ld true 4 (.t 15)), o 5 (.alloc true 1 [.p (.str []), .p (.int .i64 0), .p (.int .i64 0), .p (.int .i64 0)]), u (.st 4 (.t 5) (.t 16))] [3, 5, 11, 12, 13])
 (.seq (.seq (.opsd [(0, 1), (1, 1), (2, 1), (3, 1), (4, 1), (5, 1), (6, 0), (7, 0), (8, 0), (9, 1)] [o 17 (.ld true 4 (.t 5)), o 18 (.call true true 0 (.fn 34) [.t 17]), o 19 (.mv (.t 3)), o 20 (.fadr 0 (.t 5)), o 21 (.ld false 1 (.t 20)), o 22 (.lkup 1 (.p (.bool false)) (.t 19) (.t 21) false), o 23 (.call true true 0 (.fn 104) [.t 22, ci 9]), o 24 (.bslice false 1 [.p (.int .i64 0)] 2 [(0, .t 18), (1, .t 23)]), o 25 (.call true true 0 (.fn 103) [.t 24]), o 6 (.mv (.t 25))] [3, 5, 6, 11, 12, 13])
 (.seq (.ops [o 26 (.mv (.t 6)), o 27 (.bin .neq (.t 26) (ci 0))] [3, 5, 6, 11, 12, 13, 27])
 (.cond (.t 27)
 (.seq (.ops [o 28 (.mv (.t 6)), o 2 (.mv (.t 28))] [2])
 (.ret))
 (.skip))))
 (.ops [o 29 (.mv (.t 3)), o 30 (.fadr 0 (.t 5)), o 31 (.ld false 1 (.t 30)), u (.mupd 1 (.t 29) (.t 31) (cb true))] [3, 11, 12, 13]))))
 (.ops [o 32 (.bin .add (.t 13) (ci 1)), o 13 (.mv (.t 32))] [3, 11, 12, 13])))
def c161 : AFunc := ⟨33, [.tmp 2],
 .seq (.ops [o 2 (.mv (ci 0))] [0])
 (.seq (.seq (.ops [o 7 (.mv (.t 0)), o 8 (.len 1 (.t 7)), o 9 (.bin .gtr (.t 8) (ci 16))] [0, 9])
 (.cond (.t 9)
 (.seq (.ops [o 2 (.mv (ci 5))] [2])
 (.ret))
 (.skip)))
 (.seq (.ops [o 10 (.mkmap), o 3 (.mv (.t 10))] [0, 3])
 (.seq (.seq (.ops [o 11 (.mv (.t 0)), o 12 (.len 1 (.t 11)), o 13 (.mv (ci 0))] [3, 11, 12, 13])
 (.block 0 (.loop true [3, 11, 12, 13] c161L0)))
 (.seq (.ops [o 2 (.mv (ci 0))] [2])
 (.ret)))))⟩

/-- crumple/channel.mapped[crumple/channel.Sensor,string] -/
def c163L0 : ACode :=
 .seq (.ops [o 11 (.bin .lss (.t 10) (.t 9))] [1, 5, 8, 9, 10, 11])
 (.seq (.cond (.t 11)
 (.skip)
 (.exit 0))
 (.seq (.block 1 (.seq (.ops [o 12 (.iadr 4 (.t 8) (.t 10)), o 13 (.ld true 4 (.t 12)), o 7 (.alloc true 1 [.p (.str []), .p (.int .i64 0), .p (.int .i64 0), .p (.int .i64 0)]), u (.st 4 (.t 7) (.t 13))] [1, 5, 7, 8, 9, 10])
 (.ops [o 14 (.mv (.t 5)), o 15 (.mv (.t 1)), o 16 (.ld true 4 (.t 7)), o 17 (.call false true 0 (.val (.t 15)) [.t 16]), o 18 (.bslice false 1 [.p (.str [])] 1 [(0, .t 17)]), o 19 (.app 1 16 [.p (.str [])] (.t 14) (.t 18)), o 5 (.mv (.t 19))] [1, 5, 8, 9, 10])))
 (.ops [o 20 (.bin .add (.t 10) (ci 1)), o 10 (.mv (.t 20))] [1, 5, 8, 9, 10])))
def c163 : AFunc := ⟨22, [.tmp 4],
 .seq (.ops [o 4 (.mv (cn))] [0, 1])
 (.seq (.ops [o 5 (.nilown 1)] [0, 1, 5])
 (.seq (.seq (.ops [o 8 (.mv (.t 0)), o 9 (.len 1 (.t 8)), o 10 (.mv (ci 0))] [1, 5, 8, 9, 10])
 (.block 0 (.loop true [1, 5, 8, 9, 10] c163L0)))
 (.seq (.ops [o 21 (.mv (.t 5)), o 4 (.mv (.t 21))] [4])
 (.ret))))⟩

/-- (crumple/channel.Sensor).line -/
def c164 : AFunc := ⟨19, [.tmp 2],
 .seq (.ops [o 1 (.box true (.t 0)), o 2 (.mv (cs []))] [1])
 (.seq (.opsd [(0, 1), (1, 1), (3, 1), (4, 1), (5, 1), (6, 1), (7, 1), (8, 1), (9, 1), (10, 1), (11, 1), (12, 1), (2, 2), (13, 0), (14, 0), (15, 1), (16, 1)] [o 3 (.fadr 0 (.t 1)), o 4 (.ld false 1 (.t 3)), o 6 (.fadr 1 (.t 1)), o 7 (.ld false 1 (.t 6)), o 8 (.fadr 2 (.t 1)), o 9 (.fadr 0 (.t 8)), o 10 (.ld false 1 (.t 9)), o 11 (.fadr 2 (.t 1)), o 12 (.fadr 1 (.t 11)), o 13 (.ld false 1 (.t 12)), o 14 (.bslice false 1 [.p (.int .i64 0)] 3 [(0, .t 7), (1, .t 10), (2, .t 13)]), o 15 (.call true false 0 (.fn 193) [.t 14, cf 194]), o 5 (.bslice true 1 [.p (.str [])] 2 [(0, cs [115, 101, 110, 115, 111, 114]), (1, .t 4)]), o 16 (.app 1 16 [.p (.str [])] (.t 5) (.t 15)), o 17 (.call true true 0 (.fn 162) [.t 16, cs [32]]), o 18 (.bin .add (.t 17) (cs [10])), o 2 (.mv (.t 18))] [2])
 (.ret))⟩

/-- slices.Min[[]int,int] -/
def c173L0 : ACode :=
 .seq (.seq (.ops [o 12 (.mv (.t 4)), o 13 (.mv (.t 0)), o 14 (.len 1 (.t 13)), o 15 (.bin .lss (.t 12) (.t 14))] [0, 3, 4, 15])
 (.cond (.t 15)
 (.skip)
 (.exit 0)))
 (.seq (.block 1 (.ops [o 18 (.mv (.t 3)), o 19 (.mv (.t 0)), o 20 (.mv (.t 4)), o 21 (.iadr 1 (.t 19) (.t 20)), o 22 (.ld false 1 (.t 21)), o 23 (.min [.t 18, .t 22]), o 3 (.mv (.t 23))] [0, 3, 4]))
 (.ops [o 16 (.mv (.t 4)), o 17 (.bin .add (.t 16) (ci 1)), o 4 (.mv (.t 17))] [0, 3, 4]))
def c173 : AFunc := ⟨25, [.tmp 2],
 .seq (.ops [o 2 (.mv (ci 0))] [0])
 (.seq (.seq (.ops [o 5 (.mv (.t 0)), o 6 (.len 1 (.t 5)), o 7 (.bin .lss (.t 6) (ci 1))] [0, 7])
 (.cond (.t 7)
 (.ops [o 8 (.fail), u (.fail)] [0])
 (.skip)))
 (.seq (.ops [o 9 (.mv (.t 0)), o 10 (.iadr 1 (.t 9) (ci 0)), o 11 (.ld false 1 (.t 10)), o 3 (.mv (.t 11))] [0, 3])
 (.seq (.seq (.ops [o 4 (.mv (ci 1))] [0, 3, 4])
 (.block 0 (.loop false [0, 3, 4] c173L0)))
 (.seq (.ops [o 24 (.mv (.t 3)), o 2 (.mv (.t 24))] [2])
 (.ret)))))⟩

/-- slices.Max[[]int,int] -/
def c174L0 : ACode :=
 .seq (.seq (.ops [o 12 (.mv (.t 4)), o 13 (.mv (.t 0)), o 14 (.len 1 (.t 13)), o 15 (.bin .lss (.t 12) (.t 14))] [0, 3, 4, 15])
 (.cond (.t 15)
 (.skip)
 (.exit 0)))
 (.seq (.block 1 (.ops [o 18 (.mv (.t 3)), o 19 (.mv (.t 0)), o 20 (.mv (.t 4)), o 21 (.iadr 1 (.t 19) (.t 20)), o 22 (.ld false 1 (.t 21)), o 23 (.max [.t 18, .t 22]), o 3 (.mv (.t 23))] [0, 3, 4]))
 (.ops [o 16 (.mv (.t 4)), o 17 (.bin .add (.t 16) (ci 1)), o 4 (.mv (.t 17))] [0, 3, 4]))
def c174 : AFunc := ⟨25, [.tmp 2],
 .seq (.ops [o 2 (.mv (ci 0))] [0])
 (.seq (.seq (.ops [o 5 (.mv (.t 0)), o 6 (.len 1 (.t 5)), o 7 (.bin .lss (.t 6) (ci 1))] [0, 7])
 (.cond (.t 7)
 (.ops [o 8 (.fail), u (.fail)] [0])
 (.skip)))
 (.seq (.ops [o 9 (.mv (.t 0)), o 10 (.iadr 1 (.t 9) (ci 0)), o 11 (.ld false 1 (.t 10)), o 3 (.mv (.t 11))] [0, 3])
 (.seq (.seq (.ops [o 4 (.mv (ci 1))] [0, 3, 4])
 (.block 0 (.loop false [0, 3, 4] c174L0)))
 (.seq (.ops [o 24 (.mv (.t 3)), o 2 (.mv (.t 24))] [2])
 (.ret)))))⟩

/-- crumple/channel.mapped[float32,int] -/
def c175L0 : ACode :=
 .seq (.ops [o 11 (.bin .lss (.t 10) (.t 9))] [1, 5, 8, 9, 10, 11])
 (.seq (.cond (.t 11)
 (.skip)
 (.exit 0))
 (.seq (.block 1 (.seq (.ops [o 12 (.iadr 1 (.t 8) (.t 10)), o 13 (.ld false 1 (.t 12)), o 7 (.mv (.t 13))] [1, 5, 7, 8, 9, 10])
 (.ops [o 14 (.mv (.t 5)), o 15 (.mv (.t 1)), o 16 (.mv (.t 7)), o 17 (.call false true 0 (.val (.t 15)) [.t 16]), o 18 (.bslice false 1 [.p (.int .i64 0)] 1 [(0, .t 17)]), o 19 (.app 1 8 [.p (.int .i64 0)] (.t 14) (.t 18)), o 5 (.mv (.t 19))] [1, 5, 8, 9, 10])))
 (.ops [o 20 (.bin .add (.t 10) (ci 1)), o 10 (.mv (.t 20))] [1, 5, 8, 9, 10])))
def c175 : AFunc := ⟨22, [.tmp 4],
 .seq (.ops [o 4 (.mv (cn))] [0, 1])
 (.seq (.ops [o 5 (.nilown 1)] [0, 1, 5])
 (.seq (.seq (.ops [o 8 (.mv (.t 0)), o 9 (.len 1 (.t 8)), o 10 (.mv (ci 0))] [1, 5, 8, 9, 10])
 (.block 0 (.loop true [1, 5, 8, 9, 10] c175L0)))
 (.seq (.ops [o 21 (.mv (.t 5)), o 4 (.mv (.t 21))] [4])
 (.ret))))⟩

/-- crumple/record.checkAll -/
def c176 : AFunc := ⟨6, [.tmp 2],
 .seq (.ops [o 2 (.mv (ci 0))] [0])
 (.seq (.ops [o 3 (.mv (.t 0)), o 4 (.call true false 0 (.fn 200) [.t 3, cf 201]), o 5 (.call true true 0 (.fn 199) [.t 4]), o 2 (.mv (.t 5))] [2])
 (.ret))⟩

/-- crumple/channel.run$1 -/
def c177 : AFunc := ⟨10, [.tmp 2],
 .seq (.ops [o 2 (.mv (ci 0))] [0])
 (.seq (.ops [o 3 (.mv (.t 0)), o 4 (.bin .lss (.t 3) (ci (-16384))), o 5 (.mv (.t 4)), ⟨some 6, .mv (.t 0), some (5, false)⟩, ⟨some 7, .bin .gtr (.t 6) (ci 16384), some (5, false)⟩, o 8 (.pick (.t 5) (cb true) (.t 7)), o 9 (.call true true 0 (.fn 104) [.t 8, ci 4]), o 2 (.mv (.t 9))] [2])
 (.ret))⟩

/-- crumple/channel.mapped[int,float32] -/
def c178L0 : ACode :=
 .seq (.ops [o 11 (.bin .lss (.t 10) (.t 9))] [1, 5, 8, 9, 10, 11])
 (.seq (.cond (.t 11)
 (.skip)
 (.exit 0))
 (.seq (.block 1 (.seq (.ops [o 12 (.iadr 1 (.t 8) (.t 10)), o 13 (.ld false 1 (.t 12)), o 7 (.mv (.t 13))] [1, 5, 7, 8, 9, 10])
 (.ops [o 14 (.mv (.t 5)), o 15 (.mv (.t 1)), o 16 (.mv (.t 7)), o 17 (.call false true 0 (.val (.t 15)) [.t 16]), o 18 (.bslice false 1 [.p (.flt .f32 0)] 1 [(0, .t 17)]), o 19 (.app 1 4 [.p (.flt .f32 0)] (.t 14) (.t 18)), o 5 (.mv (.t 19))] [1, 5, 8, 9, 10])))
 (.ops [o 20 (.bin .add (.t 10) (ci 1)), o 10 (.mv (.t 20))] [1, 5, 8, 9, 10])))
def c178 : AFunc := ⟨22, [.tmp 4],
 .seq (.ops [o 4 (.mv (cn))] [0, 1])
 (.seq (.ops [o 5 (.nilown 1)] [0, 1, 5])
 (.seq (.seq (.ops [o 8 (.mv (.t 0)), o 9 (.len 1 (.t 8)), o 10 (.mv (ci 0))] [1, 5, 8, 9, 10])
 (.block 0 (.loop true [1, 5, 8, 9, 10] c178L0)))
 (.seq (.ops [o 21 (.mv (.t 5)), o 4 (.mv (.t 21))] [4])
 (.ret))))⟩

/-- crumple/channel.padded$1 -/
def c181L0 : ACode :=
 .seq (.ops [o 9 (.nxt (.t 8) false), o 10 (.ext (.t 9) 0)] [0, 2, 3, 8, 10])
 (.seq (.cond (.t 10)
 (.skip)
 (.exit 0))
 (.block 1 (.seq (.ops [o 11 (.entry (.t 8)), o 12 (.ext (.t 11) 0), o 13 (.ext (.t 11) 1), o 5 (.mv (.t 12)), o 6 (.mv (.t 13))] [0, 2, 3, 5, 6, 8])
 (.seq (.ops [o 14 (.mv (.t 0)), o 15 (.ld false 1 (.t 2)), o 16 (.bin .sub (.t 15) (ci 1)), o 17 (.ld false 1 (.t 3)), o 18 (.mv (.t 5)), o 19 (.bin .add (.t 17) (.t 18)), o 20 (.min [.t 16, .t 19]), o 21 (.max [ci 0, .t 20]), o 22 (.mv (.t 6)), o 23 (.call false true 0 (.val (.t 14)) [.t 21, .t 22]), o 24 (.not (.t 23))] [0, 2, 3, 8, 24])
 (.cond (.t 24)
 (.ret)
 (.skip))))))
def c181 : AFunc := ⟨25, [],
 .seq (.ops [o 7 (.ld false 1 (.t 1)), o 8 (.rngm (.t 7))] [0, 2, 3, 8])
 (.block 0 (.loop true [0, 2, 3, 8] c181L0))⟩

/-- crumple/channel.checkValues$1 -/
def c182 : AFunc := ⟨6, [.tmp 2],
 .seq (.ops [o 1 (.box true (.t 0)), o 2 (.mv (ci 0))] [1])
 (.seq (.ops [o 3 (.ld true 4 (.t 1)), o 4 (.call true true 0 (.fn 183) [.t 3]), o 5 (.call true true 0 (.fn 121) [.t 4, ci (-200000), ci 200000]), o 2 (.mv (.t 5))] [2])
 (.ret))⟩

/-- (crumple/channel.Value).bounds -/
def c183 : AFunc := ⟨8, [.cell 2 true 2],
 .seq (.ops [o 1 (.box true (.t 0)), o 2 (.alloc true 1 [.p (.int .i64 0), .p (.int .i64 0)])] [1, 2])
 (.seq (.ops [o 3 (.fadr 0 (.t 1)), o 4 (.ld false 1 (.t 3)), o 5 (.fadr 1 (.t 1)), o 6 (.ld false 1 (.t 5)), o 7 (.build [.p (.int .i64 0), .p (.int .i64 0)] [(0, 1, .t 4), (1, 1, .t 6)]), u (.st 2 (.t 2) (.t 7))] [2])
 (.ret))⟩

/-- crumple/channel.mapped[crumple/channel.Value,crumple/api.Errno] -/
def c184L0 : ACode :=
 .seq (.ops [o 11 (.bin .lss (.t 10) (.t 9))] [1, 5, 8, 9, 10, 11])
 (.seq (.cond (.t 11)
 (.skip)
 (.exit 0))
 (.seq (.block 1 (.seq (.ops [o 12 (.iadr 4 (.t 8) (.t 10)), o 13 (.ld true 4 (.t 12)), o 7 (.alloc true 1 [.p (.int .i64 0), .p (.int .i64 0), .p (.bool false), .p (.bool false)]), u (.st 4 (.t 7) (.t 13))] [1, 5, 7, 8, 9, 10])
 (.ops [o 14 (.mv (.t 5)), o 15 (.mv (.t 1)), o 16 (.ld true 4 (.t 7)), o 17 (.call false true 0 (.val (.t 15)) [.t 16]), o 18 (.bslice false 1 [.p (.int .i64 0)] 1 [(0, .t 17)]), o 19 (.app 1 8 [.p (.int .i64 0)] (.t 14) (.t 18)), o 5 (.mv (.t 19))] [1, 5, 8, 9, 10])))
 (.ops [o 20 (.bin .add (.t 10) (ci 1)), o 10 (.mv (.t 20))] [1, 5, 8, 9, 10])))
def c184 : AFunc := ⟨22, [.tmp 4],
 .seq (.ops [o 4 (.mv (cn))] [0, 1])
 (.seq (.ops [o 5 (.nilown 1)] [0, 1, 5])
 (.seq (.seq (.ops [o 8 (.mv (.t 0)), o 9 (.len 1 (.t 8)), o 10 (.mv (ci 0))] [1, 5, 8, 9, 10])
 (.block 0 (.loop true [1, 5, 8, 9, 10] c184L0)))
 (.seq (.ops [o 21 (.mv (.t 5)), o 4 (.mv (.t 21))] [4])
 (.ret))))⟩

/-- slices.IndexFunc[[]crumple/channel.Value,crumple/channel.Value] -/
def c185L0 : ACode :=
 .seq (.ops [o 9 (.bin .lss (.t 8) (.t 7))] [0, 1, 7, 8, 9])
 (.seq (.cond (.t 9)
 (.skip)
 (.exit 0))
 (.seq (.block 1 (.seq (.ops [o 10 (.mv (.t 8)), o 5 (.mv (.t 10))] [0, 1, 5, 7, 8])
 (.seq (.ops [o 11 (.mv (.t 1)), o 12 (.mv (.t 0)), o 13 (.mv (.t 5)), o 14 (.iadr 4 (.t 12) (.t 13)), o 15 (.ld true 4 (.t 14)), o 16 (.call false true 0 (.val (.t 11)) [.t 15])] [0, 1, 5, 7, 8, 16])
 (.cond (.t 16)
 (.seq (.ops [o 17 (.mv (.t 5)), o 4 (.mv (.t 17))] [4])
 (.ret))
 (.skip)))))
 (.ops [o 18 (.bin .add (.t 8) (ci 1)), o 8 (.mv (.t 18))] [0, 1, 7, 8])))
def c185 : AFunc := ⟨19, [.tmp 4],
 .seq (.ops [o 4 (.mv (ci 0))] [0, 1])
 (.seq (.seq (.ops [o 6 (.mv (.t 0)), o 7 (.len 1 (.t 6)), o 8 (.mv (ci 0))] [0, 1, 7, 8])
 (.block 0 (.loop true [0, 1, 7, 8] c185L0)))
 (.seq (.ops [o 4 (.mv (ci (-1)))] [4])
 (.ret)))⟩

/-- cmp.isNaN[int] -/
def c186 : AFunc := ⟨6, [.tmp 2],
 .seq (.ops [o 2 (.mv (cb false))] [0])
 (.seq (.ops [o 3 (.mv (.t 0)), o 4 (.mv (.t 0)), o 5 (.bin .neq (.t 3) (.t 4)), o 2 (.mv (.t 5))] [2])
 (.ret))⟩

/-- slices.Index[[]bool,bool] -/
def c187L0 : ACode :=
 .seq (.ops [o 9 (.bin .lss (.t 8) (.t 7))] [0, 1, 7, 8, 9])
 (.seq (.cond (.t 9)
 (.skip)
 (.exit 0))
 (.seq (.block 1 (.seq (.ops [o 10 (.mv (.t 8)), o 5 (.mv (.t 10))] [0, 1, 5, 7, 8])
 (.seq (.ops [o 11 (.mv (.t 1)), o 12 (.mv (.t 0)), o 13 (.mv (.t 5)), o 14 (.iadr 1 (.t 12) (.t 13)), o 15 (.ld false 1 (.t 14)), o 16 (.eqb false (.t 11) (.t 15))] [0, 1, 5, 7, 8, 16])
 (.cond (.t 16)
 (.seq (.ops [o 17 (.mv (.t 5)), o 4 (.mv (.t 17))] [4])
 (.ret))
 (.skip)))))
 (.ops [o 18 (.bin .add (.t 8) (ci 1)), o 8 (.mv (.t 18))] [0, 1, 7, 8])))
def c187 : AFunc := ⟨19, [.tmp 4],
 .seq (.ops [o 4 (.mv (ci 0))] [0, 1])
 (.seq (.seq (.ops [o 6 (.mv (.t 0)), o 7 (.len 1 (.t 6)), o 8 (.mv (ci 0))] [0, 1, 7, 8])
 (.block 0 (.loop false [0, 1, 7, 8] c187L0)))
 (.seq (.ops [o 4 (.mv (ci (-1)))] [4])
 (.ret)))⟩

/-- crumple/channel.mapped[int,int] -/
def c188L0 : ACode :=
 .seq (.ops [o 11 (.bin .lss (.t 10) (.t 9))] [1, 5, 8, 9, 10, 11])
 (.seq (.cond (.t 11)
 (.skip)
 (.exit 0))
 (.seq (.block 1 (.seq (.ops [o 12 (.iadr 1 (.t 8) (.t 10)), o 13 (.ld false 1 (.t 12)), o 7 (.mv (.t 13))] [1, 5, 7, 8, 9, 10])
 (.ops [o 14 (.mv (.t 5)), o 15 (.mv (.t 1)), o 16 (.mv (.t 7)), o 17 (.call false true 0 (.val (.t 15)) [.t 16]), o 18 (.bslice false 1 [.p (.int .i64 0)] 1 [(0, .t 17)]), o 19 (.app 1 8 [.p (.int .i64 0)] (.t 14) (.t 18)), o 5 (.mv (.t 19))] [1, 5, 8, 9, 10])))
 (.ops [o 20 (.bin .add (.t 10) (ci 1)), o 10 (.mv (.t 20))] [1, 5, 8, 9, 10])))
def c188 : AFunc := ⟨22, [.tmp 4],
 .seq (.ops [o 4 (.mv (cn))] [0, 1])
 (.seq (.ops [o 5 (.nilown 1)] [0, 1, 5])
 (.seq (.seq (.ops [o 8 (.mv (.t 0)), o 9 (.len 1 (.t 8)), o 10 (.mv (ci 0))] [1, 5, 8, 9, 10])
 (.block 0 (.loop true [1, 5, 8, 9, 10] c188L0)))
 (.seq (.ops [o 21 (.mv (.t 5)), o 4 (.mv (.t 21))] [4])
 (.ret))))⟩

/-- crumple/channel.sums$1 -/
def c189 : AFunc := ⟨8, [.tmp 3],
 .seq (.ops [o 3 (.mv (ci 0))] [0, 1])
 (.seq (.ops [o 4 (.ld false 1 (.t 1)), o 5 (.mv (.t 0)), o 6 (.bin .add (.t 4) (.t 5)), u (.st 1 (.t 1) (.t 6))] [1])
 (.seq (.ops [o 7 (.ld false 1 (.t 1)), o 3 (.mv (.t 7))] [3])
 (.ret)))⟩

/-- crumple/channel.mapped[int,string] -/
def c193L0 : ACode :=
 .seq (.ops [o 11 (.bin .lss (.t 10) (.t 9))] [1, 5, 8, 9, 10, 11])
 (.seq (.cond (.t 11)
 (.skip)
 (.exit 0))
 (.seq (.block 1 (.seq (.ops [o 12 (.iadr 1 (.t 8) (.t 10)), o 13 (.ld false 1 (.t 12)), o 7 (.mv (.t 13))] [1, 5, 7, 8, 9, 10])
 (.ops [o 14 (.mv (.t 5)), o 15 (.mv (.t 1)), o 16 (.mv (.t 7)), o 17 (.call false true 0 (.val (.t 15)) [.t 16]), o 18 (.bslice false 1 [.p (.str [])] 1 [(0, .t 17)]), o 19 (.app 1 16 [.p (.str [])] (.t 14) (.t 18)), o 5 (.mv (.t 19))] [1, 5, 8, 9, 10])))
 (.ops [o 20 (.bin .add (.t 10) (ci 1)), o 10 (.mv (.t 20))] [1, 5, 8, 9, 10])))
def c193 : AFunc := ⟨22, [.tmp 4],
 .seq (.ops [o 4 (.mv (cn))] [0, 1])
 (.seq (.ops [o 5 (.nilown 1)] [0, 1, 5])
 (.seq (.seq (.ops [o 8 (.mv (.t 0)), o 9 (.len 1 (.t 8)), o 10 (.mv (ci 0))] [1, 5, 8, 9, 10])
 (.block 0 (.loop true [1, 5, 8, 9, 10] c193L0)))
 (.seq (.ops [o 21 (.mv (.t 5)), o 4 (.mv (.t 21))] [4])
 (.ret))))⟩

/-- crumple/record.first -/
def c199L0 : ACode :=
 .seq (.ops [o 8 (.bin .lss (.t 7) (.t 6))] [5, 6, 7, 8])
 (.seq (.cond (.t 8)
 (.skip)
 (.exit 0))
 (.seq (.block 1 (.seq (.ops [o 9 (.iadr 1 (.t 5) (.t 7)), o 10 (.ld false 1 (.t 9)), o 4 (.mv (.t 10))] [4, 5, 6, 7])
 (.seq (.ops [o 11 (.mv (.t 4)), o 12 (.bin .neq (.t 11) (ci 0))] [4, 5, 6, 7, 12])
 (.cond (.t 12)
 (.seq (.ops [o 13 (.mv (.t 4)), o 2 (.mv (.t 13))] [2])
 (.ret))
 (.skip)))))
 (.ops [o 14 (.bin .add (.t 7) (ci 1)), o 7 (.mv (.t 14))] [5, 6, 7])))
def c199 : AFunc := ⟨15, [.tmp 2],
 .seq (.ops [o 2 (.mv (ci 0))] [0])
 (.seq (.seq (.ops [o 5 (.mv (.t 0)), o 6 (.len 1 (.t 5)), o 7 (.mv (ci 0))] [5, 6, 7])
 (.block 0 (.loop false [5, 6, 7] c199L0)))
 (.seq (.ops [o 2 (.mv (ci 0))] [2])
 (.ret)))⟩

/-- crumple/record.mapped[float32,crumple/api.Errno] -/
def c200L0 : ACode :=
 .seq (.ops [o 11 (.bin .lss (.t 10) (.t 9))] [1, 5, 8, 9, 10, 11])
 (.seq (.cond (.t 11)
 (.skip)
 (.exit 0))
 (.seq (.block 1 (.seq (.ops [o 12 (.iadr 1 (.t 8) (.t 10)), o 13 (.ld false 1 (.t 12)), o 7 (.mv (.t 13))] [1, 5, 7, 8, 9, 10])
 (.ops [o 14 (.mv (.t 5)), o 15 (.mv (.t 1)), o 16 (.mv (.t 7)), o 17 (.call false true 0 (.val (.t 15)) [.t 16]), o 18 (.bslice false 1 [.p (.int .i64 0)] 1 [(0, .t 17)]), o 19 (.app 1 8 [.p (.int .i64 0)] (.t 14) (.t 18)), o 5 (.mv (.t 19))] [1, 5, 8, 9, 10])))
 (.ops [o 20 (.bin .add (.t 10) (ci 1)), o 10 (.mv (.t 20))] [1, 5, 8, 9, 10])))
def c200 : AFunc := ⟨22, [.tmp 4],
 .seq (.ops [o 4 (.mv (cn))] [0, 1])
 (.seq (.ops [o 5 (.nilown 1)] [0, 1, 5])
 (.seq (.seq (.ops [o 8 (.mv (.t 0)), o 9 (.len 1 (.t 8)), o 10 (.mv (ci 0))] [1, 5, 8, 9, 10])
 (.block 0 (.loop true [1, 5, 8, 9, 10] c200L0)))
 (.seq (.ops [o 21 (.mv (.t 5)), o 4 (.mv (.t 21))] [4])
 (.ret))))⟩

/-- crumple/record.CheckSample -/
def c201 : AFunc := ⟨10, [.tmp 2],
 .seq (.ops [o 2 (.mv (ci 0))] [0])
 (.seq (.ops [o 3 (.mv (.t 0)), o 4 (.call true true 0 (.fn 212) [.t 3]), o 5 (.call true true 0 (.fn 211) [.t 4, ci 1]), o 6 (.mv (.t 0)), o 7 (.call true true 0 (.fn 213) [.t 6, .c (.p (.flt .f32 1149239296))]), o 8 (.bslice false 1 [.p (.int .i64 0)] 2 [(0, .t 5), (1, .t 7)]), o 9 (.call true true 0 (.fn 199) [.t 8]), o 2 (.mv (.t 9))] [2])
 (.ret))⟩

/-- crumple/crumpleref01.CheckPart -/
def c202 : AFunc := ⟨31, [.tmp 4],
 .seq (.ops [o 4 (.mv (ci 0))] [0, 1])
 (.seq (.seq (.ops [o 6 (.mv (.t 0)), o 7 (.mv (.t 0)), o 8 (.bin .sub (.t 6) (.t 7)), o 9 (.bin .neq (.t 8) (.c (.p (.flt .f32 0))))] [0, 1, 9])
 (.cond (.t 9)
 (.seq (.ops [o 4 (.mv (ci 1))] [4])
 (.ret))
 (.skip)))
 (.seq (.ops [o 10 (.mv (.t 0)), o 11 (.conv (.flt .f64) (.t 10)), o 12 (.bin .mul (.c (.p (.flt .f64 4625196817309499392))) (.t 11)), o 5 (.mv (.t 12))] [1, 5])
 (.seq (.seq (.ops [o 13 (.mv (.t 5)), o 14 (.mv (.t 1)), o 15 (.conv (.flt .f64) (.t 14)), o 16 (.bin .sub (.c (.p (.flt .f64 0))) (.t 15)), o 17 (.bin .lss (.t 13) (.t 16)), o 18 (.mv (.t 17)), ⟨some 19, .mv (.t 5), some (18, false)⟩, ⟨some 20, .mv (.t 1), some (18, false)⟩, ⟨some 21, .conv (.flt .f64) (.t 20), some (18, false)⟩, ⟨some 22, .bin .gtr (.t 19) (.t 21), some (18, false)⟩, o 23 (.pick (.t 18) (cb true) (.t 22)), o 24 (.mv (.t 23)), ⟨some 25, .mv (.t 5), some (24, false)⟩, ⟨some 26, .conv (.int .i64) (.t 25), some (24, false)⟩, ⟨some 27, .conv (.flt .f64) (.t 26), some (24, false)⟩, ⟨some 28, .mv (.t 5), some (24, false)⟩, ⟨some 29, .bin .neq (.t 27) (.t 28), some (24, false)⟩, o 30 (.pick (.t 24) (cb true) (.t 29))] [30])
 (.cond (.t 30)
 (.seq (.ops [o 4 (.mv (ci 3))] [4])
 (.ret))
 (.skip)))
 (.seq (.ops [o 4 (.mv (ci 0))] [4])
 (.ret)))))⟩

/-- crumple/record.when -/
def c211 : AFunc := ⟨7, [.tmp 4],
 .seq (.ops [o 4 (.mv (ci 0))] [0, 1])
 (.seq (.seq (.ops [o 5 (.mv (.t 0))] [1, 5])
 (.cond (.t 5)
 (.seq (.ops [o 6 (.mv (.t 1)), o 4 (.mv (.t 6))] [4])
 (.ret))
 (.skip)))
 (.seq (.ops [o 4 (.mv (ci 0))] [4])
 (.ret)))⟩

/-- crumple/record.infinite -/
def c212 : AFunc := ⟨11, [.tmp 2],
 .seq (.ops [o 2 (.mv (cb false))] [0])
 (.seq (.ops [o 3 (.mv (.t 0)), o 4 (.conv (.flt .f64) (.t 3)), o 5 (.call true true 0 (.fn 222) [.t 4]), o 6 (.mv (.t 5)), ⟨some 7, .mv (.t 0), some (6, false)⟩, ⟨some 8, .conv (.flt .f64) (.t 7), some (6, false)⟩, ⟨some 9, .call true true 0 (.fn 223) [.t 8, ci 0], some (6, false)⟩, o 10 (.pick (.t 6) (cb true) (.t 9)), o 2 (.mv (.t 10))] [2])
 (.ret))⟩

/-- crumple/record.onGrid -/
def c213 : AFunc := ⟨25, [.tmp 4],
 .seq (.ops [o 4 (.mv (ci 0))] [0, 1])
 (.seq (.ops [o 5 (.mv (.t 0)), o 6 (.mv (.t 1)), o 7 (.neg (.t 6)), o 8 (.bin .lss (.t 5) (.t 7)), o 9 (.mv (.t 8)), ⟨some 10, .mv (.t 0), some (9, false)⟩, ⟨some 11, .mv (.t 1), some (9, false)⟩, ⟨some 12, .bin .gtr (.t 10) (.t 11), some (9, false)⟩, o 13 (.pick (.t 9) (cb true) (.t 12)), o 14 (.mv (.t 13)), ⟨some 15, .mv (.t 0), some (14, false)⟩, ⟨some 16, .bin .mul (.c (.p (.flt .f32 1098907648))) (.t 15), some (14, false)⟩, ⟨some 17, .conv (.flt .f64) (.t 16), some (14, false)⟩, ⟨some 18, .call true true 0 (.fn 224) [.t 17], some (14, false)⟩, ⟨some 19, .conv (.flt .f32) (.t 18), some (14, false)⟩, ⟨some 20, .mv (.t 0), some (14, false)⟩, ⟨some 21, .bin .mul (.c (.p (.flt .f32 1098907648))) (.t 20), some (14, false)⟩, ⟨some 22, .bin .neq (.t 19) (.t 21), some (14, false)⟩, o 23 (.pick (.t 14) (cb true) (.t 22)), o 24 (.call true true 0 (.fn 211) [.t 23, ci 3]), o 4 (.mv (.t 24))] [4])
 (.ret))⟩

/-- math.IsNaN -/
def c222 : AFunc := ⟨6, [.tmp 2],
 .seq (.ops [o 2 (.mv (cb false))] [0])
 (.seq (.ops [o 3 (.mv (.t 0)), o 4 (.mv (.t 0)), o 5 (.bin .neq (.t 3) (.t 4)), o 2 (.mv (.t 5))] [2])
 (.ret))⟩

/-- math.IsInf -/
def c223 : AFunc := ⟨15, [.tmp 4],
 .seq (.ops [o 4 (.mv (cb false))] [0, 1])
 (.seq (.seq (.ops [o 5 (.mv (.t 1)), o 6 (.bin .eql (.t 5) (ci 0))] [0, 1, 6])
 (.cond (.t 6)
 (.ops [o 7 (.mv (.t 0)), o 8 (.call true true 0 (.fn 233) [.t 7]), o 0 (.mv (.t 8))] [0])
 (.seq (.ops [o 9 (.mv (.t 1)), o 10 (.bin .lss (.t 9) (ci 0))] [0, 10])
 (.cond (.t 10)
 (.ops [o 11 (.mv (.t 0)), o 12 (.neg (.t 11)), o 0 (.mv (.t 12))] [0])
 (.skip)))))
 (.seq (.ops [o 13 (.mv (.t 0)), o 14 (.bin .gtr (.t 13) (.c (.p (.flt .f64 9218868437227405311)))), o 4 (.mv (.t 14))] [4])
 (.ret)))⟩

/-- math.Floor -/
def c224 : AFunc := ⟨7, [.tmp 2],
 .seq (.ops [o 2 (.mv (.c (.p (.flt .f64 0))))] [0])
 (.seq (.cond (cb true)
 (.seq (.ops [o 3 (.mv (.t 0)), o 4 (.call true true 0 (.fn 234) [.t 3]), o 2 (.mv (.t 4))] [2])
 (.ret))
 (.skip))
 (.seq (.ops [o 5 (.mv (.t 0)), o 6 (.call true true 0 (.fn 235) [.t 5]), o 2 (.mv (.t 6))] [2])
 (.ret)))⟩

/-- math.Abs -/
def c233 : AFunc := ⟨7, [.tmp 2],
 .seq (.ops [o 2 (.mv (.c (.p (.flt .f64 0))))] [0])
 (.seq (.ops [o 3 (.mv (.t 0)), o 4 (.call true true 0 (.fn 243) [.t 3]), o 5 (.bin .andNot (.t 4) (.c (.p (.int .u64 9223372036854775808)))), o 6 (.call true true 0 (.fn 242) [.t 5]), o 2 (.mv (.t 6))] [2])
 (.ret))⟩

/-- math.floor -/
def c235 : AFunc := ⟨38, [.tmp 2],
 .seq (.ops [o 2 (.mv (.c (.p (.flt .f64 0))))] [0])
 (.seq (.seq (.ops [o 7 (.mv (.t 0)), o 8 (.bin .eql (.t 7) (.c (.p (.flt .f64 0)))), o 9 (.mv (.t 8)), ⟨some 10, .mv (.t 0), some (9, false)⟩, ⟨some 11, .call true true 0 (.fn 222) [.t 10], some (9, false)⟩, o 12 (.pick (.t 9) (cb true) (.t 11)), o 13 (.mv (.t 12)), ⟨some 14, .mv (.t 0), some (13, false)⟩, ⟨some 15, .call true true 0 (.fn 223) [.t 14, ci 0], some (13, false)⟩, o 16 (.pick (.t 13) (cb true) (.t 15))] [0, 16])
 (.cond (.t 16)
 (.seq (.ops [o 17 (.mv (.t 0)), o 2 (.mv (.t 17))] [2])
 (.ret))
 (.skip)))
 (.seq (.seq (.ops [o 18 (.mv (.t 0)), o 19 (.bin .lss (.t 18) (.c (.p (.flt .f64 0))))] [0, 19])
 (.cond (.t 19)
 (.seq (.ops [o 21 (.mv (.t 0)), o 22 (.neg (.t 21)), o 23 (.call true true 0 (.fn 244) [.t 22]), o 20 (.mv (.t 23)), o 24 (.ext (.t 20) 0), o 25 (.ext (.t 20) 1), o 3 (.mv (.t 24)), o 4 (.mv (.t 25))] [3, 4])
 (.seq (.seq (.ops [o 26 (.mv (.t 4)), o 27 (.bin .neq (.t 26) (.c (.p (.flt .f64 0))))] [3, 27])
 (.cond (.t 27)
 (.ops [o 28 (.mv (.t 3)), o 29 (.bin .add (.t 28) (.c (.p (.flt .f64 4607182418800017408)))), o 3 (.mv (.t 29))] [3])
 (.skip)))
 (.seq (.ops [o 30 (.mv (.t 3)), o 31 (.neg (.t 30)), o 2 (.mv (.t 31))] [2])
 (.ret))))
 (.skip)))
 (.seq (.ops [o 33 (.mv (.t 0)), o 34 (.call true true 0 (.fn 244) [.t 33]), o 32 (.mv (.t 34)), o 35 (.ext (.t 32) 0), o 36 (.ext (.t 32) 1), o 5 (.mv (.t 35)), o 6 (.mv (.t 36))] [5])
 (.seq (.ops [o 37 (.mv (.t 5)), o 2 (.mv (.t 37))] [2])
 (.ret)))))⟩

/-- math.Modf -/
def c244 : AFunc := ⟨11, [.tmp 2, .tmp 3],
 .seq (.ops [o 2 (.mv (.c (.p (.flt .f64 0)))), o 3 (.mv (.c (.p (.flt .f64 0))))] [0])
 (.seq (.ops [o 4 (.mv (.t 0)), o 5 (.call true true 0 (.fn 247) [.t 4]), o 2 (.mv (.t 5))] [0, 2])
 (.seq (.ops [o 6 (.mv (.t 0)), o 7 (.mv (.t 2)), o 8 (.bin .sub (.t 6) (.t 7)), o 9 (.mv (.t 0)), o 10 (.call true true 0 (.fn 248) [.t 8, .t 9]), o 3 (.mv (.t 10))] [2, 3])
 (.ret)))⟩

/-- math.Trunc -/
def c247 : AFunc := ⟨7, [.tmp 2],
 .seq (.ops [o 2 (.mv (.c (.p (.flt .f64 0))))] [0])
 (.seq (.cond (cb true)
 (.seq (.ops [o 3 (.mv (.t 0)), o 4 (.call true true 0 (.fn 249) [.t 3]), o 2 (.mv (.t 4))] [2])
 (.ret))
 (.skip))
 (.seq (.ops [o 5 (.mv (.t 0)), o 6 (.call true true 0 (.fn 250) [.t 5]), o 2 (.mv (.t 6))] [2])
 (.ret)))⟩

/-- math.Copysign -/
def c248 : AFunc := ⟨13, [.tmp 4],
 .seq (.ops [o 4 (.mv (.c (.p (.flt .f64 0))))] [0, 1])
 (.seq (.ops [o 5 (.mv (.t 0)), o 6 (.call true true 0 (.fn 243) [.t 5]), o 7 (.bin .andNot (.t 6) (.c (.p (.int .u64 9223372036854775808)))), o 8 (.mv (.t 1)), o 9 (.call true true 0 (.fn 243) [.t 8]), o 10 (.bin .and (.t 9) (.c (.p (.int .u64 9223372036854775808)))), o 11 (.bin .or (.t 7) (.t 10)), o 12 (.call true true 0 (.fn 242) [.t 11]), o 4 (.mv (.t 12))] [4])
 (.ret))⟩

/-- math.trunc -/
def c250 : AFunc := ⟨26, [.tmp 2],
 .seq (.ops [o 2 (.mv (.c (.p (.flt .f64 0))))] [0])
 (.seq (.seq (.ops [o 5 (.mv (.t 0)), o 6 (.call true true 0 (.fn 233) [.t 5]), o 7 (.bin .lss (.t 6) (.c (.p (.flt .f64 4607182418800017408))))] [0, 7])
 (.cond (.t 7)
 (.seq (.ops [o 8 (.mv (.t 0)), o 9 (.call true true 0 (.fn 248) [.c (.p (.flt .f64 0)), .t 8]), o 2 (.mv (.t 9))] [2])
 (.ret))
 (.skip)))
 (.seq (.ops [o 10 (.mv (.t 0)), o 11 (.call true true 0 (.fn 243) [.t 10]), o 3 (.mv (.t 11))] [3])
 (.seq (.ops [o 12 (.mv (.t 3)), o 13 (.shift false (.t 12) (.c (.p (.int .u64 52)))), o 14 (.bin .and (.t 13) (.c (.p (.int .u64 2047)))), o 15 (.bin .sub (.t 14) (.c (.p (.int .u64 1023)))), o 4 (.mv (.t 15))] [3, 4])
 (.seq (.seq (.ops [o 16 (.mv (.t 4)), o 17 (.bin .lss (.t 16) (.c (.p (.int .u64 52))))] [3, 4, 17])
 (.cond (.t 17)
 (.ops [o 18 (.mv (.t 3)), o 19 (.mv (.t 4)), o 20 (.bin .sub (.c (.p (.int .u64 52))) (.t 19)), o 21 (.shift true (.c (.p (.int .u64 1))) (.t 20)), o 22 (.bin .sub (.t 21) (.c (.p (.int .u64 1)))), o 23 (.bin .andNot (.t 18) (.t 22)), o 3 (.mv (.t 23))] [3])
 (.skip)))
 (.seq (.ops [o 24 (.mv (.t 3)), o 25 (.call true true 0 (.fn 242) [.t 24]), o 2 (.mv (.t 25))] [2])
 (.ret))))))⟩

/-- crumple/channel.floor -/
def c268 : AFunc := ⟨16, [.tmp 4],
 .seq (.ops [o 4 (.mv (ci 0))] [0, 1])
 (.seq (.ops [o 6 (.mv (.t 0)), o 7 (.mv (.t 1)), o 8 (.bin .quo (.t 6) (.t 7)), o 5 (.mv (.t 8))] [0, 1, 5])
 (.seq (.seq (.ops [o 9 (.mv (.t 0)), o 10 (.mv (.t 1)), o 11 (.bin .rem (.t 9) (.t 10)), o 12 (.bin .lss (.t 11) (ci 0))] [5, 12])
 (.cond (.t 12)
 (.ops [o 13 (.mv (.t 5)), o 14 (.bin .sub (.t 13) (ci 1)), o 5 (.mv (.t 14))] [5])
 (.skip)))
 (.seq (.ops [o 15 (.mv (.t 5)), o 4 (.mv (.t 15))] [4])
 (.ret))))⟩

/-- crumple/channel.up$1 -/
def c269 : AFunc := ⟨10, [.tmp 4],
 .seq (.ops [o 4 (.mv (ci 0))] [0, 1])
 (.seq (.ops [o 5 (.mv (.t 0)), o 6 (.neg (.t 5)), o 7 (.mv (.t 1)), o 8 (.call true true 0 (.fn 268) [.t 6, .t 7]), o 9 (.neg (.t 8)), o 4 (.mv (.t 9))] [4])
 (.ret))⟩

/-- crumple/channel.near$1 -/
def c270 : AFunc := ⟨12, [.tmp 4],
 .seq (.ops [o 4 (.mv (ci 0))] [0, 1])
 (.seq (.ops [o 5 (.mv (.t 0)), o 6 (.bin .mul (ci 2) (.t 5)), o 7 (.mv (.t 1)), o 8 (.bin .add (.t 6) (.t 7)), o 9 (.mv (.t 1)), o 10 (.bin .mul (ci 2) (.t 9)), o 11 (.call true true 0 (.fn 268) [.t 8, .t 10]), o 4 (.mv (.t 11))] [4])
 (.ret))⟩


def FT : Tr := (.node 132 c132 (.node 71 c71 (.node 47 c47 (.node 26 c26 (.node 17 c17 (.node 15 c15 (.node 7 c7 .leaf .leaf) (.node 16 c16 .leaf .leaf)) (.node 23 c23 (.node 21 c21 .leaf .leaf) (.node 25 c25 .leaf .leaf))) (.node 36 c36 (.node 34 c34 (.node 29 c29 .leaf .leaf) (.node 35 c35 .leaf .leaf)) (.node 40 c40 (.node 38 c38 .leaf .leaf) (.node 41 c41 .leaf .leaf)))) (.node 58 c58 (.node 53 c53 (.node 49 c49 (.node 48 c48 .leaf .leaf) (.node 51 c51 .leaf .leaf)) (.node 56 c56 (.node 55 c55 .leaf .leaf) (.node 57 c57 .leaf .leaf))) (.node 62 c62 (.node 60 c60 (.node 59 c59 .leaf .leaf) (.node 61 c61 .leaf .leaf)) (.node 65 c65 (.node 63 c63 .leaf .leaf) (.node 70 c70 .leaf .leaf))))) (.node 106 c106 (.node 88 c88 (.node 83 c83 (.node 73 c73 (.node 72 c72 .leaf .leaf) (.node 74 c74 .leaf .leaf)) (.node 85 c85 (.node 84 c84 .leaf .leaf) (.node 86 c86 .leaf .leaf))) (.node 102 c102 (.node 92 c92 (.node 90 c90 .leaf .leaf) (.node 101 c101 .leaf .leaf)) (.node 104 c104 (.node 103 c103 .leaf .leaf) (.node 105 c105 .leaf .leaf)))) (.node 116 c116 (.node 112 c112 (.node 109 c109 (.node 108 c108 .leaf .leaf) (.node 111 c111 .leaf .leaf)) (.node 114 c114 (.node 113 c113 .leaf .leaf) (.node 115 c115 .leaf .leaf))) (.node 123 c123 (.node 121 c121 (.node 117 c117 .leaf .leaf) (.node 122 c122 .leaf .leaf)) (.node 125 c125 (.node 124 c124 .leaf .leaf) (.node 131 c131 .leaf .leaf)))))) (.node 177 c177 (.node 148 c148 (.node 140 c140 (.node 136 c136 (.node 134 c134 (.node 133 c133 .leaf .leaf) (.node 135 c135 .leaf .leaf)) (.node 138 c138 (.node 137 c137 .leaf .leaf) (.node 139 c139 .leaf .leaf))) (.node 144 c144 (.node 142 c142 (.node 141 c141 .leaf .leaf) (.node 143 c143 .leaf .leaf)) (.node 146 c146 (.node 145 c145 .leaf .leaf) (.node 147 c147 .leaf .leaf)))) (.node 159 c159 (.node 155 c155 (.node 150 c150 (.node 149 c149 .leaf .leaf) (.node 154 c154 .leaf .leaf)) (.node 157 c157 (.node 156 c156 .leaf .leaf) (.node 158 c158 .leaf .leaf))) (.node 173 c173 (.node 163 c163 (.node 161 c161 .leaf .leaf) (.node 164 c164 .leaf .leaf)) (.node 175 c175 (.node 174 c174 .leaf .leaf) (.node 176 c176 .leaf .leaf))))) (.node 211 c211 (.node 187 c187 (.node 183 c183 (.node 181 c181 (.node 178 c178 .leaf .leaf) (.node 182 c182 .leaf .leaf)) (.node 185 c185 (.node 184 c184 .leaf .leaf) (.node 186 c186 .leaf .leaf))) (.node 199 c199 (.node 189 c189 (.node 188 c188 .leaf .leaf) (.node 193 c193 .leaf .leaf)) (.node 201 c201 (.node 200 c200 .leaf .leaf) (.node 202 c202 .leaf .leaf)))) (.node 244 c244 (.node 223 c223 (.node 213 c213 (.node 212 c212 .leaf .leaf) (.node 222 c222 .leaf .leaf)) (.node 233 c233 (.node 224 c224 .leaf .leaf) (.node 235 c235 .leaf .leaf))) (.node 268 c268 (.node 248 c248 (.node 247 c247 .leaf .leaf) (.node 250 c250 .leaf .leaf)) (.node 270 c270 (.node 269 c269 .leaf .leaf) .leaf))))))
def F (n : Nat) : Option AFunc := FT.find n
end Fw
