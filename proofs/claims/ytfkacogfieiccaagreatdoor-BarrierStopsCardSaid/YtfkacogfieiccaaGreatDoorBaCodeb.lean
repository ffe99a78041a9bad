/- The functions of the program, written for the evaluator, second part: definitions alone. -/
import Derived.Test.YtfkacogfieiccaaGreatDoorBaCode
namespace Fw
open Go
/-- crumple/crumpleref04.CheckCrush -/
def c76L0 : ACode :=
 .seq (.seq (.ops [o 30 (.mv (.t 6)), o 31 (.mv (.t 1)), o 32 (.len 1 (.t 31)), o 33 (.bin .lss (.t 30) (.t 32))] [1, 6, 33])
 (.cond (.t 33)
 (.skip)
 (.exit 0)))
 (.seq (.block 1 (.seq (.opsd [(0, 1), (1, 1), (2, 1), (3, 1), (4, 1), (5, 1), (6, 1), (7, 1), (8, 1), (9, 1)] [o 36 (.mv (.t 1)), o 37 (.mv (.t 6)), o 38 (.iadr 1 (.t 36) (.t 37)), o 39 (.ld false 1 (.t 38)), o 40 (.mv (.t 1)), o 41 (.mv (.t 6)), o 42 (.bin .sub (.t 41) (ci 1)), o 43 (.iadr 1 (.t 40) (.t 42)), o 44 (.ld false 1 (.t 43)), o 45 (.bin .lss (.t 39) (.t 44))] [1, 6, 45])
 (.cond (.t 45)
 (.seq (.ops [o 4 (.mv (ci 11))] [4])
 (.ret))
 (.skip))))
 (.ops [o 34 (.mv (.t 6)), o 35 (.bin .add (.t 34) (ci 1)), o 6 (.mv (.t 35))] [1, 6]))
def c76 : AFunc := ⟨46, [.tmp 4],
 .seq (.ops [o 4 (.mv (ci 0))] [0, 1])
 (.seq (.seq (.ops [o 7 (.mv (.t 0)), o 8 (.len 1 (.t 7)), o 9 (.bin .eql (.t 8) (ci 0)), o 10 (.call true true 0 (.fn 55) [.t 9, ci 12]), o 11 (.mv (.t 0)), o 12 (.len 1 (.t 11)), o 13 (.bin .gtr (.t 12) (ci 64)), o 14 (.call true true 0 (.fn 55) [.t 13, ci 5]), o 15 (.mv (.t 0)), o 16 (.call true true 0 (.fn 121) [.t 15, ci (-1000000), ci 1000000]), o 17 (.mv (.t 1)), o 18 (.len 1 (.t 17)), o 19 (.mv (.t 0)), o 20 (.len 1 (.t 19)), o 21 (.bin .neq (.t 18) (.t 20)), o 22 (.call true true 0 (.fn 55) [.t 21, ci 2]), o 23 (.mv (.t 1)), o 24 (.call true true 0 (.fn 121) [.t 23, ci 0, ci 1000000]), o 25 (.bslice false 1 [.p (.int .i64 0)] 5 [(0, .t 10), (1, .t 14), (2, .t 16), (3, .t 22), (4, .t 24)]), o 26 (.call true true 0 (.fn 101) [.t 25]), o 5 (.mv (.t 26))] [1, 5])
 (.seq (.ops [o 27 (.mv (.t 5)), o 28 (.bin .neq (.t 27) (ci 0))] [1, 5, 28])
 (.cond (.t 28)
 (.seq (.ops [o 29 (.mv (.t 5)), o 4 (.mv (.t 29))] [4])
 (.ret))
 (.skip))))
 (.seq (.seq (.ops [o 6 (.mv (ci 1))] [1, 6])
 (.block 0 (.loop false [1, 6] c76L0)))
 (.seq (.ops [o 4 (.mv (ci 0))] [4])
 (.ret))))⟩

/-- crumple/crumpleref04.Impulse -/
def c77L0 : ACode :=
 .seq (.seq (.ops [o 6 (.mv (.t 4)), o 7 (.mv (.t 0)), o 8 (.len 1 (.t 7)), o 9 (.bin .lss (.t 6) (.t 8))] [0, 2, 3, 4, 9])
 (.cond (.t 9)
 (.skip)
 (.exit 0)))
 (.seq (.block 1 (.seq (.ops [o 12 (.mv (.t 0)), o 13 (.mv (.t 4)), o 14 (.iadr 6 (.t 12) (.t 13)), o 15 (.ld true 6 (.t 14)), o 16 (.call true true 0 (.fn 133) [.t 15]), o 5 (.alloc true 1 [.p (.int .i64 0), .p (.int .i64 0)]), u (.st 2 (.t 5) (.t 16))] [0, 2, 3, 4, 5])
 (.ops [o 17 (.fadr 0 (.t 3)), o 18 (.ld false 1 (.t 17)), o 19 (.fadr 0 (.t 5)), o 20 (.ld false 1 (.t 19)), o 21 (.bin .add (.t 18) (.t 20)), o 22 (.fadr 1 (.t 3)), o 23 (.ld false 1 (.t 22)), o 24 (.fadr 1 (.t 5)), o 25 (.ld false 1 (.t 24)), o 26 (.bin .add (.t 23) (.t 25)), o 27 (.build [.p (.int .i64 0), .p (.int .i64 0)] [(0, 1, .t 21), (1, 1, .t 26)]), u (.st 2 (.t 3) (.t 27))] [0, 2, 3, 4])))
 (.ops [o 10 (.mv (.t 4)), o 11 (.bin .add (.t 10) (ci 1)), o 4 (.mv (.t 11))] [0, 2, 3, 4]))
def c77 : AFunc := ⟨29, [.cell 2 true 2],
 .seq (.ops [o 2 (.alloc true 1 [.p (.int .i64 0), .p (.int .i64 0)])] [0, 2])
 (.seq (.ops [o 3 (.alloc true 1 [.p (.int .i64 0), .p (.int .i64 0)])] [0, 2, 3])
 (.seq (.seq (.ops [o 4 (.mv (ci 0))] [0, 2, 3, 4])
 (.block 0 (.loop true [0, 2, 3, 4] c77L0)))
 (.seq (.ops [o 28 (.ld true 2 (.t 3)), u (.st 2 (.t 2) (.t 28))] [2])
 (.ret))))⟩

/-- crumple/crumpleref04.Peak -/
def c78L0 : ACode :=
 .seq (.seq (.ops [o 10 (.mv (.t 6)), o 11 (.mv (.t 0)), o 12 (.iadr 6 (.t 11) (ci 0)), o 13 (.fadr 5 (.t 12)), o 14 (.ld false 1 (.t 13)), o 15 (.len 1 (.t 14)), o 16 (.bin .lss (.t 10) (.t 15))] [0, 4, 5, 6, 16])
 (.cond (.t 16)
 (.skip)
 (.exit 0)))
 (.seq (.block 1 (.seq (.ops [o 19 (.mv (.t 0)), o 20 (.mv (.t 6)), o 21 (.call true true 0 (.fn 142) [.t 19, .t 20]), o 7 (.mv (.t 21))] [0, 4, 5, 6, 7])
 (.seq (.ops [o 22 (.mv (.t 7)), o 23 (.mv (.t 4)), o 24 (.bin .gtr (.t 22) (.t 23))] [0, 4, 5, 6, 7, 24])
 (.cond (.t 24)
 (.ops [o 25 (.mv (.t 7)), o 26 (.mv (.t 6)), o 4 (.mv (.t 25)), o 5 (.mv (.t 26))] [0, 4, 5, 6])
 (.skip)))))
 (.ops [o 17 (.mv (.t 6)), o 18 (.bin .add (.t 17) (ci 1)), o 6 (.mv (.t 18))] [0, 4, 5, 6]))
def c78 : AFunc := ⟨29, [.tmp 2, .tmp 3],
 .seq (.ops [o 2 (.mv (ci 0)), o 3 (.mv (ci 0))] [0])
 (.seq (.ops [o 8 (.mv (.t 0)), o 9 (.call true true 0 (.fn 142) [.t 8, ci 0]), o 4 (.mv (.t 9)), o 5 (.mv (ci 0))] [0, 4, 5])
 (.seq (.seq (.ops [o 6 (.mv (ci 1))] [0, 4, 5, 6])
 (.block 0 (.loop false [0, 4, 5, 6] c78L0)))
 (.seq (.ops [o 27 (.mv (.t 4)), o 28 (.mv (.t 5)), o 2 (.mv (.t 27)), o 3 (.mv (.t 28))] [2, 3])
 (.ret))))⟩

/-- crumple/crumpleref04.CheckIndex -/
def c79 : AFunc := ⟨17, [.tmp 4],
 .seq (.ops [o 4 (.mv (ci 0))] [0, 1])
 (.seq (.ops [o 5 (.mv (.t 1)), o 6 (.bin .lss (.t 5) (ci 0)), o 7 (.mv (.t 6)), ⟨some 8, .mv (.t 1), some (7, false)⟩, ⟨some 9, .mv (.t 0), some (7, false)⟩, ⟨some 10, .iadr 6 (.t 9) (ci 0), some (7, false)⟩, ⟨some 11, .fadr 5 (.t 10), some (7, false)⟩, ⟨some 12, .ld false 1 (.t 11), some (7, false)⟩, ⟨some 13, .len 1 (.t 12), some (7, false)⟩, ⟨some 14, .bin .geq (.t 8) (.t 13), some (7, false)⟩, o 15 (.pick (.t 7) (cb true) (.t 14)), o 16 (.call true true 0 (.fn 55) [.t 15, ci 10]), o 4 (.mv (.t 16))] [4])
 (.ret))⟩

/-- crumple/crumpleref04.Centre -/
def c80L0 : ACode :=
 .seq (.seq (.ops [o 22 (.mv (.t 10)), o 23 (.mv (.t 0)), o 24 (.len 1 (.t 23)), o 25 (.bin .lss (.t 22) (.t 24))] [0, 1, 4, 5, 7, 8, 9, 10, 25])
 (.cond (.t 25)
 (.skip)
 (.exit 0)))
 (.seq (.block 1 (.opsd [(0, 1), (1, 1), (2, 1), (3, 1), (4, 1), (5, 1), (6, 1), (7, 1), (8, 1), (9, 1), (10, 1), (11, 1), (12, 1), (13, 1), (14, 1), (15, 1), (16, 1), (17, 1), (18, 1), (19, 1), (20, 1), (21, 1), (22, 1), (23, 1), (24, 1), (25, 1), (26, 1), (27, 1), (28, 1), (29, 1), (30, 1), (31, 1), (32, 1), (33, 1), (34, 1), (35, 1)] [o 28 (.mv (.t 8)), o 29 (.mv (.t 0)), o 30 (.mv (.t 10)), o 31 (.iadr 6 (.t 29) (.t 30)), o 32 (.fadr 1 (.t 31)), o 33 (.fadr 0 (.t 32)), o 34 (.ld false 1 (.t 33)), o 35 (.mv (.t 0)), o 36 (.mv (.t 10)), o 37 (.iadr 6 (.t 35) (.t 36)), o 38 (.fadr 5 (.t 37)), o 39 (.ld false 1 (.t 38)), o 40 (.mv (.t 1)), o 41 (.iadr 1 (.t 39) (.t 40)), o 42 (.ld false 1 (.t 41)), o 43 (.bin .mul (.t 34) (.t 42)), o 44 (.bin .add (.t 28) (.t 43)), o 45 (.mv (.t 9)), o 46 (.mv (.t 0)), o 47 (.mv (.t 10)), o 48 (.iadr 6 (.t 46) (.t 47)), o 49 (.fadr 1 (.t 48)), o 50 (.fadr 1 (.t 49)), o 51 (.ld false 1 (.t 50)), o 52 (.mv (.t 0)), o 53 (.mv (.t 10)), o 54 (.iadr 6 (.t 52) (.t 53)), o 55 (.fadr 5 (.t 54)), o 56 (.ld false 1 (.t 55)), o 57 (.mv (.t 1)), o 58 (.iadr 1 (.t 56) (.t 57)), o 59 (.ld false 1 (.t 58)), o 60 (.bin .mul (.t 51) (.t 59)), o 61 (.bin .add (.t 45) (.t 60)), o 8 (.mv (.t 44)), o 9 (.mv (.t 61))] [0, 1, 4, 5, 7, 8, 9, 10]))
 (.ops [o 26 (.mv (.t 10)), o 27 (.bin .add (.t 26) (ci 1)), o 10 (.mv (.t 27))] [0, 1, 4, 5, 7, 8, 9, 10]))
def c80 : AFunc := ⟨84, [.cell 4 true 2, .cell 5 true 2, .tmp 6],
 .seq (.ops [o 4 (.alloc true 1 [.p (.int .i64 0), .p (.int .i64 0)]), o 5 (.alloc true 1 [.p (.int .i64 0), .p (.int .i64 0)]), o 6 (.mv (ci 0))] [0, 1, 4, 5])
 (.seq (.ops [o 15 (.mv (.t 0)), o 16 (.mv (.t 1)), o 17 (.call true true 0 (.fn 142) [.t 15, .t 16]), o 7 (.mv (.t 17)), o 8 (.mv (ci 0)), o 9 (.mv (ci 0))] [0, 1, 4, 5, 7, 8, 9])
 (.seq (.seq (.ops [o 18 (.mv (.t 7)), o 19 (.bin .eql (.t 18) (ci 0))] [0, 1, 4, 5, 7, 8, 9, 19])
 (.cond (.t 19)
 (.seq (.ops [o 20 (.build [.p (.int .i64 0), .p (.int .i64 0)] []), o 21 (.build [.p (.int .i64 0), .p (.int .i64 0)] []), u (.st 2 (.t 4) (.t 20)), u (.st 2 (.t 5) (.t 21)), o 6 (.mv (ci 6))] [4, 5, 6])
 (.ret))
 (.skip)))
 (.seq (.seq (.ops [o 10 (.mv (ci 0))] [0, 1, 4, 5, 7, 8, 9, 10])
 (.block 0 (.loop false [0, 1, 4, 5, 7, 8, 9, 10] c80L0)))
 (.seq (.ops [o 63 (.mv (.t 8)), o 64 (.mv (.t 7)), o 65 (.call true true 0 (.fn 143) [.t 63, .t 64]), o 62 (.mv (.t 65)), o 66 (.ext (.t 62) 0), o 67 (.ext (.t 62) 1), o 11 (.alloc true 1 [.p (.int .i64 0), .p (.int .i64 0)]), u (.st 2 (.t 11) (.t 66)), o 12 (.mv (.t 67))] [4, 5, 7, 9, 11, 12])
 (.seq (.ops [o 69 (.mv (.t 9)), o 70 (.mv (.t 7)), o 71 (.call true true 0 (.fn 143) [.t 69, .t 70]), o 68 (.mv (.t 71)), o 72 (.ext (.t 68) 0), o 73 (.ext (.t 68) 1), o 13 (.alloc true 1 [.p (.int .i64 0), .p (.int .i64 0)]), u (.st 2 (.t 13) (.t 72)), o 14 (.mv (.t 73))] [4, 5, 11, 12, 13, 14])
 (.seq (.seq (.ops [o 74 (.mv (.t 12)), o 75 (.bin .neq (.t 74) (ci 0)), o 76 (.mv (.t 75)), ⟨some 77, .mv (.t 14), some (76, false)⟩, ⟨some 78, .bin .neq (.t 77) (ci 0), some (76, false)⟩, o 79 (.pick (.t 76) (cb true) (.t 78))] [4, 5, 11, 13, 79])
 (.cond (.t 79)
 (.seq (.ops [o 80 (.build [.p (.int .i64 0), .p (.int .i64 0)] []), o 81 (.build [.p (.int .i64 0), .p (.int .i64 0)] []), u (.st 2 (.t 4) (.t 80)), u (.st 2 (.t 5) (.t 81)), o 6 (.mv (ci 4))] [4, 5, 6])
 (.ret))
 (.skip)))
 (.seq (.opsd [(0, 1), (1, 54), (2, 3), (3, 0), (4, 1)] [o 82 (.ld true 2 (.t 11)), o 83 (.ld true 2 (.t 13)), u (.st 2 (.t 4) (.t 82)), u (.st 2 (.t 5) (.t 83)), o 6 (.mv (ci 0))] [4, 5, 6])
 (.ret))))))))⟩

/-- crumple/crumpleref04.Crush -/
def c81L0 : ACode :=
 .seq (.seq (.ops [o 7 (.mv (.t 6)), o 8 (.mv (.t 0)), o 9 (.len 1 (.t 8)), o 10 (.bin .lss (.t 7) (.t 9))] [0, 1, 5, 6, 10])
 (.cond (.t 10)
 (.skip)
 (.exit 0)))
 (.seq (.block 1 (.opsd [(0, 1), (1, 1), (2, 1), (3, 1), (4, 1), (5, 1), (6, 1), (7, 1), (8, 1), (9, 1), (10, 1), (11, 1), (12, 1), (13, 1), (14, 1), (15, 1), (16, 1), (17, 1), (18, 1), (19, 1), (20, 1), (21, 1), (22, 1), (23, 1)] [o 13 (.mv (.t 5)), o 14 (.mv (.t 0)), o 15 (.mv (.t 6)), o 16 (.bin .sub (.t 15) (ci 1)), o 17 (.iadr 1 (.t 14) (.t 16)), o 18 (.ld false 1 (.t 17)), o 19 (.mv (.t 0)), o 20 (.mv (.t 6)), o 21 (.iadr 1 (.t 19) (.t 20)), o 22 (.ld false 1 (.t 21)), o 23 (.bin .add (.t 18) (.t 22)), o 24 (.mv (.t 1)), o 25 (.mv (.t 6)), o 26 (.iadr 1 (.t 24) (.t 25)), o 27 (.ld false 1 (.t 26)), o 28 (.mv (.t 1)), o 29 (.mv (.t 6)), o 30 (.bin .sub (.t 29) (ci 1)), o 31 (.iadr 1 (.t 28) (.t 30)), o 32 (.ld false 1 (.t 31)), o 33 (.bin .sub (.t 27) (.t 32)), o 34 (.bin .mul (.t 23) (.t 33)), o 35 (.bin .add (.t 13) (.t 34)), o 5 (.mv (.t 35))] [0, 1, 5, 6]))
 (.ops [o 11 (.mv (.t 6)), o 12 (.bin .add (.t 11) (ci 1)), o 6 (.mv (.t 12))] [0, 1, 5, 6]))
def c81 : AFunc := ⟨37, [.tmp 4],
 .seq (.ops [o 4 (.mv (ci 0))] [0, 1])
 (.seq (.ops [o 5 (.mv (ci 0))] [0, 1, 5])
 (.seq (.seq (.ops [o 6 (.mv (ci 1))] [0, 1, 5, 6])
 (.block 0 (.loop false [0, 1, 5, 6] c81L0)))
 (.seq (.ops [o 36 (.mv (.t 5)), o 4 (.mv (.t 36))] [4])
 (.ret))))⟩

/-- crumple/barrier.CheckWall -/
def c82L0 : ACode :=
 .seq (.ops [o 25 (.bin .lss (.t 24) (.t 23))] [0, 4, 22, 23, 24, 25])
 (.seq (.cond (.t 25)
 (.skip)
 (.exit 0))
 (.seq (.block 1 (.seq (.ops [o 26 (.iadr 6 (.t 22) (.t 24)), o 27 (.ld true 6 (.t 26)), o 6 (.alloc false 1 [.p (.str []), .p (.int .i64 0), .p (.int .i64 0), .p (.int .i64 0), .p (.int .i64 0), .p (.nils)]), u (.st 6 (.t 6) (.t 27))] [0, 4, 6, 22, 23, 24])
 (.seq (.seq (.opsd [(0, 1), (1, 1), (3, 199), (4, 199), (5, 199), (7, 199), (8, 199), (9, 199), (11, 199), (12, 199), (14, 199), (15, 199), (2, 200), (6, 1), (10, 1), (13, 1), (16, 0), (17, 0), (18, 0), (19, 1)] [o 28 (.fadr 0 (.t 6)), o 29 (.ld false 1 (.t 28)), o 31 (.fadr 1 (.t 6)), o 32 (.fadr 0 (.t 31)), o 33 (.ld false 1 (.t 32)), o 35 (.fadr 1 (.t 6)), o 36 (.fadr 1 (.t 35)), o 37 (.ld false 1 (.t 36)), o 39 (.fadr 3 (.t 6)), o 40 (.ld false 1 (.t 39)), o 42 (.fadr 4 (.t 6)), o 43 (.ld false 1 (.t 42)), o 30 (.call false true 0 (.fn 110) [.t 4, .t 29]), o 34 (.call true true 0 (.fn 108) [.t 33, ci 0, ci 1000000]), o 38 (.call true true 0 (.fn 108) [.t 37, ci 0, ci 1000000]), o 41 (.call true true 0 (.fn 108) [.t 40, ci 1, ci 1000000]), o 44 (.call true true 0 (.fn 108) [.t 43, ci 0, ci 1000000]), o 45 (.bslice false 1 [.p (.int .i64 0)] 5 [(0, .t 30), (1, .t 34), (2, .t 38), (3, .t 41), (4, .t 44)]), o 46 (.call true true 0 (.fn 98) [.t 45]), o 7 (.mv (.t 46))] [0, 4, 6, 7, 22, 23, 24])
 (.seq (.ops [o 47 (.mv (.t 7)), o 48 (.bin .neq (.t 47) (ci 0))] [0, 4, 6, 7, 22, 23, 24, 48])
 (.cond (.t 48)
 (.seq (.ops [o 49 (.mv (.t 7)), o 2 (.mv (.t 49))] [2])
 (.ret))
 (.skip))))
 (.seq (.opsd [(0, 1), (1, 1), (2, 1), (3, 1), (4, 1), (5, 1), (6, 1), (7, 1), (8, 1), (9, 1), (10, 1), (11, 1), (12, 1), (13, 1), (14, 1), (15, 1), (16, 1), (17, 1), (18, 1), (19, 1), (20, 1), (21, 1), (22, 1), (23, 1), (24, 1), (25, 1), (26, 1), (27, 0), (28, 0), (29, 0), (30, 1)] [o 50 (.fadr 5 (.t 6)), o 51 (.ld false 1 (.t 50)), o 52 (.len 1 (.t 51)), o 53 (.bin .eql (.t 52) (ci 0)), o 54 (.call true true 0 (.fn 107) [.t 53, ci 12]), o 55 (.fadr 5 (.t 6)), o 56 (.ld false 1 (.t 55)), o 57 (.len 1 (.t 56)), o 58 (.bin .gtr (.t 57) (ci 64)), o 59 (.call true true 0 (.fn 107) [.t 58, ci 5]), o 60 (.fadr 5 (.t 6)), o 61 (.ld false 1 (.t 60)), o 62 (.len 1 (.t 61)), o 63 (.mv (.t 0)), o 64 (.iadr 6 (.t 63) (ci 0)), o 65 (.fadr 5 (.t 64)), o 66 (.ld false 1 (.t 65)), o 67 (.len 1 (.t 66)), o 68 (.bin .neq (.t 62) (.t 67)), o 69 (.call true true 0 (.fn 107) [.t 68, ci 2]), o 70 (.fadr 5 (.t 6)), o 71 (.ld false 1 (.t 70)), o 72 (.fadr 3 (.t 6)), o 73 (.ld false 1 (.t 72)), o 74 (.neg (.t 73)), o 75 (.fadr 3 (.t 6)), o 76 (.ld false 1 (.t 75)), o 77 (.call true true 0 (.fn 122) [.t 71, .t 74, .t 76]), o 78 (.bslice false 1 [.p (.int .i64 0)] 4 [(0, .t 54), (1, .t 59), (2, .t 69), (3, .t 77)]), o 79 (.call true true 0 (.fn 98) [.t 78]), o 8 (.mv (.t 79))] [0, 4, 8, 22, 23, 24])
 (.seq (.ops [o 80 (.mv (.t 8)), o 81 (.bin .neq (.t 80) (ci 0))] [0, 4, 8, 22, 23, 24, 81])
 (.cond (.t 81)
 (.seq (.ops [o 82 (.mv (.t 8)), o 2 (.mv (.t 82))] [2])
 (.ret))
 (.skip)))))))
 (.ops [o 83 (.bin .add (.t 24) (ci 1)), o 24 (.mv (.t 83))] [0, 4, 22, 23, 24])))
def c82 : AFunc := ⟨84, [.tmp 2],
 .seq (.ops [o 2 (.mv (ci 0))] [0])
 (.seq (.seq (.ops [o 9 (.mv (.t 0)), o 10 (.len 1 (.t 9)), o 11 (.bin .eql (.t 10) (ci 0)), o 12 (.call true true 0 (.fn 107) [.t 11, ci 12]), o 13 (.mv (.t 0)), o 14 (.len 1 (.t 13)), o 15 (.bin .gtr (.t 14) (ci 16)), o 16 (.call true true 0 (.fn 107) [.t 15, ci 5]), o 17 (.bslice false 1 [.p (.int .i64 0)] 2 [(0, .t 12), (1, .t 16)]), o 18 (.call true true 0 (.fn 98) [.t 17]), o 3 (.mv (.t 18))] [0, 3])
 (.seq (.ops [o 19 (.mv (.t 3)), o 20 (.bin .neq (.t 19) (ci 0))] [0, 3, 20])
 (.cond (.t 20)
 (.seq (.ops [o 21 (.mv (.t 3)), o 2 (.mv (.t 21))] [2])
 (.ret))
 (.skip))))
 (.seq (.ops [o 4 (.alloc false 1 [.p (.nilm)])] [0, 4])
 (.seq (.seq (.ops [o 22 (.mv (.t 0)), o 23 (.len 1 (.t 22)), o 24 (.mv (ci 0))] [0, 4, 22, 23, 24])
 (.block 0 (.loop true [0, 4, 22, 23, 24] c82L0)))
 (.seq (.ops [o 2 (.mv (ci 0))] [2])
 (.ret)))))⟩

/-- crumple/barrier.Print -/
def c83 : AFunc := ⟨45, [.tmp 2, .tmp 3],
 .seq (.ops [o 1 (.box false (.t 0)), o 2 (.mv (cs [])), o 3 (.mv (ci 0))] [1])
 (.seq (.seq (.ops [o 6 (.ld true 6 (.t 1)), o 7 (.call true true 0 (.fn 48) [.t 6]), o 4 (.mv (.t 7))] [1, 4])
 (.seq (.ops [o 8 (.mv (.t 4)), o 9 (.bin .neq (.t 8) (ci 0))] [1, 4, 9])
 (.cond (.t 9)
 (.seq (.ops [o 10 (.mv (.t 4)), o 2 (.mv (cs [])), o 3 (.mv (.t 10))] [2, 3])
 (.ret))
 (.skip))))
 (.seq (.opsd [(0, 1), (1, 1), (2, 1), (3, 1), (4, 1), (5, 1), (6, 1), (7, 1), (8, 1), (9, 1), (10, 1), (11, 1), (12, 1), (13, 1), (14, 1), (15, 1), (16, 1), (17, 1), (18, 1), (19, 1), (20, 1), (21, 1), (22, 1), (23, 1), (24, 1), (25, 1), (26, 0), (27, 1), (28, 1)] [o 11 (.iadra 2 4 (.g 1) (ci 0)), o 12 (.ld true 2 (.t 11)), o 13 (.fadr 5 (.t 1)), o 14 (.ld false 1 (.t 13)), o 15 (.bslice false 1 [.p (.int .i64 0)] 1 [(0, .t 14)]), o 16 (.call true true 0 (.fn 144) [.t 12, .t 15]), o 17 (.iadra 2 4 (.g 1) (ci 1)), o 18 (.ld true 2 (.t 17)), o 19 (.fadr 1 (.t 1)), o 20 (.fadr 0 (.t 19)), o 21 (.ld false 1 (.t 20)), o 22 (.fadr 1 (.t 1)), o 23 (.fadr 1 (.t 22)), o 24 (.ld false 1 (.t 23)), o 25 (.bslice false 1 [.p (.int .i64 0)] 2 [(0, .t 21), (1, .t 24)]), o 26 (.call true true 0 (.fn 144) [.t 18, .t 25]), o 27 (.bin .add (.t 16) (.t 26)), o 28 (.iadra 2 4 (.g 1) (ci 2)), o 29 (.ld true 2 (.t 28)), o 30 (.fadr 3 (.t 1)), o 31 (.fadr 0 (.t 30)), o 32 (.ld false 1 (.t 31)), o 33 (.fadr 3 (.t 1)), o 34 (.fadr 1 (.t 33)), o 35 (.ld false 1 (.t 34)), o 36 (.bslice false 1 [.p (.int .i64 0)] 2 [(0, .t 32), (1, .t 35)]), o 37 (.call true true 0 (.fn 144) [.t 29, .t 36]), o 38 (.bin .add (.t 27) (.t 37)), o 5 (.mv (.t 38))] [1, 5])
 (.seq (.ops [o 39 (.mv (.t 5)), o 40 (.fadr 0 (.t 1)), o 41 (.ld false 1 (.t 40)), o 42 (.call true false 0 (.fn 146) [.t 41, cf 147]), o 43 (.call true true 0 (.fn 145) [.t 42, cs []]), o 44 (.bin .add (.t 39) (.t 43)), o 2 (.mv (.t 44)), o 3 (.mv (ci 0))] [2, 3])
 (.ret))))⟩

/-- crumple/barrier.Parse -/
def c84A0 : ACode :=
 .ops [o 6 (.mv (.t 17))] [2, 3, 4, 5, 6]
def c84B0 : ACode :=
 .block 1 (.seq (.ops [o 19 (.ld false 1 (.t 5)), o 20 (.len 1 (.t 19)), o 21 (.min [.t 20, ci 3]), o 22 (.iadra 2 4 (.g 1) (.t 21)), o 23 (.ld true 2 (.t 22)), o 24 (.mv (.t 6)), o 25 (.call true false 0 (.fn 149) [.t 23, .t 24]), o 18 (.mv (.t 25)), o 26 (.ext (.t 18) 0), o 27 (.ext (.t 18) 1), o 7 (.mv (.t 26)), o 8 (.mv (.t 27))] [2, 3, 4, 5, 7, 8])
 (.seq (.seq (.ops [o 28 (.mv (.t 8)), o 29 (.not (.t 28))] [2, 3, 4, 5, 7, 29])
 (.cond (.t 29)
 (.seq (.opsd [(0, 1), (1, 18), (2, 18), (3, 3), (4, 0), (5, 0)] [o 30 (.build [.p (.nils), .p (.int .i64 0), .p (.int .i64 0), .p (.int .i64 0), .p (.int .i64 0), .p (.int .i64 0)] []), o 31 (.ld false 1 (.t 5)), o 32 (.len 1 (.t 31)), u (.st 6 (.t 2) (.t 30)), u (.st 1 (.t 3) (.t 32)), u (.st 1 (.t 4) (ci 25))] [])
 (.ret))
 (.skip)))
 (.ops [o 33 (.ld false 1 (.t 5)), o 34 (.mv (.t 7)), o 35 (.bslice false 1 [.p (.nils)] 1 [(0, .t 34)]), o 36 (.app 1 24 [.p (.nils)] (.t 33) (.t 35)), u (.st 1 (.t 5) (.t 36))] [])))
def c84 : AFunc := ⟨83, [.cell 2 true 6, .cell 3 false 1, .cell 4 false 1],
 .seq (.ops [o 2 (.alloc false 1 [.p (.nils), .p (.int .i64 0), .p (.int .i64 0), .p (.int .i64 0), .p (.int .i64 0), .p (.int .i64 0)]), o 3 (.alloc true 1 [.p (.int .i64 0)]), o 4 (.alloc true 1 [.p (.int .i64 0)])] [0, 2, 3, 4])
 (.seq (.seq (.ops [o 11 (.mv (.t 0)), o 12 (.len 0 (.t 11)), o 13 (.bin .gtr (.t 12) (ci 4096))] [0, 2, 3, 4, 13])
 (.cond (.t 13)
 (.seq (.ops [o 14 (.build [.p (.nils), .p (.int .i64 0), .p (.int .i64 0), .p (.int .i64 0), .p (.int .i64 0), .p (.int .i64 0)] []), u (.st 6 (.t 2) (.t 14)), u (.st 1 (.t 3) (ci 0)), u (.st 1 (.t 4) (ci 26))] [2, 3, 4])
 (.ret))
 (.skip)))
 (.seq (.ops [o 5 (.allocown 1)] [0, 2, 3, 4, 5])
 (.seq (.seq (.ops [o 15 (.mv (.t 0)), o 16 (.call false false 1000 (.fn 148) [.t 15])] [2, 3, 4, 5, 16])
 (.block 0 (.rfun (.t 16) [17] c84A0 c84B0)))
 (.seq (.seq (.ops [o 37 (.ld false 1 (.t 5)), o 38 (.len 1 (.t 37)), o 39 (.bin .lss (.t 38) (ci 3))] [2, 3, 4, 5, 39])
 (.cond (.t 39)
 (.seq (.opsd [(0, 1), (1, 18), (2, 18), (3, 3), (4, 0), (5, 0)] [o 40 (.build [.p (.nils), .p (.int .i64 0), .p (.int .i64 0), .p (.int .i64 0), .p (.int .i64 0), .p (.int .i64 0)] []), o 41 (.ld false 1 (.t 5)), o 42 (.len 1 (.t 41)), u (.st 6 (.t 2) (.t 40)), u (.st 1 (.t 3) (.t 42)), u (.st 1 (.t 4) (ci 25))] [2, 3, 4])
 (.ret))
 (.skip)))
 (.seq (.opsd [(0, 1), (1, 1), (2, 1), (3, 1), (4, 1), (5, 1), (6, 1), (7, 1), (8, 1), (9, 1), (10, 1), (11, 1), (12, 1), (13, 1), (14, 1), (15, 1), (16, 1), (17, 1), (18, 1), (19, 1), (20, 1), (21, 1), (22, 1), (23, 1), (24, 1), (25, 1), (26, 1), (27, 1), (28, 1), (29, 1), (30, 1), (31, 2), (32, 0)] [o 43 (.ld false 1 (.t 5)), o 44 (.iadr 1 (.t 43) (ci 0)), o 45 (.ld false 1 (.t 44)), o 46 (.iadr 1 (.t 45) (ci 0)), o 47 (.ld false 1 (.t 46)), o 48 (.ld false 1 (.t 5)), o 49 (.iadr 1 (.t 48) (ci 1)), o 50 (.ld false 1 (.t 49)), o 51 (.iadr 1 (.t 50) (ci 0)), o 52 (.ld false 1 (.t 51)), o 53 (.ld false 1 (.t 5)), o 54 (.iadr 1 (.t 53) (ci 1)), o 55 (.ld false 1 (.t 54)), o 56 (.iadr 1 (.t 55) (ci 1)), o 57 (.ld false 1 (.t 56)), o 58 (.build [.p (.int .i64 0), .p (.int .i64 0)] [(0, 1, .t 52), (1, 1, .t 57)]), o 59 (.ld false 1 (.t 5)), o 60 (.iadr 1 (.t 59) (ci 2)), o 61 (.ld false 1 (.t 60)), o 62 (.iadr 1 (.t 61) (ci 0)), o 63 (.ld false 1 (.t 62)), o 64 (.ld false 1 (.t 5)), o 65 (.iadr 1 (.t 64) (ci 2)), o 66 (.ld false 1 (.t 65)), o 67 (.iadr 1 (.t 66) (ci 1)), o 68 (.ld false 1 (.t 67)), o 69 (.build [.p (.int .i64 0), .p (.int .i64 0)] [(0, 1, .t 63), (1, 1, .t 68)]), o 70 (.ld false 1 (.t 5)), o 71 (.slc 1 (.t 70) (some (ci 3)) none), o 72 (.call true true 0 (.fn 150) [.t 71]), o 73 (.build [.p (.nils), .p (.int .i64 0), .p (.int .i64 0), .p (.int .i64 0), .p (.int .i64 0), .p (.int .i64 0)] [(5, 1, .t 47), (1, 2, .t 58), (3, 2, .t 69), (0, 1, .t 72)]), o 9 (.alloc false 1 [.p (.nils), .p (.int .i64 0), .p (.int .i64 0), .p (.int .i64 0), .p (.int .i64 0), .p (.int .i64 0)]), u (.st 6 (.t 9) (.t 73))] [2, 3, 4, 5, 9])
 (.seq (.seq (.ops [o 74 (.ld true 6 (.t 9)), o 75 (.call true true 0 (.fn 48) [.t 74]), o 10 (.mv (.t 75))] [2, 3, 4, 5, 9, 10])
 (.seq (.ops [o 76 (.mv (.t 10)), o 77 (.bin .neq (.t 76) (ci 0))] [2, 3, 4, 5, 9, 10, 77])
 (.cond (.t 77)
 (.seq (.opsd [(0, 1), (1, 18), (2, 18), (3, 1), (4, 3), (5, 0), (6, 0)] [o 78 (.build [.p (.nils), .p (.int .i64 0), .p (.int .i64 0), .p (.int .i64 0), .p (.int .i64 0), .p (.int .i64 0)] []), o 79 (.ld false 1 (.t 5)), o 80 (.len 1 (.t 79)), o 81 (.mv (.t 10)), u (.st 6 (.t 2) (.t 78)), u (.st 1 (.t 3) (.t 80)), u (.st 1 (.t 4) (.t 81))] [2, 3, 4])
 (.ret))
 (.skip))))
 (.seq (.ops [o 82 (.ld true 6 (.t 9)), u (.st 6 (.t 2) (.t 82)), u (.st 1 (.t 3) (ci 0)), u (.st 1 (.t 4) (ci 0))] [2, 3, 4])
 (.ret))))))))⟩

/-- crumple/crumpleref04.Print -/
def c85L0 : ACode :=
 .seq (.seq (.ops [o 34 (.mv (.t 4)), o 35 (.fadr 0 (.t 1)), o 36 (.ld false 1 (.t 35)), o 37 (.len 1 (.t 36)), o 38 (.bin .lss (.t 34) (.t 37))] [1, 3, 4, 38])
 (.cond (.t 38)
 (.skip)
 (.exit 0)))
 (.seq (.block 1 (.ops [o 41 (.mv (.t 3)), o 42 (.bin .add (.t 41) (cs [112, 117, 108, 108, 32])), o 43 (.fadr 0 (.t 1)), o 44 (.ld false 1 (.t 43)), o 45 (.mv (.t 4)), o 46 (.iadr 1 (.t 44) (.t 45)), o 47 (.ld false 1 (.t 46)), o 48 (.call true true 0 (.fn 151) [.t 47]), o 49 (.bin .add (.t 42) (.t 48)), o 50 (.bin .add (.t 49) (cs [10])), o 3 (.mv (.t 50))] [1, 3, 4]))
 (.ops [o 39 (.mv (.t 4)), o 40 (.bin .add (.t 39) (ci 1)), o 4 (.mv (.t 40))] [1, 3, 4]))
def c85 : AFunc := ⟨52, [.tmp 2],
 .seq (.ops [o 1 (.box false (.t 0)), o 2 (.mv (cs []))] [1])
 (.seq (.opsd [(0, 1), (1, 1), (2, 1), (3, 1), (4, 1), (5, 1), (6, 1), (7, 1), (8, 1), (9, 1), (10, 1), (11, 1), (12, 1), (13, 1), (14, 1), (15, 1), (16, 1), (17, 1), (18, 1), (19, 1), (20, 1), (21, 1), (22, 1), (23, 1), (24, 1), (25, 1), (26, 0), (27, 1), (28, 1), (29, 1)] [o 5 (.fadr 5 (.t 1)), o 6 (.ld false 1 (.t 5)), o 7 (.call true true 0 (.fn 151) [.t 6]), o 8 (.bin .add (cs [119, 97, 108, 108, 32]) (.t 7)), o 9 (.bin .add (.t 8) (cs [10, 102, 114, 105, 99, 116, 105, 111, 110, 32])), o 10 (.fadr 1 (.t 1)), o 11 (.fadr 0 (.t 10)), o 12 (.ld false 1 (.t 11)), o 13 (.call true true 0 (.fn 151) [.t 12]), o 14 (.bin .add (.t 9) (.t 13)), o 15 (.bin .add (.t 14) (cs [32])), o 16 (.fadr 1 (.t 1)), o 17 (.fadr 1 (.t 16)), o 18 (.ld false 1 (.t 17)), o 19 (.call true true 0 (.fn 151) [.t 18]), o 20 (.bin .add (.t 15) (.t 19)), o 21 (.bin .add (.t 20) (cs [10, 98, 114, 97, 107, 101, 32])), o 22 (.fadr 3 (.t 1)), o 23 (.fadr 0 (.t 22)), o 24 (.ld false 1 (.t 23)), o 25 (.call true true 0 (.fn 151) [.t 24]), o 26 (.bin .add (.t 21) (.t 25)), o 27 (.bin .add (.t 26) (cs [32])), o 28 (.fadr 3 (.t 1)), o 29 (.fadr 1 (.t 28)), o 30 (.ld false 1 (.t 29)), o 31 (.call true true 0 (.fn 151) [.t 30]), o 32 (.bin .add (.t 27) (.t 31)), o 33 (.bin .add (.t 32) (cs [10])), o 3 (.mv (.t 33))] [1, 3])
 (.seq (.seq (.ops [o 4 (.mv (ci 0))] [1, 3, 4])
 (.block 0 (.loop false [1, 3, 4] c85L0)))
 (.seq (.ops [o 51 (.mv (.t 3)), o 2 (.mv (.t 51))] [2])
 (.ret))))⟩

/-- crumple/crumpleref04.Parse -/
def c86L0 : ACode :=
 .seq (.seq (.ops [o 73 (.mv (.t 14)), o 74 (.mv (.t 9)), o 75 (.len 1 (.t 74)), o 76 (.bin .lss (.t 73) (.t 75))] [2, 5, 6, 7, 8, 9, 12, 13, 14, 76])
 (.cond (.t 76)
 (.skip)
 (.exit 2)))
 (.seq (.block 3 (.seq (.ops [o 80 (.mv (.t 9)), o 81 (.mv (.t 14)), o 82 (.iadr 1 (.t 80) (.t 81)), o 83 (.ld false 1 (.t 82)), o 84 (.call true true 0 (.fn 152) [.t 83]), o 79 (.mv (.t 84)), o 85 (.ext (.t 79) 0), o 86 (.ext (.t 79) 1), o 15 (.mv (.t 85)), o 16 (.mv (.t 86))] [2, 5, 6, 7, 8, 9, 12, 13, 14, 15, 16])
 (.seq (.ops [o 87 (.mv (.t 12)), o 88 (.mv (.t 87)), ⟨some 89, .mv (.t 16), some (88, true)⟩, o 90 (.pick (.t 88) (.t 89) (cb false)), o 12 (.mv (.t 90))] [2, 5, 6, 7, 8, 9, 12, 13, 14, 15])
 (.ops [o 91 (.mv (.t 13)), o 92 (.mv (.t 15)), o 93 (.bslice false 1 [.p (.int .i64 0)] 1 [(0, .t 92)]), o 94 (.app 1 8 [.p (.int .i64 0)] (.t 91) (.t 93)), o 13 (.mv (.t 94))] [2, 5, 6, 7, 8, 9, 12, 13, 14]))))
 (.ops [o 77 (.mv (.t 14)), o 78 (.bin .add (.t 77) (ci 1)), o 14 (.mv (.t 78))] [2, 5, 6, 7, 8, 9, 12, 13, 14]))
def c86L1 : ACode :=
 .seq (.seq (.ops [o 25 (.mv (.t 8)), o 26 (.mv (.t 6)), o 27 (.len 1 (.t 26)), o 28 (.bin .lss (.t 25) (.t 27))] [2, 5, 6, 7, 8, 28])
 (.cond (.t 28)
 (.skip)
 (.exit 0)))
 (.seq (.block 1 (.seq (.seq (.ops [o 31 (.mv (.t 8)), o 32 (.mv (.t 6)), o 33 (.len 1 (.t 32)), o 34 (.bin .sub (.t 33) (ci 1)), o 35 (.bin .eql (.t 31) (.t 34))] [2, 5, 6, 7, 8, 35])
 (.cond (.t 35)
 (.seq (.seq (.ops [o 36 (.mv (.t 6)), o 37 (.mv (.t 8)), o 38 (.iadr 1 (.t 36) (.t 37)), o 39 (.ld false 1 (.t 38)), o 40 (.bin .neq (.t 39) (cs []))] [2, 5, 6, 7, 8, 40])
 (.cond (.t 40)
 (.seq (.ops [o 41 (.build [.p (.nils), .p (.int .i64 0), .p (.int .i64 0), .p (.int .i64 0), .p (.int .i64 0), .p (.int .i64 0)] []), o 42 (.mv (.t 8)), u (.st 6 (.t 2) (.t 41)), o 3 (.mv (.t 42)), o 4 (.mv (ci 25))] [2, 3, 4])
 (.ret))
 (.skip)))
 (.exit 1))
 (.skip)))
 (.seq (.ops [o 43 (.mv (.t 6)), o 44 (.mv (.t 8)), o 45 (.iadr 1 (.t 43) (.t 44)), o 46 (.ld false 1 (.t 45)), o 47 (.call true false 0 (.fn 89) [.t 46, .c (.p (.int .u8 32))]), o 9 (.mv (.t 47))] [2, 5, 6, 7, 8, 9])
 (.seq (.ops [o 10 (.mv (cs [112, 117, 108, 108])), o 11 (.mv (ci 2))] [2, 5, 6, 7, 8, 9, 10, 11])
 (.seq (.seq (.ops [o 48 (.mv (.t 8)), o 49 (.mv (.t 7)), o 50 (.len 1 (.t 49)), o 51 (.bin .lss (.t 48) (.t 50))] [2, 5, 6, 7, 8, 9, 10, 11, 51])
 (.cond (.t 51)
 (.ops [o 52 (.mv (.t 7)), o 53 (.mv (.t 8)), o 54 (.iadr 1 (.t 52) (.t 53)), o 55 (.ld false 1 (.t 54)), o 10 (.mv (.t 55))] [2, 5, 6, 7, 8, 9, 10, 11])
 (.skip)))
 (.seq (.seq (.ops [o 56 (.mv (.t 8)), o 57 (.bin .eql (.t 56) (ci 1)), o 58 (.mv (.t 57)), ⟨some 59, .mv (.t 8), some (58, false)⟩, ⟨some 60, .bin .eql (.t 59) (ci 2), some (58, false)⟩, o 61 (.pick (.t 58) (cb true) (.t 60))] [2, 5, 6, 7, 8, 9, 10, 11, 61])
 (.cond (.t 61)
 (.ops [o 11 (.mv (ci 3))] [2, 5, 6, 7, 8, 9, 10, 11])
 (.skip)))
 (.seq (.ops [o 62 (.mv (.t 9)), o 63 (.len 1 (.t 62)), o 64 (.mv (.t 11)), o 65 (.bin .eql (.t 63) (.t 64)), o 66 (.mv (.t 65)), ⟨some 67, .mv (.t 9), some (66, true)⟩, ⟨some 68, .iadr 1 (.t 67) (ci 0), some (66, true)⟩, ⟨some 69, .ld false 1 (.t 68), some (66, true)⟩, ⟨some 70, .mv (.t 10), some (66, true)⟩, ⟨some 71, .bin .eql (.t 69) (.t 70), some (66, true)⟩, o 72 (.pick (.t 66) (.t 71) (cb false)), o 12 (.mv (.t 72))] [2, 5, 6, 7, 8, 9, 12])
 (.seq (.ops [o 13 (.nilown 1)] [2, 5, 6, 7, 8, 9, 12, 13])
 (.seq (.seq (.ops [o 14 (.mv (ci 1))] [2, 5, 6, 7, 8, 9, 12, 13, 14])
 (.block 2 (.loop false [2, 5, 6, 7, 8, 9, 12, 13, 14] c86L0)))
 (.seq (.seq (.ops [o 95 (.mv (.t 12)), o 96 (.not (.t 95))] [2, 5, 6, 7, 8, 13, 96])
 (.cond (.t 96)
 (.seq (.ops [o 97 (.build [.p (.nils), .p (.int .i64 0), .p (.int .i64 0), .p (.int .i64 0), .p (.int .i64 0), .p (.int .i64 0)] []), o 98 (.mv (.t 8)), u (.st 6 (.t 2) (.t 97)), o 3 (.mv (.t 98)), o 4 (.mv (ci 25))] [2, 3, 4])
 (.ret))
 (.skip)))
 (.seq (.ops [o 99 (.mv (.t 8)), o 100 (.bin .eql (.t 99) (ci 0))] [2, 5, 6, 7, 8, 13, 100])
 (.cond (.t 100)
 (.ops [o 101 (.mv (.t 13)), o 102 (.iadr 1 (.t 101) (ci 0)), o 103 (.ld false 1 (.t 102)), o 104 (.fadr 5 (.t 5)), u (.st 1 (.t 104) (.t 103))] [2, 5, 6, 7, 8])
 (.seq (.ops [o 105 (.mv (.t 8)), o 106 (.bin .eql (.t 105) (ci 1))] [2, 5, 6, 7, 8, 13, 106])
 (.cond (.t 106)
 (.opsd [(0, 1), (1, 1), (2, 1), (3, 1), (4, 1), (5, 1), (6, 1), (7, 1), (8, 0)] [o 107 (.mv (.t 13)), o 108 (.iadr 1 (.t 107) (ci 0)), o 109 (.ld false 1 (.t 108)), o 110 (.mv (.t 13)), o 111 (.iadr 1 (.t 110) (ci 1)), o 112 (.ld false 1 (.t 111)), o 113 (.build [.p (.int .i64 0), .p (.int .i64 0)] [(0, 1, .t 109), (1, 1, .t 112)]), o 114 (.fadr 1 (.t 5)), u (.st 2 (.t 114) (.t 113))] [2, 5, 6, 7, 8])
 (.seq (.ops [o 115 (.mv (.t 8)), o 116 (.bin .eql (.t 115) (ci 2))] [2, 5, 6, 7, 8, 13, 116])
 (.cond (.t 116)
 (.opsd [(0, 1), (1, 1), (2, 1), (3, 1), (4, 1), (5, 1), (6, 1), (7, 1), (8, 0)] [o 117 (.mv (.t 13)), o 118 (.iadr 1 (.t 117) (ci 0)), o 119 (.ld false 1 (.t 118)), o 120 (.mv (.t 13)), o 121 (.iadr 1 (.t 120) (ci 1)), o 122 (.ld false 1 (.t 121)), o 123 (.build [.p (.int .i64 0), .p (.int .i64 0)] [(0, 1, .t 119), (1, 1, .t 122)]), o 124 (.fadr 3 (.t 5)), u (.st 2 (.t 124) (.t 123))] [2, 5, 6, 7, 8])
 (.opsd [(0, 1), (1, 1), (2, 1), (3, 1), (4, 1), (5, 1), (6, 0), (7, 1), (8, 0)] [o 125 (.fadr 0 (.t 5)), o 126 (.ld false 1 (.t 125)), o 127 (.mv (.t 13)), o 128 (.iadr 1 (.t 127) (ci 0)), o 129 (.ld false 1 (.t 128)), o 130 (.bslice false 1 [.p (.int .i64 0)] 1 [(0, .t 129)]), o 131 (.app 1 8 [.p (.int .i64 0)] (.t 126) (.t 130)), o 132 (.fadr 0 (.t 5)), u (.st 1 (.t 132) (.t 131))] [2, 5, 6, 7, 8])))))))))))))))))
 (.ops [o 29 (.mv (.t 8)), o 30 (.bin .add (.t 29) (ci 1)), o 8 (.mv (.t 30))] [2, 5, 6, 7, 8]))
def c86 : AFunc := ⟨153, [.cell 2 true 6, .tmp 3, .tmp 4],
 .seq (.ops [o 2 (.alloc false 1 [.p (.nils), .p (.int .i64 0), .p (.int .i64 0), .p (.int .i64 0), .p (.int .i64 0), .p (.int .i64 0)]), o 3 (.mv (ci 0)), o 4 (.mv (ci 0))] [0, 2])
 (.seq (.seq (.ops [o 18 (.mv (.t 0)), o 19 (.len 0 (.t 18)), o 20 (.bin .gtr (.t 19) (ci 4096))] [0, 2, 20])
 (.cond (.t 20)
 (.seq (.ops [o 21 (.build [.p (.nils), .p (.int .i64 0), .p (.int .i64 0), .p (.int .i64 0), .p (.int .i64 0), .p (.int .i64 0)] []), u (.st 6 (.t 2) (.t 21)), o 3 (.mv (ci 0)), o 4 (.mv (ci 26))] [2, 3, 4])
 (.ret))
 (.skip)))
 (.seq (.ops [o 5 (.alloc false 1 [.p (.nils), .p (.int .i64 0), .p (.int .i64 0), .p (.int .i64 0), .p (.int .i64 0), .p (.int .i64 0)])] [0, 2, 5])
 (.seq (.ops [o 22 (.mv (.t 0)), o 23 (.call true false 0 (.fn 89) [.t 22, .c (.p (.int .u8 10))]), o 6 (.mv (.t 23))] [2, 5, 6])
 (.seq (.ops [o 24 (.bslice false 1 [.p (.str [])] 3 [(0, cs [119, 97, 108, 108]), (1, cs [102, 114, 105, 99, 116, 105, 111, 110]), (2, cs [98, 114, 97, 107, 101])]), o 7 (.mv (.t 24))] [2, 5, 6, 7])
 (.seq (.seq (.ops [o 8 (.mv (ci 0))] [2, 5, 6, 7, 8])
 (.block 0 (.loop true [2, 5, 6, 7, 8] c86L1)))
 (.seq (.seq (.ops [o 133 (.mv (.t 6)), o 134 (.len 1 (.t 133)), o 135 (.bin .sub (.t 134) (ci 1)), o 136 (.mv (.t 7)), o 137 (.len 1 (.t 136)), o 138 (.bin .lss (.t 135) (.t 137))] [2, 5, 6, 138])
 (.cond (.t 138)
 (.seq (.ops [o 139 (.build [.p (.nils), .p (.int .i64 0), .p (.int .i64 0), .p (.int .i64 0), .p (.int .i64 0), .p (.int .i64 0)] []), o 140 (.mv (.t 6)), o 141 (.len 1 (.t 140)), o 142 (.bin .sub (.t 141) (ci 1)), u (.st 6 (.t 2) (.t 139)), o 3 (.mv (.t 142)), o 4 (.mv (ci 25))] [2, 3, 4])
 (.ret))
 (.skip)))
 (.seq (.seq (.ops [o 143 (.ld true 6 (.t 5)), o 144 (.call true true 0 (.fn 40) [.t 143]), o 17 (.mv (.t 144))] [2, 5, 6, 17])
 (.seq (.ops [o 145 (.mv (.t 17)), o 146 (.bin .neq (.t 145) (ci 0))] [2, 5, 6, 17, 146])
 (.cond (.t 146)
 (.seq (.ops [o 147 (.build [.p (.nils), .p (.int .i64 0), .p (.int .i64 0), .p (.int .i64 0), .p (.int .i64 0), .p (.int .i64 0)] []), o 148 (.mv (.t 6)), o 149 (.len 1 (.t 148)), o 150 (.bin .sub (.t 149) (ci 1)), o 151 (.mv (.t 17)), u (.st 6 (.t 2) (.t 147)), o 3 (.mv (.t 150)), o 4 (.mv (.t 151))] [2, 3, 4])
 (.ret))
 (.skip))))
 (.seq (.ops [o 152 (.ld true 6 (.t 5)), u (.st 6 (.t 2) (.t 152)), o 3 (.mv (ci 0)), o 4 (.mv (ci 0))] [2, 3, 4])
 (.ret)))))))))⟩

/-- crumple/crumpleref04.SameTow -/
def c87 : AFunc := ⟨31, [.tmp 4],
 .seq (.ops [o 2 (.box false (.t 0)), o 3 (.box false (.t 1)), o 4 (.mv (cb false))] [2, 3])
 (.seq (.ops [o 5 (.fadr 0 (.t 2)), o 6 (.ld false 1 (.t 5)), o 7 (.fadr 0 (.t 3)), o 8 (.ld false 1 (.t 7)), o 9 (.call true true 0 (.fn 49) [.t 6, .t 8]), o 10 (.mv (.t 9)), ⟨some 11, .fadr 1 (.t 2), some (10, true)⟩, ⟨some 12, .ld true 2 (.t 11), some (10, true)⟩, ⟨some 13, .fadr 1 (.t 3), some (10, true)⟩, ⟨some 14, .ld true 2 (.t 13), some (10, true)⟩, ⟨some 15, .eqagg [0, 0] false (.t 12) (.t 14), some (10, true)⟩, o 16 (.pick (.t 10) (.t 15) (cb false)), o 17 (.mv (.t 16)), ⟨some 18, .fadr 3 (.t 2), some (17, true)⟩, ⟨some 19, .ld true 2 (.t 18), some (17, true)⟩, ⟨some 20, .fadr 3 (.t 3), some (17, true)⟩, ⟨some 21, .ld true 2 (.t 20), some (17, true)⟩, ⟨some 22, .eqagg [0, 0] false (.t 19) (.t 21), some (17, true)⟩, o 23 (.pick (.t 17) (.t 22) (cb false)), o 24 (.mv (.t 23)), ⟨some 25, .fadr 5 (.t 2), some (24, true)⟩, ⟨some 26, .ld false 1 (.t 25), some (24, true)⟩, ⟨some 27, .fadr 5 (.t 3), some (24, true)⟩, ⟨some 28, .ld false 1 (.t 27), some (24, true)⟩, ⟨some 29, .bin .eql (.t 26) (.t 28), some (24, true)⟩, o 30 (.pick (.t 24) (.t 29) (cb false)), o 4 (.mv (.t 30))] [4])
 (.ret))⟩

/-- crumple/crumplelaw04.told -/
def c88 : AFunc := ⟨4, [.cell 2 true 6],
 .seq (.ops [o 1 (.box false (.t 0)), o 2 (.alloc false 1 [.p (.nils), .p (.int .i64 0), .p (.int .i64 0), .p (.int .i64 0), .p (.int .i64 0), .p (.int .i64 0)])] [1, 2])
 (.seq (.ops [o 3 (.ld true 6 (.t 1)), u (.st 6 (.t 2) (.t 3))] [2])
 (.ret))⟩

/-- crumple/crumpleref01.Split -/
def c89L0 : ACode :=
 .seq (.seq (.ops [o 8 (.mv (.t 7)), o 9 (.mv (.t 0)), o 10 (.len 0 (.t 9)), o 11 (.bin .lss (.t 8) (.t 10))] [0, 1, 5, 6, 7, 11])
 (.cond (.t 11)
 (.skip)
 (.exit 0)))
 (.seq (.block 1 (.seq (.ops [o 14 (.mv (.t 0)), o 15 (.mv (.t 7)), o 16 (.idxs (.t 14) (.t 15)), o 17 (.mv (.t 1)), o 18 (.bin .eql (.t 16) (.t 17))] [0, 1, 5, 6, 7, 18])
 (.cond (.t 18)
 (.seq (.ops [o 19 (.mv (.t 5)), o 20 (.mv (.t 0)), o 21 (.mv (.t 6)), o 22 (.mv (.t 7)), o 23 (.slcs (.t 20) (some (.t 21)) (some (.t 22))), o 24 (.bslice false 1 [.p (.str [])] 1 [(0, .t 23)]), o 25 (.app 1 16 [.p (.str [])] (.t 19) (.t 24)), o 5 (.mv (.t 25))] [0, 1, 5, 7])
 (.ops [o 26 (.mv (.t 7)), o 27 (.bin .add (.t 26) (ci 1)), o 6 (.mv (.t 27))] [0, 1, 5, 6, 7]))
 (.skip))))
 (.ops [o 12 (.mv (.t 7)), o 13 (.bin .add (.t 12) (ci 1)), o 7 (.mv (.t 13))] [0, 1, 5, 6, 7]))
def c89 : AFunc := ⟨34, [.tmp 4],
 .seq (.ops [o 4 (.mv (cn))] [0, 1])
 (.seq (.ops [o 5 (.nilown 1)] [0, 1, 5])
 (.seq (.ops [o 6 (.mv (ci 0))] [0, 1, 5, 6])
 (.seq (.seq (.ops [o 7 (.mv (ci 0))] [0, 1, 5, 6, 7])
 (.block 0 (.loop false [0, 1, 5, 6, 7] c89L0)))
 (.seq (.ops [o 28 (.mv (.t 5)), o 29 (.mv (.t 0)), o 30 (.mv (.t 6)), o 31 (.slcs (.t 29) (some (.t 30)) none), o 32 (.bslice false 1 [.p (.str [])] 1 [(0, .t 31)]), o 33 (.app 1 16 [.p (.str [])] (.t 28) (.t 32)), o 4 (.mv (.t 33))] [4])
 (.ret)))))⟩

/-- crumple/crumplelaw04.to -/
def c90 : AFunc := ⟨8, [.cell 4 true 2],
 .seq (.ops [o 4 (.alloc true 1 [.p (.int .i64 0), .p (.int .i64 0)])] [0, 1, 4])
 (.seq (.ops [o 5 (.mv (.t 0)), o 6 (.mv (.t 1)), o 7 (.build [.p (.int .i64 0), .p (.int .i64 0)] [(0, 1, .t 5), (1, 1, .t 6)]), u (.st 2 (.t 4) (.t 7))] [4])
 (.ret))⟩

/-- crumple/crumpleref04.Owned -/
def c92 : AFunc := ⟨11, [.cell 2 true 6],
 .seq (.ops [o 1 (.box false (.t 0)), o 2 (.alloc false 1 [.p (.str []), .p (.int .i64 0), .p (.int .i64 0), .p (.int .i64 0), .p (.int .i64 0), .p (.nils)])] [1, 2])
 (.seq (.ops [o 4 (.ld true 6 (.t 1)), o 3 (.alloc false 1 [.p (.str []), .p (.int .i64 0), .p (.int .i64 0), .p (.int .i64 0), .p (.int .i64 0), .p (.nils)]), u (.st 6 (.t 3) (.t 4))] [1, 2, 3])
 (.seq (.ops [o 5 (.bslice true 1 [.p (.int .i64 0)] 0 []), o 6 (.fadr 5 (.t 1)), o 7 (.ld false 1 (.t 6)), o 8 (.app 1 8 [.p (.int .i64 0)] (.t 5) (.t 7)), o 9 (.fadr 5 (.t 3)), u (.st 1 (.t 9) (.t 8))] [2, 3])
 (.seq (.ops [o 10 (.ld true 6 (.t 3)), u (.st 6 (.t 2) (.t 10))] [2])
 (.ret))))⟩

/-- crumple/crumpleref01.HasWord -/
def c93L0 : ACode :=
 .seq (.seq (.ops [o 6 (.mv (.t 5)), o 7 (.mv (.t 0)), o 8 (.len 1 (.t 7)), o 9 (.bin .lss (.t 6) (.t 8))] [0, 1, 5, 9])
 (.cond (.t 9)
 (.skip)
 (.exit 0)))
 (.seq (.block 1 (.seq (.ops [o 12 (.mv (.t 0)), o 13 (.mv (.t 5)), o 14 (.iadr 1 (.t 12) (.t 13)), o 15 (.ld false 1 (.t 14)), o 16 (.mv (.t 1)), o 17 (.bin .eql (.t 15) (.t 16))] [0, 1, 5, 17])
 (.cond (.t 17)
 (.seq (.ops [o 4 (.mv (cb true))] [4])
 (.ret))
 (.skip))))
 (.ops [o 10 (.mv (.t 5)), o 11 (.bin .add (.t 10) (ci 1)), o 5 (.mv (.t 11))] [0, 1, 5]))
def c93 : AFunc := ⟨18, [.tmp 4],
 .seq (.ops [o 4 (.mv (cb false))] [0, 1])
 (.seq (.seq (.ops [o 5 (.mv (ci 0))] [0, 1, 5])
 (.block 0 (.loop false [0, 1, 5] c93L0)))
 (.seq (.ops [o 4 (.mv (cb false))] [4])
 (.ret)))⟩

/-- crumple/crumplelaw04.track -/
def c94 : AFunc := ⟨5, [.cell 0 true 6],
 .seq (.ops [o 0 (.alloc false 1 [.p (.nils), .p (.int .i64 0), .p (.int .i64 0), .p (.int .i64 0), .p (.int .i64 0), .p (.int .i64 0)])] [0])
 (.seq (.ops [o 1 (.bslice false 1 [.p (.int .i64 0)] 6 [(0, ci 10), (1, ci 10), (2, ci 10), (3, ci 0), (4, ci 0), (5, ci 0)]), o 2 (.call true true 0 (.fn 90) [ci 1, ci 2]), o 3 (.call true true 0 (.fn 90) [ci 6, ci 8]), o 4 (.build [.p (.nils), .p (.int .i64 0), .p (.int .i64 0), .p (.int .i64 0), .p (.int .i64 0), .p (.int .i64 0)] [(0, 1, .t 1), (1, 2, .t 2), (3, 2, .t 3), (5, 1, ci 6)]), u (.st 6 (.t 0) (.t 4))] [0])
 (.ret))⟩

/-- crumple/crumplelaw04.car -/
def c95 : AFunc := ⟨6, [.tmp 0],
 .seq (.ops [o 0 (.mv (cn))] [])
 (.seq (.ops [o 1 (.call true true 0 (.fn 90) [ci 1000, ci 1010]), o 2 (.call true true 0 (.fn 90) [ci 10, ci 11]), o 3 (.call true true 0 (.fn 90) [ci (-2), ci (-1)]), o 4 (.build [.p (.str []), .p (.int .i64 0), .p (.int .i64 0), .p (.int .i64 0), .p (.int .i64 0), .p (.int .i64 0), .p (.int .i64 0)] [(0, 1, cs [99, 97, 114]), (1, 2, .t 1), (3, 2, .t 2), (5, 2, .t 3)]), o 5 (.bslice false 7 [.p (.str []), .p (.int .i64 0), .p (.int .i64 0), .p (.int .i64 0), .p (.int .i64 0), .p (.int .i64 0), .p (.int .i64 0)] 1 [(0, .t 4)]), o 0 (.mv (.t 5))] [0])
 (.ret))⟩

/-- crumple/crumplelaw04.wall -/
def c96 : AFunc := ⟨9, [.tmp 4],
 .seq (.ops [o 4 (.mv (cn))] [0, 1])
 (.seq (.ops [o 5 (.mv (.t 0)), o 6 (.mv (.t 1)), o 7 (.build [.p (.str []), .p (.int .i64 0), .p (.int .i64 0), .p (.int .i64 0), .p (.int .i64 0), .p (.nils)] [(0, 1, cs [119]), (3, 1, .t 5), (4, 1, ci 1), (5, 1, .t 6)]), o 8 (.bslice false 6 [.p (.str []), .p (.int .i64 0), .p (.int .i64 0), .p (.int .i64 0), .p (.int .i64 0), .p (.nils)] 1 [(0, .t 7)]), o 4 (.mv (.t 8))] [4])
 (.ret))⟩

/-- crumple/barrier.speeds -/
def c97L0 : ACode :=
 .seq (.seq (.ops [o 8 (.mv (.t 4)), o 9 (.mv (.t 0)), o 10 (.len 1 (.t 9)), o 11 (.bin .lss (.t 8) (.t 10))] [0, 3, 4, 11])
 (.cond (.t 11)
 (.skip)
 (.exit 0)))
 (.seq (.block 1 (.seq (.opsd [(0, 1), (1, 1), (2, 1), (3, 5), (4, 5), (5, 1), (6, 1), (7, 5), (8, 5), (9, 2), (10, 2), (11, 0), (12, 0)] [o 14 (.mv (.t 0)), o 15 (.mv (.t 4)), o 16 (.bin .sub (.t 15) (ci 1)), o 17 (.iadr 3 (.t 14) (.t 16)), o 18 (.ld true 3 (.t 17)), o 19 (.mv (.t 0)), o 20 (.mv (.t 4)), o 21 (.iadr 3 (.t 19) (.t 20)), o 22 (.ld true 3 (.t 21)), o 5 (.allocr 0 true 1 [.p (.int .i64 0), .p (.int .i64 0), .p (.int .i64 0)]), o 6 (.allocr 1 true 1 [.p (.int .i64 0), .p (.int .i64 0), .p (.int .i64 0)]), u (.st 3 (.t 5) (.t 18)), u (.st 3 (.t 6) (.t 22))] [0, 3, 4, 5, 6])
 (.seq (.ops [o 23 (.fadr 0 (.t 6)), o 24 (.ld false 1 (.t 23)), o 25 (.fadr 0 (.t 5)), o 26 (.ld false 1 (.t 25)), o 27 (.bin .sub (.t 24) (.t 26)), o 28 (.bin .mul (.t 27) (ci 1000000)), o 7 (.mv (.t 28))] [0, 3, 4, 5, 6, 7])
 (.opsd [(0, 1), (1, 1), (2, 1), (3, 1), (4, 1), (5, 1), (6, 1), (7, 1), (8, 1), (9, 1), (10, 1), (11, 1), (12, 1), (13, 1), (14, 1), (15, 1), (16, 1), (17, 1), (18, 1), (19, 1), (20, 0), (21, 0), (22, 1)] [o 29 (.mv (.t 3)), o 30 (.mv (.t 7)), o 31 (.fadr 1 (.t 6)), o 32 (.fadr 1 (.t 31)), o 33 (.ld false 1 (.t 32)), o 34 (.fadr 1 (.t 5)), o 35 (.fadr 0 (.t 34)), o 36 (.ld false 1 (.t 35)), o 37 (.bin .sub (.t 33) (.t 36)), o 38 (.bin .quo (.t 30) (.t 37)), o 39 (.mv (.t 7)), o 40 (.fadr 1 (.t 6)), o 41 (.fadr 0 (.t 40)), o 42 (.ld false 1 (.t 41)), o 43 (.fadr 1 (.t 5)), o 44 (.fadr 1 (.t 43)), o 45 (.ld false 1 (.t 44)), o 46 (.bin .sub (.t 42) (.t 45)), o 47 (.call true true 0 (.fn 153) [.t 39, .t 46]), o 48 (.build [.p (.int .i64 0), .p (.int .i64 0)] [(0, 1, .t 38), (1, 1, .t 47)]), o 49 (.bslice false 2 [.p (.int .i64 0), .p (.int .i64 0)] 1 [(0, .t 48)]), o 50 (.app 2 16 [.p (.int .i64 0), .p (.int .i64 0)] (.t 29) (.t 49)), o 3 (.mv (.t 50))] [0, 3, 4]))))
 (.ops [o 12 (.mv (.t 4)), o 13 (.bin .add (.t 12) (ci 1)), o 4 (.mv (.t 13))] [0, 3, 4]))
def c97 : AFunc := ⟨52, [.tmp 2],
 .seq (.ops [o 2 (.mv (cn))] [0])
 (.seq (.ops [o 3 (.nilown 2)] [0, 3])
 (.seq (.seq (.ops [o 4 (.mv (ci 1))] [0, 3, 4])
 (.block 0 (.loop true [0, 3, 4] c97L0)))
 (.seq (.ops [o 51 (.mv (.t 3)), o 2 (.mv (.t 51))] [2])
 (.ret))))⟩

/-- crumple/barrier.first -/
def c98L0 : ACode :=
 .seq (.ops [o 8 (.bin .lss (.t 7) (.t 6))] [5, 6, 7, 8])
 (.seq (.cond (.t 8)
 (.skip)
 (.exit 0))
 (.seq (.block 1 (.seq (.ops [o 9 (.iadr 1 (.t 5) (.t 7)), o 10 (.ld false 1 (.t 9)), o 4 (.mv (.t 10))] [4, 5, 6, 7])
 (.seq (.ops [o 11 (.mv (.t 4)), o 12 (.bin .neq (.t 11) (ci 0))] [4, 5, 6, 7, 12])
 (.cond (.t 12)
 (.seq (.ops [o 13 (.mv (.t 4)), o 2 (.mv (.t 13))] [2])
 (.ret))
 (.skip)))))
 (.ops [o 14 (.bin .add (.t 7) (ci 1)), o 7 (.mv (.t 14))] [5, 6, 7])))
def c98 : AFunc := ⟨15, [.tmp 2],
 .seq (.ops [o 2 (.mv (ci 0))] [0])
 (.seq (.seq (.ops [o 5 (.mv (.t 0)), o 6 (.len 1 (.t 5)), o 7 (.mv (ci 0))] [5, 6, 7])
 (.block 0 (.loop false [5, 6, 7] c98L0)))
 (.seq (.ops [o 2 (.mv (ci 0))] [2])
 (.ret)))⟩

/-- crumple/barrier.checkSpan -/
def c99 : AFunc := ⟨19, [.tmp 2],
 .seq (.ops [o 1 (.box true (.t 0)), o 2 (.mv (ci 0))] [1])
 (.seq (.ops [o 3 (.fadr 0 (.t 1)), o 4 (.ld false 1 (.t 3)), o 5 (.bin .lss (.t 4) (ci 0)), o 6 (.mv (.t 5)), ⟨some 7, .fadr 0 (.t 1), some (6, false)⟩, ⟨some 8, .ld false 1 (.t 7), some (6, false)⟩, ⟨some 9, .fadr 1 (.t 1), some (6, false)⟩, ⟨some 10, .ld false 1 (.t 9), some (6, false)⟩, ⟨some 11, .bin .geq (.t 8) (.t 10), some (6, false)⟩, o 12 (.pick (.t 6) (cb true) (.t 11)), o 13 (.mv (.t 12)), ⟨some 14, .fadr 1 (.t 1), some (13, false)⟩, ⟨some 15, .ld false 1 (.t 14), some (13, false)⟩, ⟨some 16, .bin .gtr (.t 15) (ci 1000000), some (13, false)⟩, o 17 (.pick (.t 13) (cb true) (.t 16)), o 18 (.call true true 0 (.fn 107) [.t 17, ci 14]), o 2 (.mv (.t 18))] [2])
 (.ret))⟩

/-- crumple/barrier.lowest -/
def c100L0 : ACode :=
 .seq (.seq (.ops [o 18 (.mv (.t 6)), o 19 (.bin .neq (.t 18) (ci 0))] [0, 1, 4, 5, 6, 19])
 (.cond (.t 19)
 (.skip)
 (.exit 0)))
 (.block 1 (.opsd [(0, 1), (1, 1), (2, 1), (3, 1), (4, 1), (5, 1)] [o 20 (.mv (.t 6)), o 21 (.mv (.t 5)), o 22 (.mv (.t 6)), o 23 (.bin .rem (.t 21) (.t 22)), o 5 (.mv (.t 20)), o 6 (.mv (.t 23))] [0, 1, 4, 5, 6]))
def c100 : AFunc := ⟨31, [.cell 4 true 2],
 .seq (.ops [o 4 (.alloc true 1 [.p (.int .i64 0), .p (.int .i64 0)])] [0, 1, 4])
 (.seq (.seq (.ops [o 7 (.mv (.t 1)), o 8 (.bin .lss (.t 7) (ci 0))] [0, 1, 4, 8])
 (.cond (.t 8)
 (.ops [o 9 (.mv (.t 0)), o 10 (.neg (.t 9)), o 11 (.mv (.t 1)), o 12 (.neg (.t 11)), o 0 (.mv (.t 10)), o 1 (.mv (.t 12))] [0, 1, 4])
 (.skip)))
 (.seq (.ops [o 13 (.mv (.t 0)), o 14 (.mv (.t 0)), o 15 (.neg (.t 14)), o 16 (.max [.t 13, .t 15]), o 17 (.mv (.t 1)), o 5 (.mv (.t 16)), o 6 (.mv (.t 17))] [0, 1, 4, 5, 6])
 (.seq (.block 0 (.loop false [0, 1, 4, 5, 6] c100L0))
 (.seq (.opsd [(0, 1), (1, 1), (2, 1), (3, 1), (4, 1), (5, 1), (6, 1), (7, 0)] [o 24 (.mv (.t 0)), o 25 (.mv (.t 5)), o 26 (.bin .quo (.t 24) (.t 25)), o 27 (.mv (.t 1)), o 28 (.mv (.t 5)), o 29 (.bin .quo (.t 27) (.t 28)), o 30 (.build [.p (.int .i64 0), .p (.int .i64 0)] [(0, 1, .t 26), (1, 1, .t 29)]), u (.st 2 (.t 4) (.t 30))] [4])
 (.ret)))))⟩

/-- crumple/crumpleref01.First -/
def c101L0 : ACode :=
 .seq (.seq (.ops [o 4 (.mv (.t 3)), o 5 (.mv (.t 0)), o 6 (.len 1 (.t 5)), o 7 (.bin .lss (.t 4) (.t 6))] [0, 3, 7])
 (.cond (.t 7)
 (.skip)
 (.exit 0)))
 (.seq (.block 1 (.seq (.ops [o 10 (.mv (.t 0)), o 11 (.mv (.t 3)), o 12 (.iadr 1 (.t 10) (.t 11)), o 13 (.ld false 1 (.t 12)), o 14 (.bin .neq (.t 13) (ci 0))] [0, 3, 14])
 (.cond (.t 14)
 (.seq (.ops [o 15 (.mv (.t 0)), o 16 (.mv (.t 3)), o 17 (.iadr 1 (.t 15) (.t 16)), o 18 (.ld false 1 (.t 17)), o 2 (.mv (.t 18))] [2])
 (.ret))
 (.skip))))
 (.ops [o 8 (.mv (.t 3)), o 9 (.bin .add (.t 8) (ci 1)), o 3 (.mv (.t 9))] [0, 3]))
def c101 : AFunc := ⟨19, [.tmp 2],
 .seq (.ops [o 2 (.mv (ci 0))] [0])
 (.seq (.seq (.ops [o 3 (.mv (ci 0))] [0, 3])
 (.block 0 (.loop false [0, 3] c101L0)))
 (.seq (.ops [o 2 (.mv (ci 0))] [2])
 (.ret)))⟩

/-- crumple/crumpleref01.CheckRange -/
def c102 : AFunc := ⟨16, [.tmp 6],
 .seq (.ops [o 6 (.mv (ci 0))] [0, 1, 2])
 (.seq (.ops [o 7 (.mv (.t 0)), o 8 (.mv (.t 1)), o 9 (.bin .lss (.t 7) (.t 8)), o 10 (.mv (.t 9)), ⟨some 11, .mv (.t 0), some (10, false)⟩, ⟨some 12, .mv (.t 2), some (10, false)⟩, ⟨some 13, .bin .gtr (.t 11) (.t 12), some (10, false)⟩, o 14 (.pick (.t 10) (cb true) (.t 13)), o 15 (.call true true 0 (.fn 55) [.t 14, ci 3]), o 6 (.mv (.t 15))] [6])
 (.ret))⟩

/-- crumple/crumpleref04.checkEnds -/
def c103 : AFunc := ⟨25, [.tmp 6],
 .seq (.ops [o 3 (.box true (.t 0)), o 6 (.mv (ci 0))] [1, 2, 3])
 (.seq (.opsd [(0, 1), (1, 1), (2, 1), (3, 1), (4, 1), (5, 1), (6, 1), (7, 1), (8, 1), (9, 1), (10, 1), (11, 1), (12, 1), (13, 1), (14, 1), (15, 0), (16, 0), (17, 0), (18, 1)] [o 7 (.fadr 0 (.t 3)), o 8 (.ld false 1 (.t 7)), o 9 (.mv (.t 1)), o 10 (.mv (.t 2)), o 11 (.call true true 0 (.fn 102) [.t 8, .t 9, .t 10]), o 12 (.fadr 1 (.t 3)), o 13 (.ld false 1 (.t 12)), o 14 (.mv (.t 1)), o 15 (.mv (.t 2)), o 16 (.call true true 0 (.fn 102) [.t 13, .t 14, .t 15]), o 17 (.fadr 0 (.t 3)), o 18 (.ld false 1 (.t 17)), o 19 (.fadr 1 (.t 3)), o 20 (.ld false 1 (.t 19)), o 21 (.bin .gtr (.t 18) (.t 20)), o 22 (.call true true 0 (.fn 55) [.t 21, ci 11]), o 23 (.bslice false 1 [.p (.int .i64 0)] 3 [(0, .t 11), (1, .t 16), (2, .t 22)]), o 24 (.call true true 0 (.fn 101) [.t 23]), o 6 (.mv (.t 24))] [6])
 (.ret))⟩

/-- crumple/crumpleref01.Floor -/
def c104 : AFunc := ⟨17, [.tmp 4],
 .seq (.ops [o 4 (.mv (ci 0))] [0, 1])
 (.seq (.ops [o 6 (.mv (.t 0)), o 7 (.mv (.t 1)), o 8 (.bin .quo (.t 6) (.t 7)), o 5 (.mv (.t 8))] [0, 1, 5])
 (.seq (.seq (.ops [o 9 (.mv (.t 5)), o 10 (.mv (.t 1)), o 11 (.bin .mul (.t 9) (.t 10)), o 12 (.mv (.t 0)), o 13 (.bin .gtr (.t 11) (.t 12))] [5, 13])
 (.cond (.t 13)
 (.ops [o 14 (.mv (.t 5)), o 15 (.bin .sub (.t 14) (ci 1)), o 5 (.mv (.t 15))] [5])
 (.skip)))
 (.seq (.ops [o 16 (.mv (.t 5)), o 4 (.mv (.t 16))] [4])
 (.ret))))⟩

/-- crumple/crumpleref01.Ceil -/
def c105 : AFunc := ⟨10, [.tmp 4],
 .seq (.ops [o 4 (.mv (ci 0))] [0, 1])
 (.seq (.ops [o 5 (.mv (.t 0)), o 6 (.bin .sub (ci 0) (.t 5)), o 7 (.mv (.t 1)), o 8 (.call true true 0 (.fn 104) [.t 6, .t 7]), o 9 (.bin .sub (ci 0) (.t 8)), o 4 (.mv (.t 9))] [4])
 (.ret))⟩

/-- crumple/crumpleref01.Lowest -/
def c106 : AFunc := ⟨22, [.cell 4 true 2],
 .seq (.ops [o 4 (.alloc true 1 [.p (.int .i64 0), .p (.int .i64 0)])] [0, 1, 4])
 (.seq (.seq (.ops [o 6 (.mv (.t 1)), o 7 (.bin .lss (.t 6) (ci 0))] [0, 1, 4, 7])
 (.cond (.t 7)
 (.ops [o 8 (.mv (.t 0)), o 9 (.bin .sub (ci 0) (.t 8)), o 10 (.mv (.t 1)), o 11 (.bin .sub (ci 0) (.t 10)), o 0 (.mv (.t 9)), o 1 (.mv (.t 11))] [0, 1, 4])
 (.skip)))
 (.seq (.ops [o 12 (.mv (.t 0)), o 13 (.mv (.t 1)), o 14 (.call true true 0 (.fn 154) [.t 12, .t 13]), o 5 (.mv (.t 14))] [0, 1, 4, 5])
 (.seq (.opsd [(0, 1), (1, 1), (2, 1), (3, 1), (4, 1), (5, 1), (6, 1), (7, 0)] [o 15 (.mv (.t 0)), o 16 (.mv (.t 5)), o 17 (.bin .quo (.t 15) (.t 16)), o 18 (.mv (.t 1)), o 19 (.mv (.t 5)), o 20 (.bin .quo (.t 18) (.t 19)), o 21 (.build [.p (.int .i64 0), .p (.int .i64 0)] [(0, 1, .t 17), (1, 1, .t 20)]), u (.st 2 (.t 4) (.t 21))] [4])
 (.ret))))⟩

/-- crumple/barrier.when -/
def c107 : AFunc := ⟨7, [.tmp 4],
 .seq (.ops [o 4 (.mv (ci 0))] [0, 1])
 (.seq (.seq (.ops [o 5 (.mv (.t 0))] [1, 5])
 (.cond (.t 5)
 (.seq (.ops [o 6 (.mv (.t 1)), o 4 (.mv (.t 6))] [4])
 (.ret))
 (.skip)))
 (.seq (.ops [o 4 (.mv (ci 0))] [4])
 (.ret)))⟩

/-- crumple/barrier.within -/
def c108 : AFunc := ⟨16, [.tmp 6],
 .seq (.ops [o 6 (.mv (ci 0))] [0, 1, 2])
 (.seq (.ops [o 7 (.mv (.t 0)), o 8 (.mv (.t 1)), o 9 (.bin .lss (.t 7) (.t 8)), o 10 (.mv (.t 9)), ⟨some 11, .mv (.t 0), some (10, false)⟩, ⟨some 12, .mv (.t 2), some (10, false)⟩, ⟨some 13, .bin .gtr (.t 11) (.t 12), some (10, false)⟩, o 14 (.pick (.t 10) (cb true) (.t 13)), o 15 (.call true true 0 (.fn 107) [.t 14, ci 3]), o 6 (.mv (.t 15))] [6])
 (.ret))⟩

/-- crumple/barrier.interval -/
def c109 : AFunc := ⟨25, [.tmp 6],
 .seq (.ops [o 3 (.box true (.t 0)), o 6 (.mv (ci 0))] [1, 2, 3])
 (.seq (.opsd [(0, 1), (1, 1), (2, 1), (3, 1), (4, 1), (5, 1), (6, 1), (7, 1), (8, 1), (9, 1), (10, 1), (11, 1), (12, 1), (13, 1), (14, 1), (15, 0), (16, 0), (17, 0), (18, 1)] [o 7 (.fadr 0 (.t 3)), o 8 (.ld false 1 (.t 7)), o 9 (.mv (.t 1)), o 10 (.mv (.t 2)), o 11 (.call true true 0 (.fn 108) [.t 8, .t 9, .t 10]), o 12 (.fadr 1 (.t 3)), o 13 (.ld false 1 (.t 12)), o 14 (.mv (.t 1)), o 15 (.mv (.t 2)), o 16 (.call true true 0 (.fn 108) [.t 13, .t 14, .t 15]), o 17 (.fadr 0 (.t 3)), o 18 (.ld false 1 (.t 17)), o 19 (.fadr 1 (.t 3)), o 20 (.ld false 1 (.t 19)), o 21 (.bin .gtr (.t 18) (.t 20)), o 22 (.call true true 0 (.fn 107) [.t 21, ci 11]), o 23 (.bslice false 1 [.p (.int .i64 0)] 3 [(0, .t 11), (1, .t 16), (2, .t 22)]), o 24 (.call true true 0 (.fn 98) [.t 23]), o 6 (.mv (.t 24))] [6])
 (.ret))⟩

/-- (*crumple/barrier.names).check -/
def c110 : AFunc := ⟨34, [.tmp 4],
 .seq (.ops [o 4 (.mv (ci 0))] [0, 1])
 (.seq (.opsd [(0, 1), (1, 1), (2, 1), (3, 1), (4, 1), (5, 1), (6, 1), (7, 1), (8, 1), (9, 1), (10, 0), (11, 0), (12, 0), (13, 1)] [o 6 (.mv (.t 1)), o 7 (.call true true 0 (.fn 155) [.t 6]), o 8 (.not (.t 7)), o 9 (.call true true 0 (.fn 107) [.t 8, ci 8]), o 10 (.mv (.t 0)), o 11 (.nilck (.t 10)), o 12 (.fadr 0 (.t 11)), o 13 (.ld false 1 (.t 12)), o 14 (.mv (.t 1)), o 15 (.lkup 1 (.p (.bool false)) (.t 13) (.t 14) false), o 16 (.call true true 0 (.fn 107) [.t 15, ci 9]), o 17 (.bslice false 1 [.p (.int .i64 0)] 2 [(0, .t 9), (1, .t 16)]), o 18 (.call true true 0 (.fn 98) [.t 17]), o 5 (.mv (.t 18))] [0, 1, 5])
 (.seq (.seq (.ops [o 19 (.mv (.t 0)), o 20 (.nilck (.t 19)), o 21 (.fadr 0 (.t 20)), o 22 (.ld false 1 (.t 21)), o 23 (.eqnil 2 false (.t 22))] [0, 1, 5, 23])
 (.cond (.t 23)
 (.ops [o 24 (.mv (.t 0)), o 25 (.mkmap), o 26 (.nilck (.t 24)), o 27 (.fadr 0 (.t 26)), u (.st 1 (.t 27) (.t 25))] [0, 1, 5])
 (.skip)))
 (.seq (.ops [o 28 (.mv (.t 0)), o 29 (.nilck (.t 28)), o 30 (.fadr 0 (.t 29)), o 31 (.ld false 1 (.t 30)), o 32 (.mv (.t 1)), u (.mupd 1 (.t 31) (.t 32) (cb true))] [5])
 (.seq (.ops [o 33 (.mv (.t 5)), o 4 (.mv (.t 33))] [4])
 (.ret)))))⟩

/-- crumple/record.CheckRatio -/
def c111L0 : ACode :=
 .seq (.seq (.ops [o 25 (.mv (.t 5)), o 26 (.bin .neq (.t 25) (ci 0))] [4, 5, 26])
 (.cond (.t 26)
 (.skip)
 (.exit 0)))
 (.block 1 (.opsd [(0, 1), (1, 1), (2, 1), (3, 1), (4, 1), (5, 1)] [o 27 (.mv (.t 5)), o 28 (.mv (.t 4)), o 29 (.mv (.t 5)), o 30 (.bin .rem (.t 28) (.t 29)), o 4 (.mv (.t 27)), o 5 (.mv (.t 30))] [4, 5]))
def c111 : AFunc := ⟨34, [.tmp 2],
 .seq (.ops [o 1 (.box true (.t 0)), o 2 (.mv (ci 0))] [1])
 (.seq (.seq (.opsd [(0, 1), (1, 1), (2, 1), (3, 1), (4, 1), (5, 0), (6, 0), (7, 0), (8, 1)] [o 6 (.fadr 0 (.t 1)), o 7 (.ld false 1 (.t 6)), o 8 (.call true true 0 (.fn 157) [.t 7, ci (-999999999), ci 999999999]), o 9 (.fadr 1 (.t 1)), o 10 (.ld false 1 (.t 9)), o 11 (.call true true 0 (.fn 157) [.t 10, ci 1, ci 999999999]), o 12 (.bslice false 1 [.p (.int .i64 0)] 2 [(0, .t 8), (1, .t 11)]), o 13 (.call true true 0 (.fn 156) [.t 12]), o 3 (.mv (.t 13))] [1, 3])
 (.seq (.ops [o 14 (.mv (.t 3)), o 15 (.bin .neq (.t 14) (ci 0))] [1, 3, 15])
 (.cond (.t 15)
 (.seq (.ops [o 16 (.mv (.t 3)), o 2 (.mv (.t 16))] [2])
 (.ret))
 (.skip))))
 (.seq (.opsd [(0, 1), (1, 1), (2, 1), (3, 1), (4, 1), (5, 1), (6, 1), (7, 1), (8, 1), (9, 1)] [o 17 (.fadr 0 (.t 1)), o 18 (.ld false 1 (.t 17)), o 19 (.fadr 0 (.t 1)), o 20 (.ld false 1 (.t 19)), o 21 (.neg (.t 20)), o 22 (.max [.t 18, .t 21]), o 23 (.fadr 1 (.t 1)), o 24 (.ld false 1 (.t 23)), o 4 (.mv (.t 22)), o 5 (.mv (.t 24))] [4, 5])
 (.seq (.block 0 (.loop false [4, 5] c111L0))
 (.seq (.ops [o 31 (.mv (.t 4)), o 32 (.bin .neq (.t 31) (ci 1)), o 33 (.call true true 0 (.fn 158) [.t 32, ci 1]), o 2 (.mv (.t 33))] [2])
 (.ret)))))⟩

/-- crumple/barrier.meets -/
def c112 : AFunc := ⟨16, [.tmp 4],
 .seq (.ops [o 2 (.box true (.t 0)), o 3 (.box true (.t 1)), o 4 (.mv (cb false))] [2, 3])
 (.seq (.ops [o 5 (.fadr 0 (.t 2)), o 6 (.ld false 1 (.t 5)), o 7 (.fadr 0 (.t 3)), o 8 (.ld false 1 (.t 7)), o 9 (.max [.t 6, .t 8]), o 10 (.fadr 1 (.t 2)), o 11 (.ld false 1 (.t 10)), o 12 (.fadr 1 (.t 3)), o 13 (.ld false 1 (.t 12)), o 14 (.min [.t 11, .t 13]), o 15 (.bin .leq (.t 9) (.t 14)), o 4 (.mv (.t 15))] [4])
 (.ret))⟩

/-- crumple/crumpleref01.CheckName -/
def c113 : AFunc := ⟨7, [.tmp 2],
 .seq (.ops [o 2 (.mv (ci 0))] [0])
 (.seq (.ops [o 3 (.mv (.t 0)), o 4 (.call true true 0 (.fn 159) [.t 3]), o 5 (.not (.t 4)), o 6 (.call true true 0 (.fn 55) [.t 5, ci 8]), o 2 (.mv (.t 6))] [2])
 (.ret))⟩

/-- crumple/crumpleref01.CheckRatio -/
def c114 : AFunc := ⟨22, [.tmp 2],
 .seq (.ops [o 1 (.box true (.t 0)), o 2 (.mv (ci 0))] [1])
 (.seq (.seq (.opsd [(0, 1), (1, 1), (2, 1), (3, 1), (4, 1), (5, 0), (6, 0), (7, 0), (8, 1)] [o 4 (.fadr 0 (.t 1)), o 5 (.ld false 1 (.t 4)), o 6 (.call true true 0 (.fn 102) [.t 5, ci (-999999999), ci 999999999]), o 7 (.fadr 1 (.t 1)), o 8 (.ld false 1 (.t 7)), o 9 (.call true true 0 (.fn 102) [.t 8, ci 1, ci 999999999]), o 10 (.bslice false 1 [.p (.int .i64 0)] 2 [(0, .t 6), (1, .t 9)]), o 11 (.call true true 0 (.fn 101) [.t 10]), o 3 (.mv (.t 11))] [1, 3])
 (.seq (.ops [o 12 (.mv (.t 3)), o 13 (.bin .neq (.t 12) (ci 0))] [1, 3, 13])
 (.cond (.t 13)
 (.seq (.ops [o 14 (.mv (.t 3)), o 2 (.mv (.t 14))] [2])
 (.ret))
 (.skip))))
 (.seq (.ops [o 15 (.fadr 0 (.t 1)), o 16 (.ld false 1 (.t 15)), o 17 (.fadr 1 (.t 1)), o 18 (.ld false 1 (.t 17)), o 19 (.call true true 0 (.fn 154) [.t 16, .t 18]), o 20 (.bin .neq (.t 19) (ci 1)), o 21 (.call true true 0 (.fn 55) [.t 20, ci 1]), o 2 (.mv (.t 21))] [2])
 (.ret)))⟩

/-- crumple/barrier.inside -/
def c115 : AFunc := ⟨11, [.tmp 4],
 .seq (.ops [o 3 (.box true (.t 1)), o 4 (.mv (ci 0))] [0, 3])
 (.seq (.ops [o 5 (.mv (.t 0)), o 6 (.fadr 0 (.t 3)), o 7 (.ld false 1 (.t 6)), o 8 (.fadr 1 (.t 3)), o 9 (.ld false 1 (.t 8)), o 10 (.call true true 0 (.fn 108) [.t 5, .t 7, .t 9]), o 4 (.mv (.t 10))] [4])
 (.ret))⟩

/-- (crumple/barrier.Tow).run -/
def c116L0 : ACode :=
 .seq (.ops [o 17 (.bin .lss (.t 16) (.t 15))] [1, 5, 14, 15, 16, 17])
 (.seq (.cond (.t 17)
 (.skip)
 (.exit 0))
 (.seq (.block 1 (.seq (.ops [o 18 (.mv (.t 16)), o 19 (.iadr 1 (.t 14) (.t 16)), o 20 (.ld false 1 (.t 19)), o 6 (.mv (.t 18)), o 7 (.mv (.t 20))] [1, 5, 6, 7, 14, 15, 16])
 (.ops [o 21 (.mv (.t 5)), o 22 (.mv (.t 6)), o 23 (.bin .add (.t 22) (ci 1)), o 24 (.mv (.t 5)), o 25 (.mv (.t 6)), o 26 (.iadr 1 (.t 24) (.t 25)), o 27 (.ld false 1 (.t 26)), o 28 (.mv (.t 7)), o 29 (.bin .add (.t 27) (.t 28)), o 30 (.mv (.t 1)), o 31 (.bin .sub (.t 29) (.t 30)), o 32 (.max [ci 0, .t 31]), o 33 (.iadr 1 (.t 21) (.t 23)), u (.st 1 (.t 33) (.t 32))] [1, 5, 14, 15, 16])))
 (.ops [o 34 (.bin .add (.t 16) (ci 1)), o 16 (.mv (.t 34))] [1, 5, 14, 15, 16])))
def c116 : AFunc := ⟨36, [.tmp 4],
 .seq (.ops [o 2 (.box false (.t 0)), o 4 (.mv (cn))] [1, 2])
 (.seq (.ops [o 8 (.fadr 0 (.t 2)), o 9 (.ld false 1 (.t 8)), o 10 (.len 1 (.t 9)), o 11 (.bin .add (.t 10) (ci 1)), o 12 (.mkslice 1 [.p (.int .i64 0)] (.t 11) (.t 11)), o 5 (.mv (.t 12))] [1, 2, 5])
 (.seq (.seq (.ops [o 13 (.fadr 0 (.t 2)), o 14 (.ld false 1 (.t 13)), o 15 (.len 1 (.t 14)), o 16 (.mv (ci 0))] [1, 5, 14, 15, 16])
 (.block 0 (.loop false [1, 5, 14, 15, 16] c116L0)))
 (.seq (.ops [o 35 (.mv (.t 5)), o 4 (.mv (.t 35))] [4])
 (.ret))))⟩

/-- (crumple/barrier.Tow).checkCell -/
def c117 : AFunc := ⟨14, [.tmp 4],
 .seq (.ops [o 2 (.box false (.t 0)), o 4 (.mv (ci 0))] [1, 2])
 (.seq (.ops [o 5 (.mv (.t 1)), o 6 (.bin .lss (.t 5) (ci 0)), o 7 (.mv (.t 6)), ⟨some 8, .mv (.t 1), some (7, false)⟩, ⟨some 9, .fadr 5 (.t 2), some (7, false)⟩, ⟨some 10, .ld false 1 (.t 9), some (7, false)⟩, ⟨some 11, .bin .gtr (.t 8) (.t 10), some (7, false)⟩, o 12 (.pick (.t 7) (cb true) (.t 11)), o 13 (.call true true 0 (.fn 107) [.t 12, ci 10]), o 4 (.mv (.t 13))] [4])
 (.ret))⟩

/-- crumple/barrier.stop -/
def c118 : AFunc := ⟨20, [.tmp 6, .tmp 7],
 .seq (.ops [o 6 (.mv (ci 0)), o 7 (.mv (cb false))] [0, 1, 2])
 (.seq (.block 0 (.seq (.ops [o 9 (.mv (.t 1)), o 10 (.bin .leq (.t 9) (ci 0)), o 8 (.mv (.t 10))] [0, 1, 2, 8])
 (.cond (.t 8)
 (.seq (.ops [o 11 (.mv (.t 0)), o 6 (.mv (.t 11)), o 7 (.mv (cb true))] [6, 7])
 (.ret))
 (.seq (.ops [o 13 (.mv (.t 2)), o 14 (.bin .eql (.t 13) (ci 0)), o 12 (.mv (.t 14))] [0, 1, 2, 12])
 (.cond (.t 12)
 (.seq (.ops [o 6 (.mv (ci 0)), o 7 (.mv (cb false))] [6, 7])
 (.ret))
 (.skip))))))
 (.seq (.ops [o 15 (.mv (.t 0)), o 16 (.mv (.t 1)), o 17 (.mv (.t 2)), o 18 (.call true true 0 (.fn 153) [.t 16, .t 17]), o 19 (.bin .add (.t 15) (.t 18)), o 6 (.mv (.t 19)), o 7 (.mv (cb true))] [6, 7])
 (.ret)))⟩

/-- (crumple/barrier.Tow).safe -/
def c119 : AFunc := ⟨34, [.tmp 4],
 .seq (.ops [o 2 (.box false (.t 0)), o 4 (.mv (cb false))] [1, 2])
 (.seq (.opsd [(0, 1), (1, 1), (2, 1), (3, 1), (4, 1), (5, 1), (6, 1), (7, 1), (8, 1), (9, 1), (10, 1), (11, 1), (12, 1), (13, 1), (14, 1), (15, 1), (16, 0), (17, 1), (18, 1), (19, 1), (20, 1), (21, 1)] [o 8 (.mv (.t 1)), o 9 (.ld true 6 (.t 2)), o 10 (.fadr 1 (.t 2)), o 11 (.fadr 0 (.t 10)), o 12 (.ld false 1 (.t 11)), o 13 (.call true false 0 (.fn 116) [.t 9, .t 12]), o 14 (.mv (.t 1)), o 15 (.iadr 1 (.t 13) (.t 14)), o 16 (.ld false 1 (.t 15)), o 17 (.fadr 1 (.t 2)), o 18 (.fadr 0 (.t 17)), o 19 (.ld false 1 (.t 18)), o 20 (.fadr 3 (.t 2)), o 21 (.fadr 0 (.t 20)), o 22 (.ld false 1 (.t 21)), o 23 (.bin .add (.t 19) (.t 22)), o 24 (.call true true 0 (.fn 118) [.t 8, .t 16, .t 23]), o 7 (.mv (.t 24)), o 25 (.ext (.t 7) 0), o 26 (.ext (.t 7) 1), o 5 (.mv (.t 25)), o 6 (.mv (.t 26))] [2, 5, 6])
 (.seq (.ops [o 27 (.mv (.t 6)), o 28 (.mv (.t 27)), ⟨some 29, .mv (.t 5), some (28, true)⟩, ⟨some 30, .fadr 5 (.t 2), some (28, true)⟩, ⟨some 31, .ld false 1 (.t 30), some (28, true)⟩, ⟨some 32, .bin .leq (.t 29) (.t 31), some (28, true)⟩, o 33 (.pick (.t 28) (.t 32) (cb false)), o 4 (.mv (.t 33))] [4])
 (.ret)))⟩

/-- (crumple/barrier.Tow).unsafe -/
def c120 : AFunc := ⟨4, [.tmp 2],
 .seq (.ops [o 1 (.box false (.t 0)), o 2 (.mv (.c (.p (.nilf))))] [1])
 (.seq (.ops [o 3 (.mkclo 160 [] [.t 1]), o 2 (.mv (.t 3))] [2])
 (.ret))⟩

/-- crumple/crumpleref04.ranges -/
def c121L0 : ACode :=
 .seq (.seq (.ops [o 9 (.mv (.t 7)), o 10 (.mv (.t 0)), o 11 (.len 1 (.t 10)), o 12 (.bin .lss (.t 9) (.t 11))] [0, 1, 2, 7, 12])
 (.cond (.t 12)
 (.skip)
 (.exit 0)))
 (.seq (.block 1 (.seq (.ops [o 15 (.mv (.t 0)), o 16 (.mv (.t 7)), o 17 (.iadr 1 (.t 15) (.t 16)), o 18 (.ld false 1 (.t 17)), o 19 (.mv (.t 1)), o 20 (.mv (.t 2)), o 21 (.call true true 0 (.fn 102) [.t 18, .t 19, .t 20]), o 8 (.mv (.t 21))] [0, 1, 2, 7, 8])
 (.seq (.ops [o 22 (.mv (.t 8)), o 23 (.bin .neq (.t 22) (ci 0))] [0, 1, 2, 7, 8, 23])
 (.cond (.t 23)
 (.seq (.ops [o 24 (.mv (.t 8)), o 6 (.mv (.t 24))] [6])
 (.ret))
 (.skip)))))
 (.ops [o 13 (.mv (.t 7)), o 14 (.bin .add (.t 13) (ci 1)), o 7 (.mv (.t 14))] [0, 1, 2, 7]))
def c121 : AFunc := ⟨25, [.tmp 6],
 .seq (.ops [o 6 (.mv (ci 0))] [0, 1, 2])
 (.seq (.seq (.ops [o 7 (.mv (ci 0))] [0, 1, 2, 7])
 (.block 0 (.loop false [0, 1, 2, 7] c121L0)))
 (.seq (.ops [o 6 (.mv (ci 0))] [6])
 (.ret)))⟩

/-- crumple/barrier.ranged -/
def c122 : AFunc := ⟨11, [.tmp 6],
 .seq (.ops [o 4 (.box true (.t 1)), o 5 (.box true (.t 2)), o 6 (.mv (ci 0))] [0, 4, 5])
 (.seq (.ops [o 7 (.mv (.t 0)), o 8 (.mkclo 162 [] [.t 4, .t 5]), o 9 (.call true false 0 (.fn 161) [.t 7, .t 8]), o 10 (.call true true 0 (.fn 98) [.t 9]), o 6 (.mv (.t 10))] [6])
 (.ret))⟩

/-- crumple/barrier.momenta -/
def c123L0 : ACode :=
 .seq (.ops [o 15 (.bin .lss (.t 14) (ci 2))] [2, 3, 5, 8, 9, 10, 14, 15])
 (.seq (.cond (.t 15)
 (.skip)
 (.exit 2))
 (.seq (.block 3 (.seq (.ops [o 16 (.mv (.t 14)), o 6 (.mv (.t 16))] [2, 3, 5, 6, 8, 9, 10, 14])
 (.opsd [(0, 1), (1, 1), (2, 1), (3, 1), (4, 1), (5, 1), (6, 1), (7, 1), (8, 0), (9, 1), (10, 0)] [o 17 (.mv (.t 6)), o 18 (.mv (.t 6)), o 19 (.iadra 2 2 (.t 3) (.t 18)), o 20 (.ld true 2 (.t 19)), o 21 (.mv (.t 6)), o 22 (.fadr 7 (.t 5)), o 23 (.iadra 2 2 (.t 22) (.t 21)), o 24 (.ld true 2 (.t 23)), o 25 (.call true true 0 (.fn 165) [.t 20, .t 24]), o 26 (.iadra 2 2 (.t 3) (.t 17)), u (.st 2 (.t 26) (.t 25))] [2, 3, 5, 8, 9, 10, 14])))
 (.ops [o 27 (.bin .add (.t 14) (ci 1)), o 14 (.mv (.t 27))] [2, 3, 5, 8, 9, 10, 14])))
def c123L1 : ACode :=
 .seq (.ops [o 11 (.bin .lss (.t 10) (.t 9))] [2, 3, 8, 9, 10, 11])
 (.seq (.cond (.t 11)
 (.skip)
 (.exit 0))
 (.seq (.block 1 (.seq (.ops [o 12 (.iadr 11 (.t 8) (.t 10)), o 13 (.ld true 11 (.t 12)), o 5 (.alloc true 1 [.p (.str []), .p (.int .i64 0), .p (.int .i64 0), .p (.int .i64 0), .p (.int .i64 0), .p (.int .i64 0), .p (.int .i64 0), .p (.int .i64 0), .p (.int .i64 0), .p (.int .i64 0), .p (.int .i64 0)]), u (.st 11 (.t 5) (.t 13))] [2, 3, 5, 8, 9, 10])
 (.seq (.ops [o 14 (.mv (ci 0))] [2, 3, 5, 8, 9, 10, 14])
 (.block 2 (.loop false [2, 3, 5, 8, 9, 10, 14] c123L0)))))
 (.ops [o 28 (.bin .add (.t 10) (ci 1)), o 10 (.mv (.t 28))] [2, 3, 8, 9, 10])))
def c123 : AFunc := ⟨30, [.cell 2 true 4],
 .seq (.ops [o 2 (.alloc true 2 [.p (.int .i64 0), .p (.int .i64 0), .p (.int .i64 0), .p (.int .i64 0)])] [0, 2])
 (.seq (.ops [o 3 (.alloc true 2 [.p (.int .i64 0), .p (.int .i64 0), .p (.int .i64 0), .p (.int .i64 0)])] [0, 2, 3])
 (.seq (.seq (.ops [o 7 (.mv (.t 0)), o 8 (.call true false 0 (.fn 163) [.t 7, cf 164]), o 9 (.len 1 (.t 8)), o 10 (.mv (ci 0))] [2, 3, 8, 9, 10])
 (.block 0 (.loop true [2, 3, 8, 9, 10] c123L1)))
 (.seq (.ops [o 29 (.ld true 4 (.t 3)), u (.st 4 (.t 2) (.t 29))] [2])
 (.ret))))⟩

/-- crumple/barrier.change -/
def c124 : AFunc := ⟨15, [.cell 2 true 2],
 .seq (.ops [o 2 (.alloc true 1 [.p (.int .i64 0), .p (.int .i64 0)])] [0, 2])
 (.seq (.ops [o 4 (.mv (.t 0)), o 5 (.call true true 0 (.fn 123) [.t 4]), o 3 (.alloc true 2 [.p (.int .i64 0), .p (.int .i64 0), .p (.int .i64 0), .p (.int .i64 0)]), u (.st 4 (.t 3) (.t 5))] [2, 3])
 (.seq (.seq (.ops [o 6 (.ld true 4 (.t 3)), o 7 (.build [.p (.int .i64 0), .p (.int .i64 0), .p (.int .i64 0), .p (.int .i64 0)] []), o 8 (.eqagg [0, 0, 0, 0] false (.t 6) (.t 7))] [2, 3, 8])
 (.cond (.t 8)
 (.seq (.ops [o 9 (.build [.p (.int .i64 0), .p (.int .i64 0)] []), u (.st 2 (.t 2) (.t 9))] [2])
 (.ret))
 (.skip)))
 (.seq (.ops [o 10 (.iadra 2 2 (.t 3) (ci 1)), o 11 (.ld true 2 (.t 10)), o 12 (.iadra 2 2 (.t 3) (ci 0)), o 13 (.ld true 2 (.t 12)), o 14 (.call true true 0 (.fn 166) [.t 11, .t 13]), u (.st 2 (.t 2) (.t 14))] [2])
 (.ret))))⟩

/-- crumple/barrier.checkTest -/
def c125 : AFunc := ⟨11, [.tmp 4],
 .seq (.ops [o 4 (.mv (ci 0))] [0, 1])
 (.seq (.ops [o 5 (.mv (.t 0)), o 6 (.call false true 0 (.fn 71) [.t 5]), o 7 (.mv (.t 1)), o 8 (.call true true 0 (.fn 82) [.t 7]), o 9 (.bslice false 1 [.p (.int .i64 0)] 2 [(0, .t 6), (1, .t 8)]), o 10 (.call true true 0 (.fn 98) [.t 9]), o 4 (.mv (.t 10))] [4])
 (.ret))⟩

/-- crumple/barrier.lost -/
def c126 : AFunc := ⟨7, [.cell 2 true 2],
 .seq (.ops [o 2 (.alloc true 1 [.p (.int .i64 0), .p (.int .i64 0)])] [0, 2])
 (.seq (.ops [o 3 (.build [.p (.int .i64 0), .p (.int .i64 0)] []), o 4 (.mv (.t 0)), o 5 (.call true true 0 (.fn 124) [.t 4]), o 6 (.call true true 0 (.fn 166) [.t 3, .t 5]), u (.st 2 (.t 2) (.t 6))] [2])
 (.ret))⟩

/-- crumple/barrier.total -/
def c127L0 : ACode :=
 .seq (.ops [o 9 (.bin .lss (.t 8) (.t 7))] [2, 3, 6, 7, 8, 9])
 (.seq (.cond (.t 9)
 (.skip)
 (.exit 0))
 (.seq (.block 1 (.seq (.ops [o 10 (.iadr 2 (.t 6) (.t 8)), o 11 (.ld true 2 (.t 10)), o 5 (.alloc true 1 [.p (.int .i64 0), .p (.int .i64 0)]), u (.st 2 (.t 5) (.t 11))] [2, 3, 5, 6, 7, 8])
 (.ops [o 12 (.ld true 2 (.t 3)), o 13 (.ld true 2 (.t 5)), o 14 (.call true true 0 (.fn 165) [.t 12, .t 13]), u (.st 2 (.t 3) (.t 14))] [2, 3, 6, 7, 8])))
 (.ops [o 15 (.bin .add (.t 8) (ci 1)), o 8 (.mv (.t 15))] [2, 3, 6, 7, 8])))
def c127 : AFunc := ⟨17, [.cell 2 true 2],
 .seq (.ops [o 2 (.alloc true 1 [.p (.int .i64 0), .p (.int .i64 0)])] [0, 2])
 (.seq (.ops [o 3 (.alloc true 1 [.p (.int .i64 0), .p (.int .i64 0)])] [0, 2, 3])
 (.seq (.seq (.ops [o 6 (.mv (.t 0)), o 7 (.len 1 (.t 6)), o 8 (.mv (ci 0))] [2, 3, 6, 7, 8])
 (.block 0 (.loop true [2, 3, 6, 7, 8] c127L0)))
 (.seq (.ops [o 16 (.ld true 2 (.t 3)), u (.st 2 (.t 2) (.t 16))] [2])
 (.ret))))⟩

/-- crumple/barrier.mapped[crumple/barrier.Load,crumple/api.Interval] -/
def c128L0 : ACode :=
 .seq (.ops [o 11 (.bin .lss (.t 10) (.t 9))] [1, 5, 8, 9, 10, 11])
 (.seq (.cond (.t 11)
 (.skip)
 (.exit 0))
 (.seq (.block 1 (.seq (.ops [o 12 (.iadr 6 (.t 8) (.t 10)), o 13 (.ld true 6 (.t 12)), o 7 (.alloc false 1 [.p (.str []), .p (.int .i64 0), .p (.int .i64 0), .p (.int .i64 0), .p (.int .i64 0), .p (.nils)]), u (.st 6 (.t 7) (.t 13))] [1, 5, 7, 8, 9, 10])
 (.ops [o 14 (.mv (.t 5)), o 15 (.mv (.t 1)), o 16 (.ld true 6 (.t 7)), o 17 (.call false true 0 (.val (.t 15)) [.t 16]), o 18 (.bslice false 2 [.p (.int .i64 0), .p (.int .i64 0)] 1 [(0, .t 17)]), o 19 (.app 2 16 [.p (.int .i64 0), .p (.int .i64 0)] (.t 14) (.t 18)), o 5 (.mv (.t 19))] [1, 5, 8, 9, 10])))
 (.ops [o 20 (.bin .add (.t 10) (ci 1)), o 10 (.mv (.t 20))] [1, 5, 8, 9, 10])))
def c128 : AFunc := ⟨22, [.tmp 4],
 .seq (.ops [o 4 (.mv (cn))] [0, 1])
 (.seq (.ops [o 5 (.nilown 2)] [0, 1, 5])
 (.seq (.seq (.ops [o 8 (.mv (.t 0)), o 9 (.len 1 (.t 8)), o 10 (.mv (ci 0))] [1, 5, 8, 9, 10])
 (.block 0 (.loop true [1, 5, 8, 9, 10] c128L0)))
 (.seq (.ops [o 21 (.mv (.t 5)), o 4 (.mv (.t 21))] [4])
 (.ret))))⟩

/-- (crumple/barrier.Load).impulse -/
def c129 : AFunc := ⟨23, [.cell 2 true 2],
 .seq (.ops [o 1 (.box false (.t 0)), o 2 (.alloc true 1 [.p (.int .i64 0), .p (.int .i64 0)])] [1, 2])
 (.seq (.opsd [(0, 1), (1, 1), (2, 1), (3, 1), (4, 1), (5, 1), (6, 1), (7, 1), (8, 1), (9, 1), (10, 1)] [o 5 (.fadr 5 (.t 1)), o 6 (.ld false 1 (.t 5)), o 7 (.call true true 0 (.fn 137) [.t 6]), o 8 (.fadr 5 (.t 1)), o 9 (.ld false 1 (.t 8)), o 10 (.len 1 (.t 9)), o 11 (.fadr 4 (.t 1)), o 12 (.ld false 1 (.t 11)), o 13 (.bin .mul (.t 10) (.t 12)), o 3 (.mv (.t 7)), o 4 (.mv (.t 13))] [2, 3, 4])
 (.seq (.ops [o 14 (.mv (.t 3)), o 15 (.mv (.t 4)), o 16 (.bin .sub (.t 14) (.t 15)), o 17 (.bin .mul (ci 100) (.t 16)), o 18 (.mv (.t 3)), o 19 (.mv (.t 4)), o 20 (.bin .add (.t 18) (.t 19)), o 21 (.bin .mul (ci 100) (.t 20)), o 22 (.build [.p (.int .i64 0), .p (.int .i64 0)] [(0, 1, .t 17), (1, 1, .t 21)]), u (.st 2 (.t 2) (.t 22))] [2])
 (.ret)))⟩

/-- (crumple/barrier.Load).any -/
def c130 : AFunc := ⟨15, [.cell 2 true 2],
 .seq (.ops [o 1 (.box false (.t 0)), o 2 (.alloc true 1 [.p (.int .i64 0), .p (.int .i64 0)])] [1, 2])
 (.seq (.ops [o 4 (.fadr 5 (.t 1)), o 5 (.ld false 1 (.t 4)), o 6 (.len 1 (.t 5)), o 7 (.bin .mul (ci 100) (.t 6)), o 8 (.fadr 3 (.t 1)), o 9 (.ld false 1 (.t 8)), o 10 (.bin .mul (.t 7) (.t 9)), o 3 (.mv (.t 10))] [2, 3])
 (.seq (.ops [o 11 (.mv (.t 3)), o 12 (.neg (.t 11)), o 13 (.mv (.t 3)), o 14 (.build [.p (.int .i64 0), .p (.int .i64 0)] [(0, 1, .t 12), (1, 1, .t 13)]), u (.st 2 (.t 2) (.t 14))] [2])
 (.ret)))⟩

/-- crumple/crumpleref04.times -/
def c131 : AFunc := ⟨40, [.cell 4 true 2],
 .seq (.ops [o 2 (.box true (.t 0)), o 3 (.box true (.t 1)), o 4 (.alloc true 1 [.p (.int .i64 0), .p (.int .i64 0)])] [2, 3, 4])
 (.seq (.opsd [(0, 1), (1, 1), (2, 1), (3, 1), (4, 1), (5, 1), (6, 1), (7, 1), (8, 1), (9, 1), (10, 1), (11, 1), (12, 1), (13, 1), (14, 1), (15, 1), (16, 1), (17, 1), (18, 1), (19, 1), (20, 1), (21, 1), (22, 1), (23, 1)] [o 9 (.fadr 0 (.t 2)), o 10 (.ld false 1 (.t 9)), o 11 (.fadr 0 (.t 3)), o 12 (.ld false 1 (.t 11)), o 13 (.bin .mul (.t 10) (.t 12)), o 14 (.fadr 0 (.t 2)), o 15 (.ld false 1 (.t 14)), o 16 (.fadr 1 (.t 3)), o 17 (.ld false 1 (.t 16)), o 18 (.bin .mul (.t 15) (.t 17)), o 19 (.fadr 1 (.t 2)), o 20 (.ld false 1 (.t 19)), o 21 (.fadr 0 (.t 3)), o 22 (.ld false 1 (.t 21)), o 23 (.bin .mul (.t 20) (.t 22)), o 24 (.fadr 1 (.t 2)), o 25 (.ld false 1 (.t 24)), o 26 (.fadr 1 (.t 3)), o 27 (.ld false 1 (.t 26)), o 28 (.bin .mul (.t 25) (.t 27)), o 5 (.mv (.t 13)), o 6 (.mv (.t 18)), o 7 (.mv (.t 23)), o 8 (.mv (.t 28))] [4, 5, 6, 7, 8])
 (.seq (.ops [o 29 (.mv (.t 5)), o 30 (.mv (.t 6)), o 31 (.mv (.t 7)), o 32 (.mv (.t 8)), o 33 (.min [.t 29, .t 30, .t 31, .t 32]), o 34 (.mv (.t 5)), o 35 (.mv (.t 6)), o 36 (.mv (.t 7)), o 37 (.mv (.t 8)), o 38 (.max [.t 34, .t 35, .t 36, .t 37]), o 39 (.build [.p (.int .i64 0), .p (.int .i64 0)] [(0, 1, .t 33), (1, 1, .t 38)]), u (.st 2 (.t 4) (.t 39))] [4])
 (.ret)))⟩

/-- crumple/crumpleref04.meets -/
def c132 : AFunc := ⟨19, [.tmp 4],
 .seq (.ops [o 2 (.box true (.t 0)), o 3 (.box true (.t 1)), o 4 (.mv (cb false))] [2, 3])
 (.seq (.ops [o 5 (.fadr 1 (.t 2)), o 6 (.ld false 1 (.t 5)), o 7 (.bin .sub (ci 0) (.t 6)), o 8 (.fadr 1 (.t 3)), o 9 (.ld false 1 (.t 8)), o 10 (.bin .leq (.t 7) (.t 9)), o 11 (.mv (.t 10)), ⟨some 12, .fadr 0 (.t 3), some (11, true)⟩, ⟨some 13, .ld false 1 (.t 12), some (11, true)⟩, ⟨some 14, .fadr 0 (.t 2), some (11, true)⟩, ⟨some 15, .ld false 1 (.t 14), some (11, true)⟩, ⟨some 16, .bin .sub (ci 0) (.t 15), some (11, true)⟩, ⟨some 17, .bin .leq (.t 13) (.t 16), some (11, true)⟩, o 18 (.pick (.t 11) (.t 17) (cb false)), o 4 (.mv (.t 18))] [4])
 (.ret))⟩

/-- crumple/crumpleref04.impulse -/
def c133L0 : ACode :=
 .seq (.seq (.ops [o 6 (.mv (.t 4)), o 7 (.fadr 5 (.t 1)), o 8 (.ld false 1 (.t 7)), o 9 (.len 1 (.t 8)), o 10 (.bin .lss (.t 6) (.t 9))] [1, 2, 3, 4, 10])
 (.cond (.t 10)
 (.skip)
 (.exit 0)))
 (.seq (.block 1 (.ops [o 13 (.mv (.t 3)), o 14 (.fadr 5 (.t 1)), o 15 (.ld false 1 (.t 14)), o 16 (.mv (.t 4)), o 17 (.iadr 1 (.t 15) (.t 16)), o 18 (.ld false 1 (.t 17)), o 19 (.bin .add (.t 13) (.t 18)), o 3 (.mv (.t 19))] [1, 2, 3, 4]))
 (.ops [o 11 (.mv (.t 4)), o 12 (.bin .add (.t 11) (ci 1)), o 4 (.mv (.t 12))] [1, 2, 3, 4]))
def c133 : AFunc := ⟨35, [.cell 2 true 2],
 .seq (.ops [o 1 (.box false (.t 0)), o 2 (.alloc true 1 [.p (.int .i64 0), .p (.int .i64 0)])] [1, 2])
 (.seq (.ops [o 3 (.mv (ci 0))] [1, 2, 3])
 (.seq (.seq (.ops [o 4 (.mv (ci 0))] [1, 2, 3, 4])
 (.block 0 (.loop false [1, 2, 3, 4] c133L0)))
 (.seq (.ops [o 20 (.fadr 4 (.t 1)), o 21 (.ld false 1 (.t 20)), o 22 (.fadr 5 (.t 1)), o 23 (.ld false 1 (.t 22)), o 24 (.len 1 (.t 23)), o 25 (.bin .mul (.t 21) (.t 24)), o 5 (.mv (.t 25))] [2, 3, 5])
 (.seq (.ops [o 26 (.mv (.t 3)), o 27 (.mv (.t 5)), o 28 (.bin .sub (.t 26) (.t 27)), o 29 (.bin .mul (ci 100) (.t 28)), o 30 (.mv (.t 3)), o 31 (.mv (.t 5)), o 32 (.bin .add (.t 30) (.t 31)), o 33 (.bin .mul (ci 100) (.t 32)), o 34 (.build [.p (.int .i64 0), .p (.int .i64 0)] [(0, 1, .t 29), (1, 1, .t 33)]), u (.st 2 (.t 2) (.t 34))] [2])
 (.ret)))))⟩

/-- crumple/barrier.forces -/
def c134L0 : ACode :=
 .seq (.ops [o 24 (.bin .lss (.t 23) (.t 22))] [3, 14, 15, 16, 21, 22, 23, 24])
 (.seq (.cond (.t 24)
 (.skip)
 (.exit 2))
 (.seq (.block 3 (.seq (.ops [o 25 (.mv (.t 23)), o 26 (.iadr 1 (.t 21) (.t 23)), o 27 (.ld false 1 (.t 26)), o 6 (.mv (.t 25)), o 7 (.mv (.t 27))] [3, 6, 7, 14, 15, 16, 21, 22, 23])
 (.ops [o 28 (.mv (.t 3)), o 29 (.mv (.t 6)), o 30 (.iadr 1 (.t 28) (.t 29)), o 31 (.ld false 1 (.t 30)), o 32 (.mv (.t 7)), o 33 (.bin .add (.t 31) (.t 32)), o 34 (.iadr 1 (.t 28) (.t 29)), u (.st 1 (.t 34) (.t 33))] [3, 14, 15, 16, 21, 22, 23])))
 (.ops [o 35 (.bin .add (.t 23) (ci 1)), o 23 (.mv (.t 35))] [3, 14, 15, 16, 21, 22, 23])))
def c134L1 : ACode :=
 .seq (.ops [o 17 (.bin .lss (.t 16) (.t 15))] [3, 14, 15, 16, 17])
 (.seq (.cond (.t 17)
 (.skip)
 (.exit 0))
 (.seq (.block 1 (.seq (.ops [o 18 (.iadr 6 (.t 14) (.t 16)), o 19 (.ld true 6 (.t 18)), o 5 (.alloc false 1 [.p (.str []), .p (.int .i64 0), .p (.int .i64 0), .p (.int .i64 0), .p (.int .i64 0), .p (.nils)]), u (.st 6 (.t 5) (.t 19))] [3, 5, 14, 15, 16])
 (.seq (.ops [o 20 (.fadr 5 (.t 5)), o 21 (.ld false 1 (.t 20)), o 22 (.len 1 (.t 21)), o 23 (.mv (ci 0))] [3, 14, 15, 16, 21, 22, 23])
 (.block 2 (.loop false [3, 14, 15, 16, 21, 22, 23] c134L0)))))
 (.ops [o 36 (.bin .add (.t 16) (ci 1)), o 16 (.mv (.t 36))] [3, 14, 15, 16])))
def c134 : AFunc := ⟨38, [.tmp 2],
 .seq (.ops [o 2 (.mv (cn))] [0])
 (.seq (.ops [o 8 (.mv (.t 0)), o 9 (.iadr 6 (.t 8) (ci 0)), o 10 (.fadr 5 (.t 9)), o 11 (.ld false 1 (.t 10)), o 12 (.len 1 (.t 11)), o 13 (.mkslice 1 [.p (.int .i64 0)] (.t 12) (.t 12)), o 3 (.mv (.t 13))] [0, 3])
 (.seq (.seq (.ops [o 14 (.mv (.t 0)), o 15 (.len 1 (.t 14)), o 16 (.mv (ci 0))] [3, 14, 15, 16])
 (.block 0 (.loop true [3, 14, 15, 16] c134L1)))
 (.seq (.ops [o 37 (.mv (.t 3)), o 2 (.mv (.t 37))] [2])
 (.ret))))⟩

/-- slices.Max[[]int,int] -/
def c135L0 : ACode :=
 .seq (.seq (.ops [o 12 (.mv (.t 4)), o 13 (.mv (.t 0)), o 14 (.len 1 (.t 13)), o 15 (.bin .lss (.t 12) (.t 14))] [0, 3, 4, 15])
 (.cond (.t 15)
 (.skip)
 (.exit 0)))
 (.seq (.block 1 (.ops [o 18 (.mv (.t 3)), o 19 (.mv (.t 0)), o 20 (.mv (.t 4)), o 21 (.iadr 1 (.t 19) (.t 20)), o 22 (.ld false 1 (.t 21)), o 23 (.max [.t 18, .t 22]), o 3 (.mv (.t 23))] [0, 3, 4]))
 (.ops [o 16 (.mv (.t 4)), o 17 (.bin .add (.t 16) (ci 1)), o 4 (.mv (.t 17))] [0, 3, 4]))
def c135 : AFunc := ⟨25, [.tmp 2],
 .seq (.ops [o 2 (.mv (ci 0))] [0])
 (.seq (.seq (.ops [o 5 (.mv (.t 0)), o 6 (.len 1 (.t 5)), o 7 (.bin .lss (.t 6) (ci 1))] [0, 7])
 (.cond (.t 7)
 (.ops [o 8 (.fail), u (.fail)] [0])
 (.skip)))
 (.seq (.ops [o 9 (.mv (.t 0)), o 10 (.iadr 1 (.t 9) (ci 0)), o 11 (.ld false 1 (.t 10)), o 3 (.mv (.t 11))] [0, 3])
 (.seq (.seq (.ops [o 4 (.mv (ci 1))] [0, 3, 4])
 (.block 0 (.loop false [0, 3, 4] c135L0)))
 (.seq (.ops [o 24 (.mv (.t 3)), o 2 (.mv (.t 24))] [2])
 (.ret)))))⟩

/-- slices.Index[[]int,int] -/
def c136L0 : ACode :=
 .seq (.ops [o 9 (.bin .lss (.t 8) (.t 7))] [0, 1, 7, 8, 9])
 (.seq (.cond (.t 9)
 (.skip)
 (.exit 0))
 (.seq (.block 1 (.seq (.ops [o 10 (.mv (.t 8)), o 5 (.mv (.t 10))] [0, 1, 5, 7, 8])
 (.seq (.ops [o 11 (.mv (.t 1)), o 12 (.mv (.t 0)), o 13 (.mv (.t 5)), o 14 (.iadr 1 (.t 12) (.t 13)), o 15 (.ld false 1 (.t 14)), o 16 (.bin .eql (.t 11) (.t 15))] [0, 1, 5, 7, 8, 16])
 (.cond (.t 16)
 (.seq (.ops [o 17 (.mv (.t 5)), o 4 (.mv (.t 17))] [4])
 (.ret))
 (.skip)))))
 (.ops [o 18 (.bin .add (.t 8) (ci 1)), o 8 (.mv (.t 18))] [0, 1, 7, 8])))
def c136 : AFunc := ⟨19, [.tmp 4],
 .seq (.ops [o 4 (.mv (ci 0))] [0, 1])
 (.seq (.seq (.ops [o 6 (.mv (.t 0)), o 7 (.len 1 (.t 6)), o 8 (.mv (ci 0))] [0, 1, 7, 8])
 (.block 0 (.loop false [0, 1, 7, 8] c136L0)))
 (.seq (.ops [o 4 (.mv (ci (-1)))] [4])
 (.ret)))⟩

/-- crumple/barrier.sum -/
def c137L0 : ACode :=
 .seq (.ops [o 9 (.bin .lss (.t 8) (.t 7))] [3, 6, 7, 8, 9])
 (.seq (.cond (.t 9)
 (.skip)
 (.exit 0))
 (.seq (.block 1 (.seq (.ops [o 10 (.iadr 1 (.t 6) (.t 8)), o 11 (.ld false 1 (.t 10)), o 5 (.mv (.t 11))] [3, 5, 6, 7, 8])
 (.ops [o 12 (.mv (.t 3)), o 13 (.mv (.t 5)), o 14 (.bin .add (.t 12) (.t 13)), o 3 (.mv (.t 14))] [3, 6, 7, 8])))
 (.ops [o 15 (.bin .add (.t 8) (ci 1)), o 8 (.mv (.t 15))] [3, 6, 7, 8])))
def c137 : AFunc := ⟨17, [.tmp 2],
 .seq (.ops [o 2 (.mv (ci 0))] [0])
 (.seq (.ops [o 3 (.mv (ci 0))] [0, 3])
 (.seq (.seq (.ops [o 6 (.mv (.t 0)), o 7 (.len 1 (.t 6)), o 8 (.mv (ci 0))] [3, 6, 7, 8])
 (.block 0 (.loop false [3, 6, 7, 8] c137L0)))
 (.seq (.ops [o 16 (.mv (.t 3)), o 2 (.mv (.t 16))] [2])
 (.ret))))⟩

/-- crumple/barrier.mapped[crumple/barrier.Load,int] -/
def c138L0 : ACode :=
 .seq (.ops [o 11 (.bin .lss (.t 10) (.t 9))] [1, 5, 8, 9, 10, 11])
 (.seq (.cond (.t 11)
 (.skip)
 (.exit 0))
 (.seq (.block 1 (.seq (.ops [o 12 (.iadr 6 (.t 8) (.t 10)), o 13 (.ld true 6 (.t 12)), o 7 (.alloc false 1 [.p (.str []), .p (.int .i64 0), .p (.int .i64 0), .p (.int .i64 0), .p (.int .i64 0), .p (.nils)]), u (.st 6 (.t 7) (.t 13))] [1, 5, 7, 8, 9, 10])
 (.ops [o 14 (.mv (.t 5)), o 15 (.mv (.t 1)), o 16 (.ld true 6 (.t 7)), o 17 (.call false true 0 (.val (.t 15)) [.t 16]), o 18 (.bslice false 1 [.p (.int .i64 0)] 1 [(0, .t 17)]), o 19 (.app 1 8 [.p (.int .i64 0)] (.t 14) (.t 18)), o 5 (.mv (.t 19))] [1, 5, 8, 9, 10])))
 (.ops [o 20 (.bin .add (.t 10) (ci 1)), o 10 (.mv (.t 20))] [1, 5, 8, 9, 10])))
def c138 : AFunc := ⟨22, [.tmp 4],
 .seq (.ops [o 4 (.mv (cn))] [0, 1])
 (.seq (.ops [o 5 (.nilown 1)] [0, 1, 5])
 (.seq (.seq (.ops [o 8 (.mv (.t 0)), o 9 (.len 1 (.t 8)), o 10 (.mv (ci 0))] [1, 5, 8, 9, 10])
 (.block 0 (.loop true [1, 5, 8, 9, 10] c138L0)))
 (.seq (.ops [o 21 (.mv (.t 5)), o 4 (.mv (.t 21))] [4])
 (.ret))))⟩

/-- crumple/barrier.Centre$1 -/
def c139 : AFunc := ⟨16, [.tmp 4],
 .seq (.ops [o 3 (.box false (.t 0)), o 4 (.mv (ci 0))] [1, 2, 3])
 (.seq (.opsd [(0, 1), (1, 1), (2, 1), (3, 1), (4, 1), (5, 1), (6, 1), (7, 1), (8, 1), (9, 1), (10, 1), (11, 1)] [o 5 (.fadr 0 (.t 1)), o 6 (.ld false 1 (.t 5)), o 7 (.fadr 1 (.t 3)), o 8 (.ld true 2 (.t 7)), o 9 (.call false true 0 (.val (.t 6)) [.t 8]), o 10 (.fadr 5 (.t 3)), o 11 (.ld false 1 (.t 10)), o 12 (.ld false 1 (.t 2)), o 13 (.iadr 1 (.t 11) (.t 12)), o 14 (.ld false 1 (.t 13)), o 15 (.bin .mul (.t 9) (.t 14)), o 4 (.mv (.t 15))] [4])
 (.ret))⟩

/-- crumple/barrier.isLarge -/
def c140 : AFunc := ⟨16, [.tmp 2],
 .seq (.ops [o 1 (.box true (.t 0)), o 2 (.mv (cb false))] [1])
 (.seq (.ops [o 3 (.fadr 0 (.t 1)), o 4 (.ld false 1 (.t 3)), o 5 (.bin .gtr (.t 4) (ci 999999999)), o 6 (.mv (.t 5)), ⟨some 7, .fadr 0 (.t 1), some (6, false)⟩, ⟨some 8, .ld false 1 (.t 7), some (6, false)⟩, ⟨some 9, .bin .lss (.t 8) (ci (-999999999)), some (6, false)⟩, o 10 (.pick (.t 6) (cb true) (.t 9)), o 11 (.mv (.t 10)), ⟨some 12, .fadr 1 (.t 1), some (11, false)⟩, ⟨some 13, .ld false 1 (.t 12), some (11, false)⟩, ⟨some 14, .bin .gtr (.t 13) (ci 999999999), some (11, false)⟩, o 15 (.pick (.t 11) (cb true) (.t 14)), o 2 (.mv (.t 15))] [2])
 (.ret))⟩

/-- slices.IsSorted[[]int,int] -/
def c141L0 : ACode :=
 .seq (.seq (.ops [o 7 (.mv (.t 3)), o 8 (.bin .gtr (.t 7) (ci 0))] [0, 3, 8])
 (.cond (.t 8)
 (.skip)
 (.exit 0)))
 (.seq (.block 1 (.seq (.opsd [(0, 1), (1, 1), (2, 1), (3, 1), (4, 1), (5, 1), (6, 1), (7, 1), (8, 1), (9, 0)] [o 11 (.mv (.t 0)), o 12 (.mv (.t 3)), o 13 (.iadr 1 (.t 11) (.t 12)), o 14 (.ld false 1 (.t 13)), o 15 (.mv (.t 0)), o 16 (.mv (.t 3)), o 17 (.bin .sub (.t 16) (ci 1)), o 18 (.iadr 1 (.t 15) (.t 17)), o 19 (.ld false 1 (.t 18)), o 20 (.call true true 0 (.fn 167) [.t 14, .t 19])] [0, 3, 20])
 (.cond (.t 20)
 (.seq (.ops [o 2 (.mv (cb false))] [2])
 (.ret))
 (.skip))))
 (.ops [o 9 (.mv (.t 3)), o 10 (.bin .sub (.t 9) (ci 1)), o 3 (.mv (.t 10))] [0, 3]))
def c141 : AFunc := ⟨21, [.tmp 2],
 .seq (.ops [o 2 (.mv (cb false))] [0])
 (.seq (.seq (.ops [o 4 (.mv (.t 0)), o 5 (.len 1 (.t 4)), o 6 (.bin .sub (.t 5) (ci 1)), o 3 (.mv (.t 6))] [0, 3])
 (.block 0 (.loop false [0, 3] c141L0)))
 (.seq (.ops [o 2 (.mv (cb true))] [2])
 (.ret)))⟩

/-- crumple/crumpleref04.force -/
def c142L0 : ACode :=
 .seq (.seq (.ops [o 7 (.mv (.t 6)), o 8 (.mv (.t 0)), o 9 (.len 1 (.t 8)), o 10 (.bin .lss (.t 7) (.t 9))] [0, 1, 5, 6, 10])
 (.cond (.t 10)
 (.skip)
 (.exit 0)))
 (.seq (.block 1 (.ops [o 13 (.mv (.t 5)), o 14 (.mv (.t 0)), o 15 (.mv (.t 6)), o 16 (.iadr 6 (.t 14) (.t 15)), o 17 (.fadr 5 (.t 16)), o 18 (.ld false 1 (.t 17)), o 19 (.mv (.t 1)), o 20 (.iadr 1 (.t 18) (.t 19)), o 21 (.ld false 1 (.t 20)), o 22 (.bin .add (.t 13) (.t 21)), o 5 (.mv (.t 22))] [0, 1, 5, 6]))
 (.ops [o 11 (.mv (.t 6)), o 12 (.bin .add (.t 11) (ci 1)), o 6 (.mv (.t 12))] [0, 1, 5, 6]))
def c142 : AFunc := ⟨24, [.tmp 4],
 .seq (.ops [o 4 (.mv (ci 0))] [0, 1])
 (.seq (.ops [o 5 (.mv (ci 0))] [0, 1, 5])
 (.seq (.seq (.ops [o 6 (.mv (ci 0))] [0, 1, 5, 6])
 (.block 0 (.loop false [0, 1, 5, 6] c142L0)))
 (.seq (.ops [o 23 (.mv (.t 5)), o 4 (.mv (.t 23))] [4])
 (.ret))))⟩

/-- crumple/crumpleref04.quotient -/
def c143 : AFunc := ⟨25, [.cell 4 true 2, .tmp 5],
 .seq (.ops [o 4 (.alloc true 1 [.p (.int .i64 0), .p (.int .i64 0)]), o 5 (.mv (ci 0))] [0, 1, 4])
 (.seq (.ops [o 7 (.mv (.t 0)), o 8 (.mv (.t 1)), o 9 (.call true true 0 (.fn 106) [.t 7, .t 8]), o 6 (.alloc true 1 [.p (.int .i64 0), .p (.int .i64 0)]), u (.st 2 (.t 6) (.t 9))] [4, 6])
 (.seq (.seq (.ops [o 10 (.fadr 0 (.t 6)), o 11 (.ld false 1 (.t 10)), o 12 (.bin .gtr (.t 11) (ci 999999999)), o 13 (.mv (.t 12)), ⟨some 14, .fadr 0 (.t 6), some (13, false)⟩, ⟨some 15, .ld false 1 (.t 14), some (13, false)⟩, ⟨some 16, .bin .lss (.t 15) (ci (-999999999)), some (13, false)⟩, o 17 (.pick (.t 13) (cb true) (.t 16)), o 18 (.mv (.t 17)), ⟨some 19, .fadr 1 (.t 6), some (18, false)⟩, ⟨some 20, .ld false 1 (.t 19), some (18, false)⟩, ⟨some 21, .bin .gtr (.t 20) (ci 999999999), some (18, false)⟩, o 22 (.pick (.t 18) (cb true) (.t 21))] [4, 6, 22])
 (.cond (.t 22)
 (.seq (.ops [o 23 (.build [.p (.int .i64 0), .p (.int .i64 0)] []), u (.st 2 (.t 4) (.t 23)), o 5 (.mv (ci 4))] [4, 5])
 (.ret))
 (.skip)))
 (.seq (.ops [o 24 (.ld true 2 (.t 6)), u (.st 2 (.t 4) (.t 24)), o 5 (.mv (ci 0))] [4, 5])
 (.ret))))⟩

/-- (crumple/barrier.form).line -/
def c144 : AFunc := ⟨13, [.tmp 4],
 .seq (.ops [o 2 (.box true (.t 0)), o 4 (.mv (cs []))] [1, 2])
 (.seq (.opsd [(0, 1), (1, 1), (3, 1), (4, 1), (2, 2), (5, 0), (6, 0), (7, 1), (8, 1)] [o 5 (.fadr 0 (.t 2)), o 6 (.ld false 1 (.t 5)), o 8 (.mv (.t 1)), o 9 (.call true false 0 (.fn 146) [.t 8, cf 168]), o 7 (.bslice true 1 [.p (.str [])] 1 [(0, .t 6)]), o 10 (.app 1 16 [.p (.str [])] (.t 7) (.t 9)), o 11 (.call true true 0 (.fn 145) [.t 10, cs [32]]), o 12 (.bin .add (.t 11) (cs [10])), o 4 (.mv (.t 12))] [4])
 (.ret))⟩

/-- crumple/barrier.mapped[int,string] -/
def c146L0 : ACode :=
 .seq (.ops [o 11 (.bin .lss (.t 10) (.t 9))] [1, 5, 8, 9, 10, 11])
 (.seq (.cond (.t 11)
 (.skip)
 (.exit 0))
 (.seq (.block 1 (.seq (.ops [o 12 (.iadr 1 (.t 8) (.t 10)), o 13 (.ld false 1 (.t 12)), o 7 (.mv (.t 13))] [1, 5, 7, 8, 9, 10])
 (.ops [o 14 (.mv (.t 5)), o 15 (.mv (.t 1)), o 16 (.mv (.t 7)), o 17 (.call false true 0 (.val (.t 15)) [.t 16]), o 18 (.bslice false 1 [.p (.str [])] 1 [(0, .t 17)]), o 19 (.app 1 16 [.p (.str [])] (.t 14) (.t 18)), o 5 (.mv (.t 19))] [1, 5, 8, 9, 10])))
 (.ops [o 20 (.bin .add (.t 10) (ci 1)), o 10 (.mv (.t 20))] [1, 5, 8, 9, 10])))
def c146 : AFunc := ⟨22, [.tmp 4],
 .seq (.ops [o 4 (.mv (cn))] [0, 1])
 (.seq (.ops [o 5 (.nilown 1)] [0, 1, 5])
 (.seq (.seq (.ops [o 8 (.mv (.t 0)), o 9 (.len 1 (.t 8)), o 10 (.mv (ci 0))] [1, 5, 8, 9, 10])
 (.block 0 (.loop true [1, 5, 8, 9, 10] c146L0)))
 (.seq (.ops [o 21 (.mv (.t 5)), o 4 (.mv (.t 21))] [4])
 (.ret))))⟩

/-- crumple/barrier.Print$1 -/
def c147 : AFunc := ⟨8, [.tmp 2],
 .seq (.ops [o 2 (.mv (cs []))] [0])
 (.seq (.ops [o 3 (.iadra 2 4 (.g 1) (ci 3)), o 4 (.ld true 2 (.t 3)), o 5 (.mv (.t 0)), o 6 (.bslice false 1 [.p (.int .i64 0)] 1 [(0, .t 5)]), o 7 (.call true true 0 (.fn 144) [.t 4, .t 6]), o 2 (.mv (.t 7))] [2])
 (.ret))⟩

/-- strings.Lines -/
def c148 : AFunc := ⟨4, [.tmp 2],
 .seq (.ops [o 1 (.box true (.t 0)), o 2 (.mv (.c (.p (.nilf))))] [1])
 (.seq (.ops [o 3 (.mkclo 172 [] [.t 1]), o 2 (.mv (.t 3))] [2])
 (.ret))⟩

/-- (crumple/barrier.form).read -/
def c149L0 : ACode :=
 .seq (.ops [o 43 (.bin .lss (.t 42) (.t 41))] [9, 40, 41, 42, 43])
 (.seq (.cond (.t 43)
 (.skip)
 (.exit 0))
 (.seq (.block 1 (.seq (.ops [o 44 (.iadr 1 (.t 40) (.t 42)), o 45 (.ld false 1 (.t 44)), o 11 (.mv (.t 45))] [9, 11, 40, 41, 42])
 (.seq (.ops [o 47 (.mv (.t 11)), o 48 (.call true true 0 (.fn 176) [.t 47]), o 46 (.mv (.t 48)), o 49 (.ext (.t 46) 0), o 50 (.ext (.t 46) 1), o 12 (.mv (.t 49)), o 13 (.mv (.t 50))] [9, 12, 13, 40, 41, 42])
 (.seq (.seq (.ops [o 51 (.mv (.t 13)), o 52 (.not (.t 51))] [9, 12, 40, 41, 42, 52])
 (.cond (.t 52)
 (.seq (.ops [o 4 (.mv (cn)), o 5 (.mv (cb false))] [4, 5])
 (.ret))
 (.skip)))
 (.ops [o 53 (.mv (.t 9)), o 54 (.mv (.t 12)), o 55 (.bslice false 1 [.p (.int .i64 0)] 1 [(0, .t 54)]), o 56 (.app 1 8 [.p (.int .i64 0)] (.t 53) (.t 55)), o 9 (.mv (.t 56))] [9, 40, 41, 42])))))
 (.ops [o 57 (.bin .add (.t 42) (ci 1)), o 42 (.mv (.t 57))] [9, 40, 41, 42])))
def c149 : AFunc := ⟨59, [.tmp 4, .tmp 5],
 .seq (.ops [o 2 (.box true (.t 0)), o 4 (.mv (cn)), o 5 (.mv (cb false))] [1, 2])
 (.seq (.ops [o 15 (.mv (.t 1)), o 16 (.call true true 0 (.fn 174) [.t 15, cs [10]]), o 14 (.mv (.t 16)), o 17 (.ext (.t 14) 0), o 18 (.ext (.t 14) 1), o 6 (.mv (.t 17)), o 7 (.mv (.t 18))] [2, 6, 7])
 (.seq (.ops [o 19 (.mv (.t 6)), o 20 (.call true false 0 (.fn 175) [.t 19, cs [32]]), o 8 (.mv (.t 20))] [2, 7, 8])
 (.seq (.seq (.opsd [(0, 1), (1, 1), (2, 1), (3, 1), (4, 1), (5, 1), (6, 1), (7, 1), (8, 1), (9, 1), (10, 1), (11, 1), (12, 1), (13, 1), (14, 1), (15, 1), (16, 1), (17, 1)] [o 21 (.mv (.t 7)), o 22 (.not (.t 21)), o 23 (.mv (.t 22)), ⟨some 24, .mv (.t 8), some (23, false)⟩, ⟨some 25, .iadr 1 (.t 24) (ci 0), some (23, false)⟩, ⟨some 26, .ld false 1 (.t 25), some (23, false)⟩, ⟨some 27, .fadr 0 (.t 2), some (23, false)⟩, ⟨some 28, .ld false 1 (.t 27), some (23, false)⟩, ⟨some 29, .bin .neq (.t 26) (.t 28), some (23, false)⟩, o 30 (.pick (.t 23) (cb true) (.t 29)), o 31 (.mv (.t 30)), ⟨some 32, .mv (.t 8), some (31, false)⟩, ⟨some 33, .len 1 (.t 32), some (31, false)⟩, ⟨some 34, .fadr 1 (.t 2), some (31, false)⟩, ⟨some 35, .ld false 1 (.t 34), some (31, false)⟩, ⟨some 36, .bin .add (.t 35) (ci 1), some (31, false)⟩, ⟨some 37, .bin .neq (.t 33) (.t 36), some (31, false)⟩, o 38 (.pick (.t 31) (cb true) (.t 37))] [8, 38])
 (.cond (.t 38)
 (.seq (.ops [o 4 (.mv (cn)), o 5 (.mv (cb false))] [4, 5])
 (.ret))
 (.skip)))
 (.seq (.ops [o 9 (.nilown 1)] [8, 9])
 (.seq (.seq (.ops [o 39 (.mv (.t 8)), o 40 (.slc 1 (.t 39) (some (ci 1)) none), o 41 (.len 1 (.t 40)), o 42 (.mv (ci 0))] [9, 40, 41, 42])
 (.block 0 (.loop false [9, 40, 41, 42] c149L0)))
 (.seq (.ops [o 58 (.mv (.t 9)), o 4 (.mv (.t 58)), o 5 (.mv (cb true))] [4, 5])
 (.ret)))))))⟩

/-- slices.Concat[[]int,int] -/
def c150L0 : ACode :=
 .seq (.ops [o 12 (.bin .lss (.t 11) (.t 10))] [0, 3, 9, 10, 11, 12])
 (.seq (.cond (.t 12)
 (.skip)
 (.exit 0))
 (.seq (.block 1 (.seq (.ops [o 13 (.iadr 1 (.t 9) (.t 11)), o 14 (.ld false 1 (.t 13)), o 5 (.mv (.t 14))] [0, 3, 5, 9, 10, 11])
 (.seq (.ops [o 15 (.mv (.t 3)), o 16 (.mv (.t 5)), o 17 (.len 1 (.t 16)), o 18 (.bin .add (.t 15) (.t 17)), o 3 (.mv (.t 18))] [0, 3, 9, 10, 11])
 (.seq (.ops [o 19 (.mv (.t 3)), o 20 (.bin .lss (.t 19) (ci 0))] [0, 3, 9, 10, 11, 20])
 (.cond (.t 20)
 (.ops [o 21 (.fail), u (.fail)] [0, 3, 9, 10, 11])
 (.skip))))))
 (.ops [o 22 (.bin .add (.t 11) (ci 1)), o 11 (.mv (.t 22))] [0, 3, 9, 10, 11])))
def c150L1 : ACode :=
 .seq (.ops [o 28 (.bin .lss (.t 27) (.t 26))] [6, 25, 26, 27, 28])
 (.seq (.cond (.t 28)
 (.skip)
 (.exit 2))
 (.seq (.block 3 (.seq (.ops [o 29 (.iadr 1 (.t 25) (.t 27)), o 30 (.ld false 1 (.t 29)), o 8 (.mv (.t 30))] [6, 8, 25, 26, 27])
 (.ops [o 31 (.mv (.t 6)), o 32 (.mv (.t 8)), o 33 (.app 1 8 [.p (.int .i64 0)] (.t 31) (.t 32)), o 6 (.mv (.t 33))] [6, 25, 26, 27])))
 (.ops [o 34 (.bin .add (.t 27) (ci 1)), o 27 (.mv (.t 34))] [6, 25, 26, 27])))
def c150 : AFunc := ⟨36, [.tmp 2],
 .seq (.ops [o 2 (.mv (cn))] [0])
 (.seq (.ops [o 3 (.mv (ci 0))] [0, 3])
 (.seq (.seq (.ops [o 9 (.mv (.t 0)), o 10 (.len 1 (.t 9)), o 11 (.mv (ci 0))] [0, 3, 9, 10, 11])
 (.block 0 (.loop false [0, 3, 9, 10, 11] c150L0)))
 (.seq (.ops [o 23 (.mv (.t 3)), o 24 (.call false false 2001 (.fn 177) [cn, .t 23]), o 6 (.mv (.t 24))] [0, 6])
 (.seq (.seq (.ops [o 25 (.mv (.t 0)), o 26 (.len 1 (.t 25)), o 27 (.mv (ci 0))] [6, 25, 26, 27])
 (.block 2 (.loop false [6, 25, 26, 27] c150L1)))
 (.seq (.ops [o 35 (.mv (.t 6)), o 2 (.mv (.t 35))] [2])
 (.ret))))))⟩

/-- crumple/crumpleref01.Text -/
def c151L0 : ACode :=
 .seq (.seq (.ops [o 8 (.mv (.t 4)), o 9 (.bin .neq (.t 8) (ci 0))] [0, 3, 4, 9])
 (.cond (.t 9)
 (.skip)
 (.exit 0)))
 (.seq (.block 1 (.ops [o 12 (.mv (.t 4)), o 13 (.bin .rem (.t 12) (ci 10)), o 14 (.mv (.t 4)), o 15 (.bin .rem (.t 14) (ci 10)), o 16 (.bin .sub (ci 0) (.t 15)), o 17 (.max [.t 13, .t 16]), o 18 (.bin .add (ci 48) (.t 17)), o 19 (.conv (.int .u8) (.t 18)), o 20 (.bslice false 1 [.p (.int .u8 0)] 1 [(0, .t 19)]), o 21 (.conv .b2s (.t 20)), o 22 (.mv (.t 3)), o 23 (.bin .add (.t 21) (.t 22)), o 3 (.mv (.t 23))] [0, 3, 4]))
 (.ops [o 10 (.mv (.t 4)), o 11 (.bin .quo (.t 10) (ci 10)), o 4 (.mv (.t 11))] [0, 3, 4]))
def c151 : AFunc := ⟨29, [.tmp 2],
 .seq (.ops [o 2 (.mv (cs []))] [0])
 (.seq (.seq (.ops [o 5 (.mv (.t 0)), o 6 (.bin .eql (.t 5) (ci 0))] [0, 6])
 (.cond (.t 6)
 (.seq (.ops [o 2 (.mv (cs [48]))] [2])
 (.ret))
 (.skip)))
 (.seq (.ops [o 3 (.mv (cs []))] [0, 3])
 (.seq (.seq (.ops [o 7 (.mv (.t 0)), o 4 (.mv (.t 7))] [0, 3, 4])
 (.block 0 (.loop false [0, 3, 4] c151L0)))
 (.seq (.seq (.ops [o 24 (.mv (.t 0)), o 25 (.bin .lss (.t 24) (ci 0))] [3, 25])
 (.cond (.t 25)
 (.seq (.ops [o 26 (.mv (.t 3)), o 27 (.bin .add (cs [45]) (.t 26)), o 2 (.mv (.t 27))] [2])
 (.ret))
 (.skip)))
 (.seq (.ops [o 28 (.mv (.t 3)), o 2 (.mv (.t 28))] [2])
 (.ret))))))⟩

/-- crumple/crumpleref01.Digits -/
def c152L0 : ACode :=
 .seq (.seq (.ops [o 23 (.mv (.t 5)), o 24 (.mv (.t 0)), o 25 (.len 0 (.t 24)), o 26 (.bin .lss (.t 23) (.t 25))] [0, 4, 5, 26])
 (.cond (.t 26)
 (.skip)
 (.exit 0)))
 (.seq (.block 1 (.seq (.seq (.ops [o 29 (.mv (.t 0)), o 30 (.mv (.t 5)), o 31 (.idxs (.t 29) (.t 30)), o 32 (.bin .lss (.t 31) (.c (.p (.int .u8 48)))), o 33 (.mv (.t 32)), ⟨some 34, .mv (.t 0), some (33, false)⟩, ⟨some 35, .mv (.t 5), some (33, false)⟩, ⟨some 36, .idxs (.t 34) (.t 35), some (33, false)⟩, ⟨some 37, .bin .gtr (.t 36) (.c (.p (.int .u8 57))), some (33, false)⟩, o 38 (.pick (.t 33) (cb true) (.t 37))] [0, 4, 5, 38])
 (.cond (.t 38)
 (.seq (.ops [o 2 (.mv (ci 0)), o 3 (.mv (cb false))] [2, 3])
 (.ret))
 (.skip)))
 (.ops [o 39 (.mv (.t 4)), o 40 (.bin .mul (ci 10) (.t 39)), o 41 (.mv (.t 0)), o 42 (.mv (.t 5)), o 43 (.idxs (.t 41) (.t 42)), o 44 (.bin .sub (.t 43) (.c (.p (.int .u8 48)))), o 45 (.conv (.int .i64) (.t 44)), o 46 (.bin .add (.t 40) (.t 45)), o 4 (.mv (.t 46))] [0, 4, 5])))
 (.ops [o 27 (.mv (.t 5)), o 28 (.bin .add (.t 27) (ci 1)), o 5 (.mv (.t 28))] [0, 4, 5]))
def c152 : AFunc := ⟨48, [.tmp 2, .tmp 3],
 .seq (.ops [o 2 (.mv (ci 0)), o 3 (.mv (cb false))] [0])
 (.seq (.seq (.ops [o 6 (.mv (.t 0)), o 7 (.bin .eql (.t 6) (cs [])), o 8 (.mv (.t 7)), ⟨some 9, .mv (.t 0), some (8, false)⟩, ⟨some 10, .len 0 (.t 9), some (8, false)⟩, ⟨some 11, .bin .gtr (.t 10) (ci 9), some (8, false)⟩, o 12 (.pick (.t 8) (cb true) (.t 11)), o 13 (.mv (.t 12)), ⟨some 14, .mv (.t 0), some (13, false)⟩, ⟨some 15, .len 0 (.t 14), some (13, false)⟩, ⟨some 16, .bin .gtr (.t 15) (ci 1), some (13, false)⟩, ⟨some 17, .mv (.t 16), some (13, false)⟩, ⟨some 18, .mv (.t 0), some (17, true)⟩, ⟨some 19, .idxs (.t 18) (ci 0), some (17, true)⟩, ⟨some 20, .bin .eql (.t 19) (.c (.p (.int .u8 48))), some (17, true)⟩, ⟨some 21, .pick (.t 17) (.t 20) (cb false), some (13, false)⟩, o 22 (.pick (.t 13) (cb true) (.t 21))] [0, 22])
 (.cond (.t 22)
 (.seq (.ops [o 2 (.mv (ci 0)), o 3 (.mv (cb false))] [2, 3])
 (.ret))
 (.skip)))
 (.seq (.ops [o 4 (.mv (ci 0))] [0, 4])
 (.seq (.seq (.ops [o 5 (.mv (ci 0))] [0, 4, 5])
 (.block 0 (.loop false [0, 4, 5] c152L0)))
 (.seq (.ops [o 47 (.mv (.t 4)), o 2 (.mv (.t 47)), o 3 (.mv (cb true))] [2, 3])
 (.ret)))))⟩

/-- crumple/barrier.up -/
def c153 : AFunc := ⟨11, [.tmp 4],
 .seq (.ops [o 4 (.mv (ci 0))] [0, 1])
 (.seq (.ops [o 5 (.mv (.t 0)), o 6 (.mv (.t 1)), o 7 (.bin .add (.t 5) (.t 6)), o 8 (.bin .sub (.t 7) (ci 1)), o 9 (.mv (.t 1)), o 10 (.bin .quo (.t 8) (.t 9)), o 4 (.mv (.t 10))] [4])
 (.ret))⟩

/-- crumple/crumpleref01.Divisor -/
def c154L0 : ACode :=
 .seq (.seq (.ops [o 13 (.mv (.t 1)), o 14 (.bin .neq (.t 13) (ci 0))] [0, 1, 14])
 (.cond (.t 14)
 (.skip)
 (.exit 0)))
 (.block 1 (.opsd [(0, 1), (1, 1), (2, 1), (3, 1), (4, 1), (5, 1)] [o 15 (.mv (.t 1)), o 16 (.mv (.t 0)), o 17 (.mv (.t 1)), o 18 (.bin .rem (.t 16) (.t 17)), o 0 (.mv (.t 15)), o 1 (.mv (.t 18))] [0, 1]))
def c154 : AFunc := ⟨20, [.tmp 4],
 .seq (.ops [o 4 (.mv (ci 0))] [0, 1])
 (.seq (.ops [o 5 (.mv (.t 0)), o 6 (.mv (.t 0)), o 7 (.bin .sub (ci 0) (.t 6)), o 8 (.max [.t 5, .t 7]), o 9 (.mv (.t 1)), o 10 (.mv (.t 1)), o 11 (.bin .sub (ci 0) (.t 10)), o 12 (.max [.t 9, .t 11]), o 0 (.mv (.t 8)), o 1 (.mv (.t 12))] [0, 1])
 (.seq (.block 0 (.loop false [0, 1] c154L0))
 (.seq (.ops [o 19 (.mv (.t 0)), o 4 (.mv (.t 19))] [4])
 (.ret))))⟩

/-- crumple/record.IsName -/
def c155L0 : ACode :=
 .seq (.ops [o 8 (.nxt (.t 7) true), o 9 (.ext (.t 8) 0)] [0, 7, 8, 9])
 (.seq (.cond (.t 9)
 (.skip)
 (.exit 0))
 (.block 1 (.seq (.ops [o 10 (.ext (.t 8) 1), o 11 (.ext (.t 8) 2), o 3 (.mv (.t 10)), o 4 (.mv (.t 11))] [0, 3, 4, 7])
 (.seq (.ops [o 12 (.mv (.t 4)), o 13 (.bin .geq (.t 12) (.c (.p (.int .i32 97)))), o 14 (.mv (.t 13)), ⟨some 15, .mv (.t 4), some (14, true)⟩, ⟨some 16, .bin .leq (.t 15) (.c (.p (.int .i32 122))), some (14, true)⟩, o 17 (.pick (.t 14) (.t 16) (cb false)), o 18 (.mv (.t 17)), ⟨some 19, .mv (.t 4), some (18, false)⟩, ⟨some 20, .bin .geq (.t 19) (.c (.p (.int .i32 65))), some (18, false)⟩, ⟨some 21, .mv (.t 20), some (18, false)⟩, ⟨some 22, .mv (.t 4), some (21, true)⟩, ⟨some 23, .bin .leq (.t 22) (.c (.p (.int .i32 90))), some (21, true)⟩, ⟨some 24, .pick (.t 21) (.t 23) (cb false), some (18, false)⟩, o 25 (.pick (.t 18) (cb true) (.t 24)), o 5 (.mv (.t 25))] [0, 3, 4, 5, 7])
 (.seq (.ops [o 26 (.mv (.t 5)), o 27 (.not (.t 26)), o 28 (.mv (.t 27)), ⟨some 29, .mv (.t 3), some (28, true)⟩, ⟨some 30, .bin .eql (.t 29) (ci 0), some (28, true)⟩, ⟨some 31, .mv (.t 30), some (28, true)⟩, ⟨some 32, .mv (.t 4), some (31, false)⟩, ⟨some 33, .bin .neq (.t 32) (.c (.p (.int .i32 95))), some (31, false)⟩, ⟨some 34, .mv (.t 33), some (31, false)⟩, ⟨some 35, .mv (.t 4), some (34, true)⟩, ⟨some 36, .bin .lss (.t 35) (.c (.p (.int .i32 48))), some (34, true)⟩, ⟨some 37, .mv (.t 36), some (34, true)⟩, ⟨some 38, .mv (.t 4), some (37, false)⟩, ⟨some 39, .bin .gtr (.t 38) (.c (.p (.int .i32 57))), some (37, false)⟩, ⟨some 40, .pick (.t 37) (cb true) (.t 39), some (34, true)⟩, ⟨some 41, .pick (.t 34) (.t 40) (cb false), some (31, false)⟩, ⟨some 42, .pick (.t 31) (cb true) (.t 41), some (28, true)⟩, o 43 (.pick (.t 28) (.t 42) (cb false))] [0, 7, 43])
 (.cond (.t 43)
 (.seq (.ops [o 2 (.mv (cb false))] [2])
 (.ret))
 (.skip)))))))
def c155 : AFunc := ⟨51, [.tmp 2],
 .seq (.ops [o 2 (.mv (cb false))] [0])
 (.seq (.seq (.ops [o 6 (.mv (.t 0)), o 7 (.rngs (.t 6))] [0, 7])
 (.block 0 (.loop false [0, 7] c155L0)))
 (.seq (.ops [o 44 (.mv (.t 0)), o 45 (.bin .neq (.t 44) (cs [])), o 46 (.mv (.t 45)), ⟨some 47, .mv (.t 0), some (46, true)⟩, ⟨some 48, .len 0 (.t 47), some (46, true)⟩, ⟨some 49, .bin .leq (.t 48) (ci 24), some (46, true)⟩, o 50 (.pick (.t 46) (.t 49) (cb false)), o 2 (.mv (.t 50))] [2])
 (.ret)))⟩

/-- crumple/record.first -/
def c156L0 : ACode :=
 .seq (.ops [o 8 (.bin .lss (.t 7) (.t 6))] [5, 6, 7, 8])
 (.seq (.cond (.t 8)
 (.skip)
 (.exit 0))
 (.seq (.block 1 (.seq (.ops [o 9 (.iadr 1 (.t 5) (.t 7)), o 10 (.ld false 1 (.t 9)), o 4 (.mv (.t 10))] [4, 5, 6, 7])
 (.seq (.ops [o 11 (.mv (.t 4)), o 12 (.bin .neq (.t 11) (ci 0))] [4, 5, 6, 7, 12])
 (.cond (.t 12)
 (.seq (.ops [o 13 (.mv (.t 4)), o 2 (.mv (.t 13))] [2])
 (.ret))
 (.skip)))))
 (.ops [o 14 (.bin .add (.t 7) (ci 1)), o 7 (.mv (.t 14))] [5, 6, 7])))
def c156 : AFunc := ⟨15, [.tmp 2],
 .seq (.ops [o 2 (.mv (ci 0))] [0])
 (.seq (.seq (.ops [o 5 (.mv (.t 0)), o 6 (.len 1 (.t 5)), o 7 (.mv (ci 0))] [5, 6, 7])
 (.block 0 (.loop false [5, 6, 7] c156L0)))
 (.seq (.ops [o 2 (.mv (ci 0))] [2])
 (.ret)))⟩

/-- crumple/record.within -/
def c157 : AFunc := ⟨16, [.tmp 6],
 .seq (.ops [o 6 (.mv (ci 0))] [0, 1, 2])
 (.seq (.ops [o 7 (.mv (.t 0)), o 8 (.mv (.t 1)), o 9 (.bin .lss (.t 7) (.t 8)), o 10 (.mv (.t 9)), ⟨some 11, .mv (.t 0), some (10, false)⟩, ⟨some 12, .mv (.t 2), some (10, false)⟩, ⟨some 13, .bin .gtr (.t 11) (.t 12), some (10, false)⟩, o 14 (.pick (.t 10) (cb true) (.t 13)), o 15 (.call true true 0 (.fn 158) [.t 14, ci 3]), o 6 (.mv (.t 15))] [6])
 (.ret))⟩

/-- crumple/record.when -/
def c158 : AFunc := ⟨7, [.tmp 4],
 .seq (.ops [o 4 (.mv (ci 0))] [0, 1])
 (.seq (.seq (.ops [o 5 (.mv (.t 0))] [1, 5])
 (.cond (.t 5)
 (.seq (.ops [o 6 (.mv (.t 1)), o 4 (.mv (.t 6))] [4])
 (.ret))
 (.skip)))
 (.seq (.ops [o 4 (.mv (ci 0))] [4])
 (.ret)))⟩

/-- crumple/crumpleref01.IsName -/
def c159L0 : ACode :=
 .seq (.seq (.ops [o 14 (.mv (.t 3)), o 15 (.mv (.t 0)), o 16 (.len 0 (.t 15)), o 17 (.bin .lss (.t 14) (.t 16))] [0, 3, 17])
 (.cond (.t 17)
 (.skip)
 (.exit 0)))
 (.seq (.block 1 (.seq (.ops [o 20 (.mv (.t 0)), o 21 (.mv (.t 3)), o 22 (.idxs (.t 20) (.t 21)), o 23 (.bin .geq (.t 22) (.c (.p (.int .u8 65)))), o 24 (.mv (.t 23)), ⟨some 25, .mv (.t 0), some (24, true)⟩, ⟨some 26, .mv (.t 3), some (24, true)⟩, ⟨some 27, .idxs (.t 25) (.t 26), some (24, true)⟩, ⟨some 28, .bin .leq (.t 27) (.c (.p (.int .u8 90))), some (24, true)⟩, o 29 (.pick (.t 24) (.t 28) (cb false)), o 30 (.mv (.t 29)), ⟨some 31, .mv (.t 0), some (30, false)⟩, ⟨some 32, .mv (.t 3), some (30, false)⟩, ⟨some 33, .idxs (.t 31) (.t 32), some (30, false)⟩, ⟨some 34, .bin .geq (.t 33) (.c (.p (.int .u8 97))), some (30, false)⟩, ⟨some 35, .mv (.t 34), some (30, false)⟩, ⟨some 36, .mv (.t 0), some (35, true)⟩, ⟨some 37, .mv (.t 3), some (35, true)⟩, ⟨some 38, .idxs (.t 36) (.t 37), some (35, true)⟩, ⟨some 39, .bin .leq (.t 38) (.c (.p (.int .u8 122))), some (35, true)⟩, ⟨some 40, .pick (.t 35) (.t 39) (cb false), some (30, false)⟩, o 41 (.pick (.t 30) (cb true) (.t 40)), o 4 (.mv (.t 41))] [0, 3, 4])
 (.seq (.ops [o 42 (.mv (.t 0)), o 43 (.mv (.t 3)), o 44 (.idxs (.t 42) (.t 43)), o 45 (.bin .geq (.t 44) (.c (.p (.int .u8 48)))), o 46 (.mv (.t 45)), ⟨some 47, .mv (.t 0), some (46, true)⟩, ⟨some 48, .mv (.t 3), some (46, true)⟩, ⟨some 49, .idxs (.t 47) (.t 48), some (46, true)⟩, ⟨some 50, .bin .leq (.t 49) (.c (.p (.int .u8 57))), some (46, true)⟩, o 51 (.pick (.t 46) (.t 50) (cb false)), o 52 (.mv (.t 51)), ⟨some 53, .mv (.t 0), some (52, false)⟩, ⟨some 54, .mv (.t 3), some (52, false)⟩, ⟨some 55, .idxs (.t 53) (.t 54), some (52, false)⟩, ⟨some 56, .bin .eql (.t 55) (.c (.p (.int .u8 95))), some (52, false)⟩, o 57 (.pick (.t 52) (cb true) (.t 56)), o 5 (.mv (.t 57))] [0, 3, 4, 5])
 (.seq (.ops [o 58 (.mv (.t 4)), o 59 (.not (.t 58)), o 60 (.mv (.t 59)), ⟨some 61, .mv (.t 3), some (60, true)⟩, ⟨some 62, .bin .eql (.t 61) (ci 0), some (60, true)⟩, ⟨some 63, .mv (.t 62), some (60, true)⟩, ⟨some 64, .mv (.t 5), some (63, false)⟩, ⟨some 65, .not (.t 64), some (63, false)⟩, ⟨some 66, .pick (.t 63) (cb true) (.t 65), some (60, true)⟩, o 67 (.pick (.t 60) (.t 66) (cb false))] [0, 3, 67])
 (.cond (.t 67)
 (.seq (.ops [o 2 (.mv (cb false))] [2])
 (.ret))
 (.skip))))))
 (.ops [o 18 (.mv (.t 3)), o 19 (.bin .add (.t 18) (ci 1)), o 3 (.mv (.t 19))] [0, 3]))
def c159 : AFunc := ⟨68, [.tmp 2],
 .seq (.ops [o 2 (.mv (cb false))] [0])
 (.seq (.seq (.ops [o 6 (.mv (.t 0)), o 7 (.len 0 (.t 6)), o 8 (.bin .eql (.t 7) (ci 0)), o 9 (.mv (.t 8)), ⟨some 10, .mv (.t 0), some (9, false)⟩, ⟨some 11, .len 0 (.t 10), some (9, false)⟩, ⟨some 12, .bin .gtr (.t 11) (ci 24), some (9, false)⟩, o 13 (.pick (.t 9) (cb true) (.t 12))] [0, 13])
 (.cond (.t 13)
 (.seq (.ops [o 2 (.mv (cb false))] [2])
 (.ret))
 (.skip)))
 (.seq (.seq (.ops [o 3 (.mv (ci 0))] [0, 3])
 (.block 0 (.loop false [0, 3] c159L0)))
 (.seq (.ops [o 2 (.mv (cb true))] [2])
 (.ret))))⟩

/-- (crumple/barrier.Tow).unsafe$1 -/
def c160L0 : ACode :=
 .seq (.ops [o 8 (.bin .lss (.t 7) (.t 6))] [0, 1, 6, 7, 8])
 (.seq (.cond (.t 8)
 (.skip)
 (.exit 0))
 (.seq (.block 1 (.seq (.ops [o 9 (.mv (.t 7)), o 3 (.mv (.t 9))] [0, 1, 3, 6, 7])
 (.seq (.ops [o 10 (.ld true 6 (.t 1)), o 11 (.mv (.t 3)), o 12 (.call true true 0 (.fn 119) [.t 10, .t 11]), o 13 (.not (.t 12)), o 14 (.mv (.t 13)), ⟨some 15, .mv (.t 0), some (14, true)⟩, ⟨some 16, .mv (.t 3), some (14, true)⟩, ⟨some 17, .call false true 0 (.val (.t 15)) [.t 16], some (14, true)⟩, ⟨some 18, .not (.t 17), some (14, true)⟩, o 19 (.pick (.t 14) (.t 18) (cb false))] [0, 1, 6, 7, 19])
 (.cond (.t 19)
 (.ret)
 (.skip)))))
 (.ops [o 20 (.bin .add (.t 7) (ci 1)), o 7 (.mv (.t 20))] [0, 1, 6, 7])))
def c160 : AFunc := ⟨21, [],
 .seq (.ops [o 4 (.fadr 5 (.t 1)), o 5 (.ld false 1 (.t 4)), o 6 (.bin .add (.t 5) (ci 1)), o 7 (.mv (ci 0))] [0, 1, 6, 7])
 (.block 0 (.loop true [0, 1, 6, 7] c160L0))⟩

/-- crumple/barrier.mapped[int,crumple/api.Errno] -/
def c161L0 : ACode :=
 .seq (.ops [o 11 (.bin .lss (.t 10) (.t 9))] [1, 5, 8, 9, 10, 11])
 (.seq (.cond (.t 11)
 (.skip)
 (.exit 0))
 (.seq (.block 1 (.seq (.ops [o 12 (.iadr 1 (.t 8) (.t 10)), o 13 (.ld false 1 (.t 12)), o 7 (.mv (.t 13))] [1, 5, 7, 8, 9, 10])
 (.ops [o 14 (.mv (.t 5)), o 15 (.mv (.t 1)), o 16 (.mv (.t 7)), o 17 (.call false true 0 (.val (.t 15)) [.t 16]), o 18 (.bslice false 1 [.p (.int .i64 0)] 1 [(0, .t 17)]), o 19 (.app 1 8 [.p (.int .i64 0)] (.t 14) (.t 18)), o 5 (.mv (.t 19))] [1, 5, 8, 9, 10])))
 (.ops [o 20 (.bin .add (.t 10) (ci 1)), o 10 (.mv (.t 20))] [1, 5, 8, 9, 10])))
def c161 : AFunc := ⟨22, [.tmp 4],
 .seq (.ops [o 4 (.mv (cn))] [0, 1])
 (.seq (.ops [o 5 (.nilown 1)] [0, 1, 5])
 (.seq (.seq (.ops [o 8 (.mv (.t 0)), o 9 (.len 1 (.t 8)), o 10 (.mv (ci 0))] [1, 5, 8, 9, 10])
 (.block 0 (.loop true [1, 5, 8, 9, 10] c161L0)))
 (.seq (.ops [o 21 (.mv (.t 5)), o 4 (.mv (.t 21))] [4])
 (.ret))))⟩

/-- crumple/barrier.ranged$1 -/
def c162 : AFunc := ⟨9, [.tmp 4],
 .seq (.ops [o 4 (.mv (ci 0))] [0, 1, 2])
 (.seq (.ops [o 5 (.mv (.t 0)), o 6 (.ld false 1 (.t 1)), o 7 (.ld false 1 (.t 2)), o 8 (.call true true 0 (.fn 108) [.t 5, .t 6, .t 7]), o 4 (.mv (.t 8))] [4])
 (.ret))⟩

/-- crumple/barrier.mapped[crumple/barrier.Part,crumple/barrier.moving] -/
def c163L0 : ACode :=
 .seq (.ops [o 11 (.bin .lss (.t 10) (.t 9))] [1, 5, 8, 9, 10, 11])
 (.seq (.cond (.t 11)
 (.skip)
 (.exit 0))
 (.seq (.block 1 (.seq (.ops [o 12 (.iadr 7 (.t 8) (.t 10)), o 13 (.ld true 7 (.t 12)), o 7 (.alloc true 1 [.p (.str []), .p (.int .i64 0), .p (.int .i64 0), .p (.int .i64 0), .p (.int .i64 0), .p (.int .i64 0), .p (.int .i64 0)]), u (.st 7 (.t 7) (.t 13))] [1, 5, 7, 8, 9, 10])
 (.ops [o 14 (.mv (.t 5)), o 15 (.mv (.t 1)), o 16 (.ld true 7 (.t 7)), o 17 (.call false true 0 (.val (.t 15)) [.t 16]), o 18 (.bslice false 11 [.p (.str []), .p (.int .i64 0), .p (.int .i64 0), .p (.int .i64 0), .p (.int .i64 0), .p (.int .i64 0), .p (.int .i64 0), .p (.int .i64 0), .p (.int .i64 0), .p (.int .i64 0), .p (.int .i64 0)] 1 [(0, .t 17)]), o 19 (.app 11 96 [.p (.str []), .p (.int .i64 0), .p (.int .i64 0), .p (.int .i64 0), .p (.int .i64 0), .p (.int .i64 0), .p (.int .i64 0), .p (.int .i64 0), .p (.int .i64 0), .p (.int .i64 0), .p (.int .i64 0)] (.t 14) (.t 18)), o 5 (.mv (.t 19))] [1, 5, 8, 9, 10])))
 (.ops [o 20 (.bin .add (.t 10) (ci 1)), o 10 (.mv (.t 20))] [1, 5, 8, 9, 10])))
def c163 : AFunc := ⟨22, [.tmp 4],
 .seq (.ops [o 4 (.mv (cn))] [0, 1])
 (.seq (.ops [o 5 (.nilown 11)] [0, 1, 5])
 (.seq (.seq (.ops [o 8 (.mv (.t 0)), o 9 (.len 1 (.t 8)), o 10 (.mv (ci 0))] [1, 5, 8, 9, 10])
 (.block 0 (.loop true [1, 5, 8, 9, 10] c163L0)))
 (.seq (.ops [o 21 (.mv (.t 5)), o 4 (.mv (.t 21))] [4])
 (.ret))))⟩

/-- crumple/barrier.moved -/
def c164 : AFunc := ⟨23, [.cell 2 true 11],
 .seq (.ops [o 1 (.box true (.t 0)), o 2 (.alloc true 1 [.p (.str []), .p (.int .i64 0), .p (.int .i64 0), .p (.int .i64 0), .p (.int .i64 0), .p (.int .i64 0), .p (.int .i64 0), .p (.int .i64 0), .p (.int .i64 0), .p (.int .i64 0), .p (.int .i64 0)])] [1, 2])
 (.seq (.ops [o 4 (.ld true 7 (.t 1)), o 5 (.build [.p (.str []), .p (.int .i64 0), .p (.int .i64 0), .p (.int .i64 0), .p (.int .i64 0), .p (.int .i64 0), .p (.int .i64 0), .p (.int .i64 0), .p (.int .i64 0), .p (.int .i64 0), .p (.int .i64 0)] [(0, 7, .t 4)]), o 3 (.alloc true 1 [.p (.str []), .p (.int .i64 0), .p (.int .i64 0), .p (.int .i64 0), .p (.int .i64 0), .p (.int .i64 0), .p (.int .i64 0), .p (.int .i64 0), .p (.int .i64 0), .p (.int .i64 0), .p (.int .i64 0)]), u (.st 11 (.t 3) (.t 5))] [2, 3])
 (.seq (.opsd [(0, 1), (1, 1), (2, 1), (3, 1), (4, 1), (5, 1), (6, 1), (7, 1), (8, 1), (9, 1), (10, 1), (11, 1), (12, 1), (13, 0), (14, 1), (15, 1), (16, 0)] [o 6 (.fadr 0 (.t 3)), o 7 (.fadr 1 (.t 6)), o 8 (.ld true 2 (.t 7)), o 9 (.fadr 0 (.t 3)), o 10 (.fadr 3 (.t 9)), o 11 (.ld true 2 (.t 10)), o 12 (.call true true 0 (.fn 178) [.t 8, .t 11]), o 13 (.fadr 0 (.t 3)), o 14 (.fadr 1 (.t 13)), o 15 (.ld true 2 (.t 14)), o 16 (.fadr 0 (.t 3)), o 17 (.fadr 5 (.t 16)), o 18 (.ld true 2 (.t 17)), o 19 (.call true true 0 (.fn 178) [.t 15, .t 18]), o 20 (.build [.p (.int .i64 0), .p (.int .i64 0), .p (.int .i64 0), .p (.int .i64 0)] [(0, 2, .t 12), (2, 2, .t 19)]), o 21 (.fadr 7 (.t 3)), u (.st 4 (.t 21) (.t 20))] [2, 3])
 (.seq (.ops [o 22 (.ld true 11 (.t 3)), u (.st 11 (.t 2) (.t 22))] [2])
 (.ret))))⟩

/-- crumple/barrier.plus -/
def c165 : AFunc := ⟨16, [.cell 4 true 2],
 .seq (.ops [o 2 (.box true (.t 0)), o 3 (.box true (.t 1)), o 4 (.alloc true 1 [.p (.int .i64 0), .p (.int .i64 0)])] [2, 3, 4])
 (.seq (.ops [o 5 (.fadr 0 (.t 2)), o 6 (.ld false 1 (.t 5)), o 7 (.fadr 0 (.t 3)), o 8 (.ld false 1 (.t 7)), o 9 (.bin .add (.t 6) (.t 8)), o 10 (.fadr 1 (.t 2)), o 11 (.ld false 1 (.t 10)), o 12 (.fadr 1 (.t 3)), o 13 (.ld false 1 (.t 12)), o 14 (.bin .add (.t 11) (.t 13)), o 15 (.build [.p (.int .i64 0), .p (.int .i64 0)] [(0, 1, .t 9), (1, 1, .t 14)]), u (.st 2 (.t 4) (.t 15))] [4])
 (.ret))⟩

/-- crumple/barrier.minus -/
def c166 : AFunc := ⟨16, [.cell 4 true 2],
 .seq (.ops [o 2 (.box true (.t 0)), o 3 (.box true (.t 1)), o 4 (.alloc true 1 [.p (.int .i64 0), .p (.int .i64 0)])] [2, 3, 4])
 (.seq (.ops [o 5 (.fadr 0 (.t 2)), o 6 (.ld false 1 (.t 5)), o 7 (.fadr 1 (.t 3)), o 8 (.ld false 1 (.t 7)), o 9 (.bin .sub (.t 6) (.t 8)), o 10 (.fadr 1 (.t 2)), o 11 (.ld false 1 (.t 10)), o 12 (.fadr 0 (.t 3)), o 13 (.ld false 1 (.t 12)), o 14 (.bin .sub (.t 11) (.t 13)), o 15 (.build [.p (.int .i64 0), .p (.int .i64 0)] [(0, 1, .t 9), (1, 1, .t 14)]), u (.st 2 (.t 4) (.t 15))] [4])
 (.ret))⟩

/-- cmp.Less[int] -/
def c167 : AFunc := ⟨17, [.tmp 4],
 .seq (.ops [o 4 (.mv (cb false))] [0, 1])
 (.seq (.ops [o 5 (.mv (.t 0)), o 6 (.call true true 0 (.fn 179) [.t 5]), o 7 (.mv (.t 6)), ⟨some 8, .mv (.t 1), some (7, true)⟩, ⟨some 9, .call true true 0 (.fn 179) [.t 8], some (7, true)⟩, ⟨some 10, .not (.t 9), some (7, true)⟩, o 11 (.pick (.t 7) (.t 10) (cb false)), o 12 (.mv (.t 11)), ⟨some 13, .mv (.t 0), some (12, false)⟩, ⟨some 14, .mv (.t 1), some (12, false)⟩, ⟨some 15, .bin .lss (.t 13) (.t 14), some (12, false)⟩, o 16 (.pick (.t 12) (cb true) (.t 15)), o 4 (.mv (.t 16))] [4])
 (.ret))⟩

/-- strings.Lines$1 -/
def c172L0 : ACode :=
 .seq (.seq (.ops [o 5 (.ld false 1 (.t 1)), o 6 (.len 0 (.t 5)), o 7 (.bin .gtr (.t 6) (ci 0))] [0, 1, 7])
 (.cond (.t 7)
 (.skip)
 (.exit 0)))
 (.block 1 (.seq (.ops [o 3 (.mv (cs []))] [0, 1])
 (.seq (.seq (.ops [o 8 (.ld false 1 (.t 1)), o 9 (.call true true 0 (.fn 173) [.t 8, .c (.p (.int .u8 10))]), o 4 (.mv (.t 9))] [0, 1, 4])
 (.seq (.ops [o 10 (.mv (.t 4)), o 11 (.bin .geq (.t 10) (ci 0))] [0, 1, 4, 11])
 (.cond (.t 11)
 (.opsd [(0, 1), (1, 1), (2, 1), (3, 1), (4, 1), (5, 1), (6, 1), (7, 1), (8, 1), (9, 0)] [o 12 (.ld false 1 (.t 1)), o 13 (.mv (.t 4)), o 14 (.bin .add (.t 13) (ci 1)), o 15 (.slcs (.t 12) none (some (.t 14))), o 16 (.ld false 1 (.t 1)), o 17 (.mv (.t 4)), o 18 (.bin .add (.t 17) (ci 1)), o 19 (.slcs (.t 16) (some (.t 18)) none), o 3 (.mv (.t 15)), u (.st 1 (.t 1) (.t 19))] [0, 1, 3])
 (.ops [o 20 (.ld false 1 (.t 1)), o 3 (.mv (.t 20)), u (.st 1 (.t 1) (cs []))] [0, 1, 3]))))
 (.seq (.ops [o 21 (.mv (.t 0)), o 22 (.mv (.t 3)), o 23 (.call false true 0 (.val (.t 21)) [.t 22]), o 24 (.not (.t 23))] [0, 1, 24])
 (.cond (.t 24)
 (.ret)
 (.skip))))))
def c172 : AFunc := ⟨25, [],
 .block 0 (.loop true [0, 1] c172L0)⟩

/-- strings.IndexByte -/
def c173 : AFunc := ⟨8, [.tmp 4],
 .seq (.ops [o 4 (.mv (ci 0))] [0, 1])
 (.seq (.ops [o 5 (.mv (.t 0)), o 6 (.mv (.t 1)), o 7 (.call true true 0 (.fn 183) [.t 5, .t 6]), o 4 (.mv (.t 7))] [4])
 (.ret))⟩

/-- strings.CutSuffix -/
def c174 : AFunc := ⟨11, [.tmp 4, .tmp 5],
 .seq (.ops [o 4 (.mv (cs [])), o 5 (.mv (cb false))] [0, 1])
 (.seq (.ops [o 6 (.mv (.t 0)), o 7 (.mv (.t 1)), o 8 (.call true true 0 (.fn 184) [.t 6, .t 7]), o 9 (.ext (.t 8) 0), o 10 (.ext (.t 8) 1), o 4 (.mv (.t 9)), o 5 (.mv (.t 10))] [4, 5])
 (.ret))⟩

/-- strings.Split -/
def c175 : AFunc := ⟨8, [.tmp 4],
 .seq (.ops [o 4 (.mv (cn))] [0, 1])
 (.seq (.ops [o 5 (.mv (.t 0)), o 6 (.mv (.t 1)), o 7 (.call true false 0 (.fn 185) [.t 5, .t 6, ci 0, ci (-1)]), o 4 (.mv (.t 7))] [4])
 (.ret))⟩

/-- crumple/barrier.integer -/
def c176L0 : ACode :=
 .seq (.ops [o 9 (.nxt (.t 8) true), o 10 (.ext (.t 9) 0)] [0, 4, 8, 9, 10])
 (.seq (.cond (.t 10)
 (.skip)
 (.exit 0))
 (.block 1 (.seq (.ops [o 11 (.ext (.t 9) 2), o 6 (.mv (.t 11))] [0, 4, 6, 8])
 (.seq (.seq (.ops [o 12 (.mv (.t 6)), o 13 (.bin .lss (.t 12) (.c (.p (.int .i32 48)))), o 14 (.mv (.t 13)), ⟨some 15, .mv (.t 6), some (14, false)⟩, ⟨some 16, .bin .gtr (.t 15) (.c (.p (.int .i32 57))), some (14, false)⟩, o 17 (.pick (.t 14) (cb true) (.t 16)), o 18 (.mv (.t 17)), ⟨some 19, .mv (.t 0), some (18, false)⟩, ⟨some 20, .len 0 (.t 19), some (18, false)⟩, ⟨some 21, .bin .gtr (.t 20) (ci 9), some (18, false)⟩, o 22 (.pick (.t 18) (cb true) (.t 21))] [0, 4, 6, 8, 22])
 (.cond (.t 22)
 (.seq (.ops [o 2 (.mv (ci 0)), o 3 (.mv (cb false))] [2, 3])
 (.ret))
 (.skip)))
 (.ops [o 23 (.mv (.t 4)), o 24 (.bin .mul (ci 10) (.t 23)), o 25 (.mv (.t 6)), o 26 (.bin .sub (.t 25) (.c (.p (.int .i32 48)))), o 27 (.conv (.int .i64) (.t 26)), o 28 (.bin .add (.t 24) (.t 27)), o 4 (.mv (.t 28))] [0, 4, 8])))))
def c176 : AFunc := ⟨42, [.tmp 2, .tmp 3],
 .seq (.ops [o 2 (.mv (ci 0)), o 3 (.mv (cb false))] [0])
 (.seq (.ops [o 4 (.mv (ci 0))] [0, 4])
 (.seq (.seq (.ops [o 7 (.mv (.t 0)), o 8 (.rngs (.t 7))] [0, 4, 8])
 (.block 0 (.loop false [0, 4, 8] c176L0)))
 (.seq (.opsd [(0, 1), (1, 1), (2, 1), (3, 1), (4, 1), (5, 1), (6, 1), (7, 1), (8, 1), (9, 1), (10, 1), (11, 1), (12, 1), (13, 1), (14, 1)] [o 29 (.mv (.t 4)), o 30 (.mv (.t 0)), o 31 (.bin .neq (.t 30) (cs [])), o 32 (.mv (.t 31)), ⟨some 33, .mv (.t 0), some (32, true)⟩, ⟨some 34, .len 0 (.t 33), some (32, true)⟩, ⟨some 35, .bin .eql (.t 34) (ci 1), some (32, true)⟩, ⟨some 36, .mv (.t 35), some (32, true)⟩, ⟨some 37, .mv (.t 0), some (36, false)⟩, ⟨some 38, .idxs (.t 37) (ci 0), some (36, false)⟩, ⟨some 39, .bin .neq (.t 38) (.c (.p (.int .u8 48))), some (36, false)⟩, ⟨some 40, .pick (.t 36) (cb true) (.t 39), some (32, true)⟩, o 41 (.pick (.t 32) (.t 40) (cb false)), o 2 (.mv (.t 29)), o 3 (.mv (.t 41))] [2, 3])
 (.ret))))⟩

/-- crumple/barrier.products -/
def c178 : AFunc := ⟨32, [.cell 4 true 2],
 .seq (.ops [o 2 (.box true (.t 0)), o 3 (.box true (.t 1)), o 4 (.alloc true 1 [.p (.int .i64 0), .p (.int .i64 0)])] [2, 3, 4])
 (.seq (.ops [o 6 (.fadr 0 (.t 2)), o 7 (.ld false 1 (.t 6)), o 8 (.fadr 0 (.t 3)), o 9 (.ld false 1 (.t 8)), o 10 (.bin .mul (.t 7) (.t 9)), o 11 (.fadr 0 (.t 2)), o 12 (.ld false 1 (.t 11)), o 13 (.fadr 1 (.t 3)), o 14 (.ld false 1 (.t 13)), o 15 (.bin .mul (.t 12) (.t 14)), o 16 (.fadr 1 (.t 2)), o 17 (.ld false 1 (.t 16)), o 18 (.fadr 0 (.t 3)), o 19 (.ld false 1 (.t 18)), o 20 (.bin .mul (.t 17) (.t 19)), o 21 (.fadr 1 (.t 2)), o 22 (.ld false 1 (.t 21)), o 23 (.fadr 1 (.t 3)), o 24 (.ld false 1 (.t 23)), o 25 (.bin .mul (.t 22) (.t 24)), o 26 (.bslice false 1 [.p (.int .i64 0)] 4 [(0, .t 10), (1, .t 15), (2, .t 20), (3, .t 25)]), o 5 (.mv (.t 26))] [4, 5])
 (.seq (.ops [o 27 (.mv (.t 5)), o 28 (.call true true 0 (.fn 186) [.t 27]), o 29 (.mv (.t 5)), o 30 (.call true true 0 (.fn 135) [.t 29]), o 31 (.build [.p (.int .i64 0), .p (.int .i64 0)] [(0, 1, .t 28), (1, 1, .t 30)]), u (.st 2 (.t 4) (.t 31))] [4])
 (.ret)))⟩

/-- cmp.isNaN[int] -/
def c179 : AFunc := ⟨6, [.tmp 2],
 .seq (.ops [o 2 (.mv (cb false))] [0])
 (.seq (.ops [o 3 (.mv (.t 0)), o 4 (.mv (.t 0)), o 5 (.bin .neq (.t 3) (.t 4)), o 2 (.mv (.t 5))] [2])
 (.ret))⟩

/-- internal/stringslite.IndexByte -/
def c183 : AFunc := ⟨8, [.tmp 4],
 .seq (.ops [o 4 (.mv (ci 0))] [0, 1])
 (.seq (.ops [o 5 (.mv (.t 0)), o 6 (.mv (.t 1)), o 7 (.call true true 0 (.fn 190) [.t 5, .t 6]), o 4 (.mv (.t 7))] [4])
 (.ret))⟩

/-- internal/stringslite.CutSuffix -/
def c184 : AFunc := ⟨18, [.tmp 4, .tmp 5],
 .seq (.ops [o 4 (.mv (cs [])), o 5 (.mv (cb false))] [0, 1])
 (.seq (.seq (.ops [o 6 (.mv (.t 0)), o 7 (.mv (.t 1)), o 8 (.call true true 0 (.fn 191) [.t 6, .t 7]), o 9 (.not (.t 8))] [0, 1, 9])
 (.cond (.t 9)
 (.seq (.ops [o 10 (.mv (.t 0)), o 4 (.mv (.t 10)), o 5 (.mv (cb false))] [4, 5])
 (.ret))
 (.skip)))
 (.seq (.ops [o 11 (.mv (.t 0)), o 12 (.mv (.t 0)), o 13 (.len 0 (.t 12)), o 14 (.mv (.t 1)), o 15 (.len 0 (.t 14)), o 16 (.bin .sub (.t 13) (.t 15)), o 17 (.slcs (.t 11) none (some (.t 16))), o 4 (.mv (.t 17)), o 5 (.mv (cb true))] [4, 5])
 (.ret)))⟩

/-- strings.genSplit -/
def c185L0 : ACode :=
 .seq (.seq (.ops [o 34 (.mv (.t 10)), o 35 (.mv (.t 3)), o 36 (.bin .lss (.t 34) (.t 35))] [0, 1, 2, 3, 9, 10, 36])
 (.cond (.t 36)
 (.skip)
 (.exit 0)))
 (.block 1 (.seq (.ops [o 37 (.mv (.t 0)), o 38 (.mv (.t 1)), o 39 (.call true true 0 (.fn 194) [.t 37, .t 38]), o 11 (.mv (.t 39))] [0, 1, 2, 3, 9, 10, 11])
 (.seq (.seq (.ops [o 40 (.mv (.t 11)), o 41 (.bin .lss (.t 40) (ci 0))] [0, 1, 2, 3, 9, 10, 11, 41])
 (.cond (.t 41)
 (.exit 0)
 (.skip)))
 (.seq (.ops [o 42 (.mv (.t 9)), o 43 (.mv (.t 10)), o 44 (.mv (.t 0)), o 45 (.mv (.t 11)), o 46 (.mv (.t 2)), o 47 (.bin .add (.t 45) (.t 46)), o 48 (.slcs (.t 44) none (some (.t 47))), o 49 (.iadr 1 (.t 42) (.t 43)), u (.st 1 (.t 49) (.t 48))] [0, 1, 2, 3, 9, 10, 11])
 (.seq (.ops [o 50 (.mv (.t 0)), o 51 (.mv (.t 11)), o 52 (.mv (.t 1)), o 53 (.len 0 (.t 52)), o 54 (.bin .add (.t 51) (.t 53)), o 55 (.slcs (.t 50) (some (.t 54)) none), o 0 (.mv (.t 55))] [0, 1, 2, 3, 9, 10])
 (.ops [o 56 (.mv (.t 10)), o 57 (.bin .add (.t 56) (ci 1)), o 10 (.mv (.t 57))] [0, 1, 2, 3, 9, 10]))))))
def c185 : AFunc := ⟨66, [.tmp 8],
 .seq (.ops [o 8 (.mv (cn))] [0, 1, 2, 3])
 (.seq (.seq (.ops [o 12 (.mv (.t 3)), o 13 (.bin .eql (.t 12) (ci 0))] [0, 1, 2, 3, 13])
 (.cond (.t 13)
 (.seq (.ops [o 8 (.mv (cn))] [8])
 (.ret))
 (.skip)))
 (.seq (.seq (.ops [o 14 (.mv (.t 1)), o 15 (.bin .eql (.t 14) (cs []))] [0, 1, 2, 3, 15])
 (.cond (.t 15)
 (.seq (.ops [o 16 (.mv (.t 0)), o 17 (.mv (.t 3)), o 18 (.call true false 0 (.fn 192) [.t 16, .t 17]), o 8 (.mv (.t 18))] [8])
 (.ret))
 (.skip)))
 (.seq (.seq (.ops [o 19 (.mv (.t 3)), o 20 (.bin .lss (.t 19) (ci 0))] [0, 1, 2, 3, 20])
 (.cond (.t 20)
 (.ops [o 21 (.mv (.t 0)), o 22 (.mv (.t 1)), o 23 (.call true true 0 (.fn 193) [.t 21, .t 22]), o 24 (.bin .add (.t 23) (ci 1)), o 3 (.mv (.t 24))] [0, 1, 2, 3])
 (.skip)))
 (.seq (.ops [o 25 (.mv (.t 3)), o 26 (.mv (.t 0)), o 27 (.len 0 (.t 26)), o 28 (.bin .add (.t 27) (ci 1)), o 29 (.min [.t 25, .t 28]), o 3 (.mv (.t 29))] [0, 1, 2, 3])
 (.seq (.ops [o 30 (.mv (.t 3)), o 31 (.mkslice 1 [.p (.str [])] (.t 30) (.t 30)), o 9 (.mv (.t 31))] [0, 1, 2, 3, 9])
 (.seq (.ops [o 32 (.mv (.t 3)), o 33 (.bin .sub (.t 32) (ci 1)), o 3 (.mv (.t 33))] [0, 1, 2, 3, 9])
 (.seq (.ops [o 10 (.mv (ci 0))] [0, 1, 2, 3, 9, 10])
 (.seq (.block 0 (.loop false [0, 1, 2, 3, 9, 10] c185L0))
 (.seq (.ops [o 58 (.mv (.t 9)), o 59 (.mv (.t 10)), o 60 (.mv (.t 0)), o 61 (.iadr 1 (.t 58) (.t 59)), u (.st 1 (.t 61) (.t 60))] [9, 10])
 (.seq (.ops [o 62 (.mv (.t 9)), o 63 (.mv (.t 10)), o 64 (.bin .add (.t 63) (ci 1)), o 65 (.slc 1 (.t 62) none (some (.t 64))), o 8 (.mv (.t 65))] [8])
 (.ret)))))))))))⟩

/-- slices.Min[[]int,int] -/
def c186L0 : ACode :=
 .seq (.seq (.ops [o 12 (.mv (.t 4)), o 13 (.mv (.t 0)), o 14 (.len 1 (.t 13)), o 15 (.bin .lss (.t 12) (.t 14))] [0, 3, 4, 15])
 (.cond (.t 15)
 (.skip)
 (.exit 0)))
 (.seq (.block 1 (.ops [o 18 (.mv (.t 3)), o 19 (.mv (.t 0)), o 20 (.mv (.t 4)), o 21 (.iadr 1 (.t 19) (.t 20)), o 22 (.ld false 1 (.t 21)), o 23 (.min [.t 18, .t 22]), o 3 (.mv (.t 23))] [0, 3, 4]))
 (.ops [o 16 (.mv (.t 4)), o 17 (.bin .add (.t 16) (ci 1)), o 4 (.mv (.t 17))] [0, 3, 4]))
def c186 : AFunc := ⟨25, [.tmp 2],
 .seq (.ops [o 2 (.mv (ci 0))] [0])
 (.seq (.seq (.ops [o 5 (.mv (.t 0)), o 6 (.len 1 (.t 5)), o 7 (.bin .lss (.t 6) (ci 1))] [0, 7])
 (.cond (.t 7)
 (.ops [o 8 (.fail), u (.fail)] [0])
 (.skip)))
 (.seq (.ops [o 9 (.mv (.t 0)), o 10 (.iadr 1 (.t 9) (ci 0)), o 11 (.ld false 1 (.t 10)), o 3 (.mv (.t 11))] [0, 3])
 (.seq (.seq (.ops [o 4 (.mv (ci 1))] [0, 3, 4])
 (.block 0 (.loop false [0, 3, 4] c186L0)))
 (.seq (.ops [o 24 (.mv (.t 3)), o 2 (.mv (.t 24))] [2])
 (.ret)))))⟩

/-- internal/stringslite.HasSuffix -/
def c191 : AFunc := ⟨21, [.tmp 4],
 .seq (.ops [o 4 (.mv (cb false))] [0, 1])
 (.seq (.ops [o 5 (.mv (.t 0)), o 6 (.len 0 (.t 5)), o 7 (.mv (.t 1)), o 8 (.len 0 (.t 7)), o 9 (.bin .geq (.t 6) (.t 8)), o 10 (.mv (.t 9)), ⟨some 11, .mv (.t 0), some (10, true)⟩, ⟨some 12, .mv (.t 0), some (10, true)⟩, ⟨some 13, .len 0 (.t 12), some (10, true)⟩, ⟨some 14, .mv (.t 1), some (10, true)⟩, ⟨some 15, .len 0 (.t 14), some (10, true)⟩, ⟨some 16, .bin .sub (.t 13) (.t 15), some (10, true)⟩, ⟨some 17, .slcs (.t 11) (some (.t 16)) none, some (10, true)⟩, ⟨some 18, .mv (.t 1), some (10, true)⟩, ⟨some 19, .bin .eql (.t 17) (.t 18), some (10, true)⟩, o 20 (.pick (.t 10) (.t 19) (cb false)), o 4 (.mv (.t 20))] [4])
 (.ret))⟩

/-- strings.explode -/
def c192L0 : ACode :=
 .seq (.seq (.ops [o 22 (.mv (.t 7)), o 23 (.mv (.t 1)), o 24 (.bin .sub (.t 23) (ci 1)), o 25 (.bin .lss (.t 22) (.t 24))] [0, 1, 6, 7, 25])
 (.cond (.t 25)
 (.skip)
 (.exit 0)))
 (.seq (.block 1 (.seq (.ops [o 29 (.mv (.t 0)), o 30 (.call true true 0 (.fn 200) [.t 29]), o 28 (.mv (.t 30)), o 31 (.ext (.t 28) 0), o 32 (.ext (.t 28) 1), o 8 (.mv (.t 31)), o 9 (.mv (.t 32))] [0, 1, 6, 7, 9])
 (.seq (.ops [o 33 (.mv (.t 6)), o 34 (.mv (.t 7)), o 35 (.mv (.t 0)), o 36 (.mv (.t 9)), o 37 (.slcs (.t 35) none (some (.t 36))), o 38 (.iadr 1 (.t 33) (.t 34)), u (.st 1 (.t 38) (.t 37))] [0, 1, 6, 7, 9])
 (.ops [o 39 (.mv (.t 0)), o 40 (.mv (.t 9)), o 41 (.slcs (.t 39) (some (.t 40)) none), o 0 (.mv (.t 41))] [0, 1, 6, 7]))))
 (.ops [o 26 (.mv (.t 7)), o 27 (.bin .add (.t 26) (ci 1)), o 7 (.mv (.t 27))] [0, 1, 6, 7]))
def c192 : AFunc := ⟨50, [.tmp 4],
 .seq (.ops [o 4 (.mv (cn))] [0, 1])
 (.seq (.ops [o 10 (.mv (.t 0)), o 11 (.call true true 0 (.fn 199) [.t 10]), o 5 (.mv (.t 11))] [0, 1, 5])
 (.seq (.seq (.ops [o 12 (.mv (.t 1)), o 13 (.bin .lss (.t 12) (ci 0)), o 14 (.mv (.t 13)), ⟨some 15, .mv (.t 1), some (14, false)⟩, ⟨some 16, .mv (.t 5), some (14, false)⟩, ⟨some 17, .bin .gtr (.t 15) (.t 16), some (14, false)⟩, o 18 (.pick (.t 14) (cb true) (.t 17))] [0, 1, 5, 18])
 (.cond (.t 18)
 (.ops [o 19 (.mv (.t 5)), o 1 (.mv (.t 19))] [0, 1])
 (.skip)))
 (.seq (.ops [o 20 (.mv (.t 1)), o 21 (.mkslice 1 [.p (.str [])] (.t 20) (.t 20)), o 6 (.mv (.t 21))] [0, 1, 6])
 (.seq (.seq (.ops [o 7 (.mv (ci 0))] [0, 1, 6, 7])
 (.block 0 (.loop false [0, 1, 6, 7] c192L0)))
 (.seq (.seq (.ops [o 42 (.mv (.t 1)), o 43 (.bin .gtr (.t 42) (ci 0))] [0, 1, 6, 43])
 (.cond (.t 43)
 (.ops [o 44 (.mv (.t 6)), o 45 (.mv (.t 1)), o 46 (.bin .sub (.t 45) (ci 1)), o 47 (.mv (.t 0)), o 48 (.iadr 1 (.t 44) (.t 46)), u (.st 1 (.t 48) (.t 47))] [6])
 (.skip)))
 (.seq (.ops [o 49 (.mv (.t 6)), o 4 (.mv (.t 49))] [4])
 (.ret)))))))⟩

/-- strings.Count -/
def c193L0 : ACode :=
 .block 1 (.seq (.ops [o 20 (.mv (.t 0)), o 21 (.mv (.t 1)), o 22 (.call true true 0 (.fn 194) [.t 20, .t 21]), o 6 (.mv (.t 22))] [0, 1, 5, 6])
 (.seq (.seq (.ops [o 23 (.mv (.t 6)), o 24 (.bin .eql (.t 23) (ci (-1)))] [0, 1, 5, 6, 24])
 (.cond (.t 24)
 (.seq (.ops [o 25 (.mv (.t 5)), o 4 (.mv (.t 25))] [4])
 (.ret))
 (.skip)))
 (.seq (.ops [o 26 (.mv (.t 5)), o 27 (.bin .add (.t 26) (ci 1)), o 5 (.mv (.t 27))] [0, 1, 5, 6])
 (.ops [o 28 (.mv (.t 0)), o 29 (.mv (.t 6)), o 30 (.mv (.t 1)), o 31 (.len 0 (.t 30)), o 32 (.bin .add (.t 29) (.t 31)), o 33 (.slcs (.t 28) (some (.t 32)) none), o 0 (.mv (.t 33))] [0, 1, 5]))))
def c193 : AFunc := ⟨34, [.tmp 4],
 .seq (.ops [o 4 (.mv (ci 0))] [0, 1])
 (.seq (.seq (.ops [o 7 (.mv (.t 1)), o 8 (.len 0 (.t 7)), o 9 (.bin .eql (.t 8) (ci 0))] [0, 1, 9])
 (.cond (.t 9)
 (.seq (.ops [o 10 (.mv (.t 0)), o 11 (.call true true 0 (.fn 199) [.t 10]), o 12 (.bin .add (.t 11) (ci 1)), o 4 (.mv (.t 12))] [4])
 (.ret))
 (.skip)))
 (.seq (.seq (.ops [o 13 (.mv (.t 1)), o 14 (.len 0 (.t 13)), o 15 (.bin .eql (.t 14) (ci 1))] [0, 1, 15])
 (.cond (.t 15)
 (.seq (.ops [o 16 (.mv (.t 0)), o 17 (.mv (.t 1)), o 18 (.idxs (.t 17) (ci 0)), o 19 (.call true true 0 (.fn 201) [.t 16, .t 18]), o 4 (.mv (.t 19))] [4])
 (.ret))
 (.skip)))
 (.seq (.ops [o 5 (.mv (ci 0))] [0, 1, 5])
 (.block 0 (.loop false [0, 1, 5] c193L0)))))⟩

/-- strings.Index -/
def c194 : AFunc := ⟨8, [.tmp 4],
 .seq (.ops [o 4 (.mv (ci 0))] [0, 1])
 (.seq (.ops [o 5 (.mv (.t 0)), o 6 (.mv (.t 1)), o 7 (.call true true 0 (.fn 202) [.t 5, .t 6]), o 4 (.mv (.t 7))] [4])
 (.ret))⟩

/-- unicode/utf8.RuneCountInString -/
def c199L0 : ACode :=
 .seq (.ops [o 5 (.nxt (.t 4) true), o 6 (.ext (.t 5) 0)] [2, 4, 6])
 (.seq (.cond (.t 6)
 (.skip)
 (.exit 0))
 (.block 1 (.ops [o 7 (.mv (.t 2)), o 8 (.bin .add (.t 7) (ci 1)), o 2 (.mv (.t 8))] [2, 4])))
def c199 : AFunc := ⟨10, [.tmp 2],
 .seq (.ops [o 2 (.mv (ci 0))] [0, 2])
 (.seq (.seq (.ops [o 3 (.mv (.t 0)), o 4 (.rngs (.t 3))] [2, 4])
 (.block 0 (.loop false [2, 4] c199L0)))
 (.seq (.ops [o 9 (.mv (.t 2)), o 2 (.mv (.t 9))] [2])
 (.ret)))⟩

/-- unicode/utf8.DecodeRuneInString -/
def c200 : AFunc := ⟨19, [.tmp 2, .tmp 3],
 .seq (.ops [o 2 (.mv (.c (.p (.int .i32 0)))), o 3 (.mv (ci 0))] [0])
 (.seq (.seq (.ops [o 4 (.mv (.t 0)), o 5 (.bin .neq (.t 4) (cs [])), o 6 (.mv (.t 5)), ⟨some 7, .mv (.t 0), some (6, true)⟩, ⟨some 8, .idxs (.t 7) (ci 0), some (6, true)⟩, ⟨some 9, .bin .lss (.t 8) (.c (.p (.int .u8 128))), some (6, true)⟩, o 10 (.pick (.t 6) (.t 9) (cb false))] [0, 10])
 (.cond (.t 10)
 (.seq (.ops [o 11 (.mv (.t 0)), o 12 (.idxs (.t 11) (ci 0)), o 13 (.conv (.int .i32) (.t 12)), o 2 (.mv (.t 13)), o 3 (.mv (ci 1))] [2, 3])
 (.ret))
 (.ops [o 15 (.mv (.t 0)), o 16 (.call true true 0 (.fn 208) [.t 15]), o 14 (.mv (.t 16)), o 17 (.ext (.t 14) 0), o 18 (.ext (.t 14) 1), o 2 (.mv (.t 17)), o 3 (.mv (.t 18))] [2, 3])))
 (.ret))⟩

/-- internal/stringslite.Index -/
def c202L0 : ACode :=
 .seq (.seq (.ops [o 57 (.mv (.t 8)), o 58 (.mv (.t 9)), o 59 (.bin .lss (.t 57) (.t 58))] [0, 1, 5, 6, 7, 8, 9, 10, 59])
 (.cond (.t 59)
 (.skip)
 (.exit 1)))
 (.block 2 (.seq (.seq (.ops [o 60 (.mv (.t 0)), o 61 (.mv (.t 8)), o 62 (.idxs (.t 60) (.t 61)), o 63 (.mv (.t 6)), o 64 (.bin .neq (.t 62) (.t 63))] [0, 1, 5, 6, 7, 8, 9, 10, 64])
 (.cond (.t 64)
 (.seq (.ops [o 65 (.mv (.t 0)), o 66 (.mv (.t 8)), o 67 (.bin .add (.t 66) (ci 1)), o 68 (.mv (.t 9)), o 69 (.slcs (.t 65) (some (.t 67)) (some (.t 68))), o 70 (.mv (.t 6)), o 71 (.call true true 0 (.fn 183) [.t 69, .t 70]), o 11 (.mv (.t 71))] [0, 1, 5, 6, 7, 8, 9, 10, 11])
 (.seq (.seq (.ops [o 72 (.mv (.t 11)), o 73 (.bin .lss (.t 72) (ci 0))] [0, 1, 5, 6, 7, 8, 9, 10, 11, 73])
 (.cond (.t 73)
 (.seq (.ops [o 4 (.mv (ci (-1)))] [4])
 (.ret))
 (.skip)))
 (.ops [o 74 (.mv (.t 8)), o 75 (.mv (.t 11)), o 76 (.bin .add (.t 75) (ci 1)), o 77 (.bin .add (.t 74) (.t 76)), o 8 (.mv (.t 77))] [0, 1, 5, 6, 7, 8, 9, 10])))
 (.skip)))
 (.seq (.seq (.ops [o 78 (.mv (.t 0)), o 79 (.mv (.t 8)), o 80 (.bin .add (.t 79) (ci 1)), o 81 (.idxs (.t 78) (.t 80)), o 82 (.mv (.t 7)), o 83 (.bin .eql (.t 81) (.t 82)), o 84 (.mv (.t 83)), ⟨some 85, .mv (.t 0), some (84, true)⟩, ⟨some 86, .mv (.t 8), some (84, true)⟩, ⟨some 87, .mv (.t 8), some (84, true)⟩, ⟨some 88, .mv (.t 5), some (84, true)⟩, ⟨some 89, .bin .add (.t 87) (.t 88), some (84, true)⟩, ⟨some 90, .slcs (.t 85) (some (.t 86)) (some (.t 89)), some (84, true)⟩, ⟨some 91, .mv (.t 1), some (84, true)⟩, ⟨some 92, .bin .eql (.t 90) (.t 91), some (84, true)⟩, o 93 (.pick (.t 84) (.t 92) (cb false))] [0, 1, 5, 6, 7, 8, 9, 10, 93])
 (.cond (.t 93)
 (.seq (.ops [o 94 (.mv (.t 8)), o 4 (.mv (.t 94))] [4])
 (.ret))
 (.skip)))
 (.seq (.ops [o 95 (.mv (.t 8)), o 96 (.bin .add (.t 95) (ci 1)), o 8 (.mv (.t 96))] [0, 1, 5, 6, 7, 8, 9, 10])
 (.seq (.ops [o 97 (.mv (.t 10)), o 98 (.bin .add (.t 97) (ci 1)), o 10 (.mv (.t 98))] [0, 1, 5, 6, 7, 8, 9, 10])
 (.seq (.ops [o 99 (.mv (.t 5)), o 100 (.ld false 1 (.g 2)), o 101 (.bin .leq (.t 99) (.t 100)), o 102 (.mv (.t 101)), ⟨some 103, .mv (.t 10), some (102, true)⟩, ⟨some 104, .mv (.t 8), some (102, true)⟩, ⟨some 105, .call true true 0 (.fn 210) [.t 104], some (102, true)⟩, ⟨some 106, .bin .gtr (.t 103) (.t 105), some (102, true)⟩, o 107 (.pick (.t 102) (.t 106) (cb false))] [0, 1, 5, 6, 7, 8, 9, 10, 107])
 (.cond (.t 107)
 (.seq (.ops [o 108 (.mv (.t 0)), o 109 (.mv (.t 8)), o 110 (.slcs (.t 108) (some (.t 109)) none), o 111 (.mv (.t 1)), o 112 (.call true true 0 (.fn 209) [.t 110, .t 111]), o 12 (.mv (.t 112))] [8, 12])
 (.seq (.seq (.ops [o 113 (.mv (.t 12)), o 114 (.bin .geq (.t 113) (ci 0))] [8, 12, 114])
 (.cond (.t 114)
 (.seq (.ops [o 115 (.mv (.t 12)), o 116 (.mv (.t 8)), o 117 (.bin .add (.t 115) (.t 116)), o 4 (.mv (.t 117))] [4])
 (.ret))
 (.skip)))
 (.seq (.ops [o 4 (.mv (ci (-1)))] [4])
 (.ret))))
 (.seq (.ops [o 118 (.mv (.t 5)), o 119 (.ld false 1 (.g 2)), o 120 (.bin .gtr (.t 118) (.t 119)), o 121 (.mv (.t 120)), ⟨some 122, .mv (.t 10), some (121, true)⟩, ⟨some 123, .mv (.t 8), some (121, true)⟩, ⟨some 124, .shift false (.t 123) (.c (.p (.int .u64 4))), some (121, true)⟩, ⟨some 125, .bin .add (ci 4) (.t 124), some (121, true)⟩, ⟨some 126, .bin .geq (.t 122) (.t 125), some (121, true)⟩, o 127 (.pick (.t 121) (.t 126) (cb false)), o 128 (.mv (.t 127)), ⟨some 129, .mv (.t 8), some (128, true)⟩, ⟨some 130, .mv (.t 9), some (128, true)⟩, ⟨some 131, .bin .lss (.t 129) (.t 130), some (128, true)⟩, o 132 (.pick (.t 128) (.t 131) (cb false))] [0, 1, 5, 6, 7, 8, 9, 10, 132])
 (.cond (.t 132)
 (.seq (.ops [o 133 (.mv (.t 0)), o 134 (.mv (.t 8)), o 135 (.slcs (.t 133) (some (.t 134)) none), o 136 (.mv (.t 1)), o 137 (.call true true 0 (.fn 211) [.t 135, .t 136]), o 13 (.mv (.t 137))] [8, 13])
 (.seq (.seq (.ops [o 138 (.mv (.t 13)), o 139 (.bin .lss (.t 138) (ci 0))] [8, 13, 139])
 (.cond (.t 139)
 (.seq (.ops [o 4 (.mv (ci (-1)))] [4])
 (.ret))
 (.skip)))
 (.seq (.ops [o 140 (.mv (.t 8)), o 141 (.mv (.t 13)), o 142 (.bin .add (.t 140) (.t 141)), o 4 (.mv (.t 142))] [4])
 (.ret))))
 (.skip))))))))))
def c202 : AFunc := ⟨143, [.tmp 4],
 .seq (.ops [o 4 (.mv (ci 0))] [0, 1])
 (.seq (.ops [o 14 (.mv (.t 1)), o 15 (.len 0 (.t 14)), o 5 (.mv (.t 15))] [0, 1, 5])
 (.seq (.block 0 (.seq (.ops [o 17 (.mv (.t 5)), o 18 (.bin .eql (.t 17) (ci 0)), o 19 (.mv (.t 18)), ⟨some 20, .mv (.t 1), some (19, false)⟩, ⟨some 21, .mv (.t 0), some (19, false)⟩, ⟨some 22, .bin .eql (.t 20) (.t 21), some (19, false)⟩, o 23 (.pick (.t 19) (cb true) (.t 22)), o 16 (.mv (.t 23))] [0, 1, 5, 16])
 (.cond (.t 16)
 (.seq (.ops [o 4 (.mv (ci 0))] [4])
 (.ret))
 (.seq (.ops [o 25 (.mv (.t 5)), o 26 (.bin .eql (.t 25) (ci 1)), o 24 (.mv (.t 26))] [0, 1, 5, 24])
 (.cond (.t 24)
 (.seq (.ops [o 27 (.mv (.t 0)), o 28 (.mv (.t 1)), o 29 (.idxs (.t 28) (ci 0)), o 30 (.call true true 0 (.fn 183) [.t 27, .t 29]), o 4 (.mv (.t 30))] [4])
 (.ret))
 (.seq (.ops [o 32 (.mv (.t 5)), o 33 (.mv (.t 0)), o 34 (.len 0 (.t 33)), o 35 (.bin .geq (.t 32) (.t 34)), o 31 (.mv (.t 35))] [0, 1, 5, 31])
 (.cond (.t 31)
 (.seq (.ops [o 4 (.mv (ci (-1)))] [4])
 (.ret))
 (.seq (.ops [o 37 (.mv (.t 5)), o 38 (.ld false 1 (.g 2)), o 39 (.bin .leq (.t 37) (.t 38)), o 40 (.mv (.t 39)), ⟨some 41, .mv (.t 0), some (40, true)⟩, ⟨some 42, .len 0 (.t 41), some (40, true)⟩, ⟨some 43, .bin .leq (.t 42) (ci 64), some (40, true)⟩, o 44 (.pick (.t 40) (.t 43) (cb false)), o 36 (.mv (.t 44))] [0, 1, 5, 36])
 (.cond (.t 36)
 (.seq (.ops [o 45 (.mv (.t 0)), o 46 (.mv (.t 1)), o 47 (.call true true 0 (.fn 209) [.t 45, .t 46]), o 4 (.mv (.t 47))] [4])
 (.ret))
 (.skip))))))))))
 (.seq (.ops [o 48 (.mv (.t 1)), o 49 (.idxs (.t 48) (ci 0)), o 6 (.mv (.t 49))] [0, 1, 5, 6])
 (.seq (.ops [o 50 (.mv (.t 1)), o 51 (.idxs (.t 50) (ci 1)), o 7 (.mv (.t 51))] [0, 1, 5, 6, 7])
 (.seq (.ops [o 8 (.mv (ci 0))] [0, 1, 5, 6, 7, 8])
 (.seq (.ops [o 52 (.mv (.t 0)), o 53 (.len 0 (.t 52)), o 54 (.mv (.t 5)), o 55 (.bin .sub (.t 53) (.t 54)), o 56 (.bin .add (.t 55) (ci 1)), o 9 (.mv (.t 56))] [0, 1, 5, 6, 7, 8, 9])
 (.seq (.ops [o 10 (.mv (ci 0))] [0, 1, 5, 6, 7, 8, 9, 10])
 (.seq (.block 1 (.loop false [0, 1, 5, 6, 7, 8, 9, 10] c202L0))
 (.seq (.ops [o 4 (.mv (ci (-1)))] [4])
 (.ret))))))))))⟩

/-- unicode/utf8.decodeRuneInStringSlow -/
def c208 : AFunc := ⟨117, [.tmp 2, .tmp 3],
 .seq (.ops [o 2 (.mv (.c (.p (.int .i32 0)))), o 3 (.mv (ci 0))] [0])
 (.seq (.ops [o 13 (.mv (.t 0)), o 14 (.len 0 (.t 13)), o 4 (.mv (.t 14))] [0, 4])
 (.seq (.seq (.ops [o 15 (.mv (.t 4)), o 16 (.bin .lss (.t 15) (ci 1))] [0, 4, 16])
 (.cond (.t 16)
 (.seq (.ops [o 2 (.mv (.c (.p (.int .i32 65533)))), o 3 (.mv (ci 0))] [2, 3])
 (.ret))
 (.skip)))
 (.seq (.ops [o 17 (.mv (.t 0)), o 18 (.idxs (.t 17) (ci 0)), o 5 (.mv (.t 18))] [0, 4, 5])
 (.seq (.ops [o 19 (.mv (.t 5)), o 20 (.iadra 1 256 (.g 4) (.t 19)), o 21 (.ld false 1 (.t 20)), o 6 (.mv (.t 21))] [0, 4, 5, 6])
 (.seq (.seq (.ops [o 22 (.mv (.t 6)), o 23 (.bin .geq (.t 22) (.c (.p (.int .u8 240))))] [0, 4, 5, 6, 23])
 (.cond (.t 23)
 (.seq (.ops [o 24 (.mv (.t 6)), o 25 (.conv (.int .i32) (.t 24)), o 26 (.shift true (.t 25) (.c (.p (.int .u64 31)))), o 27 (.shift false (.t 26) (.c (.p (.int .u64 31)))), o 7 (.mv (.t 27))] [0, 7])
 (.seq (.ops [o 28 (.mv (.t 0)), o 29 (.idxs (.t 28) (ci 0)), o 30 (.conv (.int .i32) (.t 29)), o 31 (.mv (.t 7)), o 32 (.bin .andNot (.t 30) (.t 31)), o 33 (.mv (.t 7)), o 34 (.bin .and (.c (.p (.int .i32 65533))) (.t 33)), o 35 (.bin .or (.t 32) (.t 34)), o 2 (.mv (.t 35)), o 3 (.mv (ci 1))] [2, 3])
 (.ret)))
 (.skip)))
 (.seq (.ops [o 36 (.mv (.t 6)), o 37 (.bin .and (.t 36) (.c (.p (.int .u8 7)))), o 38 (.conv (.int .i64) (.t 37)), o 8 (.mv (.t 38))] [0, 4, 5, 6, 8])
 (.seq (.ops [o 39 (.mv (.t 6)), o 40 (.shift false (.t 39) (.c (.p (.int .u64 4)))), o 41 (.iadra 2 16 (.g 5) (.t 40)), o 42 (.ld true 2 (.t 41)), o 9 (.alloc true 1 [.p (.int .u8 0), .p (.int .u8 0)]), u (.st 2 (.t 9) (.t 42))] [0, 4, 5, 8, 9])
 (.seq (.seq (.ops [o 43 (.mv (.t 4)), o 44 (.mv (.t 8)), o 45 (.bin .lss (.t 43) (.t 44))] [0, 5, 8, 9, 45])
 (.cond (.t 45)
 (.seq (.ops [o 2 (.mv (.c (.p (.int .i32 65533)))), o 3 (.mv (ci 1))] [2, 3])
 (.ret))
 (.skip)))
 (.seq (.ops [o 46 (.mv (.t 0)), o 47 (.idxs (.t 46) (ci 1)), o 10 (.mv (.t 47))] [0, 5, 8, 9, 10])
 (.seq (.seq (.ops [o 48 (.mv (.t 10)), o 49 (.fadr 0 (.t 9)), o 50 (.ld false 1 (.t 49)), o 51 (.bin .lss (.t 48) (.t 50)), o 52 (.mv (.t 51)), ⟨some 53, .fadr 1 (.t 9), some (52, false)⟩, ⟨some 54, .ld false 1 (.t 53), some (52, false)⟩, ⟨some 55, .mv (.t 10), some (52, false)⟩, ⟨some 56, .bin .lss (.t 54) (.t 55), some (52, false)⟩, o 57 (.pick (.t 52) (cb true) (.t 56))] [0, 5, 8, 10, 57])
 (.cond (.t 57)
 (.seq (.ops [o 2 (.mv (.c (.p (.int .i32 65533)))), o 3 (.mv (ci 1))] [2, 3])
 (.ret))
 (.skip)))
 (.seq (.seq (.ops [o 58 (.mv (.t 8)), o 59 (.bin .leq (.t 58) (ci 2))] [0, 5, 8, 10, 59])
 (.cond (.t 59)
 (.seq (.ops [o 60 (.mv (.t 5)), o 61 (.bin .and (.t 60) (.c (.p (.int .u8 31)))), o 62 (.conv (.int .i32) (.t 61)), o 63 (.shift true (.t 62) (.c (.p (.int .u64 6)))), o 64 (.mv (.t 10)), o 65 (.bin .and (.t 64) (.c (.p (.int .u8 63)))), o 66 (.conv (.int .i32) (.t 65)), o 67 (.bin .or (.t 63) (.t 66)), o 2 (.mv (.t 67)), o 3 (.mv (ci 2))] [2, 3])
 (.ret))
 (.skip)))
 (.seq (.ops [o 68 (.mv (.t 0)), o 69 (.idxs (.t 68) (ci 2)), o 11 (.mv (.t 69))] [0, 5, 8, 10, 11])
 (.seq (.seq (.ops [o 70 (.mv (.t 11)), o 71 (.bin .lss (.t 70) (.c (.p (.int .u8 128)))), o 72 (.mv (.t 71)), ⟨some 73, .mv (.t 11), some (72, false)⟩, ⟨some 74, .bin .lss (.c (.p (.int .u8 191))) (.t 73), some (72, false)⟩, o 75 (.pick (.t 72) (cb true) (.t 74))] [0, 5, 8, 10, 11, 75])
 (.cond (.t 75)
 (.seq (.ops [o 2 (.mv (.c (.p (.int .i32 65533)))), o 3 (.mv (ci 1))] [2, 3])
 (.ret))
 (.skip)))
 (.seq (.seq (.ops [o 76 (.mv (.t 8)), o 77 (.bin .leq (.t 76) (ci 3))] [0, 5, 10, 11, 77])
 (.cond (.t 77)
 (.seq (.ops [o 78 (.mv (.t 5)), o 79 (.bin .and (.t 78) (.c (.p (.int .u8 15)))), o 80 (.conv (.int .i32) (.t 79)), o 81 (.shift true (.t 80) (.c (.p (.int .u64 12)))), o 82 (.mv (.t 10)), o 83 (.bin .and (.t 82) (.c (.p (.int .u8 63)))), o 84 (.conv (.int .i32) (.t 83)), o 85 (.shift true (.t 84) (.c (.p (.int .u64 6)))), o 86 (.bin .or (.t 81) (.t 85)), o 87 (.mv (.t 11)), o 88 (.bin .and (.t 87) (.c (.p (.int .u8 63)))), o 89 (.conv (.int .i32) (.t 88)), o 90 (.bin .or (.t 86) (.t 89)), o 2 (.mv (.t 90)), o 3 (.mv (ci 3))] [2, 3])
 (.ret))
 (.skip)))
 (.seq (.ops [o 91 (.mv (.t 0)), o 92 (.idxs (.t 91) (ci 3)), o 12 (.mv (.t 92))] [5, 10, 11, 12])
 (.seq (.seq (.ops [o 93 (.mv (.t 12)), o 94 (.bin .lss (.t 93) (.c (.p (.int .u8 128)))), o 95 (.mv (.t 94)), ⟨some 96, .mv (.t 12), some (95, false)⟩, ⟨some 97, .bin .lss (.c (.p (.int .u8 191))) (.t 96), some (95, false)⟩, o 98 (.pick (.t 95) (cb true) (.t 97))] [5, 10, 11, 12, 98])
 (.cond (.t 98)
 (.seq (.ops [o 2 (.mv (.c (.p (.int .i32 65533)))), o 3 (.mv (ci 1))] [2, 3])
 (.ret))
 (.skip)))
 (.seq (.ops [o 99 (.mv (.t 5)), o 100 (.bin .and (.t 99) (.c (.p (.int .u8 7)))), o 101 (.conv (.int .i32) (.t 100)), o 102 (.shift true (.t 101) (.c (.p (.int .u64 18)))), o 103 (.mv (.t 10)), o 104 (.bin .and (.t 103) (.c (.p (.int .u8 63)))), o 105 (.conv (.int .i32) (.t 104)), o 106 (.shift true (.t 105) (.c (.p (.int .u64 12)))), o 107 (.bin .or (.t 102) (.t 106)), o 108 (.mv (.t 11)), o 109 (.bin .and (.t 108) (.c (.p (.int .u8 63)))), o 110 (.conv (.int .i32) (.t 109)), o 111 (.shift true (.t 110) (.c (.p (.int .u64 6)))), o 112 (.bin .or (.t 107) (.t 111)), o 113 (.mv (.t 12)), o 114 (.bin .and (.t 113) (.c (.p (.int .u8 63)))), o 115 (.conv (.int .i32) (.t 114)), o 116 (.bin .or (.t 112) (.t 115)), o 2 (.mv (.t 116)), o 3 (.mv (ci 4))] [2, 3])
 (.ret))))))))))))))))))⟩

/-- internal/bytealg.Cutover -/
def c210 : AFunc := ⟨6, [.tmp 2],
 .seq (.ops [o 2 (.mv (ci 0))] [0])
 (.seq (.ops [o 3 (.mv (.t 0)), o 4 (.bin .add (.t 3) (ci 16)), o 5 (.bin .quo (.t 4) (ci 8)), o 2 (.mv (.t 5))] [2])
 (.ret))⟩

/-- internal/bytealg.IndexRabinKarp[string] -/
def c211L0 : ACode :=
 .seq (.seq (.ops [o 18 (.mv (.t 9)), o 19 (.mv (.t 7)), o 20 (.bin .lss (.t 18) (.t 19))] [0, 1, 5, 6, 7, 8, 9, 20])
 (.cond (.t 20)
 (.skip)
 (.exit 0)))
 (.seq (.block 1 (.ops [o 23 (.mv (.t 8)), o 24 (.bin .mul (.t 23) (.c (.p (.int .u32 16777619)))), o 25 (.mv (.t 0)), o 26 (.mv (.t 9)), o 27 (.idxs (.t 25) (.t 26)), o 28 (.conv (.int .u32) (.t 27)), o 29 (.bin .add (.t 24) (.t 28)), o 8 (.mv (.t 29))] [0, 1, 5, 6, 7, 8, 9]))
 (.ops [o 21 (.mv (.t 9)), o 22 (.bin .add (.t 21) (ci 1)), o 9 (.mv (.t 22))] [0, 1, 5, 6, 7, 8, 9]))
def c211L1 : ACode :=
 .seq (.seq (.ops [o 41 (.mv (.t 10)), o 42 (.mv (.t 0)), o 43 (.len 0 (.t 42)), o 44 (.bin .lss (.t 41) (.t 43))] [0, 1, 5, 6, 7, 8, 10, 44])
 (.cond (.t 44)
 (.skip)
 (.exit 2)))
 (.block 3 (.seq (.ops [o 45 (.mv (.t 8)), o 46 (.bin .mul (.t 45) (.c (.p (.int .u32 16777619)))), o 8 (.mv (.t 46))] [0, 1, 5, 6, 7, 8, 10])
 (.seq (.ops [o 47 (.mv (.t 8)), o 48 (.mv (.t 0)), o 49 (.mv (.t 10)), o 50 (.idxs (.t 48) (.t 49)), o 51 (.conv (.int .u32) (.t 50)), o 52 (.bin .add (.t 47) (.t 51)), o 8 (.mv (.t 52))] [0, 1, 5, 6, 7, 8, 10])
 (.seq (.ops [o 53 (.mv (.t 8)), o 54 (.mv (.t 6)), o 55 (.mv (.t 0)), o 56 (.mv (.t 10)), o 57 (.mv (.t 7)), o 58 (.bin .sub (.t 56) (.t 57)), o 59 (.idxs (.t 55) (.t 58)), o 60 (.conv (.int .u32) (.t 59)), o 61 (.bin .mul (.t 54) (.t 60)), o 62 (.bin .sub (.t 53) (.t 61)), o 8 (.mv (.t 62))] [0, 1, 5, 6, 7, 8, 10])
 (.seq (.ops [o 63 (.mv (.t 10)), o 64 (.bin .add (.t 63) (ci 1)), o 10 (.mv (.t 64))] [0, 1, 5, 6, 7, 8, 10])
 (.seq (.ops [o 65 (.mv (.t 8)), o 66 (.mv (.t 5)), o 67 (.bin .eql (.t 65) (.t 66)), o 68 (.mv (.t 67)), ⟨some 69, .mv (.t 0), some (68, true)⟩, ⟨some 70, .mv (.t 10), some (68, true)⟩, ⟨some 71, .mv (.t 7), some (68, true)⟩, ⟨some 72, .bin .sub (.t 70) (.t 71), some (68, true)⟩, ⟨some 73, .mv (.t 10), some (68, true)⟩, ⟨some 74, .slcs (.t 69) (some (.t 72)) (some (.t 73)), some (68, true)⟩, ⟨some 75, .mv (.t 1), some (68, true)⟩, ⟨some 76, .bin .eql (.t 74) (.t 75), some (68, true)⟩, o 77 (.pick (.t 68) (.t 76) (cb false))] [0, 1, 5, 6, 7, 8, 10, 77])
 (.cond (.t 77)
 (.seq (.ops [o 78 (.mv (.t 10)), o 79 (.mv (.t 7)), o 80 (.bin .sub (.t 78) (.t 79)), o 4 (.mv (.t 80))] [4])
 (.ret))
 (.skip))))))))
def c211 : AFunc := ⟨81, [.tmp 4],
 .seq (.ops [o 4 (.mv (ci 0))] [0, 1])
 (.seq (.ops [o 12 (.mv (.t 1)), o 13 (.call true true 0 (.fn 214) [.t 12]), o 11 (.mv (.t 13)), o 14 (.ext (.t 11) 0), o 15 (.ext (.t 11) 1), o 5 (.mv (.t 14)), o 6 (.mv (.t 15))] [0, 1, 5, 6])
 (.seq (.ops [o 16 (.mv (.t 1)), o 17 (.len 0 (.t 16)), o 7 (.mv (.t 17))] [0, 1, 5, 6, 7])
 (.seq (.ops [o 8 (.mv (.c (.p (.int .u32 0))))] [0, 1, 5, 6, 7, 8])
 (.seq (.seq (.ops [o 9 (.mv (ci 0))] [0, 1, 5, 6, 7, 8, 9])
 (.block 0 (.loop false [0, 1, 5, 6, 7, 8, 9] c211L0)))
 (.seq (.seq (.ops [o 30 (.mv (.t 8)), o 31 (.mv (.t 5)), o 32 (.bin .eql (.t 30) (.t 31)), o 33 (.mv (.t 32)), ⟨some 34, .mv (.t 0), some (33, true)⟩, ⟨some 35, .mv (.t 7), some (33, true)⟩, ⟨some 36, .slcs (.t 34) none (some (.t 35)), some (33, true)⟩, ⟨some 37, .mv (.t 1), some (33, true)⟩, ⟨some 38, .bin .eql (.t 36) (.t 37), some (33, true)⟩, o 39 (.pick (.t 33) (.t 38) (cb false))] [0, 1, 5, 6, 7, 8, 39])
 (.cond (.t 39)
 (.seq (.ops [o 4 (.mv (ci 0))] [4])
 (.ret))
 (.skip)))
 (.seq (.seq (.ops [o 40 (.mv (.t 7)), o 10 (.mv (.t 40))] [0, 1, 5, 6, 7, 8, 10])
 (.block 2 (.loop false [0, 1, 5, 6, 7, 8, 10] c211L1)))
 (.seq (.ops [o 4 (.mv (ci (-1)))] [4])
 (.ret))))))))⟩

/-- internal/bytealg.hashStr[string] -/
def c214L0 : ACode :=
 .seq (.seq (.ops [o 9 (.mv (.t 5)), o 10 (.mv (.t 0)), o 11 (.len 0 (.t 10)), o 12 (.bin .lss (.t 9) (.t 11))] [0, 4, 5, 12])
 (.cond (.t 12)
 (.skip)
 (.exit 0)))
 (.seq (.block 1 (.ops [o 15 (.mv (.t 4)), o 16 (.bin .mul (.t 15) (.c (.p (.int .u32 16777619)))), o 17 (.mv (.t 0)), o 18 (.mv (.t 5)), o 19 (.idxs (.t 17) (.t 18)), o 20 (.conv (.int .u32) (.t 19)), o 21 (.bin .add (.t 16) (.t 20)), o 4 (.mv (.t 21))] [0, 4, 5]))
 (.ops [o 13 (.mv (.t 5)), o 14 (.bin .add (.t 13) (ci 1)), o 5 (.mv (.t 14))] [0, 4, 5]))
def c214L1 : ACode :=
 .seq (.seq (.ops [o 24 (.mv (.t 8)), o 25 (.bin .gtr (.t 24) (ci 0))] [4, 6, 7, 8, 25])
 (.cond (.t 25)
 (.skip)
 (.exit 2)))
 (.seq (.block 3 (.seq (.seq (.ops [o 28 (.mv (.t 8)), o 29 (.bin .and (.t 28) (ci 1)), o 30 (.bin .neq (.t 29) (ci 0))] [4, 6, 7, 8, 30])
 (.cond (.t 30)
 (.ops [o 31 (.mv (.t 6)), o 32 (.mv (.t 7)), o 33 (.bin .mul (.t 31) (.t 32)), o 6 (.mv (.t 33))] [4, 6, 7, 8])
 (.skip)))
 (.ops [o 34 (.mv (.t 7)), o 35 (.mv (.t 7)), o 36 (.bin .mul (.t 34) (.t 35)), o 7 (.mv (.t 36))] [4, 6, 7, 8])))
 (.ops [o 26 (.mv (.t 8)), o 27 (.shift false (.t 26) (.c (.p (.int .u64 1)))), o 8 (.mv (.t 27))] [4, 6, 7, 8]))
def c214 : AFunc := ⟨39, [.tmp 2, .tmp 3],
 .seq (.ops [o 2 (.mv (.c (.p (.int .u32 0)))), o 3 (.mv (.c (.p (.int .u32 0))))] [0])
 (.seq (.ops [o 4 (.mv (.c (.p (.int .u32 0))))] [0, 4])
 (.seq (.seq (.ops [o 5 (.mv (ci 0))] [0, 4, 5])
 (.block 0 (.loop false [0, 4, 5] c214L0)))
 (.seq (.ops [o 6 (.mv (.c (.p (.int .u32 1)))), o 7 (.mv (.c (.p (.int .u32 16777619))))] [0, 4, 6, 7])
 (.seq (.seq (.ops [o 22 (.mv (.t 0)), o 23 (.len 0 (.t 22)), o 8 (.mv (.t 23))] [4, 6, 7, 8])
 (.block 2 (.loop false [4, 6, 7, 8] c214L1)))
 (.seq (.ops [o 37 (.mv (.t 4)), o 38 (.mv (.t 6)), o 2 (.mv (.t 37)), o 3 (.mv (.t 38))] [2, 3])
 (.ret))))))⟩

/-- crumple/barrier.axes$1 -/
def c232 : AFunc := ⟨5, [.tmp 2],
 .seq (.ops [o 1 (.box true (.t 0)), o 2 (.mv (ci 0))] [1])
 (.seq (.ops [o 3 (.fadr 0 (.t 1)), o 4 (.ld false 1 (.t 3)), o 2 (.mv (.t 4))] [2])
 (.ret))⟩

/-- crumple/barrier.axes$2 -/
def c233 : AFunc := ⟨5, [.tmp 2],
 .seq (.ops [o 1 (.box true (.t 0)), o 2 (.mv (ci 0))] [1])
 (.seq (.ops [o 3 (.fadr 1 (.t 1)), o 4 (.ld false 1 (.t 3)), o 2 (.mv (.t 4))] [2])
 (.ret))⟩


def FT : Tr := (.node 98 c98 (.node 51 c51 (.node 28 c28 (.node 16 c16 (.node 8 c8 (.node 5 c5 (.node 4 c4 (.node 3 c3 .leaf .leaf) .leaf) (.node 7 c7 (.node 6 c6 .leaf .leaf) .leaf)) (.node 13 c13 (.node 10 c10 (.node 9 c9 .leaf .leaf) .leaf) (.node 15 c15 (.node 14 c14 .leaf .leaf) .leaf))) (.node 22 c22 (.node 19 c19 (.node 18 c18 (.node 17 c17 .leaf .leaf) .leaf) (.node 21 c21 (.node 20 c20 .leaf .leaf) .leaf)) (.node 25 c25 (.node 24 c24 (.node 23 c23 .leaf .leaf) .leaf) (.node 27 c27 (.node 26 c26 .leaf .leaf) .leaf)))) (.node 40 c40 (.node 34 c34 (.node 31 c31 (.node 30 c30 (.node 29 c29 .leaf .leaf) .leaf) (.node 33 c33 (.node 32 c32 .leaf .leaf) .leaf)) (.node 37 c37 (.node 36 c36 (.node 35 c35 .leaf .leaf) .leaf) (.node 39 c39 (.node 38 c38 .leaf .leaf) .leaf))) (.node 46 c46 (.node 43 c43 (.node 42 c42 (.node 41 c41 .leaf .leaf) .leaf) (.node 45 c45 (.node 44 c44 .leaf .leaf) .leaf)) (.node 49 c49 (.node 48 c48 (.node 47 c47 .leaf .leaf) .leaf) (.node 50 c50 .leaf .leaf))))) (.node 74 c74 (.node 63 c63 (.node 57 c57 (.node 54 c54 (.node 53 c53 (.node 52 c52 .leaf .leaf) .leaf) (.node 56 c56 (.node 55 c55 .leaf .leaf) .leaf)) (.node 60 c60 (.node 59 c59 (.node 58 c58 .leaf .leaf) .leaf) (.node 62 c62 (.node 61 c61 .leaf .leaf) .leaf))) (.node 69 c69 (.node 66 c66 (.node 65 c65 (.node 64 c64 .leaf .leaf) .leaf) (.node 68 c68 (.node 67 c67 .leaf .leaf) .leaf)) (.node 72 c72 (.node 71 c71 (.node 70 c70 .leaf .leaf) .leaf) (.node 73 c73 .leaf .leaf)))) (.node 86 c86 (.node 80 c80 (.node 77 c77 (.node 76 c76 (.node 75 c75 .leaf .leaf) .leaf) (.node 79 c79 (.node 78 c78 .leaf .leaf) .leaf)) (.node 83 c83 (.node 82 c82 (.node 81 c81 .leaf .leaf) .leaf) (.node 85 c85 (.node 84 c84 .leaf .leaf) .leaf))) (.node 93 c93 (.node 89 c89 (.node 88 c88 (.node 87 c87 .leaf .leaf) .leaf) (.node 92 c92 (.node 90 c90 .leaf .leaf) .leaf)) (.node 96 c96 (.node 95 c95 (.node 94 c94 .leaf .leaf) .leaf) (.node 97 c97 .leaf .leaf)))))) (.node 146 c146 (.node 122 c122 (.node 110 c110 (.node 104 c104 (.node 101 c101 (.node 100 c100 (.node 99 c99 .leaf .leaf) .leaf) (.node 103 c103 (.node 102 c102 .leaf .leaf) .leaf)) (.node 107 c107 (.node 106 c106 (.node 105 c105 .leaf .leaf) .leaf) (.node 109 c109 (.node 108 c108 .leaf .leaf) .leaf))) (.node 116 c116 (.node 113 c113 (.node 112 c112 (.node 111 c111 .leaf .leaf) .leaf) (.node 115 c115 (.node 114 c114 .leaf .leaf) .leaf)) (.node 119 c119 (.node 118 c118 (.node 117 c117 .leaf .leaf) .leaf) (.node 121 c121 (.node 120 c120 .leaf .leaf) .leaf)))) (.node 134 c134 (.node 128 c128 (.node 125 c125 (.node 124 c124 (.node 123 c123 .leaf .leaf) .leaf) (.node 127 c127 (.node 126 c126 .leaf .leaf) .leaf)) (.node 131 c131 (.node 130 c130 (.node 129 c129 .leaf .leaf) .leaf) (.node 133 c133 (.node 132 c132 .leaf .leaf) .leaf))) (.node 140 c140 (.node 137 c137 (.node 136 c136 (.node 135 c135 .leaf .leaf) .leaf) (.node 139 c139 (.node 138 c138 .leaf .leaf) .leaf)) (.node 143 c143 (.node 142 c142 (.node 141 c141 .leaf .leaf) .leaf) (.node 144 c144 .leaf .leaf))))) (.node 173 c173 (.node 158 c158 (.node 152 c152 (.node 149 c149 (.node 148 c148 (.node 147 c147 .leaf .leaf) .leaf) (.node 151 c151 (.node 150 c150 .leaf .leaf) .leaf)) (.node 155 c155 (.node 154 c154 (.node 153 c153 .leaf .leaf) .leaf) (.node 157 c157 (.node 156 c156 .leaf .leaf) .leaf))) (.node 164 c164 (.node 161 c161 (.node 160 c160 (.node 159 c159 .leaf .leaf) .leaf) (.node 163 c163 (.node 162 c162 .leaf .leaf) .leaf)) (.node 167 c167 (.node 166 c166 (.node 165 c165 .leaf .leaf) .leaf) (.node 172 c172 .leaf .leaf)))) (.node 193 c193 (.node 183 c183 (.node 176 c176 (.node 175 c175 (.node 174 c174 .leaf .leaf) .leaf) (.node 179 c179 (.node 178 c178 .leaf .leaf) .leaf)) (.node 186 c186 (.node 185 c185 (.node 184 c184 .leaf .leaf) .leaf) (.node 192 c192 (.node 191 c191 .leaf .leaf) .leaf))) (.node 210 c210 (.node 200 c200 (.node 199 c199 (.node 194 c194 .leaf .leaf) .leaf) (.node 208 c208 (.node 202 c202 .leaf .leaf) .leaf)) (.node 232 c232 (.node 214 c214 (.node 211 c211 .leaf .leaf) .leaf) (.node 233 c233 .leaf .leaf)))))))
def F (n : Nat) : Option AFunc := FT.find n
end Fw
