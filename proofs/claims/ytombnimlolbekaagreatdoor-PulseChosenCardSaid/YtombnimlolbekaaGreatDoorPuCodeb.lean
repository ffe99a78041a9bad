/- The functions of the program, written for the evaluator, second part: definitions alone. -/
import Derived.Test.YtombnimlolbekaaGreatDoorPuCode
namespace Fw
open Go
def c81 : AFunc := ⟨5, [.tmp 2],
 .seq (.ops [o 1 (.box true (.t 0)), o 2 (.mv (ci 0))] [1])
 (.seq (.ops [o 3 (.ld true 2 (.t 1)), o 4 (.call true true 0 (.fn 102) [.t 3, ci 0, ci 10000000]), mt 2 4] [2])
 (.ret))⟩

def c83L0 : ACode :=
 .seq (.seq (.ops [mt 7 5, mt 8 1, o 9 (.len 1 (.t 8)), o 10 (.bin .lss (.t 7) (.t 9))] [0, 1, 5, 10])
 (.cond (.t 10)
 (.skip)
 (.exit 0)))
 (.seq (.block 1 (.seq (.ops [mt 13 1, mt 14 5, o 15 (.iadr 1 (.t 13) (.t 14)), o 16 (.ld false 1 (.t 15)), o 17 (.bin .lss (.t 16) (ci 0)), mt 18 17, ⟨some 19, .mv (.t 1), some (18, false)⟩, ⟨some 20, .mv (.t 5), some (18, false)⟩, ⟨some 21, .iadr 1 (.t 19) (.t 20), some (18, false)⟩, ⟨some 22, .ld false 1 (.t 21), some (18, false)⟩, ⟨some 23, .mv (.t 0), some (18, false)⟩, ⟨some 24, .len 1 (.t 23), some (18, false)⟩, ⟨some 25, .bin .geq (.t 22) (.t 24), some (18, false)⟩, o 26 (.pick (.t 18) (cb true) (.t 25))] [0, 1, 5, 26])
 (.cond (.t 26)
 (.seq (.ops [o 4 (.mv (ci 10))] [4])
 (.ret))
 (.skip))))
 (.ops [mt 11 5, o 12 (.bin .add (.t 11) (ci 1)), mt 5 12] [0, 1, 5]))
def c83L1 : ACode :=
 .seq (.seq (.ops [mt 27 6, mt 28 1, o 29 (.len 1 (.t 28)), o 30 (.bin .lss (.t 27) (.t 29))] [1, 6, 30])
 (.cond (.t 30)
 (.skip)
 (.exit 2)))
 (.seq (.block 3 (.seq (.opsd [(0, 1), (1, 1), (2, 1), (3, 1), (4, 1), (5, 1), (6, 1), (7, 1), (8, 1), (9, 1)] [mt 33 1, mt 34 6, o 35 (.iadr 1 (.t 33) (.t 34)), o 36 (.ld false 1 (.t 35)), mt 37 1, mt 38 6, o 39 (.bin .sub (.t 38) (ci 1)), o 40 (.iadr 1 (.t 37) (.t 39)), o 41 (.ld false 1 (.t 40)), o 42 (.bin .leq (.t 36) (.t 41))] [1, 6, 42])
 (.cond (.t 42)
 (.seq (.ops [o 4 (.mv (ci 11))] [4])
 (.ret))
 (.skip))))
 (.ops [mt 31 6, o 32 (.bin .add (.t 31) (ci 1)), mt 6 32] [1, 6]))
def c83 : AFunc := ⟨43, [.tmp 4],
 .seq (.ops [o 4 (.mv (ci 0))] [0, 1])
 (.seq (.seq (.ops [o 5 (.mv (ci 0))] [0, 1, 5])
 (.block 0 (.loop false [0, 1, 5] c83L0)))
 (.seq (.seq (.ops [o 6 (.mv (ci 1))] [1, 6])
 (.block 2 (.loop false [1, 6] c83L1)))
 (.seq (.ops [o 4 (.mv (ci 0))] [4])
 (.ret))))⟩

def c87L0 : ACode :=
 .seq (.ops [o 14 (.bin .lss (.t 13) (.t 12))] [3, 11, 12, 13, 14])
 (.seq (.cond (.t 14)
 (.skip)
 (.exit 0))
 (.seq (.block 1 (.seq (.ops [o 15 (.iadr 4 (.t 11) (.t 13)), o 16 (.ld true 4 (.t 15)), o 5 (.alloc true 1 zl0), u (.st 4 (.t 5) (.t 16))] [3, 5, 11, 12, 13])
 (.seq (.seq (.opsd [(0, 1), (1, 1), (2, 1), (3, 1), (4, 1), (5, 1), (6, 1), (7, 1), (8, 1), (9, 1), (10, 1), (11, 1), (12, 1), (13, 1), (14, 1), (15, 1), (16, 1), (17, 1), (18, 0), (19, 0), (20, 0), (21, 1)] [o 17 (.fadr 0 (.t 5)), o 18 (.ld false 1 (.t 17)), o 19 (.call true true 0 (.fn 149) [.t 18]), o 20 (.not (.t 19)), o 21 (.call true true 0 (.fn 107) [.t 20, ci 8]), mt 22 3, o 23 (.fadr 0 (.t 5)), o 24 (.ld false 1 (.t 23)), o 25 (.lkup 1 (.p (.bool false)) (.t 22) (.t 24) false), o 26 (.call true true 0 (.fn 107) [.t 25, ci 9]), o 27 (.fadr 1 (.t 5)), o 28 (.ld false 1 (.t 27)), o 29 (.call true true 0 (.fn 95) [.t 28, ci 0, ci 10000]), o 30 (.fadr 2 (.t 5)), o 31 (.ld false 1 (.t 30)), o 32 (.call true true 0 (.fn 95) [.t 31, ci 1, ci 64]), o 33 (.fadr 3 (.t 5)), o 34 (.ld false 1 (.t 33)), o 35 (.call true true 0 (.fn 95) [.t 34, ci 0, ci 1000000]), o 36 (.bslice false 1 zl5 5 [(0, .t 21), (1, .t 26), (2, .t 29), (3, .t 32), (4, .t 35)]), o 37 (.call true true 0 (.fn 92) [.t 36]), mt 6 37] [3, 5, 6, 11, 12, 13])
 (.seq (.ops [mt 38 6, o 39 (.bin .neq (.t 38) (ci 0))] [3, 5, 6, 11, 12, 13, 39])
 (.cond (.t 39)
 (.seq (.ops [mt 40 6, mt 2 40] [2])
 (.ret))
 (.skip))))
 (.ops [mt 41 3, o 42 (.fadr 0 (.t 5)), o 43 (.ld false 1 (.t 42)), u (.mupd 1 (.t 41) (.t 43) (cb true))] [3, 11, 12, 13]))))
 (.ops [o 44 (.bin .add (.t 13) (ci 1)), mt 13 44] [3, 11, 12, 13])))
def c87 : AFunc := ⟨45, [.tmp 2],
 .seq (.ops [o 2 (.mv (ci 0))] [0])
 (.seq (.seq (.ops [mt 7 0, o 8 (.len 1 (.t 7)), o 9 (.bin .gtr (.t 8) (ci 8))] [0, 9])
 (.cond (.t 9)
 (.seq (.ops [o 2 (.mv (ci 5))] [2])
 (.ret))
 (.skip)))
 (.seq (.ops [o 10 (.mkmap), mt 3 10] [0, 3])
 (.seq (.seq (.ops [mt 11 0, o 12 (.len 1 (.t 11)), o 13 (.mv (ci 0))] [3, 11, 12, 13])
 (.block 0 (.loop true [3, 11, 12, 13] c87L0)))
 (.seq (.ops [o 2 (.mv (ci 0))] [2])
 (.ret)))))⟩

def c88 : AFunc := ⟨3, [.cell 0 true 5],
 .seq (.ops [o 0 (.alloc true 1 [.p (.int .i64 0), .p (.int .i64 0), .p (.int .i64 0), .p (.int .i64 0), .p (.int .i64 0)])] [0])
 (.seq (.ops [o 1 (.call true true 0 (.fn 73) [ci 100, ci 200]), o 2 (.build [.p (.int .i64 0), .p (.int .i64 0), .p (.int .i64 0), .p (.int .i64 0), .p (.int .i64 0)] [(0, 2, .t 1), (2, 1, ci 2), (3, 1, ci 1), (4, 1, ci 60)]), u (.st 5 (.t 0) (.t 2))] [0])
 (.ret))⟩

def c89 : AFunc := ⟨10, [.tmp 4],
 .seq (.ops [o 4 (.mv (cn))] [0, 1])
 (.seq (.ops [mt 5 0, o 6 (.build zl3 [(1, 1, .t 5)]), mt 7 1, o 8 (.build zl3 [(0, 1, ci 3), (1, 1, .t 7)]), o 9 (.bslice false 2 zl3 2 [(0, .t 6), (1, .t 8)]), mt 4 9] [4])
 (.ret))⟩

def c90 : AFunc := ⟨6, [.tmp 0],
 .seq (.ops [o 0 (.mv (cn))] [])
 (.seq (.ops [o 1 (.call true true 0 (.fn 73) [ci 20, ci 40]), o 2 (.call true true 0 (.fn 73) [ci 20, ci 40]), o 3 (.call true true 0 (.fn 73) [ci 20, ci 40]), o 4 (.call true true 0 (.fn 73) [ci 20, ci 40]), o 5 (.bslice false 2 zl3 4 [(0, .t 1), (1, .t 2), (2, .t 3), (3, .t 4)]), mt 0 5] [0])
 (.ret))⟩

def c91 : AFunc := ⟨5, [.tmp 0],
 .seq (.ops [o 0 (.nilown 4)] [])
 (.seq (.ops [o 1 (.build zl0 [(0, 1, cs [112]), (1, 1, ci 10), (2, 1, ci 4), (3, 1, ci 5)]), o 2 (.build zl0 [(0, 1, cs [113]), (1, 1, ci 20), (2, 1, ci 3), (3, 1, ci 9)]), o 3 (.build zl0 [(0, 1, cs [114]), (1, 1, ci 30), (2, 1, ci 1), (3, 1, ci 2)]), o 4 (.bslice true 4 zl0 3 [(0, .t 1), (1, .t 2), (2, .t 3)]), mt 0 4] [0])
 (.ret))⟩

def c92L0 : ACode :=
 .seq (.ops [o 8 (.bin .lss (.t 7) (.t 6))] [5, 6, 7, 8])
 (.seq (.cond (.t 8)
 (.skip)
 (.exit 0))
 (.seq (.block 1 (.seq (.ops [o 9 (.iadr 1 (.t 5) (.t 7)), o 10 (.ld false 1 (.t 9)), mt 4 10] [4, 5, 6, 7])
 (.seq (.ops [mt 11 4, o 12 (.bin .neq (.t 11) (ci 0))] [4, 5, 6, 7, 12])
 (.cond (.t 12)
 (.seq (.ops [mt 13 4, mt 2 13] [2])
 (.ret))
 (.skip)))))
 (.ops [o 14 (.bin .add (.t 7) (ci 1)), mt 7 14] [5, 6, 7])))
def c92 : AFunc := ⟨15, [.tmp 2],
 .seq (.ops [o 2 (.mv (ci 0))] [0])
 (.seq (.seq (.ops [mt 5 0, o 6 (.len 1 (.t 5)), o 7 (.mv (ci 0))] [5, 6, 7])
 (.block 0 (.loop false [5, 6, 7] c92L0)))
 (.seq (.ops [o 2 (.mv (ci 0))] [2])
 (.ret)))⟩

def c93 : AFunc := ⟨5, [.tmp 2],
 .seq (.ops [o 2 (.mv (ci 0))] [0])
 (.seq (.ops [mt 3 0, o 4 (.call true true 0 (.fn 95) [.t 3, ci 1, ci 64]), mt 2 4] [2])
 (.ret))⟩

def c94L0 : ACode :=
 .seq (.ops [o 11 (.bin .lss (.t 10) (.t 9))] [1, 5, 8, 9, 10, 11])
 (.seq (.cond (.t 11)
 (.skip)
 (.exit 0))
 (.seq (.block 1 (.seq (.ops [o 12 (.iadr 2 (.t 8) (.t 10)), o 13 (.ld true 2 (.t 12)), o 7 (.alloc true 1 zl3), u (.st 2 (.t 7) (.t 13))] [1, 5, 7, 8, 9, 10])
 (.seq (.seq (.ops [o 14 (.fadr 0 (.t 7)), o 15 (.ld false 1 (.t 14)), mt 16 1, o 17 (.bin .gtr (.t 15) (.t 16))] [1, 5, 7, 8, 9, 10, 17])
 (.cond (.t 17)
 (.exit 0)
 (.skip)))
 (.ops [o 18 (.fadr 1 (.t 7)), o 19 (.ld false 1 (.t 18)), mt 5 19] [1, 5, 8, 9, 10]))))
 (.ops [o 20 (.bin .add (.t 10) (ci 1)), mt 10 20] [1, 5, 8, 9, 10])))
def c94 : AFunc := ⟨22, [.tmp 4],
 .seq (.ops [o 4 (.mv (ci 0))] [0, 1])
 (.scope (.seq (.ops [o 5 (.mv (ci 0))] [0, 1, 5])
 (.seq (.skip)
 (.seq (.seq (.ops [mt 8 0, o 9 (.len 1 (.t 8)), o 10 (.mv (ci 0))] [1, 5, 8, 9, 10])
 (.block 0 (.loop true [1, 5, 8, 9, 10] c94L0)))
 (.seq (.ops [mt 21 5, mt 4 21] [4])
 (.ret))))))⟩

def c95 : AFunc := ⟨16, [.tmp 6],
 .seq (.ops [o 6 (.mv (ci 0))] [0, 1, 2])
 (.seq (.ops [mt 7 0, mt 8 1, o 9 (.bin .lss (.t 7) (.t 8)), mt 10 9, ⟨some 11, .mv (.t 0), some (10, false)⟩, ⟨some 12, .mv (.t 2), some (10, false)⟩, ⟨some 13, .bin .gtr (.t 11) (.t 12), some (10, false)⟩, o 14 (.pick (.t 10) (cb true) (.t 13)), o 15 (.call true true 0 (.fn 107) [.t 14, ci 3]), mt 6 15] [6])
 (.ret))⟩

def c96L0 : ACode :=
 .seq (.ops [o 15 (.bin .lss (.t 14) (.t 13))] [1, 2, 4, 9, 10, 13, 14, 15])
 (.seq (.cond (.t 15)
 (.skip)
 (.exit 0))
 (.seq (.block 1 (.seq (.ops [mt 16 14, mt 11 16] [1, 2, 4, 9, 10, 11, 13, 14])
 (.seq (.ops [mt 17 2, mt 18 1, mt 19 11, o 20 (.fadr 3 (.t 4)), o 21 (.ld false 1 (.t 20)), o 22 (.bin .sub (.t 19) (.t 21)), o 23 (.max [ci 0, .t 22]), o 24 (.call true true 0 (.fn 94) [.t 18, .t 23]), o 25 (.bin .mul (.t 17) (.t 24)), o 26 (.bin .quo (.t 25) (ci 100)), mt 12 26] [1, 2, 4, 9, 10, 12, 13, 14])
 (.seq (.ops [mt 27 10, mt 28 12, mt 29 10, o 30 (.bin .sub (.t 28) (.t 29)), o 31 (.fadr 2 (.t 4)), o 32 (.ld false 1 (.t 31)), o 33 (.call true true 0 (.fn 122) [.t 30, .t 32]), o 34 (.bin .add (.t 27) (.t 33)), mt 10 34] [1, 2, 4, 9, 10, 13, 14])
 (.ops [mt 35 9, mt 36 10, o 37 (.bslice false 1 zl5 1 [(0, .t 36)]), o 38 (.app 1 8 zl5 (.t 35) (.t 37)), mt 9 38] [1, 2, 4, 9, 10, 13, 14])))))
 (.ops [o 39 (.bin .add (.t 14) (ci 1)), mt 14 39] [1, 2, 4, 9, 10, 13, 14])))
def c96 : AFunc := ⟨41, [.tmp 8],
 .seq (.ops [o 4 (.box true (.t 0)), o 8 (.mv (cn))] [1, 2, 3, 4])
 (.seq (.ops [o 9 (.nilown 1)] [1, 2, 3, 4, 9])
 (.seq (.ops [o 10 (.mv (ci 0))] [1, 2, 3, 4, 9, 10])
 (.seq (.seq (.ops [mt 13 3, o 14 (.mv (ci 0))] [1, 2, 4, 9, 10, 13, 14])
 (.block 0 (.loop false [1, 2, 4, 9, 10, 13, 14] c96L0)))
 (.seq (.ops [mt 40 9, mt 8 40] [8])
 (.ret)))))⟩

def c97L0 : ACode :=
 .seq (.ops [o 27 (.bin .lss (.t 26) (.t 25))] [7, 8, 24, 25, 26, 27])
 (.seq (.cond (.t 27)
 (.skip)
 (.exit 0))
 (.seq (.block 1 (.seq (.ops [mt 28 26, o 29 (.iadr 1 (.t 24) (.t 26)), o 30 (.ld false 1 (.t 29)), mt 9 28, mt 10 30] [7, 8, 9, 10, 24, 25, 26])
 (.ops [mt 31 7, mt 32 10, mt 33 8, mt 34 9, o 35 (.iadr 1 (.t 33) (.t 34)), o 36 (.ld false 1 (.t 35)), o 37 (.build zl3 [(0, 1, .t 32), (1, 1, .t 36)]), o 38 (.bslice false 2 zl3 1 [(0, .t 37)]), o 39 (.app 2 16 zl3 (.t 31) (.t 38)), mt 7 39] [7, 8, 24, 25, 26])))
 (.ops [o 40 (.bin .add (.t 26) (ci 1)), mt 26 40] [7, 8, 24, 25, 26])))
def c97 : AFunc := ⟨42, [.tmp 6],
 .seq (.ops [o 3 (.box true (.t 0)), o 6 (.mv (cn))] [1, 2, 3])
 (.seq (.ops [o 7 (.nilown 2)] [1, 2, 3, 7])
 (.seq (.ops [o 11 (.ld true 5 (.t 3)), mt 12 1, o 13 (.fadr 0 (.t 3)), o 14 (.fadr 1 (.t 13)), o 15 (.ld false 1 (.t 14)), mt 16 2, o 17 (.call true false 0 (.fn 96) [.t 11, .t 12, .t 15, .t 16]), mt 8 17] [1, 2, 3, 7, 8])
 (.seq (.seq (.ops [o 18 (.ld true 5 (.t 3)), mt 19 1, o 20 (.fadr 0 (.t 3)), o 21 (.fadr 0 (.t 20)), o 22 (.ld false 1 (.t 21)), mt 23 2, o 24 (.call true false 0 (.fn 96) [.t 18, .t 19, .t 22, .t 23]), o 25 (.len 1 (.t 24)), o 26 (.mv (ci 0))] [7, 8, 24, 25, 26])
 (.block 0 (.loop false [7, 8, 24, 25, 26] c97L0)))
 (.seq (.ops [mt 41 7, mt 6 41] [6])
 (.ret)))))⟩

def c98 : AFunc := ⟨9, [.tmp 4],
 .seq (.ops [o 4 (.mv (cb false))] [0, 1])
 (.seq (.ops [mt 5 0, mt 6 1, o 7 (.call true true 0 (.fn 150) [.t 5, .t 6]), o 8 (.bin .geq (.t 7) (ci 0)), mt 4 8] [4])
 (.ret))⟩

def c99 : AFunc := ⟨9, [.tmp 3],
 .seq (.ops [o 2 (.box true (.t 0)), o 3 (.mv (cb false))] [1, 2])
 (.seq (.ops [o 4 (.fadr 1 (.t 2)), o 5 (.ld false 1 (.t 4)), o 6 (.fadr 4 (.t 1)), o 7 (.ld false 1 (.t 6)), o 8 (.bin .gtr (.t 5) (.t 7)), mt 3 8] [3])
 (.ret))⟩

def c100L0 : ACode :=
 .seq (.seq (.ops [mt 4 3, mt 5 0, o 6 (.len 1 (.t 5)), o 7 (.bin .lss (.t 4) (.t 6))] [0, 3, 7])
 (.cond (.t 7)
 (.skip)
 (.exit 0)))
 (.seq (.block 1 (.seq (.ops [mt 10 0, mt 11 3, o 12 (.iadr 1 (.t 10) (.t 11)), o 13 (.ld false 1 (.t 12)), o 14 (.bin .neq (.t 13) (ci 0))] [0, 3, 14])
 (.cond (.t 14)
 (.seq (.ops [mt 15 0, mt 16 3, o 17 (.iadr 1 (.t 15) (.t 16)), o 18 (.ld false 1 (.t 17)), mt 2 18] [2])
 (.ret))
 (.skip))))
 (.ops [mt 8 3, o 9 (.bin .add (.t 8) (ci 1)), mt 3 9] [0, 3]))
def c100 : AFunc := ⟨19, [.tmp 2],
 .seq (.ops [o 2 (.mv (ci 0))] [0])
 (.seq (.seq (.ops [o 3 (.mv (ci 0))] [0, 3])
 (.block 0 (.loop false [0, 3] c100L0)))
 (.seq (.ops [o 2 (.mv (ci 0))] [2])
 (.ret)))⟩

def c101 : AFunc := ⟨16, [.tmp 6],
 .seq (.ops [o 6 (.mv (ci 0))] [0, 1, 2])
 (.seq (.ops [mt 7 0, mt 8 1, o 9 (.bin .lss (.t 7) (.t 8)), mt 10 9, ⟨some 11, .mv (.t 0), some (10, false)⟩, ⟨some 12, .mv (.t 2), some (10, false)⟩, ⟨some 13, .bin .gtr (.t 11) (.t 12), some (10, false)⟩, o 14 (.pick (.t 10) (cb true) (.t 13)), o 15 (.call true true 0 (.fn 46) [.t 14, ci 3]), mt 6 15] [6])
 (.ret))⟩

def c102 : AFunc := ⟨25, [.tmp 6],
 .seq (.ops [o 3 (.box true (.t 0)), o 6 (.mv (ci 0))] [1, 2, 3])
 (.seq (.opsd [(0, 1), (1, 1), (2, 1), (3, 1), (4, 1), (5, 1), (6, 1), (7, 1), (8, 1), (9, 1), (10, 1), (11, 1), (12, 1), (13, 1), (14, 1), (15, 0), (16, 0), (17, 0), (18, 1)] [o 7 (.fadr 0 (.t 3)), o 8 (.ld false 1 (.t 7)), mt 9 1, mt 10 2, o 11 (.call true true 0 (.fn 101) [.t 8, .t 9, .t 10]), o 12 (.fadr 1 (.t 3)), o 13 (.ld false 1 (.t 12)), mt 14 1, mt 15 2, o 16 (.call true true 0 (.fn 101) [.t 13, .t 14, .t 15]), o 17 (.fadr 0 (.t 3)), o 18 (.ld false 1 (.t 17)), o 19 (.fadr 1 (.t 3)), o 20 (.ld false 1 (.t 19)), o 21 (.bin .gtr (.t 18) (.t 20)), o 22 (.call true true 0 (.fn 46) [.t 21, ci 11]), o 23 (.bslice false 1 zl5 3 [(0, .t 11), (1, .t 16), (2, .t 22)]), o 24 (.call true true 0 (.fn 100) [.t 23]), mt 6 24] [6])
 (.ret))⟩

def c105 : AFunc := ⟨25, [.tmp 6],
 .seq (.ops [o 3 (.box true (.t 0)), o 6 (.mv (ci 0))] [1, 2, 3])
 (.seq (.opsd [(0, 1), (1, 1), (2, 1), (3, 1), (4, 1), (5, 1), (6, 1), (7, 1), (8, 1), (9, 1), (10, 1), (11, 1), (12, 1), (13, 1), (14, 1), (15, 0), (16, 0), (17, 0), (18, 1)] [o 7 (.fadr 0 (.t 3)), o 8 (.ld false 1 (.t 7)), mt 9 1, mt 10 2, o 11 (.call true true 0 (.fn 95) [.t 8, .t 9, .t 10]), o 12 (.fadr 1 (.t 3)), o 13 (.ld false 1 (.t 12)), mt 14 1, mt 15 2, o 16 (.call true true 0 (.fn 95) [.t 13, .t 14, .t 15]), o 17 (.fadr 0 (.t 3)), o 18 (.ld false 1 (.t 17)), o 19 (.fadr 1 (.t 3)), o 20 (.ld false 1 (.t 19)), o 21 (.bin .gtr (.t 18) (.t 20)), o 22 (.call true true 0 (.fn 107) [.t 21, ci 11]), o 23 (.bslice false 1 zl5 3 [(0, .t 11), (1, .t 16), (2, .t 22)]), o 24 (.call true true 0 (.fn 92) [.t 23]), mt 6 24] [6])
 (.ret))⟩

def c106 : AFunc := ⟨14, [.tmp 4],
 .seq (.ops [o 4 (.mv (ci 0))] [0, 1])
 (.seq (.ops [mt 5 0, o 6 (.bin .eql (.t 5) (ci 0)), o 7 (.call true true 0 (.fn 107) [.t 6, ci 12]), mt 8 0, mt 9 1, o 10 (.bin .gtr (.t 8) (.t 9)), o 11 (.call true true 0 (.fn 107) [.t 10, ci 5]), o 12 (.bslice false 1 zl5 2 [(0, .t 7), (1, .t 11)]), o 13 (.call true true 0 (.fn 92) [.t 12]), mt 4 13] [4])
 (.ret))⟩

def c107 : AFunc := ⟨7, [.tmp 4],
 .seq (.ops [o 4 (.mv (ci 0))] [0, 1])
 (.seq (.seq (.ops [mt 5 0] [1, 5])
 (.cond (.t 5)
 (.seq (.ops [mt 6 1, mt 4 6] [4])
 (.ret))
 (.skip)))
 (.seq (.ops [o 4 (.mv (ci 0))] [4])
 (.ret)))⟩

def c108 : AFunc := ⟨15, [.tmp 4],
 .seq (.ops [o 4 (.mv (ci 0))] [0, 1])
 (.seq (.ops [mt 5 1, o 6 (.len 1 (.t 5)), mt 7 0, o 8 (.len 1 (.t 7)), o 9 (.bin .neq (.t 6) (.t 8)), o 10 (.call true true 0 (.fn 107) [.t 9, ci 2]), mt 11 1, o 12 (.call true true 0 (.fn 151) [.t 11]), o 13 (.bslice false 1 zl5 2 [(0, .t 10), (1, .t 12)]), o 14 (.call true true 0 (.fn 92) [.t 13]), mt 4 14] [4])
 (.ret))⟩

def c109L0 : ACode :=
 .seq (.ops [o 15 (.bin .lss (.t 14) (.t 13))] [0, 6, 7, 12, 13, 14, 15])
 (.seq (.cond (.t 15)
 (.skip)
 (.exit 0))
 (.seq (.block 1 (.seq (.ops [mt 16 14, o 17 (.iadr 1 (.t 12) (.t 14)), o 18 (.ld false 1 (.t 17)), mt 8 16, mt 9 18] [0, 6, 7, 8, 9, 12, 13, 14])
 (.seq (.opsd [(0, 1), (1, 1), (2, 5), (3, 5), (4, 1), (5, 1), (6, 1), (7, 1), (8, 1), (9, 1), (10, 1), (11, 2), (12, 0)] [mt 19 0, mt 20 8, o 21 (.iadr 2 (.t 19) (.t 20)), o 22 (.fadr 0 (.t 21)), o 23 (.ld false 1 (.t 22)), mt 24 0, mt 25 8, o 26 (.iadr 2 (.t 24) (.t 25)), o 27 (.fadr 1 (.t 26)), o 28 (.ld false 1 (.t 27)), o 29 (.build zl3 [(0, 1, .t 23), (1, 1, .t 28)]), o 10 (.alloc true 1 zl3), u (.st 2 (.t 10) (.t 29))] [0, 6, 7, 8, 9, 10, 12, 13, 14])
 (.seq (.seq (.ops [o 30 (.ld true 2 (.t 10)), mt 31 9, mt 32 9, o 33 (.build zl3 [(0, 1, .t 31), (1, 1, .t 32)]), o 34 (.eqagg [0, 0] false (.t 30) (.t 33))] [0, 6, 7, 8, 9, 10, 12, 13, 14, 34])
 (.cond (.t 34)
 (.exit 1)
 (.skip)))
 (.seq (.ops [o 35 (.iadra 1 2 (.t 10) (ci 0)), o 36 (.ld false 1 (.t 35)), mt 37 9, o 38 (.bin .sub (.t 36) (.t 37)), mt 39 9, o 40 (.iadra 1 2 (.t 10) (ci 1)), o 41 (.ld false 1 (.t 40)), o 42 (.bin .sub (.t 39) (.t 41)), o 43 (.max [.t 38, .t 42]), mt 11 43] [0, 6, 7, 8, 11, 12, 13, 14])
 (.seq (.ops [mt 44 11, mt 45 6, o 46 (.bin .gtr (.t 44) (.t 45))] [0, 6, 7, 8, 11, 12, 13, 14, 46])
 (.cond (.t 46)
 (.ops [mt 47 11, mt 48 8, mt 6 47, mt 7 48] [0, 6, 7, 12, 13, 14])
 (.skip))))))))
 (.ops [o 49 (.bin .add (.t 14) (ci 1)), mt 14 49] [0, 6, 7, 12, 13, 14])))
def c109 : AFunc := ⟨52, [.tmp 4, .tmp 5],
 .seq (.ops [o 4 (.mv (ci 0)), o 5 (.mv (ci 0))] [0, 1])
 (.seq (.ops [o 6 (.mv (ci 0)), o 7 (.mv (ci 0))] [0, 1, 6, 7])
 (.seq (.seq (.ops [mt 12 1, o 13 (.len 1 (.t 12)), o 14 (.mv (ci 0))] [0, 6, 7, 12, 13, 14])
 (.block 0 (.loop true [0, 6, 7, 12, 13, 14] c109L0)))
 (.seq (.ops [mt 50 6, mt 51 7, mt 4 50, mt 5 51] [4, 5])
 (.ret))))⟩

def c110 : AFunc := ⟨10, [.tmp 2],
 .seq (.ops [o 2 (.mv (ci 0))] [0])
 (.seq (.ops [mt 3 0, o 4 (.len 1 (.t 3)), o 5 (.call true true 0 (.fn 106) [.t 4, ci 64]), mt 6 0, o 7 (.call true true 0 (.fn 151) [.t 6]), o 8 (.bslice false 1 zl5 2 [(0, .t 5), (1, .t 7)]), o 9 (.call true true 0 (.fn 92) [.t 8]), mt 2 9] [2])
 (.ret))⟩

def c111 : AFunc := ⟨7, [.tmp 2],
 .seq (.ops [o 2 (.mv (cn))] [0])
 (.seq (.ops [o 3 (.alloc true 1 zl5), u (.st 1 (.t 3) (ci 0))] [0, 3])
 (.seq (.ops [mt 4 0, o 5 (.mkclo 153 [] [.t 3]), o 6 (.call false false 0 (.fn 152) [.t 4, .t 5]), mt 2 6] [2])
 (.ret)))⟩

def c112L0 : ACode :=
 .seq (.seq (.ops [mt 5 3, mt 6 0, o 7 (.len 1 (.t 6)), o 8 (.bin .lss (.t 5) (.t 7))] [0, 3, 8])
 (.cond (.t 8)
 (.skip)
 (.exit 0)))
 (.seq (.block 1 (.seq (.ops [mt 11 0, mt 12 3, o 13 (.iadr 1 (.t 11) (.t 12)), o 14 (.ld false 1 (.t 13)), o 15 (.call true true 0 (.fn 101) [.t 14, ci (-100000), ci 100000]), mt 4 15] [0, 3, 4])
 (.seq (.ops [mt 16 4, o 17 (.bin .neq (.t 16) (ci 0))] [0, 3, 4, 17])
 (.cond (.t 17)
 (.seq (.ops [mt 18 4, mt 2 18] [2])
 (.ret))
 (.skip)))))
 (.ops [mt 9 3, o 10 (.bin .add (.t 9) (ci 1)), mt 3 10] [0, 3]))
def c112 : AFunc := ⟨19, [.tmp 2],
 .seq (.ops [o 2 (.mv (ci 0))] [0])
 (.seq (.seq (.ops [o 3 (.mv (ci 0))] [0, 3])
 (.block 0 (.loop false [0, 3] c112L0)))
 (.seq (.ops [o 2 (.mv (ci 0))] [2])
 (.ret)))⟩

def c113L0 : ACode :=
 .seq (.ops [o 11 (.bin .lss (.t 10) (.t 9))] [1, 5, 8, 9, 10, 11])
 (.seq (.cond (.t 11)
 (.skip)
 (.exit 0))
 (.seq (.block 1 (.seq (.ops [o 12 (.iadr 2 (.t 8) (.t 10)), o 13 (.ld true 2 (.t 12)), o 7 (.alloc true 1 zl3), u (.st 2 (.t 7) (.t 13))] [1, 5, 7, 8, 9, 10])
 (.ops [mt 14 5, mt 15 1, o 16 (.ld true 2 (.t 7)), o 17 (.call false true 0 (.val (.t 15)) [.t 16]), o 18 (.bslice false 1 zl5 1 [(0, .t 17)]), o 19 (.app 1 8 zl5 (.t 14) (.t 18)), mt 5 19] [1, 5, 8, 9, 10])))
 (.ops [o 20 (.bin .add (.t 10) (ci 1)), mt 10 20] [1, 5, 8, 9, 10])))
def c113 : AFunc := ⟨22, [.tmp 4],
 .seq (.ops [o 4 (.mv (cn))] [0, 1])
 (.seq (.ops [o 5 (.nilown 1)] [0, 1, 5])
 (.seq (.seq (.ops [mt 8 0, o 9 (.len 1 (.t 8)), o 10 (.mv (ci 0))] [1, 5, 8, 9, 10])
 (.block 0 (.loop true [1, 5, 8, 9, 10] c113L0)))
 (.seq (.ops [mt 21 5, mt 4 21] [4])
 (.ret))))⟩

def c114 : AFunc := ⟨5, [.tmp 2],
 .seq (.ops [o 1 (.box true (.t 0)), o 2 (.mv (ci 0))] [1])
 (.seq (.ops [o 3 (.ld true 2 (.t 1)), o 4 (.call true true 0 (.fn 105) [.t 3, ci 0, ci 10000]), mt 2 4] [2])
 (.ret))⟩

def c115 : AFunc := ⟨26, [.tmp 6],
 .seq (.ops [o 3 (.box true (.t 0)), o 6 (.mv (ci 0))] [1, 2, 3])
 (.seq (.seq (.ops [o 8 (.ld true 5 (.t 3)), o 9 (.call true true 0 (.fn 27) [.t 8]), mt 10 1, o 11 (.call true true 0 (.fn 28) [.t 10]), mt 12 2, o 13 (.call true true 0 (.fn 43) [.t 12]), o 14 (.bslice false 1 zl5 3 [(0, .t 9), (1, .t 11), (2, .t 13)]), o 15 (.call true true 0 (.fn 92) [.t 14]), mt 7 15] [1, 2, 3, 7])
 (.seq (.ops [mt 16 7, o 17 (.bin .neq (.t 16) (ci 0))] [1, 2, 3, 7, 17])
 (.cond (.t 17)
 (.seq (.ops [mt 18 7, mt 6 18] [6])
 (.ret))
 (.skip))))
 (.seq (.ops [o 19 (.ld true 5 (.t 3)), mt 20 1, mt 21 2, o 22 (.len 1 (.t 21)), o 23 (.call true true 0 (.fn 154) [.t 19, .t 20, .t 22]), o 24 (.not (.t 23)), o 25 (.call true true 0 (.fn 107) [.t 24, ci 21]), mt 6 25] [6])
 (.ret)))⟩

def c116 : AFunc := ⟨5, [.tmp 2],
 .seq (.ops [o 2 (.mv (ci 0))] [0])
 (.seq (.ops [mt 3 0, o 4 (.call true true 0 (.fn 95) [.t 3, ci 1, ci 100]), mt 2 4] [2])
 (.ret))⟩

def c117L0 : ACode :=
 .seq (.seq (.ops [mt 57 17, mt 58 14, o 59 (.bin .lss (.t 57) (.t 58))] [1, 2, 3, 4, 5, 11, 12, 13, 14, 15, 16, 17, 27, 28, 29, 59])
 (.cond (.t 59)
 (.skip)
 (.exit 2)))
 (.seq (.block 3 (.seq (.ops [mt 62 15, mt 63 3, mt 64 17, o 65 (.iadr 1 (.t 63) (.t 64)), o 66 (.ld false 1 (.t 65)), o 67 (.bin .mul (ci 2) (.t 66)), o 68 (.bin .add (.t 62) (.t 67)), mt 15 68] [1, 2, 3, 4, 5, 11, 12, 13, 14, 15, 16, 17, 27, 28, 29])
 (.opsd [(0, 1), (1, 1), (2, 1), (3, 1), (4, 1), (5, 1), (6, 1), (7, 1), (8, 1), (9, 1), (10, 1), (11, 1), (12, 1), (13, 1)] [mt 69 16, mt 70 2, mt 71 17, o 72 (.iadr 2 (.t 70) (.t 71)), o 73 (.fadr 0 (.t 72)), o 74 (.ld false 1 (.t 73)), mt 75 2, mt 76 17, o 77 (.iadr 2 (.t 75) (.t 76)), o 78 (.fadr 1 (.t 77)), o 79 (.ld false 1 (.t 78)), o 80 (.bin .add (.t 74) (.t 79)), o 81 (.bin .add (.t 69) (.t 80)), mt 16 81] [1, 2, 3, 4, 5, 11, 12, 13, 14, 15, 16, 17, 27, 28, 29])))
 (.ops [mt 60 17, o 61 (.bin .add (.t 60) (ci 1)), mt 17 61] [1, 2, 3, 4, 5, 11, 12, 13, 14, 15, 16, 17, 27, 28, 29]))
def c117L1 : ACode :=
 .seq (.ops [o 84 (.bin .lss (.t 83) (ci 2))] [1, 2, 3, 4, 5, 11, 12, 13, 15, 16, 27, 28, 29, 82, 83, 84])
 (.seq (.cond (.t 84)
 (.skip)
 (.exit 4))
 (.seq (.block 5 (.seq (.ops [o 85 (.idx true 2 2 (.t 82) (.t 83)), o 19 (.alloc false 1 zl4), u (.st 2 (.t 19) (.t 85))] [1, 2, 3, 4, 5, 11, 12, 13, 15, 16, 19, 27, 28, 29, 82, 83])
 (.seq (.seq (.ops [o 86 (.fadr 0 (.t 13)), o 87 (.ld false 1 (.t 86)), mt 88 2, o 89 (.len 1 (.t 88)), o 90 (.bin .geq (.t 87) (.t 89)), mt 91 90, ⟨some 92, .fadr 0 (.t 19), some (91, false)⟩, ⟨some 93, .ld false 1 (.t 92), some (91, false)⟩, ⟨some 94, .mv (.t 15), some (91, false)⟩, ⟨some 95, .mv (.t 16), some (91, false)⟩, ⟨some 96, .call false true 0 (.val (.t 93)) [.t 94, .t 95], some (91, false)⟩, ⟨some 97, .not (.t 96), some (91, false)⟩, o 98 (.pick (.t 91) (cb true) (.t 97))] [1, 2, 3, 4, 5, 11, 12, 13, 15, 16, 19, 27, 28, 29, 82, 83, 98])
 (.cond (.t 98)
 (.exit 5)
 (.skip)))
 (.seq (.ops [mt 99 11, mt 100 12, o 101 (.iadr 2 (.t 99) (.t 100)), o 102 (.ld true 2 (.t 101)), o 20 (.alloc true 1 zl3), u (.st 2 (.t 20) (.t 102))] [1, 2, 3, 4, 5, 11, 12, 13, 15, 16, 19, 20, 27, 28, 29, 82, 83])
 (.seq (.ops [mt 103 11, mt 104 12, o 105 (.fadr 1 (.t 20)), o 106 (.ld false 1 (.t 105)), mt 107 4, o 108 (.fadr 1 (.t 19)), o 109 (.ld false 1 (.t 108)), o 110 (.bin .mul (.t 107) (.t 109)), o 111 (.bin .add (.t 106) (.t 110)), o 112 (.max [ci 0, .t 111]), o 113 (.min [ci 100, .t 112]), o 114 (.iadr 2 (.t 103) (.t 104)), o 115 (.fadr 1 (.t 114)), u (.st 1 (.t 115) (.t 113))] [1, 2, 3, 4, 5, 11, 12, 13, 15, 16, 20, 27, 28, 29, 82, 83])
 (.seq (.opsd [(0, 1), (1, 1), (2, 1), (3, 1), (4, 1), (5, 1), (6, 1), (7, 1), (8, 1), (9, 1), (10, 1), (11, 0), (12, 1), (13, 1)] [mt 116 11, mt 117 12, o 118 (.iadr 2 (.t 116) (.t 117)), o 119 (.ld true 2 (.t 118)), o 120 (.ld true 2 (.t 20)), o 121 (.eqagg [0, 0] true (.t 119) (.t 120)), mt 122 121, ⟨some 123, .ld true 5 (.t 5), some (122, true)⟩, ⟨some 124, .mv (.t 11), some (122, true)⟩, ⟨some 125, .mv (.t 2), some (122, true)⟩, ⟨some 126, .len 1 (.t 125), some (122, true)⟩, ⟨some 127, .call true true 0 (.fn 154) [.t 123, .t 124, .t 126], some (122, true)⟩, ⟨some 128, .not (.t 127), some (122, true)⟩, o 129 (.pick (.t 122) (.t 128) (cb false))] [1, 2, 3, 4, 5, 11, 12, 13, 15, 16, 20, 27, 28, 29, 82, 83, 129])
 (.cond (.t 129)
 (.ops [mt 130 11, mt 131 12, o 132 (.ld true 2 (.t 20)), o 133 (.iadr 2 (.t 130) (.t 131)), u (.st 2 (.t 133) (.t 132))] [1, 2, 3, 4, 5, 11, 12, 13, 15, 16, 27, 28, 29, 82, 83])
 (.skip))))))))
 (.ops [o 134 (.bin .add (.t 83) (ci 1)), mt 83 134] [1, 2, 3, 4, 5, 11, 12, 13, 15, 16, 27, 28, 29, 82, 83])))
def c117L2 : ACode :=
 .seq (.ops [o 30 (.bin .lss (.t 29) (.t 28))] [1, 2, 3, 4, 5, 11, 27, 28, 29, 30])
 (.seq (.cond (.t 30)
 (.skip)
 (.exit 0))
 (.seq (.block 1 (.seq (.ops [mt 31 29, o 32 (.iadr 2 (.t 27) (.t 29)), o 33 (.ld true 2 (.t 32)), o 13 (.alloc true 1 zl3), mt 12 31, u (.st 2 (.t 13) (.t 33))] [1, 2, 3, 4, 5, 11, 12, 13, 27, 28, 29])
 (.seq (.ops [mt 34 2, o 35 (.len 1 (.t 34)), mt 14 35] [1, 2, 3, 4, 5, 11, 12, 13, 14, 27, 28, 29])
 (.seq (.seq (.ops [mt 36 12, o 37 (.bin .add (.t 36) (ci 1)), mt 38 1, o 39 (.len 1 (.t 38)), o 40 (.bin .lss (.t 37) (.t 39))] [1, 2, 3, 4, 5, 11, 12, 13, 14, 27, 28, 29, 40])
 (.cond (.t 40)
 (.opsd [(0, 1), (1, 1), (2, 1), (3, 1), (4, 1), (5, 1), (6, 1), (7, 1), (8, 1), (9, 1), (10, 1), (11, 1)] [mt 41 14, mt 42 1, mt 43 12, o 44 (.bin .add (.t 43) (ci 1)), o 45 (.iadr 2 (.t 42) (.t 44)), o 46 (.fadr 0 (.t 45)), o 47 (.ld false 1 (.t 46)), o 48 (.fadr 3 (.t 5)), o 49 (.ld false 1 (.t 48)), o 50 (.bin .add (.t 47) (.t 49)), o 51 (.min [.t 41, .t 50]), mt 14 51] [1, 2, 3, 4, 5, 11, 12, 13, 14, 27, 28, 29])
 (.skip)))
 (.seq (.ops [o 15 (.mv (ci 0)), o 16 (.mv (ci 0))] [1, 2, 3, 4, 5, 11, 12, 13, 14, 15, 16, 27, 28, 29])
 (.seq (.seq (.ops [o 52 (.fadr 0 (.t 13)), o 53 (.ld false 1 (.t 52)), o 54 (.fadr 3 (.t 5)), o 55 (.ld false 1 (.t 54)), o 56 (.bin .add (.t 53) (.t 55)), mt 17 56] [1, 2, 3, 4, 5, 11, 12, 13, 14, 15, 16, 17, 27, 28, 29])
 (.block 2 (.loop false [1, 2, 3, 4, 5, 11, 12, 13, 14, 15, 16, 17, 27, 28, 29] c117L0)))
 (.seq (.ops [o 82 (.call true false 0 (.fn 155) []), o 83 (.mv (ci 0))] [1, 2, 3, 4, 5, 11, 12, 13, 15, 16, 27, 28, 29, 82, 83])
 (.block 4 (.loop true [1, 2, 3, 4, 5, 11, 12, 13, 15, 16, 27, 28, 29, 82, 83] c117L1)))))))))
 (.ops [o 135 (.bin .add (.t 29) (ci 1)), mt 29 135] [1, 2, 3, 4, 5, 11, 27, 28, 29])))
def c117 : AFunc := ⟨137, [.tmp 10],
 .seq (.ops [o 5 (.box true (.t 0)), o 10 (.mv (cn))] [1, 2, 3, 4, 5])
 (.seq (.ops [mt 21 1, o 22 (.len 1 (.t 21)), o 23 (.mkslice 2 zl3 (.t 22) (.t 22)), mt 11 23] [1, 2, 3, 4, 5, 11])
 (.seq (.ops [mt 24 11, mt 25 1, o 26 (.copy 2 (.t 24) (.t 25))] [1, 2, 3, 4, 5, 11])
 (.seq (.seq (.ops [mt 27 1, o 28 (.len 1 (.t 27)), o 29 (.mv (ci 0))] [1, 2, 3, 4, 5, 11, 27, 28, 29])
 (.block 0 (.loop true [1, 2, 3, 4, 5, 11, 27, 28, 29] c117L2)))
 (.seq (.ops [mt 136 11, mt 10 136] [10])
 (.ret)))))⟩

def c118 : AFunc := ⟨8, [.tmp 2],
 .seq (.ops [o 2 (.mv (cn))] [0])
 (.seq (.seq (.ops [mt 3 0, o 4 (.eqnil 1 false (.t 3))] [0, 4])
 (.cond (.t 4)
 (.seq (.ops [o 2 (.mv (cn))] [2])
 (.ret))
 (.skip)))
 (.seq (.ops [o 5 (.bslice true 2 zl3 0 []), mt 6 0, o 7 (.app 2 16 zl3 (.t 5) (.t 6)), mt 2 7] [2])
 (.ret)))⟩

def c120 : AFunc := ⟨14, [.tmp 2],
 .seq (.ops [o 1 (.box false (.t 0)), o 2 (.mv (ci 0))] [1])
 (.seq (.seq (.ops [o 4 (.ld false 1 (.t 1)), o 5 (.len 1 (.t 4)), o 6 (.call true true 0 (.fn 106) [.t 5, ci 8]), mt 3 6] [1, 3])
 (.seq (.ops [mt 7 3, o 8 (.bin .neq (.t 7) (ci 0))] [1, 3, 8])
 (.cond (.t 8)
 (.seq (.ops [mt 9 3, mt 2 9] [2])
 (.ret))
 (.skip))))
 (.seq (.ops [o 10 (.ld false 1 (.t 1)), o 11 (.mkclo 157 [] [.t 1]), o 12 (.call true false 0 (.fn 156) [.t 10, .t 11]), o 13 (.call true true 0 (.fn 92) [.t 12]), mt 2 13] [2])
 (.ret)))⟩

def c121L0 : ACode :=
 .seq (.ops [o 11 (.bin .lss (.t 10) (.t 9))] [0, 3, 9, 10, 11])
 (.seq (.cond (.t 11)
 (.skip)
 (.exit 0))
 (.seq (.block 1 (.seq (.ops [mt 12 10, o 4 (.alloc true 1 zl5), u (.st 1 (.t 4) (.t 12))] [0, 3, 4, 9, 10])
 (.seq (.ops [mt 13 0, o 14 (.mkclo 159 [] [.t 4]), o 15 (.call true false 0 (.fn 158) [.t 13, .t 14]), mt 5 15] [0, 3, 5, 9, 10])
 (.ops [mt 16 3, mt 17 5, o 18 (.call true true 0 (.fn 160) [.t 17]), mt 19 5, o 20 (.call true true 0 (.fn 161) [.t 19]), o 21 (.build zl3 [(0, 1, .t 18), (1, 1, .t 20)]), o 22 (.bslice false 2 zl3 1 [(0, .t 21)]), o 23 (.app 2 16 zl3 (.t 16) (.t 22)), mt 3 23] [0, 3, 9, 10]))))
 (.ops [o 24 (.bin .add (.t 10) (ci 1)), mt 10 24] [0, 3, 9, 10])))
def c121 : AFunc := ⟨26, [.tmp 2],
 .seq (.ops [o 2 (.mv (cn))] [0])
 (.seq (.ops [o 3 (.nilown 2)] [0, 3])
 (.seq (.seq (.ops [mt 6 0, o 7 (.iadr 1 (.t 6) (ci 0)), o 8 (.ld false 1 (.t 7)), o 9 (.len 1 (.t 8)), o 10 (.mv (ci 0))] [0, 3, 9, 10])
 (.block 0 (.loop true [0, 3, 9, 10] c121L0)))
 (.seq (.ops [mt 25 3, mt 2 25] [2])
 (.ret))))⟩

def c122 : AFunc := ⟨17, [.tmp 4],
 .seq (.ops [o 4 (.mv (ci 0))] [0, 1])
 (.seq (.ops [mt 6 0, mt 7 1, o 8 (.bin .quo (.t 6) (.t 7)), mt 5 8] [0, 1, 5])
 (.seq (.seq (.ops [mt 9 5, mt 10 1, o 11 (.bin .mul (.t 9) (.t 10)), mt 12 0, o 13 (.bin .gtr (.t 11) (.t 12))] [5, 13])
 (.cond (.t 13)
 (.ops [mt 14 5, o 15 (.bin .sub (.t 14) (ci 1)), mt 5 15] [5])
 (.skip)))
 (.seq (.ops [mt 16 5, mt 4 16] [4])
 (.ret))))⟩

def c123 : AFunc := ⟨11, [.tmp 3],
 .seq (.ops [o 2 (.box true (.t 0)), o 3 (.mv (cb false))] [1, 2])
 (.seq (.ops [o 4 (.fadr 1 (.t 2)), o 5 (.ld false 1 (.t 4)), o 6 (.fadr 0 (.t 2)), o 7 (.ld false 1 (.t 6)), o 8 (.bin .sub (.t 5) (.t 7)), o 9 (.ld false 1 (.t 1)), o 10 (.bin .gtr (.t 8) (.t 9)), mt 3 10] [3])
 (.ret))⟩

def c124L0 : ACode :=
 .seq (.ops [o 11 (.bin .lss (.t 10) (.t 9))] [1, 5, 8, 9, 10, 11])
 (.seq (.cond (.t 11)
 (.skip)
 (.exit 0))
 (.seq (.block 1 (.seq (.ops [o 12 (.iadr 1 (.t 8) (.t 10)), o 13 (.ld false 1 (.t 12)), mt 7 13] [1, 5, 7, 8, 9, 10])
 (.ops [mt 14 5, mt 15 1, mt 16 7, o 17 (.call false true 0 (.val (.t 15)) [.t 16]), o 18 (.bslice false 2 zl3 1 [(0, .t 17)]), o 19 (.app 2 16 zl3 (.t 14) (.t 18)), mt 5 19] [1, 5, 8, 9, 10])))
 (.ops [o 20 (.bin .add (.t 10) (ci 1)), mt 10 20] [1, 5, 8, 9, 10])))
def c124 : AFunc := ⟨22, [.tmp 4],
 .seq (.ops [o 4 (.mv (cn))] [0, 1])
 (.seq (.ops [o 5 (.nilown 2)] [0, 1, 5])
 (.seq (.seq (.ops [mt 8 0, o 9 (.len 1 (.t 8)), o 10 (.mv (ci 0))] [1, 5, 8, 9, 10])
 (.block 0 (.loop true [1, 5, 8, 9, 10] c124L0)))
 (.seq (.ops [mt 21 5, mt 4 21] [4])
 (.ret))))⟩

def c125 : AFunc := ⟨9, [.cell 3 true 2],
 .seq (.ops [o 3 (.alloc true 1 zl3)] [0, 1, 3])
 (.seq (.ops [o 4 (.ld true 3 (.t 1)), mt 5 0, o 6 (.fadr 0 (.t 1)), o 7 (.ld false 1 (.t 6)), o 8 (.call true true 0 (.fn 126) [.t 4, .t 5, .t 7]), u (.st 2 (.t 3) (.t 8))] [3])
 (.ret))⟩

def c126 : AFunc := ⟨22, [.cell 6 true 2],
 .seq (.ops [o 3 (.box true (.t 0)), o 6 (.alloc true 1 zl3)] [1, 2, 3, 6])
 (.seq (.opsd [(0, 1), (1, 1), (2, 1), (3, 1), (4, 1), (5, 1), (6, 1), (7, 1), (8, 1), (9, 1), (10, 1), (11, 1), (12, 0), (13, 1), (14, 1), (15, 0)] [mt 7 1, mt 8 2, o 9 (.bin .mul (.t 7) (.t 8)), o 10 (.fadr 2 (.t 3)), o 11 (.ld false 1 (.t 10)), o 12 (.call true true 0 (.fn 122) [.t 9, .t 11]), mt 13 1, o 14 (.neg (.t 13)), mt 15 2, o 16 (.bin .mul (.t 14) (.t 15)), o 17 (.fadr 2 (.t 3)), o 18 (.ld false 1 (.t 17)), o 19 (.call true true 0 (.fn 122) [.t 16, .t 18]), o 20 (.neg (.t 19)), o 21 (.build zl3 [(0, 1, .t 12), (1, 1, .t 20)]), u (.st 2 (.t 6) (.t 21))] [6])
 (.ret))⟩

def c127 : AFunc := ⟨9, [.cell 3 true 2],
 .seq (.ops [o 3 (.alloc true 1 zl3)] [0, 1, 3])
 (.seq (.ops [o 4 (.ld true 3 (.t 1)), mt 5 0, o 6 (.fadr 1 (.t 1)), o 7 (.ld false 1 (.t 6)), o 8 (.call true true 0 (.fn 126) [.t 4, .t 5, .t 7]), u (.st 2 (.t 3) (.t 8))] [3])
 (.ret))⟩

def c131L0 : ACode :=
 .seq (.ops [o 11 (.bin .lss (.t 10) (.t 9))] [1, 5, 8, 9, 10, 11])
 (.seq (.cond (.t 11)
 (.skip)
 (.exit 0))
 (.seq (.block 1 (.seq (.ops [o 12 (.iadr 2 (.t 8) (.t 10)), o 13 (.ld true 2 (.t 12)), o 7 (.alloc true 1 zl3), u (.st 2 (.t 7) (.t 13))] [1, 5, 7, 8, 9, 10])
 (.ops [mt 14 5, mt 15 1, o 16 (.ld true 2 (.t 7)), o 17 (.call false true 0 (.val (.t 15)) [.t 16]), o 18 (.bslice false 1 zl6 1 [(0, .t 17)]), o 19 (.app 1 16 zl6 (.t 14) (.t 18)), mt 5 19] [1, 5, 8, 9, 10])))
 (.ops [o 20 (.bin .add (.t 10) (ci 1)), mt 10 20] [1, 5, 8, 9, 10])))
def c131 : AFunc := ⟨22, [.tmp 4],
 .seq (.ops [o 4 (.mv (cn))] [0, 1])
 (.seq (.ops [o 5 (.nilown 1)] [0, 1, 5])
 (.seq (.seq (.ops [mt 8 0, o 9 (.len 1 (.t 8)), o 10 (.mv (ci 0))] [1, 5, 8, 9, 10])
 (.block 0 (.loop true [1, 5, 8, 9, 10] c131L0)))
 (.seq (.ops [mt 21 5, mt 4 21] [4])
 (.ret))))⟩

def c132 : AFunc := ⟨16, [.tmp 2],
 .seq (.ops [o 1 (.box true (.t 0)), o 2 (.mv (cs []))] [1])
 (.seq (.opsd [(0, 1), (1, 1), (2, 1), (3, 1), (4, 1), (5, 1), (6, 1), (7, 1), (8, 1), (9, 1), (10, 1), (11, 1), (12, 1), (13, 1)] [o 3 (.iadra 1 1 (.g 0) (ci 0)), o 4 (.ld false 1 (.t 3)), o 5 (.bin .add (.t 4) (cs [32])), o 6 (.fadr 0 (.t 1)), o 7 (.ld false 1 (.t 6)), o 8 (.call true true 0 (.fn 133) [.t 7]), o 9 (.bin .add (.t 5) (.t 8)), o 10 (.bin .add (.t 9) (cs [32])), o 11 (.fadr 1 (.t 1)), o 12 (.ld false 1 (.t 11)), o 13 (.call true true 0 (.fn 133) [.t 12]), o 14 (.bin .add (.t 10) (.t 13)), o 15 (.bin .add (.t 14) (cs [10])), mt 2 15] [2])
 (.ret))⟩

def c134 : AFunc := ⟨4, [.tmp 2],
 .seq (.ops [o 1 (.box true (.t 0)), o 2 (.mv (.c (.p (.nilf))))] [1])
 (.seq (.ops [o 3 (.mkclo 166 [] [.t 1]), mt 2 3] [2])
 (.ret))⟩

def c135 : AFunc := ⟨11, [.tmp 4, .tmp 5],
 .seq (.ops [o 4 (.mv (cs [])), o 5 (.mv (cb false))] [0, 1])
 (.seq (.ops [mt 6 0, mt 7 1, o 8 (.call true true 0 (.fn 168) [.t 6, .t 7]), o 9 (.ext (.t 8) 0), o 10 (.ext (.t 8) 1), mt 4 9, mt 5 10] [4, 5])
 (.ret))⟩

def c136 : AFunc := ⟨8, [.tmp 4],
 .seq (.ops [o 4 (.mv (cn))] [0, 1])
 (.seq (.ops [mt 5 0, mt 6 1, o 7 (.call true false 0 (.fn 169) [.t 5, .t 6, ci 0, ci (-1)]), mt 4 7] [4])
 (.ret))⟩

def c137 : AFunc := ⟨44, [.tmp 2],
 .seq (.ops [o 2 (.mv (ci 0))] [0])
 (.seq (.seq (.ops [mt 5 0, o 6 (.nilck (.t 5)), o 7 (.fadr 0 (.t 6)), o 8 (.ld false 1 (.t 7)), o 9 (.len 1 (.t 8)), o 10 (.bin .eql (.t 9) (ci 0))] [0, 10])
 (.cond (.t 10)
 (.seq (.ops [mt 11 0, o 12 (.nilck (.t 11)), o 13 (.fadr 1 (.t 12)), u (.st 1 (.t 13) (cb true))] [])
 (.seq (.ops [o 2 (.mv (ci 0))] [2])
 (.ret)))
 (.skip)))
 (.seq (.ops [mt 15 0, o 16 (.nilck (.t 15)), o 17 (.fadr 0 (.t 16)), o 18 (.ld false 1 (.t 17)), o 19 (.iadr 1 (.t 18) (ci 0)), o 20 (.ld false 1 (.t 19)), o 21 (.call true true 0 (.fn 170) [.t 20]), mt 14 21, o 22 (.ext (.t 14) 0), o 23 (.ext (.t 14) 1), mt 3 22, mt 4 23] [0, 3, 4])
 (.seq (.ops [mt 24 0, mt 25 0, o 26 (.nilck (.t 25)), o 27 (.fadr 0 (.t 26)), o 28 (.ld false 1 (.t 27)), o 29 (.slc 1 (.t 28) (some (ci 1)) none), o 30 (.nilck (.t 24)), o 31 (.fadr 0 (.t 30)), u (.st 1 (.t 31) (.t 29))] [0, 3, 4])
 (.seq (.ops [mt 32 0, mt 33 0, o 34 (.nilck (.t 33)), o 35 (.fadr 1 (.t 34)), o 36 (.ld false 1 (.t 35)), mt 37 36, ⟨some 38, .mv (.t 4), some (37, false)⟩, ⟨some 39, .not (.t 38), some (37, false)⟩, o 40 (.pick (.t 37) (cb true) (.t 39)), o 41 (.nilck (.t 32)), o 42 (.fadr 1 (.t 41)), u (.st 1 (.t 42) (.t 40))] [3])
 (.seq (.ops [mt 43 3, mt 2 43] [2])
 (.ret))))))⟩

def c140L0 : ACode :=
 .seq (.seq (.ops [mt 9 5, mt 10 1, o 11 (.len 1 (.t 10)), o 12 (.bin .lss (.t 9) (.t 11))] [1, 5, 12])
 (.cond (.t 12)
 (.skip)
 (.exit 0)))
 (.seq (.block 1 (.seq (.opsd [(0, 1), (1, 1), (2, 1), (3, 1), (4, 1), (5, 1), (6, 1), (7, 1), (8, 1), (9, 1)] [mt 15 1, mt 16 5, o 17 (.iadr 1 (.t 15) (.t 16)), o 18 (.ld false 1 (.t 17)), mt 19 1, mt 20 5, o 21 (.bin .sub (.t 20) (ci 1)), o 22 (.iadr 1 (.t 19) (.t 21)), o 23 (.ld false 1 (.t 22)), o 24 (.bin .leq (.t 18) (.t 23))] [1, 5, 24])
 (.cond (.t 24)
 (.seq (.ops [o 4 (.mv (ci 11))] [4])
 (.ret))
 (.skip))))
 (.ops [mt 13 5, o 14 (.bin .add (.t 13) (ci 1)), mt 5 14] [1, 5]))
def c140 : AFunc := ⟨25, [.tmp 4],
 .seq (.ops [o 2 (.box false (.t 0)), o 4 (.mv (ci 0))] [1, 2])
 (.seq (.seq (.ops [mt 6 1, o 7 (.mkclo 172 [] [.t 2]), o 8 (.call true true 0 (.fn 171) [.t 6, .t 7])] [1, 8])
 (.cond (.t 8)
 (.seq (.ops [o 4 (.mv (ci 10))] [4])
 (.ret))
 (.skip)))
 (.seq (.seq (.ops [o 5 (.mv (ci 1))] [1, 5])
 (.block 0 (.loop false [1, 5] c140L0)))
 (.seq (.ops [o 4 (.mv (ci 0))] [4])
 (.ret))))⟩

def c141 : AFunc := ⟨5, [.tmp 2],
 .seq (.ops [o 1 (.box true (.t 0)), o 2 (.mv (ci 0))] [1])
 (.seq (.ops [o 3 (.ld true 2 (.t 1)), o 4 (.call true true 0 (.fn 105) [.t 3, ci 0, ci 10000000]), mt 2 4] [2])
 (.ret))⟩

def c142 : AFunc := ⟨8, [.tmp 2],
 .seq (.ops [o 1 (.box true (.t 0)), o 2 (.mv (ci 0))] [1])
 (.seq (.ops [o 3 (.fadr 1 (.t 1)), o 4 (.ld false 1 (.t 3)), o 5 (.fadr 2 (.t 1)), o 6 (.ld false 1 (.t 5)), o 7 (.bin .mul (.t 4) (.t 6)), mt 2 7] [2])
 (.ret))⟩

def c143 : AFunc := ⟨26, [.tmp 4],
 .seq (.ops [o 2 (.box false (.t 0)), o 3 (.box false (.t 1)), o 4 (.mv (ci 0))] [2, 3])
 (.seq (.opsd [(0, 1), (1, 1), (2, 1), (3, 1), (4, 1), (5, 1), (6, 1), (7, 1), (8, 1), (9, 1), (10, 1), (11, 1), (12, 1), (13, 1), (14, 1), (15, 1), (16, 1), (17, 1), (18, 0), (19, 0), (20, 0), (21, 1)] [o 5 (.fadr 0 (.t 2)), o 6 (.fadr 0 (.t 5)), o 7 (.ld false 1 (.t 6)), o 8 (.fadr 0 (.t 3)), o 9 (.fadr 0 (.t 8)), o 10 (.ld false 1 (.t 9)), o 11 (.call true true 0 (.fn 174) [.t 7, .t 10]), o 12 (.fadr 2 (.t 2)), o 13 (.ld false 1 (.t 12)), o 14 (.len 1 (.t 13)), o 15 (.fadr 2 (.t 3)), o 16 (.ld false 1 (.t 15)), o 17 (.len 1 (.t 16)), o 18 (.call true true 0 (.fn 174) [.t 14, .t 17]), o 19 (.fadr 2 (.t 2)), o 20 (.ld false 1 (.t 19)), o 21 (.fadr 2 (.t 3)), o 22 (.ld false 1 (.t 21)), o 23 (.call true true 0 (.fn 175) [.t 20, .t 22]), o 24 (.bslice false 1 zl5 3 [(0, .t 11), (1, .t 18), (2, .t 23)]), o 25 (.call true true 0 (.fn 173) [.t 24]), mt 4 25] [4])
 (.ret))⟩

def c144 : AFunc := ⟨4, [.tmp 2],
 .seq (.ops [o 1 (.box false (.t 0)), o 2 (.mv (.c (.p (.nilf))))] [1])
 (.seq (.ops [o 3 (.mkclo 176 [] [.t 1]), mt 2 3] [2])
 (.ret))⟩

def c145 : AFunc := ⟨7, [.tmp 2],
 .seq (.ops [o 2 (.mv (ci 0))] [0])
 (.seq (.ops [mt 3 0, o 4 (.call true true 0 (.fn 177) [.t 3]), o 5 (.not (.t 4)), o 6 (.call true true 0 (.fn 46) [.t 5, ci 8]), mt 2 6] [2])
 (.ret))⟩

def c146L0 : ACode :=
 .seq (.seq (.ops [mt 6 5, mt 7 0, o 8 (.len 1 (.t 7)), o 9 (.bin .lss (.t 6) (.t 8))] [0, 1, 5, 9])
 (.cond (.t 9)
 (.skip)
 (.exit 0)))
 (.seq (.block 1 (.seq (.ops [mt 12 0, mt 13 5, o 14 (.iadr 1 (.t 12) (.t 13)), o 15 (.ld false 1 (.t 14)), mt 16 1, o 17 (.bin .eql (.t 15) (.t 16))] [0, 1, 5, 17])
 (.cond (.t 17)
 (.seq (.ops [o 4 (.mv (cb true))] [4])
 (.ret))
 (.skip))))
 (.ops [mt 10 5, o 11 (.bin .add (.t 10) (ci 1)), mt 5 11] [0, 1, 5]))
def c146 : AFunc := ⟨18, [.tmp 4],
 .seq (.ops [o 4 (.mv (cb false))] [0, 1])
 (.seq (.seq (.ops [o 5 (.mv (ci 0))] [0, 1, 5])
 (.block 0 (.loop false [0, 1, 5] c146L0)))
 (.seq (.ops [o 4 (.mv (cb false))] [4])
 (.ret)))⟩

def c149L0 : ACode :=
 .seq (.ops [o 8 (.nxt (.t 7) true), o 9 (.ext (.t 8) 0)] [0, 7, 8, 9])
 (.seq (.cond (.t 9)
 (.skip)
 (.exit 0))
 (.block 1 (.seq (.ops [o 10 (.ext (.t 8) 1), o 11 (.ext (.t 8) 2), mt 3 10, mt 4 11] [0, 3, 4, 7])
 (.seq (.ops [mt 12 4, o 13 (.bin .geq (.t 12) (.c (.p (.int .i32 97)))), mt 14 13, ⟨some 15, .mv (.t 4), some (14, true)⟩, ⟨some 16, .bin .leq (.t 15) (.c (.p (.int .i32 122))), some (14, true)⟩, o 17 (.pick (.t 14) (.t 16) (cb false)), mt 18 17, ⟨some 19, .mv (.t 4), some (18, false)⟩, ⟨some 20, .bin .geq (.t 19) (.c (.p (.int .i32 65))), some (18, false)⟩, ⟨some 21, .mv (.t 20), some (18, false)⟩, ⟨some 22, .mv (.t 4), some (21, true)⟩, ⟨some 23, .bin .leq (.t 22) (.c (.p (.int .i32 90))), some (21, true)⟩, ⟨some 24, .pick (.t 21) (.t 23) (cb false), some (18, false)⟩, o 25 (.pick (.t 18) (cb true) (.t 24)), mt 5 25] [0, 3, 4, 5, 7])
 (.seq (.ops [mt 26 5, o 27 (.not (.t 26)), mt 28 27, ⟨some 29, .mv (.t 3), some (28, true)⟩, ⟨some 30, .bin .eql (.t 29) (ci 0), some (28, true)⟩, ⟨some 31, .mv (.t 30), some (28, true)⟩, ⟨some 32, .mv (.t 4), some (31, false)⟩, ⟨some 33, .bin .neq (.t 32) (.c (.p (.int .i32 95))), some (31, false)⟩, ⟨some 34, .mv (.t 33), some (31, false)⟩, ⟨some 35, .mv (.t 4), some (34, true)⟩, ⟨some 36, .bin .lss (.t 35) (.c (.p (.int .i32 48))), some (34, true)⟩, ⟨some 37, .mv (.t 36), some (34, true)⟩, ⟨some 38, .mv (.t 4), some (37, false)⟩, ⟨some 39, .bin .gtr (.t 38) (.c (.p (.int .i32 57))), some (37, false)⟩, ⟨some 40, .pick (.t 37) (cb true) (.t 39), some (34, true)⟩, ⟨some 41, .pick (.t 34) (.t 40) (cb false), some (31, false)⟩, ⟨some 42, .pick (.t 31) (cb true) (.t 41), some (28, true)⟩, o 43 (.pick (.t 28) (.t 42) (cb false))] [0, 7, 43])
 (.cond (.t 43)
 (.seq (.ops [o 2 (.mv (cb false))] [2])
 (.ret))
 (.skip)))))))
def c149 : AFunc := ⟨51, [.tmp 2],
 .seq (.ops [o 2 (.mv (cb false))] [0])
 (.seq (.seq (.ops [mt 6 0, o 7 (.rngs (.t 6))] [0, 7])
 (.block 0 (.loop false [0, 7] c149L0)))
 (.seq (.ops [mt 44 0, o 45 (.bin .neq (.t 44) (cs [])), mt 46 45, ⟨some 47, .mv (.t 0), some (46, true)⟩, ⟨some 48, .len 0 (.t 47), some (46, true)⟩, ⟨some 49, .bin .leq (.t 48) (ci 24), some (46, true)⟩, o 50 (.pick (.t 46) (.t 49) (cb false)), mt 2 50] [2])
 (.ret)))⟩

def c150L0 : ACode :=
 .seq (.ops [o 9 (.bin .lss (.t 8) (.t 7))] [0, 1, 7, 8, 9])
 (.seq (.cond (.t 9)
 (.skip)
 (.exit 0))
 (.seq (.block 1 (.seq (.ops [mt 10 8, mt 5 10] [0, 1, 5, 7, 8])
 (.seq (.ops [mt 11 1, mt 12 0, mt 13 5, o 14 (.iadr 2 (.t 12) (.t 13)), o 15 (.ld true 2 (.t 14)), o 16 (.call false true 0 (.val (.t 11)) [.t 15])] [0, 1, 5, 7, 8, 16])
 (.cond (.t 16)
 (.seq (.ops [mt 17 5, mt 4 17] [4])
 (.ret))
 (.skip)))))
 (.ops [o 18 (.bin .add (.t 8) (ci 1)), mt 8 18] [0, 1, 7, 8])))
def c150 : AFunc := ⟨19, [.tmp 4],
 .seq (.ops [o 4 (.mv (ci 0))] [0, 1])
 (.seq (.seq (.ops [mt 6 0, o 7 (.len 1 (.t 6)), o 8 (.mv (ci 0))] [0, 1, 7, 8])
 (.block 0 (.loop true [0, 1, 7, 8] c150L0)))
 (.seq (.ops [o 4 (.mv (ci (-1)))] [4])
 (.ret)))⟩

def c151 : AFunc := ⟨6, [.tmp 2],
 .seq (.ops [o 2 (.mv (ci 0))] [0])
 (.seq (.ops [mt 3 0, o 4 (.call true false 0 (.fn 178) [.t 3, cf 179]), o 5 (.call true true 0 (.fn 92) [.t 4]), mt 2 5] [2])
 (.ret))⟩

def c152L0 : ACode :=
 .seq (.ops [o 11 (.bin .lss (.t 10) (.t 9))] [1, 5, 8, 9, 10, 11])
 (.seq (.cond (.t 11)
 (.skip)
 (.exit 0))
 (.seq (.block 1 (.seq (.ops [o 12 (.iadr 1 (.t 8) (.t 10)), o 13 (.ld false 1 (.t 12)), mt 7 13] [1, 5, 7, 8, 9, 10])
 (.ops [mt 14 5, mt 15 1, mt 16 7, o 17 (.call false true 0 (.val (.t 15)) [.t 16]), o 18 (.bslice false 1 zl5 1 [(0, .t 17)]), o 19 (.app 1 8 zl5 (.t 14) (.t 18)), mt 5 19] [1, 5, 8, 9, 10])))
 (.ops [o 20 (.bin .add (.t 10) (ci 1)), mt 10 20] [1, 5, 8, 9, 10])))
def c152 : AFunc := ⟨22, [.tmp 4],
 .seq (.ops [o 4 (.mv (cn))] [0, 1])
 (.seq (.ops [o 5 (.nilown 1)] [0, 1, 5])
 (.seq (.seq (.ops [mt 8 0, o 9 (.len 1 (.t 8)), o 10 (.mv (ci 0))] [1, 5, 8, 9, 10])
 (.block 0 (.loop true [1, 5, 8, 9, 10] c152L0)))
 (.seq (.ops [mt 21 5, mt 4 21] [4])
 (.ret))))⟩

def c153 : AFunc := ⟨8, [.tmp 3],
 .seq (.ops [o 3 (.mv (ci 0))] [0, 1])
 (.seq (.ops [o 4 (.ld false 1 (.t 1)), mt 5 0, o 6 (.bin .add (.t 4) (.t 5)), u (.st 1 (.t 1) (.t 6))] [1])
 (.seq (.ops [o 7 (.ld false 1 (.t 1)), mt 3 7] [3])
 (.ret)))⟩

def c154 : AFunc := ⟨18, [.tmp 6],
 .seq (.ops [o 3 (.box true (.t 0)), o 6 (.mv (cb false))] [1, 2, 3])
 (.seq (.opsd [(0, 1), (1, 1), (2, 1), (3, 1), (4, 1), (5, 1), (6, 1), (7, 1), (8, 1), (9, 1), (10, 1), (11, 1)] [o 7 (.ld true 5 (.t 3)), mt 8 1, o 9 (.fadr 0 (.t 3)), o 10 (.fadr 1 (.t 9)), o 11 (.ld false 1 (.t 10)), mt 12 2, o 13 (.call true true 0 (.fn 96) [.t 7, .t 8, .t 11, .t 12]), o 14 (.call true true 0 (.fn 161) [.t 13]), o 15 (.fadr 4 (.t 3)), o 16 (.ld false 1 (.t 15)), o 17 (.bin .leq (.t 14) (.t 16)), mt 6 17] [6])
 (.ret))⟩

def c155 : AFunc := ⟨4, [.cell 0 true 4],
 .seq (.ops [o 0 (.alloc false 2 [.p (.nilf), .p (.int .i64 0), .p (.nilf), .p (.int .i64 0)])] [0])
 (.seq (.ops [o 1 (.build zl4 [(0, 1, cf 180), (1, 1, ci 1)]), o 2 (.build zl4 [(0, 1, cf 181), (1, 1, ci (-1))]), o 3 (.build [.p (.nilf), .p (.int .i64 0), .p (.nilf), .p (.int .i64 0)] [(0, 2, .t 1), (2, 2, .t 2)]), u (.st 4 (.t 0) (.t 3))] [0])
 (.ret))⟩

def c156L0 : ACode :=
 .seq (.ops [o 11 (.bin .lss (.t 10) (.t 9))] [1, 5, 8, 9, 10, 11])
 (.seq (.cond (.t 11)
 (.skip)
 (.exit 0))
 (.seq (.block 1 (.seq (.ops [o 12 (.iadr 1 (.t 8) (.t 10)), o 13 (.ld false 1 (.t 12)), mt 7 13] [1, 5, 7, 8, 9, 10])
 (.ops [mt 14 5, mt 15 1, mt 16 7, o 17 (.call false true 0 (.val (.t 15)) [.t 16]), o 18 (.bslice false 1 zl5 1 [(0, .t 17)]), o 19 (.app 1 8 zl5 (.t 14) (.t 18)), mt 5 19] [1, 5, 8, 9, 10])))
 (.ops [o 20 (.bin .add (.t 10) (ci 1)), mt 10 20] [1, 5, 8, 9, 10])))
def c156 : AFunc := ⟨22, [.tmp 4],
 .seq (.ops [o 4 (.mv (cn))] [0, 1])
 (.seq (.ops [o 5 (.nilown 1)] [0, 1, 5])
 (.seq (.seq (.ops [mt 8 0, o 9 (.len 1 (.t 8)), o 10 (.mv (ci 0))] [1, 5, 8, 9, 10])
 (.block 0 (.loop true [1, 5, 8, 9, 10] c156L0)))
 (.seq (.ops [mt 21 5, mt 4 21] [4])
 (.ret))))⟩

def c157 : AFunc := ⟨16, [.tmp 3],
 .seq (.ops [o 3 (.mv (ci 0))] [0, 1])
 (.seq (.opsd [(0, 1), (1, 1), (2, 1), (3, 5), (4, 1), (5, 1), (6, 1), (7, 1), (8, 1), (9, 0), (10, 0), (11, 0), (12, 1)] [mt 4 0, o 5 (.call true true 0 (.fn 110) [.t 4]), mt 6 0, o 7 (.len 1 (.t 6)), o 8 (.ld false 1 (.t 1)), o 9 (.iadr 1 (.t 8) (ci 0)), o 10 (.ld false 1 (.t 9)), o 11 (.len 1 (.t 10)), o 12 (.bin .neq (.t 7) (.t 11)), o 13 (.call true true 0 (.fn 107) [.t 12, ci 2]), o 14 (.bslice false 1 zl5 2 [(0, .t 5), (1, .t 13)]), o 15 (.call true true 0 (.fn 92) [.t 14]), mt 3 15] [3])
 (.ret))⟩

def c158L0 : ACode :=
 .seq (.ops [o 11 (.bin .lss (.t 10) (.t 9))] [1, 5, 8, 9, 10, 11])
 (.seq (.cond (.t 11)
 (.skip)
 (.exit 0))
 (.seq (.block 1 (.seq (.ops [o 12 (.iadr 1 (.t 8) (.t 10)), o 13 (.ld false 1 (.t 12)), mt 7 13] [1, 5, 7, 8, 9, 10])
 (.ops [mt 14 5, mt 15 1, mt 16 7, o 17 (.call false true 0 (.val (.t 15)) [.t 16]), o 18 (.bslice false 1 zl5 1 [(0, .t 17)]), o 19 (.app 1 8 zl5 (.t 14) (.t 18)), mt 5 19] [1, 5, 8, 9, 10])))
 (.ops [o 20 (.bin .add (.t 10) (ci 1)), mt 10 20] [1, 5, 8, 9, 10])))
def c158 : AFunc := ⟨22, [.tmp 4],
 .seq (.ops [o 4 (.mv (cn))] [0, 1])
 (.seq (.ops [o 5 (.nilown 1)] [0, 1, 5])
 (.seq (.seq (.ops [mt 8 0, o 9 (.len 1 (.t 8)), o 10 (.mv (ci 0))] [1, 5, 8, 9, 10])
 (.block 0 (.loop true [1, 5, 8, 9, 10] c158L0)))
 (.seq (.ops [mt 21 5, mt 4 21] [4])
 (.ret))))⟩

def c159 : AFunc := ⟨8, [.tmp 3],
 .seq (.ops [o 3 (.mv (ci 0))] [0, 1])
 (.seq (.ops [mt 4 0, o 5 (.ld false 1 (.t 1)), o 6 (.iadr 1 (.t 4) (.t 5)), o 7 (.ld false 1 (.t 6)), mt 3 7] [3])
 (.ret))⟩

def c160L0 : ACode :=
 .seq (.seq (.ops [mt 12 4, mt 13 0, o 14 (.len 1 (.t 13)), o 15 (.bin .lss (.t 12) (.t 14))] [0, 3, 4, 15])
 (.cond (.t 15)
 (.skip)
 (.exit 0)))
 (.seq (.block 1 (.ops [mt 18 3, mt 19 0, mt 20 4, o 21 (.iadr 1 (.t 19) (.t 20)), o 22 (.ld false 1 (.t 21)), o 23 (.min [.t 18, .t 22]), mt 3 23] [0, 3, 4]))
 (.ops [mt 16 4, o 17 (.bin .add (.t 16) (ci 1)), mt 4 17] [0, 3, 4]))
def c160 : AFunc := ⟨25, [.tmp 2],
 .seq (.ops [o 2 (.mv (ci 0))] [0])
 (.seq (.seq (.ops [mt 5 0, o 6 (.len 1 (.t 5)), o 7 (.bin .lss (.t 6) (ci 1))] [0, 7])
 (.cond (.t 7)
 (.ops [o 8 (.fail), u (.fail)] [0])
 (.skip)))
 (.seq (.ops [mt 9 0, o 10 (.iadr 1 (.t 9) (ci 0)), o 11 (.ld false 1 (.t 10)), mt 3 11] [0, 3])
 (.seq (.seq (.ops [o 4 (.mv (ci 1))] [0, 3, 4])
 (.block 0 (.loop false [0, 3, 4] c160L0)))
 (.seq (.ops [mt 24 3, mt 2 24] [2])
 (.ret)))))⟩

def c161L0 : ACode :=
 .seq (.seq (.ops [mt 12 4, mt 13 0, o 14 (.len 1 (.t 13)), o 15 (.bin .lss (.t 12) (.t 14))] [0, 3, 4, 15])
 (.cond (.t 15)
 (.skip)
 (.exit 0)))
 (.seq (.block 1 (.ops [mt 18 3, mt 19 0, mt 20 4, o 21 (.iadr 1 (.t 19) (.t 20)), o 22 (.ld false 1 (.t 21)), o 23 (.max [.t 18, .t 22]), mt 3 23] [0, 3, 4]))
 (.ops [mt 16 4, o 17 (.bin .add (.t 16) (ci 1)), mt 4 17] [0, 3, 4]))
def c161 : AFunc := ⟨25, [.tmp 2],
 .seq (.ops [o 2 (.mv (ci 0))] [0])
 (.seq (.seq (.ops [mt 5 0, o 6 (.len 1 (.t 5)), o 7 (.bin .lss (.t 6) (ci 1))] [0, 7])
 (.cond (.t 7)
 (.ops [o 8 (.fail), u (.fail)] [0])
 (.skip)))
 (.seq (.ops [mt 9 0, o 10 (.iadr 1 (.t 9) (ci 0)), o 11 (.ld false 1 (.t 10)), mt 3 11] [0, 3])
 (.seq (.seq (.ops [o 4 (.mv (ci 1))] [0, 3, 4])
 (.block 0 (.loop false [0, 3, 4] c161L0)))
 (.seq (.ops [mt 24 3, mt 2 24] [2])
 (.ret)))))⟩

def c166L0 : ACode :=
 .seq (.seq (.ops [o 5 (.ld false 1 (.t 1)), o 6 (.len 0 (.t 5)), o 7 (.bin .gtr (.t 6) (ci 0))] [0, 1, 7])
 (.cond (.t 7)
 (.skip)
 (.exit 0)))
 (.block 1 (.seq (.ops [o 3 (.mv (cs []))] [0, 1])
 (.seq (.seq (.ops [o 8 (.ld false 1 (.t 1)), o 9 (.call true true 0 (.fn 167) [.t 8, .c (.p (.int .u8 10))]), mt 4 9] [0, 1, 4])
 (.seq (.ops [mt 10 4, o 11 (.bin .geq (.t 10) (ci 0))] [0, 1, 4, 11])
 (.cond (.t 11)
 (.opsd [(0, 1), (1, 1), (2, 1), (3, 1), (4, 1), (5, 1), (6, 1), (7, 1), (8, 1), (9, 0)] [o 12 (.ld false 1 (.t 1)), mt 13 4, o 14 (.bin .add (.t 13) (ci 1)), o 15 (.slcs (.t 12) none (some (.t 14))), o 16 (.ld false 1 (.t 1)), mt 17 4, o 18 (.bin .add (.t 17) (ci 1)), o 19 (.slcs (.t 16) (some (.t 18)) none), mt 3 15, u (.st 1 (.t 1) (.t 19))] [0, 1, 3])
 (.ops [o 20 (.ld false 1 (.t 1)), mt 3 20, u (.st 1 (.t 1) (cs []))] [0, 1, 3]))))
 (.seq (.ops [mt 21 0, mt 22 3, o 23 (.call false true 0 (.val (.t 21)) [.t 22]), o 24 (.not (.t 23))] [0, 1, 24])
 (.cond (.t 24)
 (.ret)
 (.skip))))))
def c166 : AFunc := ⟨25, [],
 .block 0 (.loop true [0, 1] c166L0)⟩

def c167 : AFunc := ⟨8, [.tmp 4],
 .seq (.ops [o 4 (.mv (ci 0))] [0, 1])
 (.seq (.ops [mt 5 0, mt 6 1, o 7 (.call true true 0 (.fn 185) [.t 5, .t 6]), mt 4 7] [4])
 (.ret))⟩

def c168 : AFunc := ⟨18, [.tmp 4, .tmp 5],
 .seq (.ops [o 4 (.mv (cs [])), o 5 (.mv (cb false))] [0, 1])
 (.seq (.seq (.ops [mt 6 0, mt 7 1, o 8 (.call true true 0 (.fn 186) [.t 6, .t 7]), o 9 (.not (.t 8))] [0, 1, 9])
 (.cond (.t 9)
 (.seq (.ops [mt 10 0, mt 4 10, o 5 (.mv (cb false))] [4, 5])
 (.ret))
 (.skip)))
 (.seq (.ops [mt 11 0, mt 12 0, o 13 (.len 0 (.t 12)), mt 14 1, o 15 (.len 0 (.t 14)), o 16 (.bin .sub (.t 13) (.t 15)), o 17 (.slcs (.t 11) none (some (.t 16))), mt 4 17, o 5 (.mv (cb true))] [4, 5])
 (.ret)))⟩

def c169L0 : ACode :=
 .seq (.seq (.ops [mt 34 10, mt 35 3, o 36 (.bin .lss (.t 34) (.t 35))] [0, 1, 2, 3, 9, 10, 36])
 (.cond (.t 36)
 (.skip)
 (.exit 0)))
 (.block 1 (.seq (.ops [mt 37 0, mt 38 1, o 39 (.call true true 0 (.fn 189) [.t 37, .t 38]), mt 11 39] [0, 1, 2, 3, 9, 10, 11])
 (.seq (.seq (.ops [mt 40 11, o 41 (.bin .lss (.t 40) (ci 0))] [0, 1, 2, 3, 9, 10, 11, 41])
 (.cond (.t 41)
 (.exit 0)
 (.skip)))
 (.seq (.ops [mt 42 9, mt 43 10, mt 44 0, mt 45 11, mt 46 2, o 47 (.bin .add (.t 45) (.t 46)), o 48 (.slcs (.t 44) none (some (.t 47))), o 49 (.iadr 1 (.t 42) (.t 43)), u (.st 1 (.t 49) (.t 48))] [0, 1, 2, 3, 9, 10, 11])
 (.seq (.ops [mt 50 0, mt 51 11, mt 52 1, o 53 (.len 0 (.t 52)), o 54 (.bin .add (.t 51) (.t 53)), o 55 (.slcs (.t 50) (some (.t 54)) none), mt 0 55] [0, 1, 2, 3, 9, 10])
 (.ops [mt 56 10, o 57 (.bin .add (.t 56) (ci 1)), mt 10 57] [0, 1, 2, 3, 9, 10]))))))
def c169 : AFunc := ⟨66, [.tmp 8],
 .seq (.ops [o 8 (.mv (cn))] [0, 1, 2, 3])
 (.seq (.seq (.ops [mt 12 3, o 13 (.bin .eql (.t 12) (ci 0))] [0, 1, 2, 3, 13])
 (.cond (.t 13)
 (.seq (.ops [o 8 (.mv (cn))] [8])
 (.ret))
 (.skip)))
 (.seq (.seq (.ops [mt 14 1, o 15 (.bin .eql (.t 14) (cs []))] [0, 1, 2, 3, 15])
 (.cond (.t 15)
 (.seq (.ops [mt 16 0, mt 17 3, o 18 (.call true false 0 (.fn 187) [.t 16, .t 17]), mt 8 18] [8])
 (.ret))
 (.skip)))
 (.seq (.seq (.ops [mt 19 3, o 20 (.bin .lss (.t 19) (ci 0))] [0, 1, 2, 3, 20])
 (.cond (.t 20)
 (.ops [mt 21 0, mt 22 1, o 23 (.call true true 0 (.fn 188) [.t 21, .t 22]), o 24 (.bin .add (.t 23) (ci 1)), mt 3 24] [0, 1, 2, 3])
 (.skip)))
 (.seq (.ops [mt 25 3, mt 26 0, o 27 (.len 0 (.t 26)), o 28 (.bin .add (.t 27) (ci 1)), o 29 (.min [.t 25, .t 28]), mt 3 29] [0, 1, 2, 3])
 (.seq (.ops [mt 30 3, o 31 (.mkslice 1 zl6 (.t 30) (.t 30)), mt 9 31] [0, 1, 2, 3, 9])
 (.seq (.ops [mt 32 3, o 33 (.bin .sub (.t 32) (ci 1)), mt 3 33] [0, 1, 2, 3, 9])
 (.seq (.ops [o 10 (.mv (ci 0))] [0, 1, 2, 3, 9, 10])
 (.seq (.block 0 (.loop false [0, 1, 2, 3, 9, 10] c169L0))
 (.seq (.ops [mt 58 9, mt 59 10, mt 60 0, o 61 (.iadr 1 (.t 58) (.t 59)), u (.st 1 (.t 61) (.t 60))] [9, 10])
 (.seq (.ops [mt 62 9, mt 63 10, o 64 (.bin .add (.t 63) (ci 1)), o 65 (.slc 1 (.t 62) none (some (.t 64))), mt 8 65] [8])
 (.ret)))))))))))⟩

def c170L0 : ACode :=
 .seq (.ops [o 9 (.nxt (.t 8) true), o 10 (.ext (.t 9) 0)] [0, 4, 8, 9, 10])
 (.seq (.cond (.t 10)
 (.skip)
 (.exit 0))
 (.block 1 (.seq (.ops [o 11 (.ext (.t 9) 2), mt 6 11] [0, 4, 6, 8])
 (.seq (.seq (.ops [mt 12 6, o 13 (.bin .lss (.t 12) (.c (.p (.int .i32 48)))), mt 14 13, ⟨some 15, .mv (.t 6), some (14, false)⟩, ⟨some 16, .bin .gtr (.t 15) (.c (.p (.int .i32 57))), some (14, false)⟩, o 17 (.pick (.t 14) (cb true) (.t 16)), mt 18 17, ⟨some 19, .mv (.t 0), some (18, false)⟩, ⟨some 20, .len 0 (.t 19), some (18, false)⟩, ⟨some 21, .bin .gtr (.t 20) (ci 9), some (18, false)⟩, o 22 (.pick (.t 18) (cb true) (.t 21))] [0, 4, 6, 8, 22])
 (.cond (.t 22)
 (.seq (.ops [o 2 (.mv (ci 0)), o 3 (.mv (cb false))] [2, 3])
 (.ret))
 (.skip)))
 (.ops [mt 23 4, o 24 (.bin .mul (ci 10) (.t 23)), mt 25 6, o 26 (.bin .sub (.t 25) (.c (.p (.int .i32 48)))), o 27 (.conv (.int .i64) (.t 26)), o 28 (.bin .add (.t 24) (.t 27)), mt 4 28] [0, 4, 8])))))
def c170 : AFunc := ⟨42, [.tmp 2, .tmp 3],
 .seq (.ops [o 2 (.mv (ci 0)), o 3 (.mv (cb false))] [0])
 (.seq (.ops [o 4 (.mv (ci 0))] [0, 4])
 (.seq (.seq (.ops [mt 7 0, o 8 (.rngs (.t 7))] [0, 4, 8])
 (.block 0 (.loop false [0, 4, 8] c170L0)))
 (.seq (.opsd [(0, 1), (1, 1), (2, 1), (3, 1), (4, 1), (5, 1), (6, 1), (7, 1), (8, 1), (9, 1), (10, 1), (11, 1), (12, 1), (13, 1), (14, 1)] [mt 29 4, mt 30 0, o 31 (.bin .neq (.t 30) (cs [])), mt 32 31, ⟨some 33, .mv (.t 0), some (32, true)⟩, ⟨some 34, .len 0 (.t 33), some (32, true)⟩, ⟨some 35, .bin .eql (.t 34) (ci 1), some (32, true)⟩, ⟨some 36, .mv (.t 35), some (32, true)⟩, ⟨some 37, .mv (.t 0), some (36, false)⟩, ⟨some 38, .idxs (.t 37) (ci 0), some (36, false)⟩, ⟨some 39, .bin .neq (.t 38) (.c (.p (.int .u8 48))), some (36, false)⟩, ⟨some 40, .pick (.t 36) (cb true) (.t 39), some (32, true)⟩, o 41 (.pick (.t 32) (.t 40) (cb false)), mt 2 29, mt 3 41] [2, 3])
 (.ret))))⟩

def c171 : AFunc := ⟨9, [.tmp 4],
 .seq (.ops [o 4 (.mv (cb false))] [0, 1])
 (.seq (.ops [mt 5 0, mt 6 1, o 7 (.call true true 0 (.fn 190) [.t 5, .t 6]), o 8 (.bin .geq (.t 7) (ci 0)), mt 4 8] [4])
 (.ret))⟩

def c172 : AFunc := ⟨12, [.tmp 3],
 .seq (.ops [o 3 (.mv (cb false))] [0, 1])
 (.seq (.ops [mt 4 0, o 5 (.bin .lss (.t 4) (ci 0)), mt 6 5, ⟨some 7, .mv (.t 0), some (6, false)⟩, ⟨some 8, .ld false 1 (.t 1), some (6, false)⟩, ⟨some 9, .len 1 (.t 8), some (6, false)⟩, ⟨some 10, .bin .geq (.t 7) (.t 9), some (6, false)⟩, o 11 (.pick (.t 6) (cb true) (.t 10)), mt 3 11] [3])
 (.ret))⟩

def c173L0 : ACode :=
 .seq (.ops [o 9 (.bin .lss (.t 8) (.t 7))] [3, 6, 7, 8, 9])
 (.seq (.cond (.t 9)
 (.skip)
 (.exit 0))
 (.seq (.block 1 (.seq (.ops [o 10 (.iadr 1 (.t 6) (.t 8)), o 11 (.ld false 1 (.t 10)), mt 5 11] [3, 5, 6, 7, 8])
 (.seq (.ops [mt 12 5, mt 13 3, o 14 (.bin .neq (.t 12) (.t 13))] [3, 5, 6, 7, 8, 14])
 (.cond (.t 14)
 (.seq (.ops [mt 15 5, mt 2 15] [2])
 (.ret))
 (.skip)))))
 (.ops [o 16 (.bin .add (.t 8) (ci 1)), mt 8 16] [3, 6, 7, 8])))
def c173 : AFunc := ⟨18, [.tmp 2],
 .seq (.ops [o 2 (.mv (ci 0))] [0])
 (.seq (.ops [o 3 (.mv (ci 0))] [0, 3])
 (.seq (.seq (.ops [mt 6 0, o 7 (.len 1 (.t 6)), o 8 (.mv (ci 0))] [3, 6, 7, 8])
 (.block 0 (.loop false [3, 6, 7, 8] c173L0)))
 (.seq (.ops [mt 17 3, mt 2 17] [2])
 (.ret))))⟩

def c174 : AFunc := ⟨20, [.tmp 4],
 .seq (.ops [o 4 (.mv (ci 0))] [0, 1])
 (.seq (.ops [mt 7 0, o 8 (.call true true 0 (.fn 191) [.t 7]), mt 5 8] [0, 1, 5])
 (.seq (.ops [mt 9 1, o 10 (.call true true 0 (.fn 191) [.t 9]), mt 6 10] [0, 1, 5, 6])
 (.seq (.seq (.ops [mt 11 5] [0, 1, 6, 11])
 (.cond (.t 11)
 (.seq (.seq (.ops [mt 12 6] [12])
 (.cond (.t 12)
 (.seq (.ops [o 4 (.mv (ci 0))] [4])
 (.ret))
 (.skip)))
 (.seq (.ops [o 4 (.mv (ci (-1)))] [4])
 (.ret)))
 (.skip)))
 (.seq (.seq (.ops [mt 13 6] [0, 1, 13])
 (.cond (.t 13)
 (.seq (.ops [o 4 (.mv (ci 1))] [4])
 (.ret))
 (.skip)))
 (.seq (.seq (.ops [mt 14 0, mt 15 1, o 16 (.bin .lss (.t 14) (.t 15))] [0, 1, 16])
 (.cond (.t 16)
 (.seq (.ops [o 4 (.mv (ci (-1)))] [4])
 (.ret))
 (.skip)))
 (.seq (.seq (.ops [mt 17 0, mt 18 1, o 19 (.bin .gtr (.t 17) (.t 18))] [19])
 (.cond (.t 19)
 (.seq (.ops [o 4 (.mv (ci 1))] [4])
 (.ret))
 (.skip)))
 (.seq (.ops [o 4 (.mv (ci 0))] [4])
 (.ret))))))))⟩

def c175L0 : ACode :=
 .seq (.ops [o 12 (.bin .lss (.t 11) (.t 10))] [0, 1, 9, 10, 11, 12])
 (.seq (.cond (.t 12)
 (.skip)
 (.exit 0))
 (.seq (.block 1 (.seq (.ops [mt 13 11, o 14 (.iadr 1 (.t 9) (.t 11)), o 15 (.ld false 1 (.t 14)), mt 5 13, mt 6 15] [0, 1, 5, 6, 9, 10, 11])
 (.seq (.seq (.ops [mt 16 5, mt 17 1, o 18 (.len 1 (.t 17)), o 19 (.bin .geq (.t 16) (.t 18))] [0, 1, 5, 6, 9, 10, 11, 19])
 (.cond (.t 19)
 (.seq (.ops [o 4 (.mv (ci 1))] [4])
 (.ret))
 (.skip)))
 (.seq (.ops [mt 20 1, mt 21 5, o 22 (.iadr 1 (.t 20) (.t 21)), o 23 (.ld false 1 (.t 22)), mt 7 23] [0, 1, 6, 7, 9, 10, 11])
 (.seq (.ops [mt 24 6, mt 25 7, o 26 (.call true true 0 (.fn 174) [.t 24, .t 25]), mt 8 26] [0, 1, 8, 9, 10, 11])
 (.seq (.ops [mt 27 8, o 28 (.bin .neq (.t 27) (ci 0))] [0, 1, 8, 9, 10, 11, 28])
 (.cond (.t 28)
 (.seq (.ops [mt 29 8, mt 4 29] [4])
 (.ret))
 (.skip))))))))
 (.ops [o 30 (.bin .add (.t 11) (ci 1)), mt 11 30] [0, 1, 9, 10, 11])))
def c175 : AFunc := ⟨36, [.tmp 4],
 .seq (.ops [o 4 (.mv (ci 0))] [0, 1])
 (.seq (.seq (.ops [mt 9 0, o 10 (.len 1 (.t 9)), o 11 (.mv (ci 0))] [0, 1, 9, 10, 11])
 (.block 0 (.loop false [0, 1, 9, 10, 11] c175L0)))
 (.seq (.seq (.ops [mt 31 0, o 32 (.len 1 (.t 31)), mt 33 1, o 34 (.len 1 (.t 33)), o 35 (.bin .lss (.t 32) (.t 34))] [35])
 (.cond (.t 35)
 (.seq (.ops [o 4 (.mv (ci (-1)))] [4])
 (.ret))
 (.skip)))
 (.seq (.ops [o 4 (.mv (ci 0))] [4])
 (.ret))))⟩

def c176L0 : ACode :=
 .seq (.ops [o 16 (.bin .lss (.t 15) (.t 14))] [0, 1, 3, 4, 9, 10, 13, 14, 15, 16])
 (.seq (.cond (.t 16)
 (.skip)
 (.exit 2))
 (.seq (.block 3 (.seq (.ops [mt 17 15, o 18 (.iadr 4 (.t 13) (.t 15)), o 19 (.ld true 4 (.t 18)), o 6 (.alloc true 1 zl0), mt 5 17, u (.st 4 (.t 6) (.t 19))] [0, 1, 3, 4, 5, 6, 9, 10, 13, 14, 15])
 (.seq (.ops [mt 20 3, mt 21 5, o 22 (.shift false (.t 20) (.t 21)), o 23 (.bin .and (.t 22) (ci 1)), o 24 (.bin .eql (.t 23) (ci 1))] [0, 1, 3, 4, 5, 6, 9, 10, 13, 14, 15, 24])
 (.cond (.t 24)
 (.seq (.ops [o 25 (.fadr 2 (.t 4)), o 26 (.ld false 1 (.t 25)), mt 27 5, o 28 (.bslice false 1 zl5 1 [(0, .t 27)]), o 29 (.app 1 8 zl5 (.t 26) (.t 28)), o 30 (.fadr 2 (.t 4)), u (.st 1 (.t 30) (.t 29))] [0, 1, 3, 4, 6, 9, 10, 13, 14, 15])
 (.seq (.ops [o 31 (.fadr 0 (.t 4)), o 32 (.fadr 0 (.t 31)), o 33 (.ld false 1 (.t 32)), o 34 (.fadr 3 (.t 6)), o 35 (.ld false 1 (.t 34)), o 36 (.bin .add (.t 33) (.t 35)), o 37 (.fadr 0 (.t 4)), o 38 (.fadr 0 (.t 37)), u (.st 1 (.t 38) (.t 36))] [0, 1, 3, 4, 6, 9, 10, 13, 14, 15])
 (.opsd [(0, 1), (1, 1), (2, 1), (3, 1), (4, 1), (5, 1), (6, 1), (7, 1), (8, 0)] [o 39 (.fadr 0 (.t 4)), o 40 (.fadr 1 (.t 39)), o 41 (.ld false 1 (.t 40)), o 42 (.ld true 4 (.t 6)), o 43 (.call true true 0 (.fn 142) [.t 42]), o 44 (.bin .add (.t 41) (.t 43)), o 45 (.fadr 0 (.t 4)), o 46 (.fadr 1 (.t 45)), u (.st 1 (.t 46) (.t 44))] [0, 1, 3, 4, 9, 10, 13, 14, 15])))
 (.skip)))))
 (.ops [o 47 (.bin .add (.t 15) (ci 1)), mt 15 47] [0, 1, 3, 4, 9, 10, 13, 14, 15])))
def c176L1 : ACode :=
 .seq (.ops [o 11 (.bin .lss (.t 10) (.t 9))] [0, 1, 9, 10, 11])
 (.seq (.cond (.t 11)
 (.skip)
 (.exit 0))
 (.seq (.block 1 (.seq (.ops [mt 12 10, mt 3 12] [0, 1, 3, 9, 10])
 (.seq (.ops [o 4 (.alloc false 1 zl2)] [0, 1, 3, 4, 9, 10])
 (.seq (.seq (.ops [o 13 (.ld false 1 (.t 1)), o 14 (.len 1 (.t 13)), o 15 (.mv (ci 0))] [0, 1, 3, 4, 9, 10, 13, 14, 15])
 (.block 2 (.loop true [0, 1, 3, 4, 9, 10, 13, 14, 15] c176L0)))
 (.seq (.ops [mt 48 0, o 49 (.ld true 3 (.t 4)), o 50 (.call false true 0 (.val (.t 48)) [.t 49]), o 51 (.not (.t 50))] [0, 1, 9, 10, 51])
 (.cond (.t 51)
 (.ret)
 (.skip)))))))
 (.ops [o 52 (.bin .add (.t 10) (ci 1)), mt 10 52] [0, 1, 9, 10])))
def c176 : AFunc := ⟨53, [],
 .seq (.ops [o 7 (.ld false 1 (.t 1)), o 8 (.len 1 (.t 7)), o 9 (.shift true (ci 1) (.t 8)), o 10 (.mv (ci 0))] [0, 1, 9, 10])
 (.block 0 (.loop true [0, 1, 9, 10] c176L1))⟩

def c177L0 : ACode :=
 .seq (.seq (.ops [mt 14 3, mt 15 0, o 16 (.len 0 (.t 15)), o 17 (.bin .lss (.t 14) (.t 16))] [0, 3, 17])
 (.cond (.t 17)
 (.skip)
 (.exit 0)))
 (.seq (.block 1 (.seq (.ops [mt 20 0, mt 21 3, o 22 (.idxs (.t 20) (.t 21)), o 23 (.bin .geq (.t 22) (.c (.p (.int .u8 65)))), mt 24 23, ⟨some 25, .mv (.t 0), some (24, true)⟩, ⟨some 26, .mv (.t 3), some (24, true)⟩, ⟨some 27, .idxs (.t 25) (.t 26), some (24, true)⟩, ⟨some 28, .bin .leq (.t 27) (.c (.p (.int .u8 90))), some (24, true)⟩, o 29 (.pick (.t 24) (.t 28) (cb false)), mt 30 29, ⟨some 31, .mv (.t 0), some (30, false)⟩, ⟨some 32, .mv (.t 3), some (30, false)⟩, ⟨some 33, .idxs (.t 31) (.t 32), some (30, false)⟩, ⟨some 34, .bin .geq (.t 33) (.c (.p (.int .u8 97))), some (30, false)⟩, ⟨some 35, .mv (.t 34), some (30, false)⟩, ⟨some 36, .mv (.t 0), some (35, true)⟩, ⟨some 37, .mv (.t 3), some (35, true)⟩, ⟨some 38, .idxs (.t 36) (.t 37), some (35, true)⟩, ⟨some 39, .bin .leq (.t 38) (.c (.p (.int .u8 122))), some (35, true)⟩, ⟨some 40, .pick (.t 35) (.t 39) (cb false), some (30, false)⟩, o 41 (.pick (.t 30) (cb true) (.t 40)), mt 4 41] [0, 3, 4])
 (.seq (.ops [mt 42 0, mt 43 3, o 44 (.idxs (.t 42) (.t 43)), o 45 (.bin .geq (.t 44) (.c (.p (.int .u8 48)))), mt 46 45, ⟨some 47, .mv (.t 0), some (46, true)⟩, ⟨some 48, .mv (.t 3), some (46, true)⟩, ⟨some 49, .idxs (.t 47) (.t 48), some (46, true)⟩, ⟨some 50, .bin .leq (.t 49) (.c (.p (.int .u8 57))), some (46, true)⟩, o 51 (.pick (.t 46) (.t 50) (cb false)), mt 52 51, ⟨some 53, .mv (.t 0), some (52, false)⟩, ⟨some 54, .mv (.t 3), some (52, false)⟩, ⟨some 55, .idxs (.t 53) (.t 54), some (52, false)⟩, ⟨some 56, .bin .eql (.t 55) (.c (.p (.int .u8 95))), some (52, false)⟩, o 57 (.pick (.t 52) (cb true) (.t 56)), mt 5 57] [0, 3, 4, 5])
 (.seq (.ops [mt 58 4, o 59 (.not (.t 58)), mt 60 59, ⟨some 61, .mv (.t 3), some (60, true)⟩, ⟨some 62, .bin .eql (.t 61) (ci 0), some (60, true)⟩, ⟨some 63, .mv (.t 62), some (60, true)⟩, ⟨some 64, .mv (.t 5), some (63, false)⟩, ⟨some 65, .not (.t 64), some (63, false)⟩, ⟨some 66, .pick (.t 63) (cb true) (.t 65), some (60, true)⟩, o 67 (.pick (.t 60) (.t 66) (cb false))] [0, 3, 67])
 (.cond (.t 67)
 (.seq (.ops [o 2 (.mv (cb false))] [2])
 (.ret))
 (.skip))))))
 (.ops [mt 18 3, o 19 (.bin .add (.t 18) (ci 1)), mt 3 19] [0, 3]))
def c177 : AFunc := ⟨68, [.tmp 2],
 .seq (.ops [o 2 (.mv (cb false))] [0])
 (.seq (.seq (.ops [mt 6 0, o 7 (.len 0 (.t 6)), o 8 (.bin .eql (.t 7) (ci 0)), mt 9 8, ⟨some 10, .mv (.t 0), some (9, false)⟩, ⟨some 11, .len 0 (.t 10), some (9, false)⟩, ⟨some 12, .bin .gtr (.t 11) (ci 24), some (9, false)⟩, o 13 (.pick (.t 9) (cb true) (.t 12))] [0, 13])
 (.cond (.t 13)
 (.seq (.ops [o 2 (.mv (cb false))] [2])
 (.ret))
 (.skip)))
 (.seq (.seq (.ops [o 3 (.mv (ci 0))] [0, 3])
 (.block 0 (.loop false [0, 3] c177L0)))
 (.seq (.ops [o 2 (.mv (cb true))] [2])
 (.ret))))⟩

def c178L0 : ACode :=
 .seq (.ops [o 11 (.bin .lss (.t 10) (.t 9))] [1, 5, 8, 9, 10, 11])
 (.seq (.cond (.t 11)
 (.skip)
 (.exit 0))
 (.seq (.block 1 (.seq (.ops [o 12 (.iadr 1 (.t 8) (.t 10)), o 13 (.ld false 1 (.t 12)), mt 7 13] [1, 5, 7, 8, 9, 10])
 (.ops [mt 14 5, mt 15 1, mt 16 7, o 17 (.call false true 0 (.val (.t 15)) [.t 16]), o 18 (.bslice false 1 zl5 1 [(0, .t 17)]), o 19 (.app 1 8 zl5 (.t 14) (.t 18)), mt 5 19] [1, 5, 8, 9, 10])))
 (.ops [o 20 (.bin .add (.t 10) (ci 1)), mt 10 20] [1, 5, 8, 9, 10])))
def c178 : AFunc := ⟨22, [.tmp 4],
 .seq (.ops [o 4 (.mv (cn))] [0, 1])
 (.seq (.ops [o 5 (.nilown 1)] [0, 1, 5])
 (.seq (.seq (.ops [mt 8 0, o 9 (.len 1 (.t 8)), o 10 (.mv (ci 0))] [1, 5, 8, 9, 10])
 (.block 0 (.loop true [1, 5, 8, 9, 10] c178L0)))
 (.seq (.ops [mt 21 5, mt 4 21] [4])
 (.ret))))⟩

def c179 : AFunc := ⟨5, [.tmp 2],
 .seq (.ops [o 2 (.mv (ci 0))] [0])
 (.seq (.ops [mt 3 0, o 4 (.call true true 0 (.fn 95) [.t 3, ci (-100000), ci 100000]), mt 2 4] [2])
 (.ret))⟩

def c180 : AFunc := ⟨8, [.tmp 4],
 .seq (.ops [o 4 (.mv (cb false))] [0, 1])
 (.seq (.ops [mt 5 0, mt 6 1, o 7 (.bin .lss (.t 5) (.t 6)), mt 4 7] [4])
 (.ret))⟩

def c181 : AFunc := ⟨8, [.tmp 4],
 .seq (.ops [o 4 (.mv (cb false))] [0, 1])
 (.seq (.ops [mt 5 0, mt 6 1, o 7 (.bin .gtr (.t 5) (.t 6)), mt 4 7] [4])
 (.ret))⟩

def c185 : AFunc := ⟨8, [.tmp 4],
 .seq (.ops [o 4 (.mv (ci 0))] [0, 1])
 (.seq (.ops [mt 5 0, mt 6 1, o 7 (.call true true 0 (.fn 198) [.t 5, .t 6]), mt 4 7] [4])
 (.ret))⟩

def c186 : AFunc := ⟨21, [.tmp 4],
 .seq (.ops [o 4 (.mv (cb false))] [0, 1])
 (.seq (.ops [mt 5 0, o 6 (.len 0 (.t 5)), mt 7 1, o 8 (.len 0 (.t 7)), o 9 (.bin .geq (.t 6) (.t 8)), mt 10 9, ⟨some 11, .mv (.t 0), some (10, true)⟩, ⟨some 12, .mv (.t 0), some (10, true)⟩, ⟨some 13, .len 0 (.t 12), some (10, true)⟩, ⟨some 14, .mv (.t 1), some (10, true)⟩, ⟨some 15, .len 0 (.t 14), some (10, true)⟩, ⟨some 16, .bin .sub (.t 13) (.t 15), some (10, true)⟩, ⟨some 17, .slcs (.t 11) (some (.t 16)) none, some (10, true)⟩, ⟨some 18, .mv (.t 1), some (10, true)⟩, ⟨some 19, .bin .eql (.t 17) (.t 18), some (10, true)⟩, o 20 (.pick (.t 10) (.t 19) (cb false)), mt 4 20] [4])
 (.ret))⟩

def c187L0 : ACode :=
 .seq (.seq (.ops [mt 22 7, mt 23 1, o 24 (.bin .sub (.t 23) (ci 1)), o 25 (.bin .lss (.t 22) (.t 24))] [0, 1, 6, 7, 25])
 (.cond (.t 25)
 (.skip)
 (.exit 0)))
 (.seq (.block 1 (.seq (.ops [mt 29 0, o 30 (.call true true 0 (.fn 200) [.t 29]), mt 28 30, o 31 (.ext (.t 28) 0), o 32 (.ext (.t 28) 1), mt 8 31, mt 9 32] [0, 1, 6, 7, 9])
 (.seq (.ops [mt 33 6, mt 34 7, mt 35 0, mt 36 9, o 37 (.slcs (.t 35) none (some (.t 36))), o 38 (.iadr 1 (.t 33) (.t 34)), u (.st 1 (.t 38) (.t 37))] [0, 1, 6, 7, 9])
 (.ops [mt 39 0, mt 40 9, o 41 (.slcs (.t 39) (some (.t 40)) none), mt 0 41] [0, 1, 6, 7]))))
 (.ops [mt 26 7, o 27 (.bin .add (.t 26) (ci 1)), mt 7 27] [0, 1, 6, 7]))
def c187 : AFunc := ⟨50, [.tmp 4],
 .seq (.ops [o 4 (.mv (cn))] [0, 1])
 (.seq (.ops [mt 10 0, o 11 (.call true true 0 (.fn 199) [.t 10]), mt 5 11] [0, 1, 5])
 (.seq (.seq (.ops [mt 12 1, o 13 (.bin .lss (.t 12) (ci 0)), mt 14 13, ⟨some 15, .mv (.t 1), some (14, false)⟩, ⟨some 16, .mv (.t 5), some (14, false)⟩, ⟨some 17, .bin .gtr (.t 15) (.t 16), some (14, false)⟩, o 18 (.pick (.t 14) (cb true) (.t 17))] [0, 1, 5, 18])
 (.cond (.t 18)
 (.ops [mt 19 5, mt 1 19] [0, 1])
 (.skip)))
 (.seq (.ops [mt 20 1, o 21 (.mkslice 1 zl6 (.t 20) (.t 20)), mt 6 21] [0, 1, 6])
 (.seq (.seq (.ops [o 7 (.mv (ci 0))] [0, 1, 6, 7])
 (.block 0 (.loop false [0, 1, 6, 7] c187L0)))
 (.seq (.seq (.ops [mt 42 1, o 43 (.bin .gtr (.t 42) (ci 0))] [0, 1, 6, 43])
 (.cond (.t 43)
 (.ops [mt 44 6, mt 45 1, o 46 (.bin .sub (.t 45) (ci 1)), mt 47 0, o 48 (.iadr 1 (.t 44) (.t 46)), u (.st 1 (.t 48) (.t 47))] [6])
 (.skip)))
 (.seq (.ops [mt 49 6, mt 4 49] [4])
 (.ret)))))))⟩

def c188L0 : ACode :=
 .block 1 (.seq (.ops [mt 20 0, mt 21 1, o 22 (.call true true 0 (.fn 189) [.t 20, .t 21]), mt 6 22] [0, 1, 5, 6])
 (.seq (.seq (.ops [mt 23 6, o 24 (.bin .eql (.t 23) (ci (-1)))] [0, 1, 5, 6, 24])
 (.cond (.t 24)
 (.seq (.ops [mt 25 5, mt 4 25] [4])
 (.ret))
 (.skip)))
 (.seq (.ops [mt 26 5, o 27 (.bin .add (.t 26) (ci 1)), mt 5 27] [0, 1, 5, 6])
 (.ops [mt 28 0, mt 29 6, mt 30 1, o 31 (.len 0 (.t 30)), o 32 (.bin .add (.t 29) (.t 31)), o 33 (.slcs (.t 28) (some (.t 32)) none), mt 0 33] [0, 1, 5]))))
def c188 : AFunc := ⟨34, [.tmp 4],
 .seq (.ops [o 4 (.mv (ci 0))] [0, 1])
 (.seq (.seq (.ops [mt 7 1, o 8 (.len 0 (.t 7)), o 9 (.bin .eql (.t 8) (ci 0))] [0, 1, 9])
 (.cond (.t 9)
 (.seq (.ops [mt 10 0, o 11 (.call true true 0 (.fn 199) [.t 10]), o 12 (.bin .add (.t 11) (ci 1)), mt 4 12] [4])
 (.ret))
 (.skip)))
 (.seq (.seq (.ops [mt 13 1, o 14 (.len 0 (.t 13)), o 15 (.bin .eql (.t 14) (ci 1))] [0, 1, 15])
 (.cond (.t 15)
 (.seq (.ops [mt 16 0, mt 17 1, o 18 (.idxs (.t 17) (ci 0)), o 19 (.call true true 0 (.fn 201) [.t 16, .t 18]), mt 4 19] [4])
 (.ret))
 (.skip)))
 (.seq (.ops [o 5 (.mv (ci 0))] [0, 1, 5])
 (.block 0 (.loop false [0, 1, 5] c188L0)))))⟩

def c189 : AFunc := ⟨8, [.tmp 4],
 .seq (.ops [o 4 (.mv (ci 0))] [0, 1])
 (.seq (.ops [mt 5 0, mt 6 1, o 7 (.call true true 0 (.fn 202) [.t 5, .t 6]), mt 4 7] [4])
 (.ret))⟩

def c190L0 : ACode :=
 .seq (.ops [o 9 (.bin .lss (.t 8) (.t 7))] [0, 1, 7, 8, 9])
 (.seq (.cond (.t 9)
 (.skip)
 (.exit 0))
 (.seq (.block 1 (.seq (.ops [mt 10 8, mt 5 10] [0, 1, 5, 7, 8])
 (.seq (.ops [mt 11 1, mt 12 0, mt 13 5, o 14 (.iadr 1 (.t 12) (.t 13)), o 15 (.ld false 1 (.t 14)), o 16 (.call false true 0 (.val (.t 11)) [.t 15])] [0, 1, 5, 7, 8, 16])
 (.cond (.t 16)
 (.seq (.ops [mt 17 5, mt 4 17] [4])
 (.ret))
 (.skip)))))
 (.ops [o 18 (.bin .add (.t 8) (ci 1)), mt 8 18] [0, 1, 7, 8])))
def c190 : AFunc := ⟨19, [.tmp 4],
 .seq (.ops [o 4 (.mv (ci 0))] [0, 1])
 (.seq (.seq (.ops [mt 6 0, o 7 (.len 1 (.t 6)), o 8 (.mv (ci 0))] [0, 1, 7, 8])
 (.block 0 (.loop true [0, 1, 7, 8] c190L0)))
 (.seq (.ops [o 4 (.mv (ci (-1)))] [4])
 (.ret)))⟩

def c191 : AFunc := ⟨6, [.tmp 2],
 .seq (.ops [o 2 (.mv (cb false))] [0])
 (.seq (.ops [mt 3 0, mt 4 0, o 5 (.bin .neq (.t 3) (.t 4)), mt 2 5] [2])
 (.ret))⟩

def c199L0 : ACode :=
 .seq (.ops [o 5 (.nxt (.t 4) true), o 6 (.ext (.t 5) 0)] [2, 4, 6])
 (.seq (.cond (.t 6)
 (.skip)
 (.exit 0))
 (.block 1 (.ops [mt 7 2, o 8 (.bin .add (.t 7) (ci 1)), mt 2 8] [2, 4])))
def c199 : AFunc := ⟨10, [.tmp 2],
 .seq (.ops [o 2 (.mv (ci 0))] [0, 2])
 (.seq (.seq (.ops [mt 3 0, o 4 (.rngs (.t 3))] [2, 4])
 (.block 0 (.loop false [2, 4] c199L0)))
 (.seq (.ops [mt 9 2, mt 2 9] [2])
 (.ret)))⟩

def c200 : AFunc := ⟨19, [.tmp 2, .tmp 3],
 .seq (.ops [o 2 (.mv (.c (.p (.int .i32 0)))), o 3 (.mv (ci 0))] [0])
 (.seq (.seq (.ops [mt 4 0, o 5 (.bin .neq (.t 4) (cs [])), mt 6 5, ⟨some 7, .mv (.t 0), some (6, true)⟩, ⟨some 8, .idxs (.t 7) (ci 0), some (6, true)⟩, ⟨some 9, .bin .lss (.t 8) (.c (.p (.int .u8 128))), some (6, true)⟩, o 10 (.pick (.t 6) (.t 9) (cb false))] [0, 10])
 (.cond (.t 10)
 (.seq (.ops [mt 11 0, o 12 (.idxs (.t 11) (ci 0)), o 13 (.conv (.int .i32) (.t 12)), mt 2 13, o 3 (.mv (ci 1))] [2, 3])
 (.ret))
 (.ops [mt 15 0, o 16 (.call true true 0 (.fn 208) [.t 15]), mt 14 16, o 17 (.ext (.t 14) 0), o 18 (.ext (.t 14) 1), mt 2 17, mt 3 18] [2, 3])))
 (.ret))⟩

def c202L0 : ACode :=
 .seq (.seq (.ops [mt 57 8, mt 58 9, o 59 (.bin .lss (.t 57) (.t 58))] [0, 1, 5, 6, 7, 8, 9, 10, 59])
 (.cond (.t 59)
 (.skip)
 (.exit 1)))
 (.block 2 (.seq (.seq (.ops [mt 60 0, mt 61 8, o 62 (.idxs (.t 60) (.t 61)), mt 63 6, o 64 (.bin .neq (.t 62) (.t 63))] [0, 1, 5, 6, 7, 8, 9, 10, 64])
 (.cond (.t 64)
 (.seq (.ops [mt 65 0, mt 66 8, o 67 (.bin .add (.t 66) (ci 1)), mt 68 9, o 69 (.slcs (.t 65) (some (.t 67)) (some (.t 68))), mt 70 6, o 71 (.call true true 0 (.fn 185) [.t 69, .t 70]), mt 11 71] [0, 1, 5, 6, 7, 8, 9, 10, 11])
 (.seq (.seq (.ops [mt 72 11, o 73 (.bin .lss (.t 72) (ci 0))] [0, 1, 5, 6, 7, 8, 9, 10, 11, 73])
 (.cond (.t 73)
 (.seq (.ops [o 4 (.mv (ci (-1)))] [4])
 (.ret))
 (.skip)))
 (.ops [mt 74 8, mt 75 11, o 76 (.bin .add (.t 75) (ci 1)), o 77 (.bin .add (.t 74) (.t 76)), mt 8 77] [0, 1, 5, 6, 7, 8, 9, 10])))
 (.skip)))
 (.seq (.seq (.ops [mt 78 0, mt 79 8, o 80 (.bin .add (.t 79) (ci 1)), o 81 (.idxs (.t 78) (.t 80)), mt 82 7, o 83 (.bin .eql (.t 81) (.t 82)), mt 84 83, ⟨some 85, .mv (.t 0), some (84, true)⟩, ⟨some 86, .mv (.t 8), some (84, true)⟩, ⟨some 87, .mv (.t 8), some (84, true)⟩, ⟨some 88, .mv (.t 5), some (84, true)⟩, ⟨some 89, .bin .add (.t 87) (.t 88), some (84, true)⟩, ⟨some 90, .slcs (.t 85) (some (.t 86)) (some (.t 89)), some (84, true)⟩, ⟨some 91, .mv (.t 1), some (84, true)⟩, ⟨some 92, .bin .eql (.t 90) (.t 91), some (84, true)⟩, o 93 (.pick (.t 84) (.t 92) (cb false))] [0, 1, 5, 6, 7, 8, 9, 10, 93])
 (.cond (.t 93)
 (.seq (.ops [mt 94 8, mt 4 94] [4])
 (.ret))
 (.skip)))
 (.seq (.ops [mt 95 8, o 96 (.bin .add (.t 95) (ci 1)), mt 8 96] [0, 1, 5, 6, 7, 8, 9, 10])
 (.seq (.ops [mt 97 10, o 98 (.bin .add (.t 97) (ci 1)), mt 10 98] [0, 1, 5, 6, 7, 8, 9, 10])
 (.seq (.ops [mt 99 5, o 100 (.ld false 1 (.g 1)), o 101 (.bin .leq (.t 99) (.t 100)), mt 102 101, ⟨some 103, .mv (.t 10), some (102, true)⟩, ⟨some 104, .mv (.t 8), some (102, true)⟩, ⟨some 105, .call true true 0 (.fn 210) [.t 104], some (102, true)⟩, ⟨some 106, .bin .gtr (.t 103) (.t 105), some (102, true)⟩, o 107 (.pick (.t 102) (.t 106) (cb false))] [0, 1, 5, 6, 7, 8, 9, 10, 107])
 (.cond (.t 107)
 (.seq (.ops [mt 108 0, mt 109 8, o 110 (.slcs (.t 108) (some (.t 109)) none), mt 111 1, o 112 (.call true true 0 (.fn 209) [.t 110, .t 111]), mt 12 112] [8, 12])
 (.seq (.seq (.ops [mt 113 12, o 114 (.bin .geq (.t 113) (ci 0))] [8, 12, 114])
 (.cond (.t 114)
 (.seq (.ops [mt 115 12, mt 116 8, o 117 (.bin .add (.t 115) (.t 116)), mt 4 117] [4])
 (.ret))
 (.skip)))
 (.seq (.ops [o 4 (.mv (ci (-1)))] [4])
 (.ret))))
 (.seq (.ops [mt 118 5, o 119 (.ld false 1 (.g 1)), o 120 (.bin .gtr (.t 118) (.t 119)), mt 121 120, ⟨some 122, .mv (.t 10), some (121, true)⟩, ⟨some 123, .mv (.t 8), some (121, true)⟩, ⟨some 124, .shift false (.t 123) (.c (.p (.int .u64 4))), some (121, true)⟩, ⟨some 125, .bin .add (ci 4) (.t 124), some (121, true)⟩, ⟨some 126, .bin .geq (.t 122) (.t 125), some (121, true)⟩, o 127 (.pick (.t 121) (.t 126) (cb false)), mt 128 127, ⟨some 129, .mv (.t 8), some (128, true)⟩, ⟨some 130, .mv (.t 9), some (128, true)⟩, ⟨some 131, .bin .lss (.t 129) (.t 130), some (128, true)⟩, o 132 (.pick (.t 128) (.t 131) (cb false))] [0, 1, 5, 6, 7, 8, 9, 10, 132])
 (.cond (.t 132)
 (.seq (.ops [mt 133 0, mt 134 8, o 135 (.slcs (.t 133) (some (.t 134)) none), mt 136 1, o 137 (.call true true 0 (.fn 211) [.t 135, .t 136]), mt 13 137] [8, 13])
 (.seq (.seq (.ops [mt 138 13, o 139 (.bin .lss (.t 138) (ci 0))] [8, 13, 139])
 (.cond (.t 139)
 (.seq (.ops [o 4 (.mv (ci (-1)))] [4])
 (.ret))
 (.skip)))
 (.seq (.ops [mt 140 8, mt 141 13, o 142 (.bin .add (.t 140) (.t 141)), mt 4 142] [4])
 (.ret))))
 (.skip))))))))))
def c202 : AFunc := ⟨143, [.tmp 4],
 .seq (.ops [o 4 (.mv (ci 0))] [0, 1])
 (.seq (.ops [mt 14 1, o 15 (.len 0 (.t 14)), mt 5 15] [0, 1, 5])
 (.seq (.block 0 (.seq (.ops [mt 17 5, o 18 (.bin .eql (.t 17) (ci 0)), mt 19 18, ⟨some 20, .mv (.t 1), some (19, false)⟩, ⟨some 21, .mv (.t 0), some (19, false)⟩, ⟨some 22, .bin .eql (.t 20) (.t 21), some (19, false)⟩, o 23 (.pick (.t 19) (cb true) (.t 22)), mt 16 23] [0, 1, 5, 16])
 (.cond (.t 16)
 (.seq (.ops [o 4 (.mv (ci 0))] [4])
 (.ret))
 (.seq (.ops [mt 25 5, o 26 (.bin .eql (.t 25) (ci 1)), mt 24 26] [0, 1, 5, 24])
 (.cond (.t 24)
 (.seq (.ops [mt 27 0, mt 28 1, o 29 (.idxs (.t 28) (ci 0)), o 30 (.call true true 0 (.fn 185) [.t 27, .t 29]), mt 4 30] [4])
 (.ret))
 (.seq (.ops [mt 32 5, mt 33 0, o 34 (.len 0 (.t 33)), o 35 (.bin .geq (.t 32) (.t 34)), mt 31 35] [0, 1, 5, 31])
 (.cond (.t 31)
 (.seq (.ops [o 4 (.mv (ci (-1)))] [4])
 (.ret))
 (.seq (.ops [mt 37 5, o 38 (.ld false 1 (.g 1)), o 39 (.bin .leq (.t 37) (.t 38)), mt 40 39, ⟨some 41, .mv (.t 0), some (40, true)⟩, ⟨some 42, .len 0 (.t 41), some (40, true)⟩, ⟨some 43, .bin .leq (.t 42) (ci 64), some (40, true)⟩, o 44 (.pick (.t 40) (.t 43) (cb false)), mt 36 44] [0, 1, 5, 36])
 (.cond (.t 36)
 (.seq (.ops [mt 45 0, mt 46 1, o 47 (.call true true 0 (.fn 209) [.t 45, .t 46]), mt 4 47] [4])
 (.ret))
 (.skip))))))))))
 (.seq (.ops [mt 48 1, o 49 (.idxs (.t 48) (ci 0)), mt 6 49] [0, 1, 5, 6])
 (.seq (.ops [mt 50 1, o 51 (.idxs (.t 50) (ci 1)), mt 7 51] [0, 1, 5, 6, 7])
 (.seq (.ops [o 8 (.mv (ci 0))] [0, 1, 5, 6, 7, 8])
 (.seq (.ops [mt 52 0, o 53 (.len 0 (.t 52)), mt 54 5, o 55 (.bin .sub (.t 53) (.t 54)), o 56 (.bin .add (.t 55) (ci 1)), mt 9 56] [0, 1, 5, 6, 7, 8, 9])
 (.seq (.ops [o 10 (.mv (ci 0))] [0, 1, 5, 6, 7, 8, 9, 10])
 (.seq (.block 1 (.loop false [0, 1, 5, 6, 7, 8, 9, 10] c202L0))
 (.seq (.ops [o 4 (.mv (ci (-1)))] [4])
 (.ret))))))))))⟩

def c208 : AFunc := ⟨117, [.tmp 2, .tmp 3],
 .seq (.ops [o 2 (.mv (.c (.p (.int .i32 0)))), o 3 (.mv (ci 0))] [0])
 (.seq (.ops [mt 13 0, o 14 (.len 0 (.t 13)), mt 4 14] [0, 4])
 (.seq (.seq (.ops [mt 15 4, o 16 (.bin .lss (.t 15) (ci 1))] [0, 4, 16])
 (.cond (.t 16)
 (.seq (.ops [o 2 (.mv (.c (.p (.int .i32 65533)))), o 3 (.mv (ci 0))] [2, 3])
 (.ret))
 (.skip)))
 (.seq (.ops [mt 17 0, o 18 (.idxs (.t 17) (ci 0)), mt 5 18] [0, 4, 5])
 (.seq (.ops [mt 19 5, o 20 (.iadra 1 256 (.g 3) (.t 19)), o 21 (.ld false 1 (.t 20)), mt 6 21] [0, 4, 5, 6])
 (.seq (.seq (.ops [mt 22 6, o 23 (.bin .geq (.t 22) (.c (.p (.int .u8 240))))] [0, 4, 5, 6, 23])
 (.cond (.t 23)
 (.seq (.ops [mt 24 6, o 25 (.conv (.int .i32) (.t 24)), o 26 (.shift true (.t 25) (.c (.p (.int .u64 31)))), o 27 (.shift false (.t 26) (.c (.p (.int .u64 31)))), mt 7 27] [0, 7])
 (.seq (.ops [mt 28 0, o 29 (.idxs (.t 28) (ci 0)), o 30 (.conv (.int .i32) (.t 29)), mt 31 7, o 32 (.bin .andNot (.t 30) (.t 31)), mt 33 7, o 34 (.bin .and (.c (.p (.int .i32 65533))) (.t 33)), o 35 (.bin .or (.t 32) (.t 34)), mt 2 35, o 3 (.mv (ci 1))] [2, 3])
 (.ret)))
 (.skip)))
 (.seq (.ops [mt 36 6, o 37 (.bin .and (.t 36) (.c (.p (.int .u8 7)))), o 38 (.conv (.int .i64) (.t 37)), mt 8 38] [0, 4, 5, 6, 8])
 (.seq (.ops [mt 39 6, o 40 (.shift false (.t 39) (.c (.p (.int .u64 4)))), o 41 (.iadra 2 16 (.g 4) (.t 40)), o 42 (.ld true 2 (.t 41)), o 9 (.alloc true 1 [.p (.int .u8 0), .p (.int .u8 0)]), u (.st 2 (.t 9) (.t 42))] [0, 4, 5, 8, 9])
 (.seq (.seq (.ops [mt 43 4, mt 44 8, o 45 (.bin .lss (.t 43) (.t 44))] [0, 5, 8, 9, 45])
 (.cond (.t 45)
 (.seq (.ops [o 2 (.mv (.c (.p (.int .i32 65533)))), o 3 (.mv (ci 1))] [2, 3])
 (.ret))
 (.skip)))
 (.seq (.ops [mt 46 0, o 47 (.idxs (.t 46) (ci 1)), mt 10 47] [0, 5, 8, 9, 10])
 (.seq (.seq (.ops [mt 48 10, o 49 (.fadr 0 (.t 9)), o 50 (.ld false 1 (.t 49)), o 51 (.bin .lss (.t 48) (.t 50)), mt 52 51, ⟨some 53, .fadr 1 (.t 9), some (52, false)⟩, ⟨some 54, .ld false 1 (.t 53), some (52, false)⟩, ⟨some 55, .mv (.t 10), some (52, false)⟩, ⟨some 56, .bin .lss (.t 54) (.t 55), some (52, false)⟩, o 57 (.pick (.t 52) (cb true) (.t 56))] [0, 5, 8, 10, 57])
 (.cond (.t 57)
 (.seq (.ops [o 2 (.mv (.c (.p (.int .i32 65533)))), o 3 (.mv (ci 1))] [2, 3])
 (.ret))
 (.skip)))
 (.seq (.seq (.ops [mt 58 8, o 59 (.bin .leq (.t 58) (ci 2))] [0, 5, 8, 10, 59])
 (.cond (.t 59)
 (.seq (.ops [mt 60 5, o 61 (.bin .and (.t 60) (.c (.p (.int .u8 31)))), o 62 (.conv (.int .i32) (.t 61)), o 63 (.shift true (.t 62) (.c (.p (.int .u64 6)))), mt 64 10, o 65 (.bin .and (.t 64) (.c (.p (.int .u8 63)))), o 66 (.conv (.int .i32) (.t 65)), o 67 (.bin .or (.t 63) (.t 66)), mt 2 67, o 3 (.mv (ci 2))] [2, 3])
 (.ret))
 (.skip)))
 (.seq (.ops [mt 68 0, o 69 (.idxs (.t 68) (ci 2)), mt 11 69] [0, 5, 8, 10, 11])
 (.seq (.seq (.ops [mt 70 11, o 71 (.bin .lss (.t 70) (.c (.p (.int .u8 128)))), mt 72 71, ⟨some 73, .mv (.t 11), some (72, false)⟩, ⟨some 74, .bin .lss (.c (.p (.int .u8 191))) (.t 73), some (72, false)⟩, o 75 (.pick (.t 72) (cb true) (.t 74))] [0, 5, 8, 10, 11, 75])
 (.cond (.t 75)
 (.seq (.ops [o 2 (.mv (.c (.p (.int .i32 65533)))), o 3 (.mv (ci 1))] [2, 3])
 (.ret))
 (.skip)))
 (.seq (.seq (.ops [mt 76 8, o 77 (.bin .leq (.t 76) (ci 3))] [0, 5, 10, 11, 77])
 (.cond (.t 77)
 (.seq (.ops [mt 78 5, o 79 (.bin .and (.t 78) (.c (.p (.int .u8 15)))), o 80 (.conv (.int .i32) (.t 79)), o 81 (.shift true (.t 80) (.c (.p (.int .u64 12)))), mt 82 10, o 83 (.bin .and (.t 82) (.c (.p (.int .u8 63)))), o 84 (.conv (.int .i32) (.t 83)), o 85 (.shift true (.t 84) (.c (.p (.int .u64 6)))), o 86 (.bin .or (.t 81) (.t 85)), mt 87 11, o 88 (.bin .and (.t 87) (.c (.p (.int .u8 63)))), o 89 (.conv (.int .i32) (.t 88)), o 90 (.bin .or (.t 86) (.t 89)), mt 2 90, o 3 (.mv (ci 3))] [2, 3])
 (.ret))
 (.skip)))
 (.seq (.ops [mt 91 0, o 92 (.idxs (.t 91) (ci 3)), mt 12 92] [5, 10, 11, 12])
 (.seq (.seq (.ops [mt 93 12, o 94 (.bin .lss (.t 93) (.c (.p (.int .u8 128)))), mt 95 94, ⟨some 96, .mv (.t 12), some (95, false)⟩, ⟨some 97, .bin .lss (.c (.p (.int .u8 191))) (.t 96), some (95, false)⟩, o 98 (.pick (.t 95) (cb true) (.t 97))] [5, 10, 11, 12, 98])
 (.cond (.t 98)
 (.seq (.ops [o 2 (.mv (.c (.p (.int .i32 65533)))), o 3 (.mv (ci 1))] [2, 3])
 (.ret))
 (.skip)))
 (.seq (.ops [mt 99 5, o 100 (.bin .and (.t 99) (.c (.p (.int .u8 7)))), o 101 (.conv (.int .i32) (.t 100)), o 102 (.shift true (.t 101) (.c (.p (.int .u64 18)))), mt 103 10, o 104 (.bin .and (.t 103) (.c (.p (.int .u8 63)))), o 105 (.conv (.int .i32) (.t 104)), o 106 (.shift true (.t 105) (.c (.p (.int .u64 12)))), o 107 (.bin .or (.t 102) (.t 106)), mt 108 11, o 109 (.bin .and (.t 108) (.c (.p (.int .u8 63)))), o 110 (.conv (.int .i32) (.t 109)), o 111 (.shift true (.t 110) (.c (.p (.int .u64 6)))), o 112 (.bin .or (.t 107) (.t 111)), mt 113 12, o 114 (.bin .and (.t 113) (.c (.p (.int .u8 63)))), o 115 (.conv (.int .i32) (.t 114)), o 116 (.bin .or (.t 112) (.t 115)), mt 2 116, o 3 (.mv (ci 4))] [2, 3])
 (.ret))))))))))))))))))⟩

def c210 : AFunc := ⟨6, [.tmp 2],
 .seq (.ops [o 2 (.mv (ci 0))] [0])
 (.seq (.ops [mt 3 0, o 4 (.bin .add (.t 3) (ci 16)), o 5 (.bin .quo (.t 4) (ci 8)), mt 2 5] [2])
 (.ret))⟩

def c211L0 : ACode :=
 .seq (.seq (.ops [mt 18 9, mt 19 7, o 20 (.bin .lss (.t 18) (.t 19))] [0, 1, 5, 6, 7, 8, 9, 20])
 (.cond (.t 20)
 (.skip)
 (.exit 0)))
 (.seq (.block 1 (.ops [mt 23 8, o 24 (.bin .mul (.t 23) (.c (.p (.int .u32 16777619)))), mt 25 0, mt 26 9, o 27 (.idxs (.t 25) (.t 26)), o 28 (.conv (.int .u32) (.t 27)), o 29 (.bin .add (.t 24) (.t 28)), mt 8 29] [0, 1, 5, 6, 7, 8, 9]))
 (.ops [mt 21 9, o 22 (.bin .add (.t 21) (ci 1)), mt 9 22] [0, 1, 5, 6, 7, 8, 9]))
def c211L1 : ACode :=
 .seq (.seq (.ops [mt 41 10, mt 42 0, o 43 (.len 0 (.t 42)), o 44 (.bin .lss (.t 41) (.t 43))] [0, 1, 5, 6, 7, 8, 10, 44])
 (.cond (.t 44)
 (.skip)
 (.exit 2)))
 (.block 3 (.seq (.ops [mt 45 8, o 46 (.bin .mul (.t 45) (.c (.p (.int .u32 16777619)))), mt 8 46] [0, 1, 5, 6, 7, 8, 10])
 (.seq (.ops [mt 47 8, mt 48 0, mt 49 10, o 50 (.idxs (.t 48) (.t 49)), o 51 (.conv (.int .u32) (.t 50)), o 52 (.bin .add (.t 47) (.t 51)), mt 8 52] [0, 1, 5, 6, 7, 8, 10])
 (.seq (.ops [mt 53 8, mt 54 6, mt 55 0, mt 56 10, mt 57 7, o 58 (.bin .sub (.t 56) (.t 57)), o 59 (.idxs (.t 55) (.t 58)), o 60 (.conv (.int .u32) (.t 59)), o 61 (.bin .mul (.t 54) (.t 60)), o 62 (.bin .sub (.t 53) (.t 61)), mt 8 62] [0, 1, 5, 6, 7, 8, 10])
 (.seq (.ops [mt 63 10, o 64 (.bin .add (.t 63) (ci 1)), mt 10 64] [0, 1, 5, 6, 7, 8, 10])
 (.seq (.ops [mt 65 8, mt 66 5, o 67 (.bin .eql (.t 65) (.t 66)), mt 68 67, ⟨some 69, .mv (.t 0), some (68, true)⟩, ⟨some 70, .mv (.t 10), some (68, true)⟩, ⟨some 71, .mv (.t 7), some (68, true)⟩, ⟨some 72, .bin .sub (.t 70) (.t 71), some (68, true)⟩, ⟨some 73, .mv (.t 10), some (68, true)⟩, ⟨some 74, .slcs (.t 69) (some (.t 72)) (some (.t 73)), some (68, true)⟩, ⟨some 75, .mv (.t 1), some (68, true)⟩, ⟨some 76, .bin .eql (.t 74) (.t 75), some (68, true)⟩, o 77 (.pick (.t 68) (.t 76) (cb false))] [0, 1, 5, 6, 7, 8, 10, 77])
 (.cond (.t 77)
 (.seq (.ops [mt 78 10, mt 79 7, o 80 (.bin .sub (.t 78) (.t 79)), mt 4 80] [4])
 (.ret))
 (.skip))))))))
def c211 : AFunc := ⟨81, [.tmp 4],
 .seq (.ops [o 4 (.mv (ci 0))] [0, 1])
 (.seq (.ops [mt 12 1, o 13 (.call true true 0 (.fn 214) [.t 12]), mt 11 13, o 14 (.ext (.t 11) 0), o 15 (.ext (.t 11) 1), mt 5 14, mt 6 15] [0, 1, 5, 6])
 (.seq (.ops [mt 16 1, o 17 (.len 0 (.t 16)), mt 7 17] [0, 1, 5, 6, 7])
 (.seq (.ops [o 8 (.mv (.c (.p (.int .u32 0))))] [0, 1, 5, 6, 7, 8])
 (.seq (.seq (.ops [o 9 (.mv (ci 0))] [0, 1, 5, 6, 7, 8, 9])
 (.block 0 (.loop false [0, 1, 5, 6, 7, 8, 9] c211L0)))
 (.seq (.seq (.ops [mt 30 8, mt 31 5, o 32 (.bin .eql (.t 30) (.t 31)), mt 33 32, ⟨some 34, .mv (.t 0), some (33, true)⟩, ⟨some 35, .mv (.t 7), some (33, true)⟩, ⟨some 36, .slcs (.t 34) none (some (.t 35)), some (33, true)⟩, ⟨some 37, .mv (.t 1), some (33, true)⟩, ⟨some 38, .bin .eql (.t 36) (.t 37), some (33, true)⟩, o 39 (.pick (.t 33) (.t 38) (cb false))] [0, 1, 5, 6, 7, 8, 39])
 (.cond (.t 39)
 (.seq (.ops [o 4 (.mv (ci 0))] [4])
 (.ret))
 (.skip)))
 (.seq (.seq (.ops [mt 40 7, mt 10 40] [0, 1, 5, 6, 7, 8, 10])
 (.block 2 (.loop false [0, 1, 5, 6, 7, 8, 10] c211L1)))
 (.seq (.ops [o 4 (.mv (ci (-1)))] [4])
 (.ret))))))))⟩

def c214L0 : ACode :=
 .seq (.seq (.ops [mt 9 5, mt 10 0, o 11 (.len 0 (.t 10)), o 12 (.bin .lss (.t 9) (.t 11))] [0, 4, 5, 12])
 (.cond (.t 12)
 (.skip)
 (.exit 0)))
 (.seq (.block 1 (.ops [mt 15 4, o 16 (.bin .mul (.t 15) (.c (.p (.int .u32 16777619)))), mt 17 0, mt 18 5, o 19 (.idxs (.t 17) (.t 18)), o 20 (.conv (.int .u32) (.t 19)), o 21 (.bin .add (.t 16) (.t 20)), mt 4 21] [0, 4, 5]))
 (.ops [mt 13 5, o 14 (.bin .add (.t 13) (ci 1)), mt 5 14] [0, 4, 5]))
def c214L1 : ACode :=
 .seq (.seq (.ops [mt 24 8, o 25 (.bin .gtr (.t 24) (ci 0))] [4, 6, 7, 8, 25])
 (.cond (.t 25)
 (.skip)
 (.exit 2)))
 (.seq (.block 3 (.seq (.seq (.ops [mt 28 8, o 29 (.bin .and (.t 28) (ci 1)), o 30 (.bin .neq (.t 29) (ci 0))] [4, 6, 7, 8, 30])
 (.cond (.t 30)
 (.ops [mt 31 6, mt 32 7, o 33 (.bin .mul (.t 31) (.t 32)), mt 6 33] [4, 6, 7, 8])
 (.skip)))
 (.ops [mt 34 7, mt 35 7, o 36 (.bin .mul (.t 34) (.t 35)), mt 7 36] [4, 6, 7, 8])))
 (.ops [mt 26 8, o 27 (.shift false (.t 26) (.c (.p (.int .u64 1)))), mt 8 27] [4, 6, 7, 8]))
def c214 : AFunc := ⟨39, [.tmp 2, .tmp 3],
 .seq (.ops [o 2 (.mv (.c (.p (.int .u32 0)))), o 3 (.mv (.c (.p (.int .u32 0))))] [0])
 (.seq (.ops [o 4 (.mv (.c (.p (.int .u32 0))))] [0, 4])
 (.seq (.seq (.ops [o 5 (.mv (ci 0))] [0, 4, 5])
 (.block 0 (.loop false [0, 4, 5] c214L0)))
 (.seq (.ops [o 6 (.mv (.c (.p (.int .u32 1)))), o 7 (.mv (.c (.p (.int .u32 16777619))))] [0, 4, 6, 7])
 (.seq (.seq (.ops [mt 22 0, o 23 (.len 0 (.t 22)), mt 8 23] [4, 6, 7, 8])
 (.block 2 (.loop false [4, 6, 7, 8] c214L1)))
 (.seq (.ops [mt 37 4, mt 38 6, mt 2 37, mt 3 38] [2, 3])
 (.ret))))))⟩


def FT : Tr := (.node 112 c112 (.node 69 c69 (.node 35 c35 (.node 19 c19 (.node 14 c14 (.node 12 c12 (.node 11 c11 (.node 9 c9 .leaf .leaf) .leaf) (.node 13 c13 .leaf .leaf)) (.node 16 c16 (.node 15 c15 .leaf .leaf) (.node 17 c17 .leaf .leaf))) (.node 31 c31 (.node 29 c29 (.node 28 c28 (.node 27 c27 .leaf .leaf) .leaf) (.node 30 c30 .leaf .leaf)) (.node 33 c33 (.node 32 c32 .leaf .leaf) (.node 34 c34 .leaf .leaf)))) (.node 52 c52 (.node 44 c44 (.node 39 c39 (.node 37 c37 (.node 36 c36 .leaf .leaf) .leaf) (.node 43 c43 .leaf .leaf)) (.node 46 c46 (.node 45 c45 .leaf .leaf) (.node 51 c51 .leaf .leaf))) (.node 59 c59 (.node 57 c57 (.node 56 c56 (.node 55 c55 .leaf .leaf) .leaf) (.node 58 c58 .leaf .leaf)) (.node 61 c61 (.node 60 c60 .leaf .leaf) (.node 68 c68 .leaf .leaf))))) (.node 93 c93 (.node 80 c80 (.node 76 c76 (.node 74 c74 (.node 73 c73 (.node 70 c70 .leaf .leaf) .leaf) (.node 75 c75 .leaf .leaf)) (.node 78 c78 (.node 77 c77 .leaf .leaf) (.node 79 c79 .leaf .leaf))) (.node 89 c89 (.node 87 c87 (.node 83 c83 (.node 81 c81 .leaf .leaf) .leaf) (.node 88 c88 .leaf .leaf)) (.node 91 c91 (.node 90 c90 .leaf .leaf) (.node 92 c92 .leaf .leaf)))) (.node 102 c102 (.node 98 c98 (.node 96 c96 (.node 95 c95 (.node 94 c94 .leaf .leaf) .leaf) (.node 97 c97 .leaf .leaf)) (.node 100 c100 (.node 99 c99 .leaf .leaf) (.node 101 c101 .leaf .leaf))) (.node 108 c108 (.node 106 c106 (.node 105 c105 .leaf .leaf) (.node 107 c107 .leaf .leaf)) (.node 110 c110 (.node 109 c109 .leaf .leaf) (.node 111 c111 .leaf .leaf)))))) (.node 157 c157 (.node 135 c135 (.node 122 c122 (.node 117 c117 (.node 115 c115 (.node 114 c114 (.node 113 c113 .leaf .leaf) .leaf) (.node 116 c116 .leaf .leaf)) (.node 120 c120 (.node 118 c118 .leaf .leaf) (.node 121 c121 .leaf .leaf))) (.node 127 c127 (.node 125 c125 (.node 124 c124 (.node 123 c123 .leaf .leaf) .leaf) (.node 126 c126 .leaf .leaf)) (.node 132 c132 (.node 131 c131 .leaf .leaf) (.node 134 c134 .leaf .leaf)))) (.node 146 c146 (.node 142 c142 (.node 140 c140 (.node 137 c137 (.node 136 c136 .leaf .leaf) .leaf) (.node 141 c141 .leaf .leaf)) (.node 144 c144 (.node 143 c143 .leaf .leaf) (.node 145 c145 .leaf .leaf))) (.node 153 c153 (.node 151 c151 (.node 150 c150 (.node 149 c149 .leaf .leaf) .leaf) (.node 152 c152 .leaf .leaf)) (.node 155 c155 (.node 154 c154 .leaf .leaf) (.node 156 c156 .leaf .leaf))))) (.node 179 c179 (.node 170 c170 (.node 166 c166 (.node 160 c160 (.node 159 c159 (.node 158 c158 .leaf .leaf) .leaf) (.node 161 c161 .leaf .leaf)) (.node 168 c168 (.node 167 c167 .leaf .leaf) (.node 169 c169 .leaf .leaf))) (.node 175 c175 (.node 173 c173 (.node 172 c172 (.node 171 c171 .leaf .leaf) .leaf) (.node 174 c174 .leaf .leaf)) (.node 177 c177 (.node 176 c176 .leaf .leaf) (.node 178 c178 .leaf .leaf)))) (.node 191 c191 (.node 187 c187 (.node 185 c185 (.node 181 c181 (.node 180 c180 .leaf .leaf) .leaf) (.node 186 c186 .leaf .leaf)) (.node 189 c189 (.node 188 c188 .leaf .leaf) (.node 190 c190 .leaf .leaf))) (.node 208 c208 (.node 200 c200 (.node 199 c199 .leaf .leaf) (.node 202 c202 .leaf .leaf)) (.node 211 c211 (.node 210 c210 .leaf .leaf) (.node 214 c214 .leaf .leaf)))))))
def F (n : Nat) : Option AFunc := FT.find n
end Fw
