/- The functions of the program, written for the evaluator, second part: definitions alone. -/
import Derived.Test.YtdjkleaojdeepaaGreatDoorGaCode
namespace Fw
open Go
def c100 : AFunc := ⟨6, [.tmp 2],
 .seq (.ops [o 1 (.box true (.t 0)), o 2 (.mv (cb false))] [1])
 (.seq (.ops [o 3 (.fadr 11 (.t 1)), o 4 (.ld false 1 (.t 3)), o 5 (.bin .gtr (.t 4) (ci 0)), mt 2 5] [2])
 (.ret))⟩

def c101 : AFunc := ⟨5, [.tmp 2],
 .seq (.ops [o 1 (.box true (.t 0)), o 2 (.mv (cb false))] [1])
 (.seq (.ops [o 3 (.fadr 12 (.t 1)), o 4 (.ld false 1 (.t 3)), mt 2 4] [2])
 (.ret))⟩

def c103 : AFunc := ⟨5, [.tmp 2],
 .seq (.ops [o 2 (.mv (ci 0))] [0])
 (.seq (.ops [mt 3 0, o 4 (.call true true 0 (.fn 92) [.t 3, ci (-100000), ci 100000]), mt 2 4] [2])
 (.ret))⟩

def c104 : AFunc := ⟨7, [.tmp 4],
 .seq (.ops [o 4 (.mv (ci 0))] [0, 1])
 (.seq (.seq (.ops [mt 5 0] [1, 5])
 (.cond (.t 5)
 (.seq (.ops [mt 6 1, mt 4 6] [4])
 (.ret))
 (.skip)))
 (.seq (.ops [o 4 (.mv (ci 0))] [4])
 (.ret)))⟩

def c105L0 : ACode :=
 .seq (.ops [o 11 (.bin .lss (.t 10) (.t 9))] [1, 5, 8, 9, 10, 11])
 (.seq (.cond (.t 11)
 (.skip)
 (.exit 0))
 (.seq (.block 1 (.seq (.ops [o 12 (.iadr 1 (.t 8) (.t 10)), o 13 (.ld false 1 (.t 12)), mt 7 13] [1, 5, 7, 8, 9, 10])
 (.ops [mt 14 5, mt 15 1, mt 16 7, o 17 (.call false true 0 (.val (.t 15)) [.t 16]), o 18 (.bslice false 1 zl8 1 [(0, .t 17)]), o 19 (.app 1 8 zl8 (.t 14) (.t 18)), mt 5 19] [1, 5, 8, 9, 10])))
 (.ops [o 20 (.bin .add (.t 10) (ci 1)), mt 10 20] [1, 5, 8, 9, 10])))
def c105 : AFunc := ⟨22, [.tmp 4],
 .seq (.ops [o 4 (.mv (cn))] [0, 1])
 (.seq (.ops [o 5 (.nilown 1)] [0, 1, 5])
 (.seq (.seq (.ops [mt 8 0, o 9 (.len 1 (.t 8)), o 10 (.mv (ci 0))] [1, 5, 8, 9, 10])
 (.block 0 (.loop true [1, 5, 8, 9, 10] c105L0)))
 (.seq (.ops [mt 21 5, mt 4 21] [4])
 (.ret))))⟩

def c106 : AFunc := ⟨14, [.tmp 3],
 .seq (.ops [o 2 (.box true (.t 0)), o 3 (.mv (cb false))] [1, 2])
 (.seq (.ops [o 4 (.ld false 1 (.t 1)), o 5 (.fadr 0 (.t 2)), o 6 (.ld false 1 (.t 5)), o 7 (.bin .geq (.t 4) (.t 6)), mt 8 7, ⟨some 9, .ld false 1 (.t 1), some (8, true)⟩, ⟨some 10, .fadr 1 (.t 2), some (8, true)⟩, ⟨some 11, .ld false 1 (.t 10), some (8, true)⟩, ⟨some 12, .bin .lss (.t 9) (.t 11), some (8, true)⟩, o 13 (.pick (.t 8) (.t 12) (cb false)), mt 3 13] [3])
 (.ret))⟩

def c107 : AFunc := ⟨9, [.tmp 4],
 .seq (.ops [o 4 (.mv (cb false))] [0, 1])
 (.seq (.ops [mt 5 0, mt 6 1, o 7 (.call true true 0 (.fn 140) [.t 5, .t 6]), o 8 (.bin .geq (.t 7) (ci 0)), mt 4 8] [4])
 (.ret))⟩

def c109L0 : ACode :=
 .seq (.ops [o 16 (.bin .lss (.t 15) (.t 14))] [0, 1, 13, 14, 15, 16])
 (.seq (.cond (.t 16)
 (.skip)
 (.exit 0))
 (.seq (.block 1 (.seq (.ops [mt 17 15, o 18 (.iadr 1 (.t 13) (.t 15)), o 19 (.ld false 1 (.t 18)), mt 5 17, mt 6 19] [0, 1, 5, 6, 13, 14, 15])
 (.seq (.opsd [(0, 1), (1, 1), (2, 1), (3, 1), (4, 1), (5, 1), (6, 1), (7, 1), (9, 1), (10, 1), (11, 5), (12, 1), (8, 0), (13, 0), (14, 0), (15, 0), (16, 0), (17, 1)] [mt 20 6, o 21 (.bin .lss (.t 20) (ci 0)), mt 22 21, ⟨some 23, .mv (.t 6), some (22, false)⟩, ⟨some 24, .mv (.t 0), some (22, false)⟩, ⟨some 25, .len 1 (.t 24), some (22, false)⟩, ⟨some 26, .bin .geq (.t 23) (.t 25), some (22, false)⟩, o 27 (.pick (.t 22) (cb true) (.t 26)), mt 29 1, mt 30 5, o 31 (.slc 1 (.t 29) none (some (.t 30))), mt 32 6, o 28 (.call true true 0 (.fn 104) [.t 27, ci 10]), o 33 (.call true true 0 (.fn 141) [.t 31, .t 32]), o 34 (.call true true 0 (.fn 104) [.t 33, ci 9]), o 35 (.bslice false 1 zl8 2 [(0, .t 28), (1, .t 34)]), o 36 (.call true true 0 (.fn 91) [.t 35]), mt 7 36] [0, 1, 7, 13, 14, 15])
 (.seq (.ops [mt 37 7, o 38 (.bin .neq (.t 37) (ci 0))] [0, 1, 7, 13, 14, 15, 38])
 (.cond (.t 38)
 (.seq (.ops [mt 39 7, mt 4 39] [4])
 (.ret))
 (.skip))))))
 (.ops [o 40 (.bin .add (.t 15) (ci 1)), mt 15 40] [0, 1, 13, 14, 15])))
def c109 : AFunc := ⟨41, [.tmp 4],
 .seq (.ops [o 4 (.mv (ci 0))] [0, 1])
 (.seq (.seq (.ops [mt 8 1, o 9 (.len 1 (.t 8)), mt 10 0, o 11 (.len 1 (.t 10)), o 12 (.bin .neq (.t 9) (.t 11))] [0, 1, 12])
 (.cond (.t 12)
 (.seq (.ops [o 4 (.mv (ci 2))] [4])
 (.ret))
 (.skip)))
 (.seq (.seq (.ops [mt 13 1, o 14 (.len 1 (.t 13)), o 15 (.mv (ci 0))] [0, 1, 13, 14, 15])
 (.block 0 (.loop false [0, 1, 13, 14, 15] c109L0)))
 (.seq (.ops [o 4 (.mv (ci 0))] [4])
 (.ret))))⟩

def c110L0 : ACode :=
 .seq (.ops [o 25 (.bin .lss (.t 24) (.t 23))] [0, 1, 5, 7, 13, 14, 15, 22, 23, 24, 25])
 (.seq (.cond (.t 25)
 (.skip)
 (.exit 2))
 (.seq (.block 3 (.seq (.ops [o 26 (.iadr 1 (.t 22) (.t 24)), o 27 (.ld false 1 (.t 26)), mt 9 27] [0, 1, 5, 7, 9, 13, 14, 15, 22, 23, 24])
 (.opsd [(0, 1), (1, 1), (2, 1), (3, 1), (4, 1), (5, 1), (6, 1), (7, 1), (8, 1), (9, 1), (10, 1), (11, 1), (12, 1), (13, 1), (14, 1), (15, 1), (16, 1), (17, 1), (18, 1), (19, 1), (20, 1), (21, 0)] [mt 28 5, mt 29 7, mt 30 5, mt 31 7, o 32 (.iadr 1 (.t 30) (.t 31)), o 33 (.ld false 1 (.t 32)), mt 34 0, mt 35 7, o 36 (.iadr 6 (.t 34) (.t 35)), o 37 (.ld true 6 (.t 36)), mt 38 0, mt 39 9, o 40 (.iadr 6 (.t 38) (.t 39)), o 41 (.ld true 6 (.t 40)), mt 42 5, mt 43 9, o 44 (.iadr 1 (.t 42) (.t 43)), o 45 (.ld false 1 (.t 44)), o 46 (.call true true 0 (.fn 116) [.t 37, .t 41, .t 45]), o 47 (.max [.t 33, .t 46]), o 48 (.iadr 1 (.t 28) (.t 29)), u (.st 1 (.t 48) (.t 47))] [0, 1, 5, 7, 13, 14, 15, 22, 23, 24])))
 (.ops [o 49 (.bin .add (.t 24) (ci 1)), mt 24 49] [0, 1, 5, 7, 13, 14, 15, 22, 23, 24])))
def c110L1 : ACode :=
 .seq (.ops [o 16 (.bin .lss (.t 15) (.t 14))] [0, 1, 5, 13, 14, 15, 16])
 (.seq (.cond (.t 16)
 (.skip)
 (.exit 0))
 (.seq (.block 1 (.seq (.ops [mt 17 15, o 18 (.iadr 1 (.t 13) (.t 15)), o 19 (.ld false 1 (.t 18)), mt 6 17, mt 7 19] [0, 1, 5, 6, 7, 13, 14, 15])
 (.seq (.ops [mt 20 1, mt 21 6, o 22 (.slc 1 (.t 20) none (some (.t 21))), o 23 (.len 1 (.t 22)), o 24 (.mv (ci 0))] [0, 1, 5, 7, 13, 14, 15, 22, 23, 24])
 (.block 2 (.loop false [0, 1, 5, 7, 13, 14, 15, 22, 23, 24] c110L0)))))
 (.ops [o 50 (.bin .add (.t 15) (ci 1)), mt 15 50] [0, 1, 5, 13, 14, 15])))
def c110 : AFunc := ⟨52, [.tmp 4],
 .seq (.ops [o 4 (.mv (cn))] [0, 1])
 (.seq (.ops [mt 10 0, o 11 (.len 1 (.t 10)), o 12 (.mkslice 1 zl8 (.t 11) (.t 11)), mt 5 12] [0, 1, 5])
 (.seq (.seq (.ops [mt 13 1, o 14 (.len 1 (.t 13)), o 15 (.mv (ci 0))] [0, 1, 5, 13, 14, 15])
 (.block 0 (.loop false [0, 1, 5, 13, 14, 15] c110L1)))
 (.seq (.ops [mt 51 5, mt 4 51] [4])
 (.ret))))⟩

def c111L0 : ACode :=
 .seq (.ops [o 11 (.bin .lss (.t 10) (.t 9))] [1, 5, 8, 9, 10, 11])
 (.seq (.cond (.t 11)
 (.skip)
 (.exit 0))
 (.seq (.block 1 (.seq (.ops [mt 12 10, o 13 (.iadr 6 (.t 8) (.t 10)), o 14 (.ld true 6 (.t 13)), o 7 (.alloc true 1 zl3), mt 6 12, u (.st 6 (.t 7) (.t 14))] [1, 5, 6, 7, 8, 9, 10])
 (.opsd [(0, 1), (1, 1), (2, 1), (3, 1), (4, 1), (5, 1), (6, 1), (7, 1), (8, 1), (9, 1)] [mt 15 5, mt 16 1, mt 17 6, o 18 (.iadr 1 (.t 16) (.t 17)), o 19 (.ld false 1 (.t 18)), o 20 (.fadr 4 (.t 7)), o 21 (.ld false 1 (.t 20)), o 22 (.bin .add (.t 19) (.t 21)), o 23 (.max [.t 15, .t 22]), mt 5 23] [1, 5, 8, 9, 10])))
 (.ops [o 24 (.bin .add (.t 10) (ci 1)), mt 10 24] [1, 5, 8, 9, 10])))
def c111 : AFunc := ⟨26, [.tmp 4],
 .seq (.ops [o 4 (.mv (ci 0))] [0, 1])
 (.seq (.ops [o 5 (.mv (ci 0))] [0, 1, 5])
 (.seq (.seq (.ops [mt 8 0, o 9 (.len 1 (.t 8)), o 10 (.mv (ci 0))] [1, 5, 8, 9, 10])
 (.block 0 (.loop true [1, 5, 8, 9, 10] c111L0)))
 (.seq (.ops [mt 25 5, mt 4 25] [4])
 (.ret))))⟩

def c113 : AFunc := ⟨10, [.tmp 2],
 .seq (.ops [o 1 (.box true (.t 0)), o 2 (.mv (ci 0))] [1])
 (.seq (.ops [o 3 (.fadr 0 (.t 1)), o 4 (.ld false 1 (.t 3)), o 5 (.call true true 0 (.fn 143) [.t 4]), o 6 (.not (.t 5)), o 7 (.call true true 0 (.fn 104) [.t 6, ci 8]), o 8 (.bslice false 1 zl8 1 [(0, .t 7)]), o 9 (.call true true 0 (.fn 91) [.t 8]), mt 2 9] [2])
 (.ret))⟩

def c114 : AFunc := ⟨20, [.tmp 2],
 .seq (.ops [o 1 (.box true (.t 0)), o 2 (.mv (ci 0))] [1])
 (.seq (.opsd [(0, 1), (1, 1), (2, 1), (3, 1), (4, 1), (5, 1), (6, 1), (7, 1), (8, 1), (9, 1), (10, 1), (11, 1), (12, 1), (13, 1), (14, 0), (15, 0), (16, 0), (17, 1)] [o 3 (.fadr 1 (.t 1)), o 4 (.ld false 1 (.t 3)), o 5 (.call true true 0 (.fn 92) [.t 4, ci 0, ci 16]), o 6 (.fadr 2 (.t 1)), o 7 (.ld false 1 (.t 6)), o 8 (.call true true 0 (.fn 92) [.t 7, ci 0, ci 16]), o 9 (.fadr 3 (.t 1)), o 10 (.ld false 1 (.t 9)), o 11 (.call true true 0 (.fn 92) [.t 10, ci 0, ci 16]), o 12 (.fadr 4 (.t 1)), o 13 (.ld false 1 (.t 12)), o 14 (.call true true 0 (.fn 92) [.t 13, ci 1, ci 10000]), o 15 (.fadr 5 (.t 1)), o 16 (.ld false 1 (.t 15)), o 17 (.call true true 0 (.fn 92) [.t 16, ci 0, ci 10000]), o 18 (.bslice false 1 zl8 5 [(0, .t 5), (1, .t 8), (2, .t 11), (3, .t 14), (4, .t 17)]), o 19 (.call true true 0 (.fn 91) [.t 18]), mt 2 19] [2])
 (.ret))⟩

def c115 : AFunc := ⟨22, [.tmp 4],
 .seq (.ops [o 4 (.mv (ci 0))] [0, 1])
 (.seq (.seq (.ops [mt 6 0, o 7 (.call true true 0 (.fn 57) [.t 6]), mt 8 1, o 9 (.len 1 (.t 8)), mt 10 0, o 11 (.len 1 (.t 10)), o 12 (.bin .neq (.t 9) (.t 11)), o 13 (.call true true 0 (.fn 104) [.t 12, ci 2]), o 14 (.bslice false 1 zl8 2 [(0, .t 7), (1, .t 13)]), o 15 (.call true true 0 (.fn 91) [.t 14]), mt 5 15] [1, 5])
 (.seq (.ops [mt 16 5, o 17 (.bin .neq (.t 16) (ci 0))] [1, 5, 17])
 (.cond (.t 17)
 (.seq (.ops [mt 18 5, mt 4 18] [4])
 (.ret))
 (.skip))))
 (.seq (.ops [mt 19 1, o 20 (.call true false 0 (.fn 105) [.t 19, cf 144]), o 21 (.call true true 0 (.fn 91) [.t 20]), mt 4 21] [4])
 (.ret)))⟩

def c116 : AFunc := ⟨37, [.tmp 6],
 .seq (.ops [o 3 (.box true (.t 0)), o 4 (.box true (.t 1)), o 6 (.mv (ci 0))] [2, 3, 4])
 (.seq (.ops [o 7 (.mv (ci 0))] [2, 3, 4, 7])
 (.seq (.seq (.ops [o 8 (.fadr 2 (.t 3)), o 9 (.ld false 1 (.t 8)), o 10 (.fadr 2 (.t 4)), o 11 (.ld false 1 (.t 10)), o 12 (.bin .eql (.t 9) (.t 11)), mt 13 12, ⟨some 14, .fadr 3 (.t 3), some (13, false)⟩, ⟨some 15, .ld false 1 (.t 14), some (13, false)⟩, ⟨some 16, .fadr 3 (.t 4), some (13, false)⟩, ⟨some 17, .ld false 1 (.t 16), some (13, false)⟩, ⟨some 18, .bin .eql (.t 15) (.t 17), some (13, false)⟩, o 19 (.pick (.t 13) (cb true) (.t 18))] [2, 3, 4, 7, 19])
 (.cond (.t 19)
 (.ops [mt 20 2, o 21 (.fadr 4 (.t 4)), o 22 (.ld false 1 (.t 21)), o 23 (.bin .add (.t 20) (.t 22)), mt 7 23] [2, 3, 4, 7])
 (.skip)))
 (.seq (.seq (.ops [o 24 (.fadr 1 (.t 3)), o 25 (.ld false 1 (.t 24)), o 26 (.fadr 1 (.t 4)), o 27 (.ld false 1 (.t 26)), o 28 (.bin .eql (.t 25) (.t 27))] [2, 4, 7, 28])
 (.cond (.t 28)
 (.ops [mt 29 2, o 30 (.fadr 4 (.t 4)), o 31 (.ld false 1 (.t 30)), o 32 (.bin .add (.t 29) (.t 31)), o 33 (.fadr 5 (.t 4)), o 34 (.ld false 1 (.t 33)), o 35 (.bin .add (.t 32) (.t 34)), mt 7 35] [7])
 (.skip)))
 (.seq (.ops [mt 36 7, mt 6 36] [6])
 (.ret)))))⟩

def c117 : AFunc := ⟨8, [.tmp 2],
 .seq (.ops [o 2 (.mv (cn))] [0])
 (.seq (.seq (.ops [mt 3 0, o 4 (.eqnil 1 false (.t 3))] [0, 4])
 (.cond (.t 4)
 (.seq (.ops [o 2 (.mv (cn))] [2])
 (.ret))
 (.skip)))
 (.seq (.ops [o 5 (.bslice true 1 zl8 0 []), mt 6 0, o 7 (.app 1 8 zl8 (.t 5) (.t 6)), mt 2 7] [2])
 (.ret)))⟩

def c118 : AFunc := ⟨19, [.tmp 4],
 .seq (.ops [o 2 (.box false (.t 0)), o 3 (.box false (.t 1)), o 4 (.mv (ci 0))] [2, 3])
 (.seq (.opsd [(0, 1), (1, 1), (2, 1), (3, 1), (4, 1), (5, 1), (6, 1), (7, 1), (8, 1), (9, 1), (10, 1), (11, 0), (12, 0), (13, 0), (14, 1)] [o 5 (.fadr 1 (.t 2)), o 6 (.ld false 1 (.t 5)), o 7 (.fadr 1 (.t 3)), o 8 (.ld false 1 (.t 7)), o 9 (.call true true 0 (.fn 146) [.t 6, .t 8]), o 10 (.fadr 0 (.t 2)), o 11 (.fadr 0 (.t 10)), o 12 (.ld false 1 (.t 11)), o 13 (.fadr 0 (.t 3)), o 14 (.fadr 0 (.t 13)), o 15 (.ld false 1 (.t 14)), o 16 (.call true true 0 (.fn 147) [.t 12, .t 15]), o 17 (.bslice false 1 zl8 2 [(0, .t 9), (1, .t 16)]), o 18 (.call true true 0 (.fn 145) [.t 17]), mt 4 18] [4])
 (.ret))⟩

def c119L0 : ACode :=
 .seq (.seq (.ops [mt 10 4, o 11 (.bin .geq (.t 10) (ci 0))] [0, 3, 4, 11])
 (.cond (.t 11)
 (.skip)
 (.exit 0)))
 (.seq (.block 1 (.seq (.opsd [(0, 1), (1, 1), (2, 1), (3, 1), (4, 1), (5, 1), (6, 1), (7, 1), (8, 1), (9, 1)] [mt 14 0, mt 15 4, o 16 (.iadr 1 (.t 14) (.t 15)), o 17 (.ld false 1 (.t 16)), mt 18 0, mt 19 4, o 20 (.bin .add (.t 19) (ci 1)), o 21 (.iadr 1 (.t 18) (.t 20)), o 22 (.ld false 1 (.t 21)), o 23 (.bin .lss (.t 17) (.t 22))] [0, 3, 4, 23])
 (.cond (.t 23)
 (.seq (.ops [mt 24 4, mt 3 24] [0, 3])
 (.exit 0))
 (.skip))))
 (.ops [mt 12 4, o 13 (.bin .sub (.t 12) (ci 1)), mt 4 13] [0, 3, 4]))
def c119L1 : ACode :=
 .seq (.seq (.opsd [(0, 1), (1, 1), (2, 1), (3, 1), (4, 1), (5, 1), (6, 1), (7, 1), (8, 1)] [mt 30 0, mt 31 5, o 32 (.iadr 1 (.t 30) (.t 31)), o 33 (.ld false 1 (.t 32)), mt 34 0, mt 35 3, o 36 (.iadr 1 (.t 34) (.t 35)), o 37 (.ld false 1 (.t 36)), o 38 (.bin .lss (.t 33) (.t 37))] [0, 3, 5, 38])
 (.cond (.t 38)
 (.skip)
 (.exit 2)))
 (.block 3 (.ops [mt 39 5, o 40 (.bin .sub (.t 39) (ci 1)), mt 5 40] [0, 3, 5]))
def c119 : AFunc := ⟨61, [.tmp 2],
 .seq (.ops [o 2 (.mv (cb false))] [0])
 (.scope (.seq (.ops [o 3 (.mv (ci (-1)))] [0, 3])
 (.seq (.skip)
 (.seq (.seq (.ops [mt 7 0, o 8 (.len 1 (.t 7)), o 9 (.bin .sub (.t 8) (ci 2)), mt 4 9] [0, 3, 4])
 (.block 0 (.loop false [0, 3, 4] c119L0)))
 (.seq (.seq (.ops [mt 25 3, o 26 (.bin .lss (.t 25) (ci 0))] [0, 3, 26])
 (.cond (.t 26)
 (.seq (.ops [o 2 (.mv (cb false))] [2])
 (.ret))
 (.skip)))
 (.seq (.ops [mt 27 0, o 28 (.len 1 (.t 27)), o 29 (.bin .sub (.t 28) (ci 1)), mt 5 29] [0, 3, 5])
 (.seq (.block 2 (.loop false [0, 3, 5] c119L1))
 (.seq (.ops [mt 41 0, mt 42 3, o 43 (.iadr 1 (.t 41) (.t 42)), o 44 (.ld false 1 (.t 43)), mt 6 44] [0, 3, 5, 6])
 (.seq (.ops [mt 45 0, mt 46 3, mt 47 0, mt 48 5, o 49 (.iadr 1 (.t 47) (.t 48)), o 50 (.ld false 1 (.t 49)), o 51 (.iadr 1 (.t 45) (.t 46)), u (.st 1 (.t 51) (.t 50))] [0, 3, 5, 6])
 (.seq (.ops [mt 52 0, mt 53 5, mt 54 6, o 55 (.iadr 1 (.t 52) (.t 53)), u (.st 1 (.t 55) (.t 54))] [0, 3])
 (.seq (.ops [mt 56 0, mt 57 3, o 58 (.bin .add (.t 57) (ci 1)), o 59 (.slc 1 (.t 56) (some (.t 58)) none), o 60 (.call false true 0 (.fn 148) [.t 59])] [])
 (.seq (.ops [o 2 (.mv (cb true))] [2])
 (.ret)))))))))))))⟩

def c122L0 : ACode :=
 .seq (.ops [o 11 (.bin .lss (.t 10) (.t 9))] [1, 5, 8, 9, 10, 11])
 (.seq (.cond (.t 11)
 (.skip)
 (.exit 0))
 (.seq (.block 1 (.seq (.ops [o 12 (.iadr 1 (.t 8) (.t 10)), o 13 (.ld false 1 (.t 12)), mt 7 13] [1, 5, 7, 8, 9, 10])
 (.ops [mt 14 5, mt 15 1, mt 16 7, o 17 (.call false true 0 (.val (.t 15)) [.t 16]), o 18 (.bslice false 1 zl9 1 [(0, .t 17)]), o 19 (.app 1 16 zl9 (.t 14) (.t 18)), mt 5 19] [1, 5, 8, 9, 10])))
 (.ops [o 20 (.bin .add (.t 10) (ci 1)), mt 10 20] [1, 5, 8, 9, 10])))
def c122 : AFunc := ⟨22, [.tmp 4],
 .seq (.ops [o 4 (.mv (cn))] [0, 1])
 (.seq (.ops [o 5 (.nilown 1)] [0, 1, 5])
 (.seq (.seq (.ops [mt 8 0, o 9 (.len 1 (.t 8)), o 10 (.mv (ci 0))] [1, 5, 8, 9, 10])
 (.block 0 (.loop true [1, 5, 8, 9, 10] c122L0)))
 (.seq (.ops [mt 21 5, mt 4 21] [4])
 (.ret))))⟩

def c123 : AFunc := ⟨23, [.tmp 2],
 .seq (.ops [o 1 (.box true (.t 0)), o 2 (.mv (cn))] [1])
 (.seq (.seq (.ops [o 3 (.ld true 6 (.t 1)), o 4 (.bslice false 1 zl9 1 [(0, cs [109, 101, 97, 115, 117, 114, 101])]), o 5 (.call true true 0 (.fn 93) [.t 3, .t 4])] [1, 5])
 (.cond (.t 5)
 (.seq (.opsd [(0, 1), (1, 1), (3, 1), (4, 1), (2, 2), (5, 0), (6, 1)] [o 6 (.fadr 0 (.t 1)), o 7 (.ld false 1 (.t 6)), o 9 (.fadr 3 (.t 1)), o 10 (.slca 1 3 (.t 9) none none), o 8 (.bslice true 1 zl8 1 [(0, .t 7)]), o 11 (.app 1 8 zl8 (.t 8) (.t 10)), mt 2 11] [2])
 (.ret))
 (.skip)))
 (.seq (.seq (.ops [o 12 (.ld true 6 (.t 1)), o 13 (.bslice false 1 zl9 3 [(0, cs [97, 114, 109]), (1, cs [100, 105, 115, 97, 114, 109]), (2, cs [115, 104, 111, 111, 116])]), o 14 (.call true true 0 (.fn 93) [.t 12, .t 13])] [1, 14])
 (.cond (.t 14)
 (.seq (.ops [o 15 (.fadr 0 (.t 1)), o 16 (.ld false 1 (.t 15)), o 17 (.bslice false 1 zl8 1 [(0, .t 16)]), mt 2 17] [2])
 (.ret))
 (.skip)))
 (.seq (.ops [o 18 (.fadr 0 (.t 1)), o 19 (.ld false 1 (.t 18)), o 20 (.fadr 2 (.t 1)), o 21 (.ld false 1 (.t 20)), o 22 (.bslice false 1 zl8 2 [(0, .t 19), (1, .t 21)]), mt 2 22] [2])
 (.ret))))⟩

def c125 : AFunc := ⟨4, [.tmp 2],
 .seq (.ops [o 1 (.box true (.t 0)), o 2 (.mv (.c (.p (.nilf))))] [1])
 (.seq (.ops [o 3 (.mkclo 153 [] [.t 1]), mt 2 3] [2])
 (.ret))⟩

def c126 : AFunc := ⟨11, [.tmp 4, .tmp 5],
 .seq (.ops [o 4 (.mv (cs [])), o 5 (.mv (cb false))] [0, 1])
 (.seq (.ops [mt 6 0, mt 7 1, o 8 (.call true true 0 (.fn 155) [.t 6, .t 7]), o 9 (.ext (.t 8) 0), o 10 (.ext (.t 8) 1), mt 4 9, mt 5 10] [4, 5])
 (.ret))⟩

def c127L0 : ACode :=
 .seq (.ops [o 27 (.bin .lss (.t 26) (ci 3))] [2, 4, 5, 6, 26, 27])
 (.seq (.cond (.t 27)
 (.skip)
 (.exit 1))
 (.seq (.block 2 (.seq (.ops [mt 28 26, mt 7 28] [2, 4, 5, 6, 7, 26])
 (.ops [mt 29 7, mt 30 5, o 31 (.call false true 0 (.val (.t 30)) []), o 32 (.fadr 3 (.t 6)), o 33 (.iadra 1 3 (.t 32) (.t 29)), u (.st 1 (.t 33) (.t 31))] [2, 4, 5, 6, 26])))
 (.ops [o 34 (.bin .add (.t 26) (ci 1)), mt 26 34] [2, 4, 5, 6, 26])))
def c127 : AFunc := ⟨67, [.cell 2 true 6, .tmp 3],
 .seq (.ops [o 2 (.alloc true 1 zl2), o 3 (.mv (cb false))] [0, 2])
 (.seq (.ops [mt 10 0, o 11 (.call true false 0 (.fn 156) [.t 10, cs [32]]), o 12 (.build [.p (.nils), .p (.bool false)] [(0, 1, .t 11)]), o 13 (.box false (.t 12)), mt 4 13] [2, 4])
 (.seq (.ops [mt 14 4, o 15 (.mkclo 157 [.t 14] []), mt 5 15] [2, 4, 5])
 (.seq (.ops [mt 16 4, o 17 (.call false true 0 (.fn 158) [.t 16]), o 18 (.build zl2 [(1, 1, .t 17)]), o 6 (.alloc true 1 zl2), u (.st 6 (.t 6) (.t 18))] [2, 4, 5, 6])
 (.seq (.ops [mt 19 5, o 20 (.call false true 0 (.val (.t 19)) []), o 21 (.fadr 0 (.t 6)), u (.st 1 (.t 21) (.t 20))] [2, 4, 5, 6])
 (.seq (.block 0 (.seq (.ops [o 23 (.ld true 6 (.t 6)), o 24 (.bslice false 1 zl9 1 [(0, cs [109, 101, 97, 115, 117, 114, 101])]), o 25 (.call true true 0 (.fn 93) [.t 23, .t 24]), mt 22 25] [2, 4, 5, 6, 22])
 (.cond (.t 22)
 (.seq (.ops [o 26 (.mv (ci 0))] [2, 4, 5, 6, 26])
 (.block 1 (.loop true [2, 4, 5, 6, 26] c127L0)))
 (.seq (.ops [o 36 (.ld true 6 (.t 6)), o 37 (.bslice false 1 zl9 3 [(0, cs [97, 114, 109]), (1, cs [100, 105, 115, 97, 114, 109]), (2, cs [115, 104, 111, 111, 116])]), o 38 (.call true true 0 (.fn 93) [.t 36, .t 37]), o 39 (.not (.t 38)), mt 35 39] [2, 4, 5, 6, 35])
 (.cond (.t 35)
 (.ops [mt 40 5, o 41 (.call false true 0 (.val (.t 40)) []), o 42 (.fadr 2 (.t 6)), u (.st 1 (.t 42) (.t 41))] [2, 4, 6])
 (.skip))))))
 (.seq (.opsd [(0, 1), (1, 1), (2, 1), (3, 1), (4, 1), (5, 1), (6, 1), (7, 1), (8, 1)] [o 44 (.call true false 0 (.fn 136) []), o 45 (.fadr 1 (.t 6)), o 46 (.ld false 1 (.t 45)), o 47 (.lkup 1 (.p (.int .i64 0)) (.t 44) (.t 46) true), mt 43 47, o 48 (.ext (.t 43) 0), o 49 (.ext (.t 43) 1), mt 8 48, mt 9 49] [2, 4, 6, 9])
 (.seq (.opsd [(0, 1), (1, 1), (2, 1), (3, 1), (4, 1), (5, 1), (6, 1), (7, 1), (8, 1), (9, 1), (10, 1), (11, 18), (12, 18), (13, 18), (14, 18), (15, 1), (16, 1), (17, 3), (18, 1)] [o 50 (.ld true 6 (.t 6)), mt 51 9, mt 52 51, ⟨some 53, .mv (.t 4), some (52, true)⟩, ⟨some 54, .nilck (.t 53), some (52, true)⟩, ⟨some 55, .fadr 1 (.t 54), some (52, true)⟩, ⟨some 56, .ld false 1 (.t 55), some (52, true)⟩, ⟨some 57, .not (.t 56), some (52, true)⟩, o 58 (.pick (.t 52) (.t 57) (cb false)), mt 59 58, ⟨some 60, .mv (.t 4), some (59, true)⟩, ⟨some 61, .nilck (.t 60), some (59, true)⟩, ⟨some 62, .fadr 0 (.t 61), some (59, true)⟩, ⟨some 63, .ld false 1 (.t 62), some (59, true)⟩, ⟨some 64, .len 1 (.t 63), some (59, true)⟩, ⟨some 65, .bin .eql (.t 64) (ci 0), some (59, true)⟩, o 66 (.pick (.t 59) (.t 65) (cb false)), u (.st 6 (.t 2) (.t 50)), mt 3 66] [2, 3])
 (.ret))))))))⟩

def c128L0 : ACode :=
 .seq (.seq (.ops [mt 19 4, mt 20 0, o 21 (.len 1 (.t 20)), o 22 (.bin .lss (.t 19) (.t 21))] [0, 4, 22])
 (.cond (.t 22)
 (.skip)
 (.exit 0)))
 (.seq (.block 1 (.seq (.seq (.opsd [(0, 1), (1, 1), (2, 1), (3, 1), (4, 1), (5, 1), (6, 1), (7, 1), (8, 5), (9, 5), (10, 1), (11, 0), (12, 0), (13, 0), (14, 1)] [mt 25 0, mt 26 4, o 27 (.iadr 2 (.t 25) (.t 26)), o 28 (.fadr 0 (.t 27)), o 29 (.ld false 1 (.t 28)), o 30 (.call true true 0 (.fn 24) [.t 29, ci 0, ci 100000]), mt 31 0, mt 32 4, o 33 (.iadr 2 (.t 31) (.t 32)), o 34 (.fadr 1 (.t 33)), o 35 (.ld false 1 (.t 34)), o 36 (.call true true 0 (.fn 24) [.t 35, ci 0, ci 1000000]), o 37 (.bslice false 1 zl8 2 [(0, .t 30), (1, .t 36)]), o 38 (.call true true 0 (.fn 23) [.t 37]), mt 5 38] [0, 4, 5])
 (.seq (.ops [mt 39 5, o 40 (.bin .neq (.t 39) (ci 0))] [0, 4, 5, 40])
 (.cond (.t 40)
 (.seq (.ops [mt 41 5, mt 2 41] [2])
 (.ret))
 (.skip))))
 (.seq (.opsd [(0, 1), (1, 1), (2, 1), (3, 1), (4, 1), (5, 1), (6, 1), (7, 1), (8, 1), (9, 1), (10, 1), (11, 1), (12, 1), (13, 1), (14, 1), (15, 1), (16, 1), (17, 1), (18, 1), (19, 1), (20, 1), (21, 1), (22, 1), (23, 1), (24, 1), (25, 1), (26, 1), (27, 1), (28, 1), (29, 1), (30, 1), (31, 1), (32, 1), (33, 1), (34, 1), (35, 1), (36, 1), (37, 1), (38, 1), (39, 1), (40, 1), (41, 1)] [mt 42 4, o 43 (.bin .eql (.t 42) (ci 0)), mt 44 43, ⟨some 45, .mv (.t 0), some (44, true)⟩, ⟨some 46, .mv (.t 4), some (44, true)⟩, ⟨some 47, .iadr 2 (.t 45) (.t 46), some (44, true)⟩, ⟨some 48, .fadr 0 (.t 47), some (44, true)⟩, ⟨some 49, .ld false 1 (.t 48), some (44, true)⟩, ⟨some 50, .bin .neq (.t 49) (ci 0), some (44, true)⟩, o 51 (.pick (.t 44) (.t 50) (cb false)), mt 52 51, ⟨some 53, .mv (.t 4), some (52, false)⟩, ⟨some 54, .bin .gtr (.t 53) (ci 0), some (52, false)⟩, ⟨some 55, .mv (.t 54), some (52, false)⟩, ⟨some 56, .mv (.t 0), some (55, true)⟩, ⟨some 57, .mv (.t 4), some (55, true)⟩, ⟨some 58, .iadr 2 (.t 56) (.t 57), some (55, true)⟩, ⟨some 59, .fadr 0 (.t 58), some (55, true)⟩, ⟨some 60, .ld false 1 (.t 59), some (55, true)⟩, ⟨some 61, .mv (.t 0), some (55, true)⟩, ⟨some 62, .mv (.t 4), some (55, true)⟩, ⟨some 63, .bin .sub (.t 62) (ci 1), some (55, true)⟩, ⟨some 64, .iadr 2 (.t 61) (.t 63), some (55, true)⟩, ⟨some 65, .fadr 0 (.t 64), some (55, true)⟩, ⟨some 66, .ld false 1 (.t 65), some (55, true)⟩, ⟨some 67, .bin .leq (.t 60) (.t 66), some (55, true)⟩, ⟨some 68, .mv (.t 67), some (55, true)⟩, ⟨some 69, .mv (.t 0), some (68, false)⟩, ⟨some 70, .mv (.t 4), some (68, false)⟩, ⟨some 71, .iadr 2 (.t 69) (.t 70), some (68, false)⟩, ⟨some 72, .fadr 1 (.t 71), some (68, false)⟩, ⟨some 73, .ld false 1 (.t 72), some (68, false)⟩, ⟨some 74, .mv (.t 0), some (68, false)⟩, ⟨some 75, .mv (.t 4), some (68, false)⟩, ⟨some 76, .bin .sub (.t 75) (ci 1), some (68, false)⟩, ⟨some 77, .iadr 2 (.t 74) (.t 76), some (68, false)⟩, ⟨some 78, .fadr 1 (.t 77), some (68, false)⟩, ⟨some 79, .ld false 1 (.t 78), some (68, false)⟩, ⟨some 80, .bin .lss (.t 73) (.t 79), some (68, false)⟩, ⟨some 81, .pick (.t 68) (cb true) (.t 80), some (55, true)⟩, ⟨some 82, .pick (.t 55) (.t 81) (cb false), some (52, false)⟩, o 83 (.pick (.t 52) (cb true) (.t 82))] [0, 4, 83])
 (.cond (.t 83)
 (.seq (.ops [o 2 (.mv (ci 11))] [2])
 (.ret))
 (.skip)))))
 (.ops [mt 23 4, o 24 (.bin .add (.t 23) (ci 1)), mt 4 24] [0, 4]))
def c128 : AFunc := ⟨84, [.tmp 2],
 .seq (.ops [o 2 (.mv (ci 0))] [0])
 (.seq (.seq (.ops [mt 6 0, o 7 (.len 1 (.t 6)), o 8 (.bin .eql (.t 7) (ci 0)), o 9 (.call true true 0 (.fn 94) [.t 8, ci 12]), mt 10 0, o 11 (.len 1 (.t 10)), o 12 (.bin .gtr (.t 11) (ci 8)), o 13 (.call true true 0 (.fn 94) [.t 12, ci 5]), o 14 (.bslice false 1 zl8 2 [(0, .t 9), (1, .t 13)]), o 15 (.call true true 0 (.fn 23) [.t 14]), mt 3 15] [0, 3])
 (.seq (.ops [mt 16 3, o 17 (.bin .neq (.t 16) (ci 0))] [0, 3, 17])
 (.cond (.t 17)
 (.seq (.ops [mt 18 3, mt 2 18] [2])
 (.ret))
 (.skip))))
 (.seq (.seq (.ops [o 4 (.mv (ci 0))] [0, 4])
 (.block 0 (.loop false [0, 4] c128L0)))
 (.seq (.ops [o 2 (.mv (ci 0))] [2])
 (.ret))))⟩

def c131 : AFunc := ⟨6, [.tmp 2],
 .seq (.ops [o 1 (.box true (.t 0)), o 2 (.mv (ci 0))] [1])
 (.seq (.ops [o 3 (.slca 1 3 (.t 1) none none), o 4 (.call true false 0 (.fn 105) [.t 3, cf 160]), o 5 (.call true true 0 (.fn 91) [.t 4]), mt 2 5] [2])
 (.ret))⟩

def c132L0 : ACode :=
 .seq (.ops [o 19 (.bin .lss (.t 18) (.t 17))] [3, 5, 6, 11, 12, 16, 17, 18, 19])
 (.seq (.cond (.t 19)
 (.skip)
 (.exit 2))
 (.seq (.block 3 (.seq (.ops [o 20 (.iadr 2 (.t 16) (.t 18)), o 21 (.ld true 2 (.t 20)), o 9 (.alloc true 1 zl6), u (.st 2 (.t 9) (.t 21))] [3, 5, 6, 9, 11, 12, 16, 17, 18])
 (.seq (.opsd [(0, 1), (1, 1), (2, 1), (3, 1), (4, 1), (5, 1)] [o 22 (.fadr 0 (.t 9)), o 23 (.ld false 1 (.t 22)), mt 24 6, o 25 (.iadra 1 3 (.t 3) (.t 24)), o 26 (.ld false 1 (.t 25)), o 27 (.bin .leq (.t 23) (.t 26))] [3, 5, 6, 9, 11, 12, 16, 17, 18, 27])
 (.cond (.t 27)
 (.ops [mt 28 5, o 29 (.fadr 1 (.t 9)), o 30 (.ld false 1 (.t 29)), o 31 (.max [.t 28, .t 30]), mt 5 31] [3, 5, 6, 11, 12, 16, 17, 18])
 (.skip)))))
 (.ops [o 32 (.bin .add (.t 18) (ci 1)), mt 18 32] [3, 5, 6, 11, 12, 16, 17, 18])))
def c132L1 : ACode :=
 .seq (.ops [o 13 (.bin .lss (.t 12) (ci 3))] [3, 5, 11, 12, 13])
 (.seq (.cond (.t 13)
 (.skip)
 (.exit 0))
 (.seq (.block 1 (.seq (.ops [mt 14 12, o 15 (.idx false 1 3 (.t 11) (.t 12)), mt 6 14, mt 7 15] [3, 5, 6, 7, 11, 12])
 (.seq (.ops [mt 16 7, o 17 (.len 1 (.t 16)), o 18 (.mv (ci 0))] [3, 5, 6, 11, 12, 16, 17, 18])
 (.block 2 (.loop true [3, 5, 6, 11, 12, 16, 17, 18] c132L0)))))
 (.ops [o 33 (.bin .add (.t 12) (ci 1)), mt 12 33] [3, 5, 11, 12])))
def c132 : AFunc := ⟨35, [.tmp 4],
 .seq (.ops [o 2 (.box false (.t 0)), o 3 (.box true (.t 1)), o 4 (.mv (ci 0))] [2, 3])
 (.seq (.ops [o 5 (.mv (ci 0))] [2, 3, 5])
 (.seq (.seq (.ops [o 10 (.fadr 2 (.t 2)), o 11 (.ld true 3 (.t 10)), o 12 (.mv (ci 0))] [3, 5, 11, 12])
 (.block 0 (.loop true [3, 5, 11, 12] c132L1)))
 (.seq (.ops [mt 34 5, mt 4 34] [4])
 (.ret))))⟩

def c134L0 : ACode :=
 .seq (.ops [o 11 (.bin .lss (.t 10) (.t 9))] [1, 5, 8, 9, 10, 11])
 (.seq (.cond (.t 11)
 (.skip)
 (.exit 0))
 (.seq (.block 1 (.seq (.ops [o 12 (.iadr 1 (.t 8) (.t 10)), o 13 (.ld false 1 (.t 12)), mt 7 13] [1, 5, 7, 8, 9, 10])
 (.ops [mt 14 5, mt 15 1, mt 16 7, o 17 (.call false true 0 (.val (.t 15)) [.t 16]), o 18 (.bslice false 1 zl8 1 [(0, .t 17)]), o 19 (.app 1 8 zl8 (.t 14) (.t 18)), mt 5 19] [1, 5, 8, 9, 10])))
 (.ops [o 20 (.bin .add (.t 10) (ci 1)), mt 10 20] [1, 5, 8, 9, 10])))
def c134 : AFunc := ⟨22, [.tmp 4],
 .seq (.ops [o 4 (.mv (cn))] [0, 1])
 (.seq (.ops [o 5 (.nilown 1)] [0, 1, 5])
 (.seq (.seq (.ops [mt 8 0, o 9 (.len 1 (.t 8)), o 10 (.mv (ci 0))] [1, 5, 8, 9, 10])
 (.block 0 (.loop true [1, 5, 8, 9, 10] c134L0)))
 (.seq (.ops [mt 21 5, mt 4 21] [4])
 (.ret))))⟩

def c135L0 : ACode :=
 .seq (.ops [o 25 (.bin .lss (.t 24) (.t 23))] [4, 22, 23, 24, 25])
 (.seq (.cond (.t 25)
 (.skip)
 (.exit 0))
 (.seq (.block 1 (.seq (.ops [mt 26 24, o 27 (.iadr 2 (.t 22) (.t 24)), o 28 (.ld true 2 (.t 27)), o 6 (.alloc true 1 zl6), mt 5 26, u (.st 2 (.t 6) (.t 28))] [4, 5, 6, 22, 23, 24])
 (.seq (.seq (.opsd [(0, 1), (1, 1), (2, 1), (3, 1), (4, 1), (6, 1), (7, 1), (5, 0), (8, 1), (9, 1), (10, 1), (11, 1), (12, 1), (13, 1), (14, 1), (15, 1), (16, 1), (17, 1), (18, 1), (19, 1), (20, 1), (21, 1), (22, 1), (23, 1), (24, 1), (25, 1), (26, 1), (27, 0), (28, 0), (29, 0), (30, 1)] [o 29 (.fadr 0 (.t 6)), o 30 (.ld false 1 (.t 29)), o 31 (.call true true 0 (.fn 92) [.t 30, ci 0, ci 100000]), o 32 (.fadr 1 (.t 6)), o 33 (.ld false 1 (.t 32)), mt 35 5, o 36 (.bin .eql (.t 35) (ci 0)), o 34 (.call true true 0 (.fn 92) [.t 33, ci 0, ci 1000000]), mt 37 36, ⟨some 38, .fadr 0 (.t 6), some (37, true)⟩, ⟨some 39, .ld false 1 (.t 38), some (37, true)⟩, ⟨some 40, .bin .neq (.t 39) (ci 0), some (37, true)⟩, o 41 (.pick (.t 37) (.t 40) (cb false)), mt 42 41, ⟨some 43, .fadr 0 (.t 6), some (42, false)⟩, ⟨some 44, .ld false 1 (.t 43), some (42, false)⟩, ⟨some 45, .fadr 0 (.t 4), some (42, false)⟩, ⟨some 46, .ld false 1 (.t 45), some (42, false)⟩, ⟨some 47, .bin .leq (.t 44) (.t 46), some (42, false)⟩, o 48 (.pick (.t 42) (cb true) (.t 47)), mt 49 48, ⟨some 50, .fadr 1 (.t 6), some (49, false)⟩, ⟨some 51, .ld false 1 (.t 50), some (49, false)⟩, ⟨some 52, .fadr 1 (.t 4), some (49, false)⟩, ⟨some 53, .ld false 1 (.t 52), some (49, false)⟩, ⟨some 54, .bin .lss (.t 51) (.t 53), some (49, false)⟩, o 55 (.pick (.t 49) (cb true) (.t 54)), o 56 (.call true true 0 (.fn 104) [.t 55, ci 11]), o 57 (.bslice false 1 zl8 3 [(0, .t 31), (1, .t 34), (2, .t 56)]), o 58 (.call true true 0 (.fn 91) [.t 57]), mt 7 58] [4, 6, 7, 22, 23, 24])
 (.seq (.ops [mt 59 7, o 60 (.bin .neq (.t 59) (ci 0))] [4, 6, 7, 22, 23, 24, 60])
 (.cond (.t 60)
 (.seq (.ops [mt 61 7, mt 2 61] [2])
 (.ret))
 (.skip))))
 (.ops [o 62 (.ld true 2 (.t 6)), u (.st 2 (.t 4) (.t 62))] [4, 22, 23, 24]))))
 (.ops [o 63 (.bin .add (.t 24) (ci 1)), mt 24 63] [4, 22, 23, 24])))
def c135 : AFunc := ⟨64, [.tmp 2],
 .seq (.ops [o 2 (.mv (ci 0))] [0])
 (.seq (.seq (.ops [mt 8 0, o 9 (.len 1 (.t 8)), o 10 (.bin .eql (.t 9) (ci 0)), o 11 (.call true true 0 (.fn 104) [.t 10, ci 12]), mt 12 0, o 13 (.len 1 (.t 12)), o 14 (.bin .gtr (.t 13) (ci 8)), o 15 (.call true true 0 (.fn 104) [.t 14, ci 5]), o 16 (.bslice false 1 zl8 2 [(0, .t 11), (1, .t 15)]), o 17 (.call true true 0 (.fn 91) [.t 16]), mt 3 17] [0, 3])
 (.seq (.ops [mt 18 3, o 19 (.bin .neq (.t 18) (ci 0))] [0, 3, 19])
 (.cond (.t 19)
 (.seq (.ops [mt 20 3, mt 2 20] [2])
 (.ret))
 (.skip))))
 (.seq (.ops [o 21 (.build zl6 [(0, 1, ci (-1)), (1, 1, ci 0)]), o 4 (.alloc true 1 zl6), u (.st 2 (.t 4) (.t 21))] [0, 4])
 (.seq (.seq (.ops [mt 22 0, o 23 (.len 1 (.t 22)), o 24 (.mv (ci 0))] [4, 22, 23, 24])
 (.block 0 (.loop true [4, 22, 23, 24] c135L0)))
 (.seq (.ops [o 2 (.mv (ci 0))] [2])
 (.ret)))))⟩

def c136L0 : ACode :=
 .seq (.ops [o 7 (.bin .lss (.t 6) (ci 10))] [1, 5, 6, 7])
 (.seq (.cond (.t 7)
 (.skip)
 (.exit 0))
 (.seq (.block 1 (.seq (.ops [mt 8 6, o 9 (.idx true 4 10 (.t 5) (.t 6)), o 3 (.alloc false 1 [.p (.str []), .p (.nilf), .p (.nilf), .p (.nilf)]), mt 2 8, u (.st 4 (.t 3) (.t 9))] [1, 2, 3, 5, 6])
 (.ops [mt 10 1, o 11 (.fadr 0 (.t 3)), o 12 (.ld false 1 (.t 11)), mt 13 2, u (.mupd 1 (.t 10) (.t 12) (.t 13))] [1, 5, 6])))
 (.ops [o 14 (.bin .add (.t 6) (ci 1)), mt 6 14] [1, 5, 6])))
def c136 : AFunc := ⟨16, [.tmp 0],
 .seq (.ops [o 0 (.mv (.c (.p (.nilm))))] [])
 (.seq (.ops [o 4 (.mkmap), mt 1 4] [1])
 (.seq (.seq (.ops [o 5 (.ld true 40 (.g 0)), o 6 (.mv (ci 0))] [1, 5, 6])
 (.block 0 (.loop true [1, 5, 6] c136L0)))
 (.seq (.ops [mt 15 1, mt 0 15] [0])
 (.ret))))⟩

def c137 : AFunc := ⟨6, [.tmp 4],
 .seq (.ops [o 2 (.box false (.t 0)), o 3 (.box false (.t 1)), o 4 (.mv (.c (.p (.nilf))))] [2, 3])
 (.seq (.ops [o 5 (.mkclo 161 [] [.t 3, .t 2]), mt 4 5] [4])
 (.ret))⟩

def c138 : AFunc := ⟨2, [.cell 0 true 15],
 .seq (.ops [o 0 (.alloc true 1 zl1)] [0])
 (.seq (.ops [o 1 (.build zl1 [(13, 1, ci (-1))]), u (.st 15 (.t 0) (.t 1))] [0])
 (.ret))⟩

def c139 : AFunc := ⟨9, [.tmp 4],
 .seq (.ops [o 4 (.mv (cb false))] [0, 1])
 (.seq (.ops [mt 5 0, mt 6 1, o 7 (.call true true 0 (.fn 163) [.t 5, .t 6]), o 8 (.bin .geq (.t 7) (ci 0)), mt 4 8] [4])
 (.ret))⟩

def c140L0 : ACode :=
 .seq (.ops [o 9 (.bin .lss (.t 8) (.t 7))] [0, 1, 7, 8, 9])
 (.seq (.cond (.t 9)
 (.skip)
 (.exit 0))
 (.seq (.block 1 (.seq (.ops [mt 10 8, mt 5 10] [0, 1, 5, 7, 8])
 (.seq (.ops [mt 11 1, mt 12 0, mt 13 5, o 14 (.iadr 2 (.t 12) (.t 13)), o 15 (.ld true 2 (.t 14)), o 16 (.call false true 0 (.val (.t 11)) [.t 15])] [0, 1, 5, 7, 8, 16])
 (.cond (.t 16)
 (.seq (.ops [mt 17 5, mt 4 17] [4])
 (.ret))
 (.skip)))))
 (.ops [o 18 (.bin .add (.t 8) (ci 1)), mt 8 18] [0, 1, 7, 8])))
def c140 : AFunc := ⟨19, [.tmp 4],
 .seq (.ops [o 4 (.mv (ci 0))] [0, 1])
 (.seq (.seq (.ops [mt 6 0, o 7 (.len 1 (.t 6)), o 8 (.mv (ci 0))] [0, 1, 7, 8])
 (.block 0 (.loop true [0, 1, 7, 8] c140L0)))
 (.seq (.ops [o 4 (.mv (ci (-1)))] [4])
 (.ret)))⟩

def c141 : AFunc := ⟨9, [.tmp 4],
 .seq (.ops [o 4 (.mv (cb false))] [0, 1])
 (.seq (.ops [mt 5 0, mt 6 1, o 7 (.call true true 0 (.fn 164) [.t 5, .t 6]), o 8 (.bin .geq (.t 7) (ci 0)), mt 4 8] [4])
 (.ret))⟩

def c143L0 : ACode :=
 .seq (.ops [o 8 (.nxt (.t 7) true), o 9 (.ext (.t 8) 0)] [0, 7, 8, 9])
 (.seq (.cond (.t 9)
 (.skip)
 (.exit 0))
 (.block 1 (.seq (.ops [o 10 (.ext (.t 8) 1), o 11 (.ext (.t 8) 2), mt 3 10, mt 4 11] [0, 3, 4, 7])
 (.seq (.ops [mt 12 4, o 13 (.bin .geq (.t 12) (.c (.p (.int .i32 97)))), mt 14 13, ⟨some 15, .mv (.t 4), some (14, true)⟩, ⟨some 16, .bin .leq (.t 15) (.c (.p (.int .i32 122))), some (14, true)⟩, o 17 (.pick (.t 14) (.t 16) (cb false)), mt 18 17, ⟨some 19, .mv (.t 4), some (18, false)⟩, ⟨some 20, .bin .geq (.t 19) (.c (.p (.int .i32 65))), some (18, false)⟩, ⟨some 21, .mv (.t 20), some (18, false)⟩, ⟨some 22, .mv (.t 4), some (21, true)⟩, ⟨some 23, .bin .leq (.t 22) (.c (.p (.int .i32 90))), some (21, true)⟩, ⟨some 24, .pick (.t 21) (.t 23) (cb false), some (18, false)⟩, o 25 (.pick (.t 18) (cb true) (.t 24)), mt 5 25] [0, 3, 4, 5, 7])
 (.seq (.ops [mt 26 5, o 27 (.not (.t 26)), mt 28 27, ⟨some 29, .mv (.t 3), some (28, true)⟩, ⟨some 30, .bin .eql (.t 29) (ci 0), some (28, true)⟩, ⟨some 31, .mv (.t 30), some (28, true)⟩, ⟨some 32, .mv (.t 4), some (31, false)⟩, ⟨some 33, .bin .neq (.t 32) (.c (.p (.int .i32 95))), some (31, false)⟩, ⟨some 34, .mv (.t 33), some (31, false)⟩, ⟨some 35, .mv (.t 4), some (34, true)⟩, ⟨some 36, .bin .lss (.t 35) (.c (.p (.int .i32 48))), some (34, true)⟩, ⟨some 37, .mv (.t 36), some (34, true)⟩, ⟨some 38, .mv (.t 4), some (37, false)⟩, ⟨some 39, .bin .gtr (.t 38) (.c (.p (.int .i32 57))), some (37, false)⟩, ⟨some 40, .pick (.t 37) (cb true) (.t 39), some (34, true)⟩, ⟨some 41, .pick (.t 34) (.t 40) (cb false), some (31, false)⟩, ⟨some 42, .pick (.t 31) (cb true) (.t 41), some (28, true)⟩, o 43 (.pick (.t 28) (.t 42) (cb false))] [0, 7, 43])
 (.cond (.t 43)
 (.seq (.ops [o 2 (.mv (cb false))] [2])
 (.ret))
 (.skip)))))))
def c143 : AFunc := ⟨51, [.tmp 2],
 .seq (.ops [o 2 (.mv (cb false))] [0])
 (.seq (.seq (.ops [mt 6 0, o 7 (.rngs (.t 6))] [0, 7])
 (.block 0 (.loop false [0, 7] c143L0)))
 (.seq (.ops [mt 44 0, o 45 (.bin .neq (.t 44) (cs [])), mt 46 45, ⟨some 47, .mv (.t 0), some (46, true)⟩, ⟨some 48, .len 0 (.t 47), some (46, true)⟩, ⟨some 49, .bin .leq (.t 48) (ci 24), some (46, true)⟩, o 50 (.pick (.t 46) (.t 49) (cb false)), mt 2 50] [2])
 (.ret)))⟩

def c144 : AFunc := ⟨5, [.tmp 2],
 .seq (.ops [o 2 (.mv (ci 0))] [0])
 (.seq (.ops [mt 3 0, o 4 (.call true true 0 (.fn 92) [.t 3, ci 0, ci 1000000]), mt 2 4] [2])
 (.ret))⟩

def c145L0 : ACode :=
 .seq (.ops [o 9 (.bin .lss (.t 8) (.t 7))] [3, 6, 7, 8, 9])
 (.seq (.cond (.t 9)
 (.skip)
 (.exit 0))
 (.seq (.block 1 (.seq (.ops [o 10 (.iadr 1 (.t 6) (.t 8)), o 11 (.ld false 1 (.t 10)), mt 5 11] [3, 5, 6, 7, 8])
 (.seq (.ops [mt 12 5, mt 13 3, o 14 (.bin .neq (.t 12) (.t 13))] [3, 5, 6, 7, 8, 14])
 (.cond (.t 14)
 (.seq (.ops [mt 15 5, mt 2 15] [2])
 (.ret))
 (.skip)))))
 (.ops [o 16 (.bin .add (.t 8) (ci 1)), mt 8 16] [3, 6, 7, 8])))
def c145 : AFunc := ⟨18, [.tmp 2],
 .seq (.ops [o 2 (.mv (ci 0))] [0])
 (.seq (.ops [o 3 (.mv (ci 0))] [0, 3])
 (.seq (.seq (.ops [mt 6 0, o 7 (.len 1 (.t 6)), o 8 (.mv (ci 0))] [3, 6, 7, 8])
 (.block 0 (.loop false [3, 6, 7, 8] c145L0)))
 (.seq (.ops [mt 17 3, mt 2 17] [2])
 (.ret))))⟩

def c146 : AFunc := ⟨20, [.tmp 4],
 .seq (.ops [o 4 (.mv (ci 0))] [0, 1])
 (.seq (.ops [mt 7 0, o 8 (.call true true 0 (.fn 165) [.t 7]), mt 5 8] [0, 1, 5])
 (.seq (.ops [mt 9 1, o 10 (.call true true 0 (.fn 165) [.t 9]), mt 6 10] [0, 1, 5, 6])
 (.seq (.seq (.ops [mt 11 5] [0, 1, 6, 11])
 (.cond (.t 11)
 (.seq (.seq (.ops [mt 12 6] [12])
 (.cond (.t 12)
 (.seq (.ops [o 4 (.mv (ci 0))] [4])
 (.ret))
 (.skip)))
 (.seq (.ops [o 4 (.mv (ci (-1)))] [4])
 (.ret)))
 (.skip)))
 (.seq (.seq (.ops [mt 13 6] [0, 1, 13])
 (.cond (.t 13)
 (.seq (.ops [o 4 (.mv (ci 1))] [4])
 (.ret))
 (.skip)))
 (.seq (.seq (.ops [mt 14 0, mt 15 1, o 16 (.bin .lss (.t 14) (.t 15))] [0, 1, 16])
 (.cond (.t 16)
 (.seq (.ops [o 4 (.mv (ci (-1)))] [4])
 (.ret))
 (.skip)))
 (.seq (.seq (.ops [mt 17 0, mt 18 1, o 19 (.bin .gtr (.t 17) (.t 18))] [19])
 (.cond (.t 19)
 (.seq (.ops [o 4 (.mv (ci 1))] [4])
 (.ret))
 (.skip)))
 (.seq (.ops [o 4 (.mv (ci 0))] [4])
 (.ret))))))))⟩

def c147L0 : ACode :=
 .seq (.ops [o 12 (.bin .lss (.t 11) (.t 10))] [0, 1, 9, 10, 11, 12])
 (.seq (.cond (.t 12)
 (.skip)
 (.exit 0))
 (.seq (.block 1 (.seq (.ops [mt 13 11, o 14 (.iadr 1 (.t 9) (.t 11)), o 15 (.ld false 1 (.t 14)), mt 5 13, mt 6 15] [0, 1, 5, 6, 9, 10, 11])
 (.seq (.seq (.ops [mt 16 5, mt 17 1, o 18 (.len 1 (.t 17)), o 19 (.bin .geq (.t 16) (.t 18))] [0, 1, 5, 6, 9, 10, 11, 19])
 (.cond (.t 19)
 (.seq (.ops [o 4 (.mv (ci 1))] [4])
 (.ret))
 (.skip)))
 (.seq (.ops [mt 20 1, mt 21 5, o 22 (.iadr 1 (.t 20) (.t 21)), o 23 (.ld false 1 (.t 22)), mt 7 23] [0, 1, 6, 7, 9, 10, 11])
 (.seq (.ops [mt 24 6, mt 25 7, o 26 (.call true true 0 (.fn 146) [.t 24, .t 25]), mt 8 26] [0, 1, 8, 9, 10, 11])
 (.seq (.ops [mt 27 8, o 28 (.bin .neq (.t 27) (ci 0))] [0, 1, 8, 9, 10, 11, 28])
 (.cond (.t 28)
 (.seq (.ops [mt 29 8, mt 4 29] [4])
 (.ret))
 (.skip))))))))
 (.ops [o 30 (.bin .add (.t 11) (ci 1)), mt 11 30] [0, 1, 9, 10, 11])))
def c147 : AFunc := ⟨36, [.tmp 4],
 .seq (.ops [o 4 (.mv (ci 0))] [0, 1])
 (.seq (.seq (.ops [mt 9 0, o 10 (.len 1 (.t 9)), o 11 (.mv (ci 0))] [0, 1, 9, 10, 11])
 (.block 0 (.loop false [0, 1, 9, 10, 11] c147L0)))
 (.seq (.seq (.ops [mt 31 0, o 32 (.len 1 (.t 31)), mt 33 1, o 34 (.len 1 (.t 33)), o 35 (.bin .lss (.t 32) (.t 34))] [35])
 (.cond (.t 35)
 (.seq (.ops [o 4 (.mv (ci (-1)))] [4])
 (.ret))
 (.skip)))
 (.seq (.ops [o 4 (.mv (ci 0))] [4])
 (.ret))))⟩

def c148L0 : ACode :=
 .seq (.seq (.ops [mt 7 2, mt 8 3, o 9 (.bin .lss (.t 7) (.t 8))] [0, 2, 3, 9])
 (.cond (.t 9)
 (.skip)
 (.exit 0)))
 (.seq (.block 1 (.opsd [(0, 1), (1, 1), (2, 1), (3, 1), (4, 1), (5, 1), (6, 1), (7, 1), (8, 1), (9, 1), (10, 1), (11, 1), (12, 1), (13, 0), (14, 1), (15, 0)] [mt 14 0, mt 15 2, mt 16 0, mt 17 3, mt 18 0, mt 19 3, o 20 (.iadr 1 (.t 18) (.t 19)), o 21 (.ld false 1 (.t 20)), mt 22 0, mt 23 2, o 24 (.iadr 1 (.t 22) (.t 23)), o 25 (.ld false 1 (.t 24)), o 26 (.iadr 1 (.t 14) (.t 15)), u (.st 1 (.t 26) (.t 21)), o 27 (.iadr 1 (.t 16) (.t 17)), u (.st 1 (.t 27) (.t 25))] [0, 2, 3]))
 (.ops [mt 10 2, o 11 (.bin .add (.t 10) (ci 1)), mt 12 3, o 13 (.bin .sub (.t 12) (ci 1)), mt 2 11, mt 3 13] [0, 2, 3]))
def c148 : AFunc := ⟨28, [],
 .seq (.ops [mt 4 0, o 5 (.len 1 (.t 4)), o 6 (.bin .sub (.t 5) (ci 1)), o 2 (.mv (ci 0)), mt 3 6] [0, 2, 3])
 (.block 0 (.loop false [0, 2, 3] c148L0))⟩

def c153L0 : ACode :=
 .seq (.seq (.ops [o 5 (.ld false 1 (.t 1)), o 6 (.len 0 (.t 5)), o 7 (.bin .gtr (.t 6) (ci 0))] [0, 1, 7])
 (.cond (.t 7)
 (.skip)
 (.exit 0)))
 (.block 1 (.seq (.ops [o 3 (.mv (cs []))] [0, 1])
 (.seq (.seq (.ops [o 8 (.ld false 1 (.t 1)), o 9 (.call true true 0 (.fn 154) [.t 8, .c (.p (.int .u8 10))]), mt 4 9] [0, 1, 4])
 (.seq (.ops [mt 10 4, o 11 (.bin .geq (.t 10) (ci 0))] [0, 1, 4, 11])
 (.cond (.t 11)
 (.opsd [(0, 1), (1, 1), (2, 1), (3, 1), (4, 1), (5, 1), (6, 1), (7, 1), (8, 1), (9, 0)] [o 12 (.ld false 1 (.t 1)), mt 13 4, o 14 (.bin .add (.t 13) (ci 1)), o 15 (.slcs (.t 12) none (some (.t 14))), o 16 (.ld false 1 (.t 1)), mt 17 4, o 18 (.bin .add (.t 17) (ci 1)), o 19 (.slcs (.t 16) (some (.t 18)) none), mt 3 15, u (.st 1 (.t 1) (.t 19))] [0, 1, 3])
 (.ops [o 20 (.ld false 1 (.t 1)), mt 3 20, u (.st 1 (.t 1) (cs []))] [0, 1, 3]))))
 (.seq (.ops [mt 21 0, mt 22 3, o 23 (.call false true 0 (.val (.t 21)) [.t 22]), o 24 (.not (.t 23))] [0, 1, 24])
 (.cond (.t 24)
 (.ret)
 (.skip))))))
def c153 : AFunc := ⟨25, [],
 .block 0 (.loop true [0, 1] c153L0)⟩

def c154 : AFunc := ⟨8, [.tmp 4],
 .seq (.ops [o 4 (.mv (ci 0))] [0, 1])
 (.seq (.ops [mt 5 0, mt 6 1, o 7 (.call true true 0 (.fn 169) [.t 5, .t 6]), mt 4 7] [4])
 (.ret))⟩

def c155 : AFunc := ⟨18, [.tmp 4, .tmp 5],
 .seq (.ops [o 4 (.mv (cs [])), o 5 (.mv (cb false))] [0, 1])
 (.seq (.seq (.ops [mt 6 0, mt 7 1, o 8 (.call true true 0 (.fn 170) [.t 6, .t 7]), o 9 (.not (.t 8))] [0, 1, 9])
 (.cond (.t 9)
 (.seq (.ops [mt 10 0, mt 4 10, o 5 (.mv (cb false))] [4, 5])
 (.ret))
 (.skip)))
 (.seq (.ops [mt 11 0, mt 12 0, o 13 (.len 0 (.t 12)), mt 14 1, o 15 (.len 0 (.t 14)), o 16 (.bin .sub (.t 13) (.t 15)), o 17 (.slcs (.t 11) none (some (.t 16))), mt 4 17, o 5 (.mv (cb true))] [4, 5])
 (.ret)))⟩

def c156 : AFunc := ⟨8, [.tmp 4],
 .seq (.ops [o 4 (.mv (cn))] [0, 1])
 (.seq (.ops [mt 5 0, mt 6 1, o 7 (.call true false 0 (.fn 171) [.t 5, .t 6, ci 0, ci (-1)]), mt 4 7] [4])
 (.ret))⟩

def c157 : AFunc := ⟨23, [.tmp 2],
 .seq (.ops [o 2 (.mv (ci 0))] [0])
 (.seq (.ops [mt 6 0, o 7 (.call false true 0 (.fn 158) [.t 6]), o 8 (.call true true 0 (.fn 172) [.t 7]), mt 5 8, o 9 (.ext (.t 5) 0), o 10 (.ext (.t 5) 1), mt 3 9, mt 4 10] [0, 3, 4])
 (.seq (.ops [mt 11 0, mt 12 0, o 13 (.nilck (.t 12)), o 14 (.fadr 1 (.t 13)), o 15 (.ld false 1 (.t 14)), mt 16 15, ⟨some 17, .mv (.t 4), some (16, false)⟩, ⟨some 18, .not (.t 17), some (16, false)⟩, o 19 (.pick (.t 16) (cb true) (.t 18)), o 20 (.nilck (.t 11)), o 21 (.fadr 1 (.t 20)), u (.st 1 (.t 21) (.t 19))] [3])
 (.seq (.ops [mt 22 3, mt 2 22] [2])
 (.ret))))⟩

def c158 : AFunc := ⟨28, [.tmp 2],
 .seq (.ops [o 2 (.mv (cs []))] [0])
 (.seq (.seq (.ops [mt 4 0, o 5 (.nilck (.t 4)), o 6 (.fadr 0 (.t 5)), o 7 (.ld false 1 (.t 6)), o 8 (.len 1 (.t 7)), o 9 (.bin .eql (.t 8) (ci 0))] [0, 9])
 (.cond (.t 9)
 (.seq (.ops [mt 10 0, o 11 (.nilck (.t 10)), o 12 (.fadr 1 (.t 11)), u (.st 1 (.t 12) (cb true))] [])
 (.seq (.ops [o 2 (.mv (cs []))] [2])
 (.ret)))
 (.skip)))
 (.seq (.ops [mt 13 0, o 14 (.nilck (.t 13)), o 15 (.fadr 0 (.t 14)), o 16 (.ld false 1 (.t 15)), o 17 (.iadr 1 (.t 16) (ci 0)), o 18 (.ld false 1 (.t 17)), mt 3 18] [0, 3])
 (.seq (.ops [mt 19 0, mt 20 0, o 21 (.nilck (.t 20)), o 22 (.fadr 0 (.t 21)), o 23 (.ld false 1 (.t 22)), o 24 (.slc 1 (.t 23) (some (ci 1)) none), o 25 (.nilck (.t 19)), o 26 (.fadr 0 (.t 25)), u (.st 1 (.t 26) (.t 24))] [3])
 (.seq (.ops [mt 27 3, mt 2 27] [2])
 (.ret)))))⟩

def c160 : AFunc := ⟨5, [.tmp 2],
 .seq (.ops [o 2 (.mv (ci 0))] [0])
 (.seq (.ops [mt 3 0, o 4 (.call true true 0 (.fn 92) [.t 3, ci 0, ci 100000]), mt 2 4] [2])
 (.ret))⟩

def c161L0 : ACode :=
 .seq (.ops [o 11 (.bin .lss (.t 10) (.t 9))] [0, 2, 4, 8, 9, 10, 11])
 (.seq (.cond (.t 11)
 (.skip)
 (.exit 0))
 (.seq (.block 1 (.seq (.ops [mt 12 10, o 13 (.iadr 6 (.t 8) (.t 10)), o 14 (.ld true 6 (.t 13)), o 6 (.alloc true 1 zl2), mt 5 12, u (.st 6 (.t 6) (.t 14))] [0, 2, 4, 5, 6, 8, 9, 10])
 (.seq (.seq (.ops [o 15 (.ld true 15 (.t 4)), o 16 (.ld true 6 (.t 6)), o 17 (.call true false 0 (.fn 90) [.t 15, .t 16]), o 18 (.len 1 (.t 17)), o 19 (.bin .gtr (.t 18) (ci 0))] [0, 2, 4, 5, 6, 8, 9, 10, 19])
 (.cond (.t 19)
 (.ret)
 (.skip)))
 (.seq (.ops [o 20 (.ld true 15 (.t 4)), o 21 (.ld true 5 (.t 2)), o 22 (.ld true 6 (.t 6)), o 23 (.call true true 0 (.fn 162) [.t 20, .t 21, .t 22]), u (.st 15 (.t 4) (.t 23))] [0, 2, 4, 5, 8, 9, 10])
 (.seq (.ops [mt 24 0, mt 25 5, o 26 (.ld true 15 (.t 4)), o 27 (.call false true 0 (.val (.t 24)) [.t 25, .t 26]), o 28 (.not (.t 27))] [0, 2, 4, 8, 9, 10, 28])
 (.cond (.t 28)
 (.ret)
 (.skip)))))))
 (.ops [o 29 (.bin .add (.t 10) (ci 1)), mt 10 29] [0, 2, 4, 8, 9, 10])))
def c161 : AFunc := ⟨30, [],
 .seq (.ops [o 7 (.call true true 0 (.fn 138) []), o 4 (.alloc true 1 zl1), u (.st 15 (.t 4) (.t 7))] [0, 1, 2, 4])
 (.seq (.ops [o 8 (.ld false 1 (.t 1)), o 9 (.len 1 (.t 8)), o 10 (.mv (ci 0))] [0, 2, 4, 8, 9, 10])
 (.block 0 (.loop true [0, 2, 4, 8, 9, 10] c161L0)))⟩

def c162 : AFunc := ⟨21, [.cell 6 true 15],
 .seq (.ops [o 3 (.box true (.t 0)), o 4 (.box false (.t 1)), o 5 (.box true (.t 2)), o 6 (.alloc true 1 zl1)] [3, 4, 5, 6])
 (.seq (.ops [o 7 (.fadr 0 (.t 5)), o 8 (.ld false 1 (.t 7)), o 9 (.fadr 0 (.t 3)), u (.st 1 (.t 9) (.t 8))] [3, 4, 5, 6])
 (.seq (.opsd [(0, 1), (1, 1), (2, 1), (3, 1), (4, 1), (5, 1), (6, 1), (7, 1), (8, 1), (9, 0)] [o 10 (.call true false 0 (.fn 136) []), o 11 (.fadr 1 (.t 5)), o 12 (.ld false 1 (.t 11)), o 13 (.lkup 1 (.p (.int .i64 0)) (.t 10) (.t 12) false), o 14 (.iadra 4 10 (.g 0) (.t 13)), o 15 (.fadr 3 (.t 14)), o 16 (.ld false 1 (.t 15)), o 17 (.ld true 5 (.t 4)), o 18 (.ld true 6 (.t 5)), o 19 (.call false true 0 (.val (.t 16)) [.t 17, .t 3, .t 18])] [3, 6])
 (.seq (.ops [o 20 (.ld true 15 (.t 3)), u (.st 15 (.t 6) (.t 20))] [6])
 (.ret))))⟩

def c163L0 : ACode :=
 .seq (.ops [o 9 (.bin .lss (.t 8) (.t 7))] [0, 1, 7, 8, 9])
 (.seq (.cond (.t 9)
 (.skip)
 (.exit 0))
 (.seq (.block 1 (.seq (.ops [mt 10 8, mt 5 10] [0, 1, 5, 7, 8])
 (.seq (.ops [mt 11 1, mt 12 0, mt 13 5, o 14 (.iadr 1 (.t 12) (.t 13)), o 15 (.ld false 1 (.t 14)), o 16 (.bin .eql (.t 11) (.t 15))] [0, 1, 5, 7, 8, 16])
 (.cond (.t 16)
 (.seq (.ops [mt 17 5, mt 4 17] [4])
 (.ret))
 (.skip)))))
 (.ops [o 18 (.bin .add (.t 8) (ci 1)), mt 8 18] [0, 1, 7, 8])))
def c163 : AFunc := ⟨19, [.tmp 4],
 .seq (.ops [o 4 (.mv (ci 0))] [0, 1])
 (.seq (.seq (.ops [mt 6 0, o 7 (.len 1 (.t 6)), o 8 (.mv (ci 0))] [0, 1, 7, 8])
 (.block 0 (.loop false [0, 1, 7, 8] c163L0)))
 (.seq (.ops [o 4 (.mv (ci (-1)))] [4])
 (.ret)))⟩

def c164L0 : ACode :=
 .seq (.ops [o 9 (.bin .lss (.t 8) (.t 7))] [0, 1, 7, 8, 9])
 (.seq (.cond (.t 9)
 (.skip)
 (.exit 0))
 (.seq (.block 1 (.seq (.ops [mt 10 8, mt 5 10] [0, 1, 5, 7, 8])
 (.seq (.ops [mt 11 1, mt 12 0, mt 13 5, o 14 (.iadr 1 (.t 12) (.t 13)), o 15 (.ld false 1 (.t 14)), o 16 (.bin .eql (.t 11) (.t 15))] [0, 1, 5, 7, 8, 16])
 (.cond (.t 16)
 (.seq (.ops [mt 17 5, mt 4 17] [4])
 (.ret))
 (.skip)))))
 (.ops [o 18 (.bin .add (.t 8) (ci 1)), mt 8 18] [0, 1, 7, 8])))
def c164 : AFunc := ⟨19, [.tmp 4],
 .seq (.ops [o 4 (.mv (ci 0))] [0, 1])
 (.seq (.seq (.ops [mt 6 0, o 7 (.len 1 (.t 6)), o 8 (.mv (ci 0))] [0, 1, 7, 8])
 (.block 0 (.loop false [0, 1, 7, 8] c164L0)))
 (.seq (.ops [o 4 (.mv (ci (-1)))] [4])
 (.ret)))⟩

def c165 : AFunc := ⟨6, [.tmp 2],
 .seq (.ops [o 2 (.mv (cb false))] [0])
 (.seq (.ops [mt 3 0, mt 4 0, o 5 (.bin .neq (.t 3) (.t 4)), mt 2 5] [2])
 (.ret))⟩

def c169 : AFunc := ⟨8, [.tmp 4],
 .seq (.ops [o 4 (.mv (ci 0))] [0, 1])
 (.seq (.ops [mt 5 0, mt 6 1, o 7 (.call true true 0 (.fn 179) [.t 5, .t 6]), mt 4 7] [4])
 (.ret))⟩

def c170 : AFunc := ⟨21, [.tmp 4],
 .seq (.ops [o 4 (.mv (cb false))] [0, 1])
 (.seq (.ops [mt 5 0, o 6 (.len 0 (.t 5)), mt 7 1, o 8 (.len 0 (.t 7)), o 9 (.bin .geq (.t 6) (.t 8)), mt 10 9, ⟨some 11, .mv (.t 0), some (10, true)⟩, ⟨some 12, .mv (.t 0), some (10, true)⟩, ⟨some 13, .len 0 (.t 12), some (10, true)⟩, ⟨some 14, .mv (.t 1), some (10, true)⟩, ⟨some 15, .len 0 (.t 14), some (10, true)⟩, ⟨some 16, .bin .sub (.t 13) (.t 15), some (10, true)⟩, ⟨some 17, .slcs (.t 11) (some (.t 16)) none, some (10, true)⟩, ⟨some 18, .mv (.t 1), some (10, true)⟩, ⟨some 19, .bin .eql (.t 17) (.t 18), some (10, true)⟩, o 20 (.pick (.t 10) (.t 19) (cb false)), mt 4 20] [4])
 (.ret))⟩

def c171L0 : ACode :=
 .seq (.seq (.ops [mt 34 10, mt 35 3, o 36 (.bin .lss (.t 34) (.t 35))] [0, 1, 2, 3, 9, 10, 36])
 (.cond (.t 36)
 (.skip)
 (.exit 0)))
 (.block 1 (.seq (.ops [mt 37 0, mt 38 1, o 39 (.call true true 0 (.fn 182) [.t 37, .t 38]), mt 11 39] [0, 1, 2, 3, 9, 10, 11])
 (.seq (.seq (.ops [mt 40 11, o 41 (.bin .lss (.t 40) (ci 0))] [0, 1, 2, 3, 9, 10, 11, 41])
 (.cond (.t 41)
 (.exit 0)
 (.skip)))
 (.seq (.ops [mt 42 9, mt 43 10, mt 44 0, mt 45 11, mt 46 2, o 47 (.bin .add (.t 45) (.t 46)), o 48 (.slcs (.t 44) none (some (.t 47))), o 49 (.iadr 1 (.t 42) (.t 43)), u (.st 1 (.t 49) (.t 48))] [0, 1, 2, 3, 9, 10, 11])
 (.seq (.ops [mt 50 0, mt 51 11, mt 52 1, o 53 (.len 0 (.t 52)), o 54 (.bin .add (.t 51) (.t 53)), o 55 (.slcs (.t 50) (some (.t 54)) none), mt 0 55] [0, 1, 2, 3, 9, 10])
 (.ops [mt 56 10, o 57 (.bin .add (.t 56) (ci 1)), mt 10 57] [0, 1, 2, 3, 9, 10]))))))
def c171 : AFunc := ⟨66, [.tmp 8],
 .seq (.ops [o 8 (.mv (cn))] [0, 1, 2, 3])
 (.seq (.seq (.ops [mt 12 3, o 13 (.bin .eql (.t 12) (ci 0))] [0, 1, 2, 3, 13])
 (.cond (.t 13)
 (.seq (.ops [o 8 (.mv (cn))] [8])
 (.ret))
 (.skip)))
 (.seq (.seq (.ops [mt 14 1, o 15 (.bin .eql (.t 14) (cs []))] [0, 1, 2, 3, 15])
 (.cond (.t 15)
 (.seq (.ops [mt 16 0, mt 17 3, o 18 (.call true false 0 (.fn 180) [.t 16, .t 17]), mt 8 18] [8])
 (.ret))
 (.skip)))
 (.seq (.seq (.ops [mt 19 3, o 20 (.bin .lss (.t 19) (ci 0))] [0, 1, 2, 3, 20])
 (.cond (.t 20)
 (.ops [mt 21 0, mt 22 1, o 23 (.call true true 0 (.fn 181) [.t 21, .t 22]), o 24 (.bin .add (.t 23) (ci 1)), mt 3 24] [0, 1, 2, 3])
 (.skip)))
 (.seq (.ops [mt 25 3, mt 26 0, o 27 (.len 0 (.t 26)), o 28 (.bin .add (.t 27) (ci 1)), o 29 (.min [.t 25, .t 28]), mt 3 29] [0, 1, 2, 3])
 (.seq (.ops [mt 30 3, o 31 (.mkslice 1 zl9 (.t 30) (.t 30)), mt 9 31] [0, 1, 2, 3, 9])
 (.seq (.ops [mt 32 3, o 33 (.bin .sub (.t 32) (ci 1)), mt 3 33] [0, 1, 2, 3, 9])
 (.seq (.ops [o 10 (.mv (ci 0))] [0, 1, 2, 3, 9, 10])
 (.seq (.block 0 (.loop false [0, 1, 2, 3, 9, 10] c171L0))
 (.seq (.ops [mt 58 9, mt 59 10, mt 60 0, o 61 (.iadr 1 (.t 58) (.t 59)), u (.st 1 (.t 61) (.t 60))] [9, 10])
 (.seq (.ops [mt 62 9, mt 63 10, o 64 (.bin .add (.t 63) (ci 1)), o 65 (.slc 1 (.t 62) none (some (.t 64))), mt 8 65] [8])
 (.ret)))))))))))⟩

def c172L0 : ACode :=
 .seq (.ops [o 9 (.nxt (.t 8) true), o 10 (.ext (.t 9) 0)] [0, 4, 8, 9, 10])
 (.seq (.cond (.t 10)
 (.skip)
 (.exit 0))
 (.block 1 (.seq (.ops [o 11 (.ext (.t 9) 2), mt 6 11] [0, 4, 6, 8])
 (.seq (.seq (.ops [mt 12 6, o 13 (.bin .lss (.t 12) (.c (.p (.int .i32 48)))), mt 14 13, ⟨some 15, .mv (.t 6), some (14, false)⟩, ⟨some 16, .bin .gtr (.t 15) (.c (.p (.int .i32 57))), some (14, false)⟩, o 17 (.pick (.t 14) (cb true) (.t 16)), mt 18 17, ⟨some 19, .mv (.t 0), some (18, false)⟩, ⟨some 20, .len 0 (.t 19), some (18, false)⟩, ⟨some 21, .bin .gtr (.t 20) (ci 9), some (18, false)⟩, o 22 (.pick (.t 18) (cb true) (.t 21))] [0, 4, 6, 8, 22])
 (.cond (.t 22)
 (.seq (.ops [o 2 (.mv (ci 0)), o 3 (.mv (cb false))] [2, 3])
 (.ret))
 (.skip)))
 (.ops [mt 23 4, o 24 (.bin .mul (ci 10) (.t 23)), mt 25 6, o 26 (.bin .sub (.t 25) (.c (.p (.int .i32 48)))), o 27 (.conv (.int .i64) (.t 26)), o 28 (.bin .add (.t 24) (.t 27)), mt 4 28] [0, 4, 8])))))
def c172 : AFunc := ⟨42, [.tmp 2, .tmp 3],
 .seq (.ops [o 2 (.mv (ci 0)), o 3 (.mv (cb false))] [0])
 (.seq (.ops [o 4 (.mv (ci 0))] [0, 4])
 (.seq (.seq (.ops [mt 7 0, o 8 (.rngs (.t 7))] [0, 4, 8])
 (.block 0 (.loop false [0, 4, 8] c172L0)))
 (.seq (.opsd [(0, 1), (1, 1), (2, 1), (3, 1), (4, 1), (5, 1), (6, 1), (7, 1), (8, 1), (9, 1), (10, 1), (11, 1), (12, 1), (13, 1), (14, 1)] [mt 29 4, mt 30 0, o 31 (.bin .neq (.t 30) (cs [])), mt 32 31, ⟨some 33, .mv (.t 0), some (32, true)⟩, ⟨some 34, .len 0 (.t 33), some (32, true)⟩, ⟨some 35, .bin .eql (.t 34) (ci 1), some (32, true)⟩, ⟨some 36, .mv (.t 35), some (32, true)⟩, ⟨some 37, .mv (.t 0), some (36, false)⟩, ⟨some 38, .idxs (.t 37) (ci 0), some (36, false)⟩, ⟨some 39, .bin .neq (.t 38) (.c (.p (.int .u8 48))), some (36, false)⟩, ⟨some 40, .pick (.t 36) (cb true) (.t 39), some (32, true)⟩, o 41 (.pick (.t 32) (.t 40) (cb false)), mt 2 29, mt 3 41] [2, 3])
 (.ret))))⟩

def c180L0 : ACode :=
 .seq (.seq (.ops [mt 22 7, mt 23 1, o 24 (.bin .sub (.t 23) (ci 1)), o 25 (.bin .lss (.t 22) (.t 24))] [0, 1, 6, 7, 25])
 (.cond (.t 25)
 (.skip)
 (.exit 0)))
 (.seq (.block 1 (.seq (.ops [mt 29 0, o 30 (.call true true 0 (.fn 189) [.t 29]), mt 28 30, o 31 (.ext (.t 28) 0), o 32 (.ext (.t 28) 1), mt 8 31, mt 9 32] [0, 1, 6, 7, 9])
 (.seq (.ops [mt 33 6, mt 34 7, mt 35 0, mt 36 9, o 37 (.slcs (.t 35) none (some (.t 36))), o 38 (.iadr 1 (.t 33) (.t 34)), u (.st 1 (.t 38) (.t 37))] [0, 1, 6, 7, 9])
 (.ops [mt 39 0, mt 40 9, o 41 (.slcs (.t 39) (some (.t 40)) none), mt 0 41] [0, 1, 6, 7]))))
 (.ops [mt 26 7, o 27 (.bin .add (.t 26) (ci 1)), mt 7 27] [0, 1, 6, 7]))
def c180 : AFunc := ⟨50, [.tmp 4],
 .seq (.ops [o 4 (.mv (cn))] [0, 1])
 (.seq (.ops [mt 10 0, o 11 (.call true true 0 (.fn 188) [.t 10]), mt 5 11] [0, 1, 5])
 (.seq (.seq (.ops [mt 12 1, o 13 (.bin .lss (.t 12) (ci 0)), mt 14 13, ⟨some 15, .mv (.t 1), some (14, false)⟩, ⟨some 16, .mv (.t 5), some (14, false)⟩, ⟨some 17, .bin .gtr (.t 15) (.t 16), some (14, false)⟩, o 18 (.pick (.t 14) (cb true) (.t 17))] [0, 1, 5, 18])
 (.cond (.t 18)
 (.ops [mt 19 5, mt 1 19] [0, 1])
 (.skip)))
 (.seq (.ops [mt 20 1, o 21 (.mkslice 1 zl9 (.t 20) (.t 20)), mt 6 21] [0, 1, 6])
 (.seq (.seq (.ops [o 7 (.mv (ci 0))] [0, 1, 6, 7])
 (.block 0 (.loop false [0, 1, 6, 7] c180L0)))
 (.seq (.seq (.ops [mt 42 1, o 43 (.bin .gtr (.t 42) (ci 0))] [0, 1, 6, 43])
 (.cond (.t 43)
 (.ops [mt 44 6, mt 45 1, o 46 (.bin .sub (.t 45) (ci 1)), mt 47 0, o 48 (.iadr 1 (.t 44) (.t 46)), u (.st 1 (.t 48) (.t 47))] [6])
 (.skip)))
 (.seq (.ops [mt 49 6, mt 4 49] [4])
 (.ret)))))))⟩

def c181L0 : ACode :=
 .block 1 (.seq (.ops [mt 20 0, mt 21 1, o 22 (.call true true 0 (.fn 182) [.t 20, .t 21]), mt 6 22] [0, 1, 5, 6])
 (.seq (.seq (.ops [mt 23 6, o 24 (.bin .eql (.t 23) (ci (-1)))] [0, 1, 5, 6, 24])
 (.cond (.t 24)
 (.seq (.ops [mt 25 5, mt 4 25] [4])
 (.ret))
 (.skip)))
 (.seq (.ops [mt 26 5, o 27 (.bin .add (.t 26) (ci 1)), mt 5 27] [0, 1, 5, 6])
 (.ops [mt 28 0, mt 29 6, mt 30 1, o 31 (.len 0 (.t 30)), o 32 (.bin .add (.t 29) (.t 31)), o 33 (.slcs (.t 28) (some (.t 32)) none), mt 0 33] [0, 1, 5]))))
def c181 : AFunc := ⟨34, [.tmp 4],
 .seq (.ops [o 4 (.mv (ci 0))] [0, 1])
 (.seq (.seq (.ops [mt 7 1, o 8 (.len 0 (.t 7)), o 9 (.bin .eql (.t 8) (ci 0))] [0, 1, 9])
 (.cond (.t 9)
 (.seq (.ops [mt 10 0, o 11 (.call true true 0 (.fn 188) [.t 10]), o 12 (.bin .add (.t 11) (ci 1)), mt 4 12] [4])
 (.ret))
 (.skip)))
 (.seq (.seq (.ops [mt 13 1, o 14 (.len 0 (.t 13)), o 15 (.bin .eql (.t 14) (ci 1))] [0, 1, 15])
 (.cond (.t 15)
 (.seq (.ops [mt 16 0, mt 17 1, o 18 (.idxs (.t 17) (ci 0)), o 19 (.call true true 0 (.fn 190) [.t 16, .t 18]), mt 4 19] [4])
 (.ret))
 (.skip)))
 (.seq (.ops [o 5 (.mv (ci 0))] [0, 1, 5])
 (.block 0 (.loop false [0, 1, 5] c181L0)))))⟩

def c182 : AFunc := ⟨8, [.tmp 4],
 .seq (.ops [o 4 (.mv (ci 0))] [0, 1])
 (.seq (.ops [mt 5 0, mt 6 1, o 7 (.call true true 0 (.fn 191) [.t 5, .t 6]), mt 4 7] [4])
 (.ret))⟩

def c188L0 : ACode :=
 .seq (.ops [o 5 (.nxt (.t 4) true), o 6 (.ext (.t 5) 0)] [2, 4, 6])
 (.seq (.cond (.t 6)
 (.skip)
 (.exit 0))
 (.block 1 (.ops [mt 7 2, o 8 (.bin .add (.t 7) (ci 1)), mt 2 8] [2, 4])))
def c188 : AFunc := ⟨10, [.tmp 2],
 .seq (.ops [o 2 (.mv (ci 0))] [0, 2])
 (.seq (.seq (.ops [mt 3 0, o 4 (.rngs (.t 3))] [2, 4])
 (.block 0 (.loop false [2, 4] c188L0)))
 (.seq (.ops [mt 9 2, mt 2 9] [2])
 (.ret)))⟩

def c189 : AFunc := ⟨19, [.tmp 2, .tmp 3],
 .seq (.ops [o 2 (.mv (.c (.p (.int .i32 0)))), o 3 (.mv (ci 0))] [0])
 (.seq (.seq (.ops [mt 4 0, o 5 (.bin .neq (.t 4) (cs [])), mt 6 5, ⟨some 7, .mv (.t 0), some (6, true)⟩, ⟨some 8, .idxs (.t 7) (ci 0), some (6, true)⟩, ⟨some 9, .bin .lss (.t 8) (.c (.p (.int .u8 128))), some (6, true)⟩, o 10 (.pick (.t 6) (.t 9) (cb false))] [0, 10])
 (.cond (.t 10)
 (.seq (.ops [mt 11 0, o 12 (.idxs (.t 11) (ci 0)), o 13 (.conv (.int .i32) (.t 12)), mt 2 13, o 3 (.mv (ci 1))] [2, 3])
 (.ret))
 (.ops [mt 15 0, o 16 (.call true true 0 (.fn 194) [.t 15]), mt 14 16, o 17 (.ext (.t 14) 0), o 18 (.ext (.t 14) 1), mt 2 17, mt 3 18] [2, 3])))
 (.ret))⟩

def c191L0 : ACode :=
 .seq (.seq (.ops [mt 57 8, mt 58 9, o 59 (.bin .lss (.t 57) (.t 58))] [0, 1, 5, 6, 7, 8, 9, 10, 59])
 (.cond (.t 59)
 (.skip)
 (.exit 1)))
 (.block 2 (.seq (.seq (.ops [mt 60 0, mt 61 8, o 62 (.idxs (.t 60) (.t 61)), mt 63 6, o 64 (.bin .neq (.t 62) (.t 63))] [0, 1, 5, 6, 7, 8, 9, 10, 64])
 (.cond (.t 64)
 (.seq (.ops [mt 65 0, mt 66 8, o 67 (.bin .add (.t 66) (ci 1)), mt 68 9, o 69 (.slcs (.t 65) (some (.t 67)) (some (.t 68))), mt 70 6, o 71 (.call true true 0 (.fn 169) [.t 69, .t 70]), mt 11 71] [0, 1, 5, 6, 7, 8, 9, 10, 11])
 (.seq (.seq (.ops [mt 72 11, o 73 (.bin .lss (.t 72) (ci 0))] [0, 1, 5, 6, 7, 8, 9, 10, 11, 73])
 (.cond (.t 73)
 (.seq (.ops [o 4 (.mv (ci (-1)))] [4])
 (.ret))
 (.skip)))
 (.ops [mt 74 8, mt 75 11, o 76 (.bin .add (.t 75) (ci 1)), o 77 (.bin .add (.t 74) (.t 76)), mt 8 77] [0, 1, 5, 6, 7, 8, 9, 10])))
 (.skip)))
 (.seq (.seq (.ops [mt 78 0, mt 79 8, o 80 (.bin .add (.t 79) (ci 1)), o 81 (.idxs (.t 78) (.t 80)), mt 82 7, o 83 (.bin .eql (.t 81) (.t 82)), mt 84 83, ⟨some 85, .mv (.t 0), some (84, true)⟩, ⟨some 86, .mv (.t 8), some (84, true)⟩, ⟨some 87, .mv (.t 8), some (84, true)⟩, ⟨some 88, .mv (.t 5), some (84, true)⟩, ⟨some 89, .bin .add (.t 87) (.t 88), some (84, true)⟩, ⟨some 90, .slcs (.t 85) (some (.t 86)) (some (.t 89)), some (84, true)⟩, ⟨some 91, .mv (.t 1), some (84, true)⟩, ⟨some 92, .bin .eql (.t 90) (.t 91), some (84, true)⟩, o 93 (.pick (.t 84) (.t 92) (cb false))] [0, 1, 5, 6, 7, 8, 9, 10, 93])
 (.cond (.t 93)
 (.seq (.ops [mt 94 8, mt 4 94] [4])
 (.ret))
 (.skip)))
 (.seq (.ops [mt 95 8, o 96 (.bin .add (.t 95) (ci 1)), mt 8 96] [0, 1, 5, 6, 7, 8, 9, 10])
 (.seq (.ops [mt 97 10, o 98 (.bin .add (.t 97) (ci 1)), mt 10 98] [0, 1, 5, 6, 7, 8, 9, 10])
 (.seq (.ops [mt 99 5, o 100 (.ld false 1 (.g 2)), o 101 (.bin .leq (.t 99) (.t 100)), mt 102 101, ⟨some 103, .mv (.t 10), some (102, true)⟩, ⟨some 104, .mv (.t 8), some (102, true)⟩, ⟨some 105, .call true true 0 (.fn 196) [.t 104], some (102, true)⟩, ⟨some 106, .bin .gtr (.t 103) (.t 105), some (102, true)⟩, o 107 (.pick (.t 102) (.t 106) (cb false))] [0, 1, 5, 6, 7, 8, 9, 10, 107])
 (.cond (.t 107)
 (.seq (.ops [mt 108 0, mt 109 8, o 110 (.slcs (.t 108) (some (.t 109)) none), mt 111 1, o 112 (.call true true 0 (.fn 195) [.t 110, .t 111]), mt 12 112] [8, 12])
 (.seq (.seq (.ops [mt 113 12, o 114 (.bin .geq (.t 113) (ci 0))] [8, 12, 114])
 (.cond (.t 114)
 (.seq (.ops [mt 115 12, mt 116 8, o 117 (.bin .add (.t 115) (.t 116)), mt 4 117] [4])
 (.ret))
 (.skip)))
 (.seq (.ops [o 4 (.mv (ci (-1)))] [4])
 (.ret))))
 (.seq (.ops [mt 118 5, o 119 (.ld false 1 (.g 2)), o 120 (.bin .gtr (.t 118) (.t 119)), mt 121 120, ⟨some 122, .mv (.t 10), some (121, true)⟩, ⟨some 123, .mv (.t 8), some (121, true)⟩, ⟨some 124, .shift false (.t 123) (.c (.p (.int .u64 4))), some (121, true)⟩, ⟨some 125, .bin .add (ci 4) (.t 124), some (121, true)⟩, ⟨some 126, .bin .geq (.t 122) (.t 125), some (121, true)⟩, o 127 (.pick (.t 121) (.t 126) (cb false)), mt 128 127, ⟨some 129, .mv (.t 8), some (128, true)⟩, ⟨some 130, .mv (.t 9), some (128, true)⟩, ⟨some 131, .bin .lss (.t 129) (.t 130), some (128, true)⟩, o 132 (.pick (.t 128) (.t 131) (cb false))] [0, 1, 5, 6, 7, 8, 9, 10, 132])
 (.cond (.t 132)
 (.seq (.ops [mt 133 0, mt 134 8, o 135 (.slcs (.t 133) (some (.t 134)) none), mt 136 1, o 137 (.call true true 0 (.fn 197) [.t 135, .t 136]), mt 13 137] [8, 13])
 (.seq (.seq (.ops [mt 138 13, o 139 (.bin .lss (.t 138) (ci 0))] [8, 13, 139])
 (.cond (.t 139)
 (.seq (.ops [o 4 (.mv (ci (-1)))] [4])
 (.ret))
 (.skip)))
 (.seq (.ops [mt 140 8, mt 141 13, o 142 (.bin .add (.t 140) (.t 141)), mt 4 142] [4])
 (.ret))))
 (.skip))))))))))
def c191 : AFunc := ⟨143, [.tmp 4],
 .seq (.ops [o 4 (.mv (ci 0))] [0, 1])
 (.seq (.ops [mt 14 1, o 15 (.len 0 (.t 14)), mt 5 15] [0, 1, 5])
 (.seq (.block 0 (.seq (.ops [mt 17 5, o 18 (.bin .eql (.t 17) (ci 0)), mt 19 18, ⟨some 20, .mv (.t 1), some (19, false)⟩, ⟨some 21, .mv (.t 0), some (19, false)⟩, ⟨some 22, .bin .eql (.t 20) (.t 21), some (19, false)⟩, o 23 (.pick (.t 19) (cb true) (.t 22)), mt 16 23] [0, 1, 5, 16])
 (.cond (.t 16)
 (.seq (.ops [o 4 (.mv (ci 0))] [4])
 (.ret))
 (.seq (.ops [mt 25 5, o 26 (.bin .eql (.t 25) (ci 1)), mt 24 26] [0, 1, 5, 24])
 (.cond (.t 24)
 (.seq (.ops [mt 27 0, mt 28 1, o 29 (.idxs (.t 28) (ci 0)), o 30 (.call true true 0 (.fn 169) [.t 27, .t 29]), mt 4 30] [4])
 (.ret))
 (.seq (.ops [mt 32 5, mt 33 0, o 34 (.len 0 (.t 33)), o 35 (.bin .geq (.t 32) (.t 34)), mt 31 35] [0, 1, 5, 31])
 (.cond (.t 31)
 (.seq (.ops [o 4 (.mv (ci (-1)))] [4])
 (.ret))
 (.seq (.ops [mt 37 5, o 38 (.ld false 1 (.g 2)), o 39 (.bin .leq (.t 37) (.t 38)), mt 40 39, ⟨some 41, .mv (.t 0), some (40, true)⟩, ⟨some 42, .len 0 (.t 41), some (40, true)⟩, ⟨some 43, .bin .leq (.t 42) (ci 64), some (40, true)⟩, o 44 (.pick (.t 40) (.t 43) (cb false)), mt 36 44] [0, 1, 5, 36])
 (.cond (.t 36)
 (.seq (.ops [mt 45 0, mt 46 1, o 47 (.call true true 0 (.fn 195) [.t 45, .t 46]), mt 4 47] [4])
 (.ret))
 (.skip))))))))))
 (.seq (.ops [mt 48 1, o 49 (.idxs (.t 48) (ci 0)), mt 6 49] [0, 1, 5, 6])
 (.seq (.ops [mt 50 1, o 51 (.idxs (.t 50) (ci 1)), mt 7 51] [0, 1, 5, 6, 7])
 (.seq (.ops [o 8 (.mv (ci 0))] [0, 1, 5, 6, 7, 8])
 (.seq (.ops [mt 52 0, o 53 (.len 0 (.t 52)), mt 54 5, o 55 (.bin .sub (.t 53) (.t 54)), o 56 (.bin .add (.t 55) (ci 1)), mt 9 56] [0, 1, 5, 6, 7, 8, 9])
 (.seq (.ops [o 10 (.mv (ci 0))] [0, 1, 5, 6, 7, 8, 9, 10])
 (.seq (.block 1 (.loop false [0, 1, 5, 6, 7, 8, 9, 10] c191L0))
 (.seq (.ops [o 4 (.mv (ci (-1)))] [4])
 (.ret))))))))))⟩

def c194 : AFunc := ⟨117, [.tmp 2, .tmp 3],
 .seq (.ops [o 2 (.mv (.c (.p (.int .i32 0)))), o 3 (.mv (ci 0))] [0])
 (.seq (.ops [mt 13 0, o 14 (.len 0 (.t 13)), mt 4 14] [0, 4])
 (.seq (.seq (.ops [mt 15 4, o 16 (.bin .lss (.t 15) (ci 1))] [0, 4, 16])
 (.cond (.t 16)
 (.seq (.ops [o 2 (.mv (.c (.p (.int .i32 65533)))), o 3 (.mv (ci 0))] [2, 3])
 (.ret))
 (.skip)))
 (.seq (.ops [mt 17 0, o 18 (.idxs (.t 17) (ci 0)), mt 5 18] [0, 4, 5])
 (.seq (.ops [mt 19 5, o 20 (.iadra 1 256 (.g 6) (.t 19)), o 21 (.ld false 1 (.t 20)), mt 6 21] [0, 4, 5, 6])
 (.seq (.seq (.ops [mt 22 6, o 23 (.bin .geq (.t 22) (.c (.p (.int .u8 240))))] [0, 4, 5, 6, 23])
 (.cond (.t 23)
 (.seq (.ops [mt 24 6, o 25 (.conv (.int .i32) (.t 24)), o 26 (.shift true (.t 25) (.c (.p (.int .u64 31)))), o 27 (.shift false (.t 26) (.c (.p (.int .u64 31)))), mt 7 27] [0, 7])
 (.seq (.ops [mt 28 0, o 29 (.idxs (.t 28) (ci 0)), o 30 (.conv (.int .i32) (.t 29)), mt 31 7, o 32 (.bin .andNot (.t 30) (.t 31)), mt 33 7, o 34 (.bin .and (.c (.p (.int .i32 65533))) (.t 33)), o 35 (.bin .or (.t 32) (.t 34)), mt 2 35, o 3 (.mv (ci 1))] [2, 3])
 (.ret)))
 (.skip)))
 (.seq (.ops [mt 36 6, o 37 (.bin .and (.t 36) (.c (.p (.int .u8 7)))), o 38 (.conv (.int .i64) (.t 37)), mt 8 38] [0, 4, 5, 6, 8])
 (.seq (.ops [mt 39 6, o 40 (.shift false (.t 39) (.c (.p (.int .u64 4)))), o 41 (.iadra 2 16 (.g 7) (.t 40)), o 42 (.ld true 2 (.t 41)), o 9 (.alloc true 1 [.p (.int .u8 0), .p (.int .u8 0)]), u (.st 2 (.t 9) (.t 42))] [0, 4, 5, 8, 9])
 (.seq (.seq (.ops [mt 43 4, mt 44 8, o 45 (.bin .lss (.t 43) (.t 44))] [0, 5, 8, 9, 45])
 (.cond (.t 45)
 (.seq (.ops [o 2 (.mv (.c (.p (.int .i32 65533)))), o 3 (.mv (ci 1))] [2, 3])
 (.ret))
 (.skip)))
 (.seq (.ops [mt 46 0, o 47 (.idxs (.t 46) (ci 1)), mt 10 47] [0, 5, 8, 9, 10])
 (.seq (.seq (.ops [mt 48 10, o 49 (.fadr 0 (.t 9)), o 50 (.ld false 1 (.t 49)), o 51 (.bin .lss (.t 48) (.t 50)), mt 52 51, ⟨some 53, .fadr 1 (.t 9), some (52, false)⟩, ⟨some 54, .ld false 1 (.t 53), some (52, false)⟩, ⟨some 55, .mv (.t 10), some (52, false)⟩, ⟨some 56, .bin .lss (.t 54) (.t 55), some (52, false)⟩, o 57 (.pick (.t 52) (cb true) (.t 56))] [0, 5, 8, 10, 57])
 (.cond (.t 57)
 (.seq (.ops [o 2 (.mv (.c (.p (.int .i32 65533)))), o 3 (.mv (ci 1))] [2, 3])
 (.ret))
 (.skip)))
 (.seq (.seq (.ops [mt 58 8, o 59 (.bin .leq (.t 58) (ci 2))] [0, 5, 8, 10, 59])
 (.cond (.t 59)
 (.seq (.ops [mt 60 5, o 61 (.bin .and (.t 60) (.c (.p (.int .u8 31)))), o 62 (.conv (.int .i32) (.t 61)), o 63 (.shift true (.t 62) (.c (.p (.int .u64 6)))), mt 64 10, o 65 (.bin .and (.t 64) (.c (.p (.int .u8 63)))), o 66 (.conv (.int .i32) (.t 65)), o 67 (.bin .or (.t 63) (.t 66)), mt 2 67, o 3 (.mv (ci 2))] [2, 3])
 (.ret))
 (.skip)))
 (.seq (.ops [mt 68 0, o 69 (.idxs (.t 68) (ci 2)), mt 11 69] [0, 5, 8, 10, 11])
 (.seq (.seq (.ops [mt 70 11, o 71 (.bin .lss (.t 70) (.c (.p (.int .u8 128)))), mt 72 71, ⟨some 73, .mv (.t 11), some (72, false)⟩, ⟨some 74, .bin .lss (.c (.p (.int .u8 191))) (.t 73), some (72, false)⟩, o 75 (.pick (.t 72) (cb true) (.t 74))] [0, 5, 8, 10, 11, 75])
 (.cond (.t 75)
 (.seq (.ops [o 2 (.mv (.c (.p (.int .i32 65533)))), o 3 (.mv (ci 1))] [2, 3])
 (.ret))
 (.skip)))
 (.seq (.seq (.ops [mt 76 8, o 77 (.bin .leq (.t 76) (ci 3))] [0, 5, 10, 11, 77])
 (.cond (.t 77)
 (.seq (.ops [mt 78 5, o 79 (.bin .and (.t 78) (.c (.p (.int .u8 15)))), o 80 (.conv (.int .i32) (.t 79)), o 81 (.shift true (.t 80) (.c (.p (.int .u64 12)))), mt 82 10, o 83 (.bin .and (.t 82) (.c (.p (.int .u8 63)))), o 84 (.conv (.int .i32) (.t 83)), o 85 (.shift true (.t 84) (.c (.p (.int .u64 6)))), o 86 (.bin .or (.t 81) (.t 85)), mt 87 11, o 88 (.bin .and (.t 87) (.c (.p (.int .u8 63)))), o 89 (.conv (.int .i32) (.t 88)), o 90 (.bin .or (.t 86) (.t 89)), mt 2 90, o 3 (.mv (ci 3))] [2, 3])
 (.ret))
 (.skip)))
 (.seq (.ops [mt 91 0, o 92 (.idxs (.t 91) (ci 3)), mt 12 92] [5, 10, 11, 12])
 (.seq (.seq (.ops [mt 93 12, o 94 (.bin .lss (.t 93) (.c (.p (.int .u8 128)))), mt 95 94, ⟨some 96, .mv (.t 12), some (95, false)⟩, ⟨some 97, .bin .lss (.c (.p (.int .u8 191))) (.t 96), some (95, false)⟩, o 98 (.pick (.t 95) (cb true) (.t 97))] [5, 10, 11, 12, 98])
 (.cond (.t 98)
 (.seq (.ops [o 2 (.mv (.c (.p (.int .i32 65533)))), o 3 (.mv (ci 1))] [2, 3])
 (.ret))
 (.skip)))
 (.seq (.ops [mt 99 5, o 100 (.bin .and (.t 99) (.c (.p (.int .u8 7)))), o 101 (.conv (.int .i32) (.t 100)), o 102 (.shift true (.t 101) (.c (.p (.int .u64 18)))), mt 103 10, o 104 (.bin .and (.t 103) (.c (.p (.int .u8 63)))), o 105 (.conv (.int .i32) (.t 104)), o 106 (.shift true (.t 105) (.c (.p (.int .u64 12)))), o 107 (.bin .or (.t 102) (.t 106)), mt 108 11, o 109 (.bin .and (.t 108) (.c (.p (.int .u8 63)))), o 110 (.conv (.int .i32) (.t 109)), o 111 (.shift true (.t 110) (.c (.p (.int .u64 6)))), o 112 (.bin .or (.t 107) (.t 111)), mt 113 12, o 114 (.bin .and (.t 113) (.c (.p (.int .u8 63)))), o 115 (.conv (.int .i32) (.t 114)), o 116 (.bin .or (.t 112) (.t 115)), mt 2 116, o 3 (.mv (ci 4))] [2, 3])
 (.ret))))))))))))))))))⟩

def c196 : AFunc := ⟨6, [.tmp 2],
 .seq (.ops [o 2 (.mv (ci 0))] [0])
 (.seq (.ops [mt 3 0, o 4 (.bin .add (.t 3) (ci 16)), o 5 (.bin .quo (.t 4) (ci 8)), mt 2 5] [2])
 (.ret))⟩

def c197L0 : ACode :=
 .seq (.seq (.ops [mt 18 9, mt 19 7, o 20 (.bin .lss (.t 18) (.t 19))] [0, 1, 5, 6, 7, 8, 9, 20])
 (.cond (.t 20)
 (.skip)
 (.exit 0)))
 (.seq (.block 1 (.ops [mt 23 8, o 24 (.bin .mul (.t 23) (.c (.p (.int .u32 16777619)))), mt 25 0, mt 26 9, o 27 (.idxs (.t 25) (.t 26)), o 28 (.conv (.int .u32) (.t 27)), o 29 (.bin .add (.t 24) (.t 28)), mt 8 29] [0, 1, 5, 6, 7, 8, 9]))
 (.ops [mt 21 9, o 22 (.bin .add (.t 21) (ci 1)), mt 9 22] [0, 1, 5, 6, 7, 8, 9]))
def c197L1 : ACode :=
 .seq (.seq (.ops [mt 41 10, mt 42 0, o 43 (.len 0 (.t 42)), o 44 (.bin .lss (.t 41) (.t 43))] [0, 1, 5, 6, 7, 8, 10, 44])
 (.cond (.t 44)
 (.skip)
 (.exit 2)))
 (.block 3 (.seq (.ops [mt 45 8, o 46 (.bin .mul (.t 45) (.c (.p (.int .u32 16777619)))), mt 8 46] [0, 1, 5, 6, 7, 8, 10])
 (.seq (.ops [mt 47 8, mt 48 0, mt 49 10, o 50 (.idxs (.t 48) (.t 49)), o 51 (.conv (.int .u32) (.t 50)), o 52 (.bin .add (.t 47) (.t 51)), mt 8 52] [0, 1, 5, 6, 7, 8, 10])
 (.seq (.ops [mt 53 8, mt 54 6, mt 55 0, mt 56 10, mt 57 7, o 58 (.bin .sub (.t 56) (.t 57)), o 59 (.idxs (.t 55) (.t 58)), o 60 (.conv (.int .u32) (.t 59)), o 61 (.bin .mul (.t 54) (.t 60)), o 62 (.bin .sub (.t 53) (.t 61)), mt 8 62] [0, 1, 5, 6, 7, 8, 10])
 (.seq (.ops [mt 63 10, o 64 (.bin .add (.t 63) (ci 1)), mt 10 64] [0, 1, 5, 6, 7, 8, 10])
 (.seq (.ops [mt 65 8, mt 66 5, o 67 (.bin .eql (.t 65) (.t 66)), mt 68 67, ⟨some 69, .mv (.t 0), some (68, true)⟩, ⟨some 70, .mv (.t 10), some (68, true)⟩, ⟨some 71, .mv (.t 7), some (68, true)⟩, ⟨some 72, .bin .sub (.t 70) (.t 71), some (68, true)⟩, ⟨some 73, .mv (.t 10), some (68, true)⟩, ⟨some 74, .slcs (.t 69) (some (.t 72)) (some (.t 73)), some (68, true)⟩, ⟨some 75, .mv (.t 1), some (68, true)⟩, ⟨some 76, .bin .eql (.t 74) (.t 75), some (68, true)⟩, o 77 (.pick (.t 68) (.t 76) (cb false))] [0, 1, 5, 6, 7, 8, 10, 77])
 (.cond (.t 77)
 (.seq (.ops [mt 78 10, mt 79 7, o 80 (.bin .sub (.t 78) (.t 79)), mt 4 80] [4])
 (.ret))
 (.skip))))))))
def c197 : AFunc := ⟨81, [.tmp 4],
 .seq (.ops [o 4 (.mv (ci 0))] [0, 1])
 (.seq (.ops [mt 12 1, o 13 (.call true true 0 (.fn 198) [.t 12]), mt 11 13, o 14 (.ext (.t 11) 0), o 15 (.ext (.t 11) 1), mt 5 14, mt 6 15] [0, 1, 5, 6])
 (.seq (.ops [mt 16 1, o 17 (.len 0 (.t 16)), mt 7 17] [0, 1, 5, 6, 7])
 (.seq (.ops [o 8 (.mv (.c (.p (.int .u32 0))))] [0, 1, 5, 6, 7, 8])
 (.seq (.seq (.ops [o 9 (.mv (ci 0))] [0, 1, 5, 6, 7, 8, 9])
 (.block 0 (.loop false [0, 1, 5, 6, 7, 8, 9] c197L0)))
 (.seq (.seq (.ops [mt 30 8, mt 31 5, o 32 (.bin .eql (.t 30) (.t 31)), mt 33 32, ⟨some 34, .mv (.t 0), some (33, true)⟩, ⟨some 35, .mv (.t 7), some (33, true)⟩, ⟨some 36, .slcs (.t 34) none (some (.t 35)), some (33, true)⟩, ⟨some 37, .mv (.t 1), some (33, true)⟩, ⟨some 38, .bin .eql (.t 36) (.t 37), some (33, true)⟩, o 39 (.pick (.t 33) (.t 38) (cb false))] [0, 1, 5, 6, 7, 8, 39])
 (.cond (.t 39)
 (.seq (.ops [o 4 (.mv (ci 0))] [4])
 (.ret))
 (.skip)))
 (.seq (.seq (.ops [mt 40 7, mt 10 40] [0, 1, 5, 6, 7, 8, 10])
 (.block 2 (.loop false [0, 1, 5, 6, 7, 8, 10] c197L1)))
 (.seq (.ops [o 4 (.mv (ci (-1)))] [4])
 (.ret))))))))⟩

def c198L0 : ACode :=
 .seq (.seq (.ops [mt 9 5, mt 10 0, o 11 (.len 0 (.t 10)), o 12 (.bin .lss (.t 9) (.t 11))] [0, 4, 5, 12])
 (.cond (.t 12)
 (.skip)
 (.exit 0)))
 (.seq (.block 1 (.ops [mt 15 4, o 16 (.bin .mul (.t 15) (.c (.p (.int .u32 16777619)))), mt 17 0, mt 18 5, o 19 (.idxs (.t 17) (.t 18)), o 20 (.conv (.int .u32) (.t 19)), o 21 (.bin .add (.t 16) (.t 20)), mt 4 21] [0, 4, 5]))
 (.ops [mt 13 5, o 14 (.bin .add (.t 13) (ci 1)), mt 5 14] [0, 4, 5]))
def c198L1 : ACode :=
 .seq (.seq (.ops [mt 24 8, o 25 (.bin .gtr (.t 24) (ci 0))] [4, 6, 7, 8, 25])
 (.cond (.t 25)
 (.skip)
 (.exit 2)))
 (.seq (.block 3 (.seq (.seq (.ops [mt 28 8, o 29 (.bin .and (.t 28) (ci 1)), o 30 (.bin .neq (.t 29) (ci 0))] [4, 6, 7, 8, 30])
 (.cond (.t 30)
 (.ops [mt 31 6, mt 32 7, o 33 (.bin .mul (.t 31) (.t 32)), mt 6 33] [4, 6, 7, 8])
 (.skip)))
 (.ops [mt 34 7, mt 35 7, o 36 (.bin .mul (.t 34) (.t 35)), mt 7 36] [4, 6, 7, 8])))
 (.ops [mt 26 8, o 27 (.shift false (.t 26) (.c (.p (.int .u64 1)))), mt 8 27] [4, 6, 7, 8]))
def c198 : AFunc := ⟨39, [.tmp 2, .tmp 3],
 .seq (.ops [o 2 (.mv (.c (.p (.int .u32 0)))), o 3 (.mv (.c (.p (.int .u32 0))))] [0])
 (.seq (.ops [o 4 (.mv (.c (.p (.int .u32 0))))] [0, 4])
 (.seq (.seq (.ops [o 5 (.mv (ci 0))] [0, 4, 5])
 (.block 0 (.loop false [0, 4, 5] c198L0)))
 (.seq (.ops [o 6 (.mv (.c (.p (.int .u32 1)))), o 7 (.mv (.c (.p (.int .u32 16777619))))] [0, 4, 6, 7])
 (.seq (.seq (.ops [mt 22 0, o 23 (.len 0 (.t 22)), mt 8 23] [4, 6, 7, 8])
 (.block 2 (.loop false [4, 6, 7, 8] c198L1)))
 (.seq (.ops [mt 37 4, mt 38 6, mt 2 37, mt 3 38] [2, 3])
 (.ret))))))⟩

def c214 : AFunc := ⟨7, [.tmp 2],
 .seq (.ops [o 1 (.box true (.t 0)), o 2 (.mv (cb false))] [1])
 (.seq (.ops [o 3 (.fadr 1 (.t 1)), o 4 (.ld true 8 (.t 3)), o 5 (.build [.p (.bool false), .p (.bool false), .p (.bool false), .p (.bool false), .p (.bool false), .p (.bool false), .p (.bool false), .p (.bool false)] []), o 6 (.eqagg [2, 2, 2, 2, 2, 2, 2, 2] true (.t 4) (.t 5)), mt 2 6] [2])
 (.ret))⟩

def c217 : AFunc := ⟨5, [.tmp 2],
 .seq (.ops [o 1 (.box false (.t 0)), o 2 (.mv (ci 0))] [1])
 (.seq (.ops [o 3 (.fadr 0 (.t 1)), o 4 (.ld false 1 (.t 3)), mt 2 4] [2])
 (.ret))⟩

def c218 : AFunc := ⟨10, [.tmp 4],
 .seq (.ops [o 2 (.box true (.t 0)), o 3 (.box true (.t 1)), o 4 (.mv (cb false))] [2, 3])
 (.seq (.ops [o 5 (.fadr 2 (.t 3)), o 6 (.ld false 1 (.t 5)), o 7 (.fadr 1 (.t 2)), o 8 (.iadra 1 8 (.t 7) (.t 6)), o 9 (.ld false 1 (.t 8)), mt 4 9] [4])
 (.ret))⟩

def c219 : AFunc := ⟨12, [],
 .seq (.ops [o 3 (.box false (.t 0)), o 5 (.box true (.t 2))] [1, 5])
 (.opsd [(0, 1), (1, 1), (2, 1), (3, 1), (4, 1), (5, 1), (6, 0)] [mt 6 1, o 7 (.fadr 2 (.t 5)), o 8 (.ld false 1 (.t 7)), o 9 (.nilck (.t 6)), o 10 (.fadr 1 (.t 9)), o 11 (.iadra 1 8 (.t 10) (.t 8)), u (.st 1 (.t 11) (cb true))] [])⟩

def c220 : AFunc := ⟨11, [.tmp 4],
 .seq (.ops [o 2 (.box true (.t 0)), o 3 (.box true (.t 1)), o 4 (.mv (cb false))] [2, 3])
 (.seq (.ops [o 5 (.fadr 2 (.t 3)), o 6 (.ld false 1 (.t 5)), o 7 (.fadr 1 (.t 2)), o 8 (.iadra 1 8 (.t 7) (.t 6)), o 9 (.ld false 1 (.t 8)), o 10 (.not (.t 9)), mt 4 10] [4])
 (.ret))⟩

def c221 : AFunc := ⟨12, [],
 .seq (.ops [o 3 (.box false (.t 0)), o 5 (.box true (.t 2))] [1, 5])
 (.opsd [(0, 1), (1, 1), (2, 1), (3, 1), (4, 1), (5, 1), (6, 0)] [mt 6 1, o 7 (.fadr 2 (.t 5)), o 8 (.ld false 1 (.t 7)), o 9 (.nilck (.t 6)), o 10 (.fadr 1 (.t 9)), o 11 (.iadra 1 8 (.t 10) (.t 8)), u (.st 1 (.t 11) (cb false))] [])⟩

def c222 : AFunc := ⟨3, [.tmp 2],
 .seq (.ops [o 1 (.box false (.t 0)), o 2 (.mv (ci 0))] [])
 (.seq (.ops [o 2 (.mv (ci 2))] [2])
 (.ret))⟩

def c223 : AFunc := ⟨10, [.tmp 4],
 .seq (.ops [o 2 (.box true (.t 0)), o 3 (.box true (.t 1)), o 4 (.mv (cb false))] [2, 3])
 (.seq (.ops [o 5 (.fadr 2 (.t 3)), o 6 (.ld false 1 (.t 5)), o 7 (.fadr 9 (.t 2)), o 8 (.iadra 1 2 (.t 7) (.t 6)), o 9 (.ld false 1 (.t 8)), mt 4 9] [4])
 (.ret))⟩

def c224 : AFunc := ⟨12, [],
 .seq (.ops [o 3 (.box false (.t 0)), o 5 (.box true (.t 2))] [1, 5])
 (.opsd [(0, 1), (1, 1), (2, 1), (3, 1), (4, 1), (5, 1), (6, 0)] [mt 6 1, o 7 (.fadr 2 (.t 5)), o 8 (.ld false 1 (.t 7)), o 9 (.nilck (.t 6)), o 10 (.fadr 9 (.t 9)), o 11 (.iadra 1 2 (.t 10) (.t 8)), u (.st 1 (.t 11) (cb true))] [])⟩

def c225 : AFunc := ⟨11, [.tmp 4],
 .seq (.ops [o 2 (.box true (.t 0)), o 3 (.box true (.t 1)), o 4 (.mv (cb false))] [2, 3])
 (.seq (.ops [o 5 (.fadr 2 (.t 3)), o 6 (.ld false 1 (.t 5)), o 7 (.fadr 9 (.t 2)), o 8 (.iadra 1 2 (.t 7) (.t 6)), o 9 (.ld false 1 (.t 8)), o 10 (.not (.t 9)), mt 4 10] [4])
 (.ret))⟩

def c226 : AFunc := ⟨12, [],
 .seq (.ops [o 3 (.box false (.t 0)), o 5 (.box true (.t 2))] [1, 5])
 (.opsd [(0, 1), (1, 1), (2, 1), (3, 1), (4, 1), (5, 1), (6, 0)] [mt 6 1, o 7 (.fadr 2 (.t 5)), o 8 (.ld false 1 (.t 7)), o 9 (.nilck (.t 6)), o 10 (.fadr 9 (.t 9)), o 11 (.iadra 1 2 (.t 10) (.t 8)), u (.st 1 (.t 11) (cb false))] [])⟩

def c227 : AFunc := ⟨8, [.tmp 4],
 .seq (.ops [o 2 (.box true (.t 0)), o 3 (.box true (.t 1)), o 4 (.mv (cb false))] [2])
 (.seq (.ops [o 5 (.fadr 11 (.t 2)), o 6 (.ld false 1 (.t 5)), o 7 (.bin .geq (.t 6) (ci 100)), mt 4 7] [4])
 (.ret))⟩

def c228 : AFunc := ⟨13, [],
 .seq (.ops [o 3 (.box false (.t 0)), o 5 (.box true (.t 2))] [1])
 (.ops [mt 6 1, o 7 (.nilck (.t 6)), o 8 (.fadr 11 (.t 7)), o 9 (.ld false 1 (.t 8)), o 10 (.bin .add (.t 9) (ci 1)), o 11 (.nilck (.t 6)), o 12 (.fadr 11 (.t 11)), u (.st 1 (.t 12) (.t 10))] [])⟩

def c229 : AFunc := ⟨8, [.tmp 4],
 .seq (.ops [o 2 (.box true (.t 0)), o 3 (.box true (.t 1)), o 4 (.mv (cb false))] [2])
 (.seq (.ops [o 5 (.fadr 11 (.t 2)), o 6 (.ld false 1 (.t 5)), o 7 (.bin .eql (.t 6) (ci 0)), mt 4 7] [4])
 (.ret))⟩

def c230 : AFunc := ⟨13, [],
 .seq (.ops [o 3 (.box false (.t 0)), o 5 (.box true (.t 2))] [1])
 (.ops [mt 6 1, o 7 (.nilck (.t 6)), o 8 (.fadr 11 (.t 7)), o 9 (.ld false 1 (.t 8)), o 10 (.bin .sub (.t 9) (ci 1)), o 11 (.nilck (.t 6)), o 12 (.fadr 11 (.t 11)), u (.st 1 (.t 12) (.t 10))] [])⟩

def c231 : AFunc := ⟨3, [.tmp 2],
 .seq (.ops [o 1 (.box false (.t 0)), o 2 (.mv (ci 0))] [])
 (.seq (.ops [o 2 (.mv (ci 1))] [2])
 (.ret))⟩

def c232 : AFunc := ⟨7, [.tmp 4],
 .seq (.ops [o 2 (.box true (.t 0)), o 3 (.box true (.t 1)), o 4 (.mv (cb false))] [2])
 (.seq (.ops [o 5 (.fadr 12 (.t 2)), o 6 (.ld false 1 (.t 5)), mt 4 6] [4])
 (.ret))⟩

def c233 : AFunc := ⟨9, [],
 .seq (.ops [o 3 (.box false (.t 0)), o 5 (.box true (.t 2))] [1])
 (.ops [mt 6 1, o 7 (.nilck (.t 6)), o 8 (.fadr 12 (.t 7)), u (.st 1 (.t 8) (cb true))] [])⟩

def c234 : AFunc := ⟨8, [.tmp 4],
 .seq (.ops [o 2 (.box true (.t 0)), o 3 (.box true (.t 1)), o 4 (.mv (cb false))] [2])
 (.seq (.ops [o 5 (.fadr 12 (.t 2)), o 6 (.ld false 1 (.t 5)), o 7 (.not (.t 6)), mt 4 7] [4])
 (.ret))⟩

def c235 : AFunc := ⟨9, [],
 .seq (.ops [o 3 (.box false (.t 0)), o 5 (.box true (.t 2))] [1])
 (.ops [mt 6 1, o 7 (.nilck (.t 6)), o 8 (.fadr 12 (.t 7)), u (.st 1 (.t 8) (cb false))] [])⟩

def c236 : AFunc := ⟨8, [.tmp 4],
 .seq (.ops [o 2 (.box true (.t 0)), o 3 (.box true (.t 1)), o 4 (.mv (cb false))] [2])
 (.seq (.ops [o 5 (.fadr 12 (.t 2)), o 6 (.ld false 1 (.t 5)), o 7 (.not (.t 6)), mt 4 7] [4])
 (.ret))⟩

def c237 : AFunc := ⟨17, [],
 .seq (.ops [o 3 (.box false (.t 0)), o 5 (.box true (.t 2))] [1, 5])
 (.ops [mt 6 1, mt 7 1, mt 8 1, o 9 (.fadr 0 (.t 5)), o 10 (.ld false 1 (.t 9)), o 11 (.nilck (.t 6)), o 12 (.fadr 13 (.t 11)), u (.st 1 (.t 12) (.t 10)), o 13 (.nilck (.t 7)), o 14 (.fadr 14 (.t 13)), u (.st 1 (.t 14) (ci (-1))), o 15 (.nilck (.t 8)), o 16 (.fadr 12 (.t 15)), u (.st 1 (.t 16) (cb false))] [])⟩

def c238 : AFunc := ⟨8, [.tmp 4],
 .seq (.ops [o 2 (.box true (.t 0)), o 3 (.box true (.t 1)), o 4 (.mv (cb false))] [2])
 (.seq (.ops [o 5 (.fadr 13 (.t 2)), o 6 (.ld false 1 (.t 5)), o 7 (.bin .eql (.t 6) (ci (-1))), mt 4 7] [4])
 (.ret))⟩

def c239 : AFunc := ⟨24, [],
 .seq (.ops [o 3 (.box false (.t 0)), o 5 (.box true (.t 2))] [1, 3, 5])
 (.opsd [(0, 1), (1, 1), (2, 1), (3, 1), (4, 1), (5, 1), (6, 1), (7, 1), (8, 1), (9, 1), (10, 1), (11, 1), (12, 1), (13, 1), (14, 1), (15, 1), (16, 1), (17, 1), (18, 0)] [mt 6 1, mt 7 1, o 8 (.nilck (.t 7)), o 9 (.fadr 13 (.t 8)), o 10 (.ld false 1 (.t 9)), o 11 (.fadr 1 (.t 3)), o 12 (.ld false 1 (.t 11)), o 13 (.bin .add (.t 10) (.t 12)), o 14 (.fadr 0 (.t 5)), o 15 (.ld false 1 (.t 14)), o 16 (.ld true 5 (.t 3)), o 17 (.fadr 3 (.t 5)), o 18 (.ld true 3 (.t 17)), o 19 (.call true true 0 (.fn 132) [.t 16, .t 18]), o 20 (.bin .add (.t 15) (.t 19)), o 21 (.max [.t 13, .t 20]), o 22 (.nilck (.t 6)), o 23 (.fadr 14 (.t 22)), u (.st 1 (.t 23) (.t 21))] [])⟩

def c240 : AFunc := ⟨10, [.tmp 4],
 .seq (.ops [o 2 (.box true (.t 0)), o 3 (.box true (.t 1)), o 4 (.mv (cb false))] [2, 3])
 (.seq (.ops [o 5 (.fadr 0 (.t 3)), o 6 (.ld false 1 (.t 5)), o 7 (.fadr 0 (.t 2)), o 8 (.ld false 1 (.t 7)), o 9 (.bin .lss (.t 6) (.t 8)), mt 4 9] [4])
 (.ret))⟩

def c241 : AFunc := ⟨20, [.tmp 4],
 .seq (.ops [o 2 (.box true (.t 0)), o 3 (.box true (.t 1)), o 4 (.mv (cb false))] [2, 3])
 (.seq (.ops [o 6 (.slca 4 10 (.g 0) none none), o 7 (.mkclo 243 [] [.t 3]), o 8 (.call true true 0 (.fn 242) [.t 6, .t 7]), mt 5 8] [2, 3, 5])
 (.seq (.opsd [(0, 1), (1, 1), (2, 1), (3, 1), (4, 1), (5, 1), (6, 1), (7, 1), (8, 1), (9, 0), (10, 1), (11, 1)] [mt 9 5, o 10 (.bin .geq (.t 9) (ci 0)), mt 11 10, ⟨some 12, .mv (.t 5), some (11, true)⟩, ⟨some 13, .iadra 4 10 (.g 0) (.t 12), some (11, true)⟩, ⟨some 14, .fadr 2 (.t 13), some (11, true)⟩, ⟨some 15, .ld false 1 (.t 14), some (11, true)⟩, ⟨some 16, .ld true 15 (.t 2), some (11, true)⟩, ⟨some 17, .ld true 6 (.t 3), some (11, true)⟩, ⟨some 18, .call false true 0 (.val (.t 15)) [.t 16, .t 17], some (11, true)⟩, o 19 (.pick (.t 11) (.t 18) (cb false)), mt 4 19] [4])
 (.ret)))⟩

def c242L0 : ACode :=
 .seq (.ops [o 9 (.bin .lss (.t 8) (.t 7))] [0, 1, 7, 8, 9])
 (.seq (.cond (.t 9)
 (.skip)
 (.exit 0))
 (.seq (.block 1 (.seq (.ops [mt 10 8, mt 5 10] [0, 1, 5, 7, 8])
 (.seq (.ops [mt 11 1, mt 12 0, mt 13 5, o 14 (.iadr 4 (.t 12) (.t 13)), o 15 (.ld true 4 (.t 14)), o 16 (.call false true 0 (.val (.t 11)) [.t 15])] [0, 1, 5, 7, 8, 16])
 (.cond (.t 16)
 (.seq (.ops [mt 17 5, mt 4 17] [4])
 (.ret))
 (.skip)))))
 (.ops [o 18 (.bin .add (.t 8) (ci 1)), mt 8 18] [0, 1, 7, 8])))
def c242 : AFunc := ⟨19, [.tmp 4],
 .seq (.ops [o 4 (.mv (ci 0))] [0, 1])
 (.seq (.seq (.ops [mt 6 0, o 7 (.len 1 (.t 6)), o 8 (.mv (ci 0))] [0, 1, 7, 8])
 (.block 0 (.loop true [0, 1, 7, 8] c242L0)))
 (.seq (.ops [o 4 (.mv (ci (-1)))] [4])
 (.ret)))⟩

def c243 : AFunc := ⟨9, [.tmp 3],
 .seq (.ops [o 2 (.box false (.t 0)), o 3 (.mv (cb false))] [1, 2])
 (.seq (.ops [o 4 (.fadr 0 (.t 2)), o 5 (.ld false 1 (.t 4)), o 6 (.fadr 1 (.t 1)), o 7 (.ld false 1 (.t 6)), o 8 (.bin .eql (.t 5) (.t 7)), mt 3 8] [3])
 (.ret))⟩

def c244 : AFunc := ⟨12, [.tmp 4],
 .seq (.ops [o 2 (.box true (.t 0)), o 3 (.box true (.t 1)), o 4 (.mv (cb false))] [2, 3])
 (.seq (.ops [o 5 (.fadr 12 (.t 2)), o 6 (.ld false 1 (.t 5)), mt 7 6, ⟨some 8, .ld true 6 (.t 3), some (7, true)⟩, ⟨some 9, .bslice false 1 zl9 3 [(0, cs [111, 112, 101, 110]), (1, cs [114, 101, 109, 111, 118, 101]), (2, cs [101, 110, 116, 101, 114])], some (7, true)⟩, ⟨some 10, .call true true 0 (.fn 93) [.t 8, .t 9], some (7, true)⟩, o 11 (.pick (.t 7) (.t 10) (cb false)), mt 4 11] [4])
 (.ret))⟩

def c245 : AFunc := ⟨25, [.tmp 4],
 .seq (.ops [o 2 (.box true (.t 0)), o 3 (.box true (.t 1)), o 4 (.mv (cb false))] [2, 3])
 (.seq (.ops [o 5 (.ld true 6 (.t 3)), o 6 (.bslice false 1 zl9 2 [(0, cs [101, 110, 116, 101, 114]), (1, cs [108, 101, 97, 118, 101])]), o 7 (.call true true 0 (.fn 93) [.t 5, .t 6]), mt 8 7, ⟨some 9, .fadr 2 (.t 3), some (8, true)⟩, ⟨some 10, .ld false 1 (.t 9), some (8, true)⟩, ⟨some 11, .fadr 1 (.t 2), some (8, true)⟩, ⟨some 12, .iadra 1 8 (.t 11) (.t 10), some (8, true)⟩, ⟨some 13, .ld false 1 (.t 12), some (8, true)⟩, ⟨some 14, .not (.t 13), some (8, true)⟩, o 15 (.pick (.t 8) (.t 14) (cb false)), mt 16 15, ⟨some 17, .ld true 6 (.t 3), some (16, false)⟩, ⟨some 18, .bslice false 1 zl9 1 [(0, cs [97, 114, 109])], some (16, false)⟩, ⟨some 19, .call true true 0 (.fn 93) [.t 17, .t 18], some (16, false)⟩, ⟨some 20, .mv (.t 19), some (16, false)⟩, ⟨some 21, .ld true 15 (.t 2), some (20, true)⟩, ⟨some 22, .call true true 0 (.fn 214) [.t 21], some (20, true)⟩, ⟨some 23, .pick (.t 20) (.t 22) (cb false), some (16, false)⟩, o 24 (.pick (.t 16) (cb true) (.t 23)), mt 4 24] [4])
 (.ret))⟩

def c246 : AFunc := ⟨13, [.tmp 4],
 .seq (.ops [o 2 (.box true (.t 0)), o 3 (.box true (.t 1)), o 4 (.mv (cb false))] [2, 3])
 (.seq (.ops [o 5 (.ld true 6 (.t 3)), o 6 (.bslice false 1 zl9 1 [(0, cs [97, 114, 109])]), o 7 (.call true true 0 (.fn 93) [.t 5, .t 6]), mt 8 7, ⟨some 9, .fadr 11 (.t 2), some (8, true)⟩, ⟨some 10, .ld false 1 (.t 9), some (8, true)⟩, ⟨some 11, .bin .gtr (.t 10) (ci 0), some (8, true)⟩, o 12 (.pick (.t 8) (.t 11) (cb false)), mt 4 12] [4])
 (.ret))⟩

def c247 : AFunc := ⟨14, [.tmp 4],
 .seq (.ops [o 2 (.box true (.t 0)), o 3 (.box true (.t 1)), o 4 (.mv (cb false))] [2, 3])
 (.seq (.ops [o 5 (.ld true 6 (.t 3)), o 6 (.bslice false 1 zl9 1 [(0, cs [97, 114, 109])]), o 7 (.call true true 0 (.fn 93) [.t 5, .t 6]), mt 8 7, ⟨some 9, .fadr 9 (.t 2), some (8, true)⟩, ⟨some 10, .ld true 2 (.t 9), some (8, true)⟩, ⟨some 11, .build [.p (.bool false), .p (.bool false)] [(0, 1, cb true), (1, 1, cb true)], some (8, true)⟩, ⟨some 12, .eqagg [2, 2] true (.t 10) (.t 11), some (8, true)⟩, o 13 (.pick (.t 8) (.t 12) (cb false)), mt 4 13] [4])
 (.ret))⟩

def c248 : AFunc := ⟨15, [.tmp 4],
 .seq (.ops [o 2 (.box true (.t 0)), o 3 (.box true (.t 1)), o 4 (.mv (cb false))] [2, 3])
 (.seq (.ops [o 5 (.ld true 6 (.t 3)), o 6 (.bslice false 1 zl9 3 [(0, cs [111, 112, 101, 110]), (1, cs [101, 110, 116, 101, 114]), (2, cs [97, 114, 109])]), o 7 (.call true true 0 (.fn 93) [.t 5, .t 6]), mt 8 7, ⟨some 9, .ld true 15 (.t 2), some (8, true)⟩, ⟨some 10, .fadr 0 (.t 3), some (8, true)⟩, ⟨some 11, .ld false 1 (.t 10), some (8, true)⟩, ⟨some 12, .call true true 0 (.fn 249) [.t 9, .t 11], some (8, true)⟩, ⟨some 13, .not (.t 12), some (8, true)⟩, o 14 (.pick (.t 8) (.t 13) (cb false)), mt 4 14] [4])
 (.ret))⟩

def c249 : AFunc := ⟨14, [.tmp 4],
 .seq (.ops [o 2 (.box true (.t 0)), o 4 (.mv (cb false))] [1, 2])
 (.seq (.ops [o 5 (.fadr 14 (.t 2)), o 6 (.ld false 1 (.t 5)), o 7 (.bin .neq (.t 6) (ci (-1))), mt 8 7, ⟨some 9, .fadr 14 (.t 2), some (8, true)⟩, ⟨some 10, .ld false 1 (.t 9), some (8, true)⟩, ⟨some 11, .mv (.t 1), some (8, true)⟩, ⟨some 12, .bin .leq (.t 10) (.t 11), some (8, true)⟩, o 13 (.pick (.t 8) (.t 12) (cb false)), mt 4 13] [4])
 (.ret))⟩


def FT : Tr := (.node 132 c132 (.node 85 c85 (.node 42 c42 (.node 24 c24 (.node 18 c18 (.node 15 c15 (.node 10 c10 (.node 9 c9 .leaf .leaf) .leaf) (.node 17 c17 .leaf .leaf)) (.node 21 c21 (.node 20 c20 (.node 19 c19 .leaf .leaf) .leaf) (.node 23 c23 .leaf .leaf))) (.node 33 c33 (.node 31 c31 (.node 30 c30 (.node 25 c25 .leaf .leaf) .leaf) (.node 32 c32 .leaf .leaf)) (.node 38 c38 (.node 34 c34 .leaf .leaf) (.node 39 c39 .leaf .leaf)))) (.node 65 c65 (.node 58 c58 (.node 50 c50 (.node 48 c48 (.node 43 c43 .leaf .leaf) .leaf) (.node 57 c57 .leaf .leaf)) (.node 63 c63 (.node 60 c60 (.node 59 c59 .leaf .leaf) .leaf) (.node 64 c64 .leaf .leaf))) (.node 79 c79 (.node 72 c72 (.node 71 c71 (.node 70 c70 .leaf .leaf) .leaf) (.node 73 c73 .leaf .leaf)) (.node 83 c83 (.node 81 c81 .leaf .leaf) (.node 84 c84 .leaf .leaf))))) (.node 106 c106 (.node 95 c95 (.node 90 c90 (.node 88 c88 (.node 87 c87 (.node 86 c86 .leaf .leaf) .leaf) (.node 89 c89 .leaf .leaf)) (.node 93 c93 (.node 92 c92 (.node 91 c91 .leaf .leaf) .leaf) (.node 94 c94 .leaf .leaf))) (.node 101 c101 (.node 99 c99 (.node 97 c97 (.node 96 c96 .leaf .leaf) .leaf) (.node 100 c100 .leaf .leaf)) (.node 104 c104 (.node 103 c103 .leaf .leaf) (.node 105 c105 .leaf .leaf)))) (.node 118 c118 (.node 113 c113 (.node 110 c110 (.node 109 c109 (.node 107 c107 .leaf .leaf) .leaf) (.node 111 c111 .leaf .leaf)) (.node 116 c116 (.node 115 c115 (.node 114 c114 .leaf .leaf) .leaf) (.node 117 c117 .leaf .leaf))) (.node 126 c126 (.node 123 c123 (.node 122 c122 (.node 119 c119 .leaf .leaf) .leaf) (.node 125 c125 .leaf .leaf)) (.node 128 c128 (.node 127 c127 .leaf .leaf) (.node 131 c131 .leaf .leaf)))))) (.node 196 c196 (.node 157 c157 (.node 144 c144 (.node 138 c138 (.node 136 c136 (.node 135 c135 (.node 134 c134 .leaf .leaf) .leaf) (.node 137 c137 .leaf .leaf)) (.node 141 c141 (.node 140 c140 (.node 139 c139 .leaf .leaf) .leaf) (.node 143 c143 .leaf .leaf))) (.node 153 c153 (.node 147 c147 (.node 146 c146 (.node 145 c145 .leaf .leaf) .leaf) (.node 148 c148 .leaf .leaf)) (.node 155 c155 (.node 154 c154 .leaf .leaf) (.node 156 c156 .leaf .leaf)))) (.node 171 c171 (.node 163 c163 (.node 161 c161 (.node 160 c160 (.node 158 c158 .leaf .leaf) .leaf) (.node 162 c162 .leaf .leaf)) (.node 169 c169 (.node 165 c165 (.node 164 c164 .leaf .leaf) .leaf) (.node 170 c170 .leaf .leaf))) (.node 188 c188 (.node 181 c181 (.node 180 c180 (.node 172 c172 .leaf .leaf) .leaf) (.node 182 c182 .leaf .leaf)) (.node 191 c191 (.node 189 c189 .leaf .leaf) (.node 194 c194 .leaf .leaf))))) (.node 232 c232 (.node 223 c223 (.node 218 c218 (.node 214 c214 (.node 198 c198 (.node 197 c197 .leaf .leaf) .leaf) (.node 217 c217 .leaf .leaf)) (.node 221 c221 (.node 220 c220 (.node 219 c219 .leaf .leaf) .leaf) (.node 222 c222 .leaf .leaf))) (.node 228 c228 (.node 226 c226 (.node 225 c225 (.node 224 c224 .leaf .leaf) .leaf) (.node 227 c227 .leaf .leaf)) (.node 230 c230 (.node 229 c229 .leaf .leaf) (.node 231 c231 .leaf .leaf)))) (.node 241 c241 (.node 237 c237 (.node 235 c235 (.node 234 c234 (.node 233 c233 .leaf .leaf) .leaf) (.node 236 c236 .leaf .leaf)) (.node 239 c239 (.node 238 c238 .leaf .leaf) (.node 240 c240 .leaf .leaf))) (.node 246 c246 (.node 244 c244 (.node 243 c243 (.node 242 c242 .leaf .leaf) .leaf) (.node 245 c245 .leaf .leaf)) (.node 248 c248 (.node 247 c247 .leaf .leaf) (.node 249 c249 .leaf .leaf)))))))
def F (n : Nat) : Option AFunc := FT.find n
end Fw
