/- The functions of the program, written for the evaluator, second part: definitions alone. -/
import Derived.Test.YthiklnppmlmjeaaDoorToCode
namespace Fw
open Go
def c58 : AFunc := ⟨6, [.tmp 2],
 .seq (.ops [o 1 (.box true (.t 0)), o 2 (.mv (ci 0))] [1])
 (.seq (.ops [o 3 (.slca 1 3 (.t 1) none none), o 4 (.call true false 0 (.fn 82) [.t 3, cf 107]), o 5 (.call true true 0 (.fn 56) [.t 4]), mt 2 5] [2])
 (.ret))⟩

def c59L0 : ACode :=
 .seq (.ops [o 19 (.bin .lss (.t 18) (.t 17))] [3, 5, 6, 11, 12, 16, 17, 18, 19])
 (.seq (.cond (.t 19)
 (.skip)
 (.exit 2))
 (.seq (.block 3 (.seq (.ops [o 20 (.iadr 2 (.t 16) (.t 18)), o 21 (.ld true 2 (.t 20)), o 9 (.alloc true 1 zl5), u (.st 2 (.t 9) (.t 21))] [3, 5, 6, 9, 11, 12, 16, 17, 18])
 (.seq (.opsd [(0, 1), (1, 1), (2, 1), (3, 1), (4, 1), (5, 1)] [o 22 (.fadr 0 (.t 9)), o 23 (.ld false 1 (.t 22)), mt 24 6, o 25 (.iadra 1 3 (.t 3) (.t 24)), o 26 (.ld false 1 (.t 25)), o 27 (.bin .leq (.t 23) (.t 26))] [3, 5, 6, 9, 11, 12, 16, 17, 18, 27])
 (.cond (.t 27)
 (.ops [mt 28 5, o 29 (.fadr 1 (.t 9)), o 30 (.ld false 1 (.t 29)), o 31 (.max [.t 28, .t 30]), mt 5 31] [3, 5, 6, 11, 12, 16, 17, 18])
 (.skip)))))
 (.ops [o 32 (.bin .add (.t 18) (ci 1)), mt 18 32] [3, 5, 6, 11, 12, 16, 17, 18])))
def c59L1 : ACode :=
 .seq (.ops [o 13 (.bin .lss (.t 12) (ci 3))] [3, 5, 11, 12, 13])
 (.seq (.cond (.t 13)
 (.skip)
 (.exit 0))
 (.seq (.block 1 (.seq (.ops [mt 14 12, o 15 (.idx false 1 3 (.t 11) (.t 12)), mt 6 14, mt 7 15] [3, 5, 6, 7, 11, 12])
 (.seq (.ops [mt 16 7, o 17 (.len 1 (.t 16)), o 18 (.mv (ci 0))] [3, 5, 6, 11, 12, 16, 17, 18])
 (.block 2 (.loop true [3, 5, 6, 11, 12, 16, 17, 18] c59L0)))))
 (.ops [o 33 (.bin .add (.t 12) (ci 1)), mt 12 33] [3, 5, 11, 12])))
def c59 : AFunc := ⟨35, [.tmp 4],
 .seq (.ops [o 2 (.box false (.t 0)), o 3 (.box true (.t 1)), o 4 (.mv (ci 0))] [2, 3])
 (.seq (.ops [o 5 (.mv (ci 0))] [2, 3, 5])
 (.seq (.seq (.ops [o 10 (.fadr 2 (.t 2)), o 11 (.ld true 3 (.t 10)), o 12 (.mv (ci 0))] [3, 5, 11, 12])
 (.block 0 (.loop true [3, 5, 11, 12] c59L1)))
 (.seq (.ops [mt 34 5, mt 4 34] [4])
 (.ret))))⟩

def c60A0 : ACode :=
 .ops [o 10 (.alloc true 1 zl0), u (.st 15 (.t 10) (.t 21))] [8, 10]
def c60B0 : ACode :=
 .block 1 (.ops [o 22 (.ld false 1 (.t 8)), o 23 (.ld true 15 (.t 10)), o 24 (.bslice false 15 zl0 1 [(0, .t 23)]), o 25 (.app 15 56 zl0 (.t 22) (.t 24)), u (.st 1 (.t 8) (.t 25))] [])
def c60 : AFunc := ⟨34, [.tmp 4, .tmp 5, .tmp 6],
 .seq (.ops [o 2 (.box false (.t 0)), o 4 (.mv (cn)), o 5 (.mv (ci 0)), o 6 (.mv (ci 0))] [1, 2, 4, 5, 6])
 (.seq (.seq (.ops [o 11 (.ld true 5 (.t 2)), mt 12 1, o 13 (.call true true 0 (.fn 62) [.t 11, .t 12]), mt 7 13] [1, 2, 4, 5, 6, 7])
 (.seq (.ops [mt 14 7, o 15 (.bin .neq (.t 14) (ci 0))] [1, 2, 4, 5, 6, 7, 15])
 (.cond (.t 15)
 (.seq (.ops [mt 16 7, o 4 (.mv (cn)), o 5 (.mv (ci 0)), mt 6 16] [4, 5, 6])
 (.ret))
 (.skip))))
 (.seq (.ops [o 8 (.allocown 15)] [1, 2, 4, 5, 6, 8])
 (.seq (.seq (.ops [o 17 (.ld true 5 (.t 2)), mt 18 1, o 19 (.call true false 0 (.fn 108) [.t 17, .t 18])] [1, 4, 5, 6, 8, 19])
 (.block 0 (.rfun (.t 19) [20, 21] c60A0 c60B0)))
 (.seq (.seq (.ops [o 26 (.ld false 1 (.t 8)), o 27 (.len 1 (.t 26)), mt 28 1, o 29 (.len 1 (.t 28)), o 30 (.bin .lss (.t 27) (.t 29))] [8, 30])
 (.cond (.t 30)
 (.seq (.opsd [(0, 1), (1, 1), (2, 1), (3, 1), (4, 1)] [o 31 (.ld false 1 (.t 8)), o 32 (.len 1 (.t 31)), o 4 (.mv (cn)), mt 5 32, o 6 (.mv (ci 21))] [4, 5, 6])
 (.ret))
 (.skip)))
 (.seq (.ops [o 33 (.ld false 1 (.t 8)), mt 4 33, o 5 (.mv (ci 0)), o 6 (.mv (ci 0))] [4, 5, 6])
 (.ret))))))⟩

def c61 : AFunc := ⟨13, [.cell 2 true 15],
 .seq (.ops [o 2 (.alloc true 1 zl0)] [0, 2])
 (.seq (.seq (.ops [mt 3 0, o 4 (.len 1 (.t 3)), o 5 (.bin .eql (.t 4) (ci 0))] [0, 2, 5])
 (.cond (.t 5)
 (.seq (.ops [o 6 (.call true true 0 (.fn 109) []), u (.st 15 (.t 2) (.t 6))] [2])
 (.ret))
 (.skip)))
 (.seq (.ops [mt 7 0, mt 8 0, o 9 (.len 1 (.t 8)), o 10 (.bin .sub (.t 9) (ci 1)), o 11 (.iadr 15 (.t 7) (.t 10)), o 12 (.ld true 15 (.t 11)), u (.st 15 (.t 2) (.t 12))] [2])
 (.ret)))⟩

def c62L0 : ACode :=
 .seq (.ops [o 23 (.bin .lss (.t 22) (.t 21))] [2, 20, 21, 22, 23])
 (.seq (.cond (.t 23)
 (.skip)
 (.exit 0))
 (.seq (.block 1 (.seq (.ops [o 24 (.iadr 6 (.t 20) (.t 22)), o 25 (.ld true 6 (.t 24)), o 7 (.alloc true 1 zl1), u (.st 6 (.t 7) (.t 25))] [2, 7, 20, 21, 22])
 (.seq (.ops [o 26 (.ld true 6 (.t 7)), o 27 (.ld true 5 (.t 2)), o 28 (.call true true 0 (.fn 63) [.t 26, .t 27]), mt 8 28] [2, 8, 20, 21, 22])
 (.seq (.ops [mt 29 8, o 30 (.bin .neq (.t 29) (ci 0))] [2, 8, 20, 21, 22, 30])
 (.cond (.t 30)
 (.seq (.ops [mt 31 8, mt 4 31] [4])
 (.ret))
 (.skip))))))
 (.ops [o 32 (.bin .add (.t 22) (ci 1)), mt 22 32] [2, 20, 21, 22])))
def c62 : AFunc := ⟨33, [.tmp 4],
 .seq (.ops [o 2 (.box false (.t 0)), o 4 (.mv (ci 0))] [1, 2])
 (.seq (.seq (.ops [o 9 (.ld true 5 (.t 2)), o 10 (.call true true 0 (.fn 57) [.t 9]), mt 11 1, o 12 (.len 1 (.t 11)), o 13 (.bin .gtr (.t 12) (ci 1000)), o 14 (.call true true 0 (.fn 81) [.t 13, ci 5]), o 15 (.bslice false 1 zl6 2 [(0, .t 10), (1, .t 14)]), o 16 (.call true true 0 (.fn 56) [.t 15]), mt 5 16] [1, 2, 5])
 (.seq (.ops [mt 17 5, o 18 (.bin .neq (.t 17) (ci 0))] [1, 2, 5, 18])
 (.cond (.t 18)
 (.seq (.ops [mt 19 5, mt 4 19] [4])
 (.ret))
 (.skip))))
 (.seq (.seq (.ops [mt 20 1, o 21 (.len 1 (.t 20)), o 22 (.mv (ci 0))] [2, 20, 21, 22])
 (.block 0 (.loop true [2, 20, 21, 22] c62L0)))
 (.seq (.ops [o 4 (.mv (ci 0))] [4])
 (.ret))))⟩

def c63 : AFunc := ⟨48, [.tmp 4],
 .seq (.ops [o 2 (.box true (.t 0)), o 3 (.box false (.t 1)), o 4 (.mv (ci 0))] [2, 3])
 (.seq (.seq (.ops [o 8 (.fadr 0 (.t 2)), o 9 (.ld false 1 (.t 8)), o 10 (.call true true 0 (.fn 80) [.t 9, ci 0, ci 100000000]), mt 5 10] [2, 3, 5])
 (.seq (.ops [mt 11 5, o 12 (.bin .neq (.t 11) (ci 0))] [2, 3, 5, 12])
 (.cond (.t 12)
 (.seq (.ops [mt 13 5, mt 4 13] [4])
 (.ret))
 (.skip))))
 (.seq (.opsd [(0, 1), (1, 1), (2, 1), (3, 1), (4, 1), (5, 1), (6, 1), (7, 1), (8, 1)] [o 15 (.call true false 0 (.fn 110) []), o 16 (.fadr 1 (.t 2)), o 17 (.ld false 1 (.t 16)), o 18 (.lkup 1 (.p (.int .i64 0)) (.t 15) (.t 17) true), mt 14 18, o 19 (.ext (.t 14) 0), o 20 (.ext (.t 14) 1), mt 6 19, mt 7 20] [2, 3, 6, 7])
 (.seq (.seq (.ops [mt 21 7, o 22 (.not (.t 21))] [2, 3, 6, 22])
 (.cond (.t 22)
 (.seq (.ops [o 4 (.mv (ci 13))] [4])
 (.ret))
 (.skip)))
 (.seq (.seq (.opsd [(0, 1), (1, 1), (2, 1), (3, 1), (4, 1), (5, 1), (6, 1), (7, 1), (8, 1), (9, 1), (10, 1), (11, 1), (12, 1), (13, 1)] [o 23 (.fadr 2 (.t 2)), o 24 (.ld false 1 (.t 23)), o 25 (.bin .lss (.t 24) (ci 0)), mt 26 25, ⟨some 27, .fadr 2 (.t 2), some (26, false)⟩, ⟨some 28, .ld false 1 (.t 27), some (26, false)⟩, ⟨some 29, .mv (.t 6), some (26, false)⟩, ⟨some 30, .iadra 4 10 (.g 0) (.t 29), some (26, false)⟩, ⟨some 31, .fadr 1 (.t 30), some (26, false)⟩, ⟨some 32, .ld false 1 (.t 31), some (26, false)⟩, ⟨some 33, .ld true 5 (.t 3), some (26, false)⟩, ⟨some 34, .call false true 0 (.val (.t 32)) [.t 33], some (26, false)⟩, ⟨some 35, .bin .geq (.t 28) (.t 34), some (26, false)⟩, o 36 (.pick (.t 26) (cb true) (.t 35))] [2, 36])
 (.cond (.t 36)
 (.seq (.ops [o 4 (.mv (ci 10))] [4])
 (.ret))
 (.skip)))
 (.seq (.seq (.ops [o 37 (.ld true 6 (.t 2)), o 38 (.bslice false 1 zl7 1 [(0, cs [109, 101, 97, 115, 117, 114, 101])]), o 39 (.call true true 0 (.fn 111) [.t 37, .t 38])] [2, 39])
 (.cond (.t 39)
 (.seq (.ops [o 40 (.fadr 3 (.t 2)), o 41 (.ld true 3 (.t 40)), o 42 (.call true true 0 (.fn 58) [.t 41]), mt 4 42] [4])
 (.ret))
 (.skip)))
 (.seq (.ops [o 43 (.fadr 3 (.t 2)), o 44 (.ld true 3 (.t 43)), o 45 (.build zl4 []), o 46 (.eqagg [0, 0, 0] true (.t 44) (.t 45)), o 47 (.call true true 0 (.fn 81) [.t 46, ci 1]), mt 4 47] [4])
 (.ret)))))))⟩

def c64L0 : ACode :=
 .seq (.ops [o 10 (.bin .lss (.t 9) (ci 7))] [2, 3, 5, 8, 9, 10])
 (.seq (.cond (.t 10)
 (.skip)
 (.exit 0))
 (.seq (.block 1 (.seq (.ops [o 11 (.idx true 2 7 (.t 8) (.t 9)), o 7 (.alloc false 1 [.p (.str []), .p (.nilf)]), u (.st 2 (.t 7) (.t 11))] [2, 3, 5, 7, 8, 9])
 (.seq (.ops [o 12 (.fadr 1 (.t 7)), o 13 (.ld false 1 (.t 12)), o 14 (.ld true 15 (.t 2)), o 15 (.ld true 6 (.t 3)), o 16 (.call false true 0 (.val (.t 13)) [.t 14, .t 15])] [2, 3, 5, 7, 8, 9, 16])
 (.cond (.t 16)
 (.ops [mt 17 5, o 18 (.fadr 0 (.t 7)), o 19 (.ld false 1 (.t 18)), o 20 (.bslice false 1 zl7 1 [(0, .t 19)]), o 21 (.app 1 16 zl7 (.t 17) (.t 20)), mt 5 21] [2, 3, 5, 8, 9])
 (.skip)))))
 (.ops [o 22 (.bin .add (.t 9) (ci 1)), mt 9 22] [2, 3, 5, 8, 9])))
def c64 : AFunc := ⟨24, [.tmp 4],
 .seq (.ops [o 2 (.box true (.t 0)), o 3 (.box true (.t 1)), o 4 (.mv (cn))] [2, 3])
 (.seq (.ops [o 5 (.nilown 1)] [2, 3, 5])
 (.seq (.seq (.ops [o 8 (.ld true 14 (.g 1)), o 9 (.mv (ci 0))] [2, 3, 5, 8, 9])
 (.block 0 (.loop true [2, 3, 5, 8, 9] c64L0)))
 (.seq (.ops [mt 23 5, mt 4 23] [4])
 (.ret))))⟩

def c80 : AFunc := ⟨16, [.tmp 6],
 .seq (.ops [o 6 (.mv (ci 0))] [0, 1, 2])
 (.seq (.ops [mt 7 0, mt 8 1, o 9 (.bin .lss (.t 7) (.t 8)), mt 10 9, ⟨some 11, .mv (.t 0), some (10, false)⟩, ⟨some 12, .mv (.t 2), some (10, false)⟩, ⟨some 13, .bin .gtr (.t 11) (.t 12), some (10, false)⟩, o 14 (.pick (.t 10) (cb true) (.t 13)), o 15 (.call true true 0 (.fn 81) [.t 14, ci 3]), mt 6 15] [6])
 (.ret))⟩

def c81 : AFunc := ⟨7, [.tmp 4],
 .seq (.ops [o 4 (.mv (ci 0))] [0, 1])
 (.seq (.seq (.ops [mt 5 0] [1, 5])
 (.cond (.t 5)
 (.seq (.ops [mt 6 1, mt 4 6] [4])
 (.ret))
 (.skip)))
 (.seq (.ops [o 4 (.mv (ci 0))] [4])
 (.ret)))⟩

def c82L0 : ACode :=
 .seq (.ops [o 11 (.bin .lss (.t 10) (.t 9))] [1, 5, 8, 9, 10, 11])
 (.seq (.cond (.t 11)
 (.skip)
 (.exit 0))
 (.seq (.block 1 (.seq (.ops [o 12 (.iadr 1 (.t 8) (.t 10)), o 13 (.ld false 1 (.t 12)), mt 7 13] [1, 5, 7, 8, 9, 10])
 (.ops [mt 14 5, mt 15 1, mt 16 7, o 17 (.call false true 0 (.val (.t 15)) [.t 16]), o 18 (.bslice false 1 zl6 1 [(0, .t 17)]), o 19 (.app 1 8 zl6 (.t 14) (.t 18)), mt 5 19] [1, 5, 8, 9, 10])))
 (.ops [o 20 (.bin .add (.t 10) (ci 1)), mt 10 20] [1, 5, 8, 9, 10])))
def c82 : AFunc := ⟨22, [.tmp 4],
 .seq (.ops [o 4 (.mv (cn))] [0, 1])
 (.seq (.ops [o 5 (.nilown 1)] [0, 1, 5])
 (.seq (.seq (.ops [mt 8 0, o 9 (.len 1 (.t 8)), o 10 (.mv (ci 0))] [1, 5, 8, 9, 10])
 (.block 0 (.loop true [1, 5, 8, 9, 10] c82L0)))
 (.seq (.ops [mt 21 5, mt 4 21] [4])
 (.ret))))⟩

def c100 : AFunc := ⟨25, [.tmp 6],
 .seq (.ops [o 3 (.box true (.t 0)), o 6 (.mv (ci 0))] [1, 2, 3])
 (.seq (.opsd [(0, 1), (1, 1), (2, 1), (3, 1), (4, 1), (5, 1), (6, 1), (7, 1), (8, 1), (9, 1), (10, 1), (11, 1), (12, 1), (13, 1), (14, 1), (15, 0), (16, 0), (17, 0), (18, 1)] [o 7 (.fadr 0 (.t 3)), o 8 (.ld false 1 (.t 7)), mt 9 1, mt 10 2, o 11 (.call true true 0 (.fn 53) [.t 8, .t 9, .t 10]), o 12 (.fadr 1 (.t 3)), o 13 (.ld false 1 (.t 12)), mt 14 1, mt 15 2, o 16 (.call true true 0 (.fn 53) [.t 13, .t 14, .t 15]), o 17 (.fadr 0 (.t 3)), o 18 (.ld false 1 (.t 17)), o 19 (.fadr 1 (.t 3)), o 20 (.ld false 1 (.t 19)), o 21 (.bin .gtr (.t 18) (.t 20)), o 22 (.call true true 0 (.fn 102) [.t 21, ci 11]), o 23 (.bslice false 1 zl6 3 [(0, .t 11), (1, .t 16), (2, .t 22)]), o 24 (.call true true 0 (.fn 50) [.t 23]), mt 6 24] [6])
 (.ret))⟩

def c101 : AFunc := ⟨14, [.tmp 4],
 .seq (.ops [o 4 (.mv (ci 0))] [0, 1])
 (.seq (.ops [mt 5 0, o 6 (.bin .eql (.t 5) (ci 0)), o 7 (.call true true 0 (.fn 102) [.t 6, ci 12]), mt 8 0, mt 9 1, o 10 (.bin .gtr (.t 8) (.t 9)), o 11 (.call true true 0 (.fn 102) [.t 10, ci 5]), o 12 (.bslice false 1 zl6 2 [(0, .t 7), (1, .t 11)]), o 13 (.call true true 0 (.fn 50) [.t 12]), mt 4 13] [4])
 (.ret))⟩

def c102 : AFunc := ⟨7, [.tmp 4],
 .seq (.ops [o 4 (.mv (ci 0))] [0, 1])
 (.seq (.seq (.ops [mt 5 0] [1, 5])
 (.cond (.t 5)
 (.seq (.ops [mt 6 1, mt 4 6] [4])
 (.ret))
 (.skip)))
 (.seq (.ops [o 4 (.mv (ci 0))] [4])
 (.ret)))⟩

def c103L0 : ACode :=
 .seq (.ops [o 11 (.bin .lss (.t 10) (.t 9))] [1, 5, 8, 9, 10, 11])
 (.seq (.cond (.t 11)
 (.skip)
 (.exit 0))
 (.seq (.block 1 (.seq (.ops [o 12 (.iadr 2 (.t 8) (.t 10)), o 13 (.ld true 2 (.t 12)), o 7 (.alloc true 1 zl5), u (.st 2 (.t 7) (.t 13))] [1, 5, 7, 8, 9, 10])
 (.seq (.seq (.ops [o 14 (.fadr 0 (.t 7)), o 15 (.ld false 1 (.t 14)), mt 16 1, o 17 (.bin .gtr (.t 15) (.t 16))] [1, 5, 7, 8, 9, 10, 17])
 (.cond (.t 17)
 (.exit 0)
 (.skip)))
 (.ops [o 18 (.fadr 1 (.t 7)), o 19 (.ld false 1 (.t 18)), mt 5 19] [1, 5, 8, 9, 10]))))
 (.ops [o 20 (.bin .add (.t 10) (ci 1)), mt 10 20] [1, 5, 8, 9, 10])))
def c103 : AFunc := ⟨22, [.tmp 4],
 .seq (.ops [o 4 (.mv (ci 0))] [0, 1])
 (.scope (.seq (.ops [o 5 (.mv (ci 0))] [0, 1, 5])
 (.seq (.skip)
 (.seq (.seq (.ops [mt 8 0, o 9 (.len 1 (.t 8)), o 10 (.mv (ci 0))] [1, 5, 8, 9, 10])
 (.block 0 (.loop true [1, 5, 8, 9, 10] c103L0)))
 (.seq (.ops [mt 21 5, mt 4 21] [4])
 (.ret))))))⟩

def c104 : AFunc := ⟨17, [.tmp 4],
 .seq (.ops [o 4 (.mv (ci 0))] [0, 1])
 (.seq (.ops [mt 6 0, mt 7 1, o 8 (.bin .quo (.t 6) (.t 7)), mt 5 8] [0, 1, 5])
 (.seq (.seq (.ops [mt 9 5, mt 10 1, o 11 (.bin .mul (.t 9) (.t 10)), mt 12 0, o 13 (.bin .gtr (.t 11) (.t 12))] [5, 13])
 (.cond (.t 13)
 (.ops [mt 14 5, o 15 (.bin .sub (.t 14) (ci 1)), mt 5 15] [5])
 (.skip)))
 (.seq (.ops [mt 16 5, mt 4 16] [4])
 (.ret))))⟩

def c105L0 : ACode :=
 .seq (.ops [o 11 (.bin .lss (.t 10) (.t 9))] [1, 5, 8, 9, 10, 11])
 (.seq (.cond (.t 11)
 (.skip)
 (.exit 0))
 (.seq (.block 1 (.seq (.ops [o 12 (.iadr 1 (.t 8) (.t 10)), o 13 (.ld false 1 (.t 12)), mt 7 13] [1, 5, 7, 8, 9, 10])
 (.ops [mt 14 5, mt 15 1, mt 16 7, o 17 (.call false true 0 (.val (.t 15)) [.t 16]), o 18 (.bslice false 1 zl6 1 [(0, .t 17)]), o 19 (.app 1 8 zl6 (.t 14) (.t 18)), mt 5 19] [1, 5, 8, 9, 10])))
 (.ops [o 20 (.bin .add (.t 10) (ci 1)), mt 10 20] [1, 5, 8, 9, 10])))
def c105 : AFunc := ⟨22, [.tmp 4],
 .seq (.ops [o 4 (.mv (cn))] [0, 1])
 (.seq (.ops [o 5 (.nilown 1)] [0, 1, 5])
 (.seq (.seq (.ops [mt 8 0, o 9 (.len 1 (.t 8)), o 10 (.mv (ci 0))] [1, 5, 8, 9, 10])
 (.block 0 (.loop true [1, 5, 8, 9, 10] c105L0)))
 (.seq (.ops [mt 21 5, mt 4 21] [4])
 (.ret))))⟩

def c106L0 : ACode :=
 .seq (.ops [o 25 (.bin .lss (.t 24) (.t 23))] [4, 22, 23, 24, 25])
 (.seq (.cond (.t 25)
 (.skip)
 (.exit 0))
 (.seq (.block 1 (.seq (.ops [mt 26 24, o 27 (.iadr 2 (.t 22) (.t 24)), o 28 (.ld true 2 (.t 27)), o 6 (.alloc true 1 zl5), mt 5 26, u (.st 2 (.t 6) (.t 28))] [4, 5, 6, 22, 23, 24])
 (.seq (.seq (.opsd [(0, 1), (1, 1), (2, 1), (3, 1), (4, 1), (6, 1), (7, 1), (5, 0), (8, 1), (9, 1), (10, 1), (11, 1), (12, 1), (13, 1), (14, 1), (15, 1), (16, 1), (17, 1), (18, 1), (19, 1), (20, 1), (21, 1), (22, 1), (23, 1), (24, 1), (25, 1), (26, 1), (27, 0), (28, 0), (29, 0), (30, 1)] [o 29 (.fadr 0 (.t 6)), o 30 (.ld false 1 (.t 29)), o 31 (.call true true 0 (.fn 80) [.t 30, ci 0, ci 100000]), o 32 (.fadr 1 (.t 6)), o 33 (.ld false 1 (.t 32)), mt 35 5, o 36 (.bin .eql (.t 35) (ci 0)), o 34 (.call true true 0 (.fn 80) [.t 33, ci 0, ci 1000000]), mt 37 36, ⟨some 38, .fadr 0 (.t 6), some (37, true)⟩, ⟨some 39, .ld false 1 (.t 38), some (37, true)⟩, ⟨some 40, .bin .neq (.t 39) (ci 0), some (37, true)⟩, o 41 (.pick (.t 37) (.t 40) (cb false)), mt 42 41, ⟨some 43, .fadr 0 (.t 6), some (42, false)⟩, ⟨some 44, .ld false 1 (.t 43), some (42, false)⟩, ⟨some 45, .fadr 0 (.t 4), some (42, false)⟩, ⟨some 46, .ld false 1 (.t 45), some (42, false)⟩, ⟨some 47, .bin .leq (.t 44) (.t 46), some (42, false)⟩, o 48 (.pick (.t 42) (cb true) (.t 47)), mt 49 48, ⟨some 50, .fadr 1 (.t 6), some (49, false)⟩, ⟨some 51, .ld false 1 (.t 50), some (49, false)⟩, ⟨some 52, .fadr 1 (.t 4), some (49, false)⟩, ⟨some 53, .ld false 1 (.t 52), some (49, false)⟩, ⟨some 54, .bin .lss (.t 51) (.t 53), some (49, false)⟩, o 55 (.pick (.t 49) (cb true) (.t 54)), o 56 (.call true true 0 (.fn 81) [.t 55, ci 11]), o 57 (.bslice false 1 zl6 3 [(0, .t 31), (1, .t 34), (2, .t 56)]), o 58 (.call true true 0 (.fn 56) [.t 57]), mt 7 58] [4, 6, 7, 22, 23, 24])
 (.seq (.ops [mt 59 7, o 60 (.bin .neq (.t 59) (ci 0))] [4, 6, 7, 22, 23, 24, 60])
 (.cond (.t 60)
 (.seq (.ops [mt 61 7, mt 2 61] [2])
 (.ret))
 (.skip))))
 (.ops [o 62 (.ld true 2 (.t 6)), u (.st 2 (.t 4) (.t 62))] [4, 22, 23, 24]))))
 (.ops [o 63 (.bin .add (.t 24) (ci 1)), mt 24 63] [4, 22, 23, 24])))
def c106 : AFunc := ⟨64, [.tmp 2],
 .seq (.ops [o 2 (.mv (ci 0))] [0])
 (.seq (.seq (.ops [mt 8 0, o 9 (.len 1 (.t 8)), o 10 (.bin .eql (.t 9) (ci 0)), o 11 (.call true true 0 (.fn 81) [.t 10, ci 12]), mt 12 0, o 13 (.len 1 (.t 12)), o 14 (.bin .gtr (.t 13) (ci 8)), o 15 (.call true true 0 (.fn 81) [.t 14, ci 5]), o 16 (.bslice false 1 zl6 2 [(0, .t 11), (1, .t 15)]), o 17 (.call true true 0 (.fn 56) [.t 16]), mt 3 17] [0, 3])
 (.seq (.ops [mt 18 3, o 19 (.bin .neq (.t 18) (ci 0))] [0, 3, 19])
 (.cond (.t 19)
 (.seq (.ops [mt 20 3, mt 2 20] [2])
 (.ret))
 (.skip))))
 (.seq (.ops [o 21 (.build zl5 [(0, 1, ci (-1)), (1, 1, ci 0)]), o 4 (.alloc true 1 zl5), u (.st 2 (.t 4) (.t 21))] [0, 4])
 (.seq (.seq (.ops [mt 22 0, o 23 (.len 1 (.t 22)), o 24 (.mv (ci 0))] [4, 22, 23, 24])
 (.block 0 (.loop true [4, 22, 23, 24] c106L0)))
 (.seq (.ops [o 2 (.mv (ci 0))] [2])
 (.ret)))))⟩

def c107 : AFunc := ⟨5, [.tmp 2],
 .seq (.ops [o 2 (.mv (ci 0))] [0])
 (.seq (.ops [mt 3 0, o 4 (.call true true 0 (.fn 80) [.t 3, ci 0, ci 100000]), mt 2 4] [2])
 (.ret))⟩

def c108 : AFunc := ⟨6, [.tmp 4],
 .seq (.ops [o 2 (.box false (.t 0)), o 3 (.box false (.t 1)), o 4 (.mv (.c (.p (.nilf))))] [2, 3])
 (.seq (.ops [o 5 (.mkclo 135 [] [.t 3, .t 2]), mt 4 5] [4])
 (.ret))⟩

def c109 : AFunc := ⟨2, [.cell 0 true 15],
 .seq (.ops [o 0 (.alloc true 1 zl0)] [0])
 (.seq (.ops [o 1 (.build zl0 [(13, 1, ci (-1))]), u (.st 15 (.t 0) (.t 1))] [0])
 (.ret))⟩

def c110L0 : ACode :=
 .seq (.ops [o 7 (.bin .lss (.t 6) (ci 10))] [1, 5, 6, 7])
 (.seq (.cond (.t 7)
 (.skip)
 (.exit 0))
 (.seq (.block 1 (.seq (.ops [mt 8 6, o 9 (.idx true 4 10 (.t 5) (.t 6)), o 3 (.alloc false 1 [.p (.str []), .p (.nilf), .p (.nilf), .p (.nilf)]), mt 2 8, u (.st 4 (.t 3) (.t 9))] [1, 2, 3, 5, 6])
 (.ops [mt 10 1, o 11 (.fadr 0 (.t 3)), o 12 (.ld false 1 (.t 11)), mt 13 2, u (.mupd 1 (.t 10) (.t 12) (.t 13))] [1, 5, 6])))
 (.ops [o 14 (.bin .add (.t 6) (ci 1)), mt 6 14] [1, 5, 6])))
def c110 : AFunc := ⟨16, [.tmp 0],
 .seq (.ops [o 0 (.mv (.c (.p (.nilm))))] [])
 (.seq (.ops [o 4 (.mkmap), mt 1 4] [1])
 (.seq (.seq (.ops [o 5 (.ld true 40 (.g 0)), o 6 (.mv (ci 0))] [1, 5, 6])
 (.block 0 (.loop true [1, 5, 6] c110L0)))
 (.seq (.ops [mt 15 1, mt 0 15] [0])
 (.ret))))⟩

def c111 : AFunc := ⟨9, [.tmp 4],
 .seq (.ops [o 2 (.box true (.t 0)), o 4 (.mv (cb false))] [1, 2])
 (.seq (.ops [mt 5 1, o 6 (.fadr 1 (.t 2)), o 7 (.ld false 1 (.t 6)), o 8 (.call true true 0 (.fn 137) [.t 5, .t 7]), mt 4 8] [4])
 (.ret))⟩

def c135L0 : ACode :=
 .seq (.ops [o 11 (.bin .lss (.t 10) (.t 9))] [0, 2, 4, 8, 9, 10, 11])
 (.seq (.cond (.t 11)
 (.skip)
 (.exit 0))
 (.seq (.block 1 (.seq (.ops [mt 12 10, o 13 (.iadr 6 (.t 8) (.t 10)), o 14 (.ld true 6 (.t 13)), o 6 (.alloc true 1 zl1), mt 5 12, u (.st 6 (.t 6) (.t 14))] [0, 2, 4, 5, 6, 8, 9, 10])
 (.seq (.seq (.ops [o 15 (.ld true 15 (.t 4)), o 16 (.ld true 6 (.t 6)), o 17 (.call true false 0 (.fn 64) [.t 15, .t 16]), o 18 (.len 1 (.t 17)), o 19 (.bin .gtr (.t 18) (ci 0))] [0, 2, 4, 5, 6, 8, 9, 10, 19])
 (.cond (.t 19)
 (.ret)
 (.skip)))
 (.seq (.ops [o 20 (.ld true 15 (.t 4)), o 21 (.ld true 5 (.t 2)), o 22 (.ld true 6 (.t 6)), o 23 (.call true true 0 (.fn 136) [.t 20, .t 21, .t 22]), u (.st 15 (.t 4) (.t 23))] [0, 2, 4, 5, 8, 9, 10])
 (.seq (.ops [mt 24 0, mt 25 5, o 26 (.ld true 15 (.t 4)), o 27 (.call false true 0 (.val (.t 24)) [.t 25, .t 26]), o 28 (.not (.t 27))] [0, 2, 4, 8, 9, 10, 28])
 (.cond (.t 28)
 (.ret)
 (.skip)))))))
 (.ops [o 29 (.bin .add (.t 10) (ci 1)), mt 10 29] [0, 2, 4, 8, 9, 10])))
def c135 : AFunc := ⟨30, [],
 .seq (.ops [o 7 (.call true true 0 (.fn 109) []), o 4 (.alloc true 1 zl0), u (.st 15 (.t 4) (.t 7))] [0, 1, 2, 4])
 (.seq (.ops [o 8 (.ld false 1 (.t 1)), o 9 (.len 1 (.t 8)), o 10 (.mv (ci 0))] [0, 2, 4, 8, 9, 10])
 (.block 0 (.loop true [0, 2, 4, 8, 9, 10] c135L0)))⟩

def c136 : AFunc := ⟨21, [.cell 6 true 15],
 .seq (.ops [o 3 (.box true (.t 0)), o 4 (.box false (.t 1)), o 5 (.box true (.t 2)), o 6 (.alloc true 1 zl0)] [3, 4, 5, 6])
 (.seq (.ops [o 7 (.fadr 0 (.t 5)), o 8 (.ld false 1 (.t 7)), o 9 (.fadr 0 (.t 3)), u (.st 1 (.t 9) (.t 8))] [3, 4, 5, 6])
 (.seq (.opsd [(0, 1), (1, 1), (2, 1), (3, 1), (4, 1), (5, 1), (6, 1), (7, 1), (8, 1), (9, 0)] [o 10 (.call true false 0 (.fn 110) []), o 11 (.fadr 1 (.t 5)), o 12 (.ld false 1 (.t 11)), o 13 (.lkup 1 (.p (.int .i64 0)) (.t 10) (.t 12) false), o 14 (.iadra 4 10 (.g 0) (.t 13)), o 15 (.fadr 3 (.t 14)), o 16 (.ld false 1 (.t 15)), o 17 (.ld true 5 (.t 4)), o 18 (.ld true 6 (.t 5)), o 19 (.call false true 0 (.val (.t 16)) [.t 17, .t 3, .t 18])] [3, 6])
 (.seq (.ops [o 20 (.ld true 15 (.t 3)), u (.st 15 (.t 6) (.t 20))] [6])
 (.ret))))⟩

def c137 : AFunc := ⟨9, [.tmp 4],
 .seq (.ops [o 4 (.mv (cb false))] [0, 1])
 (.seq (.ops [mt 5 0, mt 6 1, o 7 (.call true true 0 (.fn 151) [.t 5, .t 6]), o 8 (.bin .geq (.t 7) (ci 0)), mt 4 8] [4])
 (.ret))⟩

def c145 : AFunc := ⟨8, [.tmp 4],
 .seq (.ops [o 4 (.mv (cb false))] [0, 1])
 (.seq (.ops [mt 5 0, mt 6 1, o 7 (.bin .lss (.t 5) (.t 6)), mt 4 7] [4])
 (.ret))⟩

def c146 : AFunc := ⟨8, [.tmp 4],
 .seq (.ops [o 4 (.mv (cb false))] [0, 1])
 (.seq (.ops [mt 5 0, mt 6 1, o 7 (.bin .gtr (.t 5) (.t 6)), mt 4 7] [4])
 (.ret))⟩

def c151L0 : ACode :=
 .seq (.ops [o 9 (.bin .lss (.t 8) (.t 7))] [0, 1, 7, 8, 9])
 (.seq (.cond (.t 9)
 (.skip)
 (.exit 0))
 (.seq (.block 1 (.seq (.ops [mt 10 8, mt 5 10] [0, 1, 5, 7, 8])
 (.seq (.ops [mt 11 1, mt 12 0, mt 13 5, o 14 (.iadr 1 (.t 12) (.t 13)), o 15 (.ld false 1 (.t 14)), o 16 (.bin .eql (.t 11) (.t 15))] [0, 1, 5, 7, 8, 16])
 (.cond (.t 16)
 (.seq (.ops [mt 17 5, mt 4 17] [4])
 (.ret))
 (.skip)))))
 (.ops [o 18 (.bin .add (.t 8) (ci 1)), mt 8 18] [0, 1, 7, 8])))
def c151 : AFunc := ⟨19, [.tmp 4],
 .seq (.ops [o 4 (.mv (ci 0))] [0, 1])
 (.seq (.seq (.ops [mt 6 0, o 7 (.len 1 (.t 6)), o 8 (.mv (ci 0))] [0, 1, 7, 8])
 (.block 0 (.loop false [0, 1, 7, 8] c151L0)))
 (.seq (.ops [o 4 (.mv (ci (-1)))] [4])
 (.ret)))⟩

def c172 : AFunc := ⟨7, [.tmp 2],
 .seq (.ops [o 1 (.box true (.t 0)), o 2 (.mv (cb false))] [1])
 (.seq (.ops [o 3 (.fadr 1 (.t 1)), o 4 (.ld true 8 (.t 3)), o 5 (.build [.p (.bool false), .p (.bool false), .p (.bool false), .p (.bool false), .p (.bool false), .p (.bool false), .p (.bool false), .p (.bool false)] []), o 6 (.eqagg [2, 2, 2, 2, 2, 2, 2, 2] true (.t 4) (.t 5)), mt 2 6] [2])
 (.ret))⟩

def c174 : AFunc := ⟨5, [.tmp 2],
 .seq (.ops [o 1 (.box false (.t 0)), o 2 (.mv (ci 0))] [1])
 (.seq (.ops [o 3 (.fadr 0 (.t 1)), o 4 (.ld false 1 (.t 3)), mt 2 4] [2])
 (.ret))⟩

def c175 : AFunc := ⟨10, [.tmp 4],
 .seq (.ops [o 2 (.box true (.t 0)), o 3 (.box true (.t 1)), o 4 (.mv (cb false))] [2, 3])
 (.seq (.ops [o 5 (.fadr 2 (.t 3)), o 6 (.ld false 1 (.t 5)), o 7 (.fadr 1 (.t 2)), o 8 (.iadra 1 8 (.t 7) (.t 6)), o 9 (.ld false 1 (.t 8)), mt 4 9] [4])
 (.ret))⟩

def c176 : AFunc := ⟨12, [],
 .seq (.ops [o 3 (.box false (.t 0)), o 5 (.box true (.t 2))] [1, 5])
 (.opsd [(0, 1), (1, 1), (2, 1), (3, 1), (4, 1), (5, 1), (6, 0)] [mt 6 1, o 7 (.fadr 2 (.t 5)), o 8 (.ld false 1 (.t 7)), o 9 (.nilck (.t 6)), o 10 (.fadr 1 (.t 9)), o 11 (.iadra 1 8 (.t 10) (.t 8)), u (.st 1 (.t 11) (cb true))] [])⟩

def c177 : AFunc := ⟨11, [.tmp 4],
 .seq (.ops [o 2 (.box true (.t 0)), o 3 (.box true (.t 1)), o 4 (.mv (cb false))] [2, 3])
 (.seq (.ops [o 5 (.fadr 2 (.t 3)), o 6 (.ld false 1 (.t 5)), o 7 (.fadr 1 (.t 2)), o 8 (.iadra 1 8 (.t 7) (.t 6)), o 9 (.ld false 1 (.t 8)), o 10 (.not (.t 9)), mt 4 10] [4])
 (.ret))⟩

def c178 : AFunc := ⟨12, [],
 .seq (.ops [o 3 (.box false (.t 0)), o 5 (.box true (.t 2))] [1, 5])
 (.opsd [(0, 1), (1, 1), (2, 1), (3, 1), (4, 1), (5, 1), (6, 0)] [mt 6 1, o 7 (.fadr 2 (.t 5)), o 8 (.ld false 1 (.t 7)), o 9 (.nilck (.t 6)), o 10 (.fadr 1 (.t 9)), o 11 (.iadra 1 8 (.t 10) (.t 8)), u (.st 1 (.t 11) (cb false))] [])⟩

def c179 : AFunc := ⟨3, [.tmp 2],
 .seq (.ops [o 1 (.box false (.t 0)), o 2 (.mv (ci 0))] [])
 (.seq (.ops [o 2 (.mv (ci 2))] [2])
 (.ret))⟩

def c180 : AFunc := ⟨10, [.tmp 4],
 .seq (.ops [o 2 (.box true (.t 0)), o 3 (.box true (.t 1)), o 4 (.mv (cb false))] [2, 3])
 (.seq (.ops [o 5 (.fadr 2 (.t 3)), o 6 (.ld false 1 (.t 5)), o 7 (.fadr 9 (.t 2)), o 8 (.iadra 1 2 (.t 7) (.t 6)), o 9 (.ld false 1 (.t 8)), mt 4 9] [4])
 (.ret))⟩

def c181 : AFunc := ⟨12, [],
 .seq (.ops [o 3 (.box false (.t 0)), o 5 (.box true (.t 2))] [1, 5])
 (.opsd [(0, 1), (1, 1), (2, 1), (3, 1), (4, 1), (5, 1), (6, 0)] [mt 6 1, o 7 (.fadr 2 (.t 5)), o 8 (.ld false 1 (.t 7)), o 9 (.nilck (.t 6)), o 10 (.fadr 9 (.t 9)), o 11 (.iadra 1 2 (.t 10) (.t 8)), u (.st 1 (.t 11) (cb true))] [])⟩

def c182 : AFunc := ⟨11, [.tmp 4],
 .seq (.ops [o 2 (.box true (.t 0)), o 3 (.box true (.t 1)), o 4 (.mv (cb false))] [2, 3])
 (.seq (.ops [o 5 (.fadr 2 (.t 3)), o 6 (.ld false 1 (.t 5)), o 7 (.fadr 9 (.t 2)), o 8 (.iadra 1 2 (.t 7) (.t 6)), o 9 (.ld false 1 (.t 8)), o 10 (.not (.t 9)), mt 4 10] [4])
 (.ret))⟩

def c183 : AFunc := ⟨12, [],
 .seq (.ops [o 3 (.box false (.t 0)), o 5 (.box true (.t 2))] [1, 5])
 (.opsd [(0, 1), (1, 1), (2, 1), (3, 1), (4, 1), (5, 1), (6, 0)] [mt 6 1, o 7 (.fadr 2 (.t 5)), o 8 (.ld false 1 (.t 7)), o 9 (.nilck (.t 6)), o 10 (.fadr 9 (.t 9)), o 11 (.iadra 1 2 (.t 10) (.t 8)), u (.st 1 (.t 11) (cb false))] [])⟩

def c184 : AFunc := ⟨8, [.tmp 4],
 .seq (.ops [o 2 (.box true (.t 0)), o 3 (.box true (.t 1)), o 4 (.mv (cb false))] [2])
 (.seq (.ops [o 5 (.fadr 11 (.t 2)), o 6 (.ld false 1 (.t 5)), o 7 (.bin .geq (.t 6) (ci 100)), mt 4 7] [4])
 (.ret))⟩

def c185 : AFunc := ⟨13, [],
 .seq (.ops [o 3 (.box false (.t 0)), o 5 (.box true (.t 2))] [1])
 (.ops [mt 6 1, o 7 (.nilck (.t 6)), o 8 (.fadr 11 (.t 7)), o 9 (.ld false 1 (.t 8)), o 10 (.bin .add (.t 9) (ci 1)), o 11 (.nilck (.t 6)), o 12 (.fadr 11 (.t 11)), u (.st 1 (.t 12) (.t 10))] [])⟩

def c186 : AFunc := ⟨8, [.tmp 4],
 .seq (.ops [o 2 (.box true (.t 0)), o 3 (.box true (.t 1)), o 4 (.mv (cb false))] [2])
 (.seq (.ops [o 5 (.fadr 11 (.t 2)), o 6 (.ld false 1 (.t 5)), o 7 (.bin .eql (.t 6) (ci 0)), mt 4 7] [4])
 (.ret))⟩

def c187 : AFunc := ⟨13, [],
 .seq (.ops [o 3 (.box false (.t 0)), o 5 (.box true (.t 2))] [1])
 (.ops [mt 6 1, o 7 (.nilck (.t 6)), o 8 (.fadr 11 (.t 7)), o 9 (.ld false 1 (.t 8)), o 10 (.bin .sub (.t 9) (ci 1)), o 11 (.nilck (.t 6)), o 12 (.fadr 11 (.t 11)), u (.st 1 (.t 12) (.t 10))] [])⟩

def c188 : AFunc := ⟨3, [.tmp 2],
 .seq (.ops [o 1 (.box false (.t 0)), o 2 (.mv (ci 0))] [])
 (.seq (.ops [o 2 (.mv (ci 1))] [2])
 (.ret))⟩

def c189 : AFunc := ⟨7, [.tmp 4],
 .seq (.ops [o 2 (.box true (.t 0)), o 3 (.box true (.t 1)), o 4 (.mv (cb false))] [2])
 (.seq (.ops [o 5 (.fadr 12 (.t 2)), o 6 (.ld false 1 (.t 5)), mt 4 6] [4])
 (.ret))⟩

def c190 : AFunc := ⟨9, [],
 .seq (.ops [o 3 (.box false (.t 0)), o 5 (.box true (.t 2))] [1])
 (.ops [mt 6 1, o 7 (.nilck (.t 6)), o 8 (.fadr 12 (.t 7)), u (.st 1 (.t 8) (cb true))] [])⟩

def c191 : AFunc := ⟨8, [.tmp 4],
 .seq (.ops [o 2 (.box true (.t 0)), o 3 (.box true (.t 1)), o 4 (.mv (cb false))] [2])
 (.seq (.ops [o 5 (.fadr 12 (.t 2)), o 6 (.ld false 1 (.t 5)), o 7 (.not (.t 6)), mt 4 7] [4])
 (.ret))⟩

def c192 : AFunc := ⟨9, [],
 .seq (.ops [o 3 (.box false (.t 0)), o 5 (.box true (.t 2))] [1])
 (.ops [mt 6 1, o 7 (.nilck (.t 6)), o 8 (.fadr 12 (.t 7)), u (.st 1 (.t 8) (cb false))] [])⟩

def c193 : AFunc := ⟨8, [.tmp 4],
 .seq (.ops [o 2 (.box true (.t 0)), o 3 (.box true (.t 1)), o 4 (.mv (cb false))] [2])
 (.seq (.ops [o 5 (.fadr 12 (.t 2)), o 6 (.ld false 1 (.t 5)), o 7 (.not (.t 6)), mt 4 7] [4])
 (.ret))⟩

def c194 : AFunc := ⟨17, [],
 .seq (.ops [o 3 (.box false (.t 0)), o 5 (.box true (.t 2))] [1, 5])
 (.ops [mt 6 1, mt 7 1, mt 8 1, o 9 (.fadr 0 (.t 5)), o 10 (.ld false 1 (.t 9)), o 11 (.nilck (.t 6)), o 12 (.fadr 13 (.t 11)), u (.st 1 (.t 12) (.t 10)), o 13 (.nilck (.t 7)), o 14 (.fadr 14 (.t 13)), u (.st 1 (.t 14) (ci (-1))), o 15 (.nilck (.t 8)), o 16 (.fadr 12 (.t 15)), u (.st 1 (.t 16) (cb false))] [])⟩

def c195 : AFunc := ⟨8, [.tmp 4],
 .seq (.ops [o 2 (.box true (.t 0)), o 3 (.box true (.t 1)), o 4 (.mv (cb false))] [2])
 (.seq (.ops [o 5 (.fadr 13 (.t 2)), o 6 (.ld false 1 (.t 5)), o 7 (.bin .eql (.t 6) (ci (-1))), mt 4 7] [4])
 (.ret))⟩

def c196 : AFunc := ⟨24, [],
 .seq (.ops [o 3 (.box false (.t 0)), o 5 (.box true (.t 2))] [1, 3, 5])
 (.opsd [(0, 1), (1, 1), (2, 1), (3, 1), (4, 1), (5, 1), (6, 1), (7, 1), (8, 1), (9, 1), (10, 1), (11, 1), (12, 1), (13, 1), (14, 1), (15, 1), (16, 1), (17, 1), (18, 0)] [mt 6 1, mt 7 1, o 8 (.nilck (.t 7)), o 9 (.fadr 13 (.t 8)), o 10 (.ld false 1 (.t 9)), o 11 (.fadr 1 (.t 3)), o 12 (.ld false 1 (.t 11)), o 13 (.bin .add (.t 10) (.t 12)), o 14 (.fadr 0 (.t 5)), o 15 (.ld false 1 (.t 14)), o 16 (.ld true 5 (.t 3)), o 17 (.fadr 3 (.t 5)), o 18 (.ld true 3 (.t 17)), o 19 (.call true true 0 (.fn 59) [.t 16, .t 18]), o 20 (.bin .add (.t 15) (.t 19)), o 21 (.max [.t 13, .t 20]), o 22 (.nilck (.t 6)), o 23 (.fadr 14 (.t 22)), u (.st 1 (.t 23) (.t 21))] [])⟩

def c197 : AFunc := ⟨10, [.tmp 4],
 .seq (.ops [o 2 (.box true (.t 0)), o 3 (.box true (.t 1)), o 4 (.mv (cb false))] [2, 3])
 (.seq (.ops [o 5 (.fadr 0 (.t 3)), o 6 (.ld false 1 (.t 5)), o 7 (.fadr 0 (.t 2)), o 8 (.ld false 1 (.t 7)), o 9 (.bin .lss (.t 6) (.t 8)), mt 4 9] [4])
 (.ret))⟩

def c198 : AFunc := ⟨20, [.tmp 4],
 .seq (.ops [o 2 (.box true (.t 0)), o 3 (.box true (.t 1)), o 4 (.mv (cb false))] [2, 3])
 (.seq (.ops [o 6 (.slca 4 10 (.g 0) none none), o 7 (.mkclo 200 [] [.t 3]), o 8 (.call true true 0 (.fn 199) [.t 6, .t 7]), mt 5 8] [2, 3, 5])
 (.seq (.opsd [(0, 1), (1, 1), (2, 1), (3, 1), (4, 1), (5, 1), (6, 1), (7, 1), (8, 1), (9, 0), (10, 1), (11, 1)] [mt 9 5, o 10 (.bin .geq (.t 9) (ci 0)), mt 11 10, ⟨some 12, .mv (.t 5), some (11, true)⟩, ⟨some 13, .iadra 4 10 (.g 0) (.t 12), some (11, true)⟩, ⟨some 14, .fadr 2 (.t 13), some (11, true)⟩, ⟨some 15, .ld false 1 (.t 14), some (11, true)⟩, ⟨some 16, .ld true 15 (.t 2), some (11, true)⟩, ⟨some 17, .ld true 6 (.t 3), some (11, true)⟩, ⟨some 18, .call false true 0 (.val (.t 15)) [.t 16, .t 17], some (11, true)⟩, o 19 (.pick (.t 11) (.t 18) (cb false)), mt 4 19] [4])
 (.ret)))⟩

def c199L0 : ACode :=
 .seq (.ops [o 9 (.bin .lss (.t 8) (.t 7))] [0, 1, 7, 8, 9])
 (.seq (.cond (.t 9)
 (.skip)
 (.exit 0))
 (.seq (.block 1 (.seq (.ops [mt 10 8, mt 5 10] [0, 1, 5, 7, 8])
 (.seq (.ops [mt 11 1, mt 12 0, mt 13 5, o 14 (.iadr 4 (.t 12) (.t 13)), o 15 (.ld true 4 (.t 14)), o 16 (.call false true 0 (.val (.t 11)) [.t 15])] [0, 1, 5, 7, 8, 16])
 (.cond (.t 16)
 (.seq (.ops [mt 17 5, mt 4 17] [4])
 (.ret))
 (.skip)))))
 (.ops [o 18 (.bin .add (.t 8) (ci 1)), mt 8 18] [0, 1, 7, 8])))
def c199 : AFunc := ⟨19, [.tmp 4],
 .seq (.ops [o 4 (.mv (ci 0))] [0, 1])
 (.seq (.seq (.ops [mt 6 0, o 7 (.len 1 (.t 6)), o 8 (.mv (ci 0))] [0, 1, 7, 8])
 (.block 0 (.loop true [0, 1, 7, 8] c199L0)))
 (.seq (.ops [o 4 (.mv (ci (-1)))] [4])
 (.ret)))⟩

def c200 : AFunc := ⟨9, [.tmp 3],
 .seq (.ops [o 2 (.box false (.t 0)), o 3 (.mv (cb false))] [1, 2])
 (.seq (.ops [o 4 (.fadr 0 (.t 2)), o 5 (.ld false 1 (.t 4)), o 6 (.fadr 1 (.t 1)), o 7 (.ld false 1 (.t 6)), o 8 (.bin .eql (.t 5) (.t 7)), mt 3 8] [3])
 (.ret))⟩

def c201 : AFunc := ⟨12, [.tmp 4],
 .seq (.ops [o 2 (.box true (.t 0)), o 3 (.box true (.t 1)), o 4 (.mv (cb false))] [2, 3])
 (.seq (.ops [o 5 (.fadr 12 (.t 2)), o 6 (.ld false 1 (.t 5)), mt 7 6, ⟨some 8, .ld true 6 (.t 3), some (7, true)⟩, ⟨some 9, .bslice false 1 zl7 3 [(0, cs [111, 112, 101, 110]), (1, cs [114, 101, 109, 111, 118, 101]), (2, cs [101, 110, 116, 101, 114])], some (7, true)⟩, ⟨some 10, .call true true 0 (.fn 111) [.t 8, .t 9], some (7, true)⟩, o 11 (.pick (.t 7) (.t 10) (cb false)), mt 4 11] [4])
 (.ret))⟩

def c202 : AFunc := ⟨25, [.tmp 4],
 .seq (.ops [o 2 (.box true (.t 0)), o 3 (.box true (.t 1)), o 4 (.mv (cb false))] [2, 3])
 (.seq (.ops [o 5 (.ld true 6 (.t 3)), o 6 (.bslice false 1 zl7 2 [(0, cs [101, 110, 116, 101, 114]), (1, cs [108, 101, 97, 118, 101])]), o 7 (.call true true 0 (.fn 111) [.t 5, .t 6]), mt 8 7, ⟨some 9, .fadr 2 (.t 3), some (8, true)⟩, ⟨some 10, .ld false 1 (.t 9), some (8, true)⟩, ⟨some 11, .fadr 1 (.t 2), some (8, true)⟩, ⟨some 12, .iadra 1 8 (.t 11) (.t 10), some (8, true)⟩, ⟨some 13, .ld false 1 (.t 12), some (8, true)⟩, ⟨some 14, .not (.t 13), some (8, true)⟩, o 15 (.pick (.t 8) (.t 14) (cb false)), mt 16 15, ⟨some 17, .ld true 6 (.t 3), some (16, false)⟩, ⟨some 18, .bslice false 1 zl7 1 [(0, cs [97, 114, 109])], some (16, false)⟩, ⟨some 19, .call true true 0 (.fn 111) [.t 17, .t 18], some (16, false)⟩, ⟨some 20, .mv (.t 19), some (16, false)⟩, ⟨some 21, .ld true 15 (.t 2), some (20, true)⟩, ⟨some 22, .call true true 0 (.fn 172) [.t 21], some (20, true)⟩, ⟨some 23, .pick (.t 20) (.t 22) (cb false), some (16, false)⟩, o 24 (.pick (.t 16) (cb true) (.t 23)), mt 4 24] [4])
 (.ret))⟩

def c203 : AFunc := ⟨13, [.tmp 4],
 .seq (.ops [o 2 (.box true (.t 0)), o 3 (.box true (.t 1)), o 4 (.mv (cb false))] [2, 3])
 (.seq (.ops [o 5 (.ld true 6 (.t 3)), o 6 (.bslice false 1 zl7 1 [(0, cs [97, 114, 109])]), o 7 (.call true true 0 (.fn 111) [.t 5, .t 6]), mt 8 7, ⟨some 9, .fadr 11 (.t 2), some (8, true)⟩, ⟨some 10, .ld false 1 (.t 9), some (8, true)⟩, ⟨some 11, .bin .gtr (.t 10) (ci 0), some (8, true)⟩, o 12 (.pick (.t 8) (.t 11) (cb false)), mt 4 12] [4])
 (.ret))⟩

def c204 : AFunc := ⟨14, [.tmp 4],
 .seq (.ops [o 2 (.box true (.t 0)), o 3 (.box true (.t 1)), o 4 (.mv (cb false))] [2, 3])
 (.seq (.ops [o 5 (.ld true 6 (.t 3)), o 6 (.bslice false 1 zl7 1 [(0, cs [97, 114, 109])]), o 7 (.call true true 0 (.fn 111) [.t 5, .t 6]), mt 8 7, ⟨some 9, .fadr 9 (.t 2), some (8, true)⟩, ⟨some 10, .ld true 2 (.t 9), some (8, true)⟩, ⟨some 11, .build [.p (.bool false), .p (.bool false)] [(0, 1, cb true), (1, 1, cb true)], some (8, true)⟩, ⟨some 12, .eqagg [2, 2] true (.t 10) (.t 11), some (8, true)⟩, o 13 (.pick (.t 8) (.t 12) (cb false)), mt 4 13] [4])
 (.ret))⟩

def c205 : AFunc := ⟨15, [.tmp 4],
 .seq (.ops [o 2 (.box true (.t 0)), o 3 (.box true (.t 1)), o 4 (.mv (cb false))] [2, 3])
 (.seq (.ops [o 5 (.ld true 6 (.t 3)), o 6 (.bslice false 1 zl7 3 [(0, cs [111, 112, 101, 110]), (1, cs [101, 110, 116, 101, 114]), (2, cs [97, 114, 109])]), o 7 (.call true true 0 (.fn 111) [.t 5, .t 6]), mt 8 7, ⟨some 9, .ld true 15 (.t 2), some (8, true)⟩, ⟨some 10, .fadr 0 (.t 3), some (8, true)⟩, ⟨some 11, .ld false 1 (.t 10), some (8, true)⟩, ⟨some 12, .call true true 0 (.fn 206) [.t 9, .t 11], some (8, true)⟩, ⟨some 13, .not (.t 12), some (8, true)⟩, o 14 (.pick (.t 8) (.t 13) (cb false)), mt 4 14] [4])
 (.ret))⟩

def c206 : AFunc := ⟨14, [.tmp 4],
 .seq (.ops [o 2 (.box true (.t 0)), o 4 (.mv (cb false))] [1, 2])
 (.seq (.ops [o 5 (.fadr 14 (.t 2)), o 6 (.ld false 1 (.t 5)), o 7 (.bin .neq (.t 6) (ci (-1))), mt 8 7, ⟨some 9, .fadr 14 (.t 2), some (8, true)⟩, ⟨some 10, .ld false 1 (.t 9), some (8, true)⟩, ⟨some 11, .mv (.t 1), some (8, true)⟩, ⟨some 12, .bin .leq (.t 10) (.t 11), some (8, true)⟩, o 13 (.pick (.t 8) (.t 12) (cb false)), mt 4 13] [4])
 (.ret))⟩


def FT : Tr := (.node 105 c105 (.node 50 c50 (.node 17 c17 (.node 11 c11 (.node 8 c8 (.node 7 c7 (.node 3 c3 .leaf .leaf) .leaf) (.node 10 c10 (.node 9 c9 .leaf .leaf) .leaf)) (.node 14 c14 (.node 13 c13 (.node 12 c12 .leaf .leaf) .leaf) (.node 16 c16 (.node 15 c15 .leaf .leaf) .leaf))) (.node 44 c44 (.node 20 c20 (.node 19 c19 (.node 18 c18 .leaf .leaf) .leaf) (.node 43 c43 (.node 21 c21 .leaf .leaf) .leaf)) (.node 47 c47 (.node 46 c46 (.node 45 c45 .leaf .leaf) .leaf) (.node 49 c49 (.node 48 c48 .leaf .leaf) .leaf)))) (.node 62 c62 (.node 56 c56 (.node 53 c53 (.node 52 c52 (.node 51 c51 .leaf .leaf) .leaf) (.node 55 c55 (.node 54 c54 .leaf .leaf) .leaf)) (.node 59 c59 (.node 58 c58 (.node 57 c57 .leaf .leaf) .leaf) (.node 61 c61 (.node 60 c60 .leaf .leaf) .leaf))) (.node 100 c100 (.node 80 c80 (.node 64 c64 (.node 63 c63 .leaf .leaf) .leaf) (.node 82 c82 (.node 81 c81 .leaf .leaf) .leaf)) (.node 103 c103 (.node 102 c102 (.node 101 c101 .leaf .leaf) .leaf) (.node 104 c104 .leaf .leaf))))) (.node 184 c184 (.node 151 c151 (.node 111 c111 (.node 108 c108 (.node 107 c107 (.node 106 c106 .leaf .leaf) .leaf) (.node 110 c110 (.node 109 c109 .leaf .leaf) .leaf)) (.node 137 c137 (.node 136 c136 (.node 135 c135 .leaf .leaf) .leaf) (.node 146 c146 (.node 145 c145 .leaf .leaf) .leaf))) (.node 178 c178 (.node 175 c175 (.node 174 c174 (.node 172 c172 .leaf .leaf) .leaf) (.node 177 c177 (.node 176 c176 .leaf .leaf) .leaf)) (.node 181 c181 (.node 180 c180 (.node 179 c179 .leaf .leaf) .leaf) (.node 183 c183 (.node 182 c182 .leaf .leaf) .leaf)))) (.node 196 c196 (.node 190 c190 (.node 187 c187 (.node 186 c186 (.node 185 c185 .leaf .leaf) .leaf) (.node 189 c189 (.node 188 c188 .leaf .leaf) .leaf)) (.node 193 c193 (.node 192 c192 (.node 191 c191 .leaf .leaf) .leaf) (.node 195 c195 (.node 194 c194 .leaf .leaf) .leaf))) (.node 202 c202 (.node 199 c199 (.node 198 c198 (.node 197 c197 .leaf .leaf) .leaf) (.node 201 c201 (.node 200 c200 .leaf .leaf) .leaf)) (.node 205 c205 (.node 204 c204 (.node 203 c203 .leaf .leaf) .leaf) (.node 206 c206 .leaf .leaf))))))
def F (n : Nat) : Option AFunc := FT.find n
end Fw
