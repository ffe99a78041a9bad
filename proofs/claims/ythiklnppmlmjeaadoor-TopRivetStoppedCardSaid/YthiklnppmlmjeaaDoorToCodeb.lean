/- The functions of the program, written for the evaluator, second part: definitions alone. -/
import Derived.Test.YthiklnppmlmjeaaDoorToCode
namespace Fw
open Go
def c87 : AFunc := ⟨11, [.tmp 6],
 .seq (.ops [o 4 (.box true (.t 1)), o 5 (.box true (.t 2)), o 6 (.mv (ci 0))] [0, 4, 5])
 (.seq (.ops [mt 7 0, o 8 (.mkclo 122 [] [.t 4, .t 5]), o 9 (.call true false 0 (.fn 121) [.t 7, .t 8]), o 10 (.call true true 0 (.fn 73) [.t 9]), mt 6 10] [6])
 (.ret))⟩

def c105L0 : ACode :=
 .seq (.ops [o 11 (.bin .lss (.t 10) (.t 9))] [1, 5, 8, 9, 10, 11])
 (.seq (.cond (.t 11)
 (.skip)
 (.exit 0))
 (.seq (.block 1 (.seq (.ops [o 12 (.iadr 1 (.t 8) (.t 10)), o 13 (.ld false 1 (.t 12)), mt 7 13] [1, 5, 7, 8, 9, 10])
 (.ops [mt 14 5, mt 15 1, mt 16 7, o 17 (.call false true 0 (.val (.t 15)) [.t 16]), o 18 (.bslice false 1 zl5 1 [(0, .t 17)]), o 19 (.app 1 8 zl5 (.t 14) (.t 18)), mt 5 19] [1, 5, 8, 9, 10])))
 (.ops [o 20 (.bin .add (.t 10) (ci 1)), mt 10 20] [1, 5, 8, 9, 10])))
def c105 : AFunc := ⟨22, [.tmp 4],
 .seq (.ops [o 4 (.mv (cn))] [0, 1])
 (.seq (.ops [o 5 (.nilown 1)] [0, 1, 5])
 (.seq (.seq (.ops [mt 8 0, o 9 (.len 1 (.t 8)), o 10 (.mv (ci 0))] [1, 5, 8, 9, 10])
 (.block 0 (.loop true [1, 5, 8, 9, 10] c105L0)))
 (.seq (.ops [mt 21 5, mt 4 21] [4])
 (.ret))))⟩

def c106L0 : ACode :=
 .seq (.ops [o 25 (.bin .lss (.t 24) (.t 23))] [4, 22, 23, 24, 25])
 (.seq (.cond (.t 25)
 (.skip)
 (.exit 0))
 (.seq (.block 1 (.seq (.ops [mt 26 24, o 27 (.iadr 2 (.t 22) (.t 24)), o 28 (.ld true 2 (.t 27)), o 6 (.alloc true 1 zl4), mt 5 26, u (.st 2 (.t 6) (.t 28))] [4, 5, 6, 22, 23, 24])
 (.seq (.seq (.opsd [(0, 1), (1, 1), (2, 1), (3, 1), (4, 1), (6, 1), (7, 1), (5, 0), (8, 1), (9, 1), (10, 1), (11, 1), (12, 1), (13, 1), (14, 1), (15, 1), (16, 1), (17, 1), (18, 1), (19, 1), (20, 1), (21, 1), (22, 1), (23, 1), (24, 1), (25, 1), (26, 1), (27, 0), (28, 0), (29, 0), (30, 1)] [o 29 (.fadr 0 (.t 6)), o 30 (.ld false 1 (.t 29)), o 31 (.call true true 0 (.fn 80) [.t 30, ci 0, ci 100000]), o 32 (.fadr 1 (.t 6)), o 33 (.ld false 1 (.t 32)), mt 35 5, o 36 (.bin .eql (.t 35) (ci 0)), o 34 (.call true true 0 (.fn 80) [.t 33, ci 0, ci 1000000]), mt 37 36, ⟨some 38, .fadr 0 (.t 6), some (37, true)⟩, ⟨some 39, .ld false 1 (.t 38), some (37, true)⟩, ⟨some 40, .bin .neq (.t 39) (ci 0), some (37, true)⟩, o 41 (.pick (.t 37) (.t 40) (cb false)), mt 42 41, ⟨some 43, .fadr 0 (.t 6), some (42, false)⟩, ⟨some 44, .ld false 1 (.t 43), some (42, false)⟩, ⟨some 45, .fadr 0 (.t 4), some (42, false)⟩, ⟨some 46, .ld false 1 (.t 45), some (42, false)⟩, ⟨some 47, .bin .leq (.t 44) (.t 46), some (42, false)⟩, o 48 (.pick (.t 42) (cb true) (.t 47)), mt 49 48, ⟨some 50, .fadr 1 (.t 6), some (49, false)⟩, ⟨some 51, .ld false 1 (.t 50), some (49, false)⟩, ⟨some 52, .fadr 1 (.t 4), some (49, false)⟩, ⟨some 53, .ld false 1 (.t 52), some (49, false)⟩, ⟨some 54, .bin .lss (.t 51) (.t 53), some (49, false)⟩, o 55 (.pick (.t 49) (cb true) (.t 54)), o 56 (.call true true 0 (.fn 81) [.t 55, ci 11]), o 57 (.bslice false 1 zl5 3 [(0, .t 31), (1, .t 34), (2, .t 56)]), o 58 (.call true true 0 (.fn 56) [.t 57]), mt 7 58] [4, 6, 7, 22, 23, 24])
 (.seq (.ops [mt 59 7, o 60 (.bin .neq (.t 59) (ci 0))] [4, 6, 7, 22, 23, 24, 60])
 (.cond (.t 60)
 (.seq (.ops [mt 61 7, mt 2 61] [2])
 (.ret))
 (.skip))))
 (.ops [o 62 (.ld true 2 (.t 6)), u (.st 2 (.t 4) (.t 62))] [4, 22, 23, 24]))))
 (.ops [o 63 (.bin .add (.t 24) (ci 1)), mt 24 63] [4, 22, 23, 24])))
def c106 : AFunc := ⟨64, [.tmp 2],
 .seq (.ops [o 2 (.mv (ci 0))] [0])
 (.seq (.seq (.ops [mt 8 0, o 9 (.len 1 (.t 8)), o 10 (.bin .eql (.t 9) (ci 0)), o 11 (.call true true 0 (.fn 81) [.t 10, ci 12]), mt 12 0, o 13 (.len 1 (.t 12)), o 14 (.bin .gtr (.t 13) (ci 8)), o 15 (.call true true 0 (.fn 81) [.t 14, ci 5]), o 16 (.bslice false 1 zl5 2 [(0, .t 11), (1, .t 15)]), o 17 (.call true true 0 (.fn 56) [.t 16]), mt 3 17] [0, 3])
 (.seq (.ops [mt 18 3, o 19 (.bin .neq (.t 18) (ci 0))] [0, 3, 19])
 (.cond (.t 19)
 (.seq (.ops [mt 20 3, mt 2 20] [2])
 (.ret))
 (.skip))))
 (.seq (.ops [o 21 (.build zl4 [(0, 1, ci (-1)), (1, 1, ci 0)]), o 4 (.alloc true 1 zl4), u (.st 2 (.t 4) (.t 21))] [0, 4])
 (.seq (.seq (.ops [mt 22 0, o 23 (.len 1 (.t 22)), o 24 (.mv (ci 0))] [4, 22, 23, 24])
 (.block 0 (.loop true [4, 22, 23, 24] c106L0)))
 (.seq (.ops [o 2 (.mv (ci 0))] [2])
 (.ret)))))⟩

def c107 : AFunc := ⟨5, [.tmp 2],
 .seq (.ops [o 2 (.mv (ci 0))] [0])
 (.seq (.ops [mt 3 0, o 4 (.call true true 0 (.fn 80) [.t 3, ci 0, ci 100000]), mt 2 4] [2])
 (.ret))⟩

def c108 : AFunc := ⟨6, [.tmp 4],
 .seq (.ops [o 2 (.box false (.t 0)), o 3 (.box false (.t 1)), o 4 (.mv (.c (.p (.nilf))))] [2, 3])
 (.seq (.ops [o 5 (.mkclo 135 [] [.t 3, .t 2]), mt 4 5] [4])
 (.ret))⟩

def c109 : AFunc := ⟨2, [.cell 0 true 15],
 .seq (.ops [o 0 (.alloc true 1 zl0)] [0])
 (.seq (.ops [o 1 (.build zl0 [(13, 1, ci (-1))]), u (.st 15 (.t 0) (.t 1))] [0])
 (.ret))⟩

def c110L0 : ACode :=
 .seq (.ops [o 7 (.bin .lss (.t 6) (ci 10))] [1, 5, 6, 7])
 (.seq (.cond (.t 7)
 (.skip)
 (.exit 0))
 (.seq (.block 1 (.seq (.ops [mt 8 6, o 9 (.idx true 4 10 (.t 5) (.t 6)), o 3 (.alloc false 1 [.p (.str []), .p (.nilf), .p (.nilf), .p (.nilf)]), mt 2 8, u (.st 4 (.t 3) (.t 9))] [1, 2, 3, 5, 6])
 (.ops [mt 10 1, o 11 (.fadr 0 (.t 3)), o 12 (.ld false 1 (.t 11)), mt 13 2, u (.mupd 1 (.t 10) (.t 12) (.t 13))] [1, 5, 6])))
 (.ops [o 14 (.bin .add (.t 6) (ci 1)), mt 6 14] [1, 5, 6])))
def c110 : AFunc := ⟨16, [.tmp 0],
 .seq (.ops [o 0 (.mv (.c (.p (.nilm))))] [])
 (.seq (.ops [o 4 (.mkmap), mt 1 4] [1])
 (.seq (.seq (.ops [o 5 (.ld true 40 (.g 0)), o 6 (.mv (ci 0))] [1, 5, 6])
 (.block 0 (.loop true [1, 5, 6] c110L0)))
 (.seq (.ops [mt 15 1, mt 0 15] [0])
 (.ret))))⟩

def c111 : AFunc := ⟨9, [.tmp 4],
 .seq (.ops [o 2 (.box true (.t 0)), o 4 (.mv (cb false))] [1, 2])
 (.seq (.ops [mt 5 1, o 6 (.fadr 1 (.t 2)), o 7 (.ld false 1 (.t 6)), o 8 (.call true true 0 (.fn 137) [.t 5, .t 7]), mt 4 8] [4])
 (.ret))⟩

def c112L0 : ACode :=
 .seq (.seq (.ops [mt 9 7, mt 10 0, o 11 (.len 1 (.t 10)), o 12 (.bin .lss (.t 9) (.t 11))] [0, 1, 2, 7, 12])
 (.cond (.t 12)
 (.skip)
 (.exit 0)))
 (.seq (.block 1 (.seq (.ops [mt 15 0, mt 16 7, o 17 (.iadr 1 (.t 15) (.t 16)), o 18 (.ld false 1 (.t 17)), mt 19 1, mt 20 2, o 21 (.call true true 0 (.fn 44) [.t 18, .t 19, .t 20]), mt 8 21] [0, 1, 2, 7, 8])
 (.seq (.ops [mt 22 8, o 23 (.bin .neq (.t 22) (ci 0))] [0, 1, 2, 7, 8, 23])
 (.cond (.t 23)
 (.seq (.ops [mt 24 8, mt 6 24] [6])
 (.ret))
 (.skip)))))
 (.ops [mt 13 7, o 14 (.bin .add (.t 13) (ci 1)), mt 7 14] [0, 1, 2, 7]))
def c112 : AFunc := ⟨25, [.tmp 6],
 .seq (.ops [o 6 (.mv (ci 0))] [0, 1, 2])
 (.seq (.seq (.ops [o 7 (.mv (ci 0))] [0, 1, 2, 7])
 (.block 0 (.loop false [0, 1, 2, 7] c112L0)))
 (.seq (.ops [o 6 (.mv (ci 0))] [6])
 (.ret)))⟩

def c113 : AFunc := ⟨25, [.tmp 6],
 .seq (.ops [o 3 (.box true (.t 0)), o 6 (.mv (ci 0))] [1, 2, 3])
 (.seq (.opsd [(0, 1), (1, 1), (2, 1), (3, 1), (4, 1), (5, 1), (6, 1), (7, 1), (8, 1), (9, 1), (10, 1), (11, 1), (12, 1), (13, 1), (14, 1), (15, 0), (16, 0), (17, 0), (18, 1)] [o 7 (.fadr 0 (.t 3)), o 8 (.ld false 1 (.t 7)), mt 9 1, mt 10 2, o 11 (.call true true 0 (.fn 44) [.t 8, .t 9, .t 10]), o 12 (.fadr 1 (.t 3)), o 13 (.ld false 1 (.t 12)), mt 14 1, mt 15 2, o 16 (.call true true 0 (.fn 44) [.t 13, .t 14, .t 15]), o 17 (.fadr 0 (.t 3)), o 18 (.ld false 1 (.t 17)), o 19 (.fadr 1 (.t 3)), o 20 (.ld false 1 (.t 19)), o 21 (.bin .gtr (.t 18) (.t 20)), o 22 (.call true true 0 (.fn 47) [.t 21, ci 11]), o 23 (.bslice false 1 zl5 3 [(0, .t 11), (1, .t 16), (2, .t 22)]), o 24 (.call true true 0 (.fn 43) [.t 23]), mt 6 24] [6])
 (.ret))⟩

def c114L0 : ACode :=
 .seq (.seq (.ops [mt 19 6, mt 20 1, o 21 (.len 1 (.t 20)), o 22 (.bin .lss (.t 19) (.t 21))] [1, 2, 6, 22])
 (.cond (.t 22)
 (.skip)
 (.exit 0)))
 (.seq (.block 1 (.seq (.opsd [(0, 1), (1, 1), (2, 1), (3, 1), (4, 1), (5, 0), (6, 1)] [o 25 (.ld true 5 (.t 2)), mt 26 1, mt 27 6, o 28 (.iadr 6 (.t 26) (.t 27)), o 29 (.ld true 6 (.t 28)), o 30 (.call true true 0 (.fn 138) [.t 25, .t 29]), mt 7 30] [1, 2, 6, 7])
 (.seq (.ops [mt 31 7, o 32 (.bin .neq (.t 31) (ci 0))] [1, 2, 6, 7, 32])
 (.cond (.t 32)
 (.seq (.ops [mt 33 7, mt 4 33] [4])
 (.ret))
 (.skip)))))
 (.ops [mt 23 6, o 24 (.bin .add (.t 23) (ci 1)), mt 6 24] [1, 2, 6]))
def c114 : AFunc := ⟨34, [.tmp 4],
 .seq (.ops [o 2 (.box false (.t 0)), o 4 (.mv (ci 0))] [1, 2])
 (.seq (.seq (.ops [o 8 (.ld true 5 (.t 2)), o 9 (.call true true 0 (.fn 8) [.t 8]), mt 10 1, o 11 (.len 1 (.t 10)), o 12 (.bin .gtr (.t 11) (ci 1000)), o 13 (.call true true 0 (.fn 47) [.t 12, ci 5]), o 14 (.bslice false 1 zl5 2 [(0, .t 9), (1, .t 13)]), o 15 (.call true true 0 (.fn 43) [.t 14]), mt 5 15] [1, 2, 5])
 (.seq (.ops [mt 16 5, o 17 (.bin .neq (.t 16) (ci 0))] [1, 2, 5, 17])
 (.cond (.t 17)
 (.seq (.ops [mt 18 5, mt 4 18] [4])
 (.ret))
 (.skip))))
 (.seq (.seq (.ops [o 6 (.mv (ci 0))] [1, 2, 6])
 (.block 0 (.loop false [1, 2, 6] c114L0)))
 (.seq (.ops [o 4 (.mv (ci 0))] [4])
 (.ret))))⟩

def c115L0 : ACode :=
 .seq (.seq (.ops [mt 10 8, mt 11 1, o 12 (.len 1 (.t 11)), o 13 (.bin .lss (.t 10) (.t 12))] [1, 2, 6, 7, 8, 13])
 (.cond (.t 13)
 (.skip)
 (.exit 0)))
 (.seq (.block 1 (.seq (.seq (.opsd [(0, 1), (1, 1), (2, 1), (3, 1), (4, 1), (5, 0), (6, 1), (7, 1)] [o 16 (.ld true 15 (.t 7)), mt 17 1, mt 18 8, o 19 (.iadr 6 (.t 17) (.t 18)), o 20 (.ld true 6 (.t 19)), o 21 (.call true false 0 (.fn 140) [.t 16, .t 20]), o 22 (.len 1 (.t 21)), o 23 (.bin .gtr (.t 22) (ci 0))] [1, 2, 6, 7, 8, 23])
 (.cond (.t 23)
 (.seq (.ops [mt 24 6, mt 25 8, mt 4 24, mt 5 25] [4, 5])
 (.ret))
 (.skip)))
 (.seq (.opsd [(0, 1), (1, 1), (2, 1), (3, 1), (4, 1), (5, 1), (6, 0), (7, 0)] [o 26 (.ld true 5 (.t 2)), o 27 (.ld true 15 (.t 7)), mt 28 1, mt 29 8, o 30 (.iadr 6 (.t 28) (.t 29)), o 31 (.ld true 6 (.t 30)), o 32 (.call true true 0 (.fn 141) [.t 26, .t 27, .t 31]), u (.st 15 (.t 7) (.t 32))] [1, 2, 6, 7, 8])
 (.ops [mt 33 6, o 34 (.ld true 15 (.t 7)), o 35 (.bslice false 15 zl0 1 [(0, .t 34)]), o 36 (.app 15 56 zl0 (.t 33) (.t 35)), mt 6 36] [1, 2, 6, 7, 8]))))
 (.ops [mt 14 8, o 15 (.bin .add (.t 14) (ci 1)), mt 8 15] [1, 2, 6, 7, 8]))
def c115 : AFunc := ⟨38, [.tmp 4, .tmp 5],
 .seq (.ops [o 2 (.box false (.t 0)), o 4 (.mv (cn)), o 5 (.mv (ci 0))] [1, 2])
 (.seq (.ops [o 6 (.nilown 15)] [1, 2, 6])
 (.seq (.ops [o 9 (.call true true 0 (.fn 139) []), o 7 (.alloc true 1 zl0), u (.st 15 (.t 7) (.t 9))] [1, 2, 6, 7])
 (.seq (.seq (.ops [o 8 (.mv (ci 0))] [1, 2, 6, 7, 8])
 (.block 0 (.loop false [1, 2, 6, 7, 8] c115L0)))
 (.seq (.ops [mt 37 6, mt 4 37, o 5 (.mv (ci (-1)))] [4, 5])
 (.ret)))))⟩

def c116 : AFunc := ⟨25, [.tmp 6],
 .seq (.ops [o 3 (.box true (.t 0)), o 6 (.mv (ci 0))] [1, 2, 3])
 (.seq (.opsd [(0, 1), (1, 1), (2, 1), (3, 1), (4, 1), (5, 1), (6, 1), (7, 1), (8, 1), (9, 1), (10, 1), (11, 1), (12, 1), (13, 1), (14, 1), (15, 0), (16, 0), (17, 0), (18, 1)] [o 7 (.fadr 0 (.t 3)), o 8 (.ld false 1 (.t 7)), mt 9 1, mt 10 2, o 11 (.call true true 0 (.fn 117) [.t 8, .t 9, .t 10]), o 12 (.fadr 1 (.t 3)), o 13 (.ld false 1 (.t 12)), mt 14 1, mt 15 2, o 16 (.call true true 0 (.fn 117) [.t 13, .t 14, .t 15]), o 17 (.fadr 0 (.t 3)), o 18 (.ld false 1 (.t 17)), o 19 (.fadr 1 (.t 3)), o 20 (.ld false 1 (.t 19)), o 21 (.bin .gtr (.t 18) (.t 20)), o 22 (.call true true 0 (.fn 78) [.t 21, ci 11]), o 23 (.bslice false 1 zl5 3 [(0, .t 11), (1, .t 16), (2, .t 22)]), o 24 (.call true true 0 (.fn 73) [.t 23]), mt 6 24] [6])
 (.ret))⟩

def c117 : AFunc := ⟨16, [.tmp 6],
 .seq (.ops [o 6 (.mv (ci 0))] [0, 1, 2])
 (.seq (.ops [mt 7 0, mt 8 1, o 9 (.bin .lss (.t 7) (.t 8)), mt 10 9, ⟨some 11, .mv (.t 0), some (10, false)⟩, ⟨some 12, .mv (.t 2), some (10, false)⟩, ⟨some 13, .bin .gtr (.t 11) (.t 12), some (10, false)⟩, o 14 (.pick (.t 10) (cb true) (.t 13)), o 15 (.call true true 0 (.fn 78) [.t 14, ci 3]), mt 6 15] [6])
 (.ret))⟩

def c118L0 : ACode :=
 .seq (.ops [o 8 (.bin .lss (.t 7) (.t 6))] [0, 1, 6, 7, 8])
 (.seq (.cond (.t 8)
 (.skip)
 (.exit 0))
 (.seq (.block 1 (.seq (.ops [mt 9 7, mt 3 9] [0, 1, 3, 6, 7])
 (.seq (.ops [o 10 (.ld true 6 (.t 1)), mt 11 3, o 12 (.call true true 0 (.fn 86) [.t 10, .t 11]), o 13 (.not (.t 12)), mt 14 13, ⟨some 15, .mv (.t 0), some (14, true)⟩, ⟨some 16, .mv (.t 3), some (14, true)⟩, ⟨some 17, .call false true 0 (.val (.t 15)) [.t 16], some (14, true)⟩, ⟨some 18, .not (.t 17), some (14, true)⟩, o 19 (.pick (.t 14) (.t 18) (cb false))] [0, 1, 6, 7, 19])
 (.cond (.t 19)
 (.ret)
 (.skip)))))
 (.ops [o 20 (.bin .add (.t 7) (ci 1)), mt 7 20] [0, 1, 6, 7])))
def c118 : AFunc := ⟨21, [],
 .seq (.ops [o 4 (.fadr 5 (.t 1)), o 5 (.ld false 1 (.t 4)), o 6 (.bin .add (.t 5) (ci 1)), o 7 (.mv (ci 0))] [0, 1, 6, 7])
 (.block 0 (.loop true [0, 1, 6, 7] c118L0))⟩

def c119 : AFunc := ⟨11, [.tmp 4],
 .seq (.ops [o 4 (.mv (ci 0))] [0, 1])
 (.seq (.ops [mt 5 0, mt 6 1, o 7 (.bin .add (.t 5) (.t 6)), o 8 (.bin .sub (.t 7) (ci 1)), mt 9 1, o 10 (.bin .quo (.t 8) (.t 9)), mt 4 10] [4])
 (.ret))⟩

def c120L0 : ACode :=
 .seq (.ops [o 9 (.bin .lss (.t 8) (.t 7))] [0, 1, 7, 8, 9])
 (.seq (.cond (.t 9)
 (.skip)
 (.exit 0))
 (.seq (.block 1 (.seq (.ops [mt 10 8, mt 5 10] [0, 1, 5, 7, 8])
 (.seq (.ops [mt 11 1, mt 12 0, mt 13 5, o 14 (.iadr 2 (.t 12) (.t 13)), o 15 (.ld true 2 (.t 14)), o 16 (.call false true 0 (.val (.t 11)) [.t 15])] [0, 1, 5, 7, 8, 16])
 (.cond (.t 16)
 (.seq (.ops [mt 17 5, mt 4 17] [4])
 (.ret))
 (.skip)))))
 (.ops [o 18 (.bin .add (.t 8) (ci 1)), mt 8 18] [0, 1, 7, 8])))
def c120 : AFunc := ⟨19, [.tmp 4],
 .seq (.ops [o 4 (.mv (ci 0))] [0, 1])
 (.seq (.seq (.ops [mt 6 0, o 7 (.len 1 (.t 6)), o 8 (.mv (ci 0))] [0, 1, 7, 8])
 (.block 0 (.loop true [0, 1, 7, 8] c120L0)))
 (.seq (.ops [o 4 (.mv (ci (-1)))] [4])
 (.ret)))⟩

def c121L0 : ACode :=
 .seq (.ops [o 11 (.bin .lss (.t 10) (.t 9))] [1, 5, 8, 9, 10, 11])
 (.seq (.cond (.t 11)
 (.skip)
 (.exit 0))
 (.seq (.block 1 (.seq (.ops [o 12 (.iadr 1 (.t 8) (.t 10)), o 13 (.ld false 1 (.t 12)), mt 7 13] [1, 5, 7, 8, 9, 10])
 (.ops [mt 14 5, mt 15 1, mt 16 7, o 17 (.call false true 0 (.val (.t 15)) [.t 16]), o 18 (.bslice false 1 zl5 1 [(0, .t 17)]), o 19 (.app 1 8 zl5 (.t 14) (.t 18)), mt 5 19] [1, 5, 8, 9, 10])))
 (.ops [o 20 (.bin .add (.t 10) (ci 1)), mt 10 20] [1, 5, 8, 9, 10])))
def c121 : AFunc := ⟨22, [.tmp 4],
 .seq (.ops [o 4 (.mv (cn))] [0, 1])
 (.seq (.ops [o 5 (.nilown 1)] [0, 1, 5])
 (.seq (.seq (.ops [mt 8 0, o 9 (.len 1 (.t 8)), o 10 (.mv (ci 0))] [1, 5, 8, 9, 10])
 (.block 0 (.loop true [1, 5, 8, 9, 10] c121L0)))
 (.seq (.ops [mt 21 5, mt 4 21] [4])
 (.ret))))⟩

def c122 : AFunc := ⟨9, [.tmp 4],
 .seq (.ops [o 4 (.mv (ci 0))] [0, 1, 2])
 (.seq (.ops [mt 5 0, o 6 (.ld false 1 (.t 1)), o 7 (.ld false 1 (.t 2)), o 8 (.call true true 0 (.fn 117) [.t 5, .t 6, .t 7]), mt 4 8] [4])
 (.ret))⟩

def c135L0 : ACode :=
 .seq (.ops [o 11 (.bin .lss (.t 10) (.t 9))] [0, 2, 4, 8, 9, 10, 11])
 (.seq (.cond (.t 11)
 (.skip)
 (.exit 0))
 (.seq (.block 1 (.seq (.ops [mt 12 10, o 13 (.iadr 6 (.t 8) (.t 10)), o 14 (.ld true 6 (.t 13)), o 6 (.alloc true 1 zl1), mt 5 12, u (.st 6 (.t 6) (.t 14))] [0, 2, 4, 5, 6, 8, 9, 10])
 (.seq (.seq (.ops [o 15 (.ld true 15 (.t 4)), o 16 (.ld true 6 (.t 6)), o 17 (.call true false 0 (.fn 64) [.t 15, .t 16]), o 18 (.len 1 (.t 17)), o 19 (.bin .gtr (.t 18) (ci 0))] [0, 2, 4, 5, 6, 8, 9, 10, 19])
 (.cond (.t 19)
 (.ret)
 (.skip)))
 (.seq (.ops [o 20 (.ld true 15 (.t 4)), o 21 (.ld true 5 (.t 2)), o 22 (.ld true 6 (.t 6)), o 23 (.call true true 0 (.fn 136) [.t 20, .t 21, .t 22]), u (.st 15 (.t 4) (.t 23))] [0, 2, 4, 5, 8, 9, 10])
 (.seq (.ops [mt 24 0, mt 25 5, o 26 (.ld true 15 (.t 4)), o 27 (.call false true 0 (.val (.t 24)) [.t 25, .t 26]), o 28 (.not (.t 27))] [0, 2, 4, 8, 9, 10, 28])
 (.cond (.t 28)
 (.ret)
 (.skip)))))))
 (.ops [o 29 (.bin .add (.t 10) (ci 1)), mt 10 29] [0, 2, 4, 8, 9, 10])))
def c135 : AFunc := ⟨30, [],
 .seq (.ops [o 7 (.call true true 0 (.fn 109) []), o 4 (.alloc true 1 zl0), u (.st 15 (.t 4) (.t 7))] [0, 1, 2, 4])
 (.seq (.ops [o 8 (.ld false 1 (.t 1)), o 9 (.len 1 (.t 8)), o 10 (.mv (ci 0))] [0, 2, 4, 8, 9, 10])
 (.block 0 (.loop true [0, 2, 4, 8, 9, 10] c135L0)))⟩

def c136 : AFunc := ⟨21, [.cell 6 true 15],
 .seq (.ops [o 3 (.box true (.t 0)), o 4 (.box false (.t 1)), o 5 (.box true (.t 2)), o 6 (.alloc true 1 zl0)] [3, 4, 5, 6])
 (.seq (.ops [o 7 (.fadr 0 (.t 5)), o 8 (.ld false 1 (.t 7)), o 9 (.fadr 0 (.t 3)), u (.st 1 (.t 9) (.t 8))] [3, 4, 5, 6])
 (.seq (.opsd [(0, 1), (1, 1), (2, 1), (3, 1), (4, 1), (5, 1), (6, 1), (7, 1), (8, 1), (9, 0)] [o 10 (.call true false 0 (.fn 110) []), o 11 (.fadr 1 (.t 5)), o 12 (.ld false 1 (.t 11)), o 13 (.lkup 1 (.p (.int .i64 0)) (.t 10) (.t 12) false), o 14 (.iadra 4 10 (.g 0) (.t 13)), o 15 (.fadr 3 (.t 14)), o 16 (.ld false 1 (.t 15)), o 17 (.ld true 5 (.t 4)), o 18 (.ld true 6 (.t 5)), o 19 (.call false true 0 (.val (.t 16)) [.t 17, .t 3, .t 18])] [3, 6])
 (.seq (.ops [o 20 (.ld true 15 (.t 3)), u (.st 15 (.t 6) (.t 20))] [6])
 (.ret))))⟩

def c137 : AFunc := ⟨9, [.tmp 4],
 .seq (.ops [o 4 (.mv (cb false))] [0, 1])
 (.seq (.ops [mt 5 0, mt 6 1, o 7 (.call true true 0 (.fn 151) [.t 5, .t 6]), o 8 (.bin .geq (.t 7) (ci 0)), mt 4 8] [4])
 (.ret))⟩

def c138 : AFunc := ⟨50, [.tmp 4],
 .seq (.ops [o 2 (.box false (.t 0)), o 3 (.box true (.t 1)), o 4 (.mv (ci 0))] [2, 3])
 (.seq (.seq (.opsd [(0, 1), (1, 1), (2, 1), (3, 1), (4, 1), (5, 1), (6, 0), (7, 1), (8, 0), (9, 0), (10, 0), (11, 1)] [o 7 (.fadr 0 (.t 3)), o 8 (.ld false 1 (.t 7)), o 9 (.call true true 0 (.fn 44) [.t 8, ci 0, ci 100000000]), o 10 (.call true false 0 (.fn 152) []), o 11 (.fadr 1 (.t 3)), o 12 (.ld false 1 (.t 11)), o 13 (.call true true 0 (.fn 21) [.t 10, .t 12]), o 14 (.not (.t 13)), o 15 (.call true true 0 (.fn 47) [.t 14, ci 13]), o 16 (.bslice false 1 zl5 2 [(0, .t 9), (1, .t 15)]), o 17 (.call true true 0 (.fn 43) [.t 16]), mt 5 17] [2, 3, 5])
 (.seq (.ops [mt 18 5, o 19 (.bin .neq (.t 18) (ci 0))] [2, 3, 5, 19])
 (.cond (.t 19)
 (.seq (.ops [mt 20 5, mt 4 20] [4])
 (.ret))
 (.skip))))
 (.seq (.ops [o 6 (.mv (ci 0))] [2, 3, 6])
 (.seq (.seq (.ops [o 21 (.fadr 1 (.t 3)), o 22 (.ld false 1 (.t 21)), o 23 (.call true true 0 (.fn 153) [.t 22])] [2, 3, 6, 23])
 (.cond (.t 23)
 (.ops [o 24 (.fadr 0 (.t 2)), o 25 (.ld false 1 (.t 24)), o 26 (.bin .sub (.t 25) (ci 1)), mt 6 26] [3, 6])
 (.skip)))
 (.seq (.seq (.ops [o 27 (.fadr 1 (.t 3)), o 28 (.ld false 1 (.t 27)), o 29 (.call true true 0 (.fn 154) [.t 28])] [3, 6, 29])
 (.cond (.t 29)
 (.ops [o 6 (.mv (ci 1))] [3, 6])
 (.skip)))
 (.seq (.seq (.ops [o 30 (.fadr 2 (.t 3)), o 31 (.ld false 1 (.t 30)), o 32 (.bin .lss (.t 31) (ci 0)), mt 33 32, ⟨some 34, .fadr 2 (.t 3), some (33, false)⟩, ⟨some 35, .ld false 1 (.t 34), some (33, false)⟩, ⟨some 36, .mv (.t 6), some (33, false)⟩, ⟨some 37, .bin .gtr (.t 35) (.t 36), some (33, false)⟩, o 38 (.pick (.t 33) (cb true) (.t 37))] [3, 38])
 (.cond (.t 38)
 (.seq (.ops [o 4 (.mv (ci 10))] [4])
 (.ret))
 (.skip)))
 (.seq (.seq (.ops [o 39 (.fadr 1 (.t 3)), o 40 (.ld false 1 (.t 39)), o 41 (.bin .eql (.t 40) (cs [109, 101, 97, 115, 117, 114, 101]))] [3, 41])
 (.cond (.t 41)
 (.seq (.ops [o 42 (.fadr 3 (.t 3)), o 43 (.ld true 3 (.t 42)), o 44 (.call true true 0 (.fn 15) [.t 43]), mt 4 44] [4])
 (.ret))
 (.skip)))
 (.seq (.ops [o 45 (.fadr 3 (.t 3)), o 46 (.ld true 3 (.t 45)), o 47 (.build [.p (.int .i64 0), .p (.int .i64 0), .p (.int .i64 0)] []), o 48 (.eqagg [0, 0, 0] true (.t 46) (.t 47)), o 49 (.call true true 0 (.fn 47) [.t 48, ci 1]), mt 4 49] [4])
 (.ret))))))))⟩

def c139 : AFunc := ⟨2, [.cell 0 true 15],
 .seq (.ops [o 0 (.alloc true 1 zl0)] [0])
 (.seq (.ops [o 1 (.build zl0 [(13, 1, ci (-1))]), u (.st 15 (.t 0) (.t 1))] [0])
 (.ret))⟩

def c140 : AFunc := ⟨184, [.tmp 4],
 .seq (.ops [o 2 (.box true (.t 0)), o 3 (.box true (.t 1)), o 4 (.mv (cn))] [2, 3])
 (.seq (.ops [o 5 (.nilown 1)] [2, 3, 5])
 (.seq (.seq (.ops [o 7 (.fadr 0 (.t 3)), o 8 (.ld false 1 (.t 7)), o 9 (.fadr 0 (.t 2)), o 10 (.ld false 1 (.t 9)), o 11 (.bin .lss (.t 8) (.t 10))] [2, 3, 5, 11])
 (.cond (.t 11)
 (.ops [mt 12 5, o 13 (.bslice false 1 zl6 1 [(0, cs [116, 105, 99, 107])]), o 14 (.app 1 16 zl6 (.t 12) (.t 13)), mt 5 14] [2, 3, 5])
 (.skip)))
 (.seq (.ops [o 6 (.mv (cb false))] [2, 3, 5, 6])
 (.seq (.seq (.ops [o 15 (.fadr 1 (.t 3)), o 16 (.ld false 1 (.t 15))] [2, 3, 5, 6, 16])
 (.block 0 (.seq (.ops [o 18 (.bin .eql (.t 16) (cs [111, 112, 101, 110])), mt 17 18] [2, 3, 5, 6, 16, 17])
 (.cond (.t 17)
 (.ops [o 19 (.fadr 2 (.t 3)), o 20 (.ld false 1 (.t 19)), o 21 (.fadr 1 (.t 2)), o 22 (.iadra 1 8 (.t 21) (.t 20)), o 23 (.ld false 1 (.t 22)), mt 6 23] [2, 3, 5, 6])
 (.seq (.ops [o 25 (.bin .eql (.t 16) (cs [99, 108, 111, 115, 101])), mt 24 25] [2, 3, 5, 6, 16, 24])
 (.cond (.t 24)
 (.ops [o 26 (.fadr 2 (.t 3)), o 27 (.ld false 1 (.t 26)), o 28 (.fadr 1 (.t 2)), o 29 (.iadra 1 8 (.t 28) (.t 27)), o 30 (.ld false 1 (.t 29)), o 31 (.not (.t 30)), mt 6 31] [2, 3, 5, 6])
 (.seq (.ops [o 33 (.bin .eql (.t 16) (cs [105, 110, 115, 101, 114, 116])), mt 32 33] [2, 3, 5, 6, 16, 32])
 (.cond (.t 32)
 (.ops [o 34 (.fadr 2 (.t 3)), o 35 (.ld false 1 (.t 34)), o 36 (.fadr 9 (.t 2)), o 37 (.iadra 1 2 (.t 36) (.t 35)), o 38 (.ld false 1 (.t 37)), mt 6 38] [2, 3, 5, 6])
 (.seq (.ops [o 40 (.bin .eql (.t 16) (cs [114, 101, 109, 111, 118, 101])), mt 39 40] [2, 3, 5, 6, 16, 39])
 (.cond (.t 39)
 (.ops [o 41 (.fadr 2 (.t 3)), o 42 (.ld false 1 (.t 41)), o 43 (.fadr 9 (.t 2)), o 44 (.iadra 1 2 (.t 43) (.t 42)), o 45 (.ld false 1 (.t 44)), o 46 (.not (.t 45)), mt 6 46] [2, 3, 5, 6])
 (.seq (.ops [o 48 (.bin .eql (.t 16) (cs [108, 101, 97, 118, 101])), mt 47 48] [2, 3, 5, 6, 16, 47])
 (.cond (.t 47)
 (.ops [o 49 (.fadr 11 (.t 2)), o 50 (.ld false 1 (.t 49)), o 51 (.bin .eql (.t 50) (ci 0)), mt 6 51] [2, 3, 5, 6])
 (.seq (.ops [o 53 (.bin .eql (.t 16) (cs [101, 110, 116, 101, 114])), mt 52 53] [2, 3, 5, 6, 16, 52])
 (.cond (.t 52)
 (.ops [o 54 (.fadr 11 (.t 2)), o 55 (.ld false 1 (.t 54)), o 56 (.bin .eql (.t 55) (ci 100)), mt 6 56] [2, 3, 5, 6])
 (.seq (.ops [o 58 (.bin .eql (.t 16) (cs [97, 114, 109])), mt 57 58] [2, 3, 5, 6, 16, 57])
 (.cond (.t 57)
 (.ops [o 59 (.fadr 12 (.t 2)), o 60 (.ld false 1 (.t 59)), mt 6 60] [2, 3, 5, 6])
 (.seq (.seq (.ops [o 62 (.bin .eql (.t 16) (cs [100, 105, 115, 97, 114, 109])), mt 61 62] [2, 3, 5, 6, 16, 61])
 (.cond (.t 61)
 (.skip)
 (.ops [o 63 (.bin .eql (.t 16) (cs [115, 104, 111, 111, 116])), mt 61 63] [2, 3, 5, 6, 16, 61])))
 (.cond (.t 61)
 (.ops [o 64 (.fadr 12 (.t 2)), o 65 (.ld false 1 (.t 64)), o 66 (.not (.t 65)), mt 6 66] [2, 3, 5, 6])
 (.seq (.ops [o 68 (.bin .eql (.t 16) (cs [109, 101, 97, 115, 117, 114, 101])), mt 67 68] [2, 3, 5, 6, 67])
 (.cond (.t 67)
 (.ops [o 69 (.fadr 13 (.t 2)), o 70 (.ld false 1 (.t 69)), o 71 (.bin .eql (.t 70) (ci (-1))), mt 6 71] [2, 3, 5, 6])
 (.skip)))))))))))))))))))))
 (.seq (.seq (.ops [mt 72 6] [2, 3, 5, 72])
 (.cond (.t 72)
 (.ops [mt 73 5, o 74 (.bslice false 1 zl6 1 [(0, cs [115, 116, 97, 116, 101])]), o 75 (.app 1 16 zl6 (.t 73) (.t 74)), mt 5 75] [2, 3, 5])
 (.skip)))
 (.seq (.seq (.ops [o 76 (.fadr 12 (.t 2)), o 77 (.ld false 1 (.t 76)), mt 78 77, ⟨some 79, .fadr 1 (.t 3), some (78, true)⟩, ⟨some 80, .ld false 1 (.t 79), some (78, true)⟩, ⟨some 81, .bin .eql (.t 80) (cs [111, 112, 101, 110]), some (78, true)⟩, ⟨some 82, .mv (.t 81), some (78, true)⟩, ⟨some 83, .fadr 1 (.t 3), some (82, false)⟩, ⟨some 84, .ld false 1 (.t 83), some (82, false)⟩, ⟨some 85, .bin .eql (.t 84) (cs [114, 101, 109, 111, 118, 101]), some (82, false)⟩, ⟨some 86, .pick (.t 82) (cb true) (.t 85), some (78, true)⟩, ⟨some 87, .mv (.t 86), some (78, true)⟩, ⟨some 88, .fadr 1 (.t 3), some (87, false)⟩, ⟨some 89, .ld false 1 (.t 88), some (87, false)⟩, ⟨some 90, .bin .eql (.t 89) (cs [101, 110, 116, 101, 114]), some (87, false)⟩, ⟨some 91, .pick (.t 87) (cb true) (.t 90), some (78, true)⟩, o 92 (.pick (.t 78) (.t 91) (cb false))] [2, 3, 5, 92])
 (.cond (.t 92)
 (.ops [mt 93 5, o 94 (.bslice false 1 zl6 1 [(0, cs [97, 114, 109, 101, 100])]), o 95 (.app 1 16 zl6 (.t 93) (.t 94)), mt 5 95] [2, 3, 5])
 (.skip)))
 (.seq (.seq (.ops [o 96 (.fadr 1 (.t 3)), o 97 (.ld false 1 (.t 96)), o 98 (.bin .eql (.t 97) (cs [101, 110, 116, 101, 114])), mt 99 98, ⟨some 100, .fadr 1 (.t 3), some (99, false)⟩, ⟨some 101, .ld false 1 (.t 100), some (99, false)⟩, ⟨some 102, .bin .eql (.t 101) (cs [108, 101, 97, 118, 101]), some (99, false)⟩, o 103 (.pick (.t 99) (cb true) (.t 102)), mt 104 103, ⟨some 105, .fadr 2 (.t 3), some (104, true)⟩, ⟨some 106, .ld false 1 (.t 105), some (104, true)⟩, ⟨some 107, .fadr 1 (.t 2), some (104, true)⟩, ⟨some 108, .iadra 1 8 (.t 107) (.t 106), some (104, true)⟩, ⟨some 109, .ld false 1 (.t 108), some (104, true)⟩, ⟨some 110, .not (.t 109), some (104, true)⟩, o 111 (.pick (.t 104) (.t 110) (cb false)), mt 112 111, ⟨some 113, .fadr 1 (.t 3), some (112, false)⟩, ⟨some 114, .ld false 1 (.t 113), some (112, false)⟩, ⟨some 115, .bin .eql (.t 114) (cs [97, 114, 109]), some (112, false)⟩, ⟨some 116, .mv (.t 115), some (112, false)⟩, ⟨some 117, .fadr 1 (.t 2), some (116, true)⟩, ⟨some 118, .ld true 8 (.t 117), some (116, true)⟩, ⟨some 119, .build [.p (.bool false), .p (.bool false), .p (.bool false), .p (.bool false), .p (.bool false), .p (.bool false), .p (.bool false), .p (.bool false)] [], some (116, true)⟩, ⟨some 120, .eqagg [2, 2, 2, 2, 2, 2, 2, 2] true (.t 118) (.t 119), some (116, true)⟩, ⟨some 121, .pick (.t 116) (.t 120) (cb false), some (112, false)⟩, o 122 (.pick (.t 112) (cb true) (.t 121))] [2, 3, 5, 122])
 (.cond (.t 122)
 (.ops [mt 123 5, o 124 (.bslice false 1 zl6 1 [(0, cs [100, 111, 111, 114])]), o 125 (.app 1 16 zl6 (.t 123) (.t 124)), mt 5 125] [2, 3, 5])
 (.skip)))
 (.seq (.seq (.ops [o 126 (.fadr 1 (.t 3)), o 127 (.ld false 1 (.t 126)), o 128 (.bin .eql (.t 127) (cs [97, 114, 109])), mt 129 128, ⟨some 130, .fadr 11 (.t 2), some (129, true)⟩, ⟨some 131, .ld false 1 (.t 130), some (129, true)⟩, ⟨some 132, .bin .gtr (.t 131) (ci 0), some (129, true)⟩, o 133 (.pick (.t 129) (.t 132) (cb false))] [2, 3, 5, 133])
 (.cond (.t 133)
 (.ops [mt 134 5, o 135 (.bslice false 1 zl6 1 [(0, cs [112, 101, 111, 112, 108, 101])]), o 136 (.app 1 16 zl6 (.t 134) (.t 135)), mt 5 136] [2, 3, 5])
 (.skip)))
 (.seq (.seq (.ops [o 137 (.fadr 1 (.t 3)), o 138 (.ld false 1 (.t 137)), o 139 (.bin .eql (.t 138) (cs [97, 114, 109])), mt 140 139, ⟨some 141, .fadr 9 (.t 2), some (140, true)⟩, ⟨some 142, .iadra 1 2 (.t 141) (ci 0), some (140, true)⟩, ⟨some 143, .ld false 1 (.t 142), some (140, true)⟩, ⟨some 144, .not (.t 143), some (140, true)⟩, ⟨some 145, .mv (.t 144), some (140, true)⟩, ⟨some 146, .fadr 9 (.t 2), some (145, false)⟩, ⟨some 147, .iadra 1 2 (.t 146) (ci 1), some (145, false)⟩, ⟨some 148, .ld false 1 (.t 147), some (145, false)⟩, ⟨some 149, .not (.t 148), some (145, false)⟩, ⟨some 150, .pick (.t 145) (cb true) (.t 149), some (140, true)⟩, o 151 (.pick (.t 140) (.t 150) (cb false))] [2, 3, 5, 151])
 (.cond (.t 151)
 (.ops [mt 152 5, o 153 (.bslice false 1 zl6 1 [(0, cs [107, 101, 121])]), o 154 (.app 1 16 zl6 (.t 152) (.t 153)), mt 5 154] [2, 3, 5])
 (.skip)))
 (.seq (.seq (.ops [o 155 (.fadr 1 (.t 3)), o 156 (.ld false 1 (.t 155)), o 157 (.bin .eql (.t 156) (cs [111, 112, 101, 110])), mt 158 157, ⟨some 159, .fadr 1 (.t 3), some (158, false)⟩, ⟨some 160, .ld false 1 (.t 159), some (158, false)⟩, ⟨some 161, .bin .eql (.t 160) (cs [101, 110, 116, 101, 114]), some (158, false)⟩, o 162 (.pick (.t 158) (cb true) (.t 161)), mt 163 162, ⟨some 164, .fadr 1 (.t 3), some (163, false)⟩, ⟨some 165, .ld false 1 (.t 164), some (163, false)⟩, ⟨some 166, .bin .eql (.t 165) (cs [97, 114, 109]), some (163, false)⟩, o 167 (.pick (.t 163) (cb true) (.t 166)), mt 168 167, ⟨some 169, .fadr 14 (.t 2), some (168, true)⟩, ⟨some 170, .ld false 1 (.t 169), some (168, true)⟩, ⟨some 171, .bin .eql (.t 170) (ci (-1)), some (168, true)⟩, ⟨some 172, .mv (.t 171), some (168, true)⟩, ⟨some 173, .fadr 14 (.t 2), some (172, false)⟩, ⟨some 174, .ld false 1 (.t 173), some (172, false)⟩, ⟨some 175, .fadr 0 (.t 3), some (172, false)⟩, ⟨some 176, .ld false 1 (.t 175), some (172, false)⟩, ⟨some 177, .bin .gtr (.t 174) (.t 176), some (172, false)⟩, ⟨some 178, .pick (.t 172) (cb true) (.t 177), some (168, true)⟩, o 179 (.pick (.t 168) (.t 178) (cb false))] [5, 179])
 (.cond (.t 179)
 (.ops [mt 180 5, o 181 (.bslice false 1 zl6 1 [(0, cs [119, 97, 105, 116])]), o 182 (.app 1 16 zl6 (.t 180) (.t 181)), mt 5 182] [5])
 (.skip)))
 (.seq (.ops [mt 183 5, mt 4 183] [4])
 (.ret))))))))))))⟩

def c141 : AFunc := ⟨78, [.cell 6 true 15],
 .seq (.ops [o 3 (.box false (.t 0)), o 4 (.box true (.t 1)), o 5 (.box true (.t 2)), o 6 (.alloc true 1 zl0)] [3, 4, 5, 6])
 (.seq (.ops [o 7 (.fadr 0 (.t 5)), o 8 (.ld false 1 (.t 7)), o 9 (.fadr 0 (.t 4)), u (.st 1 (.t 9) (.t 8))] [3, 4, 5, 6])
 (.seq (.seq (.ops [o 10 (.fadr 1 (.t 5)), o 11 (.ld false 1 (.t 10))] [3, 4, 5, 6, 11])
 (.block 0 (.seq (.ops [o 13 (.bin .eql (.t 11) (cs [111, 112, 101, 110])), mt 12 13] [3, 4, 5, 6, 11, 12])
 (.cond (.t 12)
 (.ops [o 14 (.fadr 2 (.t 5)), o 15 (.ld false 1 (.t 14)), o 16 (.fadr 1 (.t 4)), o 17 (.iadra 1 8 (.t 16) (.t 15)), u (.st 1 (.t 17) (cb true))] [4, 6])
 (.seq (.ops [o 19 (.bin .eql (.t 11) (cs [99, 108, 111, 115, 101])), mt 18 19] [3, 4, 5, 6, 11, 18])
 (.cond (.t 18)
 (.ops [o 20 (.fadr 2 (.t 5)), o 21 (.ld false 1 (.t 20)), o 22 (.fadr 1 (.t 4)), o 23 (.iadra 1 8 (.t 22) (.t 21)), u (.st 1 (.t 23) (cb false))] [4, 6])
 (.seq (.ops [o 25 (.bin .eql (.t 11) (cs [105, 110, 115, 101, 114, 116])), mt 24 25] [3, 4, 5, 6, 11, 24])
 (.cond (.t 24)
 (.ops [o 26 (.fadr 2 (.t 5)), o 27 (.ld false 1 (.t 26)), o 28 (.fadr 9 (.t 4)), o 29 (.iadra 1 2 (.t 28) (.t 27)), u (.st 1 (.t 29) (cb true))] [4, 6])
 (.seq (.ops [o 31 (.bin .eql (.t 11) (cs [114, 101, 109, 111, 118, 101])), mt 30 31] [3, 4, 5, 6, 11, 30])
 (.cond (.t 30)
 (.ops [o 32 (.fadr 2 (.t 5)), o 33 (.ld false 1 (.t 32)), o 34 (.fadr 9 (.t 4)), o 35 (.iadra 1 2 (.t 34) (.t 33)), u (.st 1 (.t 35) (cb false))] [4, 6])
 (.seq (.ops [o 37 (.bin .eql (.t 11) (cs [101, 110, 116, 101, 114])), mt 36 37] [3, 4, 5, 6, 11, 36])
 (.cond (.t 36)
 (.ops [o 38 (.fadr 11 (.t 4)), o 39 (.ld false 1 (.t 38)), o 40 (.bin .add (.t 39) (ci 1)), o 41 (.fadr 11 (.t 4)), u (.st 1 (.t 41) (.t 40))] [4, 6])
 (.seq (.ops [o 43 (.bin .eql (.t 11) (cs [108, 101, 97, 118, 101])), mt 42 43] [3, 4, 5, 6, 11, 42])
 (.cond (.t 42)
 (.ops [o 44 (.fadr 11 (.t 4)), o 45 (.ld false 1 (.t 44)), o 46 (.bin .sub (.t 45) (ci 1)), o 47 (.fadr 11 (.t 4)), u (.st 1 (.t 47) (.t 46))] [4, 6])
 (.seq (.ops [o 49 (.bin .eql (.t 11) (cs [97, 114, 109])), mt 48 49] [3, 4, 5, 6, 11, 48])
 (.cond (.t 48)
 (.ops [o 50 (.fadr 12 (.t 4)), u (.st 1 (.t 50) (cb true))] [4, 6])
 (.seq (.ops [o 52 (.bin .eql (.t 11) (cs [100, 105, 115, 97, 114, 109])), mt 51 52] [3, 4, 5, 6, 11, 51])
 (.cond (.t 51)
 (.ops [o 53 (.fadr 12 (.t 4)), u (.st 1 (.t 53) (cb false))] [4, 6])
 (.seq (.ops [o 55 (.bin .eql (.t 11) (cs [115, 104, 111, 111, 116])), mt 54 55] [3, 4, 5, 6, 11, 54])
 (.cond (.t 54)
 (.ops [o 56 (.fadr 0 (.t 5)), o 57 (.ld false 1 (.t 56)), o 58 (.fadr 13 (.t 4)), u (.st 1 (.t 58) (.t 57)), o 59 (.fadr 14 (.t 4)), u (.st 1 (.t 59) (ci (-1))), o 60 (.fadr 12 (.t 4)), u (.st 1 (.t 60) (cb false))] [4, 6])
 (.seq (.ops [o 62 (.bin .eql (.t 11) (cs [109, 101, 97, 115, 117, 114, 101])), mt 61 62] [3, 4, 5, 6, 61])
 (.cond (.t 61)
 (.opsd [(0, 1), (1, 1), (2, 1), (3, 1), (4, 1), (5, 1), (6, 1), (7, 1), (8, 1), (9, 1), (10, 1), (11, 1), (12, 1), (13, 1), (14, 0)] [o 63 (.fadr 13 (.t 4)), o 64 (.ld false 1 (.t 63)), o 65 (.fadr 1 (.t 3)), o 66 (.ld false 1 (.t 65)), o 67 (.bin .add (.t 64) (.t 66)), o 68 (.fadr 0 (.t 5)), o 69 (.ld false 1 (.t 68)), o 70 (.ld true 5 (.t 3)), o 71 (.fadr 3 (.t 5)), o 72 (.ld true 3 (.t 71)), o 73 (.call true true 0 (.fn 155) [.t 70, .t 72]), o 74 (.bin .add (.t 69) (.t 73)), o 75 (.max [.t 67, .t 74]), o 76 (.fadr 14 (.t 4)), u (.st 1 (.t 76) (.t 75))] [4, 6])
 (.skip)))))))))))))))))))))))
 (.seq (.ops [o 77 (.ld true 15 (.t 4)), u (.st 15 (.t 6) (.t 77))] [6])
 (.ret))))⟩

def c151L0 : ACode :=
 .seq (.ops [o 9 (.bin .lss (.t 8) (.t 7))] [0, 1, 7, 8, 9])
 (.seq (.cond (.t 9)
 (.skip)
 (.exit 0))
 (.seq (.block 1 (.seq (.ops [mt 10 8, mt 5 10] [0, 1, 5, 7, 8])
 (.seq (.ops [mt 11 1, mt 12 0, mt 13 5, o 14 (.iadr 1 (.t 12) (.t 13)), o 15 (.ld false 1 (.t 14)), o 16 (.bin .eql (.t 11) (.t 15))] [0, 1, 5, 7, 8, 16])
 (.cond (.t 16)
 (.seq (.ops [mt 17 5, mt 4 17] [4])
 (.ret))
 (.skip)))))
 (.ops [o 18 (.bin .add (.t 8) (ci 1)), mt 8 18] [0, 1, 7, 8])))
def c151 : AFunc := ⟨19, [.tmp 4],
 .seq (.ops [o 4 (.mv (ci 0))] [0, 1])
 (.seq (.seq (.ops [mt 6 0, o 7 (.len 1 (.t 6)), o 8 (.mv (ci 0))] [0, 1, 7, 8])
 (.block 0 (.loop false [0, 1, 7, 8] c151L0)))
 (.seq (.ops [o 4 (.mv (ci (-1)))] [4])
 (.ret)))⟩

def c152 : AFunc := ⟨2, [.tmp 0],
 .seq (.ops [o 0 (.mv (cn))] [])
 (.seq (.ops [o 1 (.bslice false 1 zl6 10 [(0, cs [111, 112, 101, 110]), (1, cs [99, 108, 111, 115, 101]), (2, cs [105, 110, 115, 101, 114, 116]), (3, cs [114, 101, 109, 111, 118, 101]), (4, cs [101, 110, 116, 101, 114]), (5, cs [108, 101, 97, 118, 101]), (6, cs [97, 114, 109]), (7, cs [100, 105, 115, 97, 114, 109]), (8, cs [115, 104, 111, 111, 116]), (9, cs [109, 101, 97, 115, 117, 114, 101])]), mt 0 1] [0])
 (.ret))⟩

def c153 : AFunc := ⟨17, [.tmp 2],
 .seq (.ops [o 2 (.mv (cb false))] [0])
 (.seq (.ops [mt 3 0, o 4 (.bin .eql (.t 3) (cs [111, 112, 101, 110])), mt 5 4, ⟨some 6, .mv (.t 0), some (5, false)⟩, ⟨some 7, .bin .eql (.t 6) (cs [99, 108, 111, 115, 101]), some (5, false)⟩, o 8 (.pick (.t 5) (cb true) (.t 7)), mt 9 8, ⟨some 10, .mv (.t 0), some (9, false)⟩, ⟨some 11, .bin .eql (.t 10) (cs [101, 110, 116, 101, 114]), some (9, false)⟩, o 12 (.pick (.t 9) (cb true) (.t 11)), mt 13 12, ⟨some 14, .mv (.t 0), some (13, false)⟩, ⟨some 15, .bin .eql (.t 14) (cs [108, 101, 97, 118, 101]), some (13, false)⟩, o 16 (.pick (.t 13) (cb true) (.t 15)), mt 2 16] [2])
 (.ret))⟩

def c154 : AFunc := ⟨9, [.tmp 2],
 .seq (.ops [o 2 (.mv (cb false))] [0])
 (.seq (.ops [mt 3 0, o 4 (.bin .eql (.t 3) (cs [105, 110, 115, 101, 114, 116])), mt 5 4, ⟨some 6, .mv (.t 0), some (5, false)⟩, ⟨some 7, .bin .eql (.t 6) (cs [114, 101, 109, 111, 118, 101]), some (5, false)⟩, o 8 (.pick (.t 5) (cb true) (.t 7)), mt 2 8] [2])
 (.ret))⟩

def c155L0 : ACode :=
 .seq (.seq (.ops [mt 13 8, mt 14 6, o 15 (.fadr 2 (.t 2)), o 16 (.iadra 1 3 (.t 15) (.t 14)), o 17 (.ld false 1 (.t 16)), o 18 (.len 1 (.t 17)), o 19 (.bin .lss (.t 13) (.t 18))] [2, 3, 5, 6, 7, 8, 19])
 (.cond (.t 19)
 (.skip)
 (.exit 2)))
 (.seq (.block 3 (.seq (.opsd [(0, 1), (1, 1), (2, 1), (3, 1), (4, 1), (5, 1), (6, 1), (7, 1), (8, 1), (9, 1), (10, 1), (11, 1)] [mt 22 6, o 23 (.fadr 2 (.t 2)), o 24 (.iadra 1 3 (.t 23) (.t 22)), o 25 (.ld false 1 (.t 24)), mt 26 8, o 27 (.iadr 2 (.t 25) (.t 26)), o 28 (.fadr 0 (.t 27)), o 29 (.ld false 1 (.t 28)), mt 30 6, o 31 (.iadra 1 3 (.t 3) (.t 30)), o 32 (.ld false 1 (.t 31)), o 33 (.bin .leq (.t 29) (.t 32))] [2, 3, 5, 6, 7, 8, 33])
 (.cond (.t 33)
 (.ops [mt 34 6, o 35 (.fadr 2 (.t 2)), o 36 (.iadra 1 3 (.t 35) (.t 34)), o 37 (.ld false 1 (.t 36)), mt 38 8, o 39 (.iadr 2 (.t 37) (.t 38)), o 40 (.fadr 1 (.t 39)), o 41 (.ld false 1 (.t 40)), mt 7 41] [2, 3, 5, 6, 7, 8])
 (.skip))))
 (.ops [mt 20 8, o 21 (.bin .add (.t 20) (ci 1)), mt 8 21] [2, 3, 5, 6, 7, 8]))
def c155L1 : ACode :=
 .seq (.seq (.ops [mt 9 6, o 10 (.bin .lss (.t 9) (ci 3))] [2, 3, 5, 6, 10])
 (.cond (.t 10)
 (.skip)
 (.exit 0)))
 (.seq (.block 1 (.seq (.ops [o 7 (.mv (ci 0))] [2, 3, 5, 6, 7])
 (.seq (.seq (.ops [o 8 (.mv (ci 0))] [2, 3, 5, 6, 7, 8])
 (.block 2 (.loop false [2, 3, 5, 6, 7, 8] c155L0)))
 (.ops [mt 42 5, mt 43 7, o 44 (.max [.t 42, .t 43]), mt 5 44] [2, 3, 5, 6]))))
 (.ops [mt 11 6, o 12 (.bin .add (.t 11) (ci 1)), mt 6 12] [2, 3, 5, 6]))
def c155 : AFunc := ⟨46, [.tmp 4],
 .seq (.ops [o 2 (.box false (.t 0)), o 3 (.box true (.t 1)), o 4 (.mv (ci 0))] [2, 3])
 (.seq (.ops [o 5 (.mv (ci 0))] [2, 3, 5])
 (.seq (.seq (.ops [o 6 (.mv (ci 0))] [2, 3, 5, 6])
 (.block 0 (.loop false [2, 3, 5, 6] c155L1)))
 (.seq (.ops [mt 45 5, mt 4 45] [4])
 (.ret))))⟩

def c172 : AFunc := ⟨7, [.tmp 2],
 .seq (.ops [o 1 (.box true (.t 0)), o 2 (.mv (cb false))] [1])
 (.seq (.ops [o 3 (.fadr 1 (.t 1)), o 4 (.ld true 8 (.t 3)), o 5 (.build [.p (.bool false), .p (.bool false), .p (.bool false), .p (.bool false), .p (.bool false), .p (.bool false), .p (.bool false), .p (.bool false)] []), o 6 (.eqagg [2, 2, 2, 2, 2, 2, 2, 2] true (.t 4) (.t 5)), mt 2 6] [2])
 (.ret))⟩

def c174 : AFunc := ⟨5, [.tmp 2],
 .seq (.ops [o 1 (.box false (.t 0)), o 2 (.mv (ci 0))] [1])
 (.seq (.ops [o 3 (.fadr 0 (.t 1)), o 4 (.ld false 1 (.t 3)), mt 2 4] [2])
 (.ret))⟩

def c175 : AFunc := ⟨10, [.tmp 4],
 .seq (.ops [o 2 (.box true (.t 0)), o 3 (.box true (.t 1)), o 4 (.mv (cb false))] [2, 3])
 (.seq (.ops [o 5 (.fadr 2 (.t 3)), o 6 (.ld false 1 (.t 5)), o 7 (.fadr 1 (.t 2)), o 8 (.iadra 1 8 (.t 7) (.t 6)), o 9 (.ld false 1 (.t 8)), mt 4 9] [4])
 (.ret))⟩

def c176 : AFunc := ⟨12, [],
 .seq (.ops [o 3 (.box false (.t 0)), o 5 (.box true (.t 2))] [1, 5])
 (.opsd [(0, 1), (1, 1), (2, 1), (3, 1), (4, 1), (5, 1), (6, 0)] [mt 6 1, o 7 (.fadr 2 (.t 5)), o 8 (.ld false 1 (.t 7)), o 9 (.nilck (.t 6)), o 10 (.fadr 1 (.t 9)), o 11 (.iadra 1 8 (.t 10) (.t 8)), u (.st 1 (.t 11) (cb true))] [])⟩

def c177 : AFunc := ⟨11, [.tmp 4],
 .seq (.ops [o 2 (.box true (.t 0)), o 3 (.box true (.t 1)), o 4 (.mv (cb false))] [2, 3])
 (.seq (.ops [o 5 (.fadr 2 (.t 3)), o 6 (.ld false 1 (.t 5)), o 7 (.fadr 1 (.t 2)), o 8 (.iadra 1 8 (.t 7) (.t 6)), o 9 (.ld false 1 (.t 8)), o 10 (.not (.t 9)), mt 4 10] [4])
 (.ret))⟩

def c178 : AFunc := ⟨12, [],
 .seq (.ops [o 3 (.box false (.t 0)), o 5 (.box true (.t 2))] [1, 5])
 (.opsd [(0, 1), (1, 1), (2, 1), (3, 1), (4, 1), (5, 1), (6, 0)] [mt 6 1, o 7 (.fadr 2 (.t 5)), o 8 (.ld false 1 (.t 7)), o 9 (.nilck (.t 6)), o 10 (.fadr 1 (.t 9)), o 11 (.iadra 1 8 (.t 10) (.t 8)), u (.st 1 (.t 11) (cb false))] [])⟩

def c179 : AFunc := ⟨3, [.tmp 2],
 .seq (.ops [o 1 (.box false (.t 0)), o 2 (.mv (ci 0))] [])
 (.seq (.ops [o 2 (.mv (ci 2))] [2])
 (.ret))⟩

def c180 : AFunc := ⟨10, [.tmp 4],
 .seq (.ops [o 2 (.box true (.t 0)), o 3 (.box true (.t 1)), o 4 (.mv (cb false))] [2, 3])
 (.seq (.ops [o 5 (.fadr 2 (.t 3)), o 6 (.ld false 1 (.t 5)), o 7 (.fadr 9 (.t 2)), o 8 (.iadra 1 2 (.t 7) (.t 6)), o 9 (.ld false 1 (.t 8)), mt 4 9] [4])
 (.ret))⟩

def c181 : AFunc := ⟨12, [],
 .seq (.ops [o 3 (.box false (.t 0)), o 5 (.box true (.t 2))] [1, 5])
 (.opsd [(0, 1), (1, 1), (2, 1), (3, 1), (4, 1), (5, 1), (6, 0)] [mt 6 1, o 7 (.fadr 2 (.t 5)), o 8 (.ld false 1 (.t 7)), o 9 (.nilck (.t 6)), o 10 (.fadr 9 (.t 9)), o 11 (.iadra 1 2 (.t 10) (.t 8)), u (.st 1 (.t 11) (cb true))] [])⟩

def c182 : AFunc := ⟨11, [.tmp 4],
 .seq (.ops [o 2 (.box true (.t 0)), o 3 (.box true (.t 1)), o 4 (.mv (cb false))] [2, 3])
 (.seq (.ops [o 5 (.fadr 2 (.t 3)), o 6 (.ld false 1 (.t 5)), o 7 (.fadr 9 (.t 2)), o 8 (.iadra 1 2 (.t 7) (.t 6)), o 9 (.ld false 1 (.t 8)), o 10 (.not (.t 9)), mt 4 10] [4])
 (.ret))⟩

def c183 : AFunc := ⟨12, [],
 .seq (.ops [o 3 (.box false (.t 0)), o 5 (.box true (.t 2))] [1, 5])
 (.opsd [(0, 1), (1, 1), (2, 1), (3, 1), (4, 1), (5, 1), (6, 0)] [mt 6 1, o 7 (.fadr 2 (.t 5)), o 8 (.ld false 1 (.t 7)), o 9 (.nilck (.t 6)), o 10 (.fadr 9 (.t 9)), o 11 (.iadra 1 2 (.t 10) (.t 8)), u (.st 1 (.t 11) (cb false))] [])⟩

def c184 : AFunc := ⟨8, [.tmp 4],
 .seq (.ops [o 2 (.box true (.t 0)), o 3 (.box true (.t 1)), o 4 (.mv (cb false))] [2])
 (.seq (.ops [o 5 (.fadr 11 (.t 2)), o 6 (.ld false 1 (.t 5)), o 7 (.bin .geq (.t 6) (ci 100)), mt 4 7] [4])
 (.ret))⟩

def c185 : AFunc := ⟨13, [],
 .seq (.ops [o 3 (.box false (.t 0)), o 5 (.box true (.t 2))] [1])
 (.ops [mt 6 1, o 7 (.nilck (.t 6)), o 8 (.fadr 11 (.t 7)), o 9 (.ld false 1 (.t 8)), o 10 (.bin .add (.t 9) (ci 1)), o 11 (.nilck (.t 6)), o 12 (.fadr 11 (.t 11)), u (.st 1 (.t 12) (.t 10))] [])⟩

def c186 : AFunc := ⟨8, [.tmp 4],
 .seq (.ops [o 2 (.box true (.t 0)), o 3 (.box true (.t 1)), o 4 (.mv (cb false))] [2])
 (.seq (.ops [o 5 (.fadr 11 (.t 2)), o 6 (.ld false 1 (.t 5)), o 7 (.bin .eql (.t 6) (ci 0)), mt 4 7] [4])
 (.ret))⟩

def c187 : AFunc := ⟨13, [],
 .seq (.ops [o 3 (.box false (.t 0)), o 5 (.box true (.t 2))] [1])
 (.ops [mt 6 1, o 7 (.nilck (.t 6)), o 8 (.fadr 11 (.t 7)), o 9 (.ld false 1 (.t 8)), o 10 (.bin .sub (.t 9) (ci 1)), o 11 (.nilck (.t 6)), o 12 (.fadr 11 (.t 11)), u (.st 1 (.t 12) (.t 10))] [])⟩

def c188 : AFunc := ⟨3, [.tmp 2],
 .seq (.ops [o 1 (.box false (.t 0)), o 2 (.mv (ci 0))] [])
 (.seq (.ops [o 2 (.mv (ci 1))] [2])
 (.ret))⟩

def c189 : AFunc := ⟨7, [.tmp 4],
 .seq (.ops [o 2 (.box true (.t 0)), o 3 (.box true (.t 1)), o 4 (.mv (cb false))] [2])
 (.seq (.ops [o 5 (.fadr 12 (.t 2)), o 6 (.ld false 1 (.t 5)), mt 4 6] [4])
 (.ret))⟩

def c190 : AFunc := ⟨9, [],
 .seq (.ops [o 3 (.box false (.t 0)), o 5 (.box true (.t 2))] [1])
 (.ops [mt 6 1, o 7 (.nilck (.t 6)), o 8 (.fadr 12 (.t 7)), u (.st 1 (.t 8) (cb true))] [])⟩

def c191 : AFunc := ⟨8, [.tmp 4],
 .seq (.ops [o 2 (.box true (.t 0)), o 3 (.box true (.t 1)), o 4 (.mv (cb false))] [2])
 (.seq (.ops [o 5 (.fadr 12 (.t 2)), o 6 (.ld false 1 (.t 5)), o 7 (.not (.t 6)), mt 4 7] [4])
 (.ret))⟩

def c192 : AFunc := ⟨9, [],
 .seq (.ops [o 3 (.box false (.t 0)), o 5 (.box true (.t 2))] [1])
 (.ops [mt 6 1, o 7 (.nilck (.t 6)), o 8 (.fadr 12 (.t 7)), u (.st 1 (.t 8) (cb false))] [])⟩

def c193 : AFunc := ⟨8, [.tmp 4],
 .seq (.ops [o 2 (.box true (.t 0)), o 3 (.box true (.t 1)), o 4 (.mv (cb false))] [2])
 (.seq (.ops [o 5 (.fadr 12 (.t 2)), o 6 (.ld false 1 (.t 5)), o 7 (.not (.t 6)), mt 4 7] [4])
 (.ret))⟩

def c194 : AFunc := ⟨17, [],
 .seq (.ops [o 3 (.box false (.t 0)), o 5 (.box true (.t 2))] [1, 5])
 (.ops [mt 6 1, mt 7 1, mt 8 1, o 9 (.fadr 0 (.t 5)), o 10 (.ld false 1 (.t 9)), o 11 (.nilck (.t 6)), o 12 (.fadr 13 (.t 11)), u (.st 1 (.t 12) (.t 10)), o 13 (.nilck (.t 7)), o 14 (.fadr 14 (.t 13)), u (.st 1 (.t 14) (ci (-1))), o 15 (.nilck (.t 8)), o 16 (.fadr 12 (.t 15)), u (.st 1 (.t 16) (cb false))] [])⟩

def c195 : AFunc := ⟨8, [.tmp 4],
 .seq (.ops [o 2 (.box true (.t 0)), o 3 (.box true (.t 1)), o 4 (.mv (cb false))] [2])
 (.seq (.ops [o 5 (.fadr 13 (.t 2)), o 6 (.ld false 1 (.t 5)), o 7 (.bin .eql (.t 6) (ci (-1))), mt 4 7] [4])
 (.ret))⟩

def c196 : AFunc := ⟨24, [],
 .seq (.ops [o 3 (.box false (.t 0)), o 5 (.box true (.t 2))] [1, 3, 5])
 (.opsd [(0, 1), (1, 1), (2, 1), (3, 1), (4, 1), (5, 1), (6, 1), (7, 1), (8, 1), (9, 1), (10, 1), (11, 1), (12, 1), (13, 1), (14, 1), (15, 1), (16, 1), (17, 1), (18, 0)] [mt 6 1, mt 7 1, o 8 (.nilck (.t 7)), o 9 (.fadr 13 (.t 8)), o 10 (.ld false 1 (.t 9)), o 11 (.fadr 1 (.t 3)), o 12 (.ld false 1 (.t 11)), o 13 (.bin .add (.t 10) (.t 12)), o 14 (.fadr 0 (.t 5)), o 15 (.ld false 1 (.t 14)), o 16 (.ld true 5 (.t 3)), o 17 (.fadr 3 (.t 5)), o 18 (.ld true 3 (.t 17)), o 19 (.call true true 0 (.fn 59) [.t 16, .t 18]), o 20 (.bin .add (.t 15) (.t 19)), o 21 (.max [.t 13, .t 20]), o 22 (.nilck (.t 6)), o 23 (.fadr 14 (.t 22)), u (.st 1 (.t 23) (.t 21))] [])⟩

def c197 : AFunc := ⟨10, [.tmp 4],
 .seq (.ops [o 2 (.box true (.t 0)), o 3 (.box true (.t 1)), o 4 (.mv (cb false))] [2, 3])
 (.seq (.ops [o 5 (.fadr 0 (.t 3)), o 6 (.ld false 1 (.t 5)), o 7 (.fadr 0 (.t 2)), o 8 (.ld false 1 (.t 7)), o 9 (.bin .lss (.t 6) (.t 8)), mt 4 9] [4])
 (.ret))⟩

def c198 : AFunc := ⟨20, [.tmp 4],
 .seq (.ops [o 2 (.box true (.t 0)), o 3 (.box true (.t 1)), o 4 (.mv (cb false))] [2, 3])
 (.seq (.ops [o 6 (.slca 4 10 (.g 0) none none), o 7 (.mkclo 200 [] [.t 3]), o 8 (.call true true 0 (.fn 199) [.t 6, .t 7]), mt 5 8] [2, 3, 5])
 (.seq (.opsd [(0, 1), (1, 1), (2, 1), (3, 1), (4, 1), (5, 1), (6, 1), (7, 1), (8, 1), (9, 0), (10, 1), (11, 1)] [mt 9 5, o 10 (.bin .geq (.t 9) (ci 0)), mt 11 10, ⟨some 12, .mv (.t 5), some (11, true)⟩, ⟨some 13, .iadra 4 10 (.g 0) (.t 12), some (11, true)⟩, ⟨some 14, .fadr 2 (.t 13), some (11, true)⟩, ⟨some 15, .ld false 1 (.t 14), some (11, true)⟩, ⟨some 16, .ld true 15 (.t 2), some (11, true)⟩, ⟨some 17, .ld true 6 (.t 3), some (11, true)⟩, ⟨some 18, .call false true 0 (.val (.t 15)) [.t 16, .t 17], some (11, true)⟩, o 19 (.pick (.t 11) (.t 18) (cb false)), mt 4 19] [4])
 (.ret)))⟩

def c199L0 : ACode :=
 .seq (.ops [o 9 (.bin .lss (.t 8) (.t 7))] [0, 1, 7, 8, 9])
 (.seq (.cond (.t 9)
 (.skip)
 (.exit 0))
 (.seq (.block 1 (.seq (.ops [mt 10 8, mt 5 10] [0, 1, 5, 7, 8])
 (.seq (.ops [mt 11 1, mt 12 0, mt 13 5, o 14 (.iadr 4 (.t 12) (.t 13)), o 15 (.ld true 4 (.t 14)), o 16 (.call false true 0 (.val (.t 11)) [.t 15])] [0, 1, 5, 7, 8, 16])
 (.cond (.t 16)
 (.seq (.ops [mt 17 5, mt 4 17] [4])
 (.ret))
 (.skip)))))
 (.ops [o 18 (.bin .add (.t 8) (ci 1)), mt 8 18] [0, 1, 7, 8])))
def c199 : AFunc := ⟨19, [.tmp 4],
 .seq (.ops [o 4 (.mv (ci 0))] [0, 1])
 (.seq (.seq (.ops [mt 6 0, o 7 (.len 1 (.t 6)), o 8 (.mv (ci 0))] [0, 1, 7, 8])
 (.block 0 (.loop true [0, 1, 7, 8] c199L0)))
 (.seq (.ops [o 4 (.mv (ci (-1)))] [4])
 (.ret)))⟩

def c200 : AFunc := ⟨9, [.tmp 3],
 .seq (.ops [o 2 (.box false (.t 0)), o 3 (.mv (cb false))] [1, 2])
 (.seq (.ops [o 4 (.fadr 0 (.t 2)), o 5 (.ld false 1 (.t 4)), o 6 (.fadr 1 (.t 1)), o 7 (.ld false 1 (.t 6)), o 8 (.bin .eql (.t 5) (.t 7)), mt 3 8] [3])
 (.ret))⟩

def c201 : AFunc := ⟨12, [.tmp 4],
 .seq (.ops [o 2 (.box true (.t 0)), o 3 (.box true (.t 1)), o 4 (.mv (cb false))] [2, 3])
 (.seq (.ops [o 5 (.fadr 12 (.t 2)), o 6 (.ld false 1 (.t 5)), mt 7 6, ⟨some 8, .ld true 6 (.t 3), some (7, true)⟩, ⟨some 9, .bslice false 1 zl6 3 [(0, cs [111, 112, 101, 110]), (1, cs [114, 101, 109, 111, 118, 101]), (2, cs [101, 110, 116, 101, 114])], some (7, true)⟩, ⟨some 10, .call true true 0 (.fn 111) [.t 8, .t 9], some (7, true)⟩, o 11 (.pick (.t 7) (.t 10) (cb false)), mt 4 11] [4])
 (.ret))⟩

def c202 : AFunc := ⟨25, [.tmp 4],
 .seq (.ops [o 2 (.box true (.t 0)), o 3 (.box true (.t 1)), o 4 (.mv (cb false))] [2, 3])
 (.seq (.ops [o 5 (.ld true 6 (.t 3)), o 6 (.bslice false 1 zl6 2 [(0, cs [101, 110, 116, 101, 114]), (1, cs [108, 101, 97, 118, 101])]), o 7 (.call true true 0 (.fn 111) [.t 5, .t 6]), mt 8 7, ⟨some 9, .fadr 2 (.t 3), some (8, true)⟩, ⟨some 10, .ld false 1 (.t 9), some (8, true)⟩, ⟨some 11, .fadr 1 (.t 2), some (8, true)⟩, ⟨some 12, .iadra 1 8 (.t 11) (.t 10), some (8, true)⟩, ⟨some 13, .ld false 1 (.t 12), some (8, true)⟩, ⟨some 14, .not (.t 13), some (8, true)⟩, o 15 (.pick (.t 8) (.t 14) (cb false)), mt 16 15, ⟨some 17, .ld true 6 (.t 3), some (16, false)⟩, ⟨some 18, .bslice false 1 zl6 1 [(0, cs [97, 114, 109])], some (16, false)⟩, ⟨some 19, .call true true 0 (.fn 111) [.t 17, .t 18], some (16, false)⟩, ⟨some 20, .mv (.t 19), some (16, false)⟩, ⟨some 21, .ld true 15 (.t 2), some (20, true)⟩, ⟨some 22, .call true true 0 (.fn 172) [.t 21], some (20, true)⟩, ⟨some 23, .pick (.t 20) (.t 22) (cb false), some (16, false)⟩, o 24 (.pick (.t 16) (cb true) (.t 23)), mt 4 24] [4])
 (.ret))⟩

def c203 : AFunc := ⟨13, [.tmp 4],
 .seq (.ops [o 2 (.box true (.t 0)), o 3 (.box true (.t 1)), o 4 (.mv (cb false))] [2, 3])
 (.seq (.ops [o 5 (.ld true 6 (.t 3)), o 6 (.bslice false 1 zl6 1 [(0, cs [97, 114, 109])]), o 7 (.call true true 0 (.fn 111) [.t 5, .t 6]), mt 8 7, ⟨some 9, .fadr 11 (.t 2), some (8, true)⟩, ⟨some 10, .ld false 1 (.t 9), some (8, true)⟩, ⟨some 11, .bin .gtr (.t 10) (ci 0), some (8, true)⟩, o 12 (.pick (.t 8) (.t 11) (cb false)), mt 4 12] [4])
 (.ret))⟩

def c204 : AFunc := ⟨14, [.tmp 4],
 .seq (.ops [o 2 (.box true (.t 0)), o 3 (.box true (.t 1)), o 4 (.mv (cb false))] [2, 3])
 (.seq (.ops [o 5 (.ld true 6 (.t 3)), o 6 (.bslice false 1 zl6 1 [(0, cs [97, 114, 109])]), o 7 (.call true true 0 (.fn 111) [.t 5, .t 6]), mt 8 7, ⟨some 9, .fadr 9 (.t 2), some (8, true)⟩, ⟨some 10, .ld true 2 (.t 9), some (8, true)⟩, ⟨some 11, .build [.p (.bool false), .p (.bool false)] [(0, 1, cb true), (1, 1, cb true)], some (8, true)⟩, ⟨some 12, .eqagg [2, 2] true (.t 10) (.t 11), some (8, true)⟩, o 13 (.pick (.t 8) (.t 12) (cb false)), mt 4 13] [4])
 (.ret))⟩

def c205 : AFunc := ⟨15, [.tmp 4],
 .seq (.ops [o 2 (.box true (.t 0)), o 3 (.box true (.t 1)), o 4 (.mv (cb false))] [2, 3])
 (.seq (.ops [o 5 (.ld true 6 (.t 3)), o 6 (.bslice false 1 zl6 3 [(0, cs [111, 112, 101, 110]), (1, cs [101, 110, 116, 101, 114]), (2, cs [97, 114, 109])]), o 7 (.call true true 0 (.fn 111) [.t 5, .t 6]), mt 8 7, ⟨some 9, .ld true 15 (.t 2), some (8, true)⟩, ⟨some 10, .fadr 0 (.t 3), some (8, true)⟩, ⟨some 11, .ld false 1 (.t 10), some (8, true)⟩, ⟨some 12, .call true true 0 (.fn 206) [.t 9, .t 11], some (8, true)⟩, ⟨some 13, .not (.t 12), some (8, true)⟩, o 14 (.pick (.t 8) (.t 13) (cb false)), mt 4 14] [4])
 (.ret))⟩

def c206 : AFunc := ⟨14, [.tmp 4],
 .seq (.ops [o 2 (.box true (.t 0)), o 4 (.mv (cb false))] [1, 2])
 (.seq (.ops [o 5 (.fadr 14 (.t 2)), o 6 (.ld false 1 (.t 5)), o 7 (.bin .neq (.t 6) (ci (-1))), mt 8 7, ⟨some 9, .fadr 14 (.t 2), some (8, true)⟩, ⟨some 10, .ld false 1 (.t 9), some (8, true)⟩, ⟨some 11, .mv (.t 1), some (8, true)⟩, ⟨some 12, .bin .leq (.t 10) (.t 11), some (8, true)⟩, o 13 (.pick (.t 8) (.t 12) (cb false)), mt 4 13] [4])
 (.ret))⟩


def FT : Tr := (.node 111 c111 (.node 64 c64 (.node 30 c30 (.node 23 c23 (.node 15 c15 (.node 7 c7 (.node 4 c4 .leaf .leaf) (.node 8 c8 .leaf .leaf)) (.node 21 c21 (.node 17 c17 .leaf .leaf) (.node 22 c22 .leaf .leaf))) (.node 27 c27 (.node 25 c25 (.node 24 c24 .leaf .leaf) (.node 26 c26 .leaf .leaf)) (.node 29 c29 (.node 28 c28 .leaf .leaf) .leaf))) (.node 56 c56 (.node 47 c47 (.node 44 c44 (.node 43 c43 .leaf .leaf) (.node 45 c45 .leaf .leaf)) (.node 50 c50 (.node 48 c48 .leaf .leaf) .leaf)) (.node 60 c60 (.node 58 c58 (.node 57 c57 .leaf .leaf) (.node 59 c59 .leaf .leaf)) (.node 63 c63 (.node 62 c62 .leaf .leaf) .leaf)))) (.node 79 c79 (.node 72 c72 (.node 68 c68 (.node 66 c66 (.node 65 c65 .leaf .leaf) (.node 67 c67 .leaf .leaf)) (.node 70 c70 (.node 69 c69 .leaf .leaf) (.node 71 c71 .leaf .leaf))) (.node 76 c76 (.node 74 c74 (.node 73 c73 .leaf .leaf) (.node 75 c75 .leaf .leaf)) (.node 78 c78 (.node 77 c77 .leaf .leaf) .leaf))) (.node 87 c87 (.node 83 c83 (.node 81 c81 (.node 80 c80 .leaf .leaf) (.node 82 c82 .leaf .leaf)) (.node 86 c86 (.node 84 c84 .leaf .leaf) .leaf)) (.node 108 c108 (.node 106 c106 (.node 105 c105 .leaf .leaf) (.node 107 c107 .leaf .leaf)) (.node 110 c110 (.node 109 c109 .leaf .leaf) .leaf))))) (.node 178 c178 (.node 138 c138 (.node 119 c119 (.node 115 c115 (.node 113 c113 (.node 112 c112 .leaf .leaf) (.node 114 c114 .leaf .leaf)) (.node 117 c117 (.node 116 c116 .leaf .leaf) (.node 118 c118 .leaf .leaf))) (.node 135 c135 (.node 121 c121 (.node 120 c120 .leaf .leaf) (.node 122 c122 .leaf .leaf)) (.node 137 c137 (.node 136 c136 .leaf .leaf) .leaf))) (.node 154 c154 (.node 151 c151 (.node 140 c140 (.node 139 c139 .leaf .leaf) (.node 141 c141 .leaf .leaf)) (.node 153 c153 (.node 152 c152 .leaf .leaf) .leaf)) (.node 175 c175 (.node 172 c172 (.node 155 c155 .leaf .leaf) (.node 174 c174 .leaf .leaf)) (.node 177 c177 (.node 176 c176 .leaf .leaf) .leaf)))) (.node 193 c193 (.node 186 c186 (.node 182 c182 (.node 180 c180 (.node 179 c179 .leaf .leaf) (.node 181 c181 .leaf .leaf)) (.node 184 c184 (.node 183 c183 .leaf .leaf) (.node 185 c185 .leaf .leaf))) (.node 190 c190 (.node 188 c188 (.node 187 c187 .leaf .leaf) (.node 189 c189 .leaf .leaf)) (.node 192 c192 (.node 191 c191 .leaf .leaf) .leaf))) (.node 200 c200 (.node 197 c197 (.node 195 c195 (.node 194 c194 .leaf .leaf) (.node 196 c196 .leaf .leaf)) (.node 199 c199 (.node 198 c198 .leaf .leaf) .leaf)) (.node 204 c204 (.node 202 c202 (.node 201 c201 .leaf .leaf) (.node 203 c203 .leaf .leaf)) (.node 206 c206 (.node 205 c205 .leaf .leaf) .leaf))))))
def F (n : Nat) : Option AFunc := FT.find n
end Fw
