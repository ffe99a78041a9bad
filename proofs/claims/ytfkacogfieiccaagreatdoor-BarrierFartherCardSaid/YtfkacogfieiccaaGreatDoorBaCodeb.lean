/- The functions of the program, written for the evaluator, second part: definitions alone. -/
import Derived.Test.YtfkacogfieiccaaGreatDoorBaCode
namespace Fw
open Go
def c101L0 : ACode :=
 .seq (.seq (.ops [mt 4 3, mt 5 0, o 6 (.len 1 (.t 5)), o 7 (.bin .lss (.t 4) (.t 6))] [0, 3, 7])
 (.cond (.t 7)
 (.skip)
 (.exit 0)))
 (.seq (.block 1 (.seq (.ops [mt 10 0, mt 11 3, o 12 (.iadr 1 (.t 10) (.t 11)), o 13 (.ld false 1 (.t 12)), o 14 (.bin .neq (.t 13) (ci 0))] [0, 3, 14])
 (.cond (.t 14)
 (.seq (.ops [mt 15 0, mt 16 3, o 17 (.iadr 1 (.t 15) (.t 16)), o 18 (.ld false 1 (.t 17)), mt 2 18] [2])
 (.ret))
 (.skip))))
 (.ops [mt 8 3, o 9 (.bin .add (.t 8) (ci 1)), mt 3 9] [0, 3]))
def c101 : AFunc := ⟨19, [.tmp 2],
 .seq (.ops [o 2 (.mv (ci 0))] [0])
 (.seq (.seq (.ops [o 3 (.mv (ci 0))] [0, 3])
 (.block 0 (.loop false [0, 3] c101L0)))
 (.seq (.ops [o 2 (.mv (ci 0))] [2])
 (.ret)))⟩

def c102 : AFunc := ⟨16, [.tmp 6],
 .seq (.ops [o 6 (.mv (ci 0))] [0, 1, 2])
 (.seq (.ops [mt 7 0, mt 8 1, o 9 (.bin .lss (.t 7) (.t 8)), mt 10 9, ⟨some 11, .mv (.t 0), some (10, false)⟩, ⟨some 12, .mv (.t 2), some (10, false)⟩, ⟨some 13, .bin .gtr (.t 11) (.t 12), some (10, false)⟩, o 14 (.pick (.t 10) (cb true) (.t 13)), o 15 (.call true true 0 (.fn 55) [.t 14, ci 3]), mt 6 15] [6])
 (.ret))⟩

def c103 : AFunc := ⟨25, [.tmp 6],
 .seq (.ops [o 3 (.box true (.t 0)), o 6 (.mv (ci 0))] [1, 2, 3])
 (.seq (.opsd [(0, 1), (1, 1), (2, 1), (3, 1), (4, 1), (5, 1), (6, 1), (7, 1), (8, 1), (9, 1), (10, 1), (11, 1), (12, 1), (13, 1), (14, 1), (15, 0), (16, 0), (17, 0), (18, 1)] [o 7 (.fadr 0 (.t 3)), o 8 (.ld false 1 (.t 7)), mt 9 1, mt 10 2, o 11 (.call true true 0 (.fn 102) [.t 8, .t 9, .t 10]), o 12 (.fadr 1 (.t 3)), o 13 (.ld false 1 (.t 12)), mt 14 1, mt 15 2, o 16 (.call true true 0 (.fn 102) [.t 13, .t 14, .t 15]), o 17 (.fadr 0 (.t 3)), o 18 (.ld false 1 (.t 17)), o 19 (.fadr 1 (.t 3)), o 20 (.ld false 1 (.t 19)), o 21 (.bin .gtr (.t 18) (.t 20)), o 22 (.call true true 0 (.fn 55) [.t 21, ci 11]), o 23 (.bslice false 1 zl8 3 [(0, .t 11), (1, .t 16), (2, .t 22)]), o 24 (.call true true 0 (.fn 101) [.t 23]), mt 6 24] [6])
 (.ret))⟩

def c107 : AFunc := ⟨7, [.tmp 4],
 .seq (.ops [o 4 (.mv (ci 0))] [0, 1])
 (.seq (.seq (.ops [mt 5 0] [1, 5])
 (.cond (.t 5)
 (.seq (.ops [mt 6 1, mt 4 6] [4])
 (.ret))
 (.skip)))
 (.seq (.ops [o 4 (.mv (ci 0))] [4])
 (.ret)))⟩

def c108 : AFunc := ⟨16, [.tmp 6],
 .seq (.ops [o 6 (.mv (ci 0))] [0, 1, 2])
 (.seq (.ops [mt 7 0, mt 8 1, o 9 (.bin .lss (.t 7) (.t 8)), mt 10 9, ⟨some 11, .mv (.t 0), some (10, false)⟩, ⟨some 12, .mv (.t 2), some (10, false)⟩, ⟨some 13, .bin .gtr (.t 11) (.t 12), some (10, false)⟩, o 14 (.pick (.t 10) (cb true) (.t 13)), o 15 (.call true true 0 (.fn 107) [.t 14, ci 3]), mt 6 15] [6])
 (.ret))⟩

def c109 : AFunc := ⟨25, [.tmp 6],
 .seq (.ops [o 3 (.box true (.t 0)), o 6 (.mv (ci 0))] [1, 2, 3])
 (.seq (.opsd [(0, 1), (1, 1), (2, 1), (3, 1), (4, 1), (5, 1), (6, 1), (7, 1), (8, 1), (9, 1), (10, 1), (11, 1), (12, 1), (13, 1), (14, 1), (15, 0), (16, 0), (17, 0), (18, 1)] [o 7 (.fadr 0 (.t 3)), o 8 (.ld false 1 (.t 7)), mt 9 1, mt 10 2, o 11 (.call true true 0 (.fn 108) [.t 8, .t 9, .t 10]), o 12 (.fadr 1 (.t 3)), o 13 (.ld false 1 (.t 12)), mt 14 1, mt 15 2, o 16 (.call true true 0 (.fn 108) [.t 13, .t 14, .t 15]), o 17 (.fadr 0 (.t 3)), o 18 (.ld false 1 (.t 17)), o 19 (.fadr 1 (.t 3)), o 20 (.ld false 1 (.t 19)), o 21 (.bin .gtr (.t 18) (.t 20)), o 22 (.call true true 0 (.fn 107) [.t 21, ci 11]), o 23 (.bslice false 1 zl8 3 [(0, .t 11), (1, .t 16), (2, .t 22)]), o 24 (.call true true 0 (.fn 98) [.t 23]), mt 6 24] [6])
 (.ret))⟩

def c110 : AFunc := ⟨34, [.tmp 4],
 .seq (.ops [o 4 (.mv (ci 0))] [0, 1])
 (.seq (.opsd [(0, 1), (1, 1), (2, 1), (3, 1), (4, 1), (5, 1), (6, 1), (7, 1), (8, 1), (9, 1), (10, 0), (11, 0), (12, 0), (13, 1)] [mt 6 1, o 7 (.call true true 0 (.fn 155) [.t 6]), o 8 (.not (.t 7)), o 9 (.call true true 0 (.fn 107) [.t 8, ci 8]), mt 10 0, o 11 (.nilck (.t 10)), o 12 (.fadr 0 (.t 11)), o 13 (.ld false 1 (.t 12)), mt 14 1, o 15 (.lkup 1 (.p (.bool false)) (.t 13) (.t 14) false), o 16 (.call true true 0 (.fn 107) [.t 15, ci 9]), o 17 (.bslice false 1 zl8 2 [(0, .t 9), (1, .t 16)]), o 18 (.call true true 0 (.fn 98) [.t 17]), mt 5 18] [0, 1, 5])
 (.seq (.seq (.ops [mt 19 0, o 20 (.nilck (.t 19)), o 21 (.fadr 0 (.t 20)), o 22 (.ld false 1 (.t 21)), o 23 (.eqnil 2 false (.t 22))] [0, 1, 5, 23])
 (.cond (.t 23)
 (.ops [mt 24 0, o 25 (.mkmap), o 26 (.nilck (.t 24)), o 27 (.fadr 0 (.t 26)), u (.st 1 (.t 27) (.t 25))] [0, 1, 5])
 (.skip)))
 (.seq (.ops [mt 28 0, o 29 (.nilck (.t 28)), o 30 (.fadr 0 (.t 29)), o 31 (.ld false 1 (.t 30)), mt 32 1, u (.mupd 1 (.t 31) (.t 32) (cb true))] [5])
 (.seq (.ops [mt 33 5, mt 4 33] [4])
 (.ret)))))⟩

def c111L0 : ACode :=
 .seq (.seq (.ops [mt 25 5, o 26 (.bin .neq (.t 25) (ci 0))] [4, 5, 26])
 (.cond (.t 26)
 (.skip)
 (.exit 0)))
 (.block 1 (.opsd [(0, 1), (1, 1), (2, 1), (3, 1), (4, 1), (5, 1)] [mt 27 5, mt 28 4, mt 29 5, o 30 (.bin .rem (.t 28) (.t 29)), mt 4 27, mt 5 30] [4, 5]))
def c111 : AFunc := ⟨34, [.tmp 2],
 .seq (.ops [o 1 (.box true (.t 0)), o 2 (.mv (ci 0))] [1])
 (.seq (.seq (.opsd [(0, 1), (1, 1), (2, 1), (3, 1), (4, 1), (5, 0), (6, 0), (7, 0), (8, 1)] [o 6 (.fadr 0 (.t 1)), o 7 (.ld false 1 (.t 6)), o 8 (.call true true 0 (.fn 157) [.t 7, ci (-999999999), ci 999999999]), o 9 (.fadr 1 (.t 1)), o 10 (.ld false 1 (.t 9)), o 11 (.call true true 0 (.fn 157) [.t 10, ci 1, ci 999999999]), o 12 (.bslice false 1 zl8 2 [(0, .t 8), (1, .t 11)]), o 13 (.call true true 0 (.fn 156) [.t 12]), mt 3 13] [1, 3])
 (.seq (.ops [mt 14 3, o 15 (.bin .neq (.t 14) (ci 0))] [1, 3, 15])
 (.cond (.t 15)
 (.seq (.ops [mt 16 3, mt 2 16] [2])
 (.ret))
 (.skip))))
 (.seq (.opsd [(0, 1), (1, 1), (2, 1), (3, 1), (4, 1), (5, 1), (6, 1), (7, 1), (8, 1), (9, 1)] [o 17 (.fadr 0 (.t 1)), o 18 (.ld false 1 (.t 17)), o 19 (.fadr 0 (.t 1)), o 20 (.ld false 1 (.t 19)), o 21 (.neg (.t 20)), o 22 (.max [.t 18, .t 21]), o 23 (.fadr 1 (.t 1)), o 24 (.ld false 1 (.t 23)), mt 4 22, mt 5 24] [4, 5])
 (.seq (.block 0 (.loop false [4, 5] c111L0))
 (.seq (.ops [mt 31 4, o 32 (.bin .neq (.t 31) (ci 1)), o 33 (.call true true 0 (.fn 158) [.t 32, ci 1]), mt 2 33] [2])
 (.ret)))))⟩

def c112 : AFunc := ⟨16, [.tmp 4],
 .seq (.ops [o 2 (.box true (.t 0)), o 3 (.box true (.t 1)), o 4 (.mv (cb false))] [2, 3])
 (.seq (.ops [o 5 (.fadr 0 (.t 2)), o 6 (.ld false 1 (.t 5)), o 7 (.fadr 0 (.t 3)), o 8 (.ld false 1 (.t 7)), o 9 (.max [.t 6, .t 8]), o 10 (.fadr 1 (.t 2)), o 11 (.ld false 1 (.t 10)), o 12 (.fadr 1 (.t 3)), o 13 (.ld false 1 (.t 12)), o 14 (.min [.t 11, .t 13]), o 15 (.bin .leq (.t 9) (.t 14)), mt 4 15] [4])
 (.ret))⟩

def c115 : AFunc := ⟨11, [.tmp 4],
 .seq (.ops [o 3 (.box true (.t 1)), o 4 (.mv (ci 0))] [0, 3])
 (.seq (.ops [mt 5 0, o 6 (.fadr 0 (.t 3)), o 7 (.ld false 1 (.t 6)), o 8 (.fadr 1 (.t 3)), o 9 (.ld false 1 (.t 8)), o 10 (.call true true 0 (.fn 108) [.t 5, .t 7, .t 9]), mt 4 10] [4])
 (.ret))⟩

def c116L0 : ACode :=
 .seq (.ops [o 17 (.bin .lss (.t 16) (.t 15))] [1, 5, 14, 15, 16, 17])
 (.seq (.cond (.t 17)
 (.skip)
 (.exit 0))
 (.seq (.block 1 (.seq (.ops [mt 18 16, o 19 (.iadr 1 (.t 14) (.t 16)), o 20 (.ld false 1 (.t 19)), mt 6 18, mt 7 20] [1, 5, 6, 7, 14, 15, 16])
 (.ops [mt 21 5, mt 22 6, o 23 (.bin .add (.t 22) (ci 1)), mt 24 5, mt 25 6, o 26 (.iadr 1 (.t 24) (.t 25)), o 27 (.ld false 1 (.t 26)), mt 28 7, o 29 (.bin .add (.t 27) (.t 28)), mt 30 1, o 31 (.bin .sub (.t 29) (.t 30)), o 32 (.max [ci 0, .t 31]), o 33 (.iadr 1 (.t 21) (.t 23)), u (.st 1 (.t 33) (.t 32))] [1, 5, 14, 15, 16])))
 (.ops [o 34 (.bin .add (.t 16) (ci 1)), mt 16 34] [1, 5, 14, 15, 16])))
def c116 : AFunc := ⟨36, [.tmp 4],
 .seq (.ops [o 2 (.box false (.t 0)), o 4 (.mv (cn))] [1, 2])
 (.seq (.ops [o 8 (.fadr 0 (.t 2)), o 9 (.ld false 1 (.t 8)), o 10 (.len 1 (.t 9)), o 11 (.bin .add (.t 10) (ci 1)), o 12 (.mkslice 1 zl8 (.t 11) (.t 11)), mt 5 12] [1, 2, 5])
 (.seq (.seq (.ops [o 13 (.fadr 0 (.t 2)), o 14 (.ld false 1 (.t 13)), o 15 (.len 1 (.t 14)), o 16 (.mv (ci 0))] [1, 5, 14, 15, 16])
 (.block 0 (.loop false [1, 5, 14, 15, 16] c116L0)))
 (.seq (.ops [mt 35 5, mt 4 35] [4])
 (.ret))))⟩

def c117 : AFunc := ⟨14, [.tmp 4],
 .seq (.ops [o 2 (.box false (.t 0)), o 4 (.mv (ci 0))] [1, 2])
 (.seq (.ops [mt 5 1, o 6 (.bin .lss (.t 5) (ci 0)), mt 7 6, ⟨some 8, .mv (.t 1), some (7, false)⟩, ⟨some 9, .fadr 5 (.t 2), some (7, false)⟩, ⟨some 10, .ld false 1 (.t 9), some (7, false)⟩, ⟨some 11, .bin .gtr (.t 8) (.t 10), some (7, false)⟩, o 12 (.pick (.t 7) (cb true) (.t 11)), o 13 (.call true true 0 (.fn 107) [.t 12, ci 10]), mt 4 13] [4])
 (.ret))⟩

def c118 : AFunc := ⟨20, [.tmp 6, .tmp 7],
 .seq (.ops [o 6 (.mv (ci 0)), o 7 (.mv (cb false))] [0, 1, 2])
 (.seq (.block 0 (.seq (.ops [mt 9 1, o 10 (.bin .leq (.t 9) (ci 0)), mt 8 10] [0, 1, 2, 8])
 (.cond (.t 8)
 (.seq (.ops [mt 11 0, mt 6 11, o 7 (.mv (cb true))] [6, 7])
 (.ret))
 (.seq (.ops [mt 13 2, o 14 (.bin .eql (.t 13) (ci 0)), mt 12 14] [0, 1, 2, 12])
 (.cond (.t 12)
 (.seq (.ops [o 6 (.mv (ci 0)), o 7 (.mv (cb false))] [6, 7])
 (.ret))
 (.skip))))))
 (.seq (.ops [mt 15 0, mt 16 1, mt 17 2, o 18 (.call true true 0 (.fn 153) [.t 16, .t 17]), o 19 (.bin .add (.t 15) (.t 18)), mt 6 19, o 7 (.mv (cb true))] [6, 7])
 (.ret)))⟩

def c119 : AFunc := ⟨34, [.tmp 4],
 .seq (.ops [o 2 (.box false (.t 0)), o 4 (.mv (cb false))] [1, 2])
 (.seq (.opsd [(0, 1), (1, 1), (2, 1), (3, 1), (4, 1), (5, 1), (6, 1), (7, 1), (8, 1), (9, 1), (10, 1), (11, 1), (12, 1), (13, 1), (14, 1), (15, 1), (16, 0), (17, 1), (18, 1), (19, 1), (20, 1), (21, 1)] [mt 8 1, o 9 (.ld true 6 (.t 2)), o 10 (.fadr 1 (.t 2)), o 11 (.fadr 0 (.t 10)), o 12 (.ld false 1 (.t 11)), o 13 (.call true false 0 (.fn 116) [.t 9, .t 12]), mt 14 1, o 15 (.iadr 1 (.t 13) (.t 14)), o 16 (.ld false 1 (.t 15)), o 17 (.fadr 1 (.t 2)), o 18 (.fadr 0 (.t 17)), o 19 (.ld false 1 (.t 18)), o 20 (.fadr 3 (.t 2)), o 21 (.fadr 0 (.t 20)), o 22 (.ld false 1 (.t 21)), o 23 (.bin .add (.t 19) (.t 22)), o 24 (.call true true 0 (.fn 118) [.t 8, .t 16, .t 23]), mt 7 24, o 25 (.ext (.t 7) 0), o 26 (.ext (.t 7) 1), mt 5 25, mt 6 26] [2, 5, 6])
 (.seq (.ops [mt 27 6, mt 28 27, ⟨some 29, .mv (.t 5), some (28, true)⟩, ⟨some 30, .fadr 5 (.t 2), some (28, true)⟩, ⟨some 31, .ld false 1 (.t 30), some (28, true)⟩, ⟨some 32, .bin .leq (.t 29) (.t 31), some (28, true)⟩, o 33 (.pick (.t 28) (.t 32) (cb false)), mt 4 33] [4])
 (.ret)))⟩

def c120 : AFunc := ⟨4, [.tmp 2],
 .seq (.ops [o 1 (.box false (.t 0)), o 2 (.mv (.c (.p (.nilf))))] [1])
 (.seq (.ops [o 3 (.mkclo 160 [] [.t 1]), mt 2 3] [2])
 (.ret))⟩

def c121L0 : ACode :=
 .seq (.seq (.ops [mt 9 7, mt 10 0, o 11 (.len 1 (.t 10)), o 12 (.bin .lss (.t 9) (.t 11))] [0, 1, 2, 7, 12])
 (.cond (.t 12)
 (.skip)
 (.exit 0)))
 (.seq (.block 1 (.seq (.ops [mt 15 0, mt 16 7, o 17 (.iadr 1 (.t 15) (.t 16)), o 18 (.ld false 1 (.t 17)), mt 19 1, mt 20 2, o 21 (.call true true 0 (.fn 102) [.t 18, .t 19, .t 20]), mt 8 21] [0, 1, 2, 7, 8])
 (.seq (.ops [mt 22 8, o 23 (.bin .neq (.t 22) (ci 0))] [0, 1, 2, 7, 8, 23])
 (.cond (.t 23)
 (.seq (.ops [mt 24 8, mt 6 24] [6])
 (.ret))
 (.skip)))))
 (.ops [mt 13 7, o 14 (.bin .add (.t 13) (ci 1)), mt 7 14] [0, 1, 2, 7]))
def c121 : AFunc := ⟨25, [.tmp 6],
 .seq (.ops [o 6 (.mv (ci 0))] [0, 1, 2])
 (.seq (.seq (.ops [o 7 (.mv (ci 0))] [0, 1, 2, 7])
 (.block 0 (.loop false [0, 1, 2, 7] c121L0)))
 (.seq (.ops [o 6 (.mv (ci 0))] [6])
 (.ret)))⟩

def c122 : AFunc := ⟨11, [.tmp 6],
 .seq (.ops [o 4 (.box true (.t 1)), o 5 (.box true (.t 2)), o 6 (.mv (ci 0))] [0, 4, 5])
 (.seq (.ops [mt 7 0, o 8 (.mkclo 162 [] [.t 4, .t 5]), o 9 (.call true false 0 (.fn 161) [.t 7, .t 8]), o 10 (.call true true 0 (.fn 98) [.t 9]), mt 6 10] [6])
 (.ret))⟩

def c123L0 : ACode :=
 .seq (.ops [o 15 (.bin .lss (.t 14) (ci 2))] [2, 3, 5, 8, 9, 10, 14, 15])
 (.seq (.cond (.t 15)
 (.skip)
 (.exit 2))
 (.seq (.block 3 (.seq (.ops [mt 16 14, mt 6 16] [2, 3, 5, 6, 8, 9, 10, 14])
 (.opsd [(0, 1), (1, 1), (2, 1), (3, 1), (4, 1), (5, 1), (6, 1), (7, 1), (8, 0), (9, 1), (10, 0)] [mt 17 6, mt 18 6, o 19 (.iadra 2 2 (.t 3) (.t 18)), o 20 (.ld true 2 (.t 19)), mt 21 6, o 22 (.fadr 7 (.t 5)), o 23 (.iadra 2 2 (.t 22) (.t 21)), o 24 (.ld true 2 (.t 23)), o 25 (.call true true 0 (.fn 165) [.t 20, .t 24]), o 26 (.iadra 2 2 (.t 3) (.t 17)), u (.st 2 (.t 26) (.t 25))] [2, 3, 5, 8, 9, 10, 14])))
 (.ops [o 27 (.bin .add (.t 14) (ci 1)), mt 14 27] [2, 3, 5, 8, 9, 10, 14])))
def c123L1 : ACode :=
 .seq (.ops [o 11 (.bin .lss (.t 10) (.t 9))] [2, 3, 8, 9, 10, 11])
 (.seq (.cond (.t 11)
 (.skip)
 (.exit 0))
 (.seq (.block 1 (.seq (.ops [o 12 (.iadr 11 (.t 8) (.t 10)), o 13 (.ld true 11 (.t 12)), o 5 (.alloc true 1 zl0), u (.st 11 (.t 5) (.t 13))] [2, 3, 5, 8, 9, 10])
 (.seq (.ops [o 14 (.mv (ci 0))] [2, 3, 5, 8, 9, 10, 14])
 (.block 2 (.loop false [2, 3, 5, 8, 9, 10, 14] c123L0)))))
 (.ops [o 28 (.bin .add (.t 10) (ci 1)), mt 10 28] [2, 3, 8, 9, 10])))
def c123 : AFunc := ⟨30, [.cell 2 true 4],
 .seq (.ops [o 2 (.alloc true 2 zl5)] [0, 2])
 (.seq (.ops [o 3 (.alloc true 2 zl5)] [0, 2, 3])
 (.seq (.seq (.ops [mt 7 0, o 8 (.call true false 0 (.fn 163) [.t 7, cf 164]), o 9 (.len 1 (.t 8)), o 10 (.mv (ci 0))] [2, 3, 8, 9, 10])
 (.block 0 (.loop true [2, 3, 8, 9, 10] c123L1)))
 (.seq (.ops [o 29 (.ld true 4 (.t 3)), u (.st 4 (.t 2) (.t 29))] [2])
 (.ret))))⟩

def c124 : AFunc := ⟨15, [.cell 2 true 2],
 .seq (.ops [o 2 (.alloc true 1 zl7)] [0, 2])
 (.seq (.ops [mt 4 0, o 5 (.call true true 0 (.fn 123) [.t 4]), o 3 (.alloc true 2 zl5), u (.st 4 (.t 3) (.t 5))] [2, 3])
 (.seq (.seq (.ops [o 6 (.ld true 4 (.t 3)), o 7 (.build zl5 []), o 8 (.eqagg [0, 0, 0, 0] false (.t 6) (.t 7))] [2, 3, 8])
 (.cond (.t 8)
 (.seq (.ops [o 9 (.build zl7 []), u (.st 2 (.t 2) (.t 9))] [2])
 (.ret))
 (.skip)))
 (.seq (.ops [o 10 (.iadra 2 2 (.t 3) (ci 1)), o 11 (.ld true 2 (.t 10)), o 12 (.iadra 2 2 (.t 3) (ci 0)), o 13 (.ld true 2 (.t 12)), o 14 (.call true true 0 (.fn 166) [.t 11, .t 13]), u (.st 2 (.t 2) (.t 14))] [2])
 (.ret))))⟩

def c125 : AFunc := ⟨11, [.tmp 4],
 .seq (.ops [o 4 (.mv (ci 0))] [0, 1])
 (.seq (.ops [mt 5 0, o 6 (.call false true 0 (.fn 71) [.t 5]), mt 7 1, o 8 (.call true true 0 (.fn 82) [.t 7]), o 9 (.bslice false 1 zl8 2 [(0, .t 6), (1, .t 8)]), o 10 (.call true true 0 (.fn 98) [.t 9]), mt 4 10] [4])
 (.ret))⟩

def c126 : AFunc := ⟨7, [.cell 2 true 2],
 .seq (.ops [o 2 (.alloc true 1 zl7)] [0, 2])
 (.seq (.ops [o 3 (.build zl7 []), mt 4 0, o 5 (.call true true 0 (.fn 124) [.t 4]), o 6 (.call true true 0 (.fn 166) [.t 3, .t 5]), u (.st 2 (.t 2) (.t 6))] [2])
 (.ret))⟩

def c127L0 : ACode :=
 .seq (.ops [o 9 (.bin .lss (.t 8) (.t 7))] [2, 3, 6, 7, 8, 9])
 (.seq (.cond (.t 9)
 (.skip)
 (.exit 0))
 (.seq (.block 1 (.seq (.ops [o 10 (.iadr 2 (.t 6) (.t 8)), o 11 (.ld true 2 (.t 10)), o 5 (.alloc true 1 zl7), u (.st 2 (.t 5) (.t 11))] [2, 3, 5, 6, 7, 8])
 (.ops [o 12 (.ld true 2 (.t 3)), o 13 (.ld true 2 (.t 5)), o 14 (.call true true 0 (.fn 165) [.t 12, .t 13]), u (.st 2 (.t 3) (.t 14))] [2, 3, 6, 7, 8])))
 (.ops [o 15 (.bin .add (.t 8) (ci 1)), mt 8 15] [2, 3, 6, 7, 8])))
def c127 : AFunc := ⟨17, [.cell 2 true 2],
 .seq (.ops [o 2 (.alloc true 1 zl7)] [0, 2])
 (.seq (.ops [o 3 (.alloc true 1 zl7)] [0, 2, 3])
 (.seq (.seq (.ops [mt 6 0, o 7 (.len 1 (.t 6)), o 8 (.mv (ci 0))] [2, 3, 6, 7, 8])
 (.block 0 (.loop true [2, 3, 6, 7, 8] c127L0)))
 (.seq (.ops [o 16 (.ld true 2 (.t 3)), u (.st 2 (.t 2) (.t 16))] [2])
 (.ret))))⟩

def c128L0 : ACode :=
 .seq (.ops [o 11 (.bin .lss (.t 10) (.t 9))] [1, 5, 8, 9, 10, 11])
 (.seq (.cond (.t 11)
 (.skip)
 (.exit 0))
 (.seq (.block 1 (.seq (.ops [o 12 (.iadr 6 (.t 8) (.t 10)), o 13 (.ld true 6 (.t 12)), o 7 (.alloc false 1 zl3), u (.st 6 (.t 7) (.t 13))] [1, 5, 7, 8, 9, 10])
 (.ops [mt 14 5, mt 15 1, o 16 (.ld true 6 (.t 7)), o 17 (.call false true 0 (.val (.t 15)) [.t 16]), o 18 (.bslice false 2 zl7 1 [(0, .t 17)]), o 19 (.app 2 16 zl7 (.t 14) (.t 18)), mt 5 19] [1, 5, 8, 9, 10])))
 (.ops [o 20 (.bin .add (.t 10) (ci 1)), mt 10 20] [1, 5, 8, 9, 10])))
def c128 : AFunc := ⟨22, [.tmp 4],
 .seq (.ops [o 4 (.mv (cn))] [0, 1])
 (.seq (.ops [o 5 (.nilown 2)] [0, 1, 5])
 (.seq (.seq (.ops [mt 8 0, o 9 (.len 1 (.t 8)), o 10 (.mv (ci 0))] [1, 5, 8, 9, 10])
 (.block 0 (.loop true [1, 5, 8, 9, 10] c128L0)))
 (.seq (.ops [mt 21 5, mt 4 21] [4])
 (.ret))))⟩

def c129 : AFunc := ⟨23, [.cell 2 true 2],
 .seq (.ops [o 1 (.box false (.t 0)), o 2 (.alloc true 1 zl7)] [1, 2])
 (.seq (.opsd [(0, 1), (1, 1), (2, 1), (3, 1), (4, 1), (5, 1), (6, 1), (7, 1), (8, 1), (9, 1), (10, 1)] [o 5 (.fadr 5 (.t 1)), o 6 (.ld false 1 (.t 5)), o 7 (.call true true 0 (.fn 137) [.t 6]), o 8 (.fadr 5 (.t 1)), o 9 (.ld false 1 (.t 8)), o 10 (.len 1 (.t 9)), o 11 (.fadr 4 (.t 1)), o 12 (.ld false 1 (.t 11)), o 13 (.bin .mul (.t 10) (.t 12)), mt 3 7, mt 4 13] [2, 3, 4])
 (.seq (.ops [mt 14 3, mt 15 4, o 16 (.bin .sub (.t 14) (.t 15)), o 17 (.bin .mul (ci 100) (.t 16)), mt 18 3, mt 19 4, o 20 (.bin .add (.t 18) (.t 19)), o 21 (.bin .mul (ci 100) (.t 20)), o 22 (.build zl7 [(0, 1, .t 17), (1, 1, .t 21)]), u (.st 2 (.t 2) (.t 22))] [2])
 (.ret)))⟩

def c130 : AFunc := ⟨15, [.cell 2 true 2],
 .seq (.ops [o 1 (.box false (.t 0)), o 2 (.alloc true 1 zl7)] [1, 2])
 (.seq (.ops [o 4 (.fadr 5 (.t 1)), o 5 (.ld false 1 (.t 4)), o 6 (.len 1 (.t 5)), o 7 (.bin .mul (ci 100) (.t 6)), o 8 (.fadr 3 (.t 1)), o 9 (.ld false 1 (.t 8)), o 10 (.bin .mul (.t 7) (.t 9)), mt 3 10] [2, 3])
 (.seq (.ops [mt 11 3, o 12 (.neg (.t 11)), mt 13 3, o 14 (.build zl7 [(0, 1, .t 12), (1, 1, .t 13)]), u (.st 2 (.t 2) (.t 14))] [2])
 (.ret)))⟩

def c134L0 : ACode :=
 .seq (.ops [o 24 (.bin .lss (.t 23) (.t 22))] [3, 14, 15, 16, 21, 22, 23, 24])
 (.seq (.cond (.t 24)
 (.skip)
 (.exit 2))
 (.seq (.block 3 (.seq (.ops [mt 25 23, o 26 (.iadr 1 (.t 21) (.t 23)), o 27 (.ld false 1 (.t 26)), mt 6 25, mt 7 27] [3, 6, 7, 14, 15, 16, 21, 22, 23])
 (.ops [mt 28 3, mt 29 6, o 30 (.iadr 1 (.t 28) (.t 29)), o 31 (.ld false 1 (.t 30)), mt 32 7, o 33 (.bin .add (.t 31) (.t 32)), o 34 (.iadr 1 (.t 28) (.t 29)), u (.st 1 (.t 34) (.t 33))] [3, 14, 15, 16, 21, 22, 23])))
 (.ops [o 35 (.bin .add (.t 23) (ci 1)), mt 23 35] [3, 14, 15, 16, 21, 22, 23])))
def c134L1 : ACode :=
 .seq (.ops [o 17 (.bin .lss (.t 16) (.t 15))] [3, 14, 15, 16, 17])
 (.seq (.cond (.t 17)
 (.skip)
 (.exit 0))
 (.seq (.block 1 (.seq (.ops [o 18 (.iadr 6 (.t 14) (.t 16)), o 19 (.ld true 6 (.t 18)), o 5 (.alloc false 1 zl3), u (.st 6 (.t 5) (.t 19))] [3, 5, 14, 15, 16])
 (.seq (.ops [o 20 (.fadr 5 (.t 5)), o 21 (.ld false 1 (.t 20)), o 22 (.len 1 (.t 21)), o 23 (.mv (ci 0))] [3, 14, 15, 16, 21, 22, 23])
 (.block 2 (.loop false [3, 14, 15, 16, 21, 22, 23] c134L0)))))
 (.ops [o 36 (.bin .add (.t 16) (ci 1)), mt 16 36] [3, 14, 15, 16])))
def c134 : AFunc := ⟨38, [.tmp 2],
 .seq (.ops [o 2 (.mv (cn))] [0])
 (.seq (.ops [mt 8 0, o 9 (.iadr 6 (.t 8) (ci 0)), o 10 (.fadr 5 (.t 9)), o 11 (.ld false 1 (.t 10)), o 12 (.len 1 (.t 11)), o 13 (.mkslice 1 zl8 (.t 12) (.t 12)), mt 3 13] [0, 3])
 (.seq (.seq (.ops [mt 14 0, o 15 (.len 1 (.t 14)), o 16 (.mv (ci 0))] [3, 14, 15, 16])
 (.block 0 (.loop true [3, 14, 15, 16] c134L1)))
 (.seq (.ops [mt 37 3, mt 2 37] [2])
 (.ret))))⟩

def c135L0 : ACode :=
 .seq (.seq (.ops [mt 12 4, mt 13 0, o 14 (.len 1 (.t 13)), o 15 (.bin .lss (.t 12) (.t 14))] [0, 3, 4, 15])
 (.cond (.t 15)
 (.skip)
 (.exit 0)))
 (.seq (.block 1 (.ops [mt 18 3, mt 19 0, mt 20 4, o 21 (.iadr 1 (.t 19) (.t 20)), o 22 (.ld false 1 (.t 21)), o 23 (.max [.t 18, .t 22]), mt 3 23] [0, 3, 4]))
 (.ops [mt 16 4, o 17 (.bin .add (.t 16) (ci 1)), mt 4 17] [0, 3, 4]))
def c135 : AFunc := ⟨25, [.tmp 2],
 .seq (.ops [o 2 (.mv (ci 0))] [0])
 (.seq (.seq (.ops [mt 5 0, o 6 (.len 1 (.t 5)), o 7 (.bin .lss (.t 6) (ci 1))] [0, 7])
 (.cond (.t 7)
 (.ops [o 8 (.fail), u (.fail)] [0])
 (.skip)))
 (.seq (.ops [mt 9 0, o 10 (.iadr 1 (.t 9) (ci 0)), o 11 (.ld false 1 (.t 10)), mt 3 11] [0, 3])
 (.seq (.seq (.ops [o 4 (.mv (ci 1))] [0, 3, 4])
 (.block 0 (.loop false [0, 3, 4] c135L0)))
 (.seq (.ops [mt 24 3, mt 2 24] [2])
 (.ret)))))⟩

def c136L0 : ACode :=
 .seq (.ops [o 9 (.bin .lss (.t 8) (.t 7))] [0, 1, 7, 8, 9])
 (.seq (.cond (.t 9)
 (.skip)
 (.exit 0))
 (.seq (.block 1 (.seq (.ops [mt 10 8, mt 5 10] [0, 1, 5, 7, 8])
 (.seq (.ops [mt 11 1, mt 12 0, mt 13 5, o 14 (.iadr 1 (.t 12) (.t 13)), o 15 (.ld false 1 (.t 14)), o 16 (.bin .eql (.t 11) (.t 15))] [0, 1, 5, 7, 8, 16])
 (.cond (.t 16)
 (.seq (.ops [mt 17 5, mt 4 17] [4])
 (.ret))
 (.skip)))))
 (.ops [o 18 (.bin .add (.t 8) (ci 1)), mt 8 18] [0, 1, 7, 8])))
def c136 : AFunc := ⟨19, [.tmp 4],
 .seq (.ops [o 4 (.mv (ci 0))] [0, 1])
 (.seq (.seq (.ops [mt 6 0, o 7 (.len 1 (.t 6)), o 8 (.mv (ci 0))] [0, 1, 7, 8])
 (.block 0 (.loop false [0, 1, 7, 8] c136L0)))
 (.seq (.ops [o 4 (.mv (ci (-1)))] [4])
 (.ret)))⟩

def c137L0 : ACode :=
 .seq (.ops [o 9 (.bin .lss (.t 8) (.t 7))] [3, 6, 7, 8, 9])
 (.seq (.cond (.t 9)
 (.skip)
 (.exit 0))
 (.seq (.block 1 (.seq (.ops [o 10 (.iadr 1 (.t 6) (.t 8)), o 11 (.ld false 1 (.t 10)), mt 5 11] [3, 5, 6, 7, 8])
 (.ops [mt 12 3, mt 13 5, o 14 (.bin .add (.t 12) (.t 13)), mt 3 14] [3, 6, 7, 8])))
 (.ops [o 15 (.bin .add (.t 8) (ci 1)), mt 8 15] [3, 6, 7, 8])))
def c137 : AFunc := ⟨17, [.tmp 2],
 .seq (.ops [o 2 (.mv (ci 0))] [0])
 (.seq (.ops [o 3 (.mv (ci 0))] [0, 3])
 (.seq (.seq (.ops [mt 6 0, o 7 (.len 1 (.t 6)), o 8 (.mv (ci 0))] [3, 6, 7, 8])
 (.block 0 (.loop false [3, 6, 7, 8] c137L0)))
 (.seq (.ops [mt 16 3, mt 2 16] [2])
 (.ret))))⟩

def c138L0 : ACode :=
 .seq (.ops [o 11 (.bin .lss (.t 10) (.t 9))] [1, 5, 8, 9, 10, 11])
 (.seq (.cond (.t 11)
 (.skip)
 (.exit 0))
 (.seq (.block 1 (.seq (.ops [o 12 (.iadr 6 (.t 8) (.t 10)), o 13 (.ld true 6 (.t 12)), o 7 (.alloc false 1 zl3), u (.st 6 (.t 7) (.t 13))] [1, 5, 7, 8, 9, 10])
 (.ops [mt 14 5, mt 15 1, o 16 (.ld true 6 (.t 7)), o 17 (.call false true 0 (.val (.t 15)) [.t 16]), o 18 (.bslice false 1 zl8 1 [(0, .t 17)]), o 19 (.app 1 8 zl8 (.t 14) (.t 18)), mt 5 19] [1, 5, 8, 9, 10])))
 (.ops [o 20 (.bin .add (.t 10) (ci 1)), mt 10 20] [1, 5, 8, 9, 10])))
def c138 : AFunc := ⟨22, [.tmp 4],
 .seq (.ops [o 4 (.mv (cn))] [0, 1])
 (.seq (.ops [o 5 (.nilown 1)] [0, 1, 5])
 (.seq (.seq (.ops [mt 8 0, o 9 (.len 1 (.t 8)), o 10 (.mv (ci 0))] [1, 5, 8, 9, 10])
 (.block 0 (.loop true [1, 5, 8, 9, 10] c138L0)))
 (.seq (.ops [mt 21 5, mt 4 21] [4])
 (.ret))))⟩

def c139 : AFunc := ⟨16, [.tmp 4],
 .seq (.ops [o 3 (.box false (.t 0)), o 4 (.mv (ci 0))] [1, 2, 3])
 (.seq (.opsd [(0, 1), (1, 1), (2, 1), (3, 1), (4, 1), (5, 1), (6, 1), (7, 1), (8, 1), (9, 1), (10, 1), (11, 1)] [o 5 (.fadr 0 (.t 1)), o 6 (.ld false 1 (.t 5)), o 7 (.fadr 1 (.t 3)), o 8 (.ld true 2 (.t 7)), o 9 (.call false true 0 (.val (.t 6)) [.t 8]), o 10 (.fadr 5 (.t 3)), o 11 (.ld false 1 (.t 10)), o 12 (.ld false 1 (.t 2)), o 13 (.iadr 1 (.t 11) (.t 12)), o 14 (.ld false 1 (.t 13)), o 15 (.bin .mul (.t 9) (.t 14)), mt 4 15] [4])
 (.ret))⟩

def c140 : AFunc := ⟨16, [.tmp 2],
 .seq (.ops [o 1 (.box true (.t 0)), o 2 (.mv (cb false))] [1])
 (.seq (.ops [o 3 (.fadr 0 (.t 1)), o 4 (.ld false 1 (.t 3)), o 5 (.bin .gtr (.t 4) (ci 999999999)), mt 6 5, ⟨some 7, .fadr 0 (.t 1), some (6, false)⟩, ⟨some 8, .ld false 1 (.t 7), some (6, false)⟩, ⟨some 9, .bin .lss (.t 8) (ci (-999999999)), some (6, false)⟩, o 10 (.pick (.t 6) (cb true) (.t 9)), mt 11 10, ⟨some 12, .fadr 1 (.t 1), some (11, false)⟩, ⟨some 13, .ld false 1 (.t 12), some (11, false)⟩, ⟨some 14, .bin .gtr (.t 13) (ci 999999999), some (11, false)⟩, o 15 (.pick (.t 11) (cb true) (.t 14)), mt 2 15] [2])
 (.ret))⟩

def c141L0 : ACode :=
 .seq (.seq (.ops [mt 7 3, o 8 (.bin .gtr (.t 7) (ci 0))] [0, 3, 8])
 (.cond (.t 8)
 (.skip)
 (.exit 0)))
 (.seq (.block 1 (.seq (.opsd [(0, 1), (1, 1), (2, 1), (3, 1), (4, 1), (5, 1), (6, 1), (7, 1), (8, 1), (9, 0)] [mt 11 0, mt 12 3, o 13 (.iadr 1 (.t 11) (.t 12)), o 14 (.ld false 1 (.t 13)), mt 15 0, mt 16 3, o 17 (.bin .sub (.t 16) (ci 1)), o 18 (.iadr 1 (.t 15) (.t 17)), o 19 (.ld false 1 (.t 18)), o 20 (.call true true 0 (.fn 167) [.t 14, .t 19])] [0, 3, 20])
 (.cond (.t 20)
 (.seq (.ops [o 2 (.mv (cb false))] [2])
 (.ret))
 (.skip))))
 (.ops [mt 9 3, o 10 (.bin .sub (.t 9) (ci 1)), mt 3 10] [0, 3]))
def c141 : AFunc := ⟨21, [.tmp 2],
 .seq (.ops [o 2 (.mv (cb false))] [0])
 (.seq (.seq (.ops [mt 4 0, o 5 (.len 1 (.t 4)), o 6 (.bin .sub (.t 5) (ci 1)), mt 3 6] [0, 3])
 (.block 0 (.loop false [0, 3] c141L0)))
 (.seq (.ops [o 2 (.mv (cb true))] [2])
 (.ret)))⟩

def c144 : AFunc := ⟨13, [.tmp 4],
 .seq (.ops [o 2 (.box true (.t 0)), o 4 (.mv (cs []))] [1, 2])
 (.seq (.opsd [(0, 1), (1, 1), (3, 1), (4, 1), (2, 2), (5, 0), (6, 0), (7, 1), (8, 1)] [o 5 (.fadr 0 (.t 2)), o 6 (.ld false 1 (.t 5)), mt 8 1, o 9 (.call true false 0 (.fn 146) [.t 8, cf 168]), o 7 (.bslice true 1 zl9 1 [(0, .t 6)]), o 10 (.app 1 16 zl9 (.t 7) (.t 9)), o 11 (.call true true 0 (.fn 145) [.t 10, cs [32]]), o 12 (.bin .add (.t 11) (cs [10])), mt 4 12] [4])
 (.ret))⟩

def c146L0 : ACode :=
 .seq (.ops [o 11 (.bin .lss (.t 10) (.t 9))] [1, 5, 8, 9, 10, 11])
 (.seq (.cond (.t 11)
 (.skip)
 (.exit 0))
 (.seq (.block 1 (.seq (.ops [o 12 (.iadr 1 (.t 8) (.t 10)), o 13 (.ld false 1 (.t 12)), mt 7 13] [1, 5, 7, 8, 9, 10])
 (.ops [mt 14 5, mt 15 1, mt 16 7, o 17 (.call false true 0 (.val (.t 15)) [.t 16]), o 18 (.bslice false 1 zl9 1 [(0, .t 17)]), o 19 (.app 1 16 zl9 (.t 14) (.t 18)), mt 5 19] [1, 5, 8, 9, 10])))
 (.ops [o 20 (.bin .add (.t 10) (ci 1)), mt 10 20] [1, 5, 8, 9, 10])))
def c146 : AFunc := ⟨22, [.tmp 4],
 .seq (.ops [o 4 (.mv (cn))] [0, 1])
 (.seq (.ops [o 5 (.nilown 1)] [0, 1, 5])
 (.seq (.seq (.ops [mt 8 0, o 9 (.len 1 (.t 8)), o 10 (.mv (ci 0))] [1, 5, 8, 9, 10])
 (.block 0 (.loop true [1, 5, 8, 9, 10] c146L0)))
 (.seq (.ops [mt 21 5, mt 4 21] [4])
 (.ret))))⟩

def c147 : AFunc := ⟨8, [.tmp 2],
 .seq (.ops [o 2 (.mv (cs []))] [0])
 (.seq (.ops [o 3 (.iadra 2 4 (.g 1) (ci 3)), o 4 (.ld true 2 (.t 3)), mt 5 0, o 6 (.bslice false 1 zl8 1 [(0, .t 5)]), o 7 (.call true true 0 (.fn 144) [.t 4, .t 6]), mt 2 7] [2])
 (.ret))⟩

def c148 : AFunc := ⟨4, [.tmp 2],
 .seq (.ops [o 1 (.box true (.t 0)), o 2 (.mv (.c (.p (.nilf))))] [1])
 (.seq (.ops [o 3 (.mkclo 172 [] [.t 1]), mt 2 3] [2])
 (.ret))⟩

def c149L0 : ACode :=
 .seq (.ops [o 43 (.bin .lss (.t 42) (.t 41))] [9, 40, 41, 42, 43])
 (.seq (.cond (.t 43)
 (.skip)
 (.exit 0))
 (.seq (.block 1 (.seq (.ops [o 44 (.iadr 1 (.t 40) (.t 42)), o 45 (.ld false 1 (.t 44)), mt 11 45] [9, 11, 40, 41, 42])
 (.seq (.ops [mt 47 11, o 48 (.call true true 0 (.fn 176) [.t 47]), mt 46 48, o 49 (.ext (.t 46) 0), o 50 (.ext (.t 46) 1), mt 12 49, mt 13 50] [9, 12, 13, 40, 41, 42])
 (.seq (.seq (.ops [mt 51 13, o 52 (.not (.t 51))] [9, 12, 40, 41, 42, 52])
 (.cond (.t 52)
 (.seq (.ops [o 4 (.mv (cn)), o 5 (.mv (cb false))] [4, 5])
 (.ret))
 (.skip)))
 (.ops [mt 53 9, mt 54 12, o 55 (.bslice false 1 zl8 1 [(0, .t 54)]), o 56 (.app 1 8 zl8 (.t 53) (.t 55)), mt 9 56] [9, 40, 41, 42])))))
 (.ops [o 57 (.bin .add (.t 42) (ci 1)), mt 42 57] [9, 40, 41, 42])))
def c149 : AFunc := ⟨59, [.tmp 4, .tmp 5],
 .seq (.ops [o 2 (.box true (.t 0)), o 4 (.mv (cn)), o 5 (.mv (cb false))] [1, 2])
 (.seq (.ops [mt 15 1, o 16 (.call true true 0 (.fn 174) [.t 15, cs [10]]), mt 14 16, o 17 (.ext (.t 14) 0), o 18 (.ext (.t 14) 1), mt 6 17, mt 7 18] [2, 6, 7])
 (.seq (.ops [mt 19 6, o 20 (.call true false 0 (.fn 175) [.t 19, cs [32]]), mt 8 20] [2, 7, 8])
 (.seq (.seq (.opsd [(0, 1), (1, 1), (2, 1), (3, 1), (4, 1), (5, 1), (6, 1), (7, 1), (8, 1), (9, 1), (10, 1), (11, 1), (12, 1), (13, 1), (14, 1), (15, 1), (16, 1), (17, 1)] [mt 21 7, o 22 (.not (.t 21)), mt 23 22, ⟨some 24, .mv (.t 8), some (23, false)⟩, ⟨some 25, .iadr 1 (.t 24) (ci 0), some (23, false)⟩, ⟨some 26, .ld false 1 (.t 25), some (23, false)⟩, ⟨some 27, .fadr 0 (.t 2), some (23, false)⟩, ⟨some 28, .ld false 1 (.t 27), some (23, false)⟩, ⟨some 29, .bin .neq (.t 26) (.t 28), some (23, false)⟩, o 30 (.pick (.t 23) (cb true) (.t 29)), mt 31 30, ⟨some 32, .mv (.t 8), some (31, false)⟩, ⟨some 33, .len 1 (.t 32), some (31, false)⟩, ⟨some 34, .fadr 1 (.t 2), some (31, false)⟩, ⟨some 35, .ld false 1 (.t 34), some (31, false)⟩, ⟨some 36, .bin .add (.t 35) (ci 1), some (31, false)⟩, ⟨some 37, .bin .neq (.t 33) (.t 36), some (31, false)⟩, o 38 (.pick (.t 31) (cb true) (.t 37))] [8, 38])
 (.cond (.t 38)
 (.seq (.ops [o 4 (.mv (cn)), o 5 (.mv (cb false))] [4, 5])
 (.ret))
 (.skip)))
 (.seq (.ops [o 9 (.nilown 1)] [8, 9])
 (.seq (.seq (.ops [mt 39 8, o 40 (.slc 1 (.t 39) (some (ci 1)) none), o 41 (.len 1 (.t 40)), o 42 (.mv (ci 0))] [9, 40, 41, 42])
 (.block 0 (.loop false [9, 40, 41, 42] c149L0)))
 (.seq (.ops [mt 58 9, mt 4 58, o 5 (.mv (cb true))] [4, 5])
 (.ret)))))))⟩

def c150L0 : ACode :=
 .seq (.ops [o 12 (.bin .lss (.t 11) (.t 10))] [0, 3, 9, 10, 11, 12])
 (.seq (.cond (.t 12)
 (.skip)
 (.exit 0))
 (.seq (.block 1 (.seq (.ops [o 13 (.iadr 1 (.t 9) (.t 11)), o 14 (.ld false 1 (.t 13)), mt 5 14] [0, 3, 5, 9, 10, 11])
 (.seq (.ops [mt 15 3, mt 16 5, o 17 (.len 1 (.t 16)), o 18 (.bin .add (.t 15) (.t 17)), mt 3 18] [0, 3, 9, 10, 11])
 (.seq (.ops [mt 19 3, o 20 (.bin .lss (.t 19) (ci 0))] [0, 3, 9, 10, 11, 20])
 (.cond (.t 20)
 (.ops [o 21 (.fail), u (.fail)] [0, 3, 9, 10, 11])
 (.skip))))))
 (.ops [o 22 (.bin .add (.t 11) (ci 1)), mt 11 22] [0, 3, 9, 10, 11])))
def c150L1 : ACode :=
 .seq (.ops [o 28 (.bin .lss (.t 27) (.t 26))] [6, 25, 26, 27, 28])
 (.seq (.cond (.t 28)
 (.skip)
 (.exit 2))
 (.seq (.block 3 (.seq (.ops [o 29 (.iadr 1 (.t 25) (.t 27)), o 30 (.ld false 1 (.t 29)), mt 8 30] [6, 8, 25, 26, 27])
 (.ops [mt 31 6, mt 32 8, o 33 (.app 1 8 zl8 (.t 31) (.t 32)), mt 6 33] [6, 25, 26, 27])))
 (.ops [o 34 (.bin .add (.t 27) (ci 1)), mt 27 34] [6, 25, 26, 27])))
def c150 : AFunc := ⟨36, [.tmp 2],
 .seq (.ops [o 2 (.mv (cn))] [0])
 (.seq (.ops [o 3 (.mv (ci 0))] [0, 3])
 (.seq (.seq (.ops [mt 9 0, o 10 (.len 1 (.t 9)), o 11 (.mv (ci 0))] [0, 3, 9, 10, 11])
 (.block 0 (.loop false [0, 3, 9, 10, 11] c150L0)))
 (.seq (.ops [mt 23 3, o 24 (.call false false 2001 (.fn 177) [cn, .t 23]), mt 6 24] [0, 6])
 (.seq (.seq (.ops [mt 25 0, o 26 (.len 1 (.t 25)), o 27 (.mv (ci 0))] [6, 25, 26, 27])
 (.block 2 (.loop false [6, 25, 26, 27] c150L1)))
 (.seq (.ops [mt 35 6, mt 2 35] [2])
 (.ret))))))⟩

def c153 : AFunc := ⟨11, [.tmp 4],
 .seq (.ops [o 4 (.mv (ci 0))] [0, 1])
 (.seq (.ops [mt 5 0, mt 6 1, o 7 (.bin .add (.t 5) (.t 6)), o 8 (.bin .sub (.t 7) (ci 1)), mt 9 1, o 10 (.bin .quo (.t 8) (.t 9)), mt 4 10] [4])
 (.ret))⟩

def c155L0 : ACode :=
 .seq (.ops [o 8 (.nxt (.t 7) true), o 9 (.ext (.t 8) 0)] [0, 7, 8, 9])
 (.seq (.cond (.t 9)
 (.skip)
 (.exit 0))
 (.block 1 (.seq (.ops [o 10 (.ext (.t 8) 1), o 11 (.ext (.t 8) 2), mt 3 10, mt 4 11] [0, 3, 4, 7])
 (.seq (.ops [mt 12 4, o 13 (.bin .geq (.t 12) (.c (.p (.int .i32 97)))), mt 14 13, ⟨some 15, .mv (.t 4), some (14, true)⟩, ⟨some 16, .bin .leq (.t 15) (.c (.p (.int .i32 122))), some (14, true)⟩, o 17 (.pick (.t 14) (.t 16) (cb false)), mt 18 17, ⟨some 19, .mv (.t 4), some (18, false)⟩, ⟨some 20, .bin .geq (.t 19) (.c (.p (.int .i32 65))), some (18, false)⟩, ⟨some 21, .mv (.t 20), some (18, false)⟩, ⟨some 22, .mv (.t 4), some (21, true)⟩, ⟨some 23, .bin .leq (.t 22) (.c (.p (.int .i32 90))), some (21, true)⟩, ⟨some 24, .pick (.t 21) (.t 23) (cb false), some (18, false)⟩, o 25 (.pick (.t 18) (cb true) (.t 24)), mt 5 25] [0, 3, 4, 5, 7])
 (.seq (.ops [mt 26 5, o 27 (.not (.t 26)), mt 28 27, ⟨some 29, .mv (.t 3), some (28, true)⟩, ⟨some 30, .bin .eql (.t 29) (ci 0), some (28, true)⟩, ⟨some 31, .mv (.t 30), some (28, true)⟩, ⟨some 32, .mv (.t 4), some (31, false)⟩, ⟨some 33, .bin .neq (.t 32) (.c (.p (.int .i32 95))), some (31, false)⟩, ⟨some 34, .mv (.t 33), some (31, false)⟩, ⟨some 35, .mv (.t 4), some (34, true)⟩, ⟨some 36, .bin .lss (.t 35) (.c (.p (.int .i32 48))), some (34, true)⟩, ⟨some 37, .mv (.t 36), some (34, true)⟩, ⟨some 38, .mv (.t 4), some (37, false)⟩, ⟨some 39, .bin .gtr (.t 38) (.c (.p (.int .i32 57))), some (37, false)⟩, ⟨some 40, .pick (.t 37) (cb true) (.t 39), some (34, true)⟩, ⟨some 41, .pick (.t 34) (.t 40) (cb false), some (31, false)⟩, ⟨some 42, .pick (.t 31) (cb true) (.t 41), some (28, true)⟩, o 43 (.pick (.t 28) (.t 42) (cb false))] [0, 7, 43])
 (.cond (.t 43)
 (.seq (.ops [o 2 (.mv (cb false))] [2])
 (.ret))
 (.skip)))))))
def c155 : AFunc := ⟨51, [.tmp 2],
 .seq (.ops [o 2 (.mv (cb false))] [0])
 (.seq (.seq (.ops [mt 6 0, o 7 (.rngs (.t 6))] [0, 7])
 (.block 0 (.loop false [0, 7] c155L0)))
 (.seq (.ops [mt 44 0, o 45 (.bin .neq (.t 44) (cs [])), mt 46 45, ⟨some 47, .mv (.t 0), some (46, true)⟩, ⟨some 48, .len 0 (.t 47), some (46, true)⟩, ⟨some 49, .bin .leq (.t 48) (ci 24), some (46, true)⟩, o 50 (.pick (.t 46) (.t 49) (cb false)), mt 2 50] [2])
 (.ret)))⟩

def c156L0 : ACode :=
 .seq (.ops [o 8 (.bin .lss (.t 7) (.t 6))] [5, 6, 7, 8])
 (.seq (.cond (.t 8)
 (.skip)
 (.exit 0))
 (.seq (.block 1 (.seq (.ops [o 9 (.iadr 1 (.t 5) (.t 7)), o 10 (.ld false 1 (.t 9)), mt 4 10] [4, 5, 6, 7])
 (.seq (.ops [mt 11 4, o 12 (.bin .neq (.t 11) (ci 0))] [4, 5, 6, 7, 12])
 (.cond (.t 12)
 (.seq (.ops [mt 13 4, mt 2 13] [2])
 (.ret))
 (.skip)))))
 (.ops [o 14 (.bin .add (.t 7) (ci 1)), mt 7 14] [5, 6, 7])))
def c156 : AFunc := ⟨15, [.tmp 2],
 .seq (.ops [o 2 (.mv (ci 0))] [0])
 (.seq (.seq (.ops [mt 5 0, o 6 (.len 1 (.t 5)), o 7 (.mv (ci 0))] [5, 6, 7])
 (.block 0 (.loop false [5, 6, 7] c156L0)))
 (.seq (.ops [o 2 (.mv (ci 0))] [2])
 (.ret)))⟩

def c157 : AFunc := ⟨16, [.tmp 6],
 .seq (.ops [o 6 (.mv (ci 0))] [0, 1, 2])
 (.seq (.ops [mt 7 0, mt 8 1, o 9 (.bin .lss (.t 7) (.t 8)), mt 10 9, ⟨some 11, .mv (.t 0), some (10, false)⟩, ⟨some 12, .mv (.t 2), some (10, false)⟩, ⟨some 13, .bin .gtr (.t 11) (.t 12), some (10, false)⟩, o 14 (.pick (.t 10) (cb true) (.t 13)), o 15 (.call true true 0 (.fn 158) [.t 14, ci 3]), mt 6 15] [6])
 (.ret))⟩

def c158 : AFunc := ⟨7, [.tmp 4],
 .seq (.ops [o 4 (.mv (ci 0))] [0, 1])
 (.seq (.seq (.ops [mt 5 0] [1, 5])
 (.cond (.t 5)
 (.seq (.ops [mt 6 1, mt 4 6] [4])
 (.ret))
 (.skip)))
 (.seq (.ops [o 4 (.mv (ci 0))] [4])
 (.ret)))⟩

def c160L0 : ACode :=
 .seq (.ops [o 8 (.bin .lss (.t 7) (.t 6))] [0, 1, 6, 7, 8])
 (.seq (.cond (.t 8)
 (.skip)
 (.exit 0))
 (.seq (.block 1 (.seq (.ops [mt 9 7, mt 3 9] [0, 1, 3, 6, 7])
 (.seq (.ops [o 10 (.ld true 6 (.t 1)), mt 11 3, o 12 (.call true true 0 (.fn 119) [.t 10, .t 11]), o 13 (.not (.t 12)), mt 14 13, ⟨some 15, .mv (.t 0), some (14, true)⟩, ⟨some 16, .mv (.t 3), some (14, true)⟩, ⟨some 17, .call false true 0 (.val (.t 15)) [.t 16], some (14, true)⟩, ⟨some 18, .not (.t 17), some (14, true)⟩, o 19 (.pick (.t 14) (.t 18) (cb false))] [0, 1, 6, 7, 19])
 (.cond (.t 19)
 (.ret)
 (.skip)))))
 (.ops [o 20 (.bin .add (.t 7) (ci 1)), mt 7 20] [0, 1, 6, 7])))
def c160 : AFunc := ⟨21, [],
 .seq (.ops [o 4 (.fadr 5 (.t 1)), o 5 (.ld false 1 (.t 4)), o 6 (.bin .add (.t 5) (ci 1)), o 7 (.mv (ci 0))] [0, 1, 6, 7])
 (.block 0 (.loop true [0, 1, 6, 7] c160L0))⟩

def c161L0 : ACode :=
 .seq (.ops [o 11 (.bin .lss (.t 10) (.t 9))] [1, 5, 8, 9, 10, 11])
 (.seq (.cond (.t 11)
 (.skip)
 (.exit 0))
 (.seq (.block 1 (.seq (.ops [o 12 (.iadr 1 (.t 8) (.t 10)), o 13 (.ld false 1 (.t 12)), mt 7 13] [1, 5, 7, 8, 9, 10])
 (.ops [mt 14 5, mt 15 1, mt 16 7, o 17 (.call false true 0 (.val (.t 15)) [.t 16]), o 18 (.bslice false 1 zl8 1 [(0, .t 17)]), o 19 (.app 1 8 zl8 (.t 14) (.t 18)), mt 5 19] [1, 5, 8, 9, 10])))
 (.ops [o 20 (.bin .add (.t 10) (ci 1)), mt 10 20] [1, 5, 8, 9, 10])))
def c161 : AFunc := ⟨22, [.tmp 4],
 .seq (.ops [o 4 (.mv (cn))] [0, 1])
 (.seq (.ops [o 5 (.nilown 1)] [0, 1, 5])
 (.seq (.seq (.ops [mt 8 0, o 9 (.len 1 (.t 8)), o 10 (.mv (ci 0))] [1, 5, 8, 9, 10])
 (.block 0 (.loop true [1, 5, 8, 9, 10] c161L0)))
 (.seq (.ops [mt 21 5, mt 4 21] [4])
 (.ret))))⟩

def c162 : AFunc := ⟨9, [.tmp 4],
 .seq (.ops [o 4 (.mv (ci 0))] [0, 1, 2])
 (.seq (.ops [mt 5 0, o 6 (.ld false 1 (.t 1)), o 7 (.ld false 1 (.t 2)), o 8 (.call true true 0 (.fn 108) [.t 5, .t 6, .t 7]), mt 4 8] [4])
 (.ret))⟩

def c163L0 : ACode :=
 .seq (.ops [o 11 (.bin .lss (.t 10) (.t 9))] [1, 5, 8, 9, 10, 11])
 (.seq (.cond (.t 11)
 (.skip)
 (.exit 0))
 (.seq (.block 1 (.seq (.ops [o 12 (.iadr 7 (.t 8) (.t 10)), o 13 (.ld true 7 (.t 12)), o 7 (.alloc true 1 zl1), u (.st 7 (.t 7) (.t 13))] [1, 5, 7, 8, 9, 10])
 (.ops [mt 14 5, mt 15 1, o 16 (.ld true 7 (.t 7)), o 17 (.call false true 0 (.val (.t 15)) [.t 16]), o 18 (.bslice false 11 zl0 1 [(0, .t 17)]), o 19 (.app 11 96 zl0 (.t 14) (.t 18)), mt 5 19] [1, 5, 8, 9, 10])))
 (.ops [o 20 (.bin .add (.t 10) (ci 1)), mt 10 20] [1, 5, 8, 9, 10])))
def c163 : AFunc := ⟨22, [.tmp 4],
 .seq (.ops [o 4 (.mv (cn))] [0, 1])
 (.seq (.ops [o 5 (.nilown 11)] [0, 1, 5])
 (.seq (.seq (.ops [mt 8 0, o 9 (.len 1 (.t 8)), o 10 (.mv (ci 0))] [1, 5, 8, 9, 10])
 (.block 0 (.loop true [1, 5, 8, 9, 10] c163L0)))
 (.seq (.ops [mt 21 5, mt 4 21] [4])
 (.ret))))⟩

def c164 : AFunc := ⟨23, [.cell 2 true 11],
 .seq (.ops [o 1 (.box true (.t 0)), o 2 (.alloc true 1 zl0)] [1, 2])
 (.seq (.ops [o 4 (.ld true 7 (.t 1)), o 5 (.build zl0 [(0, 7, .t 4)]), o 3 (.alloc true 1 zl0), u (.st 11 (.t 3) (.t 5))] [2, 3])
 (.seq (.opsd [(0, 1), (1, 1), (2, 1), (3, 1), (4, 1), (5, 1), (6, 1), (7, 1), (8, 1), (9, 1), (10, 1), (11, 1), (12, 1), (13, 0), (14, 1), (15, 1), (16, 0)] [o 6 (.fadr 0 (.t 3)), o 7 (.fadr 1 (.t 6)), o 8 (.ld true 2 (.t 7)), o 9 (.fadr 0 (.t 3)), o 10 (.fadr 3 (.t 9)), o 11 (.ld true 2 (.t 10)), o 12 (.call true true 0 (.fn 178) [.t 8, .t 11]), o 13 (.fadr 0 (.t 3)), o 14 (.fadr 1 (.t 13)), o 15 (.ld true 2 (.t 14)), o 16 (.fadr 0 (.t 3)), o 17 (.fadr 5 (.t 16)), o 18 (.ld true 2 (.t 17)), o 19 (.call true true 0 (.fn 178) [.t 15, .t 18]), o 20 (.build zl5 [(0, 2, .t 12), (2, 2, .t 19)]), o 21 (.fadr 7 (.t 3)), u (.st 4 (.t 21) (.t 20))] [2, 3])
 (.seq (.ops [o 22 (.ld true 11 (.t 3)), u (.st 11 (.t 2) (.t 22))] [2])
 (.ret))))⟩

def c165 : AFunc := ⟨16, [.cell 4 true 2],
 .seq (.ops [o 2 (.box true (.t 0)), o 3 (.box true (.t 1)), o 4 (.alloc true 1 zl7)] [2, 3, 4])
 (.seq (.ops [o 5 (.fadr 0 (.t 2)), o 6 (.ld false 1 (.t 5)), o 7 (.fadr 0 (.t 3)), o 8 (.ld false 1 (.t 7)), o 9 (.bin .add (.t 6) (.t 8)), o 10 (.fadr 1 (.t 2)), o 11 (.ld false 1 (.t 10)), o 12 (.fadr 1 (.t 3)), o 13 (.ld false 1 (.t 12)), o 14 (.bin .add (.t 11) (.t 13)), o 15 (.build zl7 [(0, 1, .t 9), (1, 1, .t 14)]), u (.st 2 (.t 4) (.t 15))] [4])
 (.ret))⟩

def c166 : AFunc := ⟨16, [.cell 4 true 2],
 .seq (.ops [o 2 (.box true (.t 0)), o 3 (.box true (.t 1)), o 4 (.alloc true 1 zl7)] [2, 3, 4])
 (.seq (.ops [o 5 (.fadr 0 (.t 2)), o 6 (.ld false 1 (.t 5)), o 7 (.fadr 1 (.t 3)), o 8 (.ld false 1 (.t 7)), o 9 (.bin .sub (.t 6) (.t 8)), o 10 (.fadr 1 (.t 2)), o 11 (.ld false 1 (.t 10)), o 12 (.fadr 0 (.t 3)), o 13 (.ld false 1 (.t 12)), o 14 (.bin .sub (.t 11) (.t 13)), o 15 (.build zl7 [(0, 1, .t 9), (1, 1, .t 14)]), u (.st 2 (.t 4) (.t 15))] [4])
 (.ret))⟩

def c167 : AFunc := ⟨17, [.tmp 4],
 .seq (.ops [o 4 (.mv (cb false))] [0, 1])
 (.seq (.ops [mt 5 0, o 6 (.call true true 0 (.fn 179) [.t 5]), mt 7 6, ⟨some 8, .mv (.t 1), some (7, true)⟩, ⟨some 9, .call true true 0 (.fn 179) [.t 8], some (7, true)⟩, ⟨some 10, .not (.t 9), some (7, true)⟩, o 11 (.pick (.t 7) (.t 10) (cb false)), mt 12 11, ⟨some 13, .mv (.t 0), some (12, false)⟩, ⟨some 14, .mv (.t 1), some (12, false)⟩, ⟨some 15, .bin .lss (.t 13) (.t 14), some (12, false)⟩, o 16 (.pick (.t 12) (cb true) (.t 15)), mt 4 16] [4])
 (.ret))⟩

def c172L0 : ACode :=
 .seq (.seq (.ops [o 5 (.ld false 1 (.t 1)), o 6 (.len 0 (.t 5)), o 7 (.bin .gtr (.t 6) (ci 0))] [0, 1, 7])
 (.cond (.t 7)
 (.skip)
 (.exit 0)))
 (.block 1 (.seq (.ops [o 3 (.mv (cs []))] [0, 1])
 (.seq (.seq (.ops [o 8 (.ld false 1 (.t 1)), o 9 (.call true true 0 (.fn 173) [.t 8, .c (.p (.int .u8 10))]), mt 4 9] [0, 1, 4])
 (.seq (.ops [mt 10 4, o 11 (.bin .geq (.t 10) (ci 0))] [0, 1, 4, 11])
 (.cond (.t 11)
 (.opsd [(0, 1), (1, 1), (2, 1), (3, 1), (4, 1), (5, 1), (6, 1), (7, 1), (8, 1), (9, 0)] [o 12 (.ld false 1 (.t 1)), mt 13 4, o 14 (.bin .add (.t 13) (ci 1)), o 15 (.slcs (.t 12) none (some (.t 14))), o 16 (.ld false 1 (.t 1)), mt 17 4, o 18 (.bin .add (.t 17) (ci 1)), o 19 (.slcs (.t 16) (some (.t 18)) none), mt 3 15, u (.st 1 (.t 1) (.t 19))] [0, 1, 3])
 (.ops [o 20 (.ld false 1 (.t 1)), mt 3 20, u (.st 1 (.t 1) (cs []))] [0, 1, 3]))))
 (.seq (.ops [mt 21 0, mt 22 3, o 23 (.call false true 0 (.val (.t 21)) [.t 22]), o 24 (.not (.t 23))] [0, 1, 24])
 (.cond (.t 24)
 (.ret)
 (.skip))))))
def c172 : AFunc := ⟨25, [],
 .block 0 (.loop true [0, 1] c172L0)⟩

def c173 : AFunc := ⟨8, [.tmp 4],
 .seq (.ops [o 4 (.mv (ci 0))] [0, 1])
 (.seq (.ops [mt 5 0, mt 6 1, o 7 (.call true true 0 (.fn 183) [.t 5, .t 6]), mt 4 7] [4])
 (.ret))⟩

def c174 : AFunc := ⟨11, [.tmp 4, .tmp 5],
 .seq (.ops [o 4 (.mv (cs [])), o 5 (.mv (cb false))] [0, 1])
 (.seq (.ops [mt 6 0, mt 7 1, o 8 (.call true true 0 (.fn 184) [.t 6, .t 7]), o 9 (.ext (.t 8) 0), o 10 (.ext (.t 8) 1), mt 4 9, mt 5 10] [4, 5])
 (.ret))⟩

def c175 : AFunc := ⟨8, [.tmp 4],
 .seq (.ops [o 4 (.mv (cn))] [0, 1])
 (.seq (.ops [mt 5 0, mt 6 1, o 7 (.call true false 0 (.fn 185) [.t 5, .t 6, ci 0, ci (-1)]), mt 4 7] [4])
 (.ret))⟩

def c176L0 : ACode :=
 .seq (.ops [o 9 (.nxt (.t 8) true), o 10 (.ext (.t 9) 0)] [0, 4, 8, 9, 10])
 (.seq (.cond (.t 10)
 (.skip)
 (.exit 0))
 (.block 1 (.seq (.ops [o 11 (.ext (.t 9) 2), mt 6 11] [0, 4, 6, 8])
 (.seq (.seq (.ops [mt 12 6, o 13 (.bin .lss (.t 12) (.c (.p (.int .i32 48)))), mt 14 13, ⟨some 15, .mv (.t 6), some (14, false)⟩, ⟨some 16, .bin .gtr (.t 15) (.c (.p (.int .i32 57))), some (14, false)⟩, o 17 (.pick (.t 14) (cb true) (.t 16)), mt 18 17, ⟨some 19, .mv (.t 0), some (18, false)⟩, ⟨some 20, .len 0 (.t 19), some (18, false)⟩, ⟨some 21, .bin .gtr (.t 20) (ci 9), some (18, false)⟩, o 22 (.pick (.t 18) (cb true) (.t 21))] [0, 4, 6, 8, 22])
 (.cond (.t 22)
 (.seq (.ops [o 2 (.mv (ci 0)), o 3 (.mv (cb false))] [2, 3])
 (.ret))
 (.skip)))
 (.ops [mt 23 4, o 24 (.bin .mul (ci 10) (.t 23)), mt 25 6, o 26 (.bin .sub (.t 25) (.c (.p (.int .i32 48)))), o 27 (.conv (.int .i64) (.t 26)), o 28 (.bin .add (.t 24) (.t 27)), mt 4 28] [0, 4, 8])))))
def c176 : AFunc := ⟨42, [.tmp 2, .tmp 3],
 .seq (.ops [o 2 (.mv (ci 0)), o 3 (.mv (cb false))] [0])
 (.seq (.ops [o 4 (.mv (ci 0))] [0, 4])
 (.seq (.seq (.ops [mt 7 0, o 8 (.rngs (.t 7))] [0, 4, 8])
 (.block 0 (.loop false [0, 4, 8] c176L0)))
 (.seq (.opsd [(0, 1), (1, 1), (2, 1), (3, 1), (4, 1), (5, 1), (6, 1), (7, 1), (8, 1), (9, 1), (10, 1), (11, 1), (12, 1), (13, 1), (14, 1)] [mt 29 4, mt 30 0, o 31 (.bin .neq (.t 30) (cs [])), mt 32 31, ⟨some 33, .mv (.t 0), some (32, true)⟩, ⟨some 34, .len 0 (.t 33), some (32, true)⟩, ⟨some 35, .bin .eql (.t 34) (ci 1), some (32, true)⟩, ⟨some 36, .mv (.t 35), some (32, true)⟩, ⟨some 37, .mv (.t 0), some (36, false)⟩, ⟨some 38, .idxs (.t 37) (ci 0), some (36, false)⟩, ⟨some 39, .bin .neq (.t 38) (.c (.p (.int .u8 48))), some (36, false)⟩, ⟨some 40, .pick (.t 36) (cb true) (.t 39), some (32, true)⟩, o 41 (.pick (.t 32) (.t 40) (cb false)), mt 2 29, mt 3 41] [2, 3])
 (.ret))))⟩

def c178 : AFunc := ⟨32, [.cell 4 true 2],
 .seq (.ops [o 2 (.box true (.t 0)), o 3 (.box true (.t 1)), o 4 (.alloc true 1 zl7)] [2, 3, 4])
 (.seq (.ops [o 6 (.fadr 0 (.t 2)), o 7 (.ld false 1 (.t 6)), o 8 (.fadr 0 (.t 3)), o 9 (.ld false 1 (.t 8)), o 10 (.bin .mul (.t 7) (.t 9)), o 11 (.fadr 0 (.t 2)), o 12 (.ld false 1 (.t 11)), o 13 (.fadr 1 (.t 3)), o 14 (.ld false 1 (.t 13)), o 15 (.bin .mul (.t 12) (.t 14)), o 16 (.fadr 1 (.t 2)), o 17 (.ld false 1 (.t 16)), o 18 (.fadr 0 (.t 3)), o 19 (.ld false 1 (.t 18)), o 20 (.bin .mul (.t 17) (.t 19)), o 21 (.fadr 1 (.t 2)), o 22 (.ld false 1 (.t 21)), o 23 (.fadr 1 (.t 3)), o 24 (.ld false 1 (.t 23)), o 25 (.bin .mul (.t 22) (.t 24)), o 26 (.bslice false 1 zl8 4 [(0, .t 10), (1, .t 15), (2, .t 20), (3, .t 25)]), mt 5 26] [4, 5])
 (.seq (.ops [mt 27 5, o 28 (.call true true 0 (.fn 186) [.t 27]), mt 29 5, o 30 (.call true true 0 (.fn 135) [.t 29]), o 31 (.build zl7 [(0, 1, .t 28), (1, 1, .t 30)]), u (.st 2 (.t 4) (.t 31))] [4])
 (.ret)))⟩

def c179 : AFunc := ⟨6, [.tmp 2],
 .seq (.ops [o 2 (.mv (cb false))] [0])
 (.seq (.ops [mt 3 0, mt 4 0, o 5 (.bin .neq (.t 3) (.t 4)), mt 2 5] [2])
 (.ret))⟩

def c183 : AFunc := ⟨8, [.tmp 4],
 .seq (.ops [o 4 (.mv (ci 0))] [0, 1])
 (.seq (.ops [mt 5 0, mt 6 1, o 7 (.call true true 0 (.fn 190) [.t 5, .t 6]), mt 4 7] [4])
 (.ret))⟩

def c184 : AFunc := ⟨18, [.tmp 4, .tmp 5],
 .seq (.ops [o 4 (.mv (cs [])), o 5 (.mv (cb false))] [0, 1])
 (.seq (.seq (.ops [mt 6 0, mt 7 1, o 8 (.call true true 0 (.fn 191) [.t 6, .t 7]), o 9 (.not (.t 8))] [0, 1, 9])
 (.cond (.t 9)
 (.seq (.ops [mt 10 0, mt 4 10, o 5 (.mv (cb false))] [4, 5])
 (.ret))
 (.skip)))
 (.seq (.ops [mt 11 0, mt 12 0, o 13 (.len 0 (.t 12)), mt 14 1, o 15 (.len 0 (.t 14)), o 16 (.bin .sub (.t 13) (.t 15)), o 17 (.slcs (.t 11) none (some (.t 16))), mt 4 17, o 5 (.mv (cb true))] [4, 5])
 (.ret)))⟩

def c185L0 : ACode :=
 .seq (.seq (.ops [mt 34 10, mt 35 3, o 36 (.bin .lss (.t 34) (.t 35))] [0, 1, 2, 3, 9, 10, 36])
 (.cond (.t 36)
 (.skip)
 (.exit 0)))
 (.block 1 (.seq (.ops [mt 37 0, mt 38 1, o 39 (.call true true 0 (.fn 194) [.t 37, .t 38]), mt 11 39] [0, 1, 2, 3, 9, 10, 11])
 (.seq (.seq (.ops [mt 40 11, o 41 (.bin .lss (.t 40) (ci 0))] [0, 1, 2, 3, 9, 10, 11, 41])
 (.cond (.t 41)
 (.exit 0)
 (.skip)))
 (.seq (.ops [mt 42 9, mt 43 10, mt 44 0, mt 45 11, mt 46 2, o 47 (.bin .add (.t 45) (.t 46)), o 48 (.slcs (.t 44) none (some (.t 47))), o 49 (.iadr 1 (.t 42) (.t 43)), u (.st 1 (.t 49) (.t 48))] [0, 1, 2, 3, 9, 10, 11])
 (.seq (.ops [mt 50 0, mt 51 11, mt 52 1, o 53 (.len 0 (.t 52)), o 54 (.bin .add (.t 51) (.t 53)), o 55 (.slcs (.t 50) (some (.t 54)) none), mt 0 55] [0, 1, 2, 3, 9, 10])
 (.ops [mt 56 10, o 57 (.bin .add (.t 56) (ci 1)), mt 10 57] [0, 1, 2, 3, 9, 10]))))))
def c185 : AFunc := ⟨66, [.tmp 8],
 .seq (.ops [o 8 (.mv (cn))] [0, 1, 2, 3])
 (.seq (.seq (.ops [mt 12 3, o 13 (.bin .eql (.t 12) (ci 0))] [0, 1, 2, 3, 13])
 (.cond (.t 13)
 (.seq (.ops [o 8 (.mv (cn))] [8])
 (.ret))
 (.skip)))
 (.seq (.seq (.ops [mt 14 1, o 15 (.bin .eql (.t 14) (cs []))] [0, 1, 2, 3, 15])
 (.cond (.t 15)
 (.seq (.ops [mt 16 0, mt 17 3, o 18 (.call true false 0 (.fn 192) [.t 16, .t 17]), mt 8 18] [8])
 (.ret))
 (.skip)))
 (.seq (.seq (.ops [mt 19 3, o 20 (.bin .lss (.t 19) (ci 0))] [0, 1, 2, 3, 20])
 (.cond (.t 20)
 (.ops [mt 21 0, mt 22 1, o 23 (.call true true 0 (.fn 193) [.t 21, .t 22]), o 24 (.bin .add (.t 23) (ci 1)), mt 3 24] [0, 1, 2, 3])
 (.skip)))
 (.seq (.ops [mt 25 3, mt 26 0, o 27 (.len 0 (.t 26)), o 28 (.bin .add (.t 27) (ci 1)), o 29 (.min [.t 25, .t 28]), mt 3 29] [0, 1, 2, 3])
 (.seq (.ops [mt 30 3, o 31 (.mkslice 1 zl9 (.t 30) (.t 30)), mt 9 31] [0, 1, 2, 3, 9])
 (.seq (.ops [mt 32 3, o 33 (.bin .sub (.t 32) (ci 1)), mt 3 33] [0, 1, 2, 3, 9])
 (.seq (.ops [o 10 (.mv (ci 0))] [0, 1, 2, 3, 9, 10])
 (.seq (.block 0 (.loop false [0, 1, 2, 3, 9, 10] c185L0))
 (.seq (.ops [mt 58 9, mt 59 10, mt 60 0, o 61 (.iadr 1 (.t 58) (.t 59)), u (.st 1 (.t 61) (.t 60))] [9, 10])
 (.seq (.ops [mt 62 9, mt 63 10, o 64 (.bin .add (.t 63) (ci 1)), o 65 (.slc 1 (.t 62) none (some (.t 64))), mt 8 65] [8])
 (.ret)))))))))))⟩

def c186L0 : ACode :=
 .seq (.seq (.ops [mt 12 4, mt 13 0, o 14 (.len 1 (.t 13)), o 15 (.bin .lss (.t 12) (.t 14))] [0, 3, 4, 15])
 (.cond (.t 15)
 (.skip)
 (.exit 0)))
 (.seq (.block 1 (.ops [mt 18 3, mt 19 0, mt 20 4, o 21 (.iadr 1 (.t 19) (.t 20)), o 22 (.ld false 1 (.t 21)), o 23 (.min [.t 18, .t 22]), mt 3 23] [0, 3, 4]))
 (.ops [mt 16 4, o 17 (.bin .add (.t 16) (ci 1)), mt 4 17] [0, 3, 4]))
def c186 : AFunc := ⟨25, [.tmp 2],
 .seq (.ops [o 2 (.mv (ci 0))] [0])
 (.seq (.seq (.ops [mt 5 0, o 6 (.len 1 (.t 5)), o 7 (.bin .lss (.t 6) (ci 1))] [0, 7])
 (.cond (.t 7)
 (.ops [o 8 (.fail), u (.fail)] [0])
 (.skip)))
 (.seq (.ops [mt 9 0, o 10 (.iadr 1 (.t 9) (ci 0)), o 11 (.ld false 1 (.t 10)), mt 3 11] [0, 3])
 (.seq (.seq (.ops [o 4 (.mv (ci 1))] [0, 3, 4])
 (.block 0 (.loop false [0, 3, 4] c186L0)))
 (.seq (.ops [mt 24 3, mt 2 24] [2])
 (.ret)))))⟩

def c191 : AFunc := ⟨21, [.tmp 4],
 .seq (.ops [o 4 (.mv (cb false))] [0, 1])
 (.seq (.ops [mt 5 0, o 6 (.len 0 (.t 5)), mt 7 1, o 8 (.len 0 (.t 7)), o 9 (.bin .geq (.t 6) (.t 8)), mt 10 9, ⟨some 11, .mv (.t 0), some (10, true)⟩, ⟨some 12, .mv (.t 0), some (10, true)⟩, ⟨some 13, .len 0 (.t 12), some (10, true)⟩, ⟨some 14, .mv (.t 1), some (10, true)⟩, ⟨some 15, .len 0 (.t 14), some (10, true)⟩, ⟨some 16, .bin .sub (.t 13) (.t 15), some (10, true)⟩, ⟨some 17, .slcs (.t 11) (some (.t 16)) none, some (10, true)⟩, ⟨some 18, .mv (.t 1), some (10, true)⟩, ⟨some 19, .bin .eql (.t 17) (.t 18), some (10, true)⟩, o 20 (.pick (.t 10) (.t 19) (cb false)), mt 4 20] [4])
 (.ret))⟩

def c192L0 : ACode :=
 .seq (.seq (.ops [mt 22 7, mt 23 1, o 24 (.bin .sub (.t 23) (ci 1)), o 25 (.bin .lss (.t 22) (.t 24))] [0, 1, 6, 7, 25])
 (.cond (.t 25)
 (.skip)
 (.exit 0)))
 (.seq (.block 1 (.seq (.ops [mt 29 0, o 30 (.call true true 0 (.fn 200) [.t 29]), mt 28 30, o 31 (.ext (.t 28) 0), o 32 (.ext (.t 28) 1), mt 8 31, mt 9 32] [0, 1, 6, 7, 9])
 (.seq (.ops [mt 33 6, mt 34 7, mt 35 0, mt 36 9, o 37 (.slcs (.t 35) none (some (.t 36))), o 38 (.iadr 1 (.t 33) (.t 34)), u (.st 1 (.t 38) (.t 37))] [0, 1, 6, 7, 9])
 (.ops [mt 39 0, mt 40 9, o 41 (.slcs (.t 39) (some (.t 40)) none), mt 0 41] [0, 1, 6, 7]))))
 (.ops [mt 26 7, o 27 (.bin .add (.t 26) (ci 1)), mt 7 27] [0, 1, 6, 7]))
def c192 : AFunc := ⟨50, [.tmp 4],
 .seq (.ops [o 4 (.mv (cn))] [0, 1])
 (.seq (.ops [mt 10 0, o 11 (.call true true 0 (.fn 199) [.t 10]), mt 5 11] [0, 1, 5])
 (.seq (.seq (.ops [mt 12 1, o 13 (.bin .lss (.t 12) (ci 0)), mt 14 13, ⟨some 15, .mv (.t 1), some (14, false)⟩, ⟨some 16, .mv (.t 5), some (14, false)⟩, ⟨some 17, .bin .gtr (.t 15) (.t 16), some (14, false)⟩, o 18 (.pick (.t 14) (cb true) (.t 17))] [0, 1, 5, 18])
 (.cond (.t 18)
 (.ops [mt 19 5, mt 1 19] [0, 1])
 (.skip)))
 (.seq (.ops [mt 20 1, o 21 (.mkslice 1 zl9 (.t 20) (.t 20)), mt 6 21] [0, 1, 6])
 (.seq (.seq (.ops [o 7 (.mv (ci 0))] [0, 1, 6, 7])
 (.block 0 (.loop false [0, 1, 6, 7] c192L0)))
 (.seq (.seq (.ops [mt 42 1, o 43 (.bin .gtr (.t 42) (ci 0))] [0, 1, 6, 43])
 (.cond (.t 43)
 (.ops [mt 44 6, mt 45 1, o 46 (.bin .sub (.t 45) (ci 1)), mt 47 0, o 48 (.iadr 1 (.t 44) (.t 46)), u (.st 1 (.t 48) (.t 47))] [6])
 (.skip)))
 (.seq (.ops [mt 49 6, mt 4 49] [4])
 (.ret)))))))⟩

def c193L0 : ACode :=
 .block 1 (.seq (.ops [mt 20 0, mt 21 1, o 22 (.call true true 0 (.fn 194) [.t 20, .t 21]), mt 6 22] [0, 1, 5, 6])
 (.seq (.seq (.ops [mt 23 6, o 24 (.bin .eql (.t 23) (ci (-1)))] [0, 1, 5, 6, 24])
 (.cond (.t 24)
 (.seq (.ops [mt 25 5, mt 4 25] [4])
 (.ret))
 (.skip)))
 (.seq (.ops [mt 26 5, o 27 (.bin .add (.t 26) (ci 1)), mt 5 27] [0, 1, 5, 6])
 (.ops [mt 28 0, mt 29 6, mt 30 1, o 31 (.len 0 (.t 30)), o 32 (.bin .add (.t 29) (.t 31)), o 33 (.slcs (.t 28) (some (.t 32)) none), mt 0 33] [0, 1, 5]))))
def c193 : AFunc := ⟨34, [.tmp 4],
 .seq (.ops [o 4 (.mv (ci 0))] [0, 1])
 (.seq (.seq (.ops [mt 7 1, o 8 (.len 0 (.t 7)), o 9 (.bin .eql (.t 8) (ci 0))] [0, 1, 9])
 (.cond (.t 9)
 (.seq (.ops [mt 10 0, o 11 (.call true true 0 (.fn 199) [.t 10]), o 12 (.bin .add (.t 11) (ci 1)), mt 4 12] [4])
 (.ret))
 (.skip)))
 (.seq (.seq (.ops [mt 13 1, o 14 (.len 0 (.t 13)), o 15 (.bin .eql (.t 14) (ci 1))] [0, 1, 15])
 (.cond (.t 15)
 (.seq (.ops [mt 16 0, mt 17 1, o 18 (.idxs (.t 17) (ci 0)), o 19 (.call true true 0 (.fn 201) [.t 16, .t 18]), mt 4 19] [4])
 (.ret))
 (.skip)))
 (.seq (.ops [o 5 (.mv (ci 0))] [0, 1, 5])
 (.block 0 (.loop false [0, 1, 5] c193L0)))))⟩

def c194 : AFunc := ⟨8, [.tmp 4],
 .seq (.ops [o 4 (.mv (ci 0))] [0, 1])
 (.seq (.ops [mt 5 0, mt 6 1, o 7 (.call true true 0 (.fn 202) [.t 5, .t 6]), mt 4 7] [4])
 (.ret))⟩

def c199L0 : ACode :=
 .seq (.ops [o 5 (.nxt (.t 4) true), o 6 (.ext (.t 5) 0)] [2, 4, 6])
 (.seq (.cond (.t 6)
 (.skip)
 (.exit 0))
 (.block 1 (.ops [mt 7 2, o 8 (.bin .add (.t 7) (ci 1)), mt 2 8] [2, 4])))
def c199 : AFunc := ⟨10, [.tmp 2],
 .seq (.ops [o 2 (.mv (ci 0))] [0, 2])
 (.seq (.seq (.ops [mt 3 0, o 4 (.rngs (.t 3))] [2, 4])
 (.block 0 (.loop false [2, 4] c199L0)))
 (.seq (.ops [mt 9 2, mt 2 9] [2])
 (.ret)))⟩

def c200 : AFunc := ⟨19, [.tmp 2, .tmp 3],
 .seq (.ops [o 2 (.mv (.c (.p (.int .i32 0)))), o 3 (.mv (ci 0))] [0])
 (.seq (.seq (.ops [mt 4 0, o 5 (.bin .neq (.t 4) (cs [])), mt 6 5, ⟨some 7, .mv (.t 0), some (6, true)⟩, ⟨some 8, .idxs (.t 7) (ci 0), some (6, true)⟩, ⟨some 9, .bin .lss (.t 8) (.c (.p (.int .u8 128))), some (6, true)⟩, o 10 (.pick (.t 6) (.t 9) (cb false))] [0, 10])
 (.cond (.t 10)
 (.seq (.ops [mt 11 0, o 12 (.idxs (.t 11) (ci 0)), o 13 (.conv (.int .i32) (.t 12)), mt 2 13, o 3 (.mv (ci 1))] [2, 3])
 (.ret))
 (.ops [mt 15 0, o 16 (.call true true 0 (.fn 208) [.t 15]), mt 14 16, o 17 (.ext (.t 14) 0), o 18 (.ext (.t 14) 1), mt 2 17, mt 3 18] [2, 3])))
 (.ret))⟩

def c202L0 : ACode :=
 .seq (.seq (.ops [mt 57 8, mt 58 9, o 59 (.bin .lss (.t 57) (.t 58))] [0, 1, 5, 6, 7, 8, 9, 10, 59])
 (.cond (.t 59)
 (.skip)
 (.exit 1)))
 (.block 2 (.seq (.seq (.ops [mt 60 0, mt 61 8, o 62 (.idxs (.t 60) (.t 61)), mt 63 6, o 64 (.bin .neq (.t 62) (.t 63))] [0, 1, 5, 6, 7, 8, 9, 10, 64])
 (.cond (.t 64)
 (.seq (.ops [mt 65 0, mt 66 8, o 67 (.bin .add (.t 66) (ci 1)), mt 68 9, o 69 (.slcs (.t 65) (some (.t 67)) (some (.t 68))), mt 70 6, o 71 (.call true true 0 (.fn 183) [.t 69, .t 70]), mt 11 71] [0, 1, 5, 6, 7, 8, 9, 10, 11])
 (.seq (.seq (.ops [mt 72 11, o 73 (.bin .lss (.t 72) (ci 0))] [0, 1, 5, 6, 7, 8, 9, 10, 11, 73])
 (.cond (.t 73)
 (.seq (.ops [o 4 (.mv (ci (-1)))] [4])
 (.ret))
 (.skip)))
 (.ops [mt 74 8, mt 75 11, o 76 (.bin .add (.t 75) (ci 1)), o 77 (.bin .add (.t 74) (.t 76)), mt 8 77] [0, 1, 5, 6, 7, 8, 9, 10])))
 (.skip)))
 (.seq (.seq (.ops [mt 78 0, mt 79 8, o 80 (.bin .add (.t 79) (ci 1)), o 81 (.idxs (.t 78) (.t 80)), mt 82 7, o 83 (.bin .eql (.t 81) (.t 82)), mt 84 83, ⟨some 85, .mv (.t 0), some (84, true)⟩, ⟨some 86, .mv (.t 8), some (84, true)⟩, ⟨some 87, .mv (.t 8), some (84, true)⟩, ⟨some 88, .mv (.t 5), some (84, true)⟩, ⟨some 89, .bin .add (.t 87) (.t 88), some (84, true)⟩, ⟨some 90, .slcs (.t 85) (some (.t 86)) (some (.t 89)), some (84, true)⟩, ⟨some 91, .mv (.t 1), some (84, true)⟩, ⟨some 92, .bin .eql (.t 90) (.t 91), some (84, true)⟩, o 93 (.pick (.t 84) (.t 92) (cb false))] [0, 1, 5, 6, 7, 8, 9, 10, 93])
 (.cond (.t 93)
 (.seq (.ops [mt 94 8, mt 4 94] [4])
 (.ret))
 (.skip)))
 (.seq (.ops [mt 95 8, o 96 (.bin .add (.t 95) (ci 1)), mt 8 96] [0, 1, 5, 6, 7, 8, 9, 10])
 (.seq (.ops [mt 97 10, o 98 (.bin .add (.t 97) (ci 1)), mt 10 98] [0, 1, 5, 6, 7, 8, 9, 10])
 (.seq (.ops [mt 99 5, o 100 (.ld false 1 (.g 2)), o 101 (.bin .leq (.t 99) (.t 100)), mt 102 101, ⟨some 103, .mv (.t 10), some (102, true)⟩, ⟨some 104, .mv (.t 8), some (102, true)⟩, ⟨some 105, .call true true 0 (.fn 210) [.t 104], some (102, true)⟩, ⟨some 106, .bin .gtr (.t 103) (.t 105), some (102, true)⟩, o 107 (.pick (.t 102) (.t 106) (cb false))] [0, 1, 5, 6, 7, 8, 9, 10, 107])
 (.cond (.t 107)
 (.seq (.ops [mt 108 0, mt 109 8, o 110 (.slcs (.t 108) (some (.t 109)) none), mt 111 1, o 112 (.call true true 0 (.fn 209) [.t 110, .t 111]), mt 12 112] [8, 12])
 (.seq (.seq (.ops [mt 113 12, o 114 (.bin .geq (.t 113) (ci 0))] [8, 12, 114])
 (.cond (.t 114)
 (.seq (.ops [mt 115 12, mt 116 8, o 117 (.bin .add (.t 115) (.t 116)), mt 4 117] [4])
 (.ret))
 (.skip)))
 (.seq (.ops [o 4 (.mv (ci (-1)))] [4])
 (.ret))))
 (.seq (.ops [mt 118 5, o 119 (.ld false 1 (.g 2)), o 120 (.bin .gtr (.t 118) (.t 119)), mt 121 120, ⟨some 122, .mv (.t 10), some (121, true)⟩, ⟨some 123, .mv (.t 8), some (121, true)⟩, ⟨some 124, .shift false (.t 123) (.c (.p (.int .u64 4))), some (121, true)⟩, ⟨some 125, .bin .add (ci 4) (.t 124), some (121, true)⟩, ⟨some 126, .bin .geq (.t 122) (.t 125), some (121, true)⟩, o 127 (.pick (.t 121) (.t 126) (cb false)), mt 128 127, ⟨some 129, .mv (.t 8), some (128, true)⟩, ⟨some 130, .mv (.t 9), some (128, true)⟩, ⟨some 131, .bin .lss (.t 129) (.t 130), some (128, true)⟩, o 132 (.pick (.t 128) (.t 131) (cb false))] [0, 1, 5, 6, 7, 8, 9, 10, 132])
 (.cond (.t 132)
 (.seq (.ops [mt 133 0, mt 134 8, o 135 (.slcs (.t 133) (some (.t 134)) none), mt 136 1, o 137 (.call true true 0 (.fn 211) [.t 135, .t 136]), mt 13 137] [8, 13])
 (.seq (.seq (.ops [mt 138 13, o 139 (.bin .lss (.t 138) (ci 0))] [8, 13, 139])
 (.cond (.t 139)
 (.seq (.ops [o 4 (.mv (ci (-1)))] [4])
 (.ret))
 (.skip)))
 (.seq (.ops [mt 140 8, mt 141 13, o 142 (.bin .add (.t 140) (.t 141)), mt 4 142] [4])
 (.ret))))
 (.skip))))))))))
def c202 : AFunc := ⟨143, [.tmp 4],
 .seq (.ops [o 4 (.mv (ci 0))] [0, 1])
 (.seq (.ops [mt 14 1, o 15 (.len 0 (.t 14)), mt 5 15] [0, 1, 5])
 (.seq (.block 0 (.seq (.ops [mt 17 5, o 18 (.bin .eql (.t 17) (ci 0)), mt 19 18, ⟨some 20, .mv (.t 1), some (19, false)⟩, ⟨some 21, .mv (.t 0), some (19, false)⟩, ⟨some 22, .bin .eql (.t 20) (.t 21), some (19, false)⟩, o 23 (.pick (.t 19) (cb true) (.t 22)), mt 16 23] [0, 1, 5, 16])
 (.cond (.t 16)
 (.seq (.ops [o 4 (.mv (ci 0))] [4])
 (.ret))
 (.seq (.ops [mt 25 5, o 26 (.bin .eql (.t 25) (ci 1)), mt 24 26] [0, 1, 5, 24])
 (.cond (.t 24)
 (.seq (.ops [mt 27 0, mt 28 1, o 29 (.idxs (.t 28) (ci 0)), o 30 (.call true true 0 (.fn 183) [.t 27, .t 29]), mt 4 30] [4])
 (.ret))
 (.seq (.ops [mt 32 5, mt 33 0, o 34 (.len 0 (.t 33)), o 35 (.bin .geq (.t 32) (.t 34)), mt 31 35] [0, 1, 5, 31])
 (.cond (.t 31)
 (.seq (.ops [o 4 (.mv (ci (-1)))] [4])
 (.ret))
 (.seq (.ops [mt 37 5, o 38 (.ld false 1 (.g 2)), o 39 (.bin .leq (.t 37) (.t 38)), mt 40 39, ⟨some 41, .mv (.t 0), some (40, true)⟩, ⟨some 42, .len 0 (.t 41), some (40, true)⟩, ⟨some 43, .bin .leq (.t 42) (ci 64), some (40, true)⟩, o 44 (.pick (.t 40) (.t 43) (cb false)), mt 36 44] [0, 1, 5, 36])
 (.cond (.t 36)
 (.seq (.ops [mt 45 0, mt 46 1, o 47 (.call true true 0 (.fn 209) [.t 45, .t 46]), mt 4 47] [4])
 (.ret))
 (.skip))))))))))
 (.seq (.ops [mt 48 1, o 49 (.idxs (.t 48) (ci 0)), mt 6 49] [0, 1, 5, 6])
 (.seq (.ops [mt 50 1, o 51 (.idxs (.t 50) (ci 1)), mt 7 51] [0, 1, 5, 6, 7])
 (.seq (.ops [o 8 (.mv (ci 0))] [0, 1, 5, 6, 7, 8])
 (.seq (.ops [mt 52 0, o 53 (.len 0 (.t 52)), mt 54 5, o 55 (.bin .sub (.t 53) (.t 54)), o 56 (.bin .add (.t 55) (ci 1)), mt 9 56] [0, 1, 5, 6, 7, 8, 9])
 (.seq (.ops [o 10 (.mv (ci 0))] [0, 1, 5, 6, 7, 8, 9, 10])
 (.seq (.block 1 (.loop false [0, 1, 5, 6, 7, 8, 9, 10] c202L0))
 (.seq (.ops [o 4 (.mv (ci (-1)))] [4])
 (.ret))))))))))⟩

def c208 : AFunc := ⟨117, [.tmp 2, .tmp 3],
 .seq (.ops [o 2 (.mv (.c (.p (.int .i32 0)))), o 3 (.mv (ci 0))] [0])
 (.seq (.ops [mt 13 0, o 14 (.len 0 (.t 13)), mt 4 14] [0, 4])
 (.seq (.seq (.ops [mt 15 4, o 16 (.bin .lss (.t 15) (ci 1))] [0, 4, 16])
 (.cond (.t 16)
 (.seq (.ops [o 2 (.mv (.c (.p (.int .i32 65533)))), o 3 (.mv (ci 0))] [2, 3])
 (.ret))
 (.skip)))
 (.seq (.ops [mt 17 0, o 18 (.idxs (.t 17) (ci 0)), mt 5 18] [0, 4, 5])
 (.seq (.ops [mt 19 5, o 20 (.iadra 1 256 (.g 4) (.t 19)), o 21 (.ld false 1 (.t 20)), mt 6 21] [0, 4, 5, 6])
 (.seq (.seq (.ops [mt 22 6, o 23 (.bin .geq (.t 22) (.c (.p (.int .u8 240))))] [0, 4, 5, 6, 23])
 (.cond (.t 23)
 (.seq (.ops [mt 24 6, o 25 (.conv (.int .i32) (.t 24)), o 26 (.shift true (.t 25) (.c (.p (.int .u64 31)))), o 27 (.shift false (.t 26) (.c (.p (.int .u64 31)))), mt 7 27] [0, 7])
 (.seq (.ops [mt 28 0, o 29 (.idxs (.t 28) (ci 0)), o 30 (.conv (.int .i32) (.t 29)), mt 31 7, o 32 (.bin .andNot (.t 30) (.t 31)), mt 33 7, o 34 (.bin .and (.c (.p (.int .i32 65533))) (.t 33)), o 35 (.bin .or (.t 32) (.t 34)), mt 2 35, o 3 (.mv (ci 1))] [2, 3])
 (.ret)))
 (.skip)))
 (.seq (.ops [mt 36 6, o 37 (.bin .and (.t 36) (.c (.p (.int .u8 7)))), o 38 (.conv (.int .i64) (.t 37)), mt 8 38] [0, 4, 5, 6, 8])
 (.seq (.ops [mt 39 6, o 40 (.shift false (.t 39) (.c (.p (.int .u64 4)))), o 41 (.iadra 2 16 (.g 5) (.t 40)), o 42 (.ld true 2 (.t 41)), o 9 (.alloc true 1 [.p (.int .u8 0), .p (.int .u8 0)]), u (.st 2 (.t 9) (.t 42))] [0, 4, 5, 8, 9])
 (.seq (.seq (.ops [mt 43 4, mt 44 8, o 45 (.bin .lss (.t 43) (.t 44))] [0, 5, 8, 9, 45])
 (.cond (.t 45)
 (.seq (.ops [o 2 (.mv (.c (.p (.int .i32 65533)))), o 3 (.mv (ci 1))] [2, 3])
 (.ret))
 (.skip)))
 (.seq (.ops [mt 46 0, o 47 (.idxs (.t 46) (ci 1)), mt 10 47] [0, 5, 8, 9, 10])
 (.seq (.seq (.ops [mt 48 10, o 49 (.fadr 0 (.t 9)), o 50 (.ld false 1 (.t 49)), o 51 (.bin .lss (.t 48) (.t 50)), mt 52 51, ⟨some 53, .fadr 1 (.t 9), some (52, false)⟩, ⟨some 54, .ld false 1 (.t 53), some (52, false)⟩, ⟨some 55, .mv (.t 10), some (52, false)⟩, ⟨some 56, .bin .lss (.t 54) (.t 55), some (52, false)⟩, o 57 (.pick (.t 52) (cb true) (.t 56))] [0, 5, 8, 10, 57])
 (.cond (.t 57)
 (.seq (.ops [o 2 (.mv (.c (.p (.int .i32 65533)))), o 3 (.mv (ci 1))] [2, 3])
 (.ret))
 (.skip)))
 (.seq (.seq (.ops [mt 58 8, o 59 (.bin .leq (.t 58) (ci 2))] [0, 5, 8, 10, 59])
 (.cond (.t 59)
 (.seq (.ops [mt 60 5, o 61 (.bin .and (.t 60) (.c (.p (.int .u8 31)))), o 62 (.conv (.int .i32) (.t 61)), o 63 (.shift true (.t 62) (.c (.p (.int .u64 6)))), mt 64 10, o 65 (.bin .and (.t 64) (.c (.p (.int .u8 63)))), o 66 (.conv (.int .i32) (.t 65)), o 67 (.bin .or (.t 63) (.t 66)), mt 2 67, o 3 (.mv (ci 2))] [2, 3])
 (.ret))
 (.skip)))
 (.seq (.ops [mt 68 0, o 69 (.idxs (.t 68) (ci 2)), mt 11 69] [0, 5, 8, 10, 11])
 (.seq (.seq (.ops [mt 70 11, o 71 (.bin .lss (.t 70) (.c (.p (.int .u8 128)))), mt 72 71, ⟨some 73, .mv (.t 11), some (72, false)⟩, ⟨some 74, .bin .lss (.c (.p (.int .u8 191))) (.t 73), some (72, false)⟩, o 75 (.pick (.t 72) (cb true) (.t 74))] [0, 5, 8, 10, 11, 75])
 (.cond (.t 75)
 (.seq (.ops [o 2 (.mv (.c (.p (.int .i32 65533)))), o 3 (.mv (ci 1))] [2, 3])
 (.ret))
 (.skip)))
 (.seq (.seq (.ops [mt 76 8, o 77 (.bin .leq (.t 76) (ci 3))] [0, 5, 10, 11, 77])
 (.cond (.t 77)
 (.seq (.ops [mt 78 5, o 79 (.bin .and (.t 78) (.c (.p (.int .u8 15)))), o 80 (.conv (.int .i32) (.t 79)), o 81 (.shift true (.t 80) (.c (.p (.int .u64 12)))), mt 82 10, o 83 (.bin .and (.t 82) (.c (.p (.int .u8 63)))), o 84 (.conv (.int .i32) (.t 83)), o 85 (.shift true (.t 84) (.c (.p (.int .u64 6)))), o 86 (.bin .or (.t 81) (.t 85)), mt 87 11, o 88 (.bin .and (.t 87) (.c (.p (.int .u8 63)))), o 89 (.conv (.int .i32) (.t 88)), o 90 (.bin .or (.t 86) (.t 89)), mt 2 90, o 3 (.mv (ci 3))] [2, 3])
 (.ret))
 (.skip)))
 (.seq (.ops [mt 91 0, o 92 (.idxs (.t 91) (ci 3)), mt 12 92] [5, 10, 11, 12])
 (.seq (.seq (.ops [mt 93 12, o 94 (.bin .lss (.t 93) (.c (.p (.int .u8 128)))), mt 95 94, ⟨some 96, .mv (.t 12), some (95, false)⟩, ⟨some 97, .bin .lss (.c (.p (.int .u8 191))) (.t 96), some (95, false)⟩, o 98 (.pick (.t 95) (cb true) (.t 97))] [5, 10, 11, 12, 98])
 (.cond (.t 98)
 (.seq (.ops [o 2 (.mv (.c (.p (.int .i32 65533)))), o 3 (.mv (ci 1))] [2, 3])
 (.ret))
 (.skip)))
 (.seq (.ops [mt 99 5, o 100 (.bin .and (.t 99) (.c (.p (.int .u8 7)))), o 101 (.conv (.int .i32) (.t 100)), o 102 (.shift true (.t 101) (.c (.p (.int .u64 18)))), mt 103 10, o 104 (.bin .and (.t 103) (.c (.p (.int .u8 63)))), o 105 (.conv (.int .i32) (.t 104)), o 106 (.shift true (.t 105) (.c (.p (.int .u64 12)))), o 107 (.bin .or (.t 102) (.t 106)), mt 108 11, o 109 (.bin .and (.t 108) (.c (.p (.int .u8 63)))), o 110 (.conv (.int .i32) (.t 109)), o 111 (.shift true (.t 110) (.c (.p (.int .u64 6)))), o 112 (.bin .or (.t 107) (.t 111)), mt 113 12, o 114 (.bin .and (.t 113) (.c (.p (.int .u8 63)))), o 115 (.conv (.int .i32) (.t 114)), o 116 (.bin .or (.t 112) (.t 115)), mt 2 116, o 3 (.mv (ci 4))] [2, 3])
 (.ret))))))))))))))))))⟩

def c210 : AFunc := ⟨6, [.tmp 2],
 .seq (.ops [o 2 (.mv (ci 0))] [0])
 (.seq (.ops [mt 3 0, o 4 (.bin .add (.t 3) (ci 16)), o 5 (.bin .quo (.t 4) (ci 8)), mt 2 5] [2])
 (.ret))⟩

def c211L0 : ACode :=
 .seq (.seq (.ops [mt 18 9, mt 19 7, o 20 (.bin .lss (.t 18) (.t 19))] [0, 1, 5, 6, 7, 8, 9, 20])
 (.cond (.t 20)
 (.skip)
 (.exit 0)))
 (.seq (.block 1 (.ops [mt 23 8, o 24 (.bin .mul (.t 23) (.c (.p (.int .u32 16777619)))), mt 25 0, mt 26 9, o 27 (.idxs (.t 25) (.t 26)), o 28 (.conv (.int .u32) (.t 27)), o 29 (.bin .add (.t 24) (.t 28)), mt 8 29] [0, 1, 5, 6, 7, 8, 9]))
 (.ops [mt 21 9, o 22 (.bin .add (.t 21) (ci 1)), mt 9 22] [0, 1, 5, 6, 7, 8, 9]))
def c211L1 : ACode :=
 .seq (.seq (.ops [mt 41 10, mt 42 0, o 43 (.len 0 (.t 42)), o 44 (.bin .lss (.t 41) (.t 43))] [0, 1, 5, 6, 7, 8, 10, 44])
 (.cond (.t 44)
 (.skip)
 (.exit 2)))
 (.block 3 (.seq (.ops [mt 45 8, o 46 (.bin .mul (.t 45) (.c (.p (.int .u32 16777619)))), mt 8 46] [0, 1, 5, 6, 7, 8, 10])
 (.seq (.ops [mt 47 8, mt 48 0, mt 49 10, o 50 (.idxs (.t 48) (.t 49)), o 51 (.conv (.int .u32) (.t 50)), o 52 (.bin .add (.t 47) (.t 51)), mt 8 52] [0, 1, 5, 6, 7, 8, 10])
 (.seq (.ops [mt 53 8, mt 54 6, mt 55 0, mt 56 10, mt 57 7, o 58 (.bin .sub (.t 56) (.t 57)), o 59 (.idxs (.t 55) (.t 58)), o 60 (.conv (.int .u32) (.t 59)), o 61 (.bin .mul (.t 54) (.t 60)), o 62 (.bin .sub (.t 53) (.t 61)), mt 8 62] [0, 1, 5, 6, 7, 8, 10])
 (.seq (.ops [mt 63 10, o 64 (.bin .add (.t 63) (ci 1)), mt 10 64] [0, 1, 5, 6, 7, 8, 10])
 (.seq (.ops [mt 65 8, mt 66 5, o 67 (.bin .eql (.t 65) (.t 66)), mt 68 67, ⟨some 69, .mv (.t 0), some (68, true)⟩, ⟨some 70, .mv (.t 10), some (68, true)⟩, ⟨some 71, .mv (.t 7), some (68, true)⟩, ⟨some 72, .bin .sub (.t 70) (.t 71), some (68, true)⟩, ⟨some 73, .mv (.t 10), some (68, true)⟩, ⟨some 74, .slcs (.t 69) (some (.t 72)) (some (.t 73)), some (68, true)⟩, ⟨some 75, .mv (.t 1), some (68, true)⟩, ⟨some 76, .bin .eql (.t 74) (.t 75), some (68, true)⟩, o 77 (.pick (.t 68) (.t 76) (cb false))] [0, 1, 5, 6, 7, 8, 10, 77])
 (.cond (.t 77)
 (.seq (.ops [mt 78 10, mt 79 7, o 80 (.bin .sub (.t 78) (.t 79)), mt 4 80] [4])
 (.ret))
 (.skip))))))))
def c211 : AFunc := ⟨81, [.tmp 4],
 .seq (.ops [o 4 (.mv (ci 0))] [0, 1])
 (.seq (.ops [mt 12 1, o 13 (.call true true 0 (.fn 214) [.t 12]), mt 11 13, o 14 (.ext (.t 11) 0), o 15 (.ext (.t 11) 1), mt 5 14, mt 6 15] [0, 1, 5, 6])
 (.seq (.ops [mt 16 1, o 17 (.len 0 (.t 16)), mt 7 17] [0, 1, 5, 6, 7])
 (.seq (.ops [o 8 (.mv (.c (.p (.int .u32 0))))] [0, 1, 5, 6, 7, 8])
 (.seq (.seq (.ops [o 9 (.mv (ci 0))] [0, 1, 5, 6, 7, 8, 9])
 (.block 0 (.loop false [0, 1, 5, 6, 7, 8, 9] c211L0)))
 (.seq (.seq (.ops [mt 30 8, mt 31 5, o 32 (.bin .eql (.t 30) (.t 31)), mt 33 32, ⟨some 34, .mv (.t 0), some (33, true)⟩, ⟨some 35, .mv (.t 7), some (33, true)⟩, ⟨some 36, .slcs (.t 34) none (some (.t 35)), some (33, true)⟩, ⟨some 37, .mv (.t 1), some (33, true)⟩, ⟨some 38, .bin .eql (.t 36) (.t 37), some (33, true)⟩, o 39 (.pick (.t 33) (.t 38) (cb false))] [0, 1, 5, 6, 7, 8, 39])
 (.cond (.t 39)
 (.seq (.ops [o 4 (.mv (ci 0))] [4])
 (.ret))
 (.skip)))
 (.seq (.seq (.ops [mt 40 7, mt 10 40] [0, 1, 5, 6, 7, 8, 10])
 (.block 2 (.loop false [0, 1, 5, 6, 7, 8, 10] c211L1)))
 (.seq (.ops [o 4 (.mv (ci (-1)))] [4])
 (.ret))))))))⟩

def c214L0 : ACode :=
 .seq (.seq (.ops [mt 9 5, mt 10 0, o 11 (.len 0 (.t 10)), o 12 (.bin .lss (.t 9) (.t 11))] [0, 4, 5, 12])
 (.cond (.t 12)
 (.skip)
 (.exit 0)))
 (.seq (.block 1 (.ops [mt 15 4, o 16 (.bin .mul (.t 15) (.c (.p (.int .u32 16777619)))), mt 17 0, mt 18 5, o 19 (.idxs (.t 17) (.t 18)), o 20 (.conv (.int .u32) (.t 19)), o 21 (.bin .add (.t 16) (.t 20)), mt 4 21] [0, 4, 5]))
 (.ops [mt 13 5, o 14 (.bin .add (.t 13) (ci 1)), mt 5 14] [0, 4, 5]))
def c214L1 : ACode :=
 .seq (.seq (.ops [mt 24 8, o 25 (.bin .gtr (.t 24) (ci 0))] [4, 6, 7, 8, 25])
 (.cond (.t 25)
 (.skip)
 (.exit 2)))
 (.seq (.block 3 (.seq (.seq (.ops [mt 28 8, o 29 (.bin .and (.t 28) (ci 1)), o 30 (.bin .neq (.t 29) (ci 0))] [4, 6, 7, 8, 30])
 (.cond (.t 30)
 (.ops [mt 31 6, mt 32 7, o 33 (.bin .mul (.t 31) (.t 32)), mt 6 33] [4, 6, 7, 8])
 (.skip)))
 (.ops [mt 34 7, mt 35 7, o 36 (.bin .mul (.t 34) (.t 35)), mt 7 36] [4, 6, 7, 8])))
 (.ops [mt 26 8, o 27 (.shift false (.t 26) (.c (.p (.int .u64 1)))), mt 8 27] [4, 6, 7, 8]))
def c214 : AFunc := ⟨39, [.tmp 2, .tmp 3],
 .seq (.ops [o 2 (.mv (.c (.p (.int .u32 0)))), o 3 (.mv (.c (.p (.int .u32 0))))] [0])
 (.seq (.ops [o 4 (.mv (.c (.p (.int .u32 0))))] [0, 4])
 (.seq (.seq (.ops [o 5 (.mv (ci 0))] [0, 4, 5])
 (.block 0 (.loop false [0, 4, 5] c214L0)))
 (.seq (.ops [o 6 (.mv (.c (.p (.int .u32 1)))), o 7 (.mv (.c (.p (.int .u32 16777619))))] [0, 4, 6, 7])
 (.seq (.seq (.ops [mt 22 0, o 23 (.len 0 (.t 22)), mt 8 23] [4, 6, 7, 8])
 (.block 2 (.loop false [4, 6, 7, 8] c214L1)))
 (.seq (.ops [mt 37 4, mt 38 6, mt 2 37, mt 3 38] [2, 3])
 (.ret))))))⟩

def c232 : AFunc := ⟨5, [.tmp 2],
 .seq (.ops [o 1 (.box true (.t 0)), o 2 (.mv (ci 0))] [1])
 (.seq (.ops [o 3 (.fadr 0 (.t 1)), o 4 (.ld false 1 (.t 3)), mt 2 4] [2])
 (.ret))⟩

def c233 : AFunc := ⟨5, [.tmp 2],
 .seq (.ops [o 1 (.box true (.t 0)), o 2 (.mv (ci 0))] [1])
 (.seq (.ops [o 3 (.fadr 1 (.t 1)), o 4 (.ld false 1 (.t 3)), mt 2 4] [2])
 (.ret))⟩


def FT : Tr := (.node 123 c123 (.node 75 c75 (.node 40 c40 (.node 33 c33 (.node 16 c16 (.node 13 c13 (.node 11 c11 .leaf .leaf) (.node 14 c14 .leaf .leaf)) (.node 24 c24 (.node 17 c17 .leaf .leaf) (.node 27 c27 .leaf .leaf))) (.node 37 c37 (.node 35 c35 (.node 34 c34 .leaf .leaf) (.node 36 c36 .leaf .leaf)) (.node 39 c39 (.node 38 c38 .leaf .leaf) .leaf))) (.node 61 c61 (.node 51 c51 (.node 49 c49 (.node 48 c48 .leaf .leaf) (.node 50 c50 .leaf .leaf)) (.node 55 c55 (.node 52 c52 .leaf .leaf) (.node 59 c59 .leaf .leaf))) (.node 72 c72 (.node 64 c64 (.node 62 c62 .leaf .leaf) (.node 71 c71 .leaf .leaf)) (.node 74 c74 (.node 73 c73 .leaf .leaf) .leaf)))) (.node 107 c107 (.node 97 c97 (.node 90 c90 (.node 83 c83 (.node 82 c82 .leaf .leaf) (.node 84 c84 .leaf .leaf)) (.node 95 c95 (.node 94 c94 .leaf .leaf) (.node 96 c96 .leaf .leaf))) (.node 101 c101 (.node 99 c99 (.node 98 c98 .leaf .leaf) (.node 100 c100 .leaf .leaf)) (.node 103 c103 (.node 102 c102 .leaf .leaf) .leaf))) (.node 116 c116 (.node 111 c111 (.node 109 c109 (.node 108 c108 .leaf .leaf) (.node 110 c110 .leaf .leaf)) (.node 115 c115 (.node 112 c112 .leaf .leaf) .leaf)) (.node 120 c120 (.node 118 c118 (.node 117 c117 .leaf .leaf) (.node 119 c119 .leaf .leaf)) (.node 122 c122 (.node 121 c121 .leaf .leaf) .leaf))))) (.node 163 c163 (.node 141 c141 (.node 134 c134 (.node 127 c127 (.node 125 c125 (.node 124 c124 .leaf .leaf) (.node 126 c126 .leaf .leaf)) (.node 129 c129 (.node 128 c128 .leaf .leaf) (.node 130 c130 .leaf .leaf))) (.node 138 c138 (.node 136 c136 (.node 135 c135 .leaf .leaf) (.node 137 c137 .leaf .leaf)) (.node 140 c140 (.node 139 c139 .leaf .leaf) .leaf))) (.node 155 c155 (.node 148 c148 (.node 146 c146 (.node 144 c144 .leaf .leaf) (.node 147 c147 .leaf .leaf)) (.node 150 c150 (.node 149 c149 .leaf .leaf) (.node 153 c153 .leaf .leaf))) (.node 160 c160 (.node 157 c157 (.node 156 c156 .leaf .leaf) (.node 158 c158 .leaf .leaf)) (.node 162 c162 (.node 161 c161 .leaf .leaf) .leaf)))) (.node 186 c186 (.node 175 c175 (.node 167 c167 (.node 165 c165 (.node 164 c164 .leaf .leaf) (.node 166 c166 .leaf .leaf)) (.node 173 c173 (.node 172 c172 .leaf .leaf) (.node 174 c174 .leaf .leaf))) (.node 183 c183 (.node 178 c178 (.node 176 c176 .leaf .leaf) (.node 179 c179 .leaf .leaf)) (.node 185 c185 (.node 184 c184 .leaf .leaf) .leaf))) (.node 202 c202 (.node 194 c194 (.node 192 c192 (.node 191 c191 .leaf .leaf) (.node 193 c193 .leaf .leaf)) (.node 200 c200 (.node 199 c199 .leaf .leaf) .leaf)) (.node 214 c214 (.node 210 c210 (.node 208 c208 .leaf .leaf) (.node 211 c211 .leaf .leaf)) (.node 233 c233 (.node 232 c232 .leaf .leaf) .leaf))))))
def F (n : Nat) : Option AFunc := FT.find n
end Fw
