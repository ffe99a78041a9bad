/- The kinds that are permitted, the program's, kind by kind (printed by genP1.py). -/
import Derived.Test.YtdjkleaojdeepaaGreatDoorGaRB
set_option maxHeartbeats 16000000
namespace Fw
open Go
attribute [local irreducible] evCode evOps evOpsD evOper evOperD evOp evFn loopN T.All T.bind callPure callOp opsK opsDK restK seqK blockK loopS setK setQ giveK scalK gcK finish finS rfunK yldK yldB loopK

def mkA (t n : Int) (k : List UInt8) : ActI := ⟨t, k, if doorB k = true ∨ keyB k = true then n else 0, 0, 0, 0⟩
def permB (h : HallI) (s : StaI) (t n : Int) (k : List UInt8) : Bool := decide (actE h (mkA t n k) = 0) && decide ((reaL s (mkA t n k)).length = 0)
def permL (h : HallI) (s : StaI) (t n : Int) : List (List UInt8) := kindL.foldl (fun L k => addR L (permB h s t n k) k) []
def P21 (h : HallI) (s : StaI) (t n : Int) (L : List (List UInt8)) (i : Int) : St := ⟨[(2, iv t), (3, iv n), (4, .ptr 0 0 0), (15, .ptr 1 0 0), (16, .sl 2 L.length 0 L.length), (46, iv i)], [(2, .arr (pStr L) L.length 1), (1, .arr (sc s) 0 1), (0, .box [iv h.doors, iv h.base, csl h.t0, csl h.t1, csl h.t2])]⟩

theorem s21_0 {d : Nat} (h : HallI) (s : StaI) (t n : Int) (L : List (List UInt8)) (hL : L.length ≤ 10) (hx : actE h (mkA t n kOpen) = 0 → NumOk (mkA t n kOpen)) :
  ∃ st1, loopS (evFn F C0 G0 (d + 6)) C0 G0 0 true [2, 3, 4, 15, 16, 46] c21L0 (P21 h s t n L 0) = .ret (.normal, st1) ∧ loopS (evFn F C0 G0 (d + 6)) C0 G0 0 true [2, 3, 4, 15, 16, 46] c21L0 st1 = loopS (evFn F C0 G0 (d + 6)) C0 G0 0 true [2, 3, 4, 15, 16, 46] c21L0 (P21 h s t n (addR L (permB h s t n kOpen) kOpen) 1) := by
 have hm : mkA t n kOpen = ⟨t, kOpen, n, 0, 0, 0⟩ := rfl
 have kc := check87 (n := d + 6) (by omega) h (mkA t n kOpen)
 have kr := fun e => reasons90 (n := d + 6) (by omega) s (mkA t n kOpen) (hx e)
 have kn := call_door (n := d + 6) (by omega) h
 have ki : RUN (d + 6) 93 [aa ⟨t, kOpen, n, 0, 0, 0⟩, .p (.sl [.str kOpen, .str kClose, .str kEnter, .str kLeave] 4)] = .ret (bl (decide (kOpen ∈ [kOpen, kClose, kEnter, kLeave]))) := is93 (by omega) ⟨t, kOpen, n, 0, 0, 0⟩ [kOpen, kClose, kEnter, kLeave] (by simp)
 rw [show decide (kOpen ∈ [kOpen, kClose, kEnter, kLeave]) = true from by decide] at ki
 unfold permB
 have hQR : (pStr (reaL s (mkA t n kOpen))).length = (reaL s (mkA t n kOpen)).length := by simp
 have hzR : (reaL s (mkA t n kOpen)).length = 0 → pStr (reaL s (mkA t n kOpen)) = [] := fun e => by rw [List.eq_nil_of_length_eq_zero e]; rfl
 simp only [hm] at *
 have hG : G0 0 = some g0 := rfl
 have hlim : L.length + 1 ≤ lim := by simp only [lim]; omega
 have hQ : (pStr L).length = L.length := by simp
 have e1 : pStr (L ++ [kOpen]) = pStr L ++ [.str kOpen] := (pStr_snoc _ _).symm
 have e2 : (L ++ [kOpen]).length = L.length + 1 := by simp
 have w1 : IntKind.i64.wrap 1 = 1 := by decide
 generalize reaL s ⟨t, kOpen, n, 0, 0, 0⟩ = R at *
 generalize actE h ⟨t, kOpen, n, 0, 0, 0⟩ = e at *
 obtain ⟨st, o0, o1, o2, o3, o4, o5, o6, o7, k0, k1, pp, ar, sh, ad⟩ := s
 simp only [P21, ha, csl, sc, g0] at *
 generalize cI h.t0 = A0 at *
 generalize cI h.t1 = A1 at *
 generalize cI h.t2 = A2 at *
 generalize pStr R = PR at *
 by_cases he : e = 0
 ·have kr := kr he
  subst he
  by_cases hr : R.length = 0
  ·have hzR := hzR hr
   subst hzR
   rw [hr] at kr
   simp only [hr, decide_true, Bool.and_self, addR, if_true, e1, e2]
   generalize pStr L = Q at *
   generalize L.length = y at *
   cases hd1 : (h.doors == 1)
   ·refine ⟨?_, ?h1, ?h2⟩
    case h1 =>
     simp -implicitDefEqProofs [loopS_eq, c21L0, hG, kn, kc, w1, kr, hQ, hlim, hd1]
     exact rfl
    case h2 => exact loopS_same (by simp) (by simp)
   ·refine ⟨?_, ?h1, ?h2⟩
    case h1 =>
     simp -implicitDefEqProofs [loopS_eq, c21L0, hG, kn, ki, kc, w1, kr, hQ, hlim, hd1]
     exact rfl
    case h2 => exact loopS_same (by simp) (by simp)
  ·have hb : ((R.length : Int) == 0) = false := by simpa using hr
   simp only [hr, decide_true, decide_false, Bool.and_false, addR, Bool.false_eq_true, if_false]
   generalize pStr L = Q at *
   generalize L.length = y at *
   generalize R.length = z at *
   cases hd1 : (h.doors == 1)
   ·refine ⟨?_, ?h1, ?h2⟩
    case h1 =>
     simp -implicitDefEqProofs [loopS_eq, c21L0, hG, kn, kc, w1, kr, hb, hd1]
     exact rfl
    case h2 => exact loopS_same (by simp) (by simp)
   ·refine ⟨?_, ?h1, ?h2⟩
    case h1 =>
     simp -implicitDefEqProofs [loopS_eq, c21L0, hG, kn, ki, kc, w1, kr, hb, hd1]
     exact rfl
    case h2 => exact loopS_same (by simp) (by simp)
 ·have hb : (e == 0) = false := by simpa using he
  simp only [he, decide_false, Bool.false_and, addR, Bool.false_eq_true, if_false]
  generalize pStr L = Q at *
  generalize L.length = y at *
  cases hd1 : (h.doors == 1)
  ·refine ⟨?_, ?h1, ?h2⟩
   case h1 =>
    simp -implicitDefEqProofs [loopS_eq, c21L0, hG, kn, kc, w1, hb, hd1]
    exact rfl
   case h2 => exact loopS_same (by simp) (by simp)
  ·refine ⟨?_, ?h1, ?h2⟩
   case h1 =>
    simp -implicitDefEqProofs [loopS_eq, c21L0, hG, kn, ki, kc, w1, hb, hd1]
    exact rfl
   case h2 => exact loopS_same (by simp) (by simp)

theorem s21_1 {d : Nat} (h : HallI) (s : StaI) (t n : Int) (L : List (List UInt8)) (hL : L.length ≤ 10) (hx : actE h (mkA t n kClose) = 0 → NumOk (mkA t n kClose)) :
  ∃ st1, loopS (evFn F C0 G0 (d + 6)) C0 G0 0 true [2, 3, 4, 15, 16, 46] c21L0 (P21 h s t n L 1) = .ret (.normal, st1) ∧ loopS (evFn F C0 G0 (d + 6)) C0 G0 0 true [2, 3, 4, 15, 16, 46] c21L0 st1 = loopS (evFn F C0 G0 (d + 6)) C0 G0 0 true [2, 3, 4, 15, 16, 46] c21L0 (P21 h s t n (addR L (permB h s t n kClose) kClose) 2) := by
 have hm : mkA t n kClose = ⟨t, kClose, n, 0, 0, 0⟩ := rfl
 have kc := check87 (n := d + 6) (by omega) h (mkA t n kClose)
 have kr := fun e => reasons90 (n := d + 6) (by omega) s (mkA t n kClose) (hx e)
 have kn := call_door (n := d + 6) (by omega) h
 have ki : RUN (d + 6) 93 [aa ⟨t, kClose, n, 0, 0, 0⟩, .p (.sl [.str kOpen, .str kClose, .str kEnter, .str kLeave] 4)] = .ret (bl (decide (kClose ∈ [kOpen, kClose, kEnter, kLeave]))) := is93 (by omega) ⟨t, kClose, n, 0, 0, 0⟩ [kOpen, kClose, kEnter, kLeave] (by simp)
 rw [show decide (kClose ∈ [kOpen, kClose, kEnter, kLeave]) = true from by decide] at ki
 unfold permB
 have hQR : (pStr (reaL s (mkA t n kClose))).length = (reaL s (mkA t n kClose)).length := by simp
 have hzR : (reaL s (mkA t n kClose)).length = 0 → pStr (reaL s (mkA t n kClose)) = [] := fun e => by rw [List.eq_nil_of_length_eq_zero e]; rfl
 simp only [hm] at *
 have hG : G0 0 = some g0 := rfl
 have hlim : L.length + 1 ≤ lim := by simp only [lim]; omega
 have hQ : (pStr L).length = L.length := by simp
 have e1 : pStr (L ++ [kClose]) = pStr L ++ [.str kClose] := (pStr_snoc _ _).symm
 have e2 : (L ++ [kClose]).length = L.length + 1 := by simp
 have w1 : IntKind.i64.wrap 2 = 2 := by decide
 generalize reaL s ⟨t, kClose, n, 0, 0, 0⟩ = R at *
 generalize actE h ⟨t, kClose, n, 0, 0, 0⟩ = e at *
 obtain ⟨st, o0, o1, o2, o3, o4, o5, o6, o7, k0, k1, pp, ar, sh, ad⟩ := s
 simp only [P21, ha, csl, sc, g0] at *
 generalize cI h.t0 = A0 at *
 generalize cI h.t1 = A1 at *
 generalize cI h.t2 = A2 at *
 generalize pStr R = PR at *
 by_cases he : e = 0
 ·have kr := kr he
  subst he
  by_cases hr : R.length = 0
  ·have hzR := hzR hr
   subst hzR
   rw [hr] at kr
   simp only [hr, decide_true, Bool.and_self, addR, if_true, e1, e2]
   generalize pStr L = Q at *
   generalize L.length = y at *
   cases hd1 : (h.doors == 1)
   ·refine ⟨?_, ?h1, ?h2⟩
    case h1 =>
     simp -implicitDefEqProofs [loopS_eq, c21L0, hG, kn, kc, w1, kr, hQ, hlim, hd1]
     exact rfl
    case h2 => exact loopS_same (by simp) (by simp)
   ·refine ⟨?_, ?h1, ?h2⟩
    case h1 =>
     simp -implicitDefEqProofs [loopS_eq, c21L0, hG, kn, ki, kc, w1, kr, hQ, hlim, hd1]
     exact rfl
    case h2 => exact loopS_same (by simp) (by simp)
  ·have hb : ((R.length : Int) == 0) = false := by simpa using hr
   simp only [hr, decide_true, decide_false, Bool.and_false, addR, Bool.false_eq_true, if_false]
   generalize pStr L = Q at *
   generalize L.length = y at *
   generalize R.length = z at *
   cases hd1 : (h.doors == 1)
   ·refine ⟨?_, ?h1, ?h2⟩
    case h1 =>
     simp -implicitDefEqProofs [loopS_eq, c21L0, hG, kn, kc, w1, kr, hb, hd1]
     exact rfl
    case h2 => exact loopS_same (by simp) (by simp)
   ·refine ⟨?_, ?h1, ?h2⟩
    case h1 =>
     simp -implicitDefEqProofs [loopS_eq, c21L0, hG, kn, ki, kc, w1, kr, hb, hd1]
     exact rfl
    case h2 => exact loopS_same (by simp) (by simp)
 ·have hb : (e == 0) = false := by simpa using he
  simp only [he, decide_false, Bool.false_and, addR, Bool.false_eq_true, if_false]
  generalize pStr L = Q at *
  generalize L.length = y at *
  cases hd1 : (h.doors == 1)
  ·refine ⟨?_, ?h1, ?h2⟩
   case h1 =>
    simp -implicitDefEqProofs [loopS_eq, c21L0, hG, kn, kc, w1, hb, hd1]
    exact rfl
   case h2 => exact loopS_same (by simp) (by simp)
  ·refine ⟨?_, ?h1, ?h2⟩
   case h1 =>
    simp -implicitDefEqProofs [loopS_eq, c21L0, hG, kn, ki, kc, w1, hb, hd1]
    exact rfl
   case h2 => exact loopS_same (by simp) (by simp)

theorem s21_2 {d : Nat} (h : HallI) (s : StaI) (t n : Int) (L : List (List UInt8)) (hL : L.length ≤ 10) (hx : actE h (mkA t n kInsert) = 0 → NumOk (mkA t n kInsert)) :
  ∃ st1, loopS (evFn F C0 G0 (d + 6)) C0 G0 0 true [2, 3, 4, 15, 16, 46] c21L0 (P21 h s t n L 2) = .ret (.normal, st1) ∧ loopS (evFn F C0 G0 (d + 6)) C0 G0 0 true [2, 3, 4, 15, 16, 46] c21L0 st1 = loopS (evFn F C0 G0 (d + 6)) C0 G0 0 true [2, 3, 4, 15, 16, 46] c21L0 (P21 h s t n (addR L (permB h s t n kInsert) kInsert) 3) := by
 have hm : mkA t n kInsert = ⟨t, kInsert, n, 0, 0, 0⟩ := rfl
 have kc := check87 (n := d + 6) (by omega) h (mkA t n kInsert)
 have kr := fun e => reasons90 (n := d + 6) (by omega) s (mkA t n kInsert) (hx e)
 have kn := call_key (n := d + 6) (by omega) h
 have ki : RUN (d + 6) 93 [aa ⟨t, kInsert, n, 0, 0, 0⟩, .p (.sl [.str kOpen, .str kClose, .str kEnter, .str kLeave] 4)] = .ret (bl (decide (kInsert ∈ [kOpen, kClose, kEnter, kLeave]))) := is93 (by omega) ⟨t, kInsert, n, 0, 0, 0⟩ [kOpen, kClose, kEnter, kLeave] (by simp)
 rw [show decide (kInsert ∈ [kOpen, kClose, kEnter, kLeave]) = false from by decide] at ki
 unfold permB
 have hQR : (pStr (reaL s (mkA t n kInsert))).length = (reaL s (mkA t n kInsert)).length := by simp
 have hzR : (reaL s (mkA t n kInsert)).length = 0 → pStr (reaL s (mkA t n kInsert)) = [] := fun e => by rw [List.eq_nil_of_length_eq_zero e]; rfl
 simp only [hm] at *
 have hG : G0 0 = some g0 := rfl
 have hlim : L.length + 1 ≤ lim := by simp only [lim]; omega
 have hQ : (pStr L).length = L.length := by simp
 have e1 : pStr (L ++ [kInsert]) = pStr L ++ [.str kInsert] := (pStr_snoc _ _).symm
 have e2 : (L ++ [kInsert]).length = L.length + 1 := by simp
 have w1 : IntKind.i64.wrap 3 = 3 := by decide
 generalize reaL s ⟨t, kInsert, n, 0, 0, 0⟩ = R at *
 generalize actE h ⟨t, kInsert, n, 0, 0, 0⟩ = e at *
 obtain ⟨st, o0, o1, o2, o3, o4, o5, o6, o7, k0, k1, pp, ar, sh, ad⟩ := s
 simp only [P21, ha, csl, sc, g0] at *
 generalize cI h.t0 = A0 at *
 generalize cI h.t1 = A1 at *
 generalize cI h.t2 = A2 at *
 generalize pStr R = PR at *
 by_cases he : e = 0
 ·have kr := kr he
  subst he
  by_cases hr : R.length = 0
  ·have hzR := hzR hr
   subst hzR
   rw [hr] at kr
   simp only [hr, decide_true, Bool.and_self, addR, if_true, e1, e2]
   generalize pStr L = Q at *
   generalize L.length = y at *
   ·refine ⟨?_, ?h1, ?h2⟩
    case h1 =>
     simp -implicitDefEqProofs [loopS_eq, c21L0, hG, kn, kc, w1, kr, hQ, hlim]
     exact rfl
    case h2 => exact loopS_same (by simp) (by simp)
  ·have hb : ((R.length : Int) == 0) = false := by simpa using hr
   simp only [hr, decide_true, decide_false, Bool.and_false, addR, Bool.false_eq_true, if_false]
   generalize pStr L = Q at *
   generalize L.length = y at *
   generalize R.length = z at *
   ·refine ⟨?_, ?h1, ?h2⟩
    case h1 =>
     simp -implicitDefEqProofs [loopS_eq, c21L0, hG, kn, kc, w1, kr, hb]
     exact rfl
    case h2 => exact loopS_same (by simp) (by simp)
 ·have hb : (e == 0) = false := by simpa using he
  simp only [he, decide_false, Bool.false_and, addR, Bool.false_eq_true, if_false]
  generalize pStr L = Q at *
  generalize L.length = y at *
  ·refine ⟨?_, ?h1, ?h2⟩
   case h1 =>
    simp -implicitDefEqProofs [loopS_eq, c21L0, hG, kn, kc, w1, hb]
    exact rfl
   case h2 => exact loopS_same (by simp) (by simp)

theorem s21_3 {d : Nat} (h : HallI) (s : StaI) (t n : Int) (L : List (List UInt8)) (hL : L.length ≤ 10) (hx : actE h (mkA t n kRemove) = 0 → NumOk (mkA t n kRemove)) :
  ∃ st1, loopS (evFn F C0 G0 (d + 6)) C0 G0 0 true [2, 3, 4, 15, 16, 46] c21L0 (P21 h s t n L 3) = .ret (.normal, st1) ∧ loopS (evFn F C0 G0 (d + 6)) C0 G0 0 true [2, 3, 4, 15, 16, 46] c21L0 st1 = loopS (evFn F C0 G0 (d + 6)) C0 G0 0 true [2, 3, 4, 15, 16, 46] c21L0 (P21 h s t n (addR L (permB h s t n kRemove) kRemove) 4) := by
 have hm : mkA t n kRemove = ⟨t, kRemove, n, 0, 0, 0⟩ := rfl
 have kc := check87 (n := d + 6) (by omega) h (mkA t n kRemove)
 have kr := fun e => reasons90 (n := d + 6) (by omega) s (mkA t n kRemove) (hx e)
 have kn := call_key (n := d + 6) (by omega) h
 have ki : RUN (d + 6) 93 [aa ⟨t, kRemove, n, 0, 0, 0⟩, .p (.sl [.str kOpen, .str kClose, .str kEnter, .str kLeave] 4)] = .ret (bl (decide (kRemove ∈ [kOpen, kClose, kEnter, kLeave]))) := is93 (by omega) ⟨t, kRemove, n, 0, 0, 0⟩ [kOpen, kClose, kEnter, kLeave] (by simp)
 rw [show decide (kRemove ∈ [kOpen, kClose, kEnter, kLeave]) = false from by decide] at ki
 unfold permB
 have hQR : (pStr (reaL s (mkA t n kRemove))).length = (reaL s (mkA t n kRemove)).length := by simp
 have hzR : (reaL s (mkA t n kRemove)).length = 0 → pStr (reaL s (mkA t n kRemove)) = [] := fun e => by rw [List.eq_nil_of_length_eq_zero e]; rfl
 simp only [hm] at *
 have hG : G0 0 = some g0 := rfl
 have hlim : L.length + 1 ≤ lim := by simp only [lim]; omega
 have hQ : (pStr L).length = L.length := by simp
 have e1 : pStr (L ++ [kRemove]) = pStr L ++ [.str kRemove] := (pStr_snoc _ _).symm
 have e2 : (L ++ [kRemove]).length = L.length + 1 := by simp
 have w1 : IntKind.i64.wrap 4 = 4 := by decide
 generalize reaL s ⟨t, kRemove, n, 0, 0, 0⟩ = R at *
 generalize actE h ⟨t, kRemove, n, 0, 0, 0⟩ = e at *
 obtain ⟨st, o0, o1, o2, o3, o4, o5, o6, o7, k0, k1, pp, ar, sh, ad⟩ := s
 simp only [P21, ha, csl, sc, g0] at *
 generalize cI h.t0 = A0 at *
 generalize cI h.t1 = A1 at *
 generalize cI h.t2 = A2 at *
 generalize pStr R = PR at *
 by_cases he : e = 0
 ·have kr := kr he
  subst he
  by_cases hr : R.length = 0
  ·have hzR := hzR hr
   subst hzR
   rw [hr] at kr
   simp only [hr, decide_true, Bool.and_self, addR, if_true, e1, e2]
   generalize pStr L = Q at *
   generalize L.length = y at *
   ·refine ⟨?_, ?h1, ?h2⟩
    case h1 =>
     simp -implicitDefEqProofs [loopS_eq, c21L0, hG, kn, kc, w1, kr, hQ, hlim]
     exact rfl
    case h2 => exact loopS_same (by simp) (by simp)
  ·have hb : ((R.length : Int) == 0) = false := by simpa using hr
   simp only [hr, decide_true, decide_false, Bool.and_false, addR, Bool.false_eq_true, if_false]
   generalize pStr L = Q at *
   generalize L.length = y at *
   generalize R.length = z at *
   ·refine ⟨?_, ?h1, ?h2⟩
    case h1 =>
     simp -implicitDefEqProofs [loopS_eq, c21L0, hG, kn, kc, w1, kr, hb]
     exact rfl
    case h2 => exact loopS_same (by simp) (by simp)
 ·have hb : (e == 0) = false := by simpa using he
  simp only [he, decide_false, Bool.false_and, addR, Bool.false_eq_true, if_false]
  generalize pStr L = Q at *
  generalize L.length = y at *
  ·refine ⟨?_, ?h1, ?h2⟩
   case h1 =>
    simp -implicitDefEqProofs [loopS_eq, c21L0, hG, kn, kc, w1, hb]
    exact rfl
   case h2 => exact loopS_same (by simp) (by simp)

theorem s21_4 {d : Nat} (h : HallI) (s : StaI) (t n : Int) (L : List (List UInt8)) (hL : L.length ≤ 10) (hx : actE h (mkA t n kEnter) = 0 → NumOk (mkA t n kEnter)) :
  ∃ st1, loopS (evFn F C0 G0 (d + 6)) C0 G0 0 true [2, 3, 4, 15, 16, 46] c21L0 (P21 h s t n L 4) = .ret (.normal, st1) ∧ loopS (evFn F C0 G0 (d + 6)) C0 G0 0 true [2, 3, 4, 15, 16, 46] c21L0 st1 = loopS (evFn F C0 G0 (d + 6)) C0 G0 0 true [2, 3, 4, 15, 16, 46] c21L0 (P21 h s t n (addR L (permB h s t n kEnter) kEnter) 5) := by
 have hm : mkA t n kEnter = ⟨t, kEnter, n, 0, 0, 0⟩ := rfl
 have kc := check87 (n := d + 6) (by omega) h (mkA t n kEnter)
 have kr := fun e => reasons90 (n := d + 6) (by omega) s (mkA t n kEnter) (hx e)
 have kn := call_door (n := d + 6) (by omega) h
 have ki : RUN (d + 6) 93 [aa ⟨t, kEnter, n, 0, 0, 0⟩, .p (.sl [.str kOpen, .str kClose, .str kEnter, .str kLeave] 4)] = .ret (bl (decide (kEnter ∈ [kOpen, kClose, kEnter, kLeave]))) := is93 (by omega) ⟨t, kEnter, n, 0, 0, 0⟩ [kOpen, kClose, kEnter, kLeave] (by simp)
 rw [show decide (kEnter ∈ [kOpen, kClose, kEnter, kLeave]) = true from by decide] at ki
 unfold permB
 have hQR : (pStr (reaL s (mkA t n kEnter))).length = (reaL s (mkA t n kEnter)).length := by simp
 have hzR : (reaL s (mkA t n kEnter)).length = 0 → pStr (reaL s (mkA t n kEnter)) = [] := fun e => by rw [List.eq_nil_of_length_eq_zero e]; rfl
 simp only [hm] at *
 have hG : G0 0 = some g0 := rfl
 have hlim : L.length + 1 ≤ lim := by simp only [lim]; omega
 have hQ : (pStr L).length = L.length := by simp
 have e1 : pStr (L ++ [kEnter]) = pStr L ++ [.str kEnter] := (pStr_snoc _ _).symm
 have e2 : (L ++ [kEnter]).length = L.length + 1 := by simp
 have w1 : IntKind.i64.wrap 5 = 5 := by decide
 generalize reaL s ⟨t, kEnter, n, 0, 0, 0⟩ = R at *
 generalize actE h ⟨t, kEnter, n, 0, 0, 0⟩ = e at *
 obtain ⟨st, o0, o1, o2, o3, o4, o5, o6, o7, k0, k1, pp, ar, sh, ad⟩ := s
 simp only [P21, ha, csl, sc, g0] at *
 generalize cI h.t0 = A0 at *
 generalize cI h.t1 = A1 at *
 generalize cI h.t2 = A2 at *
 generalize pStr R = PR at *
 by_cases he : e = 0
 ·have kr := kr he
  subst he
  by_cases hr : R.length = 0
  ·have hzR := hzR hr
   subst hzR
   rw [hr] at kr
   simp only [hr, decide_true, Bool.and_self, addR, if_true, e1, e2]
   generalize pStr L = Q at *
   generalize L.length = y at *
   cases hd1 : (h.doors == 1)
   ·refine ⟨?_, ?h1, ?h2⟩
    case h1 =>
     simp -implicitDefEqProofs [loopS_eq, c21L0, hG, kn, kc, w1, kr, hQ, hlim, hd1]
     exact rfl
    case h2 => exact loopS_same (by simp) (by simp)
   ·refine ⟨?_, ?h1, ?h2⟩
    case h1 =>
     simp -implicitDefEqProofs [loopS_eq, c21L0, hG, kn, ki, kc, w1, kr, hQ, hlim, hd1]
     exact rfl
    case h2 => exact loopS_same (by simp) (by simp)
  ·have hb : ((R.length : Int) == 0) = false := by simpa using hr
   simp only [hr, decide_true, decide_false, Bool.and_false, addR, Bool.false_eq_true, if_false]
   generalize pStr L = Q at *
   generalize L.length = y at *
   generalize R.length = z at *
   cases hd1 : (h.doors == 1)
   ·refine ⟨?_, ?h1, ?h2⟩
    case h1 =>
     simp -implicitDefEqProofs [loopS_eq, c21L0, hG, kn, kc, w1, kr, hb, hd1]
     exact rfl
    case h2 => exact loopS_same (by simp) (by simp)
   ·refine ⟨?_, ?h1, ?h2⟩
    case h1 =>
     simp -implicitDefEqProofs [loopS_eq, c21L0, hG, kn, ki, kc, w1, kr, hb, hd1]
     exact rfl
    case h2 => exact loopS_same (by simp) (by simp)
 ·have hb : (e == 0) = false := by simpa using he
  simp only [he, decide_false, Bool.false_and, addR, Bool.false_eq_true, if_false]
  generalize pStr L = Q at *
  generalize L.length = y at *
  cases hd1 : (h.doors == 1)
  ·refine ⟨?_, ?h1, ?h2⟩
   case h1 =>
    simp -implicitDefEqProofs [loopS_eq, c21L0, hG, kn, kc, w1, hb, hd1]
    exact rfl
   case h2 => exact loopS_same (by simp) (by simp)
  ·refine ⟨?_, ?h1, ?h2⟩
   case h1 =>
    simp -implicitDefEqProofs [loopS_eq, c21L0, hG, kn, ki, kc, w1, hb, hd1]
    exact rfl
   case h2 => exact loopS_same (by simp) (by simp)

theorem s21_5 {d : Nat} (h : HallI) (s : StaI) (t n : Int) (L : List (List UInt8)) (hL : L.length ≤ 10) (hx : actE h (mkA t n kLeave) = 0 → NumOk (mkA t n kLeave)) :
  ∃ st1, loopS (evFn F C0 G0 (d + 6)) C0 G0 0 true [2, 3, 4, 15, 16, 46] c21L0 (P21 h s t n L 5) = .ret (.normal, st1) ∧ loopS (evFn F C0 G0 (d + 6)) C0 G0 0 true [2, 3, 4, 15, 16, 46] c21L0 st1 = loopS (evFn F C0 G0 (d + 6)) C0 G0 0 true [2, 3, 4, 15, 16, 46] c21L0 (P21 h s t n (addR L (permB h s t n kLeave) kLeave) 6) := by
 have hm : mkA t n kLeave = ⟨t, kLeave, n, 0, 0, 0⟩ := rfl
 have kc := check87 (n := d + 6) (by omega) h (mkA t n kLeave)
 have kr := fun e => reasons90 (n := d + 6) (by omega) s (mkA t n kLeave) (hx e)
 have kn := call_door (n := d + 6) (by omega) h
 have ki : RUN (d + 6) 93 [aa ⟨t, kLeave, n, 0, 0, 0⟩, .p (.sl [.str kOpen, .str kClose, .str kEnter, .str kLeave] 4)] = .ret (bl (decide (kLeave ∈ [kOpen, kClose, kEnter, kLeave]))) := is93 (by omega) ⟨t, kLeave, n, 0, 0, 0⟩ [kOpen, kClose, kEnter, kLeave] (by simp)
 rw [show decide (kLeave ∈ [kOpen, kClose, kEnter, kLeave]) = true from by decide] at ki
 unfold permB
 have hQR : (pStr (reaL s (mkA t n kLeave))).length = (reaL s (mkA t n kLeave)).length := by simp
 have hzR : (reaL s (mkA t n kLeave)).length = 0 → pStr (reaL s (mkA t n kLeave)) = [] := fun e => by rw [List.eq_nil_of_length_eq_zero e]; rfl
 simp only [hm] at *
 have hG : G0 0 = some g0 := rfl
 have hlim : L.length + 1 ≤ lim := by simp only [lim]; omega
 have hQ : (pStr L).length = L.length := by simp
 have e1 : pStr (L ++ [kLeave]) = pStr L ++ [.str kLeave] := (pStr_snoc _ _).symm
 have e2 : (L ++ [kLeave]).length = L.length + 1 := by simp
 have w1 : IntKind.i64.wrap 6 = 6 := by decide
 generalize reaL s ⟨t, kLeave, n, 0, 0, 0⟩ = R at *
 generalize actE h ⟨t, kLeave, n, 0, 0, 0⟩ = e at *
 obtain ⟨st, o0, o1, o2, o3, o4, o5, o6, o7, k0, k1, pp, ar, sh, ad⟩ := s
 simp only [P21, ha, csl, sc, g0] at *
 generalize cI h.t0 = A0 at *
 generalize cI h.t1 = A1 at *
 generalize cI h.t2 = A2 at *
 generalize pStr R = PR at *
 by_cases he : e = 0
 ·have kr := kr he
  subst he
  by_cases hr : R.length = 0
  ·have hzR := hzR hr
   subst hzR
   rw [hr] at kr
   simp only [hr, decide_true, Bool.and_self, addR, if_true, e1, e2]
   generalize pStr L = Q at *
   generalize L.length = y at *
   cases hd1 : (h.doors == 1)
   ·refine ⟨?_, ?h1, ?h2⟩
    case h1 =>
     simp -implicitDefEqProofs [loopS_eq, c21L0, hG, kn, kc, w1, kr, hQ, hlim, hd1]
     exact rfl
    case h2 => exact loopS_same (by simp) (by simp)
   ·refine ⟨?_, ?h1, ?h2⟩
    case h1 =>
     simp -implicitDefEqProofs [loopS_eq, c21L0, hG, kn, ki, kc, w1, kr, hQ, hlim, hd1]
     exact rfl
    case h2 => exact loopS_same (by simp) (by simp)
  ·have hb : ((R.length : Int) == 0) = false := by simpa using hr
   simp only [hr, decide_true, decide_false, Bool.and_false, addR, Bool.false_eq_true, if_false]
   generalize pStr L = Q at *
   generalize L.length = y at *
   generalize R.length = z at *
   cases hd1 : (h.doors == 1)
   ·refine ⟨?_, ?h1, ?h2⟩
    case h1 =>
     simp -implicitDefEqProofs [loopS_eq, c21L0, hG, kn, kc, w1, kr, hb, hd1]
     exact rfl
    case h2 => exact loopS_same (by simp) (by simp)
   ·refine ⟨?_, ?h1, ?h2⟩
    case h1 =>
     simp -implicitDefEqProofs [loopS_eq, c21L0, hG, kn, ki, kc, w1, kr, hb, hd1]
     exact rfl
    case h2 => exact loopS_same (by simp) (by simp)
 ·have hb : (e == 0) = false := by simpa using he
  simp only [he, decide_false, Bool.false_and, addR, Bool.false_eq_true, if_false]
  generalize pStr L = Q at *
  generalize L.length = y at *
  cases hd1 : (h.doors == 1)
  ·refine ⟨?_, ?h1, ?h2⟩
   case h1 =>
    simp -implicitDefEqProofs [loopS_eq, c21L0, hG, kn, kc, w1, hb, hd1]
    exact rfl
   case h2 => exact loopS_same (by simp) (by simp)
  ·refine ⟨?_, ?h1, ?h2⟩
   case h1 =>
    simp -implicitDefEqProofs [loopS_eq, c21L0, hG, kn, ki, kc, w1, hb, hd1]
    exact rfl
   case h2 => exact loopS_same (by simp) (by simp)

theorem s21_6 {d : Nat} (h : HallI) (s : StaI) (t n : Int) (L : List (List UInt8)) (hL : L.length ≤ 10) (hx : actE h (mkA t n kArm) = 0 → NumOk (mkA t n kArm)) :
  ∃ st1, loopS (evFn F C0 G0 (d + 6)) C0 G0 0 true [2, 3, 4, 15, 16, 46] c21L0 (P21 h s t n L 6) = .ret (.normal, st1) ∧ loopS (evFn F C0 G0 (d + 6)) C0 G0 0 true [2, 3, 4, 15, 16, 46] c21L0 st1 = loopS (evFn F C0 G0 (d + 6)) C0 G0 0 true [2, 3, 4, 15, 16, 46] c21L0 (P21 h s t n (addR L (permB h s t n kArm) kArm) 7) := by
 have hm : mkA t n kArm = ⟨t, kArm, 0, 0, 0, 0⟩ := rfl
 have kc := check87 (n := d + 6) (by omega) h (mkA t n kArm)
 have kr := fun e => reasons90 (n := d + 6) (by omega) s (mkA t n kArm) (hx e)
 have kn := call_none (n := d + 6) (by omega) h
 have ki : RUN (d + 6) 93 [aa ⟨t, kArm, n, 0, 0, 0⟩, .p (.sl [.str kOpen, .str kClose, .str kEnter, .str kLeave] 4)] = .ret (bl (decide (kArm ∈ [kOpen, kClose, kEnter, kLeave]))) := is93 (by omega) ⟨t, kArm, n, 0, 0, 0⟩ [kOpen, kClose, kEnter, kLeave] (by simp)
 rw [show decide (kArm ∈ [kOpen, kClose, kEnter, kLeave]) = false from by decide] at ki
 unfold permB
 have hQR : (pStr (reaL s (mkA t n kArm))).length = (reaL s (mkA t n kArm)).length := by simp
 have hzR : (reaL s (mkA t n kArm)).length = 0 → pStr (reaL s (mkA t n kArm)) = [] := fun e => by rw [List.eq_nil_of_length_eq_zero e]; rfl
 simp only [hm] at *
 have hG : G0 0 = some g0 := rfl
 have hlim : L.length + 1 ≤ lim := by simp only [lim]; omega
 have hQ : (pStr L).length = L.length := by simp
 have e1 : pStr (L ++ [kArm]) = pStr L ++ [.str kArm] := (pStr_snoc _ _).symm
 have e2 : (L ++ [kArm]).length = L.length + 1 := by simp
 have w1 : IntKind.i64.wrap 7 = 7 := by decide
 generalize reaL s ⟨t, kArm, 0, 0, 0, 0⟩ = R at *
 generalize actE h ⟨t, kArm, 0, 0, 0, 0⟩ = e at *
 obtain ⟨st, o0, o1, o2, o3, o4, o5, o6, o7, k0, k1, pp, ar, sh, ad⟩ := s
 simp only [P21, ha, csl, sc, g0] at *
 generalize cI h.t0 = A0 at *
 generalize cI h.t1 = A1 at *
 generalize cI h.t2 = A2 at *
 generalize pStr R = PR at *
 by_cases he : e = 0
 ·have kr := kr he
  subst he
  by_cases hr : R.length = 0
  ·have hzR := hzR hr
   subst hzR
   rw [hr] at kr
   simp only [hr, decide_true, Bool.and_self, addR, if_true, e1, e2]
   generalize pStr L = Q at *
   generalize L.length = y at *
   ·refine ⟨?_, ?h1, ?h2⟩
    case h1 =>
     simp -implicitDefEqProofs [loopS_eq, c21L0, hG, kn, ki, kc, w1, kr, hQ, hlim]
     exact rfl
    case h2 => exact loopS_same (by simp) (by simp)
  ·have hb : ((R.length : Int) == 0) = false := by simpa using hr
   simp only [hr, decide_true, decide_false, Bool.and_false, addR, Bool.false_eq_true, if_false]
   generalize pStr L = Q at *
   generalize L.length = y at *
   generalize R.length = z at *
   ·refine ⟨?_, ?h1, ?h2⟩
    case h1 =>
     simp -implicitDefEqProofs [loopS_eq, c21L0, hG, kn, ki, kc, w1, kr, hb]
     exact rfl
    case h2 => exact loopS_same (by simp) (by simp)
 ·have hb : (e == 0) = false := by simpa using he
  simp only [he, decide_false, Bool.false_and, addR, Bool.false_eq_true, if_false]
  generalize pStr L = Q at *
  generalize L.length = y at *
  ·refine ⟨?_, ?h1, ?h2⟩
   case h1 =>
    simp -implicitDefEqProofs [loopS_eq, c21L0, hG, kn, ki, kc, w1, hb]
    exact rfl
   case h2 => exact loopS_same (by simp) (by simp)

theorem s21_7 {d : Nat} (h : HallI) (s : StaI) (t n : Int) (L : List (List UInt8)) (hL : L.length ≤ 10) (hx : actE h (mkA t n kDisarm) = 0 → NumOk (mkA t n kDisarm)) :
  ∃ st1, loopS (evFn F C0 G0 (d + 6)) C0 G0 0 true [2, 3, 4, 15, 16, 46] c21L0 (P21 h s t n L 7) = .ret (.normal, st1) ∧ loopS (evFn F C0 G0 (d + 6)) C0 G0 0 true [2, 3, 4, 15, 16, 46] c21L0 st1 = loopS (evFn F C0 G0 (d + 6)) C0 G0 0 true [2, 3, 4, 15, 16, 46] c21L0 (P21 h s t n (addR L (permB h s t n kDisarm) kDisarm) 8) := by
 have hm : mkA t n kDisarm = ⟨t, kDisarm, 0, 0, 0, 0⟩ := rfl
 have kc := check87 (n := d + 6) (by omega) h (mkA t n kDisarm)
 have kr := fun e => reasons90 (n := d + 6) (by omega) s (mkA t n kDisarm) (hx e)
 have kn := call_none (n := d + 6) (by omega) h
 have ki : RUN (d + 6) 93 [aa ⟨t, kDisarm, n, 0, 0, 0⟩, .p (.sl [.str kOpen, .str kClose, .str kEnter, .str kLeave] 4)] = .ret (bl (decide (kDisarm ∈ [kOpen, kClose, kEnter, kLeave]))) := is93 (by omega) ⟨t, kDisarm, n, 0, 0, 0⟩ [kOpen, kClose, kEnter, kLeave] (by simp)
 rw [show decide (kDisarm ∈ [kOpen, kClose, kEnter, kLeave]) = false from by decide] at ki
 unfold permB
 have hQR : (pStr (reaL s (mkA t n kDisarm))).length = (reaL s (mkA t n kDisarm)).length := by simp
 have hzR : (reaL s (mkA t n kDisarm)).length = 0 → pStr (reaL s (mkA t n kDisarm)) = [] := fun e => by rw [List.eq_nil_of_length_eq_zero e]; rfl
 simp only [hm] at *
 have hG : G0 0 = some g0 := rfl
 have hlim : L.length + 1 ≤ lim := by simp only [lim]; omega
 have hQ : (pStr L).length = L.length := by simp
 have e1 : pStr (L ++ [kDisarm]) = pStr L ++ [.str kDisarm] := (pStr_snoc _ _).symm
 have e2 : (L ++ [kDisarm]).length = L.length + 1 := by simp
 have w1 : IntKind.i64.wrap 8 = 8 := by decide
 generalize reaL s ⟨t, kDisarm, 0, 0, 0, 0⟩ = R at *
 generalize actE h ⟨t, kDisarm, 0, 0, 0, 0⟩ = e at *
 obtain ⟨st, o0, o1, o2, o3, o4, o5, o6, o7, k0, k1, pp, ar, sh, ad⟩ := s
 simp only [P21, ha, csl, sc, g0] at *
 generalize cI h.t0 = A0 at *
 generalize cI h.t1 = A1 at *
 generalize cI h.t2 = A2 at *
 generalize pStr R = PR at *
 by_cases he : e = 0
 ·have kr := kr he
  subst he
  by_cases hr : R.length = 0
  ·have hzR := hzR hr
   subst hzR
   rw [hr] at kr
   simp only [hr, decide_true, Bool.and_self, addR, if_true, e1, e2]
   generalize pStr L = Q at *
   generalize L.length = y at *
   ·refine ⟨?_, ?h1, ?h2⟩
    case h1 =>
     simp -implicitDefEqProofs [loopS_eq, c21L0, hG, kn, ki, kc, w1, kr, hQ, hlim]
     exact rfl
    case h2 => exact loopS_same (by simp) (by simp)
  ·have hb : ((R.length : Int) == 0) = false := by simpa using hr
   simp only [hr, decide_true, decide_false, Bool.and_false, addR, Bool.false_eq_true, if_false]
   generalize pStr L = Q at *
   generalize L.length = y at *
   generalize R.length = z at *
   ·refine ⟨?_, ?h1, ?h2⟩
    case h1 =>
     simp -implicitDefEqProofs [loopS_eq, c21L0, hG, kn, ki, kc, w1, kr, hb]
     exact rfl
    case h2 => exact loopS_same (by simp) (by simp)
 ·have hb : (e == 0) = false := by simpa using he
  simp only [he, decide_false, Bool.false_and, addR, Bool.false_eq_true, if_false]
  generalize pStr L = Q at *
  generalize L.length = y at *
  ·refine ⟨?_, ?h1, ?h2⟩
   case h1 =>
    simp -implicitDefEqProofs [loopS_eq, c21L0, hG, kn, ki, kc, w1, hb]
    exact rfl
   case h2 => exact loopS_same (by simp) (by simp)

theorem s21_8 {d : Nat} (h : HallI) (s : StaI) (t n : Int) (L : List (List UInt8)) (hL : L.length ≤ 10) (hx : actE h (mkA t n kShoot) = 0 → NumOk (mkA t n kShoot)) :
  ∃ st1, loopS (evFn F C0 G0 (d + 6)) C0 G0 0 true [2, 3, 4, 15, 16, 46] c21L0 (P21 h s t n L 8) = .ret (.normal, st1) ∧ loopS (evFn F C0 G0 (d + 6)) C0 G0 0 true [2, 3, 4, 15, 16, 46] c21L0 st1 = loopS (evFn F C0 G0 (d + 6)) C0 G0 0 true [2, 3, 4, 15, 16, 46] c21L0 (P21 h s t n (addR L (permB h s t n kShoot) kShoot) 9) := by
 have hm : mkA t n kShoot = ⟨t, kShoot, 0, 0, 0, 0⟩ := rfl
 have kc := check87 (n := d + 6) (by omega) h (mkA t n kShoot)
 have kr := fun e => reasons90 (n := d + 6) (by omega) s (mkA t n kShoot) (hx e)
 have kn := call_none (n := d + 6) (by omega) h
 have ki : RUN (d + 6) 93 [aa ⟨t, kShoot, n, 0, 0, 0⟩, .p (.sl [.str kOpen, .str kClose, .str kEnter, .str kLeave] 4)] = .ret (bl (decide (kShoot ∈ [kOpen, kClose, kEnter, kLeave]))) := is93 (by omega) ⟨t, kShoot, n, 0, 0, 0⟩ [kOpen, kClose, kEnter, kLeave] (by simp)
 rw [show decide (kShoot ∈ [kOpen, kClose, kEnter, kLeave]) = false from by decide] at ki
 unfold permB
 have hQR : (pStr (reaL s (mkA t n kShoot))).length = (reaL s (mkA t n kShoot)).length := by simp
 have hzR : (reaL s (mkA t n kShoot)).length = 0 → pStr (reaL s (mkA t n kShoot)) = [] := fun e => by rw [List.eq_nil_of_length_eq_zero e]; rfl
 simp only [hm] at *
 have hG : G0 0 = some g0 := rfl
 have hlim : L.length + 1 ≤ lim := by simp only [lim]; omega
 have hQ : (pStr L).length = L.length := by simp
 have e1 : pStr (L ++ [kShoot]) = pStr L ++ [.str kShoot] := (pStr_snoc _ _).symm
 have e2 : (L ++ [kShoot]).length = L.length + 1 := by simp
 have w1 : IntKind.i64.wrap 9 = 9 := by decide
 generalize reaL s ⟨t, kShoot, 0, 0, 0, 0⟩ = R at *
 generalize actE h ⟨t, kShoot, 0, 0, 0, 0⟩ = e at *
 obtain ⟨st, o0, o1, o2, o3, o4, o5, o6, o7, k0, k1, pp, ar, sh, ad⟩ := s
 simp only [P21, ha, csl, sc, g0] at *
 generalize cI h.t0 = A0 at *
 generalize cI h.t1 = A1 at *
 generalize cI h.t2 = A2 at *
 generalize pStr R = PR at *
 by_cases he : e = 0
 ·have kr := kr he
  subst he
  by_cases hr : R.length = 0
  ·have hzR := hzR hr
   subst hzR
   rw [hr] at kr
   simp only [hr, decide_true, Bool.and_self, addR, if_true, e1, e2]
   generalize pStr L = Q at *
   generalize L.length = y at *
   ·refine ⟨?_, ?h1, ?h2⟩
    case h1 =>
     simp -implicitDefEqProofs [loopS_eq, c21L0, hG, kn, ki, kc, w1, kr, hQ, hlim]
     exact rfl
    case h2 => exact loopS_same (by simp) (by simp)
  ·have hb : ((R.length : Int) == 0) = false := by simpa using hr
   simp only [hr, decide_true, decide_false, Bool.and_false, addR, Bool.false_eq_true, if_false]
   generalize pStr L = Q at *
   generalize L.length = y at *
   generalize R.length = z at *
   ·refine ⟨?_, ?h1, ?h2⟩
    case h1 =>
     simp -implicitDefEqProofs [loopS_eq, c21L0, hG, kn, ki, kc, w1, kr, hb]
     exact rfl
    case h2 => exact loopS_same (by simp) (by simp)
 ·have hb : (e == 0) = false := by simpa using he
  simp only [he, decide_false, Bool.false_and, addR, Bool.false_eq_true, if_false]
  generalize pStr L = Q at *
  generalize L.length = y at *
  ·refine ⟨?_, ?h1, ?h2⟩
   case h1 =>
    simp -implicitDefEqProofs [loopS_eq, c21L0, hG, kn, ki, kc, w1, hb]
    exact rfl
   case h2 => exact loopS_same (by simp) (by simp)

theorem s21_9 {d : Nat} (h : HallI) (s : StaI) (t n : Int) (L : List (List UInt8)) (hL : L.length ≤ 10) (hx : actE h (mkA t n kMeasure) = 0 → NumOk (mkA t n kMeasure)) :
  ∃ st1, loopS (evFn F C0 G0 (d + 6)) C0 G0 0 true [2, 3, 4, 15, 16, 46] c21L0 (P21 h s t n L 9) = .ret (.normal, st1) ∧ loopS (evFn F C0 G0 (d + 6)) C0 G0 0 true [2, 3, 4, 15, 16, 46] c21L0 st1 = loopS (evFn F C0 G0 (d + 6)) C0 G0 0 true [2, 3, 4, 15, 16, 46] c21L0 (P21 h s t n (addR L (permB h s t n kMeasure) kMeasure) 10) := by
 have hm : mkA t n kMeasure = ⟨t, kMeasure, 0, 0, 0, 0⟩ := rfl
 have kc := check87 (n := d + 6) (by omega) h (mkA t n kMeasure)
 have kr := fun e => reasons90 (n := d + 6) (by omega) s (mkA t n kMeasure) (hx e)
 have kn := call_none (n := d + 6) (by omega) h
 have ki : RUN (d + 6) 93 [aa ⟨t, kMeasure, n, 0, 0, 0⟩, .p (.sl [.str kOpen, .str kClose, .str kEnter, .str kLeave] 4)] = .ret (bl (decide (kMeasure ∈ [kOpen, kClose, kEnter, kLeave]))) := is93 (by omega) ⟨t, kMeasure, n, 0, 0, 0⟩ [kOpen, kClose, kEnter, kLeave] (by simp)
 rw [show decide (kMeasure ∈ [kOpen, kClose, kEnter, kLeave]) = false from by decide] at ki
 unfold permB
 have hQR : (pStr (reaL s (mkA t n kMeasure))).length = (reaL s (mkA t n kMeasure)).length := by simp
 have hzR : (reaL s (mkA t n kMeasure)).length = 0 → pStr (reaL s (mkA t n kMeasure)) = [] := fun e => by rw [List.eq_nil_of_length_eq_zero e]; rfl
 simp only [hm] at *
 have hG : G0 0 = some g0 := rfl
 have hlim : L.length + 1 ≤ lim := by simp only [lim]; omega
 have hQ : (pStr L).length = L.length := by simp
 have e1 : pStr (L ++ [kMeasure]) = pStr L ++ [.str kMeasure] := (pStr_snoc _ _).symm
 have e2 : (L ++ [kMeasure]).length = L.length + 1 := by simp
 have w1 : IntKind.i64.wrap 10 = 10 := by decide
 generalize reaL s ⟨t, kMeasure, 0, 0, 0, 0⟩ = R at *
 generalize actE h ⟨t, kMeasure, 0, 0, 0, 0⟩ = e at *
 obtain ⟨st, o0, o1, o2, o3, o4, o5, o6, o7, k0, k1, pp, ar, sh, ad⟩ := s
 simp only [P21, ha, csl, sc, g0] at *
 generalize cI h.t0 = A0 at *
 generalize cI h.t1 = A1 at *
 generalize cI h.t2 = A2 at *
 generalize pStr R = PR at *
 by_cases he : e = 0
 ·have kr := kr he
  subst he
  by_cases hr : R.length = 0
  ·have hzR := hzR hr
   subst hzR
   rw [hr] at kr
   simp only [hr, decide_true, Bool.and_self, addR, if_true, e1, e2]
   generalize pStr L = Q at *
   generalize L.length = y at *
   ·refine ⟨?_, ?h1, ?h2⟩
    case h1 =>
     simp -implicitDefEqProofs [loopS_eq, c21L0, hG, kn, ki, kc, w1, kr, hQ, hlim]
     exact rfl
    case h2 => exact loopS_same (by simp) (by simp)
  ·have hb : ((R.length : Int) == 0) = false := by simpa using hr
   simp only [hr, decide_true, decide_false, Bool.and_false, addR, Bool.false_eq_true, if_false]
   generalize pStr L = Q at *
   generalize L.length = y at *
   generalize R.length = z at *
   ·refine ⟨?_, ?h1, ?h2⟩
    case h1 =>
     simp -implicitDefEqProofs [loopS_eq, c21L0, hG, kn, ki, kc, w1, kr, hb]
     exact rfl
    case h2 => exact loopS_same (by simp) (by simp)
 ·have hb : (e == 0) = false := by simpa using he
  simp only [he, decide_false, Bool.false_and, addR, Bool.false_eq_true, if_false]
  generalize pStr L = Q at *
  generalize L.length = y at *
  ·refine ⟨?_, ?h1, ?h2⟩
   case h1 =>
    simp -implicitDefEqProofs [loopS_eq, c21L0, hG, kn, ki, kc, w1, hb]
    exact rfl
   case h2 => exact loopS_same (by simp) (by simp)

end Fw
