/- Several texts in one: steps of the proof, no condition of their own. -/
import Derived.Test.YthiklnppmlmjeaaDoorTgS5
import Derived.Test.YthiklnppmlmjeaaDoorToFe
import Derived.Test.YthiklnppmlmjeaaDoorFwC
import Derived.Test.YthiklnppmlmjeaaDoorTgH3
import Derived.Test.YthiklnppmlmjeaaDoorTgR2
attribute [local irreducible] Fw.evCode Fw.evOps Fw.evOpsD Fw.evOper Fw.evOperD Fw.evOp Fw.evFn Fw.loopN Fw.T.All Fw.T.bind Fw.callPure Fw.callOp Fw.opsK Fw.opsDK Fw.restK Fw.seqK Fw.blockK Fw.loopS Fw.setK Fw.setQ Fw.giveK Fw.scalK Fw.gcK Fw.finish Fw.finS Fw.rfunK Fw.yldK Fw.yldB Fw.loopK
section
set_option maxHeartbeats 16000000
namespace Fw
open Go

structure ShA (x : ActI) : Prop where
 k : x.kind ∈ kindL
 t : 0 ≤ x.tick ∧ x.tick ≤ 999999999
 n : 0 ≤ x.num ∧ x.num ≤ 999999999
 a : 0 ≤ x.a ∧ x.a ≤ 999999999
 b : 0 ≤ x.b ∧ x.b ≤ 999999999
 c : 0 ≤ x.c ∧ x.c ≤ 999999999
 z1 : x.kind = kMeasure → x.num = 0
 z2 : x.kind ∈ [kArm, kDisarm, kShoot] → x.num = 0
 z3 : ¬ x.kind = kMeasure → x.a = 0 ∧ x.b = 0 ∧ x.c = 0
end Fw
end

section
set_option maxHeartbeats 16000000
namespace Fw
open Go

end Fw
end

section
set_option maxHeartbeats 16000000
namespace Fw
open Go

end Fw
end

section
set_option maxHeartbeats 16000000
namespace Fw
open Go

end Fw
end

section
set_option maxHeartbeats 16000000
namespace Fw
open Go

end Fw
end

section
set_option maxHeartbeats 4000000
namespace Fw
open Go

theorem chk_of {h : HallI} {l : List ActI} (ha : actsE h l = 0) (hr : (runH h l).2 = true) : chkE h l = 0 := by unfold chkE; rw [if_neg (by simpa using ha), if_pos hr]

/-! the kinds that are permitted -/
/-! the spans -/
/-! the shots -/
end Fw
end

section
set_option maxHeartbeats 16000000
namespace Fw
open Go

def reaE (h : HallI) (l : List ActI) (x : ActI) : Int := if actsE h l ≠ 0 then actsE h l else if actE h x ≠ 0 then actE h x else chkE h l
def reaO (h : HallI) (l : List ActI) (x : ActI) : List (List UInt8) := if reaE h l x = 0 then reaL (lastS (runH h l).1) x else []
theorem reasons20 {n : Nat} (hn : 10 ≤ n) (h : HallI) (q0 : h.t0.length < 1000000) (q1 : h.t1.length < 1000000) (q2 : h.t2.length < 1000000) (l : List ActI) (hl : l.length < 50000) (x : ActI) :
  ∃ a, RUN n 20 [ha h, asl l, aa x] = .ret (.tup [a, iv (reaE h l x)]) ∧ disown a = strL (reaO h l x) := by
 obtain ⟨d, rfl⟩ : ∃ d, n = d + 7 := ⟨n - 7, by omega⟩
 rw [RUN, call_eq fe20 _ rfl]
 have k86 := acts62 (n := d + 6) (by omega) h q0 q1 q2 l (by omega)
 have k87 := check63 (n := d + 6) (by omega) h x
 by_cases h0 : actsE h l = 0
 ·by_cases hx0 : actE h x = 0
  ·have k88 := followed60 (n := d + 6) (by omega) h q0 q1 q2 l hl
   unfold folR at k88
   rw [if_neg (by simp [h0])] at k88
   rw [h0] at k86
   rw [hx0] at k87
   cases hw : (runH h l).2
   ·have e1 : reaE h l x = 21 := by simp [reaE, h0, hx0, chkE, hw]
    refine ⟨nilS, ?_, by rw [reaO, e1]; rfl⟩
    rw [e1]
    simp only [hw, Bool.false_eq_true, if_false] at k88
    generalize (runH h l).1.length = y at *
    simp only [ha, csl, asl] at *
    generalize cI h.t0 = A0 at *
    generalize cI h.t1 = A1 at *
    generalize cI h.t2 = A2 at *
    generalize rowC ac l = A at *
    obtain ⟨t, k, m, a, b, c⟩ := x
    simp -implicitDefEqProofs [c20, k86, k87, k88]
   ·have e1 : reaE h l x = 0 := by simp [reaE, h0, hx0, chkE, hw]
    obtain ⟨z1, z2, z3⟩ := acts_ok h0
    have hd := doors_of z1
    have k89 := last61 (n := d + 6) (by omega) (runH h l).1 (by have := runH_lt h hl; omega)
    have k90 := reasons64 (n := d + 6) (by omega) (lastS (runH h l).1) x (act_ok hd.2 hx0).1
    refine ⟨strL (reaO h l x), ?_, rfl⟩
    rw [e1]
    have e2 : reaO h l x = reaL (lastS (runH h l).1) x := by rw [reaO, if_pos e1]
    rw [e2]
    have hQ : (pStr (reaL (lastS (runH h l).1) x)).length = (reaL (lastS (runH h l).1) x).length := by simp
    generalize reaL (lastS (runH h l).1) x = L at *
    simp only [hw, if_true] at k88
    simp only [ha, csl, asl, stl] at *
    generalize lastS (runH h l).1 = s at *
    generalize rowC sc (runH h l).1 = B at *
    generalize (runH h l).1.length = y at *
    generalize cI h.t0 = A0 at *
    generalize cI h.t1 = A1 at *
    generalize cI h.t2 = A2 at *
    generalize rowC ac l = A at *
    obtain ⟨t, k, m, a, b, c⟩ := x
    obtain ⟨st, o0, o1, o2, o3, o4, o5, o6, o7, k0, k1, pp, ar, sh, ad⟩ := s
    simp -implicitDefEqProofs [c20, k86, k87, k88, k89, k90]
  ·have e1 : reaE h l x = actE h x := by simp [reaE, h0, hx0]
   refine ⟨nilS, ?_, by rw [reaO, e1, if_neg hx0]; rfl⟩
   rw [e1]
   rw [h0] at k86
   generalize actE h x = e at *
   simp only [ha, csl, asl] at *
   generalize cI h.t0 = A0 at *
   generalize cI h.t1 = A1 at *
   generalize cI h.t2 = A2 at *
   generalize rowC ac l = A at *
   obtain ⟨t, k, m, a, b, c⟩ := x
   simp -implicitDefEqProofs [c20, k86, k87, hx0]
 ·have e1 : reaE h l x = actsE h l := by simp [reaE, h0]
  refine ⟨nilS, ?_, by rw [reaO, e1, if_neg h0]; rfl⟩
  rw [e1]
  generalize actsE h l = e at *
  simp only [ha, csl, asl] at *
  generalize cI h.t0 = A0 at *
  generalize cI h.t1 = A1 at *
  generalize cI h.t2 = A2 at *
  generalize rowC ac l = A at *
  obtain ⟨t, k, m, a, b, c⟩ := x
  simp -implicitDefEqProofs [c20, k86, h0]
end Fw
end

section
set_option maxHeartbeats 8000000
namespace Fw
open Go

theorem when102 {n : Nat} (hn : 1 ≤ n) (b : Bool) (e : Int) : RUN n 102 [.p (.bool b), iv e] = .ret (iv (whenE b e)) := by
 obtain ⟨d, rfl⟩ : ∃ d, n = d + 1 := ⟨n - 1, by omega⟩
 rw [RUN, call_eq fe102 _ rfl]
 cases b <;> simp [c102, whenE]
theorem within53 {n : Nat} (hn : 2 ≤ n) (x lo hi : Int) : RUN n 53 [iv x, iv lo, iv hi] = .ret (iv (rangeE lo hi x)) := by
 obtain ⟨d, rfl⟩ : ∃ d, n = d + 2 := ⟨n - 2, by omega⟩
 rw [RUN, call_eq fe53 _ rfl]
 have hw := fun b e => when102 (n := d + 1) (by omega) b e
 by_cases h1 : x < lo <;> by_cases h2 : hi < x <;> simp [c53, h1, h2, hw, whenE, rangeE]
theorem m50 : c50 = firstC := rfl
theorem first50 {n : Nat} (hn : 1 ≤ n) (l : List Int) (hl : l.length < 1000000) : RUN n 50 [.p (.sl (pI l) l.length)] = .ret (iv (firstE l)) := by
 obtain ⟨d, rfl⟩ : ∃ d, n = d + 1 := ⟨n - 1, by omega⟩
 exact first_ok (m50 ▸ fe50) (fun _ => rfl) l hl

theorem first50_2 {n : Nat} (hn : 1 ≤ n) (a b : Int) : RUN n 50 [.p (.sl [.int .i64 a, .int .i64 b] 2)] = .ret (iv (firstE [a, b])) := first50 hn [a, b] (by simp)
theorem first50_3 {n : Nat} (hn : 1 ≤ n) (a b c : Int) : RUN n 50 [.p (.sl [.int .i64 a, .int .i64 b, .int .i64 c] 3)] = .ret (iv (firstE [a, b, c])) := first50 hn [a, b, c] (by simp)
theorem first50_4 {n : Nat} (hn : 1 ≤ n) (a b c e : Int) : RUN n 50 [.p (.sl [.int .i64 a, .int .i64 b, .int .i64 c, .int .i64 e] 4)] = .ret (iv (firstE [a, b, c, e])) := first50 hn [a, b, c, e] (by simp)
def sizedE (n most : Int) : Int := firstE [whenE (n == 0) 12, whenE (decide (most < n)) 5]
def ivE (lo hi : Int) (x : Int × Int) : Int := firstE [rangeE lo hi x.1, rangeE lo hi x.2, whenE (decide (x.2 < x.1)) 11]

theorem sized101 {n : Nat} (hn : 2 ≤ n) (a b : Int) : RUN n 101 [iv a, iv b] = .ret (iv (sizedE a b)) := by
 obtain ⟨d, rfl⟩ : ∃ d, n = d + 2 := ⟨n - 2, by omega⟩
 rw [RUN, call_eq fe101 _ rfl]
 simp [c101, when102 (n := d + 1), first50_2 (n := d + 1), sizedE]

theorem interval100 {n : Nat} (hn : 3 ≤ n) (x : Int × Int) (lo hi : Int) : RUN n 100 [.agg [iv x.1, iv x.2], iv lo, iv hi] = .ret (iv (ivE lo hi x)) := by
 obtain ⟨d, rfl⟩ : ∃ d, n = d + 3 := ⟨n - 3, by omega⟩
 rw [RUN, call_eq fe100 _ rfl]
 simp [c100, within53 (n := d + 2), when102 (n := d + 2), first50_3 (n := d + 2), ivE]

theorem ends46 {n : Nat} (hn : 3 ≤ n) (x : Int × Int) (lo hi : Int) : RUN n 46 [.agg [iv x.1, iv x.2], iv lo, iv hi] = .ret (iv (ivE lo hi x)) := by
 obtain ⟨d, rfl⟩ : ∃ d, n = d + 3 := ⟨n - 3, by omega⟩
 rw [RUN, call_eq fe46 _ rfl]
 simp [c46, range44 (n := d + 2), when47 (n := d + 2), first43_3 (n := d + 2), ivE]
end Fw
end

section
set_option maxHeartbeats 8000000
namespace Fw
open Go

theorem m82 : c82 = mapC (.p (.int .i64 0)) 8 := rfl

end Fw
end

section
set_option maxHeartbeats 8000000
namespace Fw
open Go

/-! the reference -/

end Fw
end

section
set_option maxHeartbeats 8000000
namespace Fw
open Go

structure Fit (c : List (Int × Int)) (p : List Int) : Prop where
 len : p.length = c.length
 small : c.length ≤ 64
 corr : ∀ x ∈ c, 0 ≤ x.1 ∧ x.1 ≤ 10000 ∧ 0 ≤ x.2 ∧ x.2 ≤ 10000 ∧ x.1 ≤ x.2
 acc : ∀ a ∈ p, -100000 ≤ a ∧ a ≤ 100000

/-! the reference -/

/-! the errors, read -/

theorem rangeE_zero {lo hi n : Int} : rangeE lo hi n = 0 ↔ lo ≤ n ∧ n ≤ hi := by
 unfold rangeE
 split <;> omega

theorem whenE_zero {b : Bool} {e : Int} (he : e ≠ 0) : whenE b e = 0 ↔ b = false := by
 cases b <;> simp [whenE, he]

theorem sizedE_zero {n m : Int} : sizedE n m = 0 ↔ n ≠ 0 ∧ n ≤ m := by
 simp [sizedE, firstE_zero, whenE_zero]

theorem ivE_zero {lo hi : Int} {x : Int × Int} : ivE lo hi x = 0 ↔ lo ≤ x.1 ∧ x.1 ≤ hi ∧ lo ≤ x.2 ∧ x.2 ≤ hi ∧ x.1 ≤ x.2 := by
 simp [ivE, firstE_zero, whenE_zero, rangeE_zero, and_assoc]

/-! Excess and Inside -/

end Fw
end

section
set_option maxHeartbeats 8000000
namespace Fw
open Go

def sumF (l : List Int) : Nat → Int
 | 0 => 0
 | i + 1 => sumF l i + l.getD i 0
structure Small (l : List Int) : Prop where
 len : l.length < 1000000
 sum : ∀ i, i ≤ l.length → -9223372036854775808 ≤ sumF l i ∧ sumF l i ≤ 9223372036854775807

/-! the law's own helpers -/

end Fw
end

section
set_option maxHeartbeats 8000000
namespace Fw
open Go

def apartB (l : List (Int × Int)) (i : Nat) : Bool := if i = 0 then (l.getD 0 (0, 0)).1 != 0 else decide ((l.getD i (0, 0)).1 ≤ (l.getD (i - 1) (0, 0)).1)
def stepE (l : List (Int × Int)) (i : Nat) : Int := firstE [rangeE 0 64 (l.getD i (0, 0)).1, rangeE 0 100 (l.getD i (0, 0)).2, whenE (apartB l i) 11]
def stepsE (l : List (Int × Int)) : Int := firstE ((List.range l.length).map (stepE l))
def settingE (l : List (Int × Int)) : Int := if sizedE l.length 12 = 0 then stepsE l else sizedE l.length 12

theorem setting52 {n : Nat} (hn : 3 ≤ n) (l : List (Int × Int)) (hl : l.length < 1000000) : RUN n 52 [csl l] = .ret (iv (settingE l)) := by
 obtain ⟨d, rfl⟩ : ∃ d, n = d + 3 := ⟨n - 3, by omega⟩
 rw [RUN, call_eq fe52 _ rfl]
 let inv : Nat → St := fun i => ⟨[(0, csl l), (14, csl l), (15, iv l.length), (16, iv i)], []⟩
 let sto : Nat → Sto := fun i => [(0, .arr [.int .i64 (l.getD i (0, 0)).1, .int .i64 (l.getD i (0, 0)).2] 0 1)]
 have hs := sized101 (n := d + 2) (by omega) l.length 12
 have hc : settingE l = if sizedE l.length 12 = 0 then stepsE l else sizedE l.length 12 := rfl
 rw [hc]
 by_cases hz : sizedE l.length 12 = 0
 ·rw [if_pos hz]
  simp -implicitDefEqProofs [c52, hs, hz]
  have key := loop_first (step := loopS (evFn F C0 G0 (d + 2)) C0 G0 0 true [0, 14, 15, 16] c52L0) inv (stepE l) l.length (.exit 0, ⟨(inv l.length).env ++ [(17, .p (.bool false))], []⟩) (fun i => (.ret, ⟨[(2, iv (stepE l i))], sto i⟩))
   (st0 := ⟨[(0, csl l), (14, csl l), (15, iv l.length), (16, iv 0)], []⟩) rfl ?_ (fun i => by simp) (by simp [inv, loopS_eq, c52L0]) (by simp) (fuel := loopFuel) (by simp [loopFuel]; omega)
  ·rcases key with ⟨k1, k2⟩ | ⟨j, hj, k1, k2, k3, _⟩
   ·rw [k1, stepsE, k2]
    simp -implicitDefEqProofs [inv]
   ·rw [k1, stepsE, k2]
    simp -implicitDefEqProofs [sto]
  ·intro i hi
   have hx := cI_drop l i hi
   have hlt : i * 2 < l.length * 2 := by omega
   have hlt' : (i : Int) < l.length := by omega
   have hgi : l.getD i (0, 0) = l[i] := by simp [List.getD_eq_getElem?_getD, List.getElem?_eq_getElem hi]
   have h1 := within53 (n := d + 2) (by omega) l[i].1 0 64
   have h2 := within53 (n := d + 2) (by omega) l[i].2 0 100
   have h3 := when102 (n := d + 2) (by omega) (apartB l i) 11
   have h4 := first50_3 (n := d + 2) (by omega) (rangeE 0 64 l[i].1) (rangeE 0 100 l[i].2) (whenE (apartB l i) 11)
   have he : stepE l i = firstE [rangeE 0 64 l[i].1, rangeE 0 100 l[i].2, whenE (apartB l i) 11] := by rw [stepE, hgi]
   rw [← he] at h4
   by_cases hi0 : i = 0
   ·subst hi0
    have ha : apartB l 0 = (l[0].1 != 0) := by simp only [apartB, hgi, if_true]
    have w1 : IntKind.i64.wrap 1 = 1 := rfl
    generalize hap : (l[0].1 != 0) = b at *
    rw [ha] at h3 h4
    refine ⟨fun hz => ⟨⟨(inv 1).env, sto 0⟩, ?_, loopS_same rfl (by simp [inv, sto])⟩, fun hz => ?_⟩
    ·cases b <;> simp -implicitDefEqProofs [inv, sto, loopS_eq, c52L0, hi, hx, hlt, hap, h1, h2, h3, h4, hz, w1]
    ·cases b <;> simp -implicitDefEqProofs [inv, sto, loopS_eq, c52L0, hi, hx, hlt, hap, h1, h2, h3, h4, hz]
   ·have hj : i - 1 < l.length := by omega
    have hxj := cI_drop l (i - 1) hj
    have hgj : l.getD (i - 1) (0, 0) = l[i - 1] := by simp [List.getD_eq_getElem?_getD, List.getElem?_eq_getElem hj]
    have ha : apartB l i = decide (l[i].1 ≤ l[i - 1].1) := by simp only [apartB, hgi, hgj, hi0, if_false]
    have hi1 : 0 < i := by omega
    have hz0 : ((i : Int) == 0) = false := by simp; omega
    have hmx : maxInt 1 [iv i] = some (i : Int) := by
     simp only [maxInt]
     congr 1
     split <;> omega
    have w1 := wrap64 (n := (i : Int) - 1) (by omega) (by omega)
    have t1 : ((i : Int) - 1).toNat = i - 1 := by omega
    have hl1 : (i - 1) * 2 < l.length * 2 := by omega
    have b1 : (1 : Int) ≤ (i : Int) := by omega
    have b2 : (i : Int) - 1 < l.length := by omega
    generalize hap : decide (l[i].1 ≤ l[i - 1].1) = b at *
    rw [ha] at h3 h4
    refine ⟨fun hz => ⟨⟨(inv (i + 1)).env, sto i⟩, ?_, loopS_same rfl (by simp [inv, sto])⟩, fun hz => ?_⟩
    ·cases b <;> simp -implicitDefEqProofs [inv, sto, loopS_eq, c52L0, hi, hx, hxj, hlt, hlt', hap, h1, h2, h3, h4, hz, hz0, hi1, hmx, w1, t1, hl1, b1, b2, wrap_succ (i := i) (by omega)]
    ·cases b <;> simp -implicitDefEqProofs [inv, sto, loopS_eq, c52L0, hi, hx, hxj, hlt, hlt', hap, h1, h2, h3, h4, hz, hz0, hi1, hmx, w1, t1, hl1, b1, b2]
 ·rw [if_neg hz]
  simp -implicitDefEqProofs [c52, hs, hz]

/-! the reference -/

theorem setting10 {n : Nat} (hn : 3 ≤ n) (l : List (Int × Int)) (hl : l.length < 1000000) : RUN n 10 [csl l] = .ret (iv (settingE l)) := by
 obtain ⟨d, rfl⟩ : ∃ d, n = d + 3 := ⟨n - 3, by omega⟩
 rw [RUN, call_eq fe10 _ rfl]
 let inv : Nat → St := fun i => ⟨[(0, csl l), (4, iv i)], []⟩
 have hs : firstE [whenE ((l.length : Int) == 0) 12, whenE (decide ((12 : Int) < l.length)) 5] = sizedE l.length 12 := rfl
 have hc : settingE l = if sizedE l.length 12 = 0 then stepsE l else sizedE l.length 12 := rfl
 rw [hc]
 by_cases hz : sizedE l.length 12 = 0
 ·rw [if_pos hz]
  simp -implicitDefEqProofs [c10, when47 (n := d + 2), first43_2 (n := d + 2), hs, hz]
  have key := loop_first (step := loopS (evFn F C0 G0 (d + 2)) C0 G0 0 false [0, 4] c10L0) inv (stepE l) l.length (.exit 0, ⟨(inv l.length).env ++ [(22, .p (.bool false))], []⟩) (fun i => (.ret, ⟨[(2, iv (stepE l i))], []⟩))
   (st0 := ⟨[(0, csl l), (4, iv 0)], []⟩) rfl ?_ (fun i => by simp) (by simp [inv, loopS_eq, c10L0]) (by simp) (fuel := loopFuel) (by simp [loopFuel]; omega)
  ·rcases key with ⟨k1, k2⟩ | ⟨j, hj, k1, k2, k3, _⟩
   ·rw [k1, stepsE, k2]
    simp -implicitDefEqProofs [inv]
   ·rw [k1, stepsE, k2]
    simp -implicitDefEqProofs
  ·intro i hi
   have hx := cI_drop l i hi
   have hlt : i * 2 < l.length * 2 := by omega
   have hlt' : (i : Int) < l.length := by omega
   have hgi : l.getD i (0, 0) = l[i] := by simp [List.getD_eq_getElem?_getD, List.getElem?_eq_getElem hi]
   have h1 := range44 (n := d + 2) (by omega) l[i].1 0 64
   have h2 := range44 (n := d + 2) (by omega) l[i].2 0 100
   have h3 := when47 (n := d + 2) (by omega) (apartB l i) 11
   have h4 := first43_3 (n := d + 2) (by omega) (rangeE 0 64 l[i].1) (rangeE 0 100 l[i].2) (whenE (apartB l i) 11)
   have he : stepE l i = firstE [rangeE 0 64 l[i].1, rangeE 0 100 l[i].2, whenE (apartB l i) 11] := by rw [stepE, hgi]
   rw [← he] at h4
   by_cases hi0 : i = 0
   ·subst hi0
    have ha : apartB l 0 = (l[0].1 != 0) := by simp only [apartB, hgi, if_true]
    have w1 : IntKind.i64.wrap 1 = 1 := rfl
    generalize hap : (l[0].1 != 0) = b at *
    rw [ha] at h3 h4
    refine ⟨fun hz => ⟨inv 1, ?_, rfl⟩, fun hz => ?_⟩
    ·cases b <;> simp -implicitDefEqProofs [inv, loopS_eq, c10L0, hi, hx, hlt, hap, h1, h2, h3, h4, hz, w1]
    ·cases b <;> simp -implicitDefEqProofs [inv, loopS_eq, c10L0, hi, hx, hlt, hap, h1, h2, h3, h4, hz]
   ·have hj : i - 1 < l.length := by omega
    have hxj := cI_drop l (i - 1) hj
    have hgj : l.getD (i - 1) (0, 0) = l[i - 1] := by simp [List.getD_eq_getElem?_getD, List.getElem?_eq_getElem hj]
    have ha : apartB l i = decide (l[i].1 ≤ l[i - 1].1) := by simp only [apartB, hgi, hgj, hi0, if_false]
    have hi1 : 0 < i := by omega
    have hz0 : ((i : Int) == 0) = false := by simp; omega
    have hmx : maxInt 0 [iv ((i : Int) - 1)] = some ((i : Int) - 1) := by
     simp only [maxInt]
     congr 1
     split <;> omega
    have w1 := wrap64 (n := (i : Int) - 1) (by omega) (by omega)
    have t1 : ((i : Int) - 1).toNat = i - 1 := by omega
    have hl1 : (i - 1) * 2 < l.length * 2 := by omega
    have b1 : (1 : Int) ≤ (i : Int) := by omega
    have b2 : (i : Int) - 1 < l.length := by omega
    generalize hap : decide (l[i].1 ≤ l[i - 1].1) = b at *
    rw [ha] at h3 h4
    refine ⟨fun hz => ⟨inv (i + 1), ?_, rfl⟩, fun hz => ?_⟩
    ·cases b <;> simp -implicitDefEqProofs [inv, loopS_eq, c10L0, hx, hxj, hlt, hlt', hap, h1, h2, h3, h4, hz, hz0, hi1, hmx, w1, t1, hl1, b1, b2, wrap_succ (i := i) (by omega)]
    ·cases b <;> simp -implicitDefEqProofs [inv, loopS_eq, c10L0, hx, hxj, hlt, hlt', hap, h1, h2, h3, h4, hz, hz0, hi1, hmx, w1, t1, hl1, b1, b2]
 ·rw [if_neg hz]
  simp -implicitDefEqProofs [c10, when47 (n := d + 2), first43_2 (n := d + 2), hs, hz]

/-! sleds: the interval of gains, the lag, the delay, the load -/

structure SledI where
 low : Int
 high : Int
 lag : Int
 delay : Int
 load : Int

abbrev sla (s : SledI) : AVal := .agg [iv s.low, iv s.high, iv s.lag, iv s.delay, iv s.load]
def sledE (s : SledI) : Int := firstE [ivE 1 10000 (s.low, s.high), rangeE 1 16 s.lag, rangeE 0 8 s.delay, rangeE 1 10000 s.load]

theorem sled51 {n : Nat} (hn : 4 ≤ n) (s : SledI) : RUN n 51 [sla s] = .ret (iv (sledE s)) := by
 obtain ⟨d, rfl⟩ : ∃ d, n = d + 4 := ⟨n - 4, by omega⟩
 rw [RUN, call_eq fe51 _ rfl]
 have h1 := interval100 (n := d + 3) (by omega) (s.low, s.high) 1 10000
 simp -implicitDefEqProofs [c51, h1, within53 (n := d + 3), first50_4 (n := d + 3), sledE]

theorem sled9 {n : Nat} (hn : 4 ≤ n) (s : SledI) : RUN n 9 [sla s] = .ret (iv (sledE s)) := by
 obtain ⟨d, rfl⟩ : ∃ d, n = d + 4 := ⟨n - 4, by omega⟩
 rw [RUN, call_eq fe9 _ rfl]
 have h1 := ends46 (n := d + 3) (by omega) (s.low, s.high) 1 10000
 simp -implicitDefEqProofs [c9, h1, range44 (n := d + 3), first43_4 (n := d + 3), sledE]

theorem ticks54 {n : Nat} (hn : 3 ≤ n) (k : Int) : RUN n 54 [iv k] = .ret (iv (rangeE 1 64 k)) := by
 obtain ⟨d, rfl⟩ : ∃ d, n = d + 3 := ⟨n - 3, by omega⟩
 rw [RUN, call_eq fe54 _ rfl]
 simp -implicitDefEqProofs [c54, within53 (n := d + 2)]
end Fw
end

section
set_option maxHeartbeats 8000000
namespace Fw
open Go

def accFP (l : List (Int × Int)) (i : Nat) : Int := if i = 0 then 0 else (l.getD (i - 1) (0, 0)).2
def valveP (l : List (Int × Int)) (tick : Int) : Int := accFP l (l.takeWhile fun x => decide (x.1 ≤ tick)).length

theorem takeWhile_at (l : List (Int × Int)) (tick : Int) : ∀ (j : Nat), j ≤ l.length → (∀ q, q < j → (l.getD q (0, 0)).1 ≤ tick) → (j = l.length ∨ tick < (l.getD j (0, 0)).1) → (l.takeWhile fun x => decide (x.1 ≤ tick)).length = j := by
 induction l with
 | nil => intro j hj _ _; simp at hj; subst hj; rfl
 | cons x r ih =>
  intro j hj h1 h2
  cases j with
  | zero =>
   have : tick < x.1 := by
    rcases h2 with h2 | h2
    ·simp at h2
    ·simpa using h2
   rw [List.takeWhile_cons_of_neg (by simpa using this)]
   rfl
  | succ j =>
   have h0 : x.1 ≤ tick := by simpa using h1 0 (by omega)
   rw [List.takeWhile_cons_of_pos (by simpa using h0)]
   simp only [List.length_cons]
   rw [ih j (by simpa using hj) (fun q hq => by simpa using h1 (q + 1) (by omega)) (by simpa using h2)]

theorem valve103 {n : Nat} (hn : 1 ≤ n) (l : List (Int × Int)) (tick : Int) (hl : l.length < 1000000) : RUN n 103 [csl l, iv tick] = .ret (iv (valveP l tick)) := by
 obtain ⟨d, rfl⟩ : ∃ d, n = d + 1 := ⟨n - 1, by omega⟩
 rw [RUN, call_eq fe103 _ rfl]
 let inv : Nat → St := fun i => ⟨[(1, iv tick), (5, iv (accFP l i)), (8, csl l), (9, iv l.length), (10, iv i)], []⟩
 let sto : Nat → Sto := fun i => [(0, .arr [.int .i64 (l.getD i (0, 0)).1, .int .i64 (l.getD i (0, 0)).2] 0 1)]
 let e : Nat → Int := fun i => if tick < (l.getD i (0, 0)).1 then 1 else 0
 simp -implicitDefEqProofs [c103]
 have key := loop_first (step := loopS (evFn F C0 G0 d) C0 G0 0 true [1, 5, 8, 9, 10] c103L0) inv e l.length (.exit 0, ⟨(inv l.length).env ++ [(11, .p (.bool false))], []⟩)
  (fun i => (.exit 0, ⟨[(1, iv tick), (5, iv (accFP l i)), (7, .ptr 0 0 0), (8, csl l), (9, iv l.length), (10, iv i), (17, .p (.bool true))], sto i⟩))
  (st0 := ⟨[(1, iv tick), (5, iv 0), (8, csl l), (9, iv l.length), (10, iv 0)], []⟩) rfl ?_ (fun i => by simp) (by simp [inv, loopS_eq, c103L0]) (by simp) (fuel := loopFuel) (by simp [loopFuel]; omega)
 ·rcases key with ⟨k1, k2⟩ | ⟨j, hj, k1, k2, k3, k4⟩
  ·have h0 : ∀ q, q < l.length → (l.getD q (0, 0)).1 ≤ tick := fun q hq => by
    have := firstE_zero.1 k2 (e q) (List.mem_map.2 ⟨q, by simpa using hq, rfl⟩)
    simp only [e] at this
    split at this <;> omega
   have hv : valveP l tick = accFP l l.length := by rw [valveP, takeWhile_at l tick l.length (Nat.le_refl _) h0 (.inl rfl)]
   rw [k1, hv]
   simp -implicitDefEqProofs [inv]
  ·have h0 : ∀ q, q < j → (l.getD q (0, 0)).1 ≤ tick := fun q hq => by
    have := k4 q hq
    simp only [e] at this
    split at this <;> omega
   have h1 : tick < (l.getD j (0, 0)).1 := by
    simp only [e] at k3
    split at k3
    ·assumption
    ·exact absurd rfl k3
   have hv : valveP l tick = accFP l j := by rw [valveP, takeWhile_at l tick j (by omega) h0 (.inr h1)]
   rw [k1, hv]
   simp -implicitDefEqProofs
 ·intro i hi
  have hx := cI_drop l i hi
  have hlt : i * 2 < l.length * 2 := by omega
  have hlt' : (i : Int) < l.length := by omega
  have hgi : l.getD i (0, 0) = l[i] := by simp [List.getD_eq_getElem?_getD, List.getElem?_eq_getElem hi]
  have ha : accFP l (i + 1) = l[i].2 := by simp only [accFP, Nat.add_sub_cancel, hgi]; rfl
  refine ⟨fun hz => ⟨⟨(inv (i + 1)).env, sto i⟩, ?_, loopS_same rfl (by simp [inv, sto])⟩, fun hz => ?_⟩
  ·have h1 : ¬ tick < l[i].1 := by
    intro hc
    simp only [e, hgi, hc, if_true] at hz
    omega
   simp -implicitDefEqProofs [inv, sto, loopS_eq, c103L0, hi, hx, hlt, hlt', h1, ha, wrap_succ (i := i) (by omega)]
  ·have h1 : tick < l[i].1 := by
    refine Classical.byContradiction (fun hc => hz ?_)
    simp only [e, hgi, hc, if_false]
   simp -implicitDefEqProofs [inv, sto, loopS_eq, c103L0, hi, hx, hlt, hlt', h1]

structure Valid (l : List (Int × Int)) : Prop where
 pos : 0 < l.length
 small : l.length ≤ 12
 zero : (l.getD 0 (0, 0)).1 = 0
 val : ∀ i, i < l.length → 0 ≤ (l.getD i (0, 0)).2 ∧ (l.getD i (0, 0)).2 ≤ 100 ∧ 0 ≤ (l.getD i (0, 0)).1 ∧ (l.getD i (0, 0)).1 ≤ 64
 inc : ∀ i, 0 < i → i < l.length → (l.getD (i - 1) (0, 0)).1 < (l.getD i (0, 0)).1

theorem valid_of {l : List (Int × Int)} (h : settingE l = 0) : Valid l := by
 unfold settingE at h
 split at h
 ·rename_i hs
  obtain ⟨h1, h2⟩ := sizedE_zero.1 hs
  have hx : ∀ i, i < l.length → rangeE 0 64 (l.getD i (0, 0)).1 = 0 ∧ rangeE 0 100 (l.getD i (0, 0)).2 = 0 ∧ whenE (apartB l i) 11 = 0 := fun i hi => by
   have := firstE_zero.1 h (stepE l i) (List.mem_map.2 ⟨i, by simpa using hi, rfl⟩)
   have h3 := firstE_zero.1 this
   exact ⟨h3 _ (by simp), h3 _ (by simp), h3 _ (by simp)⟩
  have hp : 0 < l.length := by omega
  refine ⟨hp, by omega, ?_, fun i hi => ?_, fun i h0 hi => ?_⟩
  ·have := (whenE_zero (by decide)).1 (hx 0 hp).2.2
   simpa [apartB] using this
  ·obtain ⟨a, b, _⟩ := hx i hi
   have := rangeE_zero.1 a
   have := rangeE_zero.1 b
   omega
  ·have := (whenE_zero (by decide)).1 (hx i hi).2.2
   simp only [apartB, if_neg (show ¬ i = 0 by omega), decide_eq_false_iff_not] at this
   omega
 ·rename_i hs; exact absurd h hs

theorem Valid.mono {l : List (Int × Int)} (h : Valid l) : ∀ (j i : Nat), i ≤ j → j < l.length → (l.getD i (0, 0)).1 ≤ (l.getD j (0, 0)).1 := by
 intro j
 induction j with
 | zero => intro i hi _; rw [show i = 0 by omega]; exact Int.le_refl _
 | succ j ih =>
  intro i hi hj
  by_cases he : i = j + 1
  ·subst he; exact Int.le_refl _
  ·have h1 := ih i (by omega) (by omega)
   have h2 := h.inc (j + 1) (by omega) hj
   rw [Nat.add_sub_cancel] at h2
   omega

end Fw
end

section
set_option maxHeartbeats 8000000
namespace Fw
open Go

/-! quotients, rounded down -/

theorem tdiv_down (n den : Int) (hd : 0 < den) : n / den = if n < n.tdiv den * den then n.tdiv den - 1 else n.tdiv den := by
 have h1 := Int.mul_tdiv_add_tmod n den
 have h2 : n.tmod den < den := Int.tmod_lt_of_pos n hd
 have h3 : -den < n.tmod den := Int.lt_tmod_of_pos n hd
 rw [Int.mul_comm] at h1
 split
 ·have : n / den = n.tdiv den - 1 ∧ n % den = n.tmod den + den := by
   rw [Int.ediv_emod_unique hd]
   refine ⟨?_, by omega, by omega⟩
   rw [Int.mul_sub, Int.mul_comm]; omega
  exact this.1
 ·have : n / den = n.tdiv den ∧ n % den = n.tmod den := by
   rw [Int.ediv_emod_unique hd]
   refine ⟨?_, by omega, h2⟩
   rw [Int.mul_comm]; omega
  exact this.1

theorem tdiv_small (n den : Int) (_hd : 0 < den) (b : Int) (h1 : -b ≤ n) (h2 : n ≤ b) : -b ≤ n.tdiv den ∧ n.tdiv den ≤ b ∧ -(2 * b) ≤ n.tdiv den * den ∧ n.tdiv den * den ≤ 2 * b := by
 have h := Int.natAbs_tdiv_le_natAbs n den
 have h3 := Int.mul_tdiv_add_tmod n den
 have h4 : (n.tmod den).natAbs ≤ n.natAbs := by
  rw [Int.natAbs_tmod]
  exact Nat.mod_le _ _
 rw [Int.mul_comm] at h3
 omega

theorem floor104 {n : Nat} (hn : 1 ≤ n) (x den : Int) (hd : 0 < den) (h1 : -1000000000000 ≤ x) (h2 : x ≤ 1000000000000) : RUN n 104 [iv x, iv den] = .ret (iv (x / den)) := by
 obtain ⟨d, rfl⟩ : ∃ d, n = d + 1 := ⟨n - 1, by omega⟩
 rw [RUN, call_eq fe104 _ rfl, tdiv_down x den hd]
 obtain ⟨b1, b2, b3, b4⟩ := tdiv_small x den hd _ h1 h2
 have w1 := wrap64 (n := x.tdiv den) (by omega) (by omega)
 have w2 := wrap64 (n := x.tdiv den - 1) (by omega) (by omega)
 have w3 := wrap64 (n := x.tdiv den * den) (by omega) (by omega)
 have hz : den ≠ 0 := by omega
 by_cases h : x < x.tdiv den * den <;> simp -implicitDefEqProofs [c104, hz, h, w1, w2, w3]
/-! runs -/

def wishF (s : SledI) (l : List (Int × Int)) (g : Int) (i : Nat) : Int := (g * valveP l (max 0 ((i : Int) - s.delay))) / 100
def runF (s : SledI) (l : List (Int × Int)) (g : Int) : Nat → Int
 | 0 => 0
 | i + 1 => runF s l g i + (wishF s l g i - runF s l g i) / s.lag
def runL (s : SledI) (l : List (Int × Int)) (g : Int) (k : Nat) : List Int := (List.range k).map fun i => runF s l g (i + 1)

theorem accF_bound {l : List (Int × Int)} (h : Valid l) (i : Nat) (hi : i ≤ l.length) : 0 ≤ accFP l i ∧ accFP l i ≤ 100 := by
 unfold accFP
 split
 ·omega
 ·have := h.val (i - 1) (by omega); omega

theorem valveP_bound {l : List (Int × Int)} (h : Valid l) (tick : Int) : 0 ≤ valveP l tick ∧ valveP l tick ≤ 100 := by
 unfold valveP
 exact accF_bound h _ (List.takeWhile_sublist _).length_le

theorem wishF_bound {s : SledI} {l : List (Int × Int)} (h : Valid l) {g : Int} (hg : 0 ≤ g) (i : Nat) : 0 ≤ wishF s l g i ∧ wishF s l g i ≤ g := by
 obtain ⟨h1, h2⟩ := valveP_bound h (max 0 ((i : Int) - s.delay))
 unfold wishF
 generalize valveP l (max 0 ((i : Int) - s.delay)) = v at *
 have h3 : 0 ≤ g * v := Int.mul_nonneg hg h1
 have h4 : g * v ≤ g * 100 := Int.mul_le_mul_of_nonneg_left h2 hg
 omega

theorem div_between {x d : Int} (hd : 1 ≤ d) : (0 ≤ x → 0 ≤ x / d ∧ x / d ≤ x) ∧ (x ≤ 0 → x ≤ x / d ∧ x / d ≤ 0) := by
 have h1 := Int.mul_ediv_add_emod x d
 have h2 := Int.emod_nonneg x (show d ≠ 0 by omega)
 have h3 := Int.emod_lt_of_pos x (show 0 < d by omega)
 constructor
 ·intro hx
  have h4 : 0 ≤ x / d := Int.ediv_nonneg hx (by omega)
  refine ⟨h4, ?_⟩
  have : x / d ≤ d * (x / d) := by
   have := Int.mul_le_mul_of_nonneg_right hd h4
   rwa [Int.one_mul] at this
  omega
 ·intro hx
  have h4 : x / d ≤ 0 := by
   refine Classical.byContradiction (fun hc => ?_)
   have : d * 1 ≤ d * (x / d) := Int.mul_le_mul_of_nonneg_left (by omega) (by omega)
   omega
  refine ⟨?_, h4⟩
  refine Classical.byContradiction (fun hc => ?_)
  have h5 : x / d ≤ x - 1 := by omega
  have h6 : d * (x / d) ≤ d * (x - 1) := Int.mul_le_mul_of_nonneg_left h5 (by omega)
  have h7 : d * x ≤ 1 * x := Int.mul_le_mul_of_nonpos_right hd hx
  rw [Int.mul_sub, Int.mul_one] at h6
  omega

theorem runF_bound {s : SledI} {l : List (Int × Int)} (h : Valid l) {g : Int} (hg : 0 ≤ g) (hl : 1 ≤ s.lag) (i : Nat) : 0 ≤ runF s l g i ∧ runF s l g i ≤ g := by
 induction i with
 | zero => simp only [runF]; omega
 | succ i ih =>
  have hw := wishF_bound (s := s) h hg i
  simp only [runF]
  obtain ⟨p, q⟩ := div_between (x := wishF s l g i - runF s l g i) hl
  by_cases hc : runF s l g i ≤ wishF s l g i
  ·have := p (by omega); omega
  ·have := q (by omega); omega
end Fw
end

section
set_option maxHeartbeats 8000000
namespace Fw
open Go

structure SledOk (s : SledI) : Prop where
 low : 1 ≤ s.low ∧ s.low ≤ 10000
 high : 1 ≤ s.high ∧ s.high ≤ 10000
 le : s.low ≤ s.high
 lag : 1 ≤ s.lag ∧ s.lag ≤ 16
 delay : 0 ≤ s.delay ∧ s.delay ≤ 8
 load : 1 ≤ s.load ∧ s.load ≤ 10000

theorem sled_of {s : SledI} (h : sledE s = 0) : SledOk s := by
 have h1 := firstE_zero.1 h
 have a := ivE_zero.1 (h1 _ (List.mem_cons_self ..))
 have b := rangeE_zero.1 (h1 (rangeE 1 16 s.lag) (by simp))
 have c := rangeE_zero.1 (h1 (rangeE 0 8 s.delay) (by simp))
 have e := rangeE_zero.1 (h1 (rangeE 1 10000 s.load) (by simp))
 exact ⟨⟨a.1, a.2.1⟩, ⟨a.2.2.1, a.2.2.2.1⟩, a.2.2.2.2, b, c, e⟩

theorem runL_length (s : SledI) (l : List (Int × Int)) (g : Int) (k : Nat) : (runL s l g k).length = k := by simp [runL]
theorem take_run (s : SledI) (l : List (Int × Int)) (g : Int) (k i : Nat) (h : i < k) : (runL s l g k).take (i + 1) = (runL s l g k).take i ++ [runF s l g (i + 1)] := by
 rw [List.take_add_one]; simp [runL, h]

structure RunFacts (s : SledI) (l : List (Int × Int)) (g : Int) (i : Nat) : Prop where
 w1 : IntKind.i64.wrap ((i : Int) - s.delay) = (i : Int) - s.delay
 mx : maxInt 0 [iv ((i : Int) - s.delay)] = some (max 0 ((i : Int) - s.delay))
 w2 : IntKind.i64.wrap (g * valveP l (max 0 ((i : Int) - s.delay))) = g * valveP l (max 0 ((i : Int) - s.delay))
 q : (g * valveP l (max 0 ((i : Int) - s.delay))).tdiv 100 = wishF s l g i
 w3 : IntKind.i64.wrap (wishF s l g i) = wishF s l g i
 w4 : IntKind.i64.wrap (wishF s l g i - runF s l g i) = wishF s l g i - runF s l g i
 b1 : -1000000000000 ≤ wishF s l g i - runF s l g i
 b2 : wishF s l g i - runF s l g i ≤ 1000000000000
 r : runF s l g i + (wishF s l g i - runF s l g i) / s.lag = runF s l g (i + 1)
 w5 : IntKind.i64.wrap (runF s l g (i + 1)) = runF s l g (i + 1)

theorem run_facts {s : SledI} (hs : SledOk s) {l : List (Int × Int)} (h : Valid l) {g : Int} (hg : 0 ≤ g) (hg2 : g ≤ 10000) (i : Nat) (hi : i < 1000000) : RunFacts s l g i := by
 have hd := hs.delay
 obtain ⟨v1, v2⟩ := valveP_bound h (max 0 ((i : Int) - s.delay))
 obtain ⟨u1, u2⟩ := wishF_bound (s := s) h hg i
 obtain ⟨r1, r2⟩ := runF_bound (s := s) h hg hs.lag.1 i
 obtain ⟨r3, r4⟩ := runF_bound (s := s) h hg hs.lag.1 (i + 1)
 have h3 : 0 ≤ g * valveP l (max 0 ((i : Int) - s.delay)) := Int.mul_nonneg hg v1
 have h4 : g * valveP l (max 0 ((i : Int) - s.delay)) ≤ g * 100 := Int.mul_le_mul_of_nonneg_left v2 hg
 refine ⟨wrap64 (by omega) (by omega), ?_, wrap64 (by omega) (by omega), ?_, wrap64 (by omega) (by omega), wrap64 (by omega) (by omega), by omega, by omega, rfl, wrap64 (by omega) (by omega)⟩
 ·simp only [maxInt]
  congr 1
  split <;> omega
 ·rw [Int.tdiv_eq_ediv_of_nonneg h3]
  rfl

theorem run55 {n : Nat} (hn : 2 ≤ n) {s : SledI} (hs : SledOk s) {l : List (Int × Int)} (h : Valid l) {g : Int} (hg : 0 ≤ g) (hg2 : g ≤ 10000) (k : Nat) (hk : k < 1000000) :
  RUN n 55 [sla s, csl l, iv g, iv k] = .ret (.own (pI (runL s l g k)) k 1) := by
 obtain ⟨d, rfl⟩ : ∃ d, n = d + 2 := ⟨n - 2, by omega⟩
 rw [RUN, call_eq fe55 _ rfl]
 have hsm := h.small
 let so : Obj := .arr [.int .i64 s.low, .int .i64 s.high, .int .i64 s.lag, .int .i64 s.delay, .int .i64 s.load] 0 1
 let inv : Nat → St := fun i => ⟨[(1, csl l), (2, iv g), (4, .ptr 0 0 0), (9, .sl 1 i 0 i), (10, iv (runF s l g i)), (13, iv k), (14, iv i)], [(1, .arr (pI ((runL s l g k).take i)) i 1), (0, so)]⟩
 have hvl := runL_length s l g k
 have htl : (runL s l g k).take k = runL s l g k := List.take_of_length_le (by omega)
 simp -implicitDefEqProofs [c55]
 rw [loop_run inv k (e := .exit 0) (st' := ⟨(inv k).env ++ [(15, .p (.bool false))], (inv k).sto⟩) (by simp)]
 ·simp -implicitDefEqProofs [inv, so, htl, hvl]
 ·rfl
 ·intro i hi
  have f := run_facts hs h hg hg2 i (by omega)
  have hlim : i + 1 ≤ lim := by simp only [lim]; omega
  have hto : ((runL s l g k).take i).length = i := by simp [hvl]; omega
  have hv := valve103 (n := d + 1) (by omega) l (max 0 ((i : Int) - s.delay)) (by omega)
  have hf := floor104 (n := d + 1) (by omega) (wishF s l g i - runF s l g i) s.lag (by have := hs.lag; omega) f.b1 f.b2
  have ht := take_run s l g k i hi
  simp -implicitDefEqProofs [inv, so, loopS_eq, c55L0, hi, hlim, hto, hv, hf, f.w1, f.mx, f.w2, f.q, f.w3, f.w4, f.r, f.w5, wrap_succ (i := i) (by omega), ht, ← pI_snoc]
 ·simp [inv, loopS_eq, c55L0]
 ·simp [loopFuel]; omega

end Fw
end

section
set_option maxHeartbeats 16000000
set_option maxRecDepth 8000
namespace Fw
open Go

abbrev hB (h : HallI) : Obj := .box [iv h.doors, iv h.base, csl h.t0, csl h.t1, csl h.t2]
abbrev o9 (h : HallI) (D : List ActI) (S : StaI) : Sto := [(2, .arr (sc S) 0 1), (1, .arr (rowC ac D) D.length 6), (0, hB h)]
abbrev e9 (n : Nat) (held : Bool) (fr : Int) (sh : Int) (l : List ActI) (i : Int) : Env := [(2, .ptr 0 0 0), (5, .sl 1 n 0 n), (6, .ptr 2 0 0), (7, bl held), (8, iv fr), (9, iv sh), (48, asl l), (49, iv l.length), (50, iv i)]
abbrev f9 (n : Nat) (held : Bool) (fr : Int) (sh : Int) (l : List ActI) (i : Int) (tl : Env) : Env := (2, .ptr 0 0 0) :: (5, .sl 1 n 0 n) :: (6, .ptr 2 0 0) :: (7, bl held) :: (8, iv fr) :: (9, iv sh) :: (11, .ptr 3 0 0) :: (16, .ptr 5 0 0) :: (48, asl l) :: (49, iv l.length) :: (50, iv i) :: tl

end Fw
end

