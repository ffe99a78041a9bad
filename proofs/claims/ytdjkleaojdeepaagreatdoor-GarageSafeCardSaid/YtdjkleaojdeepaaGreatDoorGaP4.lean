/- Several texts in one: steps of the proof, no condition of their own. -/
import Derived.Test.YtdjkleaojdeepaaGreatDoorGaP2
attribute [local irreducible] Fw.evCode Fw.evOps Fw.evOpsD Fw.evOper Fw.evOperD Fw.evOp Fw.evFn Fw.loopN Fw.T.All Fw.T.bind Fw.callPure Fw.callOp Fw.opsK Fw.opsDK Fw.restK Fw.seqK Fw.blockK Fw.loopS Fw.setK Fw.setQ Fw.giveK Fw.scalK Fw.gcK Fw.finish Fw.finS Fw.rfunK Fw.yldK Fw.yldB Fw.loopK
section
set_option maxHeartbeats 16000000
namespace Fw
open Go

theorem loop21 {d : Nat} (h : HallI) (s : StaI) (t n : Int) (hx : ∀ k ∈ kindL, actE h (mkA t n k) = 0 → NumOk (mkA t n k)) :
  loopN (loopS (evFn F C0 G0 (d + 6)) C0 G0 0 true [2, 3, 4, 15, 16, 46] c21L0) loopFuel (P21 h s t n [] 0) = .ret (.exit 0, ⟨(P21 h s t n (permL h s t n) 10).env ++ [(47, bl false)], (P21 h s t n (permL h s t n) 10).sto⟩) := by
 have l0 : ([] : List (List UInt8)).length ≤ 0 := by simp
 have l1 : (addR ([] : List (List UInt8)) (permB h s t n kOpen) kOpen).length ≤ 1 := by have := addR_le ([] : List (List UInt8)) (permB h s t n kOpen) kOpen; omega
 have l2 : (addR (addR ([] : List (List UInt8)) (permB h s t n kOpen) kOpen) (permB h s t n kClose) kClose).length ≤ 2 := by have := addR_le (addR ([] : List (List UInt8)) (permB h s t n kOpen) kOpen) (permB h s t n kClose) kClose; omega
 have l3 : (addR (addR (addR ([] : List (List UInt8)) (permB h s t n kOpen) kOpen) (permB h s t n kClose) kClose) (permB h s t n kInsert) kInsert).length ≤ 3 := by have := addR_le (addR (addR ([] : List (List UInt8)) (permB h s t n kOpen) kOpen) (permB h s t n kClose) kClose) (permB h s t n kInsert) kInsert; omega
 have l4 : (addR (addR (addR (addR ([] : List (List UInt8)) (permB h s t n kOpen) kOpen) (permB h s t n kClose) kClose) (permB h s t n kInsert) kInsert) (permB h s t n kRemove) kRemove).length ≤ 4 := by have := addR_le (addR (addR (addR ([] : List (List UInt8)) (permB h s t n kOpen) kOpen) (permB h s t n kClose) kClose) (permB h s t n kInsert) kInsert) (permB h s t n kRemove) kRemove; omega
 have l5 : (addR (addR (addR (addR (addR ([] : List (List UInt8)) (permB h s t n kOpen) kOpen) (permB h s t n kClose) kClose) (permB h s t n kInsert) kInsert) (permB h s t n kRemove) kRemove) (permB h s t n kEnter) kEnter).length ≤ 5 := by have := addR_le (addR (addR (addR (addR ([] : List (List UInt8)) (permB h s t n kOpen) kOpen) (permB h s t n kClose) kClose) (permB h s t n kInsert) kInsert) (permB h s t n kRemove) kRemove) (permB h s t n kEnter) kEnter; omega
 have l6 : (addR (addR (addR (addR (addR (addR ([] : List (List UInt8)) (permB h s t n kOpen) kOpen) (permB h s t n kClose) kClose) (permB h s t n kInsert) kInsert) (permB h s t n kRemove) kRemove) (permB h s t n kEnter) kEnter) (permB h s t n kLeave) kLeave).length ≤ 6 := by have := addR_le (addR (addR (addR (addR (addR ([] : List (List UInt8)) (permB h s t n kOpen) kOpen) (permB h s t n kClose) kClose) (permB h s t n kInsert) kInsert) (permB h s t n kRemove) kRemove) (permB h s t n kEnter) kEnter) (permB h s t n kLeave) kLeave; omega
 have l7 : (addR (addR (addR (addR (addR (addR (addR ([] : List (List UInt8)) (permB h s t n kOpen) kOpen) (permB h s t n kClose) kClose) (permB h s t n kInsert) kInsert) (permB h s t n kRemove) kRemove) (permB h s t n kEnter) kEnter) (permB h s t n kLeave) kLeave) (permB h s t n kArm) kArm).length ≤ 7 := by have := addR_le (addR (addR (addR (addR (addR (addR ([] : List (List UInt8)) (permB h s t n kOpen) kOpen) (permB h s t n kClose) kClose) (permB h s t n kInsert) kInsert) (permB h s t n kRemove) kRemove) (permB h s t n kEnter) kEnter) (permB h s t n kLeave) kLeave) (permB h s t n kArm) kArm; omega
 have l8 : (addR (addR (addR (addR (addR (addR (addR (addR ([] : List (List UInt8)) (permB h s t n kOpen) kOpen) (permB h s t n kClose) kClose) (permB h s t n kInsert) kInsert) (permB h s t n kRemove) kRemove) (permB h s t n kEnter) kEnter) (permB h s t n kLeave) kLeave) (permB h s t n kArm) kArm) (permB h s t n kDisarm) kDisarm).length ≤ 8 := by have := addR_le (addR (addR (addR (addR (addR (addR (addR ([] : List (List UInt8)) (permB h s t n kOpen) kOpen) (permB h s t n kClose) kClose) (permB h s t n kInsert) kInsert) (permB h s t n kRemove) kRemove) (permB h s t n kEnter) kEnter) (permB h s t n kLeave) kLeave) (permB h s t n kArm) kArm) (permB h s t n kDisarm) kDisarm; omega
 have l9 : (addR (addR (addR (addR (addR (addR (addR (addR (addR ([] : List (List UInt8)) (permB h s t n kOpen) kOpen) (permB h s t n kClose) kClose) (permB h s t n kInsert) kInsert) (permB h s t n kRemove) kRemove) (permB h s t n kEnter) kEnter) (permB h s t n kLeave) kLeave) (permB h s t n kArm) kArm) (permB h s t n kDisarm) kDisarm) (permB h s t n kShoot) kShoot).length ≤ 9 := by have := addR_le (addR (addR (addR (addR (addR (addR (addR (addR ([] : List (List UInt8)) (permB h s t n kOpen) kOpen) (permB h s t n kClose) kClose) (permB h s t n kInsert) kInsert) (permB h s t n kRemove) kRemove) (permB h s t n kEnter) kEnter) (permB h s t n kLeave) kLeave) (permB h s t n kArm) kArm) (permB h s t n kDisarm) kDisarm) (permB h s t n kShoot) kShoot; omega
 have s0 := s21_0 (d := d) h s t n ([] : List (List UInt8)) (by omega) (hx kOpen (by simp [kindL]))
 have s1 := s21_1 (d := d) h s t n (addR ([] : List (List UInt8)) (permB h s t n kOpen) kOpen) (by omega) (hx kClose (by simp [kindL]))
 have s2 := s21_2 (d := d) h s t n (addR (addR ([] : List (List UInt8)) (permB h s t n kOpen) kOpen) (permB h s t n kClose) kClose) (by omega) (hx kInsert (by simp [kindL]))
 have s3 := s21_3 (d := d) h s t n (addR (addR (addR ([] : List (List UInt8)) (permB h s t n kOpen) kOpen) (permB h s t n kClose) kClose) (permB h s t n kInsert) kInsert) (by omega) (hx kRemove (by simp [kindL]))
 have s4 := s21_4 (d := d) h s t n (addR (addR (addR (addR ([] : List (List UInt8)) (permB h s t n kOpen) kOpen) (permB h s t n kClose) kClose) (permB h s t n kInsert) kInsert) (permB h s t n kRemove) kRemove) (by omega) (hx kEnter (by simp [kindL]))
 have s5 := s21_5 (d := d) h s t n (addR (addR (addR (addR (addR ([] : List (List UInt8)) (permB h s t n kOpen) kOpen) (permB h s t n kClose) kClose) (permB h s t n kInsert) kInsert) (permB h s t n kRemove) kRemove) (permB h s t n kEnter) kEnter) (by omega) (hx kLeave (by simp [kindL]))
 have s6 := s21_6 (d := d) h s t n (addR (addR (addR (addR (addR (addR ([] : List (List UInt8)) (permB h s t n kOpen) kOpen) (permB h s t n kClose) kClose) (permB h s t n kInsert) kInsert) (permB h s t n kRemove) kRemove) (permB h s t n kEnter) kEnter) (permB h s t n kLeave) kLeave) (by omega) (hx kArm (by simp [kindL]))
 have s7 := s21_7 (d := d) h s t n (addR (addR (addR (addR (addR (addR (addR ([] : List (List UInt8)) (permB h s t n kOpen) kOpen) (permB h s t n kClose) kClose) (permB h s t n kInsert) kInsert) (permB h s t n kRemove) kRemove) (permB h s t n kEnter) kEnter) (permB h s t n kLeave) kLeave) (permB h s t n kArm) kArm) (by omega) (hx kDisarm (by simp [kindL]))
 have s8 := s21_8 (d := d) h s t n (addR (addR (addR (addR (addR (addR (addR (addR ([] : List (List UInt8)) (permB h s t n kOpen) kOpen) (permB h s t n kClose) kClose) (permB h s t n kInsert) kInsert) (permB h s t n kRemove) kRemove) (permB h s t n kEnter) kEnter) (permB h s t n kLeave) kLeave) (permB h s t n kArm) kArm) (permB h s t n kDisarm) kDisarm) (by omega) (hx kShoot (by simp [kindL]))
 have s9 := s21_9 (d := d) h s t n (addR (addR (addR (addR (addR (addR (addR (addR (addR ([] : List (List UInt8)) (permB h s t n kOpen) kOpen) (permB h s t n kClose) kClose) (permB h s t n kInsert) kInsert) (permB h s t n kRemove) kRemove) (permB h s t n kEnter) kEnter) (permB h s t n kLeave) kLeave) (permB h s t n kArm) kArm) (permB h s t n kDisarm) kDisarm) (permB h s t n kShoot) kShoot) (by omega) (hx kMeasure (by simp [kindL]))
 have hr : permL h s t n = (addR (addR (addR (addR (addR (addR (addR (addR (addR (addR ([] : List (List UInt8)) (permB h s t n kOpen) kOpen) (permB h s t n kClose) kClose) (permB h s t n kInsert) kInsert) (permB h s t n kRemove) kRemove) (permB h s t n kEnter) kEnter) (permB h s t n kLeave) kLeave) (permB h s t n kArm) kArm) (permB h s t n kDisarm) kDisarm) (permB h s t n kShoot) kShoot) (permB h s t n kMeasure) kMeasure) := rfl
 rw [hr]
 generalize (addR (addR (addR (addR (addR (addR (addR (addR (addR (addR ([] : List (List UInt8)) (permB h s t n kOpen) kOpen) (permB h s t n kClose) kClose) (permB h s t n kInsert) kInsert) (permB h s t n kRemove) kRemove) (permB h s t n kEnter) kEnter) (permB h s t n kLeave) kLeave) (permB h s t n kArm) kArm) (permB h s t n kDisarm) kDisarm) (permB h s t n kShoot) kShoot) (permB h s t n kMeasure) kMeasure) = L at *
 have s10 : loopS (evFn F C0 G0 (d + 6)) C0 G0 0 true [2, 3, 4, 15, 16, 46] c21L0 (P21 h s t n L 10) = .ret (.exit 0, ⟨(P21 h s t n L 10).env ++ [(47, bl false)], (P21 h s t n L 10).sto⟩) := by
  have hKl : kindL.length = 10 := rfl
  simp -implicitDefEqProofs [loopS_eq, c21L0, P21, sc]
 rw [loopN_on' s0 (by simp [loopFuel]), loopN_on' s1 (by simp [loopFuel]), loopN_on' s2 (by simp [loopFuel]), loopN_on' s3 (by simp [loopFuel]), loopN_on' s4 (by simp [loopFuel]), loopN_on' s5 (by simp [loopFuel]), loopN_on' s6 (by simp [loopFuel]), loopN_on' s7 (by simp [loopFuel]), loopN_on' s8 (by simp [loopFuel]), loopN_on' s9 (by simp [loopFuel]), loopN_end s10 (by simp) (by simp [loopFuel])]

end Fw
end

section
set_option maxHeartbeats 16000000
namespace Fw
open Go

theorem mk_ok {h : HallI} (hd : h.doors ≤ 8) (t n : Int) (k : List UInt8) (he : actE h (mkA t n k) = 0) : NumOk (mkA t n k) := (act_ok hd he).1
def permE (h : HallI) (l : List ActI) (t n : Int) : Int := if actsE h l ≠ 0 then actsE h l else if firstE [rangeE 0 100000000 t, rangeE 0 7 n] ≠ 0 then firstE [rangeE 0 100000000 t, rangeE 0 7 n] else chkE h l
def permO (h : HallI) (l : List ActI) (t n : Int) : List (List UInt8) := if permE h l t n = 0 then permL h (lastS (runH h l).1) t n else []
theorem permL_len (h : HallI) (s : StaI) (t n : Int) : (permL h s t n).length ≤ 10 := by
 have key : ∀ (ks : List (List UInt8)) (L : List (List UInt8)), (ks.foldl (fun L k => addR L (permB h s t n k) k) L).length ≤ L.length + ks.length := by
  intro ks
  induction ks with
  | nil => intro L; simp
  | cons k r ih =>
   intro L
   have h1 := ih (addR L (permB h s t n k) k)
   have h2 := addR_le L (permB h s t n k) k
   simp only [List.foldl_cons, List.length_cons]
   omega
 have := key kindL []
 simp only [List.length_nil, Nat.zero_add] at this
 exact this
theorem permitted21 {n : Nat} (hn : 10 ≤ n) (h : HallI) (q0 : h.t0.length < 1000000) (q1 : h.t1.length < 1000000) (q2 : h.t2.length < 1000000) (l : List ActI) (hl : l.length < 50000) (t m : Int) :
  ∃ a, RUN n 21 [ha h, asl l, iv t, iv m] = .ret (.tup [a, iv (permE h l t m)]) ∧ disown a = strL (permO h l t m) := by
 obtain ⟨d, rfl⟩ : ∃ d, n = d + 7 := ⟨n - 7, by omega⟩
 rw [RUN, call_eq fe21 _ rfl]
 have k86 := acts86 (n := d + 6) (by omega) h q0 q1 q2 l (by omega)
 have k92 := fun x lo hi => within92 (n := d + 6) (by omega) x lo hi
 have k91 := first91_2 (n := d + 6) (by omega) (rangeE 0 100000000 t) (rangeE 0 7 m)
 have hnil : disown nilS = strL [] := rfl
 by_cases h0 : actsE h l = 0
 ·generalize hf : firstE [rangeE 0 100000000 t, rangeE 0 7 m] = f at *
  by_cases hf0 : f = 0
  ·subst hf0
   have k88 := followed88 (n := d + 6) (by omega) h q0 q1 q2 l hl
   unfold folR at k88
   rw [if_neg (by simp [h0])] at k88
   cases hw : (runH h l).2
   ·have e1 : permE h l t m = 21 := by simp [permE, h0, hf, chkE, hw]
    refine ⟨nilS, ?_, by rw [permO, e1]; rfl⟩
    rw [e1]
    simp only [hw, Bool.false_eq_true, if_false] at k88
    rw [h0] at k86
    generalize (runH h l).1.length = y at *
    simp only [ha, csl, asl] at *
    generalize cI h.t0 = A0 at *
    generalize cI h.t1 = A1 at *
    generalize cI h.t2 = A2 at *
    generalize rowC ac l = A at *
    simp -implicitDefEqProofs [c21, k86, k92, k91, k88]
   ·have e1 : permE h l t m = 0 := by simp [permE, h0, hf, chkE, hw]
    obtain ⟨z1, z2, z3⟩ := acts_ok h0
    have hd := doors_of z1
    have k89 := last89 (n := d + 6) (by omega) (runH h l).1 (by have := runH_lt h hl; omega)
    have key := loop21 (d := d) h (lastS (runH h l).1) t m (fun k _ => mk_ok hd.2 t m k)
    refine ⟨.own (pStr (permO h l t m)) (permO h l t m).length 1, ?_, rfl⟩
    rw [e1]
    have e2 : permO h l t m = permL h (lastS (runH h l).1) t m := by rw [permO, if_pos e1]
    rw [e2]
    generalize permL h (lastS (runH h l).1) t m = L at *
    simp only [hw, if_true] at k88
    rw [h0] at k86
    simp only [P21, ha, csl, asl, stl, pStr_nil, List.length_nil] at *
    generalize lastS (runH h l).1 = s at *
    have hQ : (pStr L).length = L.length := by simp
    generalize rowC sc (runH h l).1 = B at *
    generalize (runH h l).1.length = y at *
    generalize cI h.t0 = A0 at *
    generalize cI h.t1 = A1 at *
    generalize cI h.t2 = A2 at *
    generalize rowC ac l = A at *
    obtain ⟨st, o0, o1, o2, o3, o4, o5, o6, o7, k0, k1, pp, ar, sh, ad⟩ := s
    simp only [sc] at key
    simp -implicitDefEqProofs [c21, k86, k92, k91, k88, k89]
    rw [key]
    simp -implicitDefEqProofs [hQ]
  ·have e1 : permE h l t m = f := by simp [permE, h0, hf, hf0]
   refine ⟨nilS, ?_, by rw [permO, e1, if_neg hf0]; rfl⟩
   rw [e1]
   rw [h0] at k86
   simp only [ha, csl, asl] at *
   generalize cI h.t0 = A0 at *
   generalize cI h.t1 = A1 at *
   generalize cI h.t2 = A2 at *
   generalize rowC ac l = A at *
   simp -implicitDefEqProofs [c21, k86, k92, k91, hf0]
 ·have e1 : permE h l t m = actsE h l := by simp [permE, h0]
  refine ⟨nilS, ?_, by rw [permO, e1, if_neg h0]; rfl⟩
  rw [e1]
  generalize actsE h l = e at *
  simp only [ha, csl, asl] at *
  generalize cI h.t0 = A0 at *
  generalize cI h.t1 = A1 at *
  generalize cI h.t2 = A2 at *
  generalize rowC ac l = A at *
  simp -implicitDefEqProofs [c21, k86, h0]
end Fw
end

