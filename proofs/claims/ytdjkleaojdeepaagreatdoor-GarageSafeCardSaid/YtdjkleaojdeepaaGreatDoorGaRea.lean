/- The law on reasons: what it returns at any input. -/
import Derived.Test.YtdjkleaojdeepaaGreatDoorGaP4
import Derived.Test.YtdjkleaojdeepaaGreatDoorGaRun
set_option maxHeartbeats 16000000
namespace Fw
open Go
attribute [local irreducible] evCode evOps evOpsD evOper evOperD evOp evFn loopN T.All T.bind callPure callOp opsK opsDK restK seqK blockK loopS setK setQ giveK scalK gcK finish finS rfunK yldK yldB loopK

def reaE (h : HallI) (l : List ActI) (x : ActI) : Int := if actsE h l ≠ 0 then actsE h l else if actE h x ≠ 0 then actE h x else chkE h l
def reaO (h : HallI) (l : List ActI) (x : ActI) : List (List UInt8) := if reaE h l x = 0 then reaL (lastS (runH h l).1) x else []
theorem reasons18 {n : Nat} (hn : 10 ≤ n) (h : HallI) (q0 : h.t0.length < 1000000) (q1 : h.t1.length < 1000000) (q2 : h.t2.length < 1000000) (l : List ActI) (hl : l.length < 50000) (x : ActI) :
  ∃ a, RUN n 18 [ha h, asl l, aa x] = .ret (.tup [a, iv (reaE h l x)]) ∧ disown a = strL (reaO h l x) := by
 obtain ⟨d, rfl⟩ : ∃ d, n = d + 7 := ⟨n - 7, by omega⟩
 rw [RUN, call_eq fe18 _ rfl]
 have k86 := acts86 (n := d + 6) (by omega) h q0 q1 q2 l (by omega)
 have k87 := check87 (n := d + 6) (by omega) h x
 by_cases h0 : actsE h l = 0
 ·by_cases hx0 : actE h x = 0
  ·have k88 := followed88 (n := d + 6) (by omega) h q0 q1 q2 l hl
   unfold folR at k88
   rw [if_neg (by simp [h0])] at k88
   rw [h0] at k86
   rw [hx0] at k87
   cases hw : (runH h l).2
   ·have e1 : reaE h l x = 21 := by simp [reaE, h0, hx0, chkE, hw]
    refine ⟨nilS, ?_, by rw [reaO, e1]; rfl⟩
    rw [e1]
    simp only [hw, Bool.false_eq_true, if_false] at k88
    generalize (runH h l).1.length = y at *
    simp only [ha, csl, asl] at *
    generalize cI h.t0 = A0 at *
    generalize cI h.t1 = A1 at *
    generalize cI h.t2 = A2 at *
    generalize rowC ac l = A at *
    obtain ⟨t, k, m, a, b, c⟩ := x
    simp -implicitDefEqProofs [c18, k86, k87, k88]
   ·have e1 : reaE h l x = 0 := by simp [reaE, h0, hx0, chkE, hw]
    obtain ⟨z1, z2, z3⟩ := acts_ok h0
    have hd := doors_of z1
    have k89 := last89 (n := d + 6) (by omega) (runH h l).1 (by have := runH_lt h hl; omega)
    have k90 := reasons90 (n := d + 6) (by omega) (lastS (runH h l).1) x (act_ok hd.2 hx0).1
    refine ⟨strL (reaO h l x), ?_, rfl⟩
    rw [e1]
    have e2 : reaO h l x = reaL (lastS (runH h l).1) x := by rw [reaO, if_pos e1]
    rw [e2]
    have hQ : (pStr (reaL (lastS (runH h l).1) x)).length = (reaL (lastS (runH h l).1) x).length := by simp
    generalize reaL (lastS (runH h l).1) x = L at *
    simp only [hw, if_true] at k88
    simp only [ha, csl, asl, stl] at *
    generalize lastS (runH h l).1 = s at *
    generalize rowC sc (runH h l).1 = B at *
    generalize (runH h l).1.length = y at *
    generalize cI h.t0 = A0 at *
    generalize cI h.t1 = A1 at *
    generalize cI h.t2 = A2 at *
    generalize rowC ac l = A at *
    obtain ⟨t, k, m, a, b, c⟩ := x
    obtain ⟨st, o0, o1, o2, o3, o4, o5, o6, o7, k0, k1, pp, ar, sh, ad⟩ := s
    simp -implicitDefEqProofs [c18, k86, k87, k88, k89, k90]
  ·have e1 : reaE h l x = actE h x := by simp [reaE, h0, hx0]
   refine ⟨nilS, ?_, by rw [reaO, e1, if_neg hx0]; rfl⟩
   rw [e1]
   rw [h0] at k86
   generalize actE h x = e at *
   simp only [ha, csl, asl] at *
   generalize cI h.t0 = A0 at *
   generalize cI h.t1 = A1 at *
   generalize cI h.t2 = A2 at *
   generalize rowC ac l = A at *
   obtain ⟨t, k, m, a, b, c⟩ := x
   simp -implicitDefEqProofs [c18, k86, k87, hx0]
 ·have e1 : reaE h l x = actsE h l := by simp [reaE, h0]
  refine ⟨nilS, ?_, by rw [reaO, e1, if_neg h0]; rfl⟩
  rw [e1]
  generalize actsE h l = e at *
  simp only [ha, csl, asl] at *
  generalize cI h.t0 = A0 at *
  generalize cI h.t1 = A1 at *
  generalize cI h.t2 = A2 at *
  generalize rowC ac l = A at *
  obtain ⟨t, k, m, a, b, c⟩ := x
  simp -implicitDefEqProofs [c18, k86, h0]
end Fw
