/- What Run, States and the reference's Check and Last return. -/
import Derived.Test.YtdjkleaojdeepaaGreatDoorGaRA
set_option maxHeartbeats 16000000
namespace Fw
open Go
attribute [local irreducible] evCode evOps evOpsD evOper evOperD evOp evFn loopN T.All T.bind callPure callOp opsK opsDK restK seqK blockK loopS setK setQ giveK scalK gcK finish finS rfunK yldK yldB loopK

def zS : StaI := ⟨0, false, false, false, false, false, false, false, false, false, false, 0, false, 0, 0⟩
/-- the error of acts that are to be permitted -/
def chkE (h : HallI) (l : List ActI) : Int := if actsE h l ≠ 0 then actsE h l else if (runH h l).2 = true then 0 else 21
theorem run_ok {h : HallI} (q0 : h.t0.length < 1000000) (q1 : h.t1.length < 1000000) (q2 : h.t2.length < 1000000) {l : List ActI} (hl : l.length < 50000) (he : actsE h l = 0) : RunOk h l := by
  obtain ⟨z1, z2, z3⟩ := acts_ok he
  exact ⟨z1, q0, q1, q2, hl, fun x hx => act_ok (doors_of z1).2 (z3 x hx)⟩
theorem runH_lt (h : HallI) {l : List ActI} (hl : l.length < 50000) : (runH h l).1.length < 50000 := by
  have := (runG_len h.base (wP h) l bgS).1
  rw [show runG h.base (wP h) bgS l = runH h l from rfl] at this
  omega
theorem check26 {n : Nat} (hn : 9 ≤ n) (h : HallI) (q0 : h.t0.length < 1000000) (q1 : h.t1.length < 1000000) (q2 : h.t2.length < 1000000) (l : List ActI) (hl : l.length < 50000) : RUN n 26 [ha h, asl l] = .ret (iv (chkE h l)) := by
  obtain ⟨d, rfl⟩ : ∃ d, n = d + 9 := ⟨n - 9, by omega⟩
  rw [RUN, call_eq fe26 _ rfl]
  have k22 := acts22 (n := d + 8) (by omega) h q0 q1 q2 l (by omega)
  unfold chkE
  by_cases h0 : actsE h l = 0
  · have k76 := run76 (n := d + 8) (by omega) h l (run_ok q0 q1 q2 hl h0)
    have kw := fun b => when94 (n := d + 8) (by omega) b 21
    rw [h0] at k22
    rw [if_neg (by simp [h0])]
    have hnb : (((runH h l).1.length : Int) != -1) = true := by simp
    generalize rowC sc (runH h l).1 = B at *
    generalize (runH h l).2 = w at *
    generalize (runH h l).1.length = y at *
    simp only [ha, csl, asl] at *
    generalize cI h.t0 = A0 at *
    generalize cI h.t1 = A1 at *
    generalize cI h.t2 = A2 at *
    generalize rowC ac l = A at *
    cases w
    · simp only [Bool.false_eq_true, if_false] at k76 ⊢
      simp -implicitDefEqProofs [c26, k22, k76, hnb, kw, whenE]
    · simp only [if_true] at k76 ⊢
      simp -implicitDefEqProofs [c26, k22, k76, kw, whenE]
  · rw [if_pos h0]
    generalize actsE h l = e at *
    simp only [ha, csl, asl] at *
    generalize cI h.t0 = A0 at *
    generalize cI h.t1 = A1 at *
    generalize cI h.t2 = A2 at *
    generalize rowC ac l = A at *
    simp -implicitDefEqProofs [c26, k22, h0]
theorem last28 {n : Nat} (hn : 9 ≤ n) (h : HallI) (l : List ActI) (R : RunOk h l) : RUN n 28 [ha h, asl l] = .ret (sa (lastS (runH h l).1)) := by
  obtain ⟨d, rfl⟩ : ∃ d, n = d + 9 := ⟨n - 9, by omega⟩
  rw [RUN, call_eq fe28 _ rfl]
  have k76 := run76 (n := d + 8) (by omega) h l R
  have kb := begin98 (n := d + 8) (by omega)
  have hl := runH_lt h R.len
  generalize (if (runH h l).2 = true then (-1 : Int) else (runH h l).1.length) = w at *
  generalize (runH h l).1 = o at *
  simp only [ha, csl, asl] at *
  generalize cI h.t0 = A0 at *
  generalize cI h.t1 = A1 at *
  generalize cI h.t2 = A2 at *
  generalize rowC ac l = A at *
  by_cases h0 : o.length = 0
  · have : o = [] := List.eq_nil_of_length_eq_zero h0
    subst this
    have e4 : lastS [] = bgS := rfl
    simp only [e4, rowC_nil, List.length_nil, bgS] at *
    simp -implicitDefEqProofs [c28, k76, kb]
  · have hpos : o ≠ [] := fun e => h0 (by rw [e]; rfl)
    obtain ⟨P, x, hP⟩ : ∃ P x, o = P ++ [x] := ⟨o.dropLast, o.getLast hpos, (List.dropLast_concat_getLast _).symm⟩
    have hls : lastS o = x := by rw [hP]; simp [lastS]
    have hlen : o.length = P.length + 1 := by rw [hP]; simp
    have hi : P.length < o.length := by omega
    have hdr := rowC_drop sc_len o P.length hi
    have hx : o[P.length] = x := by simp [hP]
    have hnil : o.drop (P.length + 1) = [] := List.drop_of_length_le (by omega)
    rw [hx, hnil, rowC_nil] at hdr
    rw [hls]
    have hm : (o.length : Int) - 1 = (P.length : Int) := by omega
    have wj : IntKind.i64.wrap (P.length : Int) = P.length := wrap64 (by omega) (by omega)
    have hlt : P.length * 15 < o.length * 15 := by omega
    have hlt6 : P.length * 15 + 15 ≤ o.length * 15 := by omega
    have hb : ((o.length : Int) == 0) = false := by simpa using h0
    have hR := sR_len o
    generalize hA : rowC sc o = B at *
    obtain ⟨st, o0, o1, o2, o3, o4, o5, o6, o7, k0, k1, pp, ar, sh, ad⟩ := x
    simp -implicitDefEqProofs [c28, k76, hb, hm, wj, hR, hi, hlt, hdr, sc]
def runS (h : HallI) (l : List ActI) : StaI := if actsE h l = 0 ∧ (runH h l).2 = true then lastS (runH h l).1 else zS
def runI (h : HallI) (l : List ActI) : Int := if actsE h l = 0 ∧ (runH h l).2 = false then (runH h l).1.length else 0
theorem run70 {n : Nat} (hn : 10 ≤ n) (h : HallI) (q0 : h.t0.length < 1000000) (q1 : h.t1.length < 1000000) (q2 : h.t2.length < 1000000) (l : List ActI) (hl : l.length < 50000) : RUN n 70 [ha h, asl l] = .ret (.tup [sa (runS h l), iv (runI h l), iv (chkE h l)]) := by
  obtain ⟨d, rfl⟩ : ∃ d, n = d + 10 := ⟨n - 10, by omega⟩
  rw [RUN, call_eq fe70 _ rfl]
  have k88 := followed88 (n := d + 9) (by omega) h q0 q1 q2 l hl
  have k89 := last89 (n := d + 9) (by omega) (runH h l).1 (by have := runH_lt h hl; omega)
  unfold folR at k88
  by_cases h0 : actsE h l = 0
  · rw [if_neg (by simp [h0])] at k88
    simp only [runS, runI, chkE, h0, true_and, ne_eq, not_true_eq_false, if_false]
    generalize lastS (runH h l).1 = s at *
    simp only [stl] at k89
    generalize rowC sc (runH h l).1 = B at *
    generalize (runH h l).1.length = y at *
    simp only [ha, csl, asl] at *
    generalize cI h.t0 = A0 at *
    generalize cI h.t1 = A1 at *
    generalize cI h.t2 = A2 at *
    generalize rowC ac l = A at *
    cases hw : (runH h l).2
    · simp only [hw, Bool.false_eq_true, if_false, if_true] at k88 ⊢
      simp -implicitDefEqProofs [c70, k88, zS]
    · simp only [hw, if_true] at k88 ⊢
      obtain ⟨st, o0, o1, o2, o3, o4, o5, o6, o7, k0, k1, pp, ar, sh, ad⟩ := s
      simp -implicitDefEqProofs [c70, k88, k89]
  · rw [if_pos h0] at k88
    simp only [runS, runI, chkE, h0, false_and, if_false, ne_eq, not_false_eq_true, if_true]
    generalize actsE h l = e at *
    simp only [ha, csl, asl] at *
    generalize cI h.t0 = A0 at *
    generalize cI h.t1 = A1 at *
    generalize cI h.t2 = A2 at *
    generalize rowC ac l = A at *
    simp -implicitDefEqProofs [c70, k88, zS, h0]
def okL (h : HallI) (l : List ActI) : List StaI := if actsE h l = 0 ∧ (runH h l).2 = true then (runH h l).1 else []
/-- what is handed back of a list of states -/
def okA (h : HallI) (l : List ActI) : AVal := if actsE h l = 0 ∧ (runH h l).2 = true then .own (rowC sc (runH h l).1) (runH h l).1.length 15 else nilS
theorem okA_dis (h : HallI) (l : List ActI) : disown (okA h l) = stl (okL h l) := by
  unfold okA okL
  split
  · rfl
  · rfl
theorem states75 {n : Nat} (hn : 10 ≤ n) (h : HallI) (q0 : h.t0.length < 1000000) (q1 : h.t1.length < 1000000) (q2 : h.t2.length < 1000000) (l : List ActI) (hl : l.length < 50000) : ∃ a, RUN n 75 [ha h, asl l] = .ret (.tup [a, iv (chkE h l)]) ∧ disown a = stl (okL h l) := by
  obtain ⟨d, rfl⟩ : ∃ d, n = d + 10 := ⟨n - 10, by omega⟩
  rw [RUN, call_eq fe75 _ rfl]
  have k88 := followed88 (n := d + 9) (by omega) h q0 q1 q2 l hl
  unfold folR at k88
  by_cases h0 : actsE h l = 0
  · rw [if_neg (by simp [h0])] at k88
    simp only [okL, chkE, h0, true_and, ne_eq, not_true_eq_false, if_false]
    cases hw : (runH h l).2
    · simp only [hw, Bool.false_eq_true, if_false] at k88 ⊢
      refine ⟨nilS, ?_, rfl⟩
      generalize (runH h l).1.length = y at *
      simp only [ha, csl, asl] at *
      generalize cI h.t0 = A0 at *
      generalize cI h.t1 = A1 at *
      generalize cI h.t2 = A2 at *
      generalize rowC ac l = A at *
      simp -implicitDefEqProofs [c75, k88]
    · simp only [hw, if_true] at k88 ⊢
      refine ⟨.p (.sl (rowC sc (runH h l).1) (runH h l).1.length), ?_, rfl⟩
      generalize rowC sc (runH h l).1 = B at *
      generalize (runH h l).1.length = y at *
      simp only [ha, csl, asl] at *
      generalize cI h.t0 = A0 at *
      generalize cI h.t1 = A1 at *
      generalize cI h.t2 = A2 at *
      generalize rowC ac l = A at *
      simp -implicitDefEqProofs [c75, k88]
  · rw [if_pos h0] at k88
    simp only [okL, chkE, h0, false_and, if_false, ne_eq, not_false_eq_true, if_true]
    refine ⟨nilS, ?_, rfl⟩
    generalize actsE h l = e at *
    simp only [ha, csl, asl] at *
    generalize cI h.t0 = A0 at *
    generalize cI h.t1 = A1 at *
    generalize cI h.t2 = A2 at *
    generalize rowC ac l = A at *
    simp -implicitDefEqProofs [c75, k88]
end Fw
