/- Schedules: their checks and ends, both sides. -/
import Derived.Test.YtdjkleaojdeepaaGreatDoorGaJ5
set_option maxHeartbeats 16000000
set_option maxRecDepth 8000
namespace Fw
open Go
attribute [local irreducible] evCode evOps evOpsD evOper evOperD evOp evFn loopN T.All T.bind callPure callOp opsK opsDK restK seqK blockK loopS setK setQ giveK scalK gcK finish finS rfunK yldK yldB loopK

/-- the greatest end of the first jobs -/
def endF (l : List JobI) (st : List Int) : Nat → Int
  | 0 => 0
  | i + 1 => max (endF l st i) (st.getD i 0 + (l.getD i zJ).time)
def StOkJ (n : Nat) (st : List Int) : Prop := st.length = n ∧ ∀ i, i < n → 0 ≤ st.getD i 0 ∧ st.getD i 0 ≤ 1000000
theorem end55 {n : Nat} (hn : 1 ≤ n) (l : List JobI) (st : List Int) (hl : JobsOk l) (hs : StOkJ l.length st) : RUN n 55 [jsl l, isl st] = .ret (iv (endF l st l.length)) := by
  obtain ⟨d, rfl⟩ : ∃ d, n = d + 1 := ⟨n - 1, by omega⟩
  rw [RUN, call_eq fe55 _ rfl]
  have h8 := hl.1
  let inv : Nat → St := fun i => ⟨[(0, jsl l), (1, isl st), (5, iv (endF l st i)), (6, iv i)], []⟩
  have key : loopN (loopS (evFn F C0 G0 d) C0 G0 0 false [0, 1, 5, 6] c55L0) loopFuel (inv 0) = .ret (.exit 0, ⟨(inv l.length).env ++ [(10, .p (.bool false))], (inv l.length).sto⟩) := by
    rw [loop_run' inv l.length (e := .exit 0) (st' := ⟨(inv l.length).env ++ [(10, .p (.bool false))], (inv l.length).sto⟩) (by simp)]
    · rfl
    · intro i hi
      have hio : i < st.length := by have := hs.1; omega
      have wi := wrap_succ (i := i) (by omega)
      have b := hs.2 i hi
      have b2 := hl.2 _ (List.getElem_mem hi)
      have hdr := pI_drop st i hio
      rw [← getI hio] at hdr
      have hR := pI_len st
      have hJ := jR_len l
      have hlt : i * 6 < l.length * 6 := by omega
      have hrow := rowC_drop jc_len l i hi
      have hl4 : i * 6 + 4 < l.length * 6 := by omega
      have hd4 : (rowC jc l).drop (i * 6 + 4) = (jc l[i] ++ rowC jc (l.drop (i + 1))).drop 4 := by rw [← List.drop_drop, hrow]
      have w := wrap64 (n := st.getD i 0 + l[i].time) (by omega) (by omega)
      have mx := fun a b => max2 a b
      simp only [inv, endF, jsl, isl]
      rw [getJ hi]
      generalize endF l st i = e at *
      generalize st.getD i 0 = si at *
      generalize rowC jc (l.drop (i + 1)) = R3 at *
      generalize rowC jc l = J at *
      generalize l[i] = x at *
      generalize hA : pI st = A at *
      generalize A.drop (i + 1) = R2 at *
      obtain ⟨nm, a1, a2, a3, a4, a5⟩ := x
      simp only [jc, List.drop_succ_cons, List.drop_zero, List.cons_append, List.nil_append] at hrow hd4 w ⊢
      refine ⟨?_, ?h1, ?h2⟩
      case h1 =>
        simp -implicitDefEqProofs [loopS_eq, c55L0, hi, hio, hdr, hR, hJ, hlt, hrow, w, mx, wi]
        exact rfl
      case h2 => rfl
    · simp -implicitDefEqProofs [loopS_eq, c55L0, inv]
    · simp [loopFuel]; omega
  simp only [inv, jsl, isl] at key ⊢
  generalize rowC jc l = J at *
  generalize pI st = A at *
  generalize endF l st l.length = e at *
  simp only [Int.natCast_zero, endF] at key
  simp -implicitDefEqProofs [c55]
  rw [show loopN _ _ _ = _ from key]
  simp
theorem end111 {n : Nat} (hn : 1 ≤ n) (l : List JobI) (st : List Int) (hl : JobsOk l) (hs : StOkJ l.length st) : RUN n 111 [jsl l, isl st] = .ret (iv (endF l st l.length)) := by
  obtain ⟨d, rfl⟩ : ∃ d, n = d + 1 := ⟨n - 1, by omega⟩
  rw [RUN, call_eq fe111 _ rfl]
  have h8 := hl.1
  let inv : Nat → St := fun i => ⟨[(1, isl st), (5, iv (endF l st i)), (8, jsl l), (9, iv l.length), (10, iv i)], []⟩
  have key : loopN (loopS (evFn F C0 G0 d) C0 G0 0 true [1, 5, 8, 9, 10] c111L0) loopFuel (inv 0) = .ret (.exit 0, ⟨(inv l.length).env ++ [(11, .p (.bool false))], (inv l.length).sto⟩) := by
    rw [loop_run' inv l.length (e := .exit 0) (st' := ⟨(inv l.length).env ++ [(11, .p (.bool false))], (inv l.length).sto⟩) (by simp)]
    · rfl
    · intro i hi
      have hio : i < st.length := by have := hs.1; omega
      have wi := wrap_succ (i := i) (by omega)
      have b := hs.2 i hi
      have b2 := hl.2 _ (List.getElem_mem hi)
      have hdr := pI_drop st i hio
      rw [← getI hio] at hdr
      have hR := pI_len st
      have hJ := jR_len l
      have hlt : i * 6 < l.length * 6 := by omega
      have hlt6 : i * 6 + 6 ≤ l.length * 6 := by omega
      have hrow := rowC_drop jc_len l i hi
      have w := wrap64 (n := st.getD i 0 + l[i].time) (by omega) (by omega)
      have mx := fun a b => max2 a b
      simp only [inv, endF, jsl, isl]
      rw [getJ hi]
      generalize endF l st i = e at *
      generalize st.getD i 0 = si at *
      generalize rowC jc (l.drop (i + 1)) = R3 at *
      generalize rowC jc l = J at *
      generalize l[i] = x at *
      generalize hA : pI st = A at *
      generalize A.drop (i + 1) = R2 at *
      obtain ⟨nm, a1, a2, a3, a4, a5⟩ := x
      simp only [jc] at hrow w ⊢
      refine ⟨?_, ?h1, ?h2⟩
      case h1 =>
        simp -implicitDefEqProofs [loopS_eq, c111L0, hi, hio, hdr, hR, hJ, hlt, hrow, w, mx, wi]
        exact rfl
      case h2 => exact loopS_same (by simp) (by simp)
    · simp -implicitDefEqProofs [loopS_eq, c111L0, inv]
    · simp [loopFuel]; omega
  simp only [inv, jsl, isl] at key ⊢
  generalize rowC jc l = J at *
  generalize pI st = A at *
  generalize endF l st l.length = e at *
  simp only [Int.natCast_zero, endF] at key
  simp -implicitDefEqProofs [c111]
  rw [show loopN _ _ _ = _ from key]
  simp
/-- the error of starts -/
def staE (n : Nat) (st : List Int) : Int := if st.length ≠ n then 2 else firstE (st.map (rangeE 0 1000000))
def stG : PVal → PVal
  | .int _ n => .int .i64 (rangeE 0 1000000 n)
  | c => c
end Fw
