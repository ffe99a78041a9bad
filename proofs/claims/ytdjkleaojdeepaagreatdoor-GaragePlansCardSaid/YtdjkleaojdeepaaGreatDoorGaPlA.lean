/- The bound of a best plan: by the reference, the two loops. -/
import Derived.Test.YtdjkleaojdeepaaGreatDoorGaPl9
set_option maxHeartbeats 16000000
set_option maxRecDepth 8000
namespace Fw
open Go
attribute [local irreducible] evCode evOps evOpsD evOper evOperD evOp evFn loopN T.All T.bind callPure callOp opsK opsDK restK seqK blockK loopS setK setQ giveK scalK gcK finish finS rfunK yldK yldB loopK

theorem inner62 {d : Nat} (l : List JobI) (hl : JobsOk l) (w h : Int) :
    loopN (loopS (evFn F C0 G0 d) C0 G0 0 false [0, 3, 4, 5, 6, 7, 8, 9] c62L0) loopFuel (P62 l w h 0) = .ret (.exit 2, ⟨(P62 l w h l.length).env ++ [(17, .p (.bool false))], []⟩) := by
  rw [loop_run' (fun k => P62 l w h k) l.length (e := .exit 2) (st' := ⟨(P62 l w h l.length).env ++ [(17, .p (.bool false))], []⟩) (by simp)]
  · rfl
  · intro k hk
    exact round62 l hl w h k hk
  · simp -implicitDefEqProofs [loopS_eq, c62L0, P62]
  · have := hl.1; simp [loopFuel]; omega
theorem mx_le {l : List JobI} (hl : JobsOk l) : ∀ h, h ≤ 17 → 0 ≤ mxB l h ∧ mxB l h ≤ 160000 := by
  intro h
  induction h with
  | zero => intro _; simp [mxB]
  | succ h ih =>
    intro hh
    have := ih (by omega)
    have hb := s_le hl (h : Int) l.length (by omega)
    have h8 := hl.1
    simp only [mxB]
    omega
theorem bound62 {n : Nat} (hn : 1 ≤ n) (l : List JobI) (hl : JobsOk l) : RUN n 62 [jsl l] = .ret (iv (mxB l 17)) := by
  obtain ⟨d, rfl⟩ : ∃ d, n = d + 1 := ⟨n - 1, by omega⟩
  rw [RUN, call_eq fe62 _ rfl]
  have h8 := hl.1
  let inv : Nat → St := fun i => ⟨[(0, jsl l), (3, iv (mxB l i)), (4, iv i)], []⟩
  have key : loopN (loopS (evFn F C0 G0 d) C0 G0 0 false [0, 3, 4] c62L1) loopFuel (inv 0) = .ret (.exit 0, ⟨(inv 17).env ++ [(11, .p (.bool false))], []⟩) := by
    rw [loop_run' inv 17 (e := .exit 0) (st' := ⟨(inv 17).env ++ [(11, .p (.bool false))], []⟩) (by simp)]
    · rfl
    · intro i hi
      have hi' : (i : Int) ≤ 16 := by omega
      have wi := wrap_succ (i := i) (by omega)
      have hin := inner62 (d := d) l hl (mxB l i) i
      have hb := s_le hl (i : Int) l.length (by omega)
      have w := wrap64 (n := sD l i l.length - sS l i l.length) (by omega) (by omega)
      have mx := fun a b c d => max4 a b c d
      simp only [P62, inv, jsl, mxB, sC, sH, sD, sS, Int.natCast_zero] at *
      generalize sC l i l.length = q1 at *
      generalize sH l i l.length = q2 at *
      generalize sD l i l.length = q3 at *
      generalize sS l i l.length = q4 at *
      generalize mxB l i = m at *
      generalize rowC jc l = J at *
      refine ⟨?_, ?h1, ?h2⟩
      case h1 =>
        simp -implicitDefEqProofs [loopS_eq, c62L1, hi']
        rw [show loopN _ _ _ = _ from hin]
        simp -implicitDefEqProofs [w, mx, wi]
        exact rfl
      case h2 => rfl
    · simp -implicitDefEqProofs [loopS_eq, c62L1, inv]
    · simp [loopFuel]
  simp only [inv, jsl] at key ⊢
  generalize mxB l 17 = m at *
  simp only [Int.natCast_zero, mxB] at key
  generalize rowC jc l = J at *
  simp -implicitDefEqProofs [c62]
  rw [show loopN _ _ _ = _ from key]
  simp
end Fw
