/- Acts: a copy, and equal to themselves. -/
import Derived.Test.YtdjkleaojdeepaaGreatDoorGaRB
set_option maxHeartbeats 16000000
set_option maxRecDepth 8000
namespace Fw
open Go
attribute [local irreducible] evCode evOps evOpsD evOper evOperD evOp evFn loopN T.All T.bind callPure callOp opsK opsDK restK seqK blockK loopS setK setQ giveK scalK gcK finish finS rfunK yldK yldB loopK

theorem back69 {n : Nat} (hn : 1 ≤ n) (l : List ActI) (hl : l.length < 1000000) : RUN n 69 [asl l] = .ret (.own (rowC ac l) l.length 6) := by
 obtain ⟨d, rfl⟩ : ∃ d, n = d + 1 := ⟨n - 1, by omega⟩
 rw [RUN, call_eq fe69 _ rfl]
 let inv : Nat → St := fun i => ⟨[(3, .sl 0 i 0 i), (6, asl l), (7, iv l.length), (8, iv i)], [(0, .arr (rowC ac (l.take i)) i 6)]⟩
 have hR := aR_len l
 simp -implicitDefEqProofs [c69]
 rw [loop_run' inv l.length (e := .exit 0) (st' := ⟨(inv l.length).env ++ [(9, .p (.bool false))], (inv l.length).sto⟩) (by simp)]
 ·simp -implicitDefEqProofs [inv, hR]
 ·exact loopS_same rfl (by simp [inv])
 ·intro i hi
  have hlim : i + 1 ≤ lim := by simp only [lim]; omega
  have wi := wrap_succ (i := i) (by omega)
  have hti : (l.take i).length = i := by simp; omega
  have hln := aR_len (l.take i)
  rw [hti] at hln
  have hr : rowC ac (l.take (i + 1)) = rowC ac (l.take i) ++ ac l[i] := rowC_take _ _ hi
  have hlt : i * 6 < l.length * 6 := by omega
  have hlt6 : i * 6 + 6 ≤ l.length * 6 := by omega
  have hdr := rowC_drop ac_len l i hi
  simp only [inv]
  generalize hA : rowC ac l = A at *
  generalize rowC ac (l.take i) = R' at *
  generalize rowC ac (l.drop (i + 1)) = R2 at *
  generalize hv : l[i] = v at *
  refine ⟨?_, ?h1, ?h2⟩
  case h1 =>
   simp -implicitDefEqProofs [loopS_eq, c69L0, hi, hA, hR, hlt, hdr, ac, hlim, hln, wi]
   exact rfl
  case h2 => exact loopS_same rfl (by simp [hr, ac])
 ·simp -implicitDefEqProofs [inv, loopS_eq, c69L0]
 ·simp [loopFuel]; omega
theorem same68 {n : Nat} (hn : 1 ≤ n) (l : List ActI) (hl : l.length < 1000000) : RUN n 68 [asl l, asl l] = .ret (.p (.bool true)) := by
 obtain ⟨d, rfl⟩ : ∃ d, n = d + 1 := ⟨n - 1, by omega⟩
 rw [RUN, call_eq fe68 _ rfl]
 let inv : Nat → St := fun i => ⟨[(0, asl l), (1, asl l), (5, iv i)], []⟩
 have hR := aR_len l
 simp -implicitDefEqProofs [c68]
 rw [loop_run' inv l.length (e := .exit 0) (st' := ⟨(inv l.length).env ++ [(14, .p (.bool false))], (inv l.length).sto⟩) (by simp)]
 ·simp -implicitDefEqProofs [inv]
 ·rfl
 ·intro i hi
  have wi := wrap_succ (i := i) (by omega)
  have hlt : i * 6 < l.length * 6 := by omega
  have hlt6 : i * 6 + 6 ≤ l.length * 6 := by omega
  have hdr := rowC_drop ac_len l i hi
  simp only [inv, asl]
  generalize hA : rowC ac l = A at *
  generalize rowC ac (l.drop (i + 1)) = R2 at *
  generalize hv : l[i] = v at *
  refine ⟨?_, ?h1, ?h2⟩
  case h1 =>
   simp -implicitDefEqProofs [loopS_eq, c68L0, hi, hR, hlt, hdr, ac, eqK, keyOk, eqP, wi]
   exact rfl
  case h2 => rfl
 ·simp -implicitDefEqProofs [inv, loopS_eq, c68L0]
 ·simp [loopFuel]; omega
end Fw
