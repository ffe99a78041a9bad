/- Lists of sensors: equal to themselves. -/
import Derived.Test.YtbaedpfgjpkabaaGreatDoorChSt1
set_option maxHeartbeats 8000000
namespace Fw
open Go
attribute [local irreducible] evCode evOps evOpsD evOper evOperD evOp evFn loopN T.All T.bind callPure callOp opsK opsDK restK seqK blockK loopS setK setQ giveK scalK gcK finish finS rfunK yldK yldB loopK

theorem sameS98 {n : Nat} (hn : 1 ≤ n) (l : List SenI) (hl : l.length < 1000000) : RUN n 98 [ssl l, ssl l] = .ret (.p (.bool true)) := by
  obtain ⟨d, rfl⟩ : ∃ d, n = d + 1 := ⟨n - 1, by omega⟩
  rw [RUN, call_eq fe98 _ rfl]
  let inv : Nat → St := fun i => ⟨[(0, ssl l), (1, ssl l), (5, iv i)], []⟩
  have hR := sR_len l
  simp -implicitDefEqProofs [c98]
  rw [loop_run inv l.length (e := .exit 0) (st' := ⟨(inv l.length).env ++ [(14, .p (.bool false))], (inv l.length).sto⟩) (by simp)]
  · simp -implicitDefEqProofs [inv]
  · rfl
  · intro i hi
    have wi := wrap_succ (i := i) (by omega)
    have hlt : i * 4 < l.length * 4 := by omega
    have hdr := rowC_drop sc_len l i hi
    simp only [inv]
    generalize hA : rowC sc l = A at *
    generalize rowC sc (l.drop (i + 1)) = R2 at *
    generalize hv : l[i] = v at *
    simp -implicitDefEqProofs [loopS_eq, c98L0, hi, hA, hR, hlt, hdr, sc, eqK, keyOk, eqP, wi]
  · simp -implicitDefEqProofs [inv, loopS_eq, c98L0]
  · simp [loopFuel]; omega
end Fw
