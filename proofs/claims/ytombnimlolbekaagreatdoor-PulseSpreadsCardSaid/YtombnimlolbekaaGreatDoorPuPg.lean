/- Split, by the reference. -/
import Derived.Test.YtombnimlolbekaaGreatDoorPuPf
set_option maxHeartbeats 8000000
namespace Fw
open Go
attribute [local irreducible] evCode evOps evOpsD evOper evOperD evOp evFn loopN T.All T.bind callPure callOp opsK opsDK restK seqK blockK loopS setK setQ giveK scalK gcK finish finS rfunK yldK yldB loopK

theorem ceil129 {n : Nat} (hn : 2 ≤ n) (x den : Int) (hd : 0 < den) (h1 : -100000000 ≤ x) (h2 : x ≤ 100000000) : RUN n 129 [iv x, iv den] = .ret (iv (-(-x / den))) := by
  obtain ⟨d, rfl⟩ : ∃ d, n = d + 2 := ⟨n - 2, by omega⟩
  rw [RUN, call_eq fe129 _ rfl]
  have e0 : (0 : Int) - x = -x := by omega
  have w1 := wrap64 (n := 0 - x) (by omega) (by omega)
  rw [e0] at w1
  have f1 := floor104 (n := d + 1) (by omega) (-x) den hd (by omega) (by omega)
  have hb := div_between (x := -x) (d := den) (by omega)
  have hq : -100000000 ≤ -x / den ∧ -x / den ≤ 100000000 := by
    by_cases hc : 0 ≤ -x
    · have := hb.1 hc
      omega
    · have := hb.2 (by omega)
      omega
  have e1 : 0 - -x / den = -(-x / den) := by omega
  have w2 := wrap64 (n := 0 - -x / den) (by omega) (by omega)
  rw [e1] at w2
  simp -implicitDefEqProofs [c129, w1, f1, w2]
end Fw
