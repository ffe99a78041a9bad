/- Two small functions of the reference. -/
import Derived.Test.YtfkacogfieiccaaGreatDoorBaL2
set_option maxHeartbeats 16000000
namespace Fw
open Go
attribute [local irreducible] evCode evOps evOpsD evOper evOperD evOp evFn loopN T.All T.bind callPure callOp opsK opsDK restK seqK blockK loopS setK setQ giveK scalK gcK finish finS rfunK yldK yldB loopK

theorem same87c {n : Nat} (hn : 2 ≤ n) (t : TowI) (hl : t.pull.length < 1000000) : RUN n 87 [twa t, twa t] = .ret (.p (.bool true)) := by
  obtain ⟨d, rfl⟩ : ∃ d, n = d + 2 := ⟨n - 2, by omega⟩
  rw [RUN, call_eq fe87 _ rfl]
  have h := same49 (n := d + 1) (by omega) t.pull t.pull hl
  obtain ⟨p, b, c, e, f, a⟩ := t
  simp only at h hl
  simp -implicitDefEqProofs [c87, h]
theorem told88c {n : Nat} (hn : 1 ≤ n) (t : TowI) : RUN n 88 [twa t] = .ret (twa t) := by
  obtain ⟨d, rfl⟩ : ∃ d, n = d + 1 := ⟨n - 1, by omega⟩
  rw [RUN, call_eq fe88 _ rfl]
  obtain ⟨p, b, c, e, f, a⟩ := t
  simp -implicitDefEqProofs [c88]
end Fw
