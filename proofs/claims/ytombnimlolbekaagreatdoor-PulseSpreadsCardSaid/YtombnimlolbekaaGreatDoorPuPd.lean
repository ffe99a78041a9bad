/- Parts of slopes, of each acceleration. -/
import Derived.Test.YtombnimlolbekaaGreatDoorPuPc
set_option maxHeartbeats 8000000
namespace Fw
open Go
attribute [local irreducible] evCode evOps evOpsD evOper evOperD evOp evFn loopN T.All T.bind callPure callOp opsK opsDK restK seqK blockK loopS setK setQ giveK scalK gcK finish finS rfunK yldK yldB loopK

abbrev spc (s : SlopeI) : List PVal := [.int .i64 s.along, .int .i64 s.across, .int .i64 s.whole]

theorem along125 {n : Nat} (hn : 3 ≤ n) (s : SlopeI) (a : Int) (hw : 0 < s.whole) (ha : -100000 ≤ a ∧ a ≤ 100000) (hp : -100000000 ≤ a * s.along ∧ a * s.along ≤ 100000000) : RUN n 125 [iv a, .p (.pp (spc s))] = .ret (.agg [iv (partF s.whole a s.along).1, iv (partF s.whole a s.along).2]) := by
  obtain ⟨d, rfl⟩ : ∃ d, n = d + 3 := ⟨n - 3, by omega⟩
  rw [RUN, call_eq fe125 _ rfl]
  have h1 := part126 (n := d + 2) (by omega) s a s.along hw ha hp
  simp -implicitDefEqProofs [c125, h1]
theorem across127 {n : Nat} (hn : 3 ≤ n) (s : SlopeI) (a : Int) (hw : 0 < s.whole) (ha : -100000 ≤ a ∧ a ≤ 100000) (hp : -100000000 ≤ a * s.across ∧ a * s.across ≤ 100000000) : RUN n 127 [iv a, .p (.pp (spc s))] = .ret (.agg [iv (partF s.whole a s.across).1, iv (partF s.whole a s.across).2]) := by
  obtain ⟨d, rfl⟩ : ∃ d, n = d + 3 := ⟨n - 3, by omega⟩
  rw [RUN, call_eq fe127 _ rfl]
  have h1 := part126 (n := d + 2) (by omega) s a s.across hw ha hp
  simp -implicitDefEqProofs [c127, h1]
end Fw
