/- Slopes, checked: the pulse chapter and its reference. -/
import Derived.Test.YtombnimlolbekaaGreatDoorPuP9
set_option maxHeartbeats 8000000
namespace Fw
open Go
attribute [local irreducible] evCode evOps evOpsD evOper evOperD evOp evFn loopN T.All T.bind callPure callOp opsK opsDK restK seqK blockK loopS setK setQ giveK scalK gcK finish finS rfunK yldK yldB loopK

structure SlopeI where
  along : Int
  across : Int
  whole : Int
abbrev spa (s : SlopeI) : AVal := .agg [iv s.along, iv s.across, iv s.whole]
/-- is the sum of the squares not the square? (as the machine reckons) -/
def formB (s : SlopeI) : Bool := IntKind.i64.wrap (IntKind.i64.wrap (s.along * s.along) + IntKind.i64.wrap (s.across * s.across)) != IntKind.i64.wrap (s.whole * s.whole)
def slopeE (s : SlopeI) : Int := firstE [rangeE 0 1000 s.along, rangeE 0 1000 s.across, rangeE 1 1000 s.whole, whenE (formB s) 1]

theorem slope68 {n : Nat} (hn : 3 ≤ n) (s : SlopeI) : RUN n 68 [spa s] = .ret (iv (slopeE s)) := by
  obtain ⟨d, rfl⟩ : ∃ d, n = d + 3 := ⟨n - 3, by omega⟩
  rw [RUN, call_eq fe68 _ rfl]
  simp -implicitDefEqProofs [c68, within95 (n := d + 2), when107 (n := d + 2), first92_4 (n := d + 2), slopeE, formB]
theorem slope63 {n : Nat} (hn : 3 ≤ n) (s : SlopeI) : RUN n 63 [spa s] = .ret (iv (slopeE s)) := by
  obtain ⟨d, rfl⟩ : ∃ d, n = d + 3 := ⟨n - 3, by omega⟩
  rw [RUN, call_eq fe63 _ rfl]
  simp -implicitDefEqProofs [c63, range101 (n := d + 2), when46 (n := d + 2), first100_4 (n := d + 2), slopeE, formB]
end Fw
