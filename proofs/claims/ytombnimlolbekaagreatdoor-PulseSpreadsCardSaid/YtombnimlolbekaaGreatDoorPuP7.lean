/- Spread, and tolerances: the pulse chapter and its reference. -/
import Derived.Test.YtombnimlolbekaaGreatDoorPuP6
set_option maxHeartbeats 8000000
namespace Fw
open Go
attribute [local irreducible] evCode evOps evOpsD evOper evOperD evOp evFn loopN T.All T.bind callPure callOp opsK opsDK restK seqK blockK loopS setK setQ giveK scalK gcK finish finS rfunK yldK yldB loopK

theorem spread56 {n : Nat} (hn : 10 ≤ n) (ls : List (List Int)) (hl : ls.length < 1000000) (hi : ∀ l ∈ ls, l.length < 1000000) : RUN n 56 [llsl ls] = .ret (if runsE ls = 0 then .tup [.p (.sl (cI (spreadL ls (m0 ls))) (m0 ls)), iv 0] else .tup [.p (.sl [] 0), iv (runsE ls)]) := by
  obtain ⟨d, rfl⟩ : ∃ d, n = d + 10 := ⟨n - 10, by omega⟩
  rw [RUN, call_eq fe56 _ rfl]
  have h120 := runs120 (n := d + 9) (by omega) ls hl hi
  by_cases hz : runsE ls = 0
  · have h := runs_of hz
    have h1 := spread121 (n := d + 9) (by omega) ls (m0 ls) h.pos hl h.len (by have := h.small; simp only [m0]; omega)
    rw [if_pos hz]
    simp -implicitDefEqProofs [c56, h120, hz, h1]
  · rw [if_neg hz]
    simp -implicitDefEqProofs [c56, h120, hz]

theorem tol62 {n : Nat} (hn : 3 ≤ n) (k : Int) : RUN n 62 [iv k] = .ret (iv (rangeE 0 100000 k)) := by
  obtain ⟨d, rfl⟩ : ∃ d, n = d + 3 := ⟨n - 3, by omega⟩
  rw [RUN, call_eq fe62 _ rfl]
  simp -implicitDefEqProofs [c62, range101 (n := d + 2)]

theorem wide123 {n : Nat} (hn : 1 ≤ n) (t : Int) (x : Int × Int) (h1 : -9223372036854775808 ≤ x.2 - x.1) (h2 : x.2 - x.1 ≤ 9223372036854775807) : RUN n 123 [.agg [iv x.1, iv x.2], .p (.pp [.int .i64 t])] = .ret (.p (.bool (decide (t < x.2 - x.1)))) := by
  obtain ⟨d, rfl⟩ : ∃ d, n = d + 1 := ⟨n - 1, by omega⟩
  rw [RUN, call_eq fe123 _ rfl]
  have w := wrap64 h1 h2
  simp -implicitDefEqProofs [c123, w]
end Fw
