/- Runs that are alike, by the reference; short runs. -/
import Derived.Test.YtombnimlolbekaaGreatDoorPuP8
set_option maxHeartbeats 8000000
namespace Fw
open Go
attribute [local irreducible] evCode evOps evOpsD evOper evOperD evOp evFn loopN T.All T.bind callPure callOp opsK opsDK restK seqK blockK loopS setK setQ giveK scalK gcK finish finS rfunK yldK yldB loopK

theorem alike66 {n : Nat} (hn : 3 ≤ n) {ls : List (List Int)} {m : Nat} (h : RunsOk ls m) (t : Int) : RUN n 66 [llsl ls, iv t] = .ret (.p (.bool (alikeB ls m t))) := by
  obtain ⟨d, rfl⟩ : ∃ d, n = d + 3 := ⟨n - 3, by omega⟩
  rw [RUN, call_eq fe66 _ rfl]
  have hsm := h.small
  have hfew := h.few
  have h1 := spread64 (n := d + 2) (by omega) ls m h.pos (by omega) h.len (by omega)
  have hsp := h.spread
  have hsb : alikeB ls m t = !(spreadL ls m).any fun x => decide (t < x.2 - x.1) := rfl
  have hcl := spreadL_length ls m
  rw [hsb]
  generalize spreadL ls m = c at *
  let inv : Nat → St := fun i => ⟨[(1, iv t), (5, .p (.sl (cI c) m)), (6, iv i)], []⟩
  let e : Nat → Int := fun i => if t < (c.getD i (0, 0)).2 - (c.getD i (0, 0)).1 then 1 else 0
  generalize hB : (c.any fun x => decide (t < x.2 - x.1)) = B
  simp -implicitDefEqProofs [c66, h1]
  have key := loop_first (step := loopS (evFn F C0 G0 (d + 2)) C0 G0 0 false [1, 5, 6] c66L0) inv e m (.exit 0, ⟨(inv m).env ++ [(12, .p (.bool false))], []⟩) (fun i => (.ret, ⟨[(4, .p (.bool false))], []⟩))
    (st0 := ⟨[(1, iv t), (5, .p (.sl (cI c) m)), (6, iv 0)], []⟩) rfl ?_ (fun i => by simp) (by simp [inv, loopS_eq, c66L0]) (by simp) (fuel := loopFuel) (by simp [loopFuel]; omega)
  · rcases key with ⟨k1, k2⟩ | ⟨j, hj, k1, k2, k3, k4⟩
    · have : (c.any fun x => decide (t < x.2 - x.1)) = false := by
        rw [List.any_eq_false]
        intro x hx
        obtain ⟨i, hi, rfl⟩ := List.getElem_of_mem hx
        have h1 := firstE_zero.1 k2 (e i) (List.mem_map.2 ⟨i, by simp; omega, rfl⟩)
        have h2 : c.getD i (0, 0) = c[i] := by simp [List.getD_eq_getElem?_getD, List.getElem?_eq_getElem hi]
        simp only [e, h2] at h1
        split at h1
        · omega
        · rename_i hc; simpa using hc
      rw [hB] at this
      subst this
      rw [k1]
      simp -implicitDefEqProofs [inv]
    · have hj' : j < c.length := by omega
      have h2 : c.getD j (0, 0) = c[j] := by simp [List.getD_eq_getElem?_getD, List.getElem?_eq_getElem hj']
      have : (c.any fun x => decide (t < x.2 - x.1)) = true := by
        rw [List.any_eq_true]
        refine ⟨c[j], List.getElem_mem hj', ?_⟩
        simp only [e, h2] at k3
        split at k3
        · rename_i hc; simpa using hc
        · exact absurd rfl k3
      rw [hB] at this
      subst this
      rw [k1]
      simp -implicitDefEqProofs
  · intro i hi'
    have hi : i < c.length := by omega
    have hx := cI_drop c i hi
    have hlt : i * 2 < c.length * 2 := by omega
    have hlt' : (i : Int) < m := by omega
    have hgi : c.getD i (0, 0) = c[i] := by simp [List.getD_eq_getElem?_getD, List.getElem?_eq_getElem hi]
    have hik : i * 2 < m * 2 := by omega
    have hb := hsp c[i] (List.getElem_mem hi)
    have w := wrap64 (n := c[i].2 - c[i].1) (by omega) (by omega)
    refine ⟨fun hz => ⟨inv (i + 1), ?_, rfl⟩, fun hz => ?_⟩
    · have hg : ¬ t < c[i].2 - c[i].1 := by
        intro hc
        simp only [e, hgi, hc, if_true] at hz
        omega
      simp -implicitDefEqProofs [inv, loopS_eq, c66L0, hx, hlt', hik, hcl, hg, w, wrap_succ (i := i) (by omega)]
    · have hg : t < c[i].2 - c[i].1 := by
        refine Classical.byContradiction (fun hc => hz ?_)
        simp only [e, hgi, hc, if_false]
      simp -implicitDefEqProofs [inv, loopS_eq, c66L0, hx, hlt', hik, hcl, hg, w]
end Fw
