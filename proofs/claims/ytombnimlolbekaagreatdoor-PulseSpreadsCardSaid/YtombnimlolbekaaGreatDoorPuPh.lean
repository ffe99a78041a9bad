/- Split, by the reference: the loop. -/
import Derived.Test.YtombnimlolbekaaGreatDoorPuPg
set_option maxHeartbeats 8000000
namespace Fw
open Go
attribute [local irreducible] evCode evOps evOpsD evOper evOperD evOp evFn loopN T.All T.bind callPure callOp opsK opsDK restK seqK blockK loopS setK setQ giveK scalK gcK finish finS rfunK yldK yldB loopK

theorem split67 {n : Nat} (hn : 3 ≤ n) {s : SlopeI} (hs : SlopeOk s) {p : List Int} (hp : p.length ≤ 64) (ha : ∀ a ∈ p, -100000 ≤ a ∧ a ≤ 100000) : RUN n 67 [spa s, isl p] = .ret (.tup [.own (cI (p.map fun a => partF s.whole a s.along)) p.length 2, .own (cI (p.map fun a => partF s.whole a s.across)) p.length 2]) := by
  obtain ⟨d, rfl⟩ : ∃ d, n = d + 3 := ⟨n - 3, by omega⟩
  rw [RUN, call_eq fe67 _ rfl]
  let A := p.map fun a => partF s.whole a s.along
  let B := p.map fun a => partF s.whole a s.across
  let so : Obj := .arr (spc s) 0 1
  let inv : Nat → St := fun i => ⟨[(1, isl p), (2, .ptr 0 0 0), (6, .sl 1 i 0 i), (7, .sl 2 i 0 i), (8, iv i)], [(2, .arr (cI (B.take i)) i 2), (1, .arr (cI (A.take i)) i 2), (0, so)]⟩
  have hA : A.take p.length = A := List.take_of_length_le (by simp [A])
  have hB : B.take p.length = B := List.take_of_length_le (by simp [B])
  have hAl : A.length = p.length := by simp [A]
  have hBl : B.length = p.length := by simp [B]
  simp -implicitDefEqProofs [c67]
  rw [loop_run inv p.length (e := .exit 0) (st' := ⟨(inv p.length).env ++ [(12, .p (.bool false))], (inv p.length).sto⟩) (by simp)]
  · simp -implicitDefEqProofs [inv, so, hA, hB, hAl, hBl]
    exact ⟨rfl, rfl⟩
  · rfl
  · intro i hi
    have hb : (i : Int) < p.length := by omega
    have hlim : i + 1 ≤ lim := by simp only [lim]; omega
    have hw := hs.whole
    have q := ha p[i] (List.getElem_mem hi)
    have r1 := prod_in q hs.along
    have r2 := prod_in q hs.across
    have w1 := wrap64 (n := p[i] * s.along) (by omega) (by omega)
    have w2 := wrap64 (n := p[i] * s.across) (by omega) (by omega)
    have f1 := floor104 (n := d + 2) (by omega) (p[i] * s.along) s.whole (by omega) (by omega) (by omega)
    have f2 := floor104 (n := d + 2) (by omega) (p[i] * s.across) s.whole (by omega) (by omega) (by omega)
    have g1 := ceil129 (n := d + 2) (by omega) (p[i] * s.along) s.whole (by omega) (by omega) (by omega)
    have g2 := ceil129 (n := d + 2) (by omega) (p[i] * s.across) s.whole (by omega) (by omega) (by omega)
    have tA : cI (A.take (i + 1)) = cI (A.take i) ++ [.int .i64 (p[i] * s.along / s.whole), .int .i64 (-(-(p[i] * s.along) / s.whole))] := by
      rw [take_succ_map _ p i hi, cI_append, ← Int.neg_mul]; rfl
    have tB : cI (B.take (i + 1)) = cI (B.take i) ++ [.int .i64 (p[i] * s.across / s.whole), .int .i64 (-(-(p[i] * s.across) / s.whole))] := by
      rw [take_succ_map _ p i hi, cI_append, ← Int.neg_mul]; rfl
    have lA : (A.take i).length = i := by simp [hAl]; omega
    have lB : (B.take i).length = i := by simp [hBl]; omega
    simp -implicitDefEqProofs [inv, so, loopS_eq, c67L0, hi, hb, hlim, w1, w2, f1, f2, g1, g2, tA, tB, lA, lB, wrap_succ (i := i) (by omega), -List.map_take]
  · simp -implicitDefEqProofs [inv, loopS_eq, c67L0]
  · simp [loopFuel]; omega
end Fw
