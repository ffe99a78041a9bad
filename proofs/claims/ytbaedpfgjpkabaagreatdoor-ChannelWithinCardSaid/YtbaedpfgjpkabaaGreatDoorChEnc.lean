/- The law of enclosed intervals, at any input. -/
import Derived.Test.YtbaedpfgjpkabaaGreatDoorChN3
set_option maxHeartbeats 16000000
namespace Fw
open Go
attribute [local irreducible] evCode evOps evOpsD evOper evOperD evOp evFn loopN T.All T.bind callPure callOp opsK opsDK restK seqK blockK loopS setK setQ giveK scalK gcK finish finS rfunK yldK yldB loopK

theorem intsO_pI (k : List Int) : intsO (pI k) = some k := by
  induction k with
  | nil => rfl
  | cons x r ih => simp only [pI, List.map_cons] at ih ⊢; simp only [intsO, ih]
theorem pairsO_cI (l : List (Int × Int)) : pairsO (cI l) = some l := by
  induction l with
  | nil => rfl
  | cons x r ih => simp only [cI, pairsO, ih]

def encE3 (l : List (Int × Int)) (k : List Int) : Int := firstE [manyE l.length, firstE (l.map ivX), kerE k]
theorem encE3_eq (l : List (Int × Int)) (k : List Int) : encE3 l k = firstE [ivsE l, kerE k] := by
  simp only [encE3, ivsE, firstE]
  by_cases a : manyE l.length = 0 <;> by_cases b : firstE (l.map ivX) = 0 <;> simp [a, b]

theorem enc_iff {l : List (Int × Int)} {k : List Int} : encE3 l k = 0 ↔ (0 < l.length ∧ l.length ≤ 4096 ∧ IvOk l) ∧ KerOk k := by
  rw [encE3_eq, firstE_zero, ← ivs_iff, ← ker_iff]
  simp

theorem enclosed51 {n : Nat} (hn : 6 ≤ n) (l : List (Int × Int)) (hl : l.length < 1000000) (k : List Int) (hk : k.length < 1000000) :
    RUN n 51 [csl l, isl k] = .ret (if encE3 l k = 0 then (if (encAll l k).any encB = true then .tup [.p (.sl [] 0), iv 4] else .tup [.own (cI (encAll l k)) l.length 2, iv 0]) else .tup [.p (.sl [] 0), iv (encE3 l k)]) := by
  by_cases z : encE3 l k = 0
  · obtain ⟨⟨a, b, c⟩, e⟩ := enc_iff.1 z
    have hlen : (encAll l k).length = l.length := by simp [encAll]
    have hc : C0 51 [csl l, isl k] = some (.ret (if (encAll l k).any encB = true then .tup [.p (.sl [] 0), iv 4] else .tup [.own (cI (encAll l k)) l.length 2, iv 0])) := by
      simp only [C0, tabC]
      simp only [Nat.reduceEqDiff, if_false, if_true, encC, pairsO_cI, intsO_pI, a, b, c, e, and_true]
      split <;> rfl
    rw [if_pos z]
    simp only [RUN, callPure, hc]
  · obtain ⟨d, rfl⟩ : ∃ d, n = d + 6 := ⟨n - 6, by omega⟩
    have hc : C0 51 [csl l, isl k] = none := by
      have : ¬ (0 < l.length ∧ l.length ≤ 4096 ∧ IvOk l ∧ KerOk k) := fun h => z (enc_iff.2 ⟨⟨h.1, h.2.1, h.2.2.1⟩, h.2.2.2⟩)
      simp only [C0, tabC]
      simp only [Nat.reduceEqDiff, if_false, if_true, encC, pairsO_cI, intsO_pI, true_and, this]
    rw [RUN, call_eq fe51 _ hc, if_neg z]
    have k1 := many134 (n := d + 5) (by omega) l.length
    have k2 := map135 (n := d + 5) (by omega) l hl
    have k3 := first103 (n := d + 5) (by omega) (l.map ivX) (by simpa using hl)
    have k4 := ker47 (n := d + 5) (by omega) k hk
    have k5 := first103_3 (n := d + 5) (by omega) (manyE l.length) (firstE (l.map ivX)) (kerE k)
    have he : firstE [manyE l.length, firstE (l.map ivX), kerE k] = encE3 l k := rfl
    rw [he] at k5
    simp only [List.length_map] at k3
    generalize encE3 l k = E at *
    simp -implicitDefEqProofs [c51, k1, k2, k3, k4, k5, z]

end Fw
