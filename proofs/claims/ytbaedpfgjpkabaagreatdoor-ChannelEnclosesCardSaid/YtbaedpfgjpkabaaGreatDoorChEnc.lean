/- The law of enclosed intervals, at any input. -/
import Derived.Test.YtbaedpfgjpkabaaGreatDoorChN3
set_option maxHeartbeats 16000000
namespace Fw
open Go
attribute [local irreducible] evCode evOps evOpsD evOper evOperD evOp evFn loopN T.All T.bind callPure callOp opsK opsDK restK seqK blockK loopS setK setQ giveK scalK gcK finish finS rfunK yldK yldB loopK

theorem intsO_pI (k : List Int) : intsO (pI k) = some k := by
  induction k with
  | nil => rfl
  | cons x r ih => simp only [pI, List.map_cons] at ih ⊢; simp only [intsO, ih]
theorem pairsO_cI (l : List (Int × Int)) : pairsO (cI l) = some l := by
  induction l with
  | nil => rfl
  | cons x r ih => simp only [cI, pairsO, ih]

def encE3 (l : List (Int × Int)) (k : List Int) : Int := firstE [manyE l.length, firstE (l.map ivX), kerE k]
theorem encE3_eq (l : List (Int × Int)) (k : List Int) : encE3 l k = firstE [ivsE l, kerE k] := by
  simp only [encE3, ivsE, firstE]
  by_cases a : manyE l.length = 0 <;> by_cases b : firstE (l.map ivX) = 0 <;> simp [a, b]

theorem ker_iff {k : List Int} : kerE k = 0 ↔ KerOk k := by
  refine ⟨ker_of, fun h => ?_⟩
  have h1 : kerE1 k = 0 := by
    have a := h.1
    have b := h.2.1
    have c : ((k.length : Int) == 0) = false := by rw [beq_eq_false_iff_ne]; omega
    have e : decide ((7 : Int) < k.length) = false := by simp; omega
    simp [kerE1, c, e, whenE, firstE]
  have h2 : kerE2 k = 0 := by
    have hr := rangeE_all.2 h.2.2.1
    have hs := h.2.2.2
    have e : decide (sumI k ≤ 0) = false := by simp; omega
    simp [kerE2, hr, ker_sum h, e, whenE, firstE]
  rw [kerE, if_pos h1, h2]
theorem ivX_zero {x : Int × Int} : ivX x = 0 ↔ -200000 ≤ x.1 ∧ x.1 ≤ x.2 ∧ x.2 ≤ 200000 := by
  simp only [ivX, ivE, firstE_zero, List.mem_cons, List.not_mem_nil, or_false, forall_eq_or_imp, forall_eq, rangeE, whenE]
  constructor
  · rintro ⟨a, b, c⟩
    split at a
    · cases a
    · split at b
      · cases b
      · split at c
        · cases c
        · rename_i q; simp at q; omega
  · rintro ⟨a, b, c⟩
    have h1 : ¬ (x.1 < -200000 ∨ 200000 < x.1) := by omega
    have h2 : ¬ (x.2 < -200000 ∨ 200000 < x.2) := by omega
    have h3 : ¬ x.2 < x.1 := by omega
    simp [h1, h2, h3]
theorem ivs_iff {l : List (Int × Int)} : ivsE l = 0 ↔ (0 < l.length ∧ l.length ≤ 4096 ∧ IvOk l) := by
  refine ⟨ivs_of, fun ⟨a, b, c⟩ => ?_⟩
  have h1 : ((l.length : Int) == 0) = false := by rw [beq_eq_false_iff_ne]; omega
  have h2 : decide ((4096 : Int) < l.length) = false := by simp; omega
  have h3 : firstE (l.map ivX) = 0 := firstE_zero.2 fun e he => by
    obtain ⟨x, hx, rfl⟩ := List.mem_map.1 he
    exact ivX_zero.2 (c x hx)
  simp [ivsE, manyE, h1, h2, h3, whenE, firstE]
theorem enc_iff {l : List (Int × Int)} {k : List Int} : encE3 l k = 0 ↔ (0 < l.length ∧ l.length ≤ 4096 ∧ IvOk l) ∧ KerOk k := by
  rw [encE3_eq, firstE_zero, ← ivs_iff, ← ker_iff]
  simp

theorem enclosed51 {n : Nat} (hn : 6 ≤ n) (l : List (Int × Int)) (hl : l.length < 1000000) (k : List Int) (hk : k.length < 1000000) :
    RUN n 51 [csl l, isl k] = .ret (if encE3 l k = 0 then (if (encAll l k).any encB = true then .tup [.p (.sl [] 0), iv 4] else .tup [.own (cI (encAll l k)) l.length 2, iv 0]) else .tup [.p (.sl [] 0), iv (encE3 l k)]) := by
  by_cases z : encE3 l k = 0
  · obtain ⟨⟨a, b, c⟩, e⟩ := enc_iff.1 z
    have hlen : (encAll l k).length = l.length := by simp [encAll]
    have hc : C0 51 [csl l, isl k] = some (.ret (if (encAll l k).any encB = true then .tup [.p (.sl [] 0), iv 4] else .tup [.own (cI (encAll l k)) l.length 2, iv 0])) := by
      simp only [C0, tabC]
      simp only [Nat.reduceEqDiff, if_false, if_true, encC, pairsO_cI, intsO_pI, a, b, c, e, and_true]
      split <;> rfl
    rw [if_pos z]
    simp only [RUN, callPure, hc]
  · obtain ⟨d, rfl⟩ : ∃ d, n = d + 6 := ⟨n - 6, by omega⟩
    have hc : C0 51 [csl l, isl k] = none := by
      have : ¬ (0 < l.length ∧ l.length ≤ 4096 ∧ IvOk l ∧ KerOk k) := fun h => z (enc_iff.2 ⟨⟨h.1, h.2.1, h.2.2.1⟩, h.2.2.2⟩)
      simp only [C0, tabC]
      simp only [Nat.reduceEqDiff, if_false, if_true, encC, pairsO_cI, intsO_pI, true_and, this]
    rw [RUN, call_eq fe51 _ hc, if_neg z]
    have k1 := many134 (n := d + 5) (by omega) l.length
    have k2 := map135 (n := d + 5) (by omega) l hl
    have k3 := first103 (n := d + 5) (by omega) (l.map ivX) (by simpa using hl)
    have k4 := ker47 (n := d + 5) (by omega) k hk
    have k5 := first103_3 (n := d + 5) (by omega) (manyE l.length) (firstE (l.map ivX)) (kerE k)
    have he : firstE [manyE l.length, firstE (l.map ivX), kerE k] = encE3 l k := rfl
    rw [he] at k5
    simp only [List.length_map] at k3
    generalize encE3 l k = E at *
    simp -implicitDefEqProofs [c51, k1, k2, k3, k4, k5, z]

theorem enc_at (ka : RUN 60 15 [] = .ret (.p (.bool true))) (l : List (Int × Int)) (k : List Int) : RUN 61 6 [csl l, isl k] = .ret (.p (.bool true)) := by
  rw [RUN, call_eq (d := 60) fe6 _ rfl]
  have s1 := short50 (n := 60) (by omega) l
  have s2 := short37 (n := 60) (by omega) k
  by_cases c1 : (decide (l.length ≤ 40) || decide (l.length = 4097)) = true
  · by_cases c2 : k.length ≤ 8
    · have hl : l.length < 1000000 := by simp at c1; omega
      have i1 := intervals52 (n := 60) (by omega) l hl
      have i2 := ints39 (n := 60) (by omega) k (by omega)
      have k51 := enclosed51 (n := 60) (by omega) l hl k (by omega)
      have k53 := check53 (n := 60) (by omega) l hl
      have k42 := ker42 (n := 60) (by omega) k (by omega)
      have k29 := first29_2 (n := 60) (by omega) (ivsE l) (kerE k)
      rw [← encE3_eq] at k29
      have k55n : RUN 60 55 [.p (.sl [] 0), .p (.sl [] 0)] = .ret (.p (.bool true)) := (same55 (n := 60) (by omega) [] [] (by simp)).trans (by rw [decide_eq_true rfl])
      by_cases z : encE3 l k = 0
      · obtain ⟨⟨a, b, c⟩, e⟩ := enc_iff.1 z
        have k54 := enclosed54 (n := 60) (by omega) a b c e
        have hlen : (encAll l k).length = l.length := by simp [encAll]
        have k55 := same55 (n := 60) (by omega) (encAll l k) (encAll l k) (by omega)
        rw [if_pos z] at k51
        rw [z] at k29
        rw [decide_eq_true rfl] at k55
        simp only [csl, hlen] at k55
        generalize encAll l k = outs at *
        by_cases y : outs.any encB = true
        · rw [if_pos y] at k51 k54
          simp -implicitDefEqProofs [c6, ka, s1, s2, c1, c2, i1, i2, k51, k53, k42, k29, k54, k55n]
        · rw [if_neg y] at k51 k54
          simp -implicitDefEqProofs [c6, ka, s1, s2, c1, c2, i1, i2, k51, k53, k42, k29, k54, k55]
      · rw [if_neg z] at k51
        generalize encE3 l k = E at *
        simp -implicitDefEqProofs [c6, ka, s1, s2, c1, c2, i1, i2, k51, k53, k42, k29, z, k55n]
    · simp -implicitDefEqProofs [c6, ka, s1, s2, c1, c2]
  · simp -implicitDefEqProofs [c6, ka, s1, c1]
end Fw
