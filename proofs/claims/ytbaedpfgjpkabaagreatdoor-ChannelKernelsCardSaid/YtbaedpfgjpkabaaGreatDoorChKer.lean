/- The law of kernels, at any input. -/
import Derived.Test.YtbaedpfgjpkabaaGreatDoorChKr2
set_option maxHeartbeats 16000000
namespace Fw
open Go
attribute [local irreducible] evCode evOps evOpsD evOper evOperD evOp evFn loopN T.All T.bind callPure callOp opsK opsDK restK seqK blockK loopS setK setQ giveK scalK gcK finish finS rfunK yldK yldB loopK

/-! what is looked up among the weights -/
theorem wJ_nodup (k : List Int) (i a : Int) {M : List (Int × Int)} (h : (keysE M).Nodup) : ∀ j, (keysE (wJ k i a M j)).Nodup := by
  intro j
  induction j with
  | zero => exact h
  | succ j ih => exact nodup_addE ih _ _
theorem wI_nodup (k : List Int) : ∀ i, (keysE (wI k i)).Nodup := by
  intro i
  induction i with
  | zero => simp [wI, keysE]
  | succ i ih => exact wJ_nodup k i _ ih _
theorem look_dot {es : List (Int × Int)} (h : (keysE es).Nodup) (k : Int) : (lookE es k).getD 0 = dot (ind k) es := by
  induction es with
  | nil => rfl
  | cons e r ih =>
    simp only [keysE, List.map_cons, List.nodup_cons] at h
    by_cases c : k = e.1
    · have hd : dot (ind k) r = 0 := dot_none (by rw [c]; exact h.1)
      have hi : ind k e.1 = 1 := by simp [ind, c]
      have hl : lookE (e :: r) k = some e.2 := by simp [lookE, c]
      rw [hl, dot, hd, hi, Option.getD_some]; omega
    · have hi : ind k e.1 = 0 := by
        have : ¬ e.1 = k := fun x => c x.symm
        simp [ind, this]
      have hl : lookE (e :: r) k = lookE r k := by simp [lookE, c]
      rw [hl, ih h.2, dot, hi]; omega
theorem refW_get {k : List Int} (i : Nat) (hi : i < 2 * k.length - 1) : (refW k).getD i 0 = (lookE (weightsL k) ((i : Int) - k.length + 1)).getD 0 := by
  have hd : (keysE (weightsL k)).Nodup := wI_nodup k k.length
  rw [look_dot hd, ← ref_weights, dotL]
  have hl : (refW k).length = 2 * k.length - 1 := rI_length k k.length
  rw [hl, sumN_one (f := fun m => ind ((i : Int) - k.length + 1) ((m : Int) - k.length + 1) * (refW k).getD m 0) (g := fun _ => 0) _ i hi (fun m hm hne => by
    have : ind ((i : Int) - k.length + 1) ((m : Int) - k.length + 1) = 0 := by simp [ind]; omega
    simp only [this]; omega) rfl, sumN_zero _ fun _ _ => rfl]
  have : ind ((i : Int) - k.length + 1) ((i : Int) - k.length + 1) = 1 := by simp [ind]
  rw [this]; omega
theorem pI_put (W : List Int) (n i : Nat) (hW : W.length = n) (hi : i < n) : (pI (W.take i ++ List.replicate (n - i) 0)).set i (.int .i64 (W.getD i 0)) = pI (W.take (i + 1) ++ List.replicate (n - (i + 1)) 0) := by
  rw [pI_set]; congr 1
  apply List.ext_getElem?
  intro j
  have hm : min i W.length = i := by omega
  simp only [List.getElem?_set, List.length_append, List.length_take, List.length_replicate, List.getElem?_append, List.getElem?_take, List.getElem?_replicate, List.getD_eq_getElem?_getD]
  by_cases e : i = j
  · subst e
    have h1 : i < min i W.length + (n - i) := by omega
    have h2 : i < min (i + 1) W.length := by omega
    simp [h1, h2]
    have : W[i]? = some W[i] := List.getElem?_eq_getElem (by omega)
    simp [this]
  · simp only [e, if_false]
    by_cases c : j < i
    · have h1 : j < min i W.length := by omega
      have h2 : j < min (i + 1) W.length := by omega
      have h3 : j < i + 1 := by omega
      simp [h1, h2, c, h3]
    · have h1 : ¬ j < min i W.length := by omega
      have h2 : ¬ j < min (i + 1) W.length := by omega
      have e2 : (j - min i W.length < n - i) = (j - min (i + 1) W.length < n - (i + 1)) := by
        apply propext; omega
      simp [h1, h2, e2]

theorem weights41 {n : Nat} (hn : 6 ≤ n) (k : List Int) (hkl : k.length < 1000000) :
    RUN n 41 [isl k] = .ret (if kerE k = 0 then .tup [.own (pI (refW k)) (2 * k.length - 1) 1, iv (sumI k * sumI k), iv 0] else .tup [.p (.sl [] 0), iv 0, iv (kerE k)]) := by
  obtain ⟨d, rfl⟩ : ∃ d, n = d + 6 := ⟨n - 6, by omega⟩
  rw [RUN, call_eq fe41 _ rfl]
  have k2 := ker47 (n := d + 5) (by omega) k hkl
  by_cases z : kerE k = 0
  · have hk := ker_iff.1 z
    have k4 := sum124k (n := d + 5) (by omega) hk
    have k6 := weights125k (n := d + 5) (by omega) hk
    obtain ⟨d1, d2, d3, d4⟩ := ker_D hk
    have wD := wrap64 (n := sumI k * sumI k) (by omega) (by omega)
    have hk7 := hk.2.1
    have hk0 := hk.1
    rw [if_pos z]
    have w1 := wrap64 (n := 2 * (k.length : Int)) (by omega) (by omega)
    have w2 := wrap64 (n := 2 * (k.length : Int) - 1) (by omega) (by omega)
    have a1 : (1 : Int) ≤ 2 * (k.length : Int) := by omega
    have a2 : 2 * (k.length : Int) - 1 ≤ lim := by simp only [lim]; omega
    have a3 : (2 * (k.length : Int) - 1).toNat = 2 * k.length - 1 := by omega
    have hWl : (refW k).length = 2 * k.length - 1 := rI_length k k.length
    let inv : Nat → St := fun i => ⟨[(0, isl k), (6, .p (.map (kA (weightsL k)) (kB (weightsL k)))), (7, .sl 0 0 0 (2 * k.length - 1)), (22, iv (2 * k.length - 1 : Nat)), (23, iv i)], [(0, .arr (pI ((refW k).take i ++ List.replicate (2 * k.length - 1 - i) 0)) 0 1)]⟩
    have htake : (refW k).take (2 * k.length - 1) = refW k := List.take_of_length_le (by omega)
    simp -implicitDefEqProofs [c41, k2, z, k6, w1, w2, a1, a2, a3]
    rw [loop_run inv (2 * k.length - 1) (e := .exit 0) (st' := ⟨(inv (2 * k.length - 1)).env ++ [(24, .p (.bool false))], (inv (2 * k.length - 1)).sto⟩) (by simp)]
    · simp -implicitDefEqProofs [inv, k4, wD, htake, hWl]
    · have : pI (List.replicate (2 * k.length - 1) 0) = List.replicate (2 * k.length - 1) (.int .i64 0) := by simp [pI]
      simp only [inv, List.take_zero, List.nil_append, Nat.sub_zero, this]; rfl
    · intro i hi
      have wi := wrap_succ (i := i) (by omega)
      have v1 := wrap64 (n := (i : Int) - k.length) (by omega) (by omega)
      have v2 := wrap64 (n := (i : Int) - k.length + 1) (by omega) (by omega)
      have hlk := look_kA (weightsL k) ((i : Int) - k.length + 1)
      have hg := refW_get (k := k) i hi
      have hset := pI_put (refW k) (2 * k.length - 1) i hWl hi
      have hlen : ((refW k).take i ++ List.replicate (2 * k.length - 1 - i) 0).length = 2 * k.length - 1 := by simp; omega
      have hi1 : i + 1 ≤ 2 * k.length - 1 := by omega
      simp only [inv]
      rw [← hset, hg]
      generalize (refW k).take i ++ List.replicate (2 * k.length - 1 - i) 0 = A at *
      cases hv : lookE (weightsL k) ((i : Int) - k.length + 1) with
      | none =>
        rw [hv] at hlk
        simp at hlk
        simp -implicitDefEqProofs [loopS_eq, c41L0, hi, hi1, wi, v1, v2, hlk, hlen]
      | some x =>
        rw [hv] at hlk
        simp at hlk
        simp -implicitDefEqProofs [loopS_eq, c41L0, hi, hi1, wi, v1, v2, hlk, hlen]
    · simp -implicitDefEqProofs [inv, loopS_eq, c41L0]
    · simp [loopFuel]; omega
  · rw [if_neg z]
    generalize kerE k = E at *
    simp -implicitDefEqProofs [c41, k2, z]

theorem ker_at (ka : RUN 60 15 [] = .ret (.p (.bool true))) (l : List Nat) (k : List Int) : RUN 61 5 [fsl l, isl k] = .ret (.p (.bool true)) := by
  rw [RUN, call_eq (d := 60) fe5 _ rfl]
  have s1 := short22 (n := 60) (by omega) l
  have s2 := short37 (n := 60) (by omega) k
  by_cases c1 : (decide (l.length ≤ 40) || decide (l.length = 4097)) = true
  · by_cases c2 : k.length ≤ 8
    · have hl : l.length < 1000000 := by simp at c1; omega
      have i1 := floats24 (n := 60) (by omega) l hl
      have i2 := ints39 (n := 60) (by omega) k (by omega)
      have p38 := passed38 (n := 60) (by omega) l hl k (by omega)
      have p40 := filtered40 (n := 60) (by omega) l hl k (by omega)
      have p41 := weights41 (n := 60) (by omega) k (by omega)
      have p42 := ker42 (n := 60) (by omega) k (by omega)
      have p47 := ker47 (n := 60) (by omega) k (by omega)
      have p43 := samples43 (n := 60) (by omega) l hl
      have p29 := first29_2 (n := 60) (by omega) (smpsE l) (kerE k)
      have he : firstE [smpsE l, kerE k] = krE l k := rfl
      rw [he] at p29
      have n48 : RUN 60 48 [.p (.sl [] 0), .p (.sl [] 0)] = .ret (.p (.bool true)) := same48 (n := 60) (l := []) (by omega) (by intro b hb; cases hb) (by simp)
      have n49 : RUN 60 49 [.p (.sl [] 0), .p (.sl [] 0)] = .ret (.p (.bool true)) := (same49 (n := 60) (by omega) [] [] (by simp)).trans (by rw [decide_eq_true rfl])
      -- the weights
      by_cases zk : kerE k = 0
      · have hk := ker_iff.1 zk
        have p46 := weights46 (n := 60) (by omega) hk
        have hWl : (refW k).length = 2 * k.length - 1 := rI_length k k.length
        have q49 := same49 (n := 60) (by omega) (refW k) (refW k) (by have := hk.2.1; omega)
        rw [decide_eq_true rfl] at q49
        simp only [isl, hWl] at q49
        rw [if_pos zk] at p41
        rw [zk] at p42 p47 p29
        by_cases z : krE l k = 0
        · obtain ⟨⟨a, b⟩, _⟩ := kr_iff.1 z
          have p44 := passed44 (n := 60) (by omega) b a hk
          have p45 := filtered45 (n := 60) (by omega) b a hk
          rw [if_pos z] at p38 p40
          rw [z] at p29
          have hlo1 : (filtO (l.map smpN) (pE k k.length) (sumI k)).length = l.length := by simp
          have hlo2 : (filtO (l.map smpN) (weightsL k) (sumI k * sumI k)).length = l.length := by simp
          generalize filtO (l.map smpN) (pE k k.length) (sumI k) = o1 at *
          generalize filtO (l.map smpN) (weightsL k) (sumI k * sumI k) = o2 at *
          generalize refW k = W at *
          generalize sumI k * sumI k = D at *
          by_cases e1 : inB o1 = true
          · have m1 := same48 (n := 60) (by omega) (made_ok (in_iff.1 e1)).1 (by simp; omega)
            simp only [fsl, List.length_map] at m1
            by_cases e2 : inB o2 = true
            · have m2 := same48 (n := 60) (by omega) (made_ok (in_iff.1 e2)).1 (by simp; omega)
              simp only [fsl, List.length_map] at m2
              simp only [filtR, e1, e2, if_true] at p38 p40 p44 p45
              simp -implicitDefEqProofs [c5, ka, s1, s2, c1, c2, i1, i2, p38, p40, p41, p42, p47, p43, p29, p44, p45, p46, q49, m1, m2]
            · simp only [filtR, e1, if_true] at p38 p44
              simp only [filtR, e2] at p40 p45
              simp -implicitDefEqProofs [c5, ka, s1, s2, c1, c2, i1, i2, p38, p40, p41, p42, p47, p43, p29, p44, p45, p46, q49, m1, n48]
          · by_cases e2 : inB o2 = true
            · have m2 := same48 (n := 60) (by omega) (made_ok (in_iff.1 e2)).1 (by simp; omega)
              simp only [fsl, List.length_map] at m2
              simp only [filtR, e2, if_true] at p40 p45
              simp only [filtR, e1] at p38 p44
              simp -implicitDefEqProofs [c5, ka, s1, s2, c1, c2, i1, i2, p38, p40, p41, p42, p47, p43, p29, p44, p45, p46, q49, m2, n48]
            · simp only [filtR, e2] at p40 p45
              simp only [filtR, e1] at p38 p44
              simp -implicitDefEqProofs [c5, ka, s1, s2, c1, c2, i1, i2, p38, p40, p41, p42, p47, p43, p29, p44, p45, p46, q49, n48]
        · rw [if_neg z] at p38 p40
          generalize krE l k = E at *
          generalize refW k = W at *
          generalize sumI k * sumI k = D at *
          simp -implicitDefEqProofs [c5, ka, s1, s2, c1, c2, i1, i2, p38, p40, p41, p42, p47, p43, p29, z, p46, q49, n48]
      · have z : ¬ krE l k = 0 := fun h => zk (ker_iff.2 (kr_iff.1 h).2)
        rw [if_neg z] at p38 p40
        rw [if_neg zk] at p41
        generalize krE l k = E at *
        generalize kerE k = E2 at *
        simp -implicitDefEqProofs [c5, ka, s1, s2, c1, c2, i1, i2, p38, p40, p41, p42, p47, p43, p29, z, zk, n48, n49]
    · simp -implicitDefEqProofs [c5, ka, s1, s2, c1, c2]
  · simp -implicitDefEqProofs [c5, ka, s1, c1]
end Fw
