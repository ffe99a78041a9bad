/- The law of kernels, at any input. -/
import Derived.Test.YtbaedpfgjpkabaaGreatDoorChKr2
set_option maxHeartbeats 16000000
namespace Fw
open Go
attribute [local irreducible] evCode evOps evOpsD evOper evOperD evOp evFn loopN T.All T.bind callPure callOp opsK opsDK restK seqK blockK loopS setK setQ giveK scalK gcK finish finS rfunK yldK yldB loopK

/-! what is looked up among the weights -/
theorem wJ_nodup (k : List Int) (i a : Int) {M : List (Int × Int)} (h : (keysE M).Nodup) : ∀ j, (keysE (wJ k i a M j)).Nodup := by
  intro j
  induction j with
  | zero => exact h
  | succ j ih => exact nodup_addE ih _ _
theorem wI_nodup (k : List Int) : ∀ i, (keysE (wI k i)).Nodup := by
  intro i
  induction i with
  | zero => simp [wI, keysE]
  | succ i ih => exact wJ_nodup k i _ ih _
theorem look_dot {es : List (Int × Int)} (h : (keysE es).Nodup) (k : Int) : (lookE es k).getD 0 = dot (ind k) es := by
  induction es with
  | nil => rfl
  | cons e r ih =>
    simp only [keysE, List.map_cons, List.nodup_cons] at h
    by_cases c : k = e.1
    · have hd : dot (ind k) r = 0 := dot_none (by rw [c]; exact h.1)
      have hi : ind k e.1 = 1 := by simp [ind, c]
      have hl : lookE (e :: r) k = some e.2 := by simp [lookE, c]
      rw [hl, dot, hd, hi, Option.getD_some]; omega
    · have hi : ind k e.1 = 0 := by
        have : ¬ e.1 = k := fun x => c x.symm
        simp [ind, this]
      have hl : lookE (e :: r) k = lookE r k := by simp [lookE, c]
      rw [hl, ih h.2, dot, hi]; omega
theorem refW_get {k : List Int} (i : Nat) (hi : i < 2 * k.length - 1) : (refW k).getD i 0 = (lookE (weightsL k) ((i : Int) - k.length + 1)).getD 0 := by
  have hd : (keysE (weightsL k)).Nodup := wI_nodup k k.length
  rw [look_dot hd, ← ref_weights, dotL]
  have hl : (refW k).length = 2 * k.length - 1 := rI_length k k.length
  rw [hl, sumN_one (f := fun m => ind ((i : Int) - k.length + 1) ((m : Int) - k.length + 1) * (refW k).getD m 0) (g := fun _ => 0) _ i hi (fun m hm hne => by
    have : ind ((i : Int) - k.length + 1) ((m : Int) - k.length + 1) = 0 := by simp [ind]; omega
    simp only [this]; omega) rfl, sumN_zero _ fun _ _ => rfl]
  have : ind ((i : Int) - k.length + 1) ((i : Int) - k.length + 1) = 1 := by simp [ind]
  rw [this]; omega
theorem pI_put (W : List Int) (n i : Nat) (hW : W.length = n) (hi : i < n) : (pI (W.take i ++ List.replicate (n - i) 0)).set i (.int .i64 (W.getD i 0)) = pI (W.take (i + 1) ++ List.replicate (n - (i + 1)) 0) := by
  rw [pI_set]; congr 1
  apply List.ext_getElem?
  intro j
  have hm : min i W.length = i := by omega
  simp only [List.getElem?_set, List.length_append, List.length_take, List.length_replicate, List.getElem?_append, List.getElem?_take, List.getElem?_replicate, List.getD_eq_getElem?_getD]
  by_cases e : i = j
  · subst e
    have h1 : i < min i W.length + (n - i) := by omega
    have h2 : i < min (i + 1) W.length := by omega
    simp [h1, h2]
    have : W[i]? = some W[i] := List.getElem?_eq_getElem (by omega)
    simp [this]
  · simp only [e, if_false]
    by_cases c : j < i
    · have h1 : j < min i W.length := by omega
      have h2 : j < min (i + 1) W.length := by omega
      have h3 : j < i + 1 := by omega
      simp [h1, h2, c, h3]
    · have h1 : ¬ j < min i W.length := by omega
      have h2 : ¬ j < min (i + 1) W.length := by omega
      have e2 : (j - min i W.length < n - i) = (j - min (i + 1) W.length < n - (i + 1)) := by
        apply propext; omega
      simp [h1, h2, e2]

theorem weights41 {n : Nat} (hn : 6 ≤ n) (k : List Int) (hkl : k.length < 1000000) :
    RUN n 41 [isl k] = .ret (if kerE k = 0 then .tup [.own (pI (refW k)) (2 * k.length - 1) 1, iv (sumI k * sumI k), iv 0] else .tup [.p (.sl [] 0), iv 0, iv (kerE k)]) := by
  obtain ⟨d, rfl⟩ : ∃ d, n = d + 6 := ⟨n - 6, by omega⟩
  rw [RUN, call_eq fe41 _ rfl]
  have k2 := ker47 (n := d + 5) (by omega) k hkl
  by_cases z : kerE k = 0
  · have hk := ker_iff.1 z
    have k4 := sum124k (n := d + 5) (by omega) hk
    have k6 := weights125k (n := d + 5) (by omega) hk
    obtain ⟨d1, d2, d3, d4⟩ := ker_D hk
    have wD := wrap64 (n := sumI k * sumI k) (by omega) (by omega)
    have hk7 := hk.2.1
    have hk0 := hk.1
    rw [if_pos z]
    have w1 := wrap64 (n := 2 * (k.length : Int)) (by omega) (by omega)
    have w2 := wrap64 (n := 2 * (k.length : Int) - 1) (by omega) (by omega)
    have a1 : (1 : Int) ≤ 2 * (k.length : Int) := by omega
    have a2 : 2 * (k.length : Int) - 1 ≤ lim := by simp only [lim]; omega
    have a3 : (2 * (k.length : Int) - 1).toNat = 2 * k.length - 1 := by omega
    have hWl : (refW k).length = 2 * k.length - 1 := rI_length k k.length
    let inv : Nat → St := fun i => ⟨[(0, isl k), (6, .p (.map (kA (weightsL k)) (kB (weightsL k)))), (7, .sl 0 0 0 (2 * k.length - 1)), (22, iv (2 * k.length - 1 : Nat)), (23, iv i)], [(0, .arr (pI ((refW k).take i ++ List.replicate (2 * k.length - 1 - i) 0)) 0 1)]⟩
    have htake : (refW k).take (2 * k.length - 1) = refW k := List.take_of_length_le (by omega)
    simp -implicitDefEqProofs [c41, k2, z, k6, w1, w2, a1, a2, a3]
    rw [loop_run inv (2 * k.length - 1) (e := .exit 0) (st' := ⟨(inv (2 * k.length - 1)).env ++ [(24, .p (.bool false))], (inv (2 * k.length - 1)).sto⟩) (by simp)]
    · simp -implicitDefEqProofs [inv, k4, wD, htake, hWl]
    · have : pI (List.replicate (2 * k.length - 1) 0) = List.replicate (2 * k.length - 1) (.int .i64 0) := by simp [pI]
      simp only [inv, List.take_zero, List.nil_append, Nat.sub_zero, this]; rfl
    · intro i hi
      have wi := wrap_succ (i := i) (by omega)
      have v1 := wrap64 (n := (i : Int) - k.length) (by omega) (by omega)
      have v2 := wrap64 (n := (i : Int) - k.length + 1) (by omega) (by omega)
      have hlk := look_kA (weightsL k) ((i : Int) - k.length + 1)
      have hg := refW_get (k := k) i hi
      have hset := pI_put (refW k) (2 * k.length - 1) i hWl hi
      have hlen : ((refW k).take i ++ List.replicate (2 * k.length - 1 - i) 0).length = 2 * k.length - 1 := by simp; omega
      have hi1 : i + 1 ≤ 2 * k.length - 1 := by omega
      simp only [inv]
      rw [← hset, hg]
      generalize (refW k).take i ++ List.replicate (2 * k.length - 1 - i) 0 = A at *
      cases hv : lookE (weightsL k) ((i : Int) - k.length + 1) with
      | none =>
        rw [hv] at hlk
        simp at hlk
        simp -implicitDefEqProofs [loopS_eq, c41L0, hi, hi1, wi, v1, v2, hlk, hlen]
      | some x =>
        rw [hv] at hlk
        simp at hlk
        simp -implicitDefEqProofs [loopS_eq, c41L0, hi, hi1, wi, v1, v2, hlk, hlen]
    · simp -implicitDefEqProofs [inv, loopS_eq, c41L0]
    · simp [loopFuel]; omega
  · rw [if_neg z]
    generalize kerE k = E at *
    simp -implicitDefEqProofs [c41, k2, z]

end Fw
