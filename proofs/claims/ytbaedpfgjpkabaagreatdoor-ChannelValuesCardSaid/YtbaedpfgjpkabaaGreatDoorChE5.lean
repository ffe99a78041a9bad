/- Enclosed by contract. -/
import Derived.Test.YtbaedpfgjpkabaaGreatDoorChE4
import Derived.Test.YtbaedpfgjpkabaaGreatDoorChRun4
set_option maxHeartbeats 16000000
namespace Fw
open Go
attribute [local irreducible] evCode evOps evOpsD evOper evOperD evOp evFn loopN T.All T.bind callPure callOp opsK opsDK restK seqK blockK loopS setK setQ giveK scalK gcK finish finS rfunK yldK yldB loopK
section
variable {C : Nat → List AVal → Option (T AVal)} {G : Nat → Option (List PVal)} {d : Nat}

def pairsO : List PVal → Option (List (Int × Int))
  | [] => some []
  | .int .i64 a :: .int .i64 b :: r => match pairsO r with
    | some l => some ((a, b) :: l)
    | none => none
  | _ => none
def intsO : List PVal → Option (List Int)
  | [] => some []
  | .int .i64 a :: r => match intsO r with
    | some l => some (a :: l)
    | none => none
  | _ => none
theorem pairsO_spec : ∀ (n : Nat) {cs : List PVal} {l : List (Int × Int)}, cs.length ≤ n → pairsO cs = some l → cs = cI l := by
  intro n
  induction n with
  | zero =>
    intro cs l hn h
    cases cs with
    | nil => cases h; rfl
    | cons => simp at hn
  | succ n ih =>
    intro cs l hn h
    unfold pairsO at h
    split at h
    · cases h; rfl
    · rename_i a b r
      split at h
      · rename_i q hq
        cases h
        rw [ih (by simp at hn; omega) hq]; rfl
      · cases h
    · cases h
theorem intsO_spec : ∀ {cs : List PVal} {l : List Int}, intsO cs = some l → cs = pI l := by
  intro cs
  induction cs with
  | nil => intro l h; cases h; rfl
  | cons c r ih =>
    intro l h
    unfold intsO at h
    split at h
    · cases ‹_ :: _ = []›
    · rename_i a r' he
      cases he
      split at h
      · rename_i q hq
        cases h
        rw [ih hq]; rfl
      · cases h
    · cases h

instance (l : List (Int × Int)) : Decidable (IvOk l) := inferInstanceAs (Decidable (∀ x ∈ l, _))
instance (k : List Int) : Decidable (KerOk k) := inferInstanceAs (Decidable (_ ∧ _ ∧ _ ∧ _))

def encAll (l : List (Int × Int)) (k : List Int) : List (Int × Int) := (List.range l.length).map fun a => encO l (weightsL k) (sumI k * sumI k) a
def encC : Con := fun as => match as with
  | [.p (.sl cs n), .p (.sl ks m)] => match pairsO cs, intsO ks with
    | some l, some k => if n = l.length ∧ m = k.length ∧ 0 < n ∧ n ≤ 4096 ∧ IvOk l ∧ KerOk k then
        some (if (encAll l k).any encB then .ret (.tup [.p (.sl [] 0), .p (.int .i64 4)]) else .ret (.tup [.own (cI (encAll l k)) n 2, .p (.int .i64 0)]))
      else none
    | _, _ => none
  | _ => none

theorem enc_ok (hC : ∀ f ∈ [51, 134, 135, 133, 121, 111, 104, 103, 47, 131, 132, 124, 125, 136, 181, 117, 173, 174, 268, 269], ∀ as, C f as = none) (hG2 : G 2 = some [.clo 268 [] []]) (hG3 : G 3 = some [.clo 269 [] []]) {as : List AVal} {t : T AVal} (h : encC as = some t) (K : AVal → Prop) (hK : t.All K) :
    (callPure (evFn F C G (d + 6)) C (.fn 51) as).All K := by
  unfold encC at h
  split at h
  · rename_i cs n ks m
    split at h
    · rename_i l k hl hk
      split at h
      · rename_i hc
        obtain ⟨rfl, rfl, h0, hn, hiv, hker⟩ := hc
        have e1 := pairsO_spec cs.length (Nat.le_refl _) hl
        have e2 := intsO_spec hk
        subst e1 e2
        simp only [Option.some.injEq] at h
        rw [call_eq fe51 _ (hC 51 (by simp) _)]
        have k1 := many_zero (C := C) (G := G) (d := d + 3) (fun f hf => hC f (by simp at hf ⊢; omega)) (n := l.length) (by omega) (by omega)
        have k2 := map135_zero (C := C) (G := G) (d := d) (fun f hf => hC f (by simp at hf ⊢; omega)) l (by omega) hiv
        have k3 := first_zero (C := C) (G := G) (d := d + 4) (hC 103 (by simp)) (List.replicate l.length 0) (by simp; omega) (by simp)
        have k4 := check47_zero (C := C) (G := G) (d := d) (fun f hf => hC f (by simp at hf ⊢; omega)) hker
        have k5 := first_zero3 (C := C) (G := G) (d := d + 4) (hC 103 (by simp))
        have k6 := weights125 (C := C) (G := G) (d := d + 4) (hC 125 (by simp)) hker.2.2.1 hker.2.1
        have k7 := sum124 (C := C) (G := G) (d := d + 4) (hC 124 (by simp)) hker.2.2.1 hker.2.1
        simp only [List.length_replicate] at k3
        have hs := sumI_part hker.2.2.1 k.length
        have hs0 := hker.2.2.2
        have hs1 : sumI k ≤ 700 := by have := hker.2.1; simp only [sumI] at *; omega
        have hD : 0 < sumI k * sumI k := Int.mul_pos hs0 hs0
        have hD2 := mul_abs (a := sumI k) (b := sumI k) (A := 700) (B := 700) (by omega) (by omega)
        have wD := wrap64 (n := sumI k * sumI k) (by omega) (by omega)
        obtain ⟨w1, w2, w3⟩ := weights_spec hker.2.2.1 hker.2.1
        have hes : ∀ e ∈ weightsL k, -1000000 ≤ e.1 ∧ e.1 ≤ 1000000 := fun e he => by
          have := w3 e.1 (List.mem_map.2 ⟨e, he, rfl⟩); omega
        have hlen : (encAll l k).length = l.length := by simp [encAll]
        have hout : ∀ i, i < l.length → (encAll l k)[i]? = some (encO l (weightsL k) (sumI k * sumI k) i) := fun i hi => by simp [encAll, hi]
        generalize hA : encAll l k = outs at *
        generalize hDD : sumI k * sumI k = D at *
        simp -implicitDefEqProofs [c51, k1, k2, k3, k4, k5, k6, k7, wD, hDD]
        simp only [T.All_bind]
        refine T.All_mono (loop_allP (K := fun r => if outs.any encB then ∃ s, r = (.ret, ⟨[(4, .p .nils), (5, .p (.int .i64 4))], s⟩) else r = (.exit 0, ⟨(encInv l (.map (kA (weightsL k)) (kB (weightsL k))) D outs l.length).env ++ [(44, .p (.bool false))], (encInv l (.map (kA (weightsL k)) (kB (weightsL k))) D outs l.length).sto⟩)) (encInv l (.map (kA (weightsL k)) (kB (weightsL k))) D outs) (fun i => ∀ j, j < i → encB (encO l (weightsL k) D j) = false) l.length ?_ (fun j hj => by omega) ?_ ?_ ?_) ?_
        · refine loopS_same rfl ?_
          simp -implicitDefEqProofs [encInv, cI]
        · intro i hi hp
          refine T.All_mono (enc_round (C := C) (G := G) (d := d + 3) (fun f hf => hC f (by simp at hf ⊢; omega)) hG2 hG3 l hiv (by omega) (weightsL k) (by omega) hes (by omega) D hD outs hlen i hi (hout i hi)) (fun r hr => ?_)
          rcases hr with ⟨a1, a2, a3⟩ | ⟨a1, s, rfl⟩
          · exact .inl ⟨fun j hj => by
              by_cases e : j = i
              · subst e; exact a1
              · exact hp j (by omega), a2, a3⟩
          · refine .inr ⟨by simp, ?_⟩
            have : outs.any encB = true := List.any_eq_true.2 ⟨_, List.mem_of_getElem? (hout i hi), a1⟩
            rw [if_pos this]
            exact ⟨s, rfl⟩
        · intro hp
          have : outs.any encB = false := by
            rw [List.any_eq_false]
            intro x hx
            rw [← hA] at hx
            simp only [encAll, List.mem_map, List.mem_range] at hx
            obtain ⟨j, hj, rfl⟩ := hx
            rw [hDD, hp j hj]; simp
          rw [this]
          rw [loopS_eq]
          simp -implicitDefEqProofs [encInv, c51L2]
        · simp only [loopFuel]; omega
        · intro r hr
          subst h
          by_cases ha : outs.any encB = true
          · rw [if_pos ha] at hr hK
            obtain ⟨s, rfl⟩ := hr
            rw [All_ret] at hK
            simp -implicitDefEqProofs [hK]
          · rw [if_neg ha] at hr hK
            subst hr
            have htake : outs.take l.length = outs := List.take_of_length_le (by omega)
            rw [All_ret] at hK
            simp -implicitDefEqProofs [encInv, htake, hlen]
            exact hK
      · cases h
    · cases h
  · cases h
end
end Fw
