/- Samples of integers; samples by contract. -/
import Derived.Test.YtbaedpfgjpkabaaGreatDoorSmp4
set_option maxHeartbeats 8000000
namespace Fw
open Go Ieee
attribute [local irreducible] evCode evOps evOpsD evOper evOperD evOp evFn loopN T.All T.bind callPure callOp opsK opsDK restK seqK blockK loopS setK setQ giveK scalK gcK finish finS rfunK yldK yldB loopK

theorem div16 {x : Nat} {s : Bool} {k : Nat} {q : Int} (h : single.read x = .number s k q) (hk : k < 2 ^ 24) : ∃ m p, (single.read x).quotient (single.fractionBits + 2) (single.read 1098907648) = some (.number s m p) ∧ p = q + 19 - (48 - k.log2 : Nat) - 1 ∧ m = k * 2 ^ ((48 - k.log2) - 22) := by
  rw [h, r16_32]
  have hl : (8388608 : Nat).log2 = 23 := by decide
  have hk2 : k.log2 ≤ 23 := by
    rcases Nat.eq_zero_or_pos k with e | e
    · subst e; decide
    · have := Nat.log2_self_le (n := k) (by omega)
      have h2 : 2 ^ k.log2 < 2 ^ 24 := by omega
      have := (Nat.pow_lt_pow_iff_right (a := 2) (by decide)).1 h2
      omega
  have hf : single.fractionBits = 23 := rfl
  simp only [Datum.quotient, hl, hf, Bool.xor_false]
  rw [if_neg (by decide)]
  generalize hm : 48 - k.log2 = more
  have hd : k <<< more = (k * 2 ^ (more - 23)) * 8388608 := by
    rw [Nat.shiftLeft_eq, Nat.mul_assoc, show (8388608 : Nat) = 2 ^ 23 by decide, ← Nat.pow_add]; congr 2; omega
  rw [hd, Nat.mul_div_cancel _ (by decide), Nat.mul_mod_left]
  refine ⟨_, _, rfl, ?_, ?_⟩
  · omega
  · have : (0 != 0) = false := rfl
    simp only [bne_self_eq_false, Bool.toNat_false, Nat.add_zero]
    rw [Nat.mul_comm 2, Nat.mul_assoc, ← Nat.pow_succ]; congr 2; omega

theorem sampleO_of {n : Int} (h1 : -16384 ≤ n) (h2 : n ≤ 16384) : ∃ f, sampleO n = some f ∧ smpE f = 0 ∧ smpN f = n := by
  have hQ := two_pos
  have hb : n.natAbs ≤ 16384 := by omega
  have h24 : 16384 < 2 ^ 24 := by decide
  obtain ⟨TT, hTT, hbig⟩ := V_fits n.natAbs 15 (by omega)
  obtain ⟨k, q, i1, i2, i3, i4⟩ := exact32 (n < 0) n.natAbs 0 (by decide) (k := n.natAbs) (q := 0) (by omega) (by decide) rfl (T := TT) (by omega) hbig
  have i1' : single.read (FloatKind.f32.nearest n) = .number (n < 0) k q := i1
  obtain ⟨m, p, e1, e2, e3⟩ := div16 i1' i3
  have hk2 : k.log2 ≤ 23 := by
    rcases Nat.eq_zero_or_pos k with e | e
    · subst e; decide
    · have := Nat.log2_self_le (n := k) (by omega)
      have h2 : 2 ^ k.log2 < 2 ^ 24 := by omega
      have := (Nat.pow_lt_pow_iff_right (a := 2) (by decide)).1 h2
      omega
  have hVm : 16 * V m p = V k q := by
    rw [e3, V_shift _ _ _ (by omega)]
    have := V_shift k 4 (p + (48 - k.log2 - 22 : Nat)) (by omega)
    rw [Nat.mul_comm, V_mul] at this
    rw [show (2 ^ 4 : Nat) = 16 by decide] at this
    rw [this]; congr 1; omega
  have hVn : 16 * V n.natAbs (-4) = V n.natAbs 0 := by
    have := V_shift n.natAbs 4 (-4) (by decide)
    rw [Nat.mul_comm, V_mul] at this
    exact this
  have hVe : V m p = V n.natAbs (-4) := by omega
  have hp : -2000 ≤ p := by omega
  obtain ⟨k5, q5, j1, j2, j3, j4⟩ := exact32 (n < 0) m p hp (k := n.natAbs) (q := -4) (by omega) (by decide) hVe (T := TT) (by omega) (by omega)
  have hV5 : 16 * V k5 q5 = n.natAbs * 2 ^ 2000 := by rw [j2, hVe, hVn, V_zero]
  refine ⟨single.nearest (n < 0) m p, ?_, ?_, ?_⟩
  · unfold sampleO
    show ((single.read (FloatKind.f32.nearest n)).quotient (single.fractionBits + 2) (single.read 1098907648)).map single.write = _
    rw [e1]; rfl
  · unfold smpE
    rw [j1]
    simp only
    rw [if_neg]
    rw [not_or, hV5, Nat.mul_mod_left]
    refine ⟨?_, by simp⟩
    generalize 2 ^ 2000 = Q at *
    have : n.natAbs * Q ≤ 16384 * Q := Nat.mul_le_mul_right _ hb
    omega
  · unfold smpN
    rw [j1]
    simp only
    rw [hV5, Nat.mul_div_cancel _ hQ]
    by_cases hz : n < 0
    · simp only [hz, decide_true, if_true]; omega
    · simp only [hz, decide_false, Bool.false_eq_true, if_false]; omega

/-- the sample of an integer -/
def smpF (n : Int) : Nat := (sampleO n).getD 0
theorem smpF_of {n : Int} (h1 : -16384 ≤ n) (h2 : n ≤ 16384) : sampleO n = some (smpF n) ∧ smpE (smpF n) = 0 ∧ smpN (smpF n) = n := by
  obtain ⟨f, e1, e2, e3⟩ := sampleO_of h1 h2
  have : smpF n = f := by rw [smpF, e1]; rfl
  rw [this]; exact ⟨e1, e2, e3⟩
/-! contracts -/
def smpC1 : Con := fun as => match as with
  | [.p (.flt .f32 b)] => some (.ret (.p (.int .i64 (smpE b))))
  | _ => none
def smpC2 : Con := fun as => match as with
  | [.p (.flt .f32 b), .p (.int .i64 n)] => if n = 16384 then some (.ret (.p (.int .i64 (smpE b)))) else none
  | _ => none
section
variable {C : Nat → List AVal → Option (T AVal)} {G : Nat → Option (List PVal)} {d : Nat}
theorem smpC1_ok (hC : ∀ f ∈ [201, 213, 224, 211, 199, 212, 222, 223, 233], ∀ as, C f as = none) (hL : LibOk C) {as : List AVal} {t : T AVal} (h : smpC1 as = some t) (K : AVal → Prop) (hK : t.All K) : (callPure (evFn F C G (d + 4)) C (.fn 201) as).All K := by
  unfold smpC1 at h
  split at h
  · cases h
    rw [All_ret] at hK
    exact sample201 hC hL _ K hK
  · cases h
theorem smpC2_ok (hC : ∀ as, C 202 as = none) {as : List AVal} {t : T AVal} (h : smpC2 as = some t) (K : AVal → Prop) (hK : t.All K) : (callPure (evFn F C G (d + 1)) C (.fn 202) as).All K := by
  unfold smpC2 at h
  split at h
  · split at h
    · rename_i e
      cases h
      subst e
      rw [All_ret] at hK
      exact part202 hC _ K hK
    · cases h
  · cases h
end
end Fw
