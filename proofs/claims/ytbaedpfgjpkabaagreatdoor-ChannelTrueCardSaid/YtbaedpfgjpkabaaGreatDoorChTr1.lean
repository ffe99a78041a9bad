/- Codes: read back as they were; a changed byte is seen. -/
import Derived.Test.YtbaedpfgjpkabaaGreatDoorChC3
set_option maxHeartbeats 8000000
namespace Fw
open Go

theorem letS_range (l : List UInt8) : (letS l).toNat = 65 + (sumF l l.length % 26).toNat ∧ (sumF l l.length % 26).toNat < 26 := by
  have h : (sumF l l.length % 26).toNat < 26 := by omega
  refine ⟨?_, h⟩
  unfold letS
  generalize (sumF l l.length % 26).toNat = k at *
  rw [UInt8.toNat_ofNat']
  omega

theorem letB_le {b : Nat} (h : letB b = true) : b ≤ 122 := by
  simp only [letB, Bool.or_eq_true, Bool.and_eq_true, decide_eq_true_eq] at h
  omega
theorem tailB_le {b : Nat} (h : tailB b = true) : b ≤ 122 := by
  simp only [tailB, Bool.or_eq_true, Bool.and_eq_true, decide_eq_true_eq] at h
  omega
theorem name_le {l : List UInt8} (h : nameB l = true) : ∀ x ∈ l, x.toNat ≤ 122 := by
  intro x hx
  obtain ⟨i, hi, rfl⟩ := List.mem_iff_getElem.1 hx
  simp only [nameB, Bool.and_eq_true, decide_eq_true_eq] at h
  have := firstE_zero.1 h.2 _ (List.mem_map.2 ⟨i, by simpa using hi, rfl⟩)
  unfold nameE at this
  have hg : l.getD i 0 = l[i] := by simp [List.getD_eq_getElem?_getD, List.getElem?_eq_getElem hi]
  rw [hg] at this
  split at this
  · rename_i hq
    rw [Bool.or_eq_true] at hq
    rcases hq with e | e
    · exact letB_le e
    · rw [Bool.and_eq_true] at e
      exact tailB_le e.2
  · cases this
theorem name_ne {l : List UInt8} (h : nameB l = true) : 0 < l.length := by
  simp only [nameB, Bool.and_eq_true, decide_eq_true_eq] at h
  exact List.length_pos_iff.2 h.1.1

theorem axI_of {c : CodeI} (h : CodeOk c) : axI (UInt8.ofNat (120 + c.axis.toNat)) = c.axis ∧ (UInt8.ofNat (120 + c.axis.toNat)).toNat ≤ 122 := by
  rcases h.axis with e | e | e <;> rw [e] <;> decide
theorem sgI_of {c : CodeI} (h : CodeOk c) : 1 - 2 * sgI (if c.sign = 1 then 43 else 45) = c.sign ∧ 0 ≤ sgI (if c.sign = 1 then 43 else 45) ∧ (if c.sign = 1 then (43 : UInt8) else 45).toNat ≤ 122 := by
  rcases h.sign with e | e <;> rw [e] <;> decide

theorem cod_len (c : CodeI) : (codS c).length = c.place.length + 4 := by simp [codS, preS]
theorem preS_len (c : CodeI) : (preS c).length = c.place.length + 3 := by simp [preS]
theorem cod_le {c : CodeI} (h : CodeOk c) : ∀ x ∈ codS c, x.toNat ≤ 122 := by
  intro x hx
  simp only [codS, preS, List.append_assoc, List.mem_append, List.mem_cons, List.not_mem_nil, or_false, List.cons_append, List.nil_append] at hx
  rcases hx with e | e | e | e | e
  · exact name_le h.name x e
  · subst e; decide
  · subst e; exact (axI_of h).2
  · subst e; exact (sgI_of h).2.2
  · subst e
    have := letS_range (preS c)
    simp only [preS] at this
    omega

/-- read back -/
theorem dec_cod {c : CodeI} (h : CodeOk c) : decB (codS c) = (c, 0) := by
  have hn := name_len h.name
  have h0 := name_ne h.name
  have hl := cod_len c
  obtain ⟨p, x, a, g, k, e, hd⟩ := tail4 (s := codS c) (by omega)
  rw [hd, if_neg (by omega)]
  have e' : c.place ++ [45, UInt8.ofNat (120 + c.axis.toNat), (if c.sign = 1 then 43 else 45), letS (preS c)] = p ++ [x, a, g, k] := by
    rw [← e]; simp [codS, preS]
  obtain ⟨rfl, e2⟩ := List.append_inj' e' rfl
  simp only [List.cons.injEq, and_true] at e2
  obtain ⟨rfl, rfl, rfl, rfl⟩ := e2
  obtain ⟨a1, _⟩ := axI_of h
  obtain ⟨s1, s2, _⟩ := sgI_of h
  obtain ⟨r1, r2⟩ := letS_range (preS c)
  have hax : 0 ≤ c.axis := by rcases h.axis with e | e | e <;> omega
  have hb : badC 45 (UInt8.ofNat (120 + c.axis.toNat)) (if c.sign = 1 then 43 else 45) (letS (preS c)) = false := by
    unfold badC
    rw [a1, r1]
    generalize sgI (if c.sign = 1 then 43 else 45) = q at *
    generalize (sumF (preS c) (preS c).length % 26).toNat = w at *
    have t1 : ¬ c.axis < 0 := by omega
    have t2 : ¬ q < 0 := by omega
    have t3 : ¬ ((65 + w : Nat) : Int) < 65 := by omega
    have t4 : ¬ (90 : Int) < ((65 + w : Nat) : Int) := by omega
    simp only [t1, t2, t3, t4, decide_false, Bool.or_false]
    decide
  have hE : decE c.place 45 (UInt8.ofNat (120 + c.axis.toNat)) (if c.sign = 1 then 43 else 45) (letS (preS c)) = 0 := by
    unfold decE
    rw [h.name]
    have : c.place ++ [45, UInt8.ofNat (120 + c.axis.toNat), if c.sign = 1 then 43 else 45] = preS c := rfl
    rw [this]
    simp [firstE, whenE]
  unfold dec4
  rw [if_neg (by rw [hb]; decide), if_pos hE, a1, s1]

theorem sumF_set (l : List UInt8) (i : Nat) (v : UInt8) (hi : i < l.length) : ∀ n, n ≤ l.length → sumF (l.set i v) n = sumF l n + (if i < n then (v.toNat : Int) - (l[i].toNat : Int) else 0) := by
  intro n
  induction n with
  | zero => intro _; simp [sumF]
  | succ n ih =>
    intro hn
    have := ih (by omega)
    simp only [sumF]
    rw [this]
    by_cases e : i = n
    · subst e
      have g1 : (l.set i v).getD i 0 = v := by simp [List.getD_eq_getElem?_getD, hi]
      have g2 : l.getD i 0 = l[i] := by simp [List.getD_eq_getElem?_getD, List.getElem?_eq_getElem hi]
      rw [g1, g2, if_neg (by omega), if_pos (by omega)]
      omega
    · have g1 : (l.set i v).getD n 0 = l.getD n 0 := by simp [List.getD_eq_getElem?_getD, e]
      rw [g1]
      by_cases h : i < n
      · rw [if_pos h, if_pos (by omega)]; omega
      · rw [if_neg h, if_neg (by omega)]; omega

/-- a changed byte is seen -/
theorem dec_bad {c : CodeI} (h : CodeOk c) (at' : Nat) (ha : at' < (codS c).length) (v : UInt8) (hv1 : (codS c)[at'].toNat < v.toNat) (hv2 : v.toNat ≤ (codS c)[at'].toNat + 25) : (decB ((codS c).set at' v)).2 ≠ 0 := by
  intro hz
  have hn := name_len h.name
  have h0 := name_ne h.name
  have hl := cod_len c
  have hpl := preS_len c
  obtain ⟨p, x, a, g, k, e, hd⟩ := tail4 (s := (codS c).set at' v) (by simp; omega)
  rw [hd, if_neg (by simp; omega)] at hz
  unfold dec4 at hz
  split at hz
  · cases hz
  · split at hz
    · rename_i hE
      have h27 := firstE_zero.1 hE (whenE (((letS (p ++ [x, a, g])).toNat : Int) != (k.toNat : Int)) 27) (by simp)
      have hlet : (letS (p ++ [x, a, g])).toNat = k.toNat := by
        have := (whenE_zero (by decide)).1 h27
        simp at this; omega
      by_cases hp : at' < (preS c).length
      · have e1 : (codS c).set at' v = (preS c).set at' v ++ [letS (preS c)] := by
          rw [codS, List.set_append_left _ _ hp]
        have e2 : p ++ [x, a, g, k] = (p ++ [x, a, g]) ++ [k] := by simp
        rw [e1, e2] at e
        obtain ⟨q1, q2⟩ := List.append_inj' e rfl
        simp only [List.cons.injEq, and_true] at q2
        rw [← q1, ← q2] at hlet
        obtain ⟨r1, r2⟩ := letS_range (preS c)
        obtain ⟨r3, r4⟩ := letS_range ((preS c).set at' v)
        rw [r1, r3] at hlet
        have hs := sumF_set (preS c) at' v hp (preS c).length (Nat.le_refl _)
        rw [if_pos hp] at hs
        rw [List.length_set, hs] at hlet r4
        have hgc : (codS c)[at'] = (preS c)[at'] := by
          simp only [codS]
          exact List.getElem_append_left hp
        rw [hgc] at hv1 hv2
        generalize sumF (preS c) (preS c).length = S at *
        generalize (preS c)[at'].toNat = b at *
        generalize v.toNat = w at *
        omega
      · have hat : at' = (preS c).length := by omega
        have e1 : (codS c).set at' v = preS c ++ [v] := by
          rw [codS, List.set_append_right _ _ (by omega), hat, Nat.sub_self, List.set_cons_zero]
        have e2 : p ++ [x, a, g, k] = (p ++ [x, a, g]) ++ [k] := by simp
        rw [e1, e2] at e
        obtain ⟨q1, q2⟩ := List.append_inj' e rfl
        simp only [List.cons.injEq, and_true] at q2
        rw [← q1, ← q2] at hlet
        have hgc : (codS c)[at'] = letS (preS c) := by
          simp only [codS]
          rw [List.getElem_append_right (by omega)]
          simp [hat]
        rw [hgc] at hv1
        omega
    · rename_i hE
      exact hE hz
end Fw
