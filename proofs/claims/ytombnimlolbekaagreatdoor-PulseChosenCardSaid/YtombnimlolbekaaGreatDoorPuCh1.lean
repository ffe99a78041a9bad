/- The law on what is chosen: plain facts about the cheapest set. -/
import Derived.Test.YtombnimlolbekaaGreatDoorPuX9
set_option maxHeartbeats 16000000
namespace Fw
open Go

theorem before_len {a b : List Int} : (beforeB a b = true → a.length ≤ b.length) ∧ (beforeB a b = false → b.length ≤ a.length) := by
 unfold beforeB
 split
 ·rename_i h
  exact ⟨fun _ => by omega, fun _ => by omega⟩
 ·exact ⟨fun h => by have := of_decide_eq_true h; omega, fun h => by have := of_decide_eq_false h; omega⟩

def NoW (l : List PackI) (s o : List Int) : Prop := cst l s < cst l o ∨ cst l s = cst l o ∧ s.length ≤ o.length

theorem best_facts (l : List PackI) (x : Int × Int) : ∀ B, (∀ s, bestF l x B = some s → fitB l s x = true ∧ ∃ b, b < B ∧ s = selF b l.length) ∧ ∀ b, b < B → fitB l (selF b l.length) x = true → ∃ s, bestF l x B = some s ∧ NoW l s (selF b l.length)
 | 0 => ⟨fun s h => (by cases h), fun b h => absurd h (by omega)⟩
 | B + 1 => by
  obtain ⟨h1, h2⟩ := best_facts l x B
  simp only [bestF]
  generalize hS : selF B l.length = S at *
  cases hf : fitB l S x with
  | false =>
   have ha : accB l x S (bestF l x B) = false := by simp [accB, hf]
   rw [ha]
   simp only [Bool.false_eq_true, if_false]
   refine ⟨fun s h => ?_, fun b hb hfb => ?_⟩
   ·obtain ⟨a1, b, a2, a3⟩ := h1 s h
    exact ⟨a1, b, by omega, a3⟩
   ·by_cases e : b = B
    ·subst e
     rw [hS, hf] at hfb
     cases hfb
    ·exact h2 b (by omega) hfb
  | true =>
   cases ho : bestF l x B with
   | none =>
    have ha : accB l x S none = true := by simp [accB, hf]
    rw [if_pos ha]
    refine ⟨fun s h => ?_, fun b hb hfb => ?_⟩
    ·cases h
     exact ⟨hf, B, by omega, hS.symm⟩
    ·by_cases e : b = B
     ·subst e
      rw [hS]
      exact ⟨S, rfl, .inr ⟨rfl, Nat.le_refl _⟩⟩
     ·obtain ⟨s, hs, _⟩ := h2 b (by omega) hfb
      rw [ho] at hs
      cases hs
   | some o =>
    rw [ho] at h1 h2
    cases hb : betterB l S o with
    | true =>
     have ha : accB l x S (some o) = true := by simp [accB, hf, hb]
     rw [if_pos ha]
     simp only [betterB, Bool.or_eq_true, Bool.and_eq_true, decide_eq_true_eq] at hb
     have hn : NoW l S o := by
      rcases hb with q | ⟨q1, q2⟩
      ·exact .inl q
      ·exact .inr ⟨q1, before_len.1 q2⟩
     refine ⟨fun s h => ?_, fun b hbB hfb => ?_⟩
     ·cases h
      exact ⟨hf, B, by omega, hS.symm⟩
     ·by_cases e : b = B
      ·subst e
       rw [hS]
       exact ⟨S, rfl, .inr ⟨rfl, Nat.le_refl _⟩⟩
      ·obtain ⟨s, hs, hq⟩ := h2 b (by omega) hfb
       cases hs
       refine ⟨S, rfl, ?_⟩
       unfold NoW at *
       omega
    | false =>
     have ha : accB l x S (some o) = false := by simp [accB, hf, hb]
     rw [ha]
     simp only [Bool.false_eq_true, if_false]
     simp only [betterB, Bool.or_eq_false_iff, decide_eq_false_iff_not, Bool.and_eq_false_iff] at hb
     have hn : NoW l o S := by
      rcases hb with ⟨q1, q2⟩
      rcases q2 with q2 | q2
      ·exact .inl (by omega)
      ·have := before_len.2 q2
       unfold NoW
       omega
     refine ⟨fun s h => ?_, fun b hbB hfb => ?_⟩
     ·obtain ⟨a1, b, a2, a3⟩ := h1 s h
      exact ⟨a1, b, by omega, a3⟩
     ·by_cases e : b = B
      ·subst e
       rw [hS]
       exact ⟨o, rfl, hn⟩
      ·exact h2 b (by omega) hfb

theorem sel_ord (b : Nat) : ∀ n k, k + 1 < (selF b n).length → (selF b n).getD k 0 < (selF b n).getD (k + 1) 0
 | 0, k, h => by simp [selF] at h
 | n + 1, k, h => by
  have ih := sel_ord b n k
  simp only [selF] at h ⊢
  split
  ·rename_i hc
   rw [if_pos hc] at h
   simp only [List.length_append, List.length_singleton] at h
   have g0 : (selF b n ++ [(n : Int)]).getD k 0 = (selF b n).getD k 0 := by
    simp [List.getD_eq_getElem?_getD, List.getElem?_append_left (show k < (selF b n).length by omega)]
   rw [g0]
   by_cases hk : k + 1 < (selF b n).length
   ·have g1 : (selF b n ++ [(n : Int)]).getD (k + 1) 0 = (selF b n).getD (k + 1) 0 := by
     simp [List.getD_eq_getElem?_getD, List.getElem?_append_left hk]
    rw [g1]
    exact ih hk
   ·have e : k + 1 = (selF b n).length := by omega
    have g1 : (selF b n ++ [(n : Int)]).getD (k + 1) 0 = (n : Int) := by
     rw [e]
     simp [List.getD_eq_getElem?_getD]
    rw [g1]
    have hm : (selF b n).getD k 0 ∈ selF b n := by
     rw [List.getD_eq_getElem?_getD, List.getElem?_eq_getElem (show k < (selF b n).length by omega)]
     exact List.getElem_mem _
    exact ((selF_in b n).1 _ hm).2
  ·rename_i hc
   rw [if_neg hc] at h
   exact ih h
theorem sel_ok (b n : Nat) : setEr n (selF b n) = 0 := by
 have hin := (selF_in b n).1
 unfold setEr
 rw [if_neg]
 ·refine firstE_zero.2 fun e he => ?_
  obtain ⟨k, hk, rfl⟩ := List.mem_map.1 he
  have := sel_ord b n k (by have := List.mem_range.1 hk; omega)
  unfold ordE
  rw [if_neg (by omega)]
 ·rw [List.any_eq_true]
  rintro ⟨i, hi, h⟩
  have := hin i hi
  simp only [outB, Bool.or_eq_true, decide_eq_true_eq] at h
  omega

theorem bnd_sel {l : List PackI} (price n0 : Int) (b : Nat) : ∀ k, k ≤ l.length → bndF l price n0 k ≤ n0 + cst l (selF b k) - price * impS l (selF b k)
 | 0, _ => by simp [bndF, selF, cst, cstF, impS, impF]
 | k + 1, hk => by
  have ih := bnd_sel (l := l) price n0 b k (by omega)
  have hk' : k < l.length := by omega
  obtain ⟨s1, s2⟩ := sums_snoc l (selF b k) k hk'
  simp only [bndF, selF, getD_at hk']
  split
  ·rw [s1, s2, Int.mul_add]
   omega
  ·omega
theorem bnd_le {l : List PackI} {x : Int × Int} {price : Int} {b : Nat} (hf : fitB l (selF b l.length) x = true) : bndF l price (bnd0 x price) l.length ≤ cst l (selF b l.length) := by
 have h := bnd_sel (l := l) price (bnd0 x price) b l.length (Nat.le_refl _)
 simp only [fitB, Bool.and_eq_true, decide_eq_true_eq] at hf
 have e : impS l (selF b l.length) = impF l (selF b l.length) (selF b l.length).length := rfl
 rw [e] at h
 generalize impF l (selF b l.length) (selF b l.length).length = i at *
 unfold bnd0 at h ⊢
 by_cases hp : price < 0
 ·rw [if_pos hp] at h ⊢
  have := Int.mul_le_mul_of_nonpos_left (show price ≤ 0 by omega) hf.2
  omega
 ·rw [if_neg hp] at h ⊢
  have := Int.mul_le_mul_of_nonneg_left hf.1 (show 0 ≤ price by omega)
  omega

theorem best_wide {l : List PackI} {x y : Int × Int} (h1 : y.1 ≤ x.1) (h2 : x.2 ≤ y.2) (B : Nat) {s : List Int} (hs : bestF l x B = some s) : ∃ s', bestF l y B = some s' ∧ cst l s' ≤ cst l s := by
 obtain ⟨hf, b, hb, rfl⟩ := (best_facts l x B).1 s hs
 have hf' : fitB l (selF b l.length) y = true := by
  simp only [fitB, Bool.and_eq_true, decide_eq_true_eq] at hf ⊢
  omega
 obtain ⟨s', e, hn⟩ := (best_facts l y B).2 b hb hf'
 refine ⟨s', e, ?_⟩
 unfold NoW at hn
 omega

/-! a pack more -/

theorem atI_more {l : List PackI} (m : PackI) {s : List Int} (h : InR l.length s) {k : Nat} (hk : k < s.length) : atI (l ++ [m]) s k = atI l s k := by
 obtain ⟨a1, _, a3⟩ := h.at hk
 have h1 := h s[k] (List.getElem_mem hk)
 have hg : s.getD k 0 = s[k] := by simp [List.getD_eq_getElem?_getD, List.getElem?_eq_getElem hk]
 unfold atI
 rw [hg]
 simp [List.getD_eq_getElem?_getD, List.getElem?_append_left a1]
theorem sums_more {l : List PackI} (m : PackI) {s : List Int} (h : InR l.length s) : ∀ k, k ≤ s.length → impF (l ++ [m]) s k = impF l s k ∧ cstF (l ++ [m]) s k = cstF l s k
 | 0, _ => ⟨rfl, rfl⟩
 | k + 1, hk => by
  obtain ⟨h1, h2⟩ := sums_more m h k (by omega)
  have ha := atI_more m h (show k < s.length by omega)
  refine ⟨?_, ?_⟩ <;> simp only [impF, cstF, h1, h2, ha]
theorem fit_more {l : List PackI} (m : PackI) {s : List Int} (h : InR l.length s) (x : Int × Int) : fitB (l ++ [m]) s x = fitB l s x := by
 simp only [fitB, (sums_more m h s.length (Nat.le_refl _)).1]
theorem cst_more {l : List PackI} (m : PackI) {s : List Int} (h : InR l.length s) : cst (l ++ [m]) s = cst l s := (sums_more m h s.length (Nat.le_refl _)).2
theorem imp_more {l : List PackI} (m : PackI) {s : List Int} (h : InR l.length s) : impS (l ++ [m]) s = impS l s := (sums_more m h s.length (Nat.le_refl _)).1

theorem selF_mod (n : Nat) (b : Nat) : ∀ k, k ≤ n → selF (b % 2 ^ n) k = selF b k
 | 0, _ => rfl
 | k + 1, hk => by
  have ih := selF_mod n b k (by omega)
  have hb : b % 2 ^ n / 2 ^ k % 2 = b / 2 ^ k % 2 := by
   have e : 2 ^ n = 2 ^ k * (2 * 2 ^ (n - k - 1)) := by
    rw [← Nat.pow_succ', ← Nat.pow_add]
    congr 1
    omega
   rw [e, Nat.mod_mul_right_div_self, Nat.mod_mul_right_mod]
  simp only [selF, ih, hb]
theorem sel_more_lo {n b : Nat} (h : b < 2 ^ n) : selF b (n + 1) = selF b n := by
 simp only [selF, Nat.div_eq_of_lt h]
 rfl
theorem sel_more_hi {n b : Nat} (h : 2 ^ n ≤ b) (h2 : b < 2 ^ (n + 1)) : selF b (n + 1) = selF (b % 2 ^ n) n ++ [(n : Int)] := by
 have e : b / 2 ^ n = 1 := by
  rw [Nat.pow_succ] at h2
  exact (Nat.div_eq_iff (Nat.pow_pos (by decide))).2 ⟨by omega, by omega⟩
 rw [selF_mod n b n (Nat.le_refl _)]
 simp only [selF, e]
 rfl
theorem inR_sel (b n : Nat) : InR n (selF b n) := (selF_in b n).1
theorem best_lo {l : List PackI} (m : PackI) (x : Int × Int) : ∀ B, B ≤ 2 ^ l.length → bestF (l ++ [m]) x B = bestF l x B
 | 0, _ => rfl
 | B + 1, h => by
  have ih := best_lo (l := l) m x B (by omega)
  have hs : selF B (l ++ [m]).length = selF B l.length := by
   rw [List.length_append, List.length_singleton]
   exact sel_more_lo (by omega)
  have hin := inR_sel B l.length
  simp only [bestF, hs, ih]
  have ha : accB (l ++ [m]) x (selF B l.length) (bestF l x B) = accB l x (selF B l.length) (bestF l x B) := by
   unfold accB
   rw [fit_more m hin]
   cases ho : bestF l x B with
   | none => rfl
   | some o =>
    obtain ⟨_, b, _, rfl⟩ := (best_facts l x B).1 o ho
    simp only [betterB, cst_more m hin, cst_more m (inR_sel b l.length)]
  rw [ha]
theorem best_hi {l : List PackI} {m : PackI} (hc : m.cost = 0) (hi : impI m = 0) (x : Int × Int) : ∀ k, k ≤ 2 ^ l.length → bestF (l ++ [m]) x (2 ^ l.length + k) = bestF l x (2 ^ l.length)
 | 0, _ => best_lo m x _ (Nat.le_refl _)
 | k + 1, h => by
  have ih := best_hi (l := l) hc hi x k (by omega)
  have hb2 : 2 ^ l.length + k < 2 ^ (l.length + 1) := by rw [Nat.pow_succ]; omega
  have hml : (2 ^ l.length + k) % 2 ^ l.length = k := by rw [Nat.add_mod_left, Nat.mod_eq_of_lt (by omega)]
  have hs : selF (2 ^ l.length + k) (l ++ [m]).length = selF k l.length ++ [(l.length : Int)] := by
   rw [List.length_append, List.length_singleton, sel_more_hi (by omega) hb2, hml]
  have e : 2 ^ l.length + (k + 1) = 2 ^ l.length + k + 1 := rfl
  rw [e]
  simp only [bestF, hs, ih]
  have hin := inR_sel k l.length
  have hl1 : l.length < (l ++ [m]).length := by simp
  obtain ⟨s1, s2⟩ := sums_snoc (l ++ [m]) (selF k l.length) l.length hl1
  have hm : (l ++ [m])[l.length]'hl1 = m := by simp
  rw [hm, hi, imp_more m hin, Int.add_zero] at s1
  rw [hm, hc, cst_more m hin, Int.add_zero] at s2
  have hf : fitB (l ++ [m]) (selF k l.length ++ [(l.length : Int)]) x = fitB l (selF k l.length) x := by
   have : fitB (l ++ [m]) (selF k l.length ++ [(l.length : Int)]) x = (decide (x.1 ≤ impS (l ++ [m]) (selF k l.length ++ [(l.length : Int)])) && decide (impS (l ++ [m]) (selF k l.length ++ [(l.length : Int)]) ≤ x.2)) := rfl
   rw [this, s1]
   rfl
  have hlen : (selF k l.length ++ [(l.length : Int)]).length = (selF k l.length).length + 1 := by simp
  have ha : accB (l ++ [m]) x (selF k l.length ++ [(l.length : Int)]) (bestF l x (2 ^ l.length)) = false := by
   unfold accB
   rw [hf]
   cases hfk : fitB l (selF k l.length) x with
   | false => rfl
   | true =>
    obtain ⟨o, ho, hn⟩ := (best_facts l x (2 ^ l.length)).2 k (by omega) hfk
    obtain ⟨_, b, _, hob⟩ := (best_facts l x (2 ^ l.length)).1 o ho
    have hco : cst (l ++ [m]) o = cst l o := cst_more m (hob ▸ inR_sel b l.length)
    rw [ho]
    simp only [betterB, s2, hco, Bool.true_and, Bool.or_eq_false_iff, decide_eq_false_iff_not, Bool.and_eq_false_iff]
    unfold NoW at hn
    refine ⟨by omega, ?_⟩
    rcases hn with q | ⟨q1, q2⟩
    ·exact .inl (by omega)
    ·right
     unfold beforeB
     rw [if_neg (by omega)]
     exact decide_eq_false (by omega)
  rw [ha]
  rfl
theorem best_more {l : List PackI} {m : PackI} (hc : m.cost = 0) (hi : impI m = 0) (x : Int × Int) : bestF (l ++ [m]) x (2 ^ (l ++ [m]).length) = bestF l x (2 ^ l.length) := by
 have e : 2 ^ (l ++ [m]).length = 2 ^ l.length + 2 ^ l.length := by rw [List.length_append, List.length_singleton, Nat.pow_succ]; omega
 rw [e]
 exact best_hi hc hi x _ (Nat.le_refl _)
end Fw
