/- Numerals: a number from its digits, and back. -/
import Derived.Test.YtbaedpfgjpkabaaGreatDoorChKs
set_option maxHeartbeats 4000000
namespace Fw
open Go

theorem natS_dec {n : Nat} (h : n < 10000000000000000000) : natS n = Lib.decDigits n := by
  unfold natS
  have h20 : (10 : Nat) ^ 20 = 100000000000000000000 := by decide
  rw [digsF_eq 20 n [] (by omega) (by omega), List.append_nil]
theorem natS_lo {n : Nat} (h : n < 10) : natS n = [UInt8.ofNat (48 + n)] := by
  rw [natS_dec (by omega), Lib.decDigits]; simp [h]
theorem natS_hi {n : Nat} (h : 10 ≤ n) (h2 : n < 10000000000000000000) : natS n = natS (n / 10) ++ [UInt8.ofNat (48 + n % 10)] := by
  have h' : ¬ n < 10 := by omega
  rw [natS_dec h2, Lib.decDigits, dif_neg h', natS_dec (n := n / 10) (by omega)]

theorem valF_app (a : List UInt8) (c : UInt8) : ∀ k, k ≤ a.length → valF (a ++ [c]) k = valF a k := by
  intro k
  induction k with
  | zero => intro _; rfl
  | succ k ih =>
    intro hk
    have hg : (a ++ [c]).getD k 0 = a.getD k 0 := by
      simp only [List.getD_eq_getElem?_getD]
      rw [List.getElem?_append_left (by omega)]
    simp only [valF, hg, ih (by omega)]
theorem digV_snoc (a : List UInt8) (c : UInt8) : digV (a ++ [c]) = 10 * digV a + ((c.toNat : Int) - 48) := by
  have hg : (a ++ [c]).getD a.length 0 = c := by simp [List.getD_eq_getElem?_getD]
  simp only [digV, List.length_append, List.length_singleton, valF, valF_app a c a.length (Nat.le_refl _), hg]

theorem ofNat_dig {k : Nat} (h : k < 10) : (UInt8.ofNat (48 + k)).toNat = 48 + k := by
  have : ∀ k, k < 10 → (UInt8.ofNat (48 + k)).toNat = 48 + k := by decide
  exact this k h
theorem dig_ofNat {c : UInt8} (h : digB c = true) : UInt8.ofNat (48 + (c.toNat - 48)) = c := by
  simp only [digB, Bool.and_eq_true, decide_eq_true_eq] at h
  apply UInt8.toNat_inj.1
  have := ofNat_dig (k := c.toNat - 48) (by omega)
  rw [this]; omega

/-- a numeral that is printed: digits alone, no zero ahead, and its number -/
theorem nat_dig : ∀ (f n : Nat), n < 10 ^ f → f ≤ 19 → (natS n).all digB = true ∧ natS n ≠ [] ∧ (1 ≤ n → (natS n).getD 0 0 ≠ 48) ∧ digV (natS n) = n ∧ (n < 10 → (natS n).length = 1) := by
  intro f
  induction f with
  | zero =>
    intro n h _
    have : n = 0 := by simpa using h
    subst this
    exact ⟨by decide, by decide, fun h => absurd h (by decide), by decide, fun _ => by decide⟩
  | succ f ih =>
    intro n h hf
    have hp : n < 10000000000000000000 := Nat.lt_of_lt_of_le h (by
      have : 10 ^ (f + 1) ≤ 10 ^ 19 := Nat.pow_le_pow_right (by decide) (by omega)
      exact this)
    by_cases h10 : n < 10
    · have hs := natS_lo h10
      have ho := ofNat_dig h10
      rw [hs]
      refine ⟨?_, by simp, fun h1 => ?_, ?_, fun _ => rfl⟩
      · simp only [List.all_cons, List.all_nil, Bool.and_true, digB, ho, Bool.and_eq_true, decide_eq_true_eq]; omega
      · intro e
        have e' : UInt8.ofNat (48 + n) = 48 := e
        rw [e'] at ho
        have : (48 : UInt8).toNat = 48 := rfl
        omega
      · show 10 * (0 : Int) + _ = _
        have hg : ([UInt8.ofNat (48 + n)] : List UInt8).getD 0 0 = UInt8.ofNat (48 + n) := rfl
        rw [hg, ho]; omega
    · have hs := natS_hi (n := n) (by omega) hp
      have hq : n / 10 < 10 ^ f := by rw [Nat.pow_succ] at h; omega
      obtain ⟨i1, i2, i3, i4, _⟩ := ih (n / 10) hq (by omega)
      have ho := ofNat_dig (k := n % 10) (by omega)
      rw [hs]
      refine ⟨?_, by simp, fun _ => ?_, ?_, fun h => absurd h h10⟩
      · rw [List.all_append, i1]
        simp only [List.all_cons, List.all_nil, Bool.and_true, Bool.true_and, digB, ho, Bool.and_eq_true, decide_eq_true_eq]; omega
      · have := i3 (by omega)
        have hl : 0 < (natS (n / 10)).length := List.length_pos_iff.2 i2
        simp only [List.getD_eq_getElem?_getD] at this ⊢
        rwa [List.getElem?_append_left hl]
      · rw [digV_snoc, i4, ho]; omega
theorem natS_len : ∀ (f n : Nat), 0 < f → n < 10 ^ f → f ≤ 19 → (natS n).length ≤ f := by
  intro f
  induction f with
  | zero => intro n h; omega
  | succ f ih =>
    intro n _ h hf
    by_cases h10 : n < 10
    · rw [natS_lo h10]; simp
    · have hp : n < 10000000000000000000 := Nat.lt_of_lt_of_le h (by
        have : 10 ^ (f + 1) ≤ 10 ^ 19 := Nat.pow_le_pow_right (by decide) (by omega)
        exact this)
      rw [natS_hi (n := n) (by omega) hp]
      have hf0 : 0 < f := by
        rcases Nat.eq_zero_or_pos f with e | e
        · subst e; simp at h; omega
        · exact e
      have := ih (n / 10) hf0 (by rw [Nat.pow_succ] at h; omega) (by omega)
      simp; omega
theorem itoaS_pos {n : Int} (h : 0 ≤ n) : itoaS n = natS n.toNat := by rw [itoaS, if_neg (by omega)]
theorem lt9 {n : Int} (h : n ≤ 999999999) : n.toNat < 10 ^ 9 := by
  have : (10 : Nat) ^ 9 = 1000000000 := by decide
  omega
theorem itoa_dig {n : Int} (h0 : 0 ≤ n) (h1 : n ≤ 999999999) : digOk (itoaS n) = true ∧ digV (itoaS n) = n := by
  rw [itoaS_pos h0]
  obtain ⟨a1, a2, a3, a4, a5⟩ := nat_dig 9 n.toNat (lt9 h1) (by decide)
  have hl := natS_len 9 n.toNat (by decide) (lt9 h1) (by decide)
  refine ⟨?_, by rw [a4]; omega⟩
  simp only [digOk, a1, a2, ne_eq, not_false_eq_true, decide_true, Bool.true_and, hl, leadB, Bool.and_true]
  by_cases h : 1 ≤ n.toNat
  · have := a3 h
    simp only [Bool.or_eq_true, bne_iff_ne, ne_eq]
    exact .inr this
  · rw [a5 (by omega)]; rfl

/-- digits without a zero ahead are the numeral of their number -/
theorem dig_nat : ∀ (m : Nat) (a : List UInt8), a.length = m + 1 → m < 18 → a.all digB = true → leadB a = true → 0 ≤ digV a ∧ natS (digV a).toNat = a ∧ digV a < 10 ^ (m + 1) := by
  intro m
  induction m with
  | zero =>
    intro a hl _ hd _
    match a, hl with
    | [c], _ =>
      have hc : digB c = true := by simpa using hd
      have hb := hc
      simp only [digB, Bool.and_eq_true, decide_eq_true_eq] at hb
      have hv : digV [c] = (c.toNat : Int) - 48 := by
        show 10 * (0 : Int) + _ = _
        have hg : ([c] : List UInt8).getD 0 0 = c := rfl
        rw [hg]; omega
      rw [hv]
      have h10 : (10 : Int) ^ (0 + 1) = 10 := by decide
      refine ⟨by omega, ?_, by omega⟩
      have e : ((c.toNat : Int) - 48).toNat = c.toNat - 48 := by omega
      rw [e, natS_lo (by omega), dig_ofNat hc]
  | succ m ih =>
    intro a hl hm hd hld
    obtain ⟨b, c, rfl⟩ : ∃ b c, a = b ++ [c] := ⟨a.dropLast, a.getLast (by intro e; subst e; simp at hl), (List.dropLast_concat_getLast _).symm⟩
    have hbl : b.length = m + 1 := by simpa using hl
    rw [List.all_append, Bool.and_eq_true] at hd
    have hc : digB c = true := by simpa using hd.2
    have hb := hc
    simp only [digB, Bool.and_eq_true, decide_eq_true_eq] at hb
    have hfirst : b.getD 0 0 ≠ 48 := by
      simp only [leadB, List.length_append, List.length_singleton, Bool.or_eq_true, decide_eq_true_eq, bne_iff_ne, ne_eq] at hld
      rcases hld with h | h
      · omega
      · simp only [List.getD_eq_getElem?_getD] at h ⊢
        rwa [List.getElem?_append_left (by omega)] at h
    have hlb : leadB b = true := by simp only [leadB, Bool.or_eq_true, bne_iff_ne, ne_eq]; exact .inr hfirst
    obtain ⟨i1, i2, i3⟩ := ih b hbl (by omega) hd.1 hlb
    have h1 : 1 ≤ digV b := by
      rcases Int.lt_or_le (digV b) 1 with h | h
      · have e : digV b = 0 := by omega
        rw [e] at i2
        have : natS (0 : Int).toNat = [48] := by decide
        rw [this] at i2
        rw [← i2] at hfirst
        exact absurd rfl hfirst
      · exact h
    have hps : (10 : Int) ^ (m + 1 + 1) = 10 * 10 ^ (m + 1) := by rw [Int.pow_succ, Int.mul_comm]
    have hpl : (10 : Int) ^ (m + 1) ≤ 10 ^ 18 := by
      have h := Nat.pow_le_pow_right (n := 10) (by decide) (show m + 1 ≤ 18 by omega)
      exact_mod_cast h
    have hp18 : (10 : Int) ^ 18 = 1000000000000000000 := by decide
    rw [digV_snoc]
    refine ⟨by omega, ?_, by omega⟩
    have e1 : (10 * digV b + ((c.toNat : Int) - 48)).toNat / 10 = (digV b).toNat := by omega
    have e2 : (10 * digV b + ((c.toNat : Int) - 48)).toNat % 10 = c.toNat - 48 := by omega
    rw [natS_hi (by omega) (by omega), e1, e2, i2, dig_ofNat hc]
theorem dig_itoa {a : List UInt8} (h : digOk a = true) : itoaS (digV a) = a := by
  simp only [digOk, Bool.and_eq_true, decide_eq_true_eq] at h
  obtain ⟨⟨⟨h0, h9⟩, hd⟩, hl⟩ := h
  have hp : 0 < a.length := List.length_pos_iff.2 h0
  obtain ⟨i1, i2, _⟩ := dig_nat (a.length - 1) a (by omega) (by omega) hd hl
  rw [itoaS_pos i1, i2]
theorem dig_free {a : List UInt8} {c : UInt8} (h : a.all digB = true) (hc : digB c = false) : c ∉ a := fun hm => by
  rw [List.all_eq_true.1 h c hm] at hc; cases hc
theorem itoa_free {n : Int} (h0 : 0 ≤ n) (h1 : n ≤ 999999999) {c : UInt8} (hc : digB c = false) : c ∉ itoaS n := by
  have h := (itoa_dig h0 h1).1
  simp only [digOk, Bool.and_eq_true, decide_eq_true_eq] at h
  exact dig_free h.1.2 hc

/-- words, joined by a byte -/
def joinB (c : UInt8) : List (List UInt8) → List UInt8
  | [] => []
  | w :: q => match q with
    | [] => w
    | _ :: _ => w ++ c :: joinB c q
theorem joinB_more (c : UInt8) (w : List UInt8) {q : List (List UInt8)} (h : q ≠ []) : joinB c (w :: q) = w ++ c :: joinB c q := by
  cases q with
  | nil => exact absurd rfl h
  | cons y r => rfl
theorem joinB_cons (c b : UInt8) (w : List UInt8) (q : List (List UInt8)) : joinB c ((b :: w) :: q) = b :: joinB c (w :: q) := by
  cases q with
  | nil => rfl
  | cons y r => rfl
theorem split_join (c : UInt8) : ∀ l : List UInt8, joinB c (splitS c l) = l := by
  intro l
  induction l with
  | nil => rfl
  | cons b r ih =>
    simp only [splitS]
    split
    · rename_i h
      rw [joinB_more c [] (splitS_ne c r), ih, h]; rfl
    · split
      · rename_i h
        exact absurd h (splitS_ne c r)
      · rename_i w q h
        rw [joinB_cons, ← h, ih]
/-- lines, each with its end -/
def lnT (ls : List (List UInt8)) : List UInt8 := (ls.map fun l => l ++ [10]).flatten
theorem split_lines : ∀ (ls : List (List UInt8)) (last : List UInt8), (∀ l ∈ ls, (10 : UInt8) ∉ l) → (10 : UInt8) ∉ last → splitS 10 (lnT ls ++ last) = ls ++ [last]
  | [], last, _, h => by simp [lnT, splitS_none h]
  | l :: ls, last, h1, h2 => by
    have e : lnT (l :: ls) ++ last = l ++ 10 :: (lnT ls ++ last) := by simp [lnT]
    rw [e, splitS_at (h1 l (by simp)), split_lines ls last (fun q hq => h1 q (by simp [hq])) h2]
    rfl
theorem join_lines : ∀ (ls : List (List UInt8)) (last : List UInt8), joinB 10 (ls ++ [last]) = lnT ls ++ last
  | [], last => rfl
  | l :: ls, last => by
    rw [List.cons_append, joinB_more 10 l (by simp), join_lines ls last]
    simp [lnT]
end Fw
