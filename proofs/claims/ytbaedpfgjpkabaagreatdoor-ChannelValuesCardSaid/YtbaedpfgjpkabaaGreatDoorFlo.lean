/- Floating point numbers: what is written is read as it was, where the format has the number. -/
import Derived.Test.YtbaedpfgjpkabaaGreatDoorFwC
namespace Fw
open Go Ieee

/-- the magnitude of a datum, in units of 2^-2000 -/
def V (m : Nat) (p : Int) : Nat := m * 2 ^ (p + 2000).toNat

theorem V_shift (m t : Nat) (p : Int) (hp : -2000 ≤ p) : V (m * 2 ^ t) p = V m (p + t) := by
  unfold V
  rw [show (p + t + 2000).toNat = t + (p + 2000).toNat by omega, Nat.pow_add, Nat.mul_assoc]
theorem V_le {m n : Nat} (p : Int) (h : m ≤ n) : V m p ≤ V n p := Nat.mul_le_mul_right _ h
theorem V_lt {m n : Nat} (p : Int) (h : m < n) : V m p < V n p := Nat.mul_lt_mul_of_pos_right h (Nat.two_pow_pos _)
theorem V_lt_of {m n : Nat} {p : Int} (h : V m p < V n p) : m < n := Nat.lt_of_mul_lt_mul_right h
theorem V_le_of {m n : Nat} {p : Int} (h : V m p ≤ V n p) : m ≤ n := Nat.le_of_mul_le_mul_right h (Nat.two_pow_pos _)
theorem V_one (t : Nat) (p : Int) (hp : -2000 ≤ p) : V (2 ^ t) p = 2 ^ (p + t + 2000).toNat := by
  have := V_shift 1 t p hp
  rw [Nat.one_mul] at this
  rw [this]; simp [V]
theorem pow_le_of {a b : Int} (h : a ≤ b) : 2 ^ a.toNat ≤ 2 ^ b.toNat := Nat.pow_le_pow_right (by decide) (by omega)
theorem pow_lt_of {a b : Int} (h : 2 ^ a.toNat < 2 ^ b.toNat) (h0 : 0 ≤ a) : a < b := by
  have := (Nat.pow_lt_pow_iff_right (a := 2) (by decide)).1 h
  omega

theorem small_pow (n c t : Nat) (h : n < 2 ^ c) : n * 2 ^ t < 2 ^ (c + t) := by rw [Nat.pow_add]; exact Nat.mul_lt_mul_of_pos_right h (Nat.two_pow_pos t)
theorem V_ge (p : Int) (T : Nat) (h : T ≤ (p + 2000).toNat) : 2 ^ T ≤ V 1 p := by unfold V; rw [Nat.one_mul]; exact Nat.pow_le_pow_right (by decide) h
theorem V_fits (n c : Nat) (h : n < 2 ^ c) : ∃ T, T = c + 2000 ∧ V n 0 < 2 ^ T := by
  refine ⟨_, rfl, ?_⟩
  unfold V
  exact small_pow n c _ h
/-! cutting -/
theorem cut_gap (n drop : Nat) : n / (1 <<< min drop (n.log2 + 2)) = n / 2 ^ drop ∧ n % (1 <<< min drop (n.log2 + 2)) = n % 2 ^ drop := by
  rw [Nat.one_shiftLeft]
  by_cases h : drop ≤ n.log2 + 2
  · rw [Nat.min_eq_left h]; exact ⟨rfl, rfl⟩
  · rw [Nat.min_eq_right (by omega)]
    have h1 : n < 2 ^ (n.log2 + 1) := Nat.lt_log2_self
    have h2 : 2 ^ (n.log2 + 1) ≤ 2 ^ (n.log2 + 2) := Nat.pow_le_pow_right (by decide) (by omega)
    have h3 : 2 ^ (n.log2 + 2) ≤ 2 ^ drop := Nat.pow_le_pow_right (by decide) (by omega)
    rw [Nat.div_eq_of_lt (by omega), Nat.div_eq_of_lt (by omega), Nat.mod_eq_of_lt (by omega), Nat.mod_eq_of_lt (by omega)]
    exact ⟨rfl, rfl⟩
theorem cut_zero (s : Bool) (n drop : Nat) : Toward.zero.cut s n drop = n / 2 ^ drop := by
  simp only [Toward.cut, (cut_gap n drop).1, Bool.toNat_false, Nat.add_zero]
theorem cut_down (s : Bool) (n drop : Nat) : Toward.down.cut s n drop = n / 2 ^ drop + (s && n % 2 ^ drop != 0).toNat := by
  simp only [Toward.cut, (cut_gap n drop).1, (cut_gap n drop).2]
theorem cut_even (s : Bool) (n drop : Nat) (h : n % 2 ^ drop = 0) : Toward.even.cut s n drop = n / 2 ^ drop := by
  have hp : 0 < 1 <<< min drop (n.log2 + 2) := by rw [Nat.one_shiftLeft]; exact Nat.two_pow_pos _
  have h0 : ((1 <<< min drop (n.log2 + 2)) == 2 * 0) = false := by rw [beq_eq_false_iff_ne]; omega
  simp only [Toward.cut, (cut_gap n drop).1, (cut_gap n drop).2, h, h0]
  simp

theorem cut_up (k m n t : Nat) (e : t = m + n) : k / 2 ^ m = k * 2 ^ n / 2 ^ t ∧ (k % 2 ^ m = 0 ↔ k * 2 ^ n % 2 ^ t = 0) := by
  subst e
  have e2 : 2 ^ (m + n) = 2 ^ m * 2 ^ n := Nat.pow_add 2 m n
  have hn : 0 < 2 ^ n := Nat.two_pow_pos n
  rw [e2, Nat.mul_div_mul_right _ _ hn, Nat.mul_mod_mul_right]
  refine ⟨rfl, fun h => by rw [h, Nat.zero_mul], fun h => ?_⟩
  rcases Nat.mul_eq_zero.1 h with h | h
  · exact h
  · exact absurd h (Nat.ne_of_gt hn)
theorem cut_low (k a b t : Nat) (e : b = a + t) : k * 2 ^ a / 2 ^ 0 = k * 2 ^ b / 2 ^ t ∧ (k * 2 ^ a % 2 ^ 0 = 0 ↔ k * 2 ^ b % 2 ^ t = 0) := by
  subst e
  have ht : 0 < 2 ^ t := Nat.two_pow_pos t
  rw [Nat.pow_add, ← Nat.mul_assoc, Nat.mul_div_cancel _ ht, Nat.pow_zero, Nat.div_one, Nat.mod_one, Nat.mul_mod_left]
  exact ⟨rfl, by simp⟩
theorem cut_var (k : Nat) (q : Int) (t b : Nat) (hq : -(t : Int) ≤ q) (hb : b = (q + t).toNat) : (k <<< q.toNat) / 2 ^ (-q).toNat = k * 2 ^ b / 2 ^ t ∧ ((k <<< q.toNat) % 2 ^ (-q).toNat = 0 ↔ k * 2 ^ b % 2 ^ t = 0) := by
  rw [Nat.shiftLeft_eq]
  by_cases h : 0 ≤ q
  · rw [show (-q).toNat = 0 by omega]
    exact cut_low k q.toNat b t (by omega)
  · rw [show q.toNat = 0 by omega, Nat.pow_zero, Nat.mul_one]
    exact cut_up k (-q).toNat b t (by omega)

/-- the whole part of a datum -/
theorem V_cut (k : Nat) (q : Int) (hq : -2000 ≤ q) : (k <<< q.toNat) / 2 ^ (-q).toNat = V k q / 2 ^ 2000 ∧ ((k <<< q.toNat) % 2 ^ (-q).toNat = 0 ↔ V k q % 2 ^ 2000 = 0) :=
  cut_var k q 2000 (q + 2000).toNat hq rfl

/-! words -/
theorem word_read (f : Format) (s : Bool) {r : Nat} (h : r < f.signWeight) : (f.word s r / f.signWeight % 2 == 1) = s ∧ f.word s r % f.signWeight = r := by
  have hp : 0 < f.signWeight := by omega
  cases s
  · simp [Format.word, Nat.div_eq_of_lt h, Nat.mod_eq_of_lt h]
  · simp only [Format.word, if_true, Nat.add_mod_left, Nat.mod_eq_of_lt h, Nat.add_div_left _ hp, Nat.div_eq_of_lt h]
    exact ⟨rfl, trivial⟩

theorem read_word (f : Format) (s : Bool) (kept : Nat) (last : Int) (h1 : f.leastPlace ≤ last) (h2 : kept < 2 ^ (f.fractionBits + 1)) (h3 : last = f.leastPlace ∨ 2 ^ f.fractionBits ≤ kept) (h4 : (last - f.leastPlace).toNat + 2 ≤ 2 ^ f.exponentBits - 1) :
    (last - f.leastPlace).toNat * f.binade + kept < f.infRung ∧ f.read (f.word s ((last - f.leastPlace).toNat * f.binade + kept)) = .number s kept last := by
  have hb : 0 < f.binade := Nat.two_pow_pos _
  have hk2 : kept < 2 * f.binade := by rw [Nat.pow_succ] at h2; simp only [Format.binade]; omega
  generalize ht : (last - f.leastPlace).toNat = t at *
  have hin : t * f.binade + kept < f.infRung := by
    have : (t + 2) * f.binade ≤ (2 ^ f.exponentBits - 1) * f.binade := Nat.mul_le_mul_right _ h4
    rw [Nat.add_mul] at this
    simp only [Format.infRung]; omega
  refine ⟨hin, ?_⟩
  have hsw : f.infRung < f.signWeight := by
    have h : 0 < 2 ^ f.exponentBits := Nat.two_pow_pos _
    unfold Format.infRung Format.signWeight
    rw [Nat.pow_add]
    exact Nat.mul_lt_mul_of_pos_right (by omega) hb
  obtain ⟨w1, w2⟩ := word_read f s (r := t * f.binade + kept) (by omega)
  unfold Format.read
  simp only [w1, w2]
  by_cases h : t * f.binade + kept < f.binade
  · rw [if_pos h]
    have ht0 : t = 0 := by
      rcases Nat.eq_zero_or_pos t with e | e
      · exact e
      · have : f.binade ≤ t * f.binade := Nat.le_mul_of_pos_left _ e
        omega
    subst ht0
    have : last = f.leastPlace := by omega
    rw [Nat.zero_mul, Nat.zero_add, this]
  · rw [if_neg h, if_pos hin]
    have hk : f.binade ≤ kept := by
      rcases h3 with e | e
      · have : t = 0 := by omega
        subst this
        omega
      · exact e
    have d1 : (t * f.binade + kept) / f.binade = t + 1 := by
      rw [Nat.mul_comm, Nat.mul_add_div hb]
      have : kept / f.binade = 1 := by
        rw [Nat.div_eq_iff hb]; omega
      omega
    have d2 : (t * f.binade + kept) % f.binade = kept - f.binade := by
      rw [Nat.mul_comm, Nat.mul_add_mod, Nat.mod_eq_sub_mod hk, Nat.mod_eq_of_lt (by omega)]
    rw [d1, d2]
    congr 1 <;> omega

/-- a number that the format has is written, and read again, as it is -/
theorem nearest_exact (f : Format) (B : Nat) (hl : -2000 ≤ f.leastPlace) (hB : (B : Int) - f.fractionBits ≤ (2 ^ f.exponentBits - 3 : Nat) + f.leastPlace) (h8 : 3 ≤ 2 ^ f.exponentBits) (s : Bool) (mag : Nat) (place : Int) (hp : -2000 ≤ place)
    {k : Nat} {q : Int} (hk : k < 2 ^ (f.fractionBits + 1)) (hq : f.leastPlace ≤ q) (hV : V mag place = V k q) {T : Nat} (hT : T ≤ B + 2000) (hb : V mag place < 2 ^ T) :
    ∃ k' q', f.read (f.nearest s mag place) = .number s k' q' ∧ V k' q' = V mag place ∧ k' < 2 ^ (f.fractionBits + 1) ∧ f.leastPlace ≤ q' := by
  by_cases h0 : mag = 0
  · subst h0
    have hz : f.nearest s 0 place = f.word s ((f.leastPlace - f.leastPlace).toNat * f.binade + 0) := by simp [Format.nearest]
    obtain ⟨_, h2⟩ := read_word f s 0 f.leastPlace (by omega) (Nat.two_pow_pos _) (.inl rfl) (by omega)
    exact ⟨0, f.leastPlace, by rw [hz, h2], by simp [V], Nat.two_pow_pos _, by omega⟩
  · have hL1 : 2 ^ mag.log2 ≤ mag := Nat.log2_self_le h0
    have hL2 : mag < 2 ^ (mag.log2 + 1) := Nat.lt_log2_self
    generalize hL : mag.log2 = L at *
    have vlo : 2 ^ (place + L + 2000).toNat ≤ V mag place := by rw [← V_one L place hp]; exact V_le _ hL1
    have vhi : V mag place < 2 ^ (place + (L + 1 : Nat) + 2000).toNat := by rw [← V_one (L + 1) place hp]; exact V_lt _ hL2
    have vk : V k q < 2 ^ (q + (f.fractionBits + 1 : Nat) + 2000).toNat := by rw [← V_one (f.fractionBits + 1) q (by omega)]; exact V_lt _ hk
    have hLq : place + L < q + (f.fractionBits + 1 : Nat) := by
      have := pow_lt_of (Nat.lt_of_le_of_lt vlo (hV ▸ vk)) (by omega)
      omega
    -- the kept digits
    have hkept : ∃ kept, Toward.even.cut s (mag <<< (place - max (place + L - f.fractionBits) f.leastPlace).toNat) (max (place + L - f.fractionBits) f.leastPlace - place).toNat = kept ∧ V kept (max (place + L - f.fractionBits) f.leastPlace) = V mag place := by
      generalize hla : max (place + L - f.fractionBits) f.leastPlace = last
      have hlq : last ≤ q := by omega
      by_cases hc : last ≤ place
      · have e : (last - place).toNat = 0 := by omega
        refine ⟨mag * 2 ^ (place - last).toNat, ?_, ?_⟩
        · rw [e, cut_even _ _ _ (by rw [Nat.pow_zero, Nat.mod_one]), Nat.pow_zero, Nat.div_one, Nat.shiftLeft_eq]
        · rw [V_shift _ _ _ (by omega)]; congr 1; omega
      · have e : (place - last).toNat = 0 := by omega
        -- the digits that are dropped are none
        have hm : mag = k * 2 ^ (q - place).toNat := by
          have : V (k * 2 ^ (q - place).toNat) place = V k q := by rw [V_shift _ _ _ hp]; congr 1; omega
          rw [← this] at hV
          exact Nat.mul_right_cancel (Nat.two_pow_pos _) hV
        have hs : 2 ^ (q - place).toNat = 2 ^ (q - last).toNat * 2 ^ (last - place).toNat := by rw [← Nat.pow_add]; congr 1; omega
        rw [hs, ← Nat.mul_assoc] at hm
        have hmod : mag % 2 ^ (last - place).toNat = 0 := by rw [hm, Nat.mul_mod_left]
        have hdiv : mag / 2 ^ (last - place).toNat = k * 2 ^ (q - last).toNat := by rw [hm, Nat.mul_div_cancel _ (Nat.two_pow_pos _)]
        refine ⟨k * 2 ^ (q - last).toNat, ?_, ?_⟩
        · rw [e, Nat.shiftLeft_eq, Nat.pow_zero, Nat.mul_one, cut_even _ _ _ hmod, hdiv]
        · rw [V_shift _ _ _ (by omega), hV]; congr 1; omega
    obtain ⟨kept, hc, hVk⟩ := hkept
    have hn : f.nearest s mag place = f.word s (min ((max (place + L - f.fractionBits) f.leastPlace - f.leastPlace).toNat * f.binade + kept) f.infRung) := by
      unfold Format.nearest
      rw [if_neg h0]
      simp only [hL, hc]
    generalize hla : max (place + L - f.fractionBits) f.leastPlace = last at *
    have hk1 : kept < 2 ^ (f.fractionBits + 1) := by
      refine V_lt_of (p := last) ?_
      rw [V_one _ _ (by omega), hVk]
      exact Nat.lt_of_lt_of_le vhi (pow_le_of (by omega))
    have hk2 : last = f.leastPlace ∨ 2 ^ f.fractionBits ≤ kept := by
      by_cases e : last = f.leastPlace
      · exact .inl e
      · refine .inr (V_le_of (p := last) ?_)
        rw [V_one _ _ (by omega), hVk]
        exact Nat.le_trans (pow_le_of (by omega)) vlo
    have hk3 : (last - f.leastPlace).toNat + 2 ≤ 2 ^ f.exponentBits - 1 := by
      rcases hk2 with e | e
      · rw [e]; omega
      · have v1 : 2 ^ (last + f.fractionBits + 2000).toNat ≤ V kept last := by rw [← V_one _ _ (by omega)]; exact V_le _ e
        rw [hVk] at v1
        have v2 : 2 ^ (last + f.fractionBits + 2000).toNat < 2 ^ ((T : Int)).toNat := Nat.lt_of_le_of_lt v1 (by rw [Int.toNat_natCast]; exact hb)
        have := pow_lt_of v2 (by omega)
        omega
    obtain ⟨r1, r2⟩ := read_word f s kept last (by omega) hk1 hk2 hk3
    exact ⟨kept, last, by rw [hn, Nat.min_eq_left (by omega), r2], hVk, hk1, by omega⟩

theorem exact32 (s : Bool) (mag : Nat) (place : Int) (hp : -2000 ≤ place) {k : Nat} {q : Int} (hk : k < 2 ^ 24) (hq : -149 ≤ q) (hV : V mag place = V k q) {T : Nat} (hT : T ≤ 2100) (hb : V mag place < 2 ^ T) :
    ∃ k' q', single.read (single.nearest s mag place) = .number s k' q' ∧ V k' q' = V mag place ∧ k' < 2 ^ 24 ∧ -149 ≤ q' :=
  nearest_exact single 100 (by decide) (by decide) (by decide) s mag place hp hk hq hV hT hb
theorem exact64 (s : Bool) (mag : Nat) (place : Int) (hp : -2000 ≤ place) {k : Nat} {q : Int} (hk : k < 2 ^ 53) (hq : -1074 ≤ q) (hV : V mag place = V k q) {T : Nat} (hT : T ≤ 3000) (hb : V mag place < 2 ^ T) :
    ∃ k' q', double.read (double.nearest s mag place) = .number s k' q' ∧ V k' q' = V mag place ∧ k' < 2 ^ 53 ∧ -1074 ≤ q' :=
  nearest_exact double 1000 (by decide) (by decide) (by decide) s mag place hp hk hq hV hT hb

/-- what a word of 32 bits may be -/
theorem read32 (b : Nat) {s : Bool} {m : Nat} {p : Int} (h : single.read b = .number s m p) : m < 2 ^ 24 ∧ -149 ≤ p ∧ p ≤ 104 := by
  have hb : single.binade = 2 ^ 23 := rfl
  have hi : single.infRung = 255 * 2 ^ 23 := rfl
  have hl : single.leastPlace = -149 := by decide
  unfold Format.read at h
  simp only [hb, hi, hl] at h
  generalize b % single.signWeight = r at h
  split at h
  · injection h with h1 h2 h3
    omega
  · split at h
    · injection h with h1 h2 h3
      have : r % 2 ^ 23 < 2 ^ 23 := Nat.mod_lt _ (by decide)
      have : r / 2 ^ 23 < 255 := by omega
      omega
    · split at h <;> cases h

/-! order -/
def sV (s : Bool) (m : Nat) (p : Int) : Int := if s then -(V m p : Int) else (V m p : Int)
theorem order_eq (s t : Bool) (m n : Nat) (i j : Int) (hi : -2000 ≤ i) (hj : -2000 ≤ j) : Datum.order (.number s m i) (.number t n j) = some (compare (sV s m i) (sV t n j)) := by
  have key : ∀ (s : Bool) (m : Nat) (i : Int), -2000 ≤ i → ∀ b : Int, -2000 ≤ b → b ≤ i → sV s m i = signed s m (i - b).toNat * (2 ^ (b + 2000).toNat : Nat) := by
    intro s m i hi b hb hbi
    have e : V m i = (m <<< (i - b).toNat) * 2 ^ (b + 2000).toNat := by
      unfold V
      rw [Nat.shiftLeft_eq, Nat.mul_assoc, ← Nat.pow_add]; congr 2; omega
    cases s <;> simp only [sV, signed, e, if_true, Bool.false_eq_true, if_false, Int.natCast_mul, Int.neg_mul]
  have k1 := key s m i hi (min i j) (by omega) (by omega)
  have k2 := key t n j hj (min i j) (by omega) (by omega)
  simp only [Datum.order, k1, k2]
  generalize signed s m (i - min i j).toNat = x
  generalize signed t n (j - min i j).toNat = y
  have hP : (0 : Int) < (2 ^ (min i j + 2000).toNat : Nat) := Int.natCast_pos.2 (Nat.two_pow_pos _)
  generalize ((2 ^ (min i j + 2000).toNat : Nat) : Int) = P at *
  congr 1
  simp only [compare, compareOfLessAndEq]
  by_cases h1 : x < y
  · have : x * P < y * P := Int.mul_lt_mul_of_pos_right h1 hP
    simp [h1, this]
  · by_cases h2 : x = y
    · subst h2; simp
    · have h3 : y < x := by omega
      have : y * P < x * P := Int.mul_lt_mul_of_pos_right h3 hP
      have h4 : ¬ x * P < y * P := by omega
      have h5 : ¬ x * P = y * P := by omega
      simp [h1, h2, h4, h5]
end Fw
