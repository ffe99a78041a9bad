/- The two checks of a sample: the reference's. -/
import Derived.Test.YtbaedpfgjpkabaaGreatDoorSmp1
set_option maxHeartbeats 8000000
namespace Fw
open Go Ieee
attribute [local irreducible] evCode evOps evOpsD evOper evOperD evOp evFn loopN T.All T.bind callPure callOp opsK opsDK restK seqK blockK loopS setK setQ giveK scalK gcK finish finS rfunK yldK yldB loopK

theorem cmp_lt (a b : Int) : (some (compare a b) == some Ordering.lt) = decide (a < b) := by
  simp only [compare, compareOfLessAndEq]
  by_cases h : a < b
  · simp [h]
  · by_cases e : a = b <;> simp [h, e]
theorem cmp_gt (a b : Int) : (some (compare a b) == some Ordering.gt) = decide (b < a) := by
  simp only [compare, compareOfLessAndEq]
  by_cases h : a < b
  · have : ¬ b < a := by omega
    simp [h, this]
  · by_cases e : a = b
    · subst e; simp
    · have : b < a := by omega
      simp [h, e, this]
theorem cmp_ne (a b : Int) : (some (compare a b) != some Ordering.eq) = decide (a ≠ b) := by
  simp only [compare, compareOfLessAndEq]
  by_cases h : a < b
  · have : ¬ a = b := by omega
    simp [h, this]
  · by_cases e : a = b
    · subst e; simp
    · simp [h, e]
theorem ord_num {k : FloatKind} {x y : Nat} {s t : Bool} {m n : Nat} {i j : Int} (hx : k.decode x = .number s m i) (hy : k.decode y = .number t n j) (hi : -2000 ≤ i) (hj : -2000 ≤ j) : k.format.order x y = some (compare (sV s m i) (sV t n j)) := by
  unfold Format.order
  rw [show k.format.read x = .number s m i from hx, show k.format.read y = .number t n j from hy]
  exact order_eq s t m n i j hi hj

theorem V_small {m : Nat} {p : Int} (h1 : m < 2 ^ 24) (h2 : -2000 ≤ p) (h3 : p ≤ 104) : ∃ T, T ≤ 2128 ∧ V m p < 2 ^ T := by
  have a := V_lt p h1
  rw [V_one 24 p h2] at a
  exact ⟨_, by omega, a⟩

theorem conv64 {b : Nat} {s : Bool} {m : Nat} {p : Int} (h : single.read b = .number s m p) : ∃ k q, FloatKind.f64.decode (FloatKind.f64.encode (.number s m p)) = .number s k q ∧ V k q = V m p ∧ k < 2 ^ 53 ∧ -1074 ≤ q := by
  obtain ⟨h1, h2, h3⟩ := read32 b h
  have h24 : 2 ^ 24 ≤ 2 ^ 53 := by decide
  obtain ⟨T, hT, hb⟩ := V_small h1 (by omega) h3
  exact exact64 s m p (by omega) (k := m) (q := p) (by omega) (by omega) rfl (T := T) (by omega) hb

theorem mul16_64 {y : Nat} {s : Bool} {k : Nat} {q : Int} (h : double.read y = .number s k q) (hk : k < 2 ^ 53) (hq : -1074 ≤ q) {T : Nat} (hT : T ≤ 2128) (hb : V k q < 2 ^ T) : ∃ r k' q', double.mul 4625196817309499392 y = some r ∧ double.read r = .number s k' q' ∧ V k' q' = 16 * V k q ∧ -1074 ≤ q' := by
  have hV : V (4503599627370496 * k) (-48 + q) = 16 * V k q := by
    have := V_scale 48 k q (by omega) (by omega) 4
    rw [show -48 + q = q - (48 : Nat) by omega]
    exact this
  have hV2 : V k (q + 4) = 16 * V k q := by
    have := V_shift k 4 q (by omega)
    rw [Nat.mul_comm, V_mul] at this
    exact this.symm
  obtain ⟨k', q', e1, e2, e3, e4⟩ := exact64 s (4503599627370496 * k) (-48 + q) (by omega) hk (q := q + 4) (by omega) (by rw [hV, hV2]) (T := 4 + T) (by omega) (by rw [hV, Nat.pow_add]; omega)
  refine ⟨_, k', q', ?_, e1, by rw [e2, hV], e4⟩
  unfold Format.mul
  rw [r16_64, h]
  simp only [Datum.product, Bool.false_xor, Option.map_some, Format.write]

theorem sub_self {b : Nat} {s : Bool} {m : Nat} {p : Int} (h : single.read b = .number s m p) : single.sub b b = some 0 := by
  unfold Format.sub
  rw [h]
  have ht : signed s m 0 + signed (!s) m 0 = 0 := by cases s <;> simp only [signed, Bool.not_true, Bool.not_false, if_true, Bool.false_eq_true, if_false] <;> omega
  have hz : (p - min p p).toNat = 0 := by omega
  simp only [Datum.opposite, Datum.sum, hz, ht, if_true, Option.map_some, Format.write, Format.nearest, Int.natAbs_zero]
  cases s <;> rfl

theorem V16384 : V 4503599627370496 (-38) = 16384 * 2 ^ 2000 := by
  rw [show 4503599627370496 = 16384 * 2 ^ 38 by decide, V_shift _ _ _ (by decide), show (-38 + ((38 : Nat) : Int)) = 0 by decide, V, show ((0 : Int) + 2000).toNat = 2000 by decide]
theorem V1024 : V 8388608 (-13) = 1024 * 2 ^ 2000 := by
  rw [show 8388608 = 1024 * 2 ^ 13 by decide, V_shift _ _ _ (by decide), show (-13 + ((13 : Nat) : Int)) = 0 by decide, V, show ((0 : Int) + 2000).toNat = 2000 by decide]
theorem V_zero (n : Nat) : V n 0 = n * 2 ^ 2000 := by rw [V, show ((0 : Int) + 2000).toNat = 2000 by decide]

theorem nan_sub {b : Nat} (h : ∀ s m p, single.read b ≠ .number s m p) : single.sub b b = none := by
  unfold Format.sub
  cases hr : single.read b with
  | number s m p => exact absurd hr (h s m p)
  | infinity s => cases s <;> rfl
  | nan s t => rfl

theorem nanB32 {i : Nat} : ∃ s t, single.read (nanB .f32 i) = .nan s t := by
  have hb : single.binade = 2 ^ 23 := rfl
  have hi : single.infRung = 255 * 2 ^ 23 := rfl
  have hs : single.signWeight = 2 ^ 31 := rfl
  unfold nanB Format.read
  simp only [hb, hi, hs]
  have h1 : i / 2 % (2 ^ 23 - 1) < 2 ^ 23 - 1 := Nat.mod_lt _ (by decide)
  have h2 : i % 2 < 2 := Nat.mod_lt _ (by decide)
  generalize i / 2 % (2 ^ 23 - 1) = a at *
  generalize i % 2 = c at *
  have hm : (c * 2 ^ 31 + 0x7f800000 + 1 + a) % 2 ^ 31 = 0x7f800000 + 1 + a := by omega
  rw [hm]
  rw [if_neg (by omega), if_neg (by omega), if_neg (by omega)]
  exact ⟨_, _, rfl⟩

theorem nanB64 {i : Nat} : ∃ s t, double.read (nanB .f64 i) = .nan s t := by
  have hb : double.binade = 2 ^ 52 := rfl
  have hi : double.infRung = 2047 * 2 ^ 52 := rfl
  have hs : double.signWeight = 2 ^ 63 := rfl
  unfold nanB Format.read
  simp only [hb, hi, hs]
  have h1 : i / 2 % (2 ^ 52 - 1) < 2 ^ 52 - 1 := Nat.mod_lt _ (by decide)
  have h2 : i % 2 < 2 := Nat.mod_lt _ (by decide)
  generalize i / 2 % (2 ^ 52 - 1) = a at *
  generalize i % 2 = c at *
  have hm : (c * 2 ^ 63 + 0x7ff0000000000000 + 1 + a) % 2 ^ 63 = 0x7ff0000000000000 + 1 + a := by omega
  rw [hm]
  rw [if_neg (by omega), if_neg (by omega), if_neg (by omega)]
  exact ⟨_, _, rfl⟩

theorem neq_nan {k : FloatKind} {x y : Nat} {s : Bool} {t : Nat} (h : k.decode x = .nan s t) : k.format.order x y = none := by
  unfold Format.order
  rw [show k.format.read x = .nan s t from h]
  rfl

section
variable {C : Nat → List AVal → Option (T AVal)} {G : Nat → Option (List PVal)} {d : Nat}

theorem nan_pos32 : 0 < nanN .f32 := by decide
theorem nan_pos64 : 0 < nanN .f64 := by decide
theorem part_nan {b : Nat} (hb : single.sub b b = none) (hC : ∀ as, C 202 as = none) (K : AVal → Prop) (hK : K (.p (.int .i64 1))) : (callPure (evFn F C G (d + 1)) C (.fn 202) [.p (.flt .f32 b), .p (.int .i64 16384)]).All K := by
  rw [call_eq fe202 _ (hC _)]
  have f1 : FloatKind.f32.format.sub b b = none := hb
  have f2 : ∀ i, (FloatKind.f32.format.order (nanB .f32 i) 0 != some .eq) = true := fun i => by
    obtain ⟨s, u, hu⟩ := nanB32 (i := i)
    rw [neq_nan (k := .f32) (y := 0) (x := nanB .f32 i) hu]; rfl
  simp -implicitDefEqProofs [c202, fltBin, f1, nanA, arithB]
  simp -implicitDefEqProofs only [T.All_bind, All_pick]
  refine ⟨nan_pos32, fun i _ => ?_⟩
  have f2i := f2 i
  generalize nanB .f32 i = z at *
  simp -implicitDefEqProofs [fltBin, f2i, hK]

theorem part202 (hC : ∀ as, C 202 as = none) (b : Nat) (K : AVal → Prop) (hK : K (.p (.int .i64 (smpE b)))) : (callPure (evFn F C G (d + 1)) C (.fn 202) [.p (.flt .f32 b), .p (.int .i64 16384)]).All K := by
  by_cases hn : ∃ s m p, single.read b = .number s m p
  · rw [call_eq fe202 _ (hC _)]
    obtain ⟨s, m, p, hr⟩ := hn
    obtain ⟨h1, h2, h3⟩ := read32 b hr
    have f1 : FloatKind.f32.format.sub b b = some 0 := sub_self hr
    have f2 : (FloatKind.f32.format.order 0 0 != some .eq) = false := by decide +kernel
    have f3 : FloatKind.f32.decode b = .number s m p := hr
    obtain ⟨k, q, f4, g2, g3, g4⟩ := conv64 hr
    generalize hy : FloatKind.f64.encode (.number s m p) = y at *
    obtain ⟨T, hT, hb⟩ := V_small h1 (by omega) h3
    obtain ⟨r, k', q', f5, g5, g6, g7⟩ := mul16_64 f4 g3 g4 hT (by rw [g2]; exact hb)
    have f5' : FloatKind.f64.format.mul 4625196817309499392 y = some r := f5
    have g5' : FloatKind.f64.decode r = .number s k' q' := g5
    have f6 : FloatKind.f64.nearest 16384 = 4670232813583204352 := by decide +kernel
    have f7 : FloatKind.f64.format.sub 0 4670232813583204352 = some 13893604850437980160 := by decide +kernel
    have f8 := ord_num (k := .f64) g5' r16384n (by omega) (by decide)
    have f9 := ord_num (k := .f64) g5' r16384 (by omega) (by decide)
    have f10 := to_int (k := k') (q := q') (by omega) s
    rw [← g5', g6, g2] at f10
    have fin : (Datum.number s k q).isInfinity = false := rfl
    have hsV : sV s k' q' = if s then -((16 * V m p : Nat) : Int) else ((16 * V m p : Nat) : Int) := by simp only [sV, g6, g2]
    have hneg : sV true 4503599627370496 (-38) = -((16384 * 2 ^ 2000 : Nat) : Int) := by simp only [sV, V16384, if_true]
    have hpos : sV false 4503599627370496 (-38) = ((16384 * 2 ^ 2000 : Nat) : Int) := by simp only [sV, V16384, Bool.false_eq_true, if_false]
    have hsmp : smpE b = if 1024 * 2 ^ 2000 < V m p ∨ (16 * V m p) % 2 ^ 2000 ≠ 0 then 3 else 0 := by unfold smpE; rw [hr]
    rw [hsmp] at hK
    have hQ := two_pos
    generalize hn : (if s then -((16 * V m p / 2 ^ 2000 : Nat) : Int) else ((16 * V m p / 2 ^ 2000 : Nat) : Int)) = n at *
    by_cases c : 1024 * 2 ^ 2000 < V m p
    · rw [if_pos (.inl c)] at hK
      have : (FloatKind.f64.format.order r 13893604850437980160 == some .lt) = true ∨ (FloatKind.f64.format.order r 13893604850437980160 == some .lt) = false ∧ (FloatKind.f64.format.order r 4670232813583204352 == some .gt) = true := by
        rw [f8, f9, cmp_lt, cmp_gt, hneg, hpos, hsV]
        generalize 2 ^ 2000 = Q at *
        cases s
        · right
          simp only [Bool.false_eq_true, if_false, decide_eq_false_iff_not, decide_eq_true_eq]
          omega
        · left
          simp only [if_true, decide_eq_true_eq]
          omega
      rcases this with e | ⟨e1, e2⟩
      · simp -implicitDefEqProofs [c202, fltBin, f1, f2, f3, hy, f4, fin, f5', f6, f7, e, hK]
      · simp -implicitDefEqProofs [c202, fltBin, f1, f2, f3, hy, f4, fin, f5', f6, f7, e1, e2, hK]
    · have e1 : (FloatKind.f64.format.order r 13893604850437980160 == some .lt) = false := by
        rw [f8, cmp_lt, hneg, hsV]
        generalize 2 ^ 2000 = Q at *
        cases s <;> simp only [Bool.false_eq_true, if_false, if_true, decide_eq_false_iff_not] <;> omega
      have e2 : (FloatKind.f64.format.order r 4670232813583204352 == some .gt) = false := by
        rw [f9, cmp_gt, hpos, hsV]
        generalize 2 ^ 2000 = Q at *
        cases s <;> simp only [Bool.false_eq_true, if_false, if_true, decide_eq_false_iff_not] <;> omega
      have hd : 16 * V m p / 2 ^ 2000 ≤ 16384 := by
        generalize 2 ^ 2000 = Q at *
        rw [Nat.div_le_iff_le_mul_add_pred hQ]; omega
      have hnb : -16384 ≤ n ∧ n ≤ 16384 := by
        generalize 16 * V m p / 2 ^ 2000 = z at *
        cases s <;> simp at hn <;> omega
      have m1 : IntKind.i64.min ≤ n := by
        have h0 : IntKind.i64.min = -9223372036854775808 := by decide
        rw [h0]; omega
      have m2 : n ≤ IntKind.i64.max := by
        have h0 : IntKind.i64.max = 9223372036854775807 := by decide
        rw [h0]; omega
      have m3 : n ≤ 9223372036854775807 := by omega
      have hnn : n.natAbs = 16 * V m p / 2 ^ 2000 := by
        generalize 16 * V m p / 2 ^ 2000 = z at *
        cases s <;> simp at hn <;> omega
      have h53 : 16384 < 2 ^ 53 := by decide
      obtain ⟨TT, hTT, hTb⟩ := V_fits n.natAbs 15 (by omega)
      obtain ⟨k3, q3, f11, g8, g9, g10⟩ := exact64 (n < 0) n.natAbs 0 (by decide) (k := n.natAbs) (q := 0) (by omega) (by decide) rfl (T := TT) (by omega) hTb
      have f11' : FloatKind.f64.decode (FloatKind.f64.nearest n) = .number (n < 0) k3 q3 := f11
      have f12 := ord_num (k := .f64) f11' g5' (by omega) (by omega)
      have e3 : (FloatKind.f64.format.order (FloatKind.f64.nearest n) r != some .eq) = decide ((16 * V m p) % 2 ^ 2000 ≠ 0) := by
        rw [f12, cmp_ne]
        have : sV (n < 0) k3 q3 = n * (2 ^ 2000 : Nat) := by
          rw [V_zero] at g8
          simp only [sV, g8]
          generalize 2 ^ 2000 = Q
          by_cases hz : n < 0
          · have : (n.natAbs : Int) = -n := by omega
            simp only [hz, decide_true, if_true, Int.natCast_mul, this, Int.neg_mul, Int.neg_neg]
          · have : (n.natAbs : Int) = n := by omega
            simp only [hz, decide_false, Bool.false_eq_true, if_false, Int.natCast_mul, this]
        rw [this, hsV]
        have hdm := Nat.div_add_mod (16 * V m p) (2 ^ 2000)
        generalize 16 * V m p = X at *
        generalize 2 ^ 2000 = Q at *
        generalize hz : X / Q = z at *
        have key : (n * (Q : Int) = if s then -(X : Int) else (X : Int)) ↔ X % Q = 0 := by
          rw [Nat.mul_comm] at hdm
          cases s
          · simp only [Bool.false_eq_true, if_false] at hn ⊢
            rw [← hn]
            constructor
            · intro h
              have : z * Q = X := by exact_mod_cast h
              omega
            · intro h
              have : z * Q = X := by omega
              exact_mod_cast this
          · simp only [if_true] at hn ⊢
            rw [← hn, Int.neg_mul]
            constructor
            · intro h
              have h' : (z : Int) * Q = X := by omega
              have : z * Q = X := by exact_mod_cast h'
              omega
            · intro h
              have h' : z * Q = X := by omega
              have : (z : Int) * Q = X := by exact_mod_cast h'
              omega
        exact decide_eq_decide.2 ⟨fun h h2 => h (key.2 h2), fun h h2 => h (key.1 h2)⟩
      by_cases c2 : (16 * V m p) % 2 ^ 2000 = 0
      · rw [if_neg (by rw [not_or]; exact ⟨c, fun h => h c2⟩)] at hK
        rw [c2] at e3
        simp only [ne_eq, not_true_eq_false, decide_false] at e3
        simp -implicitDefEqProofs [c202, fltBin, f1, f2, f3, hy, f4, fin, f5', f6, f7, e1, e2, e3, f10, m1, m3, hK]
      · rw [if_pos (.inr c2)] at hK
        have : decide ((16 * V m p) % 2 ^ 2000 ≠ 0) = true := decide_eq_true c2
        rw [this] at e3
        simp -implicitDefEqProofs [c202, fltBin, f1, f2, f3, hy, f4, fin, f5', f6, f7, e1, e2, e3, f10, m1, m3, hK]
  · have hn' : ∀ s m p, single.read b ≠ .number s m p := fun s m p h => hn ⟨s, m, p, h⟩
    have hsmp : smpE b = 1 := by
      unfold smpE
      cases hr : single.read b with
      | number s m p => exact absurd hr (hn' s m p)
      | infinity s => rfl
      | nan s t => rfl
    rw [hsmp] at hK
    exact part_nan (nan_sub hn') hC K hK
end
end Fw
