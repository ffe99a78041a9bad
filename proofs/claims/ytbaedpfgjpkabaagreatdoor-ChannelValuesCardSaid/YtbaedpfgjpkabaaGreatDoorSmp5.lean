/- Several texts in one: each is told at its head. -/
import Derived.Test.YtbaedpfgjpkabaaGreatDoorFlo
import Derived.Test.YtbaedpfgjpkabaaGreatDoorChRun4
import Derived.Laws.Bits64b
import Derived.Laws.FloatBits
section
/- Samples: what is one, and its integer. -/
set_option maxHeartbeats 8000000
namespace Fw
open Go Ieee

def smpE (b : Nat) : Int := match single.read b with
  | .number _ m p => if 1024 * 2 ^ 2000 < V m p ∨ (16 * V m p) % 2 ^ 2000 ≠ 0 then 3 else 0
  | _ => 1
def smpN (b : Nat) : Int := match single.read b with
  | .number s m p => if s then -((16 * V m p / 2 ^ 2000 : Nat) : Int) else ((16 * V m p / 2 ^ 2000 : Nat) : Int)
  | _ => 0

theorem r16_32 : single.read 1098907648 = .number false 8388608 (-19) := by decide +kernel
theorem r16_64 : double.read 4625196817309499392 = .number false 4503599627370496 (-48) := by decide +kernel
theorem r1024 : single.read 1149239296 = .number false 8388608 (-13) := by decide +kernel
theorem r1024n : single.read 3296722944 = .number true 8388608 (-13) := by decide +kernel
theorem rmax64 : double.read 9218868437227405311 = .number false 9007199254740991 971 := by decide +kernel
theorem r16384 : double.read 4670232813583204352 = .number false 4503599627370496 (-38) := by decide +kernel
theorem r16384n : double.read 13893604850437980160 = .number true 4503599627370496 (-38) := by decide +kernel

theorem V_mul (c m : Nat) (p : Int) : V (c * m) p = c * V m p := by unfold V; rw [Nat.mul_assoc]
theorem V_scale (t : Nat) (m : Nat) (p : Int) (hp : -2000 ≤ p) (hpt : -2000 ≤ p - t) (c : Nat) : V (2 ^ (t + c) * m) (p - t) = 2 ^ c * V m p := by
  rw [Nat.mul_comm, V_shift _ _ _ hpt]
  rw [show p - t + (t + c : Nat) = p + c by omega, ← V_shift m c p hp, Nat.mul_comm m, V_mul]

theorem fitsG (v Q c : Nat) (t : Nat) (hQ : Q = 2 ^ t) (hv : v ≤ 1024 * Q) (hc : 16384 < 2 ^ c) : 16 * v < 2 ^ (c + t) := by
  rw [Nat.pow_add, ← hQ]
  have h0 : 0 < Q := by rw [hQ]; exact Nat.two_pow_pos t
  have : 16384 * Q < 2 ^ c * Q := Nat.mul_lt_mul_of_pos_right hc h0
  omega
theorem fits16 {v : Nat} (hv : v ≤ 1024 * 2 ^ 2000) : 16 * v < 2 ^ (15 + 2000) := fitsG v _ 15 2000 rfl hv (by decide)
/-- 16 times a number of the smaller format -/
theorem mul16_32 {b : Nat} {s : Bool} {m : Nat} {p : Int} (h : single.read b = .number s m p) (hv : V m p ≤ 1024 * 2 ^ 2000) : ∃ r k q, single.mul 1098907648 b = some r ∧ single.read r = .number s k q ∧ V k q = 16 * V m p ∧ k < 2 ^ 24 ∧ -149 ≤ q := by
  obtain ⟨h1, h2, h3⟩ := read32 b h
  have hV : V (8388608 * m) (-19 + p) = 16 * V m p := by
    have := V_scale 19 m p (by omega) (by omega) 4
    rw [show -19 + p = p - (19 : Nat) by omega]
    exact this
  have hV2 : V m (p + 4) = 16 * V m p := by
    have := V_shift m 4 p (by omega)
    rw [Nat.mul_comm, V_mul] at this
    exact this.symm
  obtain ⟨k, q, e1, e2, e3, e4⟩ := exact32 s (8388608 * m) (-19 + p) (by omega) h1 (q := p + 4) (by omega) (by rw [hV, hV2]) (T := 15 + 2000) (by decide) (by rw [hV]; exact fits16 hv)
  refine ⟨_, k, q, ?_, e1, by rw [e2, hV], e3, e4⟩
  unfold Format.mul
  rw [r16_32, h]
  simp only [Datum.product, Bool.false_xor, Option.map_some, Format.write]

theorem two_pos : 0 < 2 ^ 2000 := Nat.two_pow_pos 2000

theorem to_int {k : Nat} {q : Int} (hq : -2000 ≤ q) (s : Bool) : (Datum.number s k q).toInt .zero = some (if s then -((V k q / 2 ^ 2000 : Nat) : Int) else ((V k q / 2 ^ 2000 : Nat) : Int)) := by
  simp only [Datum.toInt, Datum.integral, cut_zero, (V_cut k q hq).1, signed, Nat.shiftLeft_zero]

end Fw
end

section
/- The two checks of a sample: the reference's. -/
set_option maxHeartbeats 8000000
namespace Fw
open Go Ieee
attribute [local irreducible] evCode evOps evOpsD evOper evOperD evOp evFn loopN T.All T.bind callPure callOp opsK opsDK restK seqK blockK loopS setK setQ giveK scalK gcK finish finS rfunK yldK yldB loopK

theorem cmp_lt (a b : Int) : (some (compare a b) == some Ordering.lt) = decide (a < b) := by
  simp only [compare, compareOfLessAndEq]
  by_cases h : a < b
  · simp [h]
  · by_cases e : a = b <;> simp [h, e]
theorem cmp_gt (a b : Int) : (some (compare a b) == some Ordering.gt) = decide (b < a) := by
  simp only [compare, compareOfLessAndEq]
  by_cases h : a < b
  · have : ¬ b < a := by omega
    simp [h, this]
  · by_cases e : a = b
    · subst e; simp
    · have : b < a := by omega
      simp [h, e, this]
theorem cmp_ne (a b : Int) : (some (compare a b) != some Ordering.eq) = decide (a ≠ b) := by
  simp only [compare, compareOfLessAndEq]
  by_cases h : a < b
  · have : ¬ a = b := by omega
    simp [h, this]
  · by_cases e : a = b
    · subst e; simp
    · simp [h, e]
theorem ord_num {k : FloatKind} {x y : Nat} {s t : Bool} {m n : Nat} {i j : Int} (hx : k.decode x = .number s m i) (hy : k.decode y = .number t n j) (hi : -2000 ≤ i) (hj : -2000 ≤ j) : k.format.order x y = some (compare (sV s m i) (sV t n j)) := by
  unfold Format.order
  rw [show k.format.read x = .number s m i from hx, show k.format.read y = .number t n j from hy]
  exact order_eq s t m n i j hi hj

theorem V_small {m : Nat} {p : Int} (h1 : m < 2 ^ 24) (h2 : -2000 ≤ p) (h3 : p ≤ 104) : ∃ T, T ≤ 2128 ∧ V m p < 2 ^ T := by
  have a := V_lt p h1
  rw [V_one 24 p h2] at a
  exact ⟨_, by omega, a⟩

theorem conv64 {b : Nat} {s : Bool} {m : Nat} {p : Int} (h : single.read b = .number s m p) : ∃ k q, FloatKind.f64.decode (FloatKind.f64.encode (.number s m p)) = .number s k q ∧ V k q = V m p ∧ k < 2 ^ 53 ∧ -1074 ≤ q := by
  obtain ⟨h1, h2, h3⟩ := read32 b h
  have h24 : 2 ^ 24 ≤ 2 ^ 53 := by decide
  obtain ⟨T, hT, hb⟩ := V_small h1 (by omega) h3
  exact exact64 s m p (by omega) (k := m) (q := p) (by omega) (by omega) rfl (T := T) (by omega) hb

theorem mul16_64 {y : Nat} {s : Bool} {k : Nat} {q : Int} (h : double.read y = .number s k q) (hk : k < 2 ^ 53) (hq : -1074 ≤ q) {T : Nat} (hT : T ≤ 2128) (hb : V k q < 2 ^ T) : ∃ r k' q', double.mul 4625196817309499392 y = some r ∧ double.read r = .number s k' q' ∧ V k' q' = 16 * V k q ∧ -1074 ≤ q' := by
  have hV : V (4503599627370496 * k) (-48 + q) = 16 * V k q := by
    have := V_scale 48 k q (by omega) (by omega) 4
    rw [show -48 + q = q - (48 : Nat) by omega]
    exact this
  have hV2 : V k (q + 4) = 16 * V k q := by
    have := V_shift k 4 q (by omega)
    rw [Nat.mul_comm, V_mul] at this
    exact this.symm
  obtain ⟨k', q', e1, e2, e3, e4⟩ := exact64 s (4503599627370496 * k) (-48 + q) (by omega) hk (q := q + 4) (by omega) (by rw [hV, hV2]) (T := 4 + T) (by omega) (by rw [hV, Nat.pow_add]; omega)
  refine ⟨_, k', q', ?_, e1, by rw [e2, hV], e4⟩
  unfold Format.mul
  rw [r16_64, h]
  simp only [Datum.product, Bool.false_xor, Option.map_some, Format.write]

theorem sub_self {b : Nat} {s : Bool} {m : Nat} {p : Int} (h : single.read b = .number s m p) : single.sub b b = some 0 := by
  unfold Format.sub
  rw [h]
  have ht : signed s m 0 + signed (!s) m 0 = 0 := by cases s <;> simp only [signed, Bool.not_true, Bool.not_false, if_true, Bool.false_eq_true, if_false] <;> omega
  have hz : (p - min p p).toNat = 0 := by omega
  simp only [Datum.opposite, Datum.sum, hz, ht, if_true, Option.map_some, Format.write, Format.nearest, Int.natAbs_zero]
  cases s <;> rfl

theorem V16384 : V 4503599627370496 (-38) = 16384 * 2 ^ 2000 := by
  rw [show 4503599627370496 = 16384 * 2 ^ 38 by decide, V_shift _ _ _ (by decide), show (-38 + ((38 : Nat) : Int)) = 0 by decide, V, show ((0 : Int) + 2000).toNat = 2000 by decide]
theorem V1024 : V 8388608 (-13) = 1024 * 2 ^ 2000 := by
  rw [show 8388608 = 1024 * 2 ^ 13 by decide, V_shift _ _ _ (by decide), show (-13 + ((13 : Nat) : Int)) = 0 by decide, V, show ((0 : Int) + 2000).toNat = 2000 by decide]
theorem V_zero (n : Nat) : V n 0 = n * 2 ^ 2000 := by rw [V, show ((0 : Int) + 2000).toNat = 2000 by decide]

theorem nan_sub {b : Nat} (h : ∀ s m p, single.read b ≠ .number s m p) : single.sub b b = none := by
  unfold Format.sub
  cases hr : single.read b with
  | number s m p => exact absurd hr (h s m p)
  | infinity s => cases s <;> rfl
  | nan s t => rfl

theorem nanB32 {i : Nat} : ∃ s t, single.read (nanB .f32 i) = .nan s t := by
  have hb : single.binade = 2 ^ 23 := rfl
  have hi : single.infRung = 255 * 2 ^ 23 := rfl
  have hs : single.signWeight = 2 ^ 31 := rfl
  unfold nanB Format.read
  simp only [hb, hi, hs]
  have h1 : i / 2 % (2 ^ 23 - 1) < 2 ^ 23 - 1 := Nat.mod_lt _ (by decide)
  have h2 : i % 2 < 2 := Nat.mod_lt _ (by decide)
  generalize i / 2 % (2 ^ 23 - 1) = a at *
  generalize i % 2 = c at *
  have hm : (c * 2 ^ 31 + 0x7f800000 + 1 + a) % 2 ^ 31 = 0x7f800000 + 1 + a := by omega
  rw [hm]
  rw [if_neg (by omega), if_neg (by omega), if_neg (by omega)]
  exact ⟨_, _, rfl⟩

theorem nanB64 {i : Nat} : ∃ s t, double.read (nanB .f64 i) = .nan s t := by
  have hb : double.binade = 2 ^ 52 := rfl
  have hi : double.infRung = 2047 * 2 ^ 52 := rfl
  have hs : double.signWeight = 2 ^ 63 := rfl
  unfold nanB Format.read
  simp only [hb, hi, hs]
  have h1 : i / 2 % (2 ^ 52 - 1) < 2 ^ 52 - 1 := Nat.mod_lt _ (by decide)
  have h2 : i % 2 < 2 := Nat.mod_lt _ (by decide)
  generalize i / 2 % (2 ^ 52 - 1) = a at *
  generalize i % 2 = c at *
  have hm : (c * 2 ^ 63 + 0x7ff0000000000000 + 1 + a) % 2 ^ 63 = 0x7ff0000000000000 + 1 + a := by omega
  rw [hm]
  rw [if_neg (by omega), if_neg (by omega), if_neg (by omega)]
  exact ⟨_, _, rfl⟩

theorem neq_nan {k : FloatKind} {x y : Nat} {s : Bool} {t : Nat} (h : k.decode x = .nan s t) : k.format.order x y = none := by
  unfold Format.order
  rw [show k.format.read x = .nan s t from h]
  rfl

section
variable {C : Nat → List AVal → Option (T AVal)} {G : Nat → Option (List PVal)} {d : Nat}

theorem nan_pos32 : 0 < nanN .f32 := by decide
theorem nan_pos64 : 0 < nanN .f64 := by decide
theorem part_nan {b : Nat} (hb : single.sub b b = none) (hC : ∀ as, C 202 as = none) (K : AVal → Prop) (hK : K (.p (.int .i64 1))) : (callPure (evFn F C G (d + 1)) C (.fn 202) [.p (.flt .f32 b), .p (.int .i64 16384)]).All K := by
  rw [call_eq fe202 _ (hC _)]
  have f1 : FloatKind.f32.format.sub b b = none := hb
  have f2 : ∀ i, (FloatKind.f32.format.order (nanB .f32 i) 0 != some .eq) = true := fun i => by
    obtain ⟨s, u, hu⟩ := nanB32 (i := i)
    rw [neq_nan (k := .f32) (y := 0) (x := nanB .f32 i) hu]; rfl
  simp -implicitDefEqProofs [c202, fltBin, f1, nanA, arithB]
  simp -implicitDefEqProofs only [T.All_bind, All_pick]
  refine ⟨nan_pos32, fun i _ => ?_⟩
  have f2i := f2 i
  generalize nanB .f32 i = z at *
  simp -implicitDefEqProofs [fltBin, f2i, hK]

theorem part202 (hC : ∀ as, C 202 as = none) (b : Nat) (K : AVal → Prop) (hK : K (.p (.int .i64 (smpE b)))) : (callPure (evFn F C G (d + 1)) C (.fn 202) [.p (.flt .f32 b), .p (.int .i64 16384)]).All K := by
  by_cases hn : ∃ s m p, single.read b = .number s m p
  · rw [call_eq fe202 _ (hC _)]
    obtain ⟨s, m, p, hr⟩ := hn
    obtain ⟨h1, h2, h3⟩ := read32 b hr
    have f1 : FloatKind.f32.format.sub b b = some 0 := sub_self hr
    have f2 : (FloatKind.f32.format.order 0 0 != some .eq) = false := by decide +kernel
    have f3 : FloatKind.f32.decode b = .number s m p := hr
    obtain ⟨k, q, f4, g2, g3, g4⟩ := conv64 hr
    generalize hy : FloatKind.f64.encode (.number s m p) = y at *
    obtain ⟨T, hT, hb⟩ := V_small h1 (by omega) h3
    obtain ⟨r, k', q', f5, g5, g6, g7⟩ := mul16_64 f4 g3 g4 hT (by rw [g2]; exact hb)
    have f5' : FloatKind.f64.format.mul 4625196817309499392 y = some r := f5
    have g5' : FloatKind.f64.decode r = .number s k' q' := g5
    have f6 : FloatKind.f64.nearest 16384 = 4670232813583204352 := by decide +kernel
    have f7 : FloatKind.f64.format.sub 0 4670232813583204352 = some 13893604850437980160 := by decide +kernel
    have f8 := ord_num (k := .f64) g5' r16384n (by omega) (by decide)
    have f9 := ord_num (k := .f64) g5' r16384 (by omega) (by decide)
    have f10 := to_int (k := k') (q := q') (by omega) s
    rw [← g5', g6, g2] at f10
    have fin : (Datum.number s k q).isInfinity = false := rfl
    have hsV : sV s k' q' = if s then -((16 * V m p : Nat) : Int) else ((16 * V m p : Nat) : Int) := by simp only [sV, g6, g2]
    have hneg : sV true 4503599627370496 (-38) = -((16384 * 2 ^ 2000 : Nat) : Int) := by simp only [sV, V16384, if_true]
    have hpos : sV false 4503599627370496 (-38) = ((16384 * 2 ^ 2000 : Nat) : Int) := by simp only [sV, V16384, Bool.false_eq_true, if_false]
    have hsmp : smpE b = if 1024 * 2 ^ 2000 < V m p ∨ (16 * V m p) % 2 ^ 2000 ≠ 0 then 3 else 0 := by unfold smpE; rw [hr]
    rw [hsmp] at hK
    have hQ := two_pos
    generalize hn : (if s then -((16 * V m p / 2 ^ 2000 : Nat) : Int) else ((16 * V m p / 2 ^ 2000 : Nat) : Int)) = n at *
    by_cases c : 1024 * 2 ^ 2000 < V m p
    · rw [if_pos (.inl c)] at hK
      have : (FloatKind.f64.format.order r 13893604850437980160 == some .lt) = true ∨ (FloatKind.f64.format.order r 13893604850437980160 == some .lt) = false ∧ (FloatKind.f64.format.order r 4670232813583204352 == some .gt) = true := by
        rw [f8, f9, cmp_lt, cmp_gt, hneg, hpos, hsV]
        generalize 2 ^ 2000 = Q at *
        cases s
        · right
          simp only [Bool.false_eq_true, if_false, decide_eq_false_iff_not, decide_eq_true_eq]
          omega
        · left
          simp only [if_true, decide_eq_true_eq]
          omega
      rcases this with e | ⟨e1, e2⟩
      · simp -implicitDefEqProofs [c202, fltBin, f1, f2, f3, hy, f4, fin, f5', f6, f7, e, hK]
      · simp -implicitDefEqProofs [c202, fltBin, f1, f2, f3, hy, f4, fin, f5', f6, f7, e1, e2, hK]
    · have e1 : (FloatKind.f64.format.order r 13893604850437980160 == some .lt) = false := by
        rw [f8, cmp_lt, hneg, hsV]
        generalize 2 ^ 2000 = Q at *
        cases s <;> simp only [Bool.false_eq_true, if_false, if_true, decide_eq_false_iff_not] <;> omega
      have e2 : (FloatKind.f64.format.order r 4670232813583204352 == some .gt) = false := by
        rw [f9, cmp_gt, hpos, hsV]
        generalize 2 ^ 2000 = Q at *
        cases s <;> simp only [Bool.false_eq_true, if_false, if_true, decide_eq_false_iff_not] <;> omega
      have hd : 16 * V m p / 2 ^ 2000 ≤ 16384 := by
        generalize 2 ^ 2000 = Q at *
        rw [Nat.div_le_iff_le_mul_add_pred hQ]; omega
      have hnb : -16384 ≤ n ∧ n ≤ 16384 := by
        generalize 16 * V m p / 2 ^ 2000 = z at *
        cases s <;> simp at hn <;> omega
      have m1 : IntKind.i64.min ≤ n := by
        have h0 : IntKind.i64.min = -9223372036854775808 := by decide
        rw [h0]; omega
      have m2 : n ≤ IntKind.i64.max := by
        have h0 : IntKind.i64.max = 9223372036854775807 := by decide
        rw [h0]; omega
      have m3 : n ≤ 9223372036854775807 := by omega
      have hnn : n.natAbs = 16 * V m p / 2 ^ 2000 := by
        generalize 16 * V m p / 2 ^ 2000 = z at *
        cases s <;> simp at hn <;> omega
      have h53 : 16384 < 2 ^ 53 := by decide
      obtain ⟨TT, hTT, hTb⟩ := V_fits n.natAbs 15 (by omega)
      obtain ⟨k3, q3, f11, g8, g9, g10⟩ := exact64 (n < 0) n.natAbs 0 (by decide) (k := n.natAbs) (q := 0) (by omega) (by decide) rfl (T := TT) (by omega) hTb
      have f11' : FloatKind.f64.decode (FloatKind.f64.nearest n) = .number (n < 0) k3 q3 := f11
      have f12 := ord_num (k := .f64) f11' g5' (by omega) (by omega)
      have e3 : (FloatKind.f64.format.order (FloatKind.f64.nearest n) r != some .eq) = decide ((16 * V m p) % 2 ^ 2000 ≠ 0) := by
        rw [f12, cmp_ne]
        have : sV (n < 0) k3 q3 = n * (2 ^ 2000 : Nat) := by
          rw [V_zero] at g8
          simp only [sV, g8]
          generalize 2 ^ 2000 = Q
          by_cases hz : n < 0
          · have : (n.natAbs : Int) = -n := by omega
            simp only [hz, decide_true, if_true, Int.natCast_mul, this, Int.neg_mul, Int.neg_neg]
          · have : (n.natAbs : Int) = n := by omega
            simp only [hz, decide_false, Bool.false_eq_true, if_false, Int.natCast_mul, this]
        rw [this, hsV]
        have hdm := Nat.div_add_mod (16 * V m p) (2 ^ 2000)
        generalize 16 * V m p = X at *
        generalize 2 ^ 2000 = Q at *
        generalize hz : X / Q = z at *
        have key : (n * (Q : Int) = if s then -(X : Int) else (X : Int)) ↔ X % Q = 0 := by
          rw [Nat.mul_comm] at hdm
          cases s
          · simp only [Bool.false_eq_true, if_false] at hn ⊢
            rw [← hn]
            constructor
            · intro h
              have : z * Q = X := by exact_mod_cast h
              omega
            · intro h
              have : z * Q = X := by omega
              exact_mod_cast this
          · simp only [if_true] at hn ⊢
            rw [← hn, Int.neg_mul]
            constructor
            · intro h
              have h' : (z : Int) * Q = X := by omega
              have : z * Q = X := by exact_mod_cast h'
              omega
            · intro h
              have h' : z * Q = X := by omega
              have : (z : Int) * Q = X := by exact_mod_cast h'
              omega
        exact decide_eq_decide.2 ⟨fun h h2 => h (key.2 h2), fun h h2 => h (key.1 h2)⟩
      by_cases c2 : (16 * V m p) % 2 ^ 2000 = 0
      · rw [if_neg (by rw [not_or]; exact ⟨c, fun h => h c2⟩)] at hK
        rw [c2] at e3
        simp only [ne_eq, not_true_eq_false, decide_false] at e3
        simp -implicitDefEqProofs [c202, fltBin, f1, f2, f3, hy, f4, fin, f5', f6, f7, e1, e2, e3, f10, m1, m3, hK]
      · rw [if_pos (.inr c2)] at hK
        have : decide ((16 * V m p) % 2 ^ 2000 ≠ 0) = true := decide_eq_true c2
        rw [this] at e3
        simp -implicitDefEqProofs [c202, fltBin, f1, f2, f3, hy, f4, fin, f5', f6, f7, e1, e2, e3, f10, m1, m3, hK]
  · have hn' : ∀ s m p, single.read b ≠ .number s m p := fun s m p h => hn ⟨s, m, p, h⟩
    have hsmp : smpE b = 1 := by
      unfold smpE
      cases hr : single.read b with
      | number s m p => exact absurd hr (hn' s m p)
      | infinity s => rfl
      | nan s t => rfl
    rw [hsmp] at hK
    exact part_nan (nan_sub hn') hC K hK
end
end Fw
end

section
/- The two checks of a sample: the program's. -/
set_option maxHeartbeats 8000000
namespace Fw
open Go Ieee
attribute [local irreducible] evCode evOps evOpsD evOper evOperD evOp evFn loopN T.All T.bind callPure callOp opsK opsDK restK seqK blockK loopS setK setQ giveK scalK gcK finish finS rfunK yldK yldB loopK

/-- the contracts of the library that these functions come to -/
structure LibOk (C : Nat → List AVal → Option (T AVal)) : Prop where
  bits : ∀ b, C 243 [.p (.flt .f64 b)] = some (.ret (.p (.int .u64 b)))
  from' : ∀ n : Int, C 242 [.p (.int .u64 n)] = some (.ret (.p (.flt .f64 n.toNat)))
  down : ∀ as, C 234 as = cIntegral .down as

theorem read_abs {y : Nat} (_hy : y < 2 ^ 64) : (∀ s k q, double.read y = .number s k q → double.read (y % 2 ^ 63) = .number false k q) ∧ (∀ s, double.read y = .infinity s → double.read (y % 2 ^ 63) = .infinity false) := by
  have hs : double.signWeight = 2 ^ 63 := rfl
  have e1 : y % 2 ^ 63 / 2 ^ 63 % 2 = 0 := by omega
  have e2 : y % 2 ^ 63 % 2 ^ 63 = y % 2 ^ 63 := by omega
  unfold Format.read
  simp only [hs, e1, e2]
  generalize y % 2 ^ 63 = r
  refine ⟨fun s k q => ?_, fun s => ?_⟩
  · split
    · intro h; injection h with _ a b; subst a b; rfl
    · split
      · intro h; injection h with _ a b; subst a b; rfl
      · split <;> (intro h; cases h)
  · split
    · intro h; cases h
    · split
      · intro h; cases h
      · split
        · intro h; rfl
        · intro h; cases h

section
variable {C : Nat → List AVal → Option (T AVal)} {G : Nat → Option (List PVal)} {d : Nat}

theorem abs233 (hC : ∀ as, C 233 as = none) (hL : LibOk C) (y : Nat) (hy : y < 2 ^ 64) : callPure (evFn F C G (d + 1)) C (.fn 233) [.p (.flt .f64 y)] = .ret (.p (.flt .f64 (y % 2 ^ 63))) := by
  rw [call_eq fe233 _ (hC _)]
  have k1 : ∀ n, callPure (evFn F C G n) C (.fn 243) [.p (.flt .f64 y)] = .ret (.p (.int .u64 y)) := fun n => by simp only [callPure, hL.bits]
  have k2 : ∀ (n : Nat) (m : Int), callPure (evFn F C G n) C (.fn 242) [.p (.int .u64 m)] = .ret (.p (.flt .f64 m.toNat)) := fun n m => by simp only [callPure, hL.from']
  have hq : (IntKind.u64.wrap ((y % 18446744073709551616 &&& 9223372036854775807 : Nat) : Int)).toNat = y % 2 ^ 63 := by
    have e : y % 18446744073709551616 &&& 9223372036854775807 = y % 2 ^ 63 := by
      rw [Nat.mod_eq_of_lt (show y < 18446744073709551616 from hy)]
      exact Nat.and_two_pow_sub_one_eq_mod y 63
    rw [e, IntKind.wrap_u64]; omega
  have hbits : IntKind.u64.bits = 64 := rfl
  generalize y % 2 ^ 63 = z at *
  simp -implicitDefEqProofs [c233, k1, k2, hbits, hq]

/-- is a float not a number, or infinite? -/
theorem inf223 (hC : ∀ f ∈ [223, 233], ∀ as, C f as = none) (hL : LibOk C) {y : Nat} (hy : y < 2 ^ 64) : (∀ s k q, double.read y = .number s k q → -2000 ≤ q → (∃ T, T ≤ 2128 ∧ V k q < 2 ^ T) → callPure (evFn F C G (d + 2)) C (.fn 223) [.p (.flt .f64 y), .p (.int .i64 0)] = .ret (.p (.bool false))) ∧
    (∀ s, double.read y = .infinity s → callPure (evFn F C G (d + 2)) C (.fn 223) [.p (.flt .f64 y), .p (.int .i64 0)] = .ret (.p (.bool true))) := by
  have ka := abs233 (G := G) (d := d) (hC 233 (by simp)) hL y hy
  obtain ⟨r1, r2⟩ := read_abs hy
  refine ⟨fun s k q h hq hv => ?_, fun s h => ?_⟩
  · have h1 : FloatKind.f64.decode (y % 2 ^ 63) = .number false k q := r1 s k q h
    have h2 : (FloatKind.f64.format.order (y % 2 ^ 63) 9218868437227405311 == some .gt) = false := by
      rw [ord_num h1 (show FloatKind.f64.decode _ = _ from rmax64) hq (by decide), cmp_gt]
      obtain ⟨T, hT, hb⟩ := hv
      have v1 : 2 ^ T ≤ V 9007199254740991 971 := Nat.le_trans (V_ge 971 T (by omega)) (V_le 971 (by decide))
      have : ¬ (V 9007199254740991 971 : Int) < (V k q : Int) := by omega
      simpa [sV] using this
    generalize y % 2 ^ 63 = z at *
    rw [call_eq fe223 _ (hC 223 (by simp) _)]
    simp -implicitDefEqProofs [c223, ka, fltBin, h2]
  · have h1 : double.read (y % 2 ^ 63) = .infinity false := r2 s h
    have h2 : FloatKind.f64.format.order (y % 2 ^ 63) 9218868437227405311 = some .gt := by
      unfold Format.order
      rw [show FloatKind.f64.format.read (y % 2 ^ 63) = .infinity false from h1, show FloatKind.f64.format.read _ = _ from rmax64]
      rfl
    generalize y % 2 ^ 63 = z at *
    rw [call_eq fe223 _ (hC 223 (by simp) _)]
    simp -implicitDefEqProofs [c223, ka, fltBin, h2]

theorem nan222 (hC : ∀ as, C 222 as = none) (y : Nat) : callPure (evFn F C G (d + 1)) C (.fn 222) [.p (.flt .f64 y)] = .ret (.p (.bool (FloatKind.f64.format.order y y != some .eq))) := by
  rw [call_eq fe222 _ (hC _)]
  simp -implicitDefEqProofs [c222, fltBin]

theorem self_num {y : Nat} {s : Bool} {k : Nat} {q : Int} (h : double.read y = .number s k q) (hq : -2000 ≤ q) : (FloatKind.f64.format.order y y != some .eq) = false := by
  have h' : FloatKind.f64.decode y = .number s k q := h
  rw [ord_num h' h' hq hq, cmp_ne]; simp
theorem self_inf {y : Nat} {s : Bool} (h : double.read y = .infinity s) : (FloatKind.f64.format.order y y != some .eq) = false := by
  unfold Format.order
  rw [show FloatKind.f64.format.read y = .infinity s from h]
  cases s <;> rfl

theorem enc_lt (x : Datum) : FloatKind.f64.encode x < 2 ^ 64 := Format.write_lt _ x

def finB (b : Nat) : Bool := match single.read b with
  | .number .. => false
  | _ => true

/-- is a sample not a number, or infinite? -/
theorem infinite212 (hC : ∀ f ∈ [212, 222, 223, 233], ∀ as, C f as = none) (hL : LibOk C) (b : Nat) (K : AVal → Prop) (hK : K (.p (.bool (finB b)))) : (callPure (evFn F C G (d + 3)) C (.fn 212) [.p (.flt .f32 b)]).All K := by
  rw [call_eq fe212 _ (hC 212 (by simp) _)]
  cases hr : single.read b with
  | number s m p =>
    have hfin : finB b = false := by unfold finB; rw [hr]
    rw [hfin] at hK
    obtain ⟨h1, h2, h3⟩ := read32 b hr
    have f3 : FloatKind.f32.decode b = .number s m p := hr
    obtain ⟨k, q, f4, g2, g3, g4⟩ := conv64 hr
    have hlt := enc_lt (.number s m p)
    generalize hy : FloatKind.f64.encode (.number s m p) = y at *
    have fin : (Datum.number s k q).isInfinity = false := rfl
    have k1 := nan222 (C := C) (G := G) (d := d + 1) (hC 222 (by simp)) y
    rw [self_num f4 (by omega)] at k1
    have k2 := (inf223 (C := C) (G := G) (d := d) (fun f hf => hC f (by simp at hf ⊢; omega)) hL hlt).1 s k q f4 (by omega) (by rw [g2]; exact V_small h1 (by omega) h3)
    simp -implicitDefEqProofs [c212, f3, hy, f4, fin, k1, k2, hK]
  | infinity s =>
    have hfin : finB b = true := by unfold finB; rw [hr]
    rw [hfin] at hK
    have f3 : FloatKind.f32.decode b = .infinity s := hr
    have hlt := enc_lt (.infinity s)
    have hy : double.read (FloatKind.f64.encode (.infinity s)) = .infinity s := by cases s <;> decide +kernel
    generalize hy2 : FloatKind.f64.encode (.infinity s) = y at *
    have k1 := nan222 (C := C) (G := G) (d := d + 1) (hC 222 (by simp)) y
    rw [self_inf hy] at k1
    have k2 := (inf223 (C := C) (G := G) (d := d) (fun f hf => hC f (by simp at hf ⊢; omega)) hL hlt).2 s hy
    simp -implicitDefEqProofs [c212, f3, hy2, k1, k2, hK]
  | nan s t =>
    have hfin : finB b = true := by unfold finB; rw [hr]
    rw [hfin] at hK
    have f3 : FloatKind.f32.decode b = .nan s t := hr
    simp -implicitDefEqProofs [c212, f3, nanC]
    simp -implicitDefEqProofs only [T.All_bind, All_pick]
    refine ⟨nan_pos64, fun i _ => ?_⟩
    obtain ⟨s', u, hu⟩ := nanB64 (i := i)
    have k1 := nan222 (C := C) (G := G) (d := d + 1) (hC 222 (by simp)) (nanB .f64 i)
    rw [neq_nan (k := .f64) (y := nanB .f64 i) (x := nanB .f64 i) hu] at k1
    have hb : (none != some Ordering.eq) = true := rfl
    rw [hb] at k1
    generalize nanB .f64 i = z at *
    simp -implicitDefEqProofs [k1, hK]
end
end Fw
end

section
/- A sample's error, by the program: on the grid, within the limits. -/
set_option maxHeartbeats 8000000
namespace Fw
open Go Ieee
attribute [local irreducible] evCode evOps evOpsD evOper evOperD evOp evFn loopN T.All T.bind callPure callOp opsK opsDK restK seqK blockK loopS setK setQ giveK scalK gcK finish finS rfunK yldK yldB loopK
section
variable {C : Nat → List AVal → Option (T AVal)} {G : Nat → Option (List PVal)} {d : Nat}

theorem floor224 (hC : ∀ as, C 224 as = none) (hL : LibOk C) {y : Nat} {s : Bool} {k : Nat} {q : Int} (h : double.read y = .number s k q) (hq : -2000 ≤ q) : callPure (evFn F C G (d + 1)) C (.fn 224) [.p (.flt .f64 y)] = .ret (.p (.flt .f64 (FloatKind.f64.encode (.number s (V k q / 2 ^ 2000 + (s && V k q % 2 ^ 2000 != 0).toNat) 0)))) := by
  have h' : FloatKind.f64.decode y = .number s k q := h
  have hc : C 234 [.p (.flt .f64 y)] = some (.ret (.p (.flt .f64 (FloatKind.f64.encode (.number s (V k q / 2 ^ 2000 + (s && V k q % 2 ^ 2000 != 0).toNat) 0))))) := by
    rw [hL.down]
    obtain ⟨c1, c2⟩ := V_cut k q hq
    have c3 : ((k <<< q.toNat) % 2 ^ (-q).toNat != 0) = (V k q % 2 ^ 2000 != 0) := by
      by_cases e : V k q % 2 ^ 2000 = 0
      · rw [c2.2 e, e]
      · have : ¬ (k <<< q.toNat) % 2 ^ (-q).toNat = 0 := fun x => e (c2.1 x)
        rw [bne_iff_ne.2 this, bne_iff_ne.2 e]
    simp only [cIntegral, h', Datum.integral, cut_down, c1, c3]
  have k1 : ∀ n, callPure (evFn F C G n) C (.fn 234) [.p (.flt .f64 y)] = .ret (.p (.flt .f64 (FloatKind.f64.encode (.number s (V k q / 2 ^ 2000 + (s && V k q % 2 ^ 2000 != 0).toNat) 0)))) := fun n => by simp only [callPure, hc]
  generalize FloatKind.f64.encode (.number s (V k q / 2 ^ 2000 + (s && V k q % 2 ^ 2000 != 0).toNat) 0) = z at *
  rw [call_eq fe224 _ (hC _)]
  simp -implicitDefEqProofs [c224, k1]

theorem frac_nan {y : Nat} {s : Bool} {t : Nat} (h : double.read y = .nan s t) : 0 < t ∧ t < 2 ^ 52 := by
  have hb : double.binade = 2 ^ 52 := rfl
  have hi : double.infRung = 2047 * 2 ^ 52 := rfl
  have hs : double.signWeight = 2 ^ 63 := rfl
  unfold Format.read at h
  simp only [hb, hi, hs] at h
  have hr : y % 2 ^ 63 < 2 ^ 63 := Nat.mod_lt _ (by decide)
  generalize y % 2 ^ 63 = r at *
  split at h
  · cases h
  · split at h
    · cases h
    · split at h
      · cases h
      · injection h with h1 h2
        omega
theorem quiet_nan {s : Bool} {t : Nat} (_h0 : 0 < t) (h1 : t < 2 ^ 52) : ∃ u, double.read (FloatKind.f64.encode (.nan s (FloatKind.f64.format.quiet t))) = .nan s u := by
  have hb : double.binade = 2 ^ 52 := rfl
  have hi : double.infRung = 2047 * 2 ^ 52 := rfl
  have hs : double.signWeight = 2 ^ 63 := rfl
  have hq : FloatKind.f64.format.quiet t = t ||| 2 ^ 51 := rfl
  have hlt : t ||| 2 ^ 51 < 2 ^ 52 := Nat.or_lt_two_pow h1 (by decide)
  have hge : 2 ^ 51 ≤ t ||| 2 ^ 51 := Nat.right_le_or
  have he : FloatKind.f64.encode (.nan s (FloatKind.f64.format.quiet t)) = double.word s (2047 * 2 ^ 52 + (t ||| 2 ^ 51)) := by
    rw [hq]
    show double.word s (double.infRung + (t ||| 2 ^ 51) % double.binade) = _
    rw [hi, hb, Nat.mod_eq_of_lt hlt]
  rw [he]
  generalize t ||| 2 ^ 51 = u at *
  obtain ⟨w1, w2⟩ := word_read double s (r := 2047 * 2 ^ 52 + u) (by rw [hs]; omega)
  unfold Format.read
  simp only [w1, w2, hb, hi]
  rw [if_neg (by omega), if_neg (by omega), if_neg (by omega)]
  exact ⟨_, rfl⟩

def nanD (z : Nat) : Prop := ∃ s t, double.read z = .nan s t
theorem floor_nan (hC : ∀ as, C 224 as = none) (hL : LibOk C) {y : Nat} {s : Bool} {t : Nat} (h : double.read y = .nan s t) : (callPure (evFn F C G (d + 1)) C (.fn 224) [.p (.flt .f64 y)]).All (fun r => ∃ z, r = .p (.flt .f64 z) ∧ nanD z) := by
  have h' : FloatKind.f64.decode y = .nan s t := h
  obtain ⟨t0, t1⟩ := frac_nan h
  obtain ⟨u, hu⟩ := quiet_nan (s := s) t0 t1
  rw [call_eq fe224 _ (hC _)]
  by_cases hqt : FloatKind.f64.format.quiet t = t
  · have k1 : ∀ n, callPure (evFn F C G n) C (.fn 234) [.p (.flt .f64 y)] = .ret (.p (.flt .f64 y)) := fun n => by
      simp only [callPure, hL.down, cIntegral, h', hqt, if_true]
    have hz : nanD y := ⟨s, t, h⟩
    simp -implicitDefEqProofs [c224, k1, hz]
  · have k1 : ∀ n, callPure (evFn F C G n) C (.fn 234) [.p (.flt .f64 y)] = .pick 2 fun i => .ret (.p (.flt .f64 (if i = 1 then y else FloatKind.f64.encode (.nan s (FloatKind.f64.format.quiet t))))) := fun n => by
      simp only [callPure, hL.down, cIntegral, h', hqt, if_false]
    generalize FloatKind.f64.encode (.nan s (FloatKind.f64.format.quiet t)) = z at *
    simp -implicitDefEqProofs [c224, k1]
    simp -implicitDefEqProofs only [T.All_bind, All_pick]
    refine ⟨by decide, fun i _ => ?_⟩
    by_cases e : i = 1
    · have hz : nanD y := ⟨s, t, h⟩
      simp -implicitDefEqProofs [e, hz]
    · have hz : nanD z := ⟨s, u, hu⟩
      simp -implicitDefEqProofs [e, hz]

theorem when211c (hC : ∀ as, C 211 as = none) (b : Bool) (e : Int) : callPure (evFn F C G (d + 1)) C (.fn 211) [.p (.bool b), .p (.int .i64 e)] = .ret (.p (.int .i64 (if b then e else 0))) := by
  rw [call_eq fe211 _ (hC _)]
  cases b <;> simp [c211]

def gridE (m : Nat) (p : Int) : Int := if 1024 * 2 ^ 2000 < V m p ∨ (16 * V m p) % 2 ^ 2000 ≠ 0 then 3 else 0

theorem grid_num (hC : ∀ f ∈ [213, 224, 211], ∀ as, C f as = none) (hL : LibOk C) {b : Nat} {s : Bool} {m : Nat} {p : Int} (hr : single.read b = .number s m p) : callPure (evFn F C G (d + 2)) C (.fn 213) [.p (.flt .f32 b), .p (.flt .f32 1149239296)] = .ret (.p (.int .i64 (gridE m p))) := by
  rw [call_eq fe213 _ (hC 213 (by simp) _)]
  obtain ⟨h1, h2, h3⟩ := read32 b hr
  have f0 : Op.negFloat .f32 1149239296 = 3296722944 := by decide +kernel
  have hr' : FloatKind.f32.decode b = .number s m p := hr
  have f8 := ord_num (k := .f32) hr' r1024n (by omega) (by decide)
  have f9 := ord_num (k := .f32) hr' r1024 (by omega) (by decide)
  have kw := fun bb e => when211c (C := C) (G := G) (d := d) (hC 211 (by simp)) bb e
  have hneg : sV true 8388608 (-13) = -((1024 * 2 ^ 2000 : Nat) : Int) := by simp only [sV, V1024, if_true]
  have hpos : sV false 8388608 (-13) = ((1024 * 2 ^ 2000 : Nat) : Int) := by simp only [sV, V1024, Bool.false_eq_true, if_false]
  have hQ := two_pos
  by_cases c : 1024 * 2 ^ 2000 < V m p
  · have hg : gridE m p = 3 := by rw [gridE, if_pos (.inl c)]
    rw [hg]
    have : (FloatKind.f32.format.order b 3296722944 == some .lt) = true ∨ (FloatKind.f32.format.order b 3296722944 == some .lt) = false ∧ (FloatKind.f32.format.order b 1149239296 == some .gt) = true := by
      rw [f8, f9, cmp_lt, cmp_gt, hneg, hpos]
      simp only [sV]
      generalize 2 ^ 2000 = Q at *
      cases s
      · right
        simp only [Bool.false_eq_true, if_false, decide_eq_false_iff_not, decide_eq_true_eq]
        omega
      · left
        simp only [if_true, decide_eq_true_eq]
        omega
    rcases this with e | ⟨e1, e2⟩
    · simp -implicitDefEqProofs [c213, fltBin, f0, e, kw]
    · simp -implicitDefEqProofs [c213, fltBin, f0, e1, e2, kw]
  · have e1 : (FloatKind.f32.format.order b 3296722944 == some .lt) = false := by
      rw [f8, cmp_lt, hneg]
      simp only [sV]
      generalize 2 ^ 2000 = Q at *
      cases s <;> simp only [Bool.false_eq_true, if_false, if_true, decide_eq_false_iff_not] <;> omega
    have e2 : (FloatKind.f32.format.order b 1149239296 == some .gt) = false := by
      rw [f9, cmp_gt, hpos]
      simp only [sV]
      generalize 2 ^ 2000 = Q at *
      cases s <;> simp only [Bool.false_eq_true, if_false, if_true, decide_eq_false_iff_not] <;> omega
    obtain ⟨r, k, q, e3, e4, e5, e6, e7⟩ := mul16_32 hr (Nat.le_of_not_lt c)
    have e3' : FloatKind.f32.format.mul 1098907648 b = some r := e3
    have e4' : FloatKind.f32.decode r = .number s k q := e4
    have hq104 := read32 r e4
    -- as a number of the greater format
    obtain ⟨k2, q2, f4, g2, g3, g4⟩ := conv64 e4
    generalize hy : FloatKind.f64.encode (.number s k q) = y at *
    have fin2 : (Datum.number s k2 q2).isInfinity = false := rfl
    have kf := floor224 (C := C) (G := G) (d := d) (hC 224 (by simp)) hL f4 (by omega)
    rw [g2, e5] at kf
    have hX : 16 * V m p ≤ 16384 * 2 ^ 2000 := by
      generalize 2 ^ 2000 = Q at *
      omega
    have hdm := Nat.div_add_mod (16 * V m p) (2 ^ 2000)
    have hd : 16 * V m p / 2 ^ 2000 ≤ 16384 := by
      generalize 16 * V m p = X at *
      generalize 2 ^ 2000 = Q at *
      rw [Nat.div_le_iff_le_mul_add_pred hQ]; omega
    have hml := Nat.mod_lt (16 * V m p) hQ
    generalize hFl : 16 * V m p / 2 ^ 2000 + (s && 16 * V m p % 2 ^ 2000 != 0).toNat = Fl at *
    have hF : Fl ≤ 16385 := by
      have : (s && 16 * V m p % 2 ^ 2000 != 0).toNat ≤ 1 := Bool.toNat_le _
      omega
    have h24 : 16385 < 2 ^ 24 := by decide
    have h53 : 16385 < 2 ^ 53 := by decide
    obtain ⟨TT, hTT, hbig⟩ := V_fits Fl 15 (by omega)
    obtain ⟨k3, q3, i1, i2, i3, i4⟩ := exact64 s Fl 0 (by decide) (k := Fl) (q := 0) (by omega) (by decide) rfl (T := TT) (by omega) hbig
    have i1' : FloatKind.f64.decode (FloatKind.f64.encode (.number s Fl 0)) = .number s k3 q3 := i1
    generalize FloatKind.f64.encode (.number s Fl 0) = z at *
    obtain ⟨k4, q4, j1, j2, j3, j4⟩ := exact32 s k3 q3 (by omega) (k := Fl) (q := 0) (by omega) (by decide) (by rw [i2]) (T := TT) (by omega) (by rw [i2]; exact hbig)
    have j1' : FloatKind.f32.decode (FloatKind.f32.encode (.number s k3 q3)) = .number s k4 q4 := j1
    generalize hw : FloatKind.f32.encode (.number s k3 q3) = w at *
    have fin4 : (Datum.number s k4 q4).isInfinity = false := rfl
    have f12 := ord_num (k := .f32) j1' e4' (by omega) (by omega)
    have e8 : (FloatKind.f32.format.order w r != some .eq) = decide ((16 * V m p) % 2 ^ 2000 ≠ 0) := by
      rw [f12, cmp_ne]
      rw [V_zero] at i2
      simp only [sV, j2, i2, e5]
      generalize 16 * V m p = X at *
      generalize 2 ^ 2000 = Q at *
      generalize hz : X / Q = zz at *
      have key : ((if s = true then -((Fl * Q : Nat) : Int) else ((Fl * Q : Nat) : Int)) = if s = true then -(X : Int) else (X : Int)) ↔ X % Q = 0 := by
        have e : (Fl * Q = X) ↔ X % Q = 0 := by
          constructor
          · intro h
            rw [← h]; exact Nat.mul_mod_left ..
          · intro h
            have : (s && X % Q != 0).toNat = 0 := by rw [h]; simp
            rw [this] at hFl
            rw [← hFl, Nat.add_zero, Nat.mul_comm]
            omega
        rw [← e]
        cases s
        · simp only [Bool.false_eq_true, if_false]; omega
        · simp only [if_true]; omega
      exact decide_eq_decide.2 ⟨fun h h2 => h (key.2 h2), fun h h2 => h (key.1 h2)⟩
    by_cases c2 : (16 * V m p) % 2 ^ 2000 = 0
    · have hg : gridE m p = 0 := by rw [gridE, if_neg (by rw [not_or]; exact ⟨c, fun h => h c2⟩)]
      rw [c2] at e8
      simp only [ne_eq, not_true_eq_false, decide_false] at e8
      rw [hg]
      simp -implicitDefEqProofs [c213, fltBin, f0, e1, e2, e3', e4', hy, f4, fin2, kf, i1', hw, j1', fin4, e8, kw]
    · have hg : gridE m p = 3 := by rw [gridE, if_pos (.inr c2)]
      have : decide ((16 * V m p) % 2 ^ 2000 ≠ 0) = true := decide_eq_true c2
      rw [this] at e8
      rw [hg]
      simp -implicitDefEqProofs [c213, fltBin, f0, e1, e2, e3', e4', hy, f4, fin2, kf, i1', hw, j1', fin4, e8, kw]

theorem All_fail {α : Type} (Q : α → Prop) : (T.fail : T α).All Q = False := by unfold T.All; rfl
theorem nan32_order {x y : Nat} {s : Bool} {t : Nat} (h : single.read x = .nan s t) : FloatKind.f32.format.order x y = none := neq_nan (k := .f32) h
theorem nan_right {k : FloatKind} {x y : Nat} {s : Bool} {t : Nat} (h : k.decode y = .nan s t) : k.format.order x y = none := by
  unfold Format.order
  rw [show k.format.read y = .nan s t from h]
  cases k.format.read x <;> rfl
theorem mul_nan {b : Nat} {s : Bool} {t : Nat} (h : single.read b = .nan s t) : FloatKind.f32.format.mul 1098907648 b = none := by
  unfold Format.mul
  rw [show FloatKind.f32.format.read b = .nan s t from h]
  cases FloatKind.f32.format.read 1098907648 <;> rfl

theorem conv_nan {src dst : FloatKind} {z : Nat} {s : Bool} {t : Nat} (hne : src ≠ dst) (h : src.decode z = .nan s t) : optN (convA [] (.flt dst) (.p (.flt src z))) (nanC (.flt dst) (.p (.flt src z))) [] = .pick (nanN dst) fun i => .ret (.p (.flt dst (nanB dst i)), []) := by
  simp only [optN, convA, nanC, if_neg hne, h, some1]

/-- of what is no number the grid says something -/
theorem grid_nan (hC : ∀ f ∈ [213, 224, 211], ∀ as, C f as = none) (hL : LibOk C) {b : Nat} {s : Bool} {t : Nat} (hr : single.read b = .nan s t) : (callPure (evFn F C G (d + 2)) C (.fn 213) [.p (.flt .f32 b), .p (.flt .f32 1149239296)]).All (fun r => ∃ e, r = .p (.int .i64 e)) := by
  rw [call_eq fe213 _ (hC 213 (by simp) _)]
  have f0 : Op.negFloat .f32 1149239296 = 3296722944 := by decide +kernel
  have kw := fun bb e => when211c (C := C) (G := G) (d := d) (hC 211 (by simp)) bb e
  have o1 : ∀ y, FloatKind.f32.format.order b y = none := fun y => nan32_order hr
  have m1 := mul_nan hr
  simp -implicitDefEqProofs [c213, fltBin, f0, o1, m1, nanA, arithB]
  simp -implicitDefEqProofs only [bind_pick, All_pick]
  refine ⟨nan_pos32, fun i _ => ?_⟩
  obtain ⟨s1, u1, hu1⟩ := nanB32 (i := i)
  have d1 := conv_nan (src := .f32) (dst := .f64) (by decide) hu1
  generalize nanB .f32 i = z1 at *
  simp -implicitDefEqProofs [-convA, -optN, d1]
  simp -implicitDefEqProofs only [bind_pick, All_pick]
  refine ⟨nan_pos64, fun j _ => ?_⟩
  obtain ⟨s2, u2, hu2⟩ := nanB64 (i := j)
  generalize nanB .f64 j = z2 at *
  simp -implicitDefEqProofs []
  have h := floor_nan (C := C) (G := G) (d := d) (hC 224 (by simp)) hL hu2
  generalize callPure (evFn F C G (d + 1)) C (.fn 224) [.p (.flt .f64 z2)] = T224 at h ⊢
  induction T224 with
  | fail => exact absurd h (by rw [All_fail]; exact id)
  | pick n k ih =>
    rw [All_pick] at h
    simp -implicitDefEqProofs only [bind_pick, All_pick]
    exact ⟨h.1, fun i hi => ih i (h.2 i hi)⟩
  | ret a =>
    rw [All_ret] at h
    obtain ⟨z3, rfl, s3, u3, hu3⟩ := h
    have d3 := conv_nan (src := .f64) (dst := .f32) (by decide) hu3
    simp -implicitDefEqProofs [-convA, -optN, d3]
    simp -implicitDefEqProofs only [bind_pick, All_pick]
    refine ⟨nan_pos32, fun l _ => ?_⟩
    generalize nanB .f32 l = z4 at *
    simp -implicitDefEqProofs [fltBin, m1, nanA, arithB]
    simp -implicitDefEqProofs only [bind_pick, All_pick]
    refine ⟨nan_pos32, fun i2 _ => ?_⟩
    obtain ⟨s5, u5, hu5⟩ := nanB32 (i := i2)
    have o5 : ∀ x, FloatKind.f32.format.order x (nanB .f32 i2) = none := fun x => nan_right (k := .f32) hu5
    generalize nanB .f32 i2 = z5 at *
    simp -implicitDefEqProofs [fltBin, o5, kw]

theorem grid_inf (hC : ∀ f ∈ [213, 224, 211], ∀ as, C f as = none) {b : Nat} {s : Bool} (hr : single.read b = .infinity s) : callPure (evFn F C G (d + 2)) C (.fn 213) [.p (.flt .f32 b), .p (.flt .f32 1149239296)] = .ret (.p (.int .i64 3)) := by
  rw [call_eq fe213 _ (hC 213 (by simp) _)]
  have f0 : Op.negFloat .f32 1149239296 = 3296722944 := by decide +kernel
  have kw := fun bb e => when211c (C := C) (G := G) (d := d) (hC 211 (by simp)) bb e
  cases s
  · have e1 : FloatKind.f32.format.order b 3296722944 = some .gt := by
      unfold Format.order
      rw [show FloatKind.f32.format.read b = .infinity false from hr, show FloatKind.f32.format.read _ = _ from r1024n]; rfl
    have e2 : FloatKind.f32.format.order b 1149239296 = some .gt := by
      unfold Format.order
      rw [show FloatKind.f32.format.read b = .infinity false from hr, show FloatKind.f32.format.read _ = _ from r1024]; rfl
    simp -implicitDefEqProofs [c213, fltBin, f0, e1, e2, kw]
  · have e1 : FloatKind.f32.format.order b 3296722944 = some .lt := by
      unfold Format.order
      rw [show FloatKind.f32.format.read b = .infinity true from hr, show FloatKind.f32.format.read _ = _ from r1024n]; rfl
    simp -implicitDefEqProofs [c213, fltBin, f0, e1, kw]

theorem m199 : c199 = firstC := rfl
/-- the error of a sample -/
theorem sample201 (hC : ∀ f ∈ [201, 213, 224, 211, 199, 212, 222, 223, 233], ∀ as, C f as = none) (hL : LibOk C) (b : Nat) (K : AVal → Prop) (hK : K (.p (.int .i64 (smpE b)))) : (callPure (evFn F C G (d + 4)) C (.fn 201) [.p (.flt .f32 b)]).All K := by
  rw [call_eq fe201 _ (hC 201 (by simp) _)]
  have h := infinite212 (C := C) (G := G) (d := d) (fun f hf => hC f (by simp at hf ⊢; omega)) hL b (fun r => r = .p (.bool (finB b))) rfl
  have kw := fun bb e => when211c (C := C) (G := G) (d := d + 2) (hC 211 (by simp)) bb e
  have k9 := fun x y => first_ok (C := C) (G := G) (d := d + 2) (m199 ▸ fe199) (hC 199 (by simp)) [x, y] (by simp)
  simp only [pI, List.map_cons, List.map_nil, List.length_cons, List.length_nil, Nat.zero_add, Nat.reduceAdd] at k9
  simp -implicitDefEqProofs [c201]
  generalize callPure (evFn F C G (d + 3)) C (.fn 212) [.p (.flt .f32 b)] = T212 at h ⊢
  induction T212 with
  | fail => exact absurd h (by rw [All_fail]; exact id)
  | pick n k ih =>
    rw [All_pick] at h
    simp -implicitDefEqProofs only [bind_pick, All_pick]
    exact ⟨h.1, fun i hi => ih i (h.2 i hi)⟩
  | ret a =>
    rw [All_ret] at h
    subst h
    cases hr : single.read b with
    | number s m p =>
      have hfin : finB b = false := by unfold finB; rw [hr]
      have hsm : smpE b = gridE m p := by unfold smpE gridE; rw [hr]
      rw [hsm] at hK
      have kg := grid_num (C := C) (G := G) (d := d + 1) (fun f hf => hC f (by simp at hf ⊢; omega)) hL hr
      have hf : firstE [0, gridE m p] = gridE m p := by
        simp only [firstE, if_true]
        split <;> simp_all
      generalize gridE m p = e at *
      have k99 := k9 0 e
      rw [hf] at k99
      simp -implicitDefEqProofs [hfin, kw, kg, k99, hK]
    | infinity s =>
      have hfin : finB b = true := by unfold finB; rw [hr]
      have hsm : smpE b = 1 := by unfold smpE; rw [hr]
      rw [hsm] at hK
      have kg := grid_inf (C := C) (G := G) (d := d + 1) (fun f hf => hC f (by simp at hf ⊢; omega)) hr
      have k99 := k9 1 3
      simp -implicitDefEqProofs [hfin, kw, kg, k99, firstE, hK]
    | nan s t =>
      have hfin : finB b = true := by unfold finB; rw [hr]
      have hsm : smpE b = 1 := by unfold smpE; rw [hr]
      rw [hsm] at hK
      have hg := grid_nan (C := C) (G := G) (d := d + 1) (fun f hf => hC f (by simp at hf ⊢; omega)) hL hr
      simp -implicitDefEqProofs [hfin, kw]
      generalize callPure (evFn F C G (d + 3)) C (.fn 213) [.p (.flt .f32 b), .p (.flt .f32 1149239296)] = T213 at hg ⊢
      induction T213 with
      | fail => exact absurd hg (by rw [All_fail]; exact id)
      | pick n k ih =>
        rw [All_pick] at hg
        simp -implicitDefEqProofs only [bind_pick, All_pick]
        exact ⟨hg.1, fun i hi => ih i (hg.2 i hi)⟩
      | ret a =>
        rw [All_ret] at hg
        obtain ⟨e, rfl⟩ := hg
        have k99 := k9 1 e
        simp -implicitDefEqProofs [k99, firstE, hK]
end
end Fw
end

section
/- Samples of integers; samples by contract. -/
set_option maxHeartbeats 8000000
namespace Fw
open Go Ieee
attribute [local irreducible] evCode evOps evOpsD evOper evOperD evOp evFn loopN T.All T.bind callPure callOp opsK opsDK restK seqK blockK loopS setK setQ giveK scalK gcK finish finS rfunK yldK yldB loopK

/-- the sample of an integer -/
def smpF (n : Int) : Nat := (sampleO n).getD 0
/-! contracts -/
def smpC1 : Con := fun as => match as with
  | [.p (.flt .f32 b)] => some (.ret (.p (.int .i64 (smpE b))))
  | _ => none
def smpC2 : Con := fun as => match as with
  | [.p (.flt .f32 b), .p (.int .i64 n)] => if n = 16384 then some (.ret (.p (.int .i64 (smpE b)))) else none
  | _ => none
section
variable {C : Nat → List AVal → Option (T AVal)} {G : Nat → Option (List PVal)} {d : Nat}
theorem smpC1_ok (hC : ∀ f ∈ [201, 213, 224, 211, 199, 212, 222, 223, 233], ∀ as, C f as = none) (hL : LibOk C) {as : List AVal} {t : T AVal} (h : smpC1 as = some t) (K : AVal → Prop) (hK : t.All K) : (callPure (evFn F C G (d + 4)) C (.fn 201) as).All K := by
  unfold smpC1 at h
  split at h
  · cases h
    rw [All_ret] at hK
    exact sample201 hC hL _ K hK
  · cases h
theorem smpC2_ok (hC : ∀ as, C 202 as = none) {as : List AVal} {t : T AVal} (h : smpC2 as = some t) (K : AVal → Prop) (hK : t.All K) : (callPure (evFn F C G (d + 1)) C (.fn 202) as).All K := by
  unfold smpC2 at h
  split at h
  · split at h
    · rename_i e
      cases h
      subst e
      rw [All_ret] at hK
      exact part202 hC _ K hK
    · cases h
  · cases h
end
end Fw
end

