/- A sample's error, by the program: on the grid, within the limits. -/
import Derived.Test.YtbaedpfgjpkabaaGreatDoorSmp3
set_option maxHeartbeats 8000000
namespace Fw
open Go Ieee
attribute [local irreducible] evCode evOps evOpsD evOper evOperD evOp evFn loopN T.All T.bind callPure callOp opsK opsDK restK seqK blockK loopS setK setQ giveK scalK gcK finish finS rfunK yldK yldB loopK
section
variable {C : Nat → List AVal → Option (T AVal)} {G : Nat → Option (List PVal)} {d : Nat}

theorem floor224 (hC : ∀ as, C 224 as = none) (hL : LibOk C) {y : Nat} {s : Bool} {k : Nat} {q : Int} (h : double.read y = .number s k q) (hq : -2000 ≤ q) : callPure (evFn F C G (d + 1)) C (.fn 224) [.p (.flt .f64 y)] = .ret (.p (.flt .f64 (FloatKind.f64.encode (.number s (V k q / 2 ^ 2000 + (s && V k q % 2 ^ 2000 != 0).toNat) 0)))) := by
  have h' : FloatKind.f64.decode y = .number s k q := h
  have hc : C 234 [.p (.flt .f64 y)] = some (.ret (.p (.flt .f64 (FloatKind.f64.encode (.number s (V k q / 2 ^ 2000 + (s && V k q % 2 ^ 2000 != 0).toNat) 0))))) := by
    rw [hL.down]
    obtain ⟨c1, c2⟩ := V_cut k q hq
    have c3 : ((k <<< q.toNat) % 2 ^ (-q).toNat != 0) = (V k q % 2 ^ 2000 != 0) := by
      by_cases e : V k q % 2 ^ 2000 = 0
      · rw [c2.2 e, e]
      · have : ¬ (k <<< q.toNat) % 2 ^ (-q).toNat = 0 := fun x => e (c2.1 x)
        rw [bne_iff_ne.2 this, bne_iff_ne.2 e]
    simp only [cIntegral, h', Datum.integral, cut_down, c1, c3]
  have k1 : ∀ n, callPure (evFn F C G n) C (.fn 234) [.p (.flt .f64 y)] = .ret (.p (.flt .f64 (FloatKind.f64.encode (.number s (V k q / 2 ^ 2000 + (s && V k q % 2 ^ 2000 != 0).toNat) 0)))) := fun n => by simp only [callPure, hc]
  generalize FloatKind.f64.encode (.number s (V k q / 2 ^ 2000 + (s && V k q % 2 ^ 2000 != 0).toNat) 0) = z at *
  rw [call_eq fe224 _ (hC _)]
  simp -implicitDefEqProofs [c224, k1]

theorem frac_nan {y : Nat} {s : Bool} {t : Nat} (h : double.read y = .nan s t) : 0 < t ∧ t < 2 ^ 52 := by
  have hb : double.binade = 2 ^ 52 := rfl
  have hi : double.infRung = 2047 * 2 ^ 52 := rfl
  have hs : double.signWeight = 2 ^ 63 := rfl
  unfold Format.read at h
  simp only [hb, hi, hs] at h
  have hr : y % 2 ^ 63 < 2 ^ 63 := Nat.mod_lt _ (by decide)
  generalize y % 2 ^ 63 = r at *
  split at h
  · cases h
  · split at h
    · cases h
    · split at h
      · cases h
      · injection h with h1 h2
        omega
theorem quiet_nan {s : Bool} {t : Nat} (_h0 : 0 < t) (h1 : t < 2 ^ 52) : ∃ u, double.read (FloatKind.f64.encode (.nan s (FloatKind.f64.format.quiet t))) = .nan s u := by
  have hb : double.binade = 2 ^ 52 := rfl
  have hi : double.infRung = 2047 * 2 ^ 52 := rfl
  have hs : double.signWeight = 2 ^ 63 := rfl
  have hq : FloatKind.f64.format.quiet t = t ||| 2 ^ 51 := rfl
  have hlt : t ||| 2 ^ 51 < 2 ^ 52 := Nat.or_lt_two_pow h1 (by decide)
  have hge : 2 ^ 51 ≤ t ||| 2 ^ 51 := Nat.right_le_or
  have he : FloatKind.f64.encode (.nan s (FloatKind.f64.format.quiet t)) = double.word s (2047 * 2 ^ 52 + (t ||| 2 ^ 51)) := by
    rw [hq]
    show double.word s (double.infRung + (t ||| 2 ^ 51) % double.binade) = _
    rw [hi, hb, Nat.mod_eq_of_lt hlt]
  rw [he]
  generalize t ||| 2 ^ 51 = u at *
  obtain ⟨w1, w2⟩ := word_read double s (r := 2047 * 2 ^ 52 + u) (by rw [hs]; omega)
  unfold Format.read
  simp only [w1, w2, hb, hi]
  rw [if_neg (by omega), if_neg (by omega), if_neg (by omega)]
  exact ⟨_, rfl⟩

def nanD (z : Nat) : Prop := ∃ s t, double.read z = .nan s t
theorem floor_nan (hC : ∀ as, C 224 as = none) (hL : LibOk C) {y : Nat} {s : Bool} {t : Nat} (h : double.read y = .nan s t) : (callPure (evFn F C G (d + 1)) C (.fn 224) [.p (.flt .f64 y)]).All (fun r => ∃ z, r = .p (.flt .f64 z) ∧ nanD z) := by
  have h' : FloatKind.f64.decode y = .nan s t := h
  obtain ⟨t0, t1⟩ := frac_nan h
  obtain ⟨u, hu⟩ := quiet_nan (s := s) t0 t1
  rw [call_eq fe224 _ (hC _)]
  by_cases hqt : FloatKind.f64.format.quiet t = t
  · have k1 : ∀ n, callPure (evFn F C G n) C (.fn 234) [.p (.flt .f64 y)] = .ret (.p (.flt .f64 y)) := fun n => by
      simp only [callPure, hL.down, cIntegral, h', hqt, if_true]
    have hz : nanD y := ⟨s, t, h⟩
    simp -implicitDefEqProofs [c224, k1, hz]
  · have k1 : ∀ n, callPure (evFn F C G n) C (.fn 234) [.p (.flt .f64 y)] = .pick 2 fun i => .ret (.p (.flt .f64 (if i = 1 then y else FloatKind.f64.encode (.nan s (FloatKind.f64.format.quiet t))))) := fun n => by
      simp only [callPure, hL.down, cIntegral, h', hqt, if_false]
    generalize FloatKind.f64.encode (.nan s (FloatKind.f64.format.quiet t)) = z at *
    simp -implicitDefEqProofs [c224, k1]
    simp -implicitDefEqProofs only [T.All_bind, All_pick]
    refine ⟨by decide, fun i _ => ?_⟩
    by_cases e : i = 1
    · have hz : nanD y := ⟨s, t, h⟩
      simp -implicitDefEqProofs [e, hz]
    · have hz : nanD z := ⟨s, u, hu⟩
      simp -implicitDefEqProofs [e, hz]

theorem when211c (hC : ∀ as, C 211 as = none) (b : Bool) (e : Int) : callPure (evFn F C G (d + 1)) C (.fn 211) [.p (.bool b), .p (.int .i64 e)] = .ret (.p (.int .i64 (if b then e else 0))) := by
  rw [call_eq fe211 _ (hC _)]
  cases b <;> simp [c211]

def gridE (m : Nat) (p : Int) : Int := if 1024 * 2 ^ 2000 < V m p ∨ (16 * V m p) % 2 ^ 2000 ≠ 0 then 3 else 0

theorem grid_num (hC : ∀ f ∈ [213, 224, 211], ∀ as, C f as = none) (hL : LibOk C) {b : Nat} {s : Bool} {m : Nat} {p : Int} (hr : single.read b = .number s m p) : callPure (evFn F C G (d + 2)) C (.fn 213) [.p (.flt .f32 b), .p (.flt .f32 1149239296)] = .ret (.p (.int .i64 (gridE m p))) := by
  rw [call_eq fe213 _ (hC 213 (by simp) _)]
  obtain ⟨h1, h2, h3⟩ := read32 b hr
  have f0 : Op.negFloat .f32 1149239296 = 3296722944 := by decide +kernel
  have hr' : FloatKind.f32.decode b = .number s m p := hr
  have f8 := ord_num (k := .f32) hr' r1024n (by omega) (by decide)
  have f9 := ord_num (k := .f32) hr' r1024 (by omega) (by decide)
  have kw := fun bb e => when211c (C := C) (G := G) (d := d) (hC 211 (by simp)) bb e
  have hneg : sV true 8388608 (-13) = -((1024 * 2 ^ 2000 : Nat) : Int) := by simp only [sV, V1024, if_true]
  have hpos : sV false 8388608 (-13) = ((1024 * 2 ^ 2000 : Nat) : Int) := by simp only [sV, V1024, Bool.false_eq_true, if_false]
  have hQ := two_pos
  by_cases c : 1024 * 2 ^ 2000 < V m p
  · have hg : gridE m p = 3 := by rw [gridE, if_pos (.inl c)]
    rw [hg]
    have : (FloatKind.f32.format.order b 3296722944 == some .lt) = true ∨ (FloatKind.f32.format.order b 3296722944 == some .lt) = false ∧ (FloatKind.f32.format.order b 1149239296 == some .gt) = true := by
      rw [f8, f9, cmp_lt, cmp_gt, hneg, hpos]
      simp only [sV]
      generalize 2 ^ 2000 = Q at *
      cases s
      · right
        simp only [Bool.false_eq_true, if_false, decide_eq_false_iff_not, decide_eq_true_eq]
        omega
      · left
        simp only [if_true, decide_eq_true_eq]
        omega
    rcases this with e | ⟨e1, e2⟩
    · simp -implicitDefEqProofs [c213, fltBin, f0, e, kw]
    · simp -implicitDefEqProofs [c213, fltBin, f0, e1, e2, kw]
  · have e1 : (FloatKind.f32.format.order b 3296722944 == some .lt) = false := by
      rw [f8, cmp_lt, hneg]
      simp only [sV]
      generalize 2 ^ 2000 = Q at *
      cases s <;> simp only [Bool.false_eq_true, if_false, if_true, decide_eq_false_iff_not] <;> omega
    have e2 : (FloatKind.f32.format.order b 1149239296 == some .gt) = false := by
      rw [f9, cmp_gt, hpos]
      simp only [sV]
      generalize 2 ^ 2000 = Q at *
      cases s <;> simp only [Bool.false_eq_true, if_false, if_true, decide_eq_false_iff_not] <;> omega
    obtain ⟨r, k, q, e3, e4, e5, e6, e7⟩ := mul16_32 hr (Nat.le_of_not_lt c)
    have e3' : FloatKind.f32.format.mul 1098907648 b = some r := e3
    have e4' : FloatKind.f32.decode r = .number s k q := e4
    have hq104 := read32 r e4
    -- as a number of the greater format
    obtain ⟨k2, q2, f4, g2, g3, g4⟩ := conv64 e4
    generalize hy : FloatKind.f64.encode (.number s k q) = y at *
    have fin2 : (Datum.number s k2 q2).isInfinity = false := rfl
    have kf := floor224 (C := C) (G := G) (d := d) (hC 224 (by simp)) hL f4 (by omega)
    rw [g2, e5] at kf
    have hX : 16 * V m p ≤ 16384 * 2 ^ 2000 := by
      generalize 2 ^ 2000 = Q at *
      omega
    have hdm := Nat.div_add_mod (16 * V m p) (2 ^ 2000)
    have hd : 16 * V m p / 2 ^ 2000 ≤ 16384 := by
      generalize 16 * V m p = X at *
      generalize 2 ^ 2000 = Q at *
      rw [Nat.div_le_iff_le_mul_add_pred hQ]; omega
    have hml := Nat.mod_lt (16 * V m p) hQ
    generalize hFl : 16 * V m p / 2 ^ 2000 + (s && 16 * V m p % 2 ^ 2000 != 0).toNat = Fl at *
    have hF : Fl ≤ 16385 := by
      have : (s && 16 * V m p % 2 ^ 2000 != 0).toNat ≤ 1 := Bool.toNat_le _
      omega
    have h24 : 16385 < 2 ^ 24 := by decide
    have h53 : 16385 < 2 ^ 53 := by decide
    obtain ⟨TT, hTT, hbig⟩ := V_fits Fl 15 (by omega)
    obtain ⟨k3, q3, i1, i2, i3, i4⟩ := exact64 s Fl 0 (by decide) (k := Fl) (q := 0) (by omega) (by decide) rfl (T := TT) (by omega) hbig
    have i1' : FloatKind.f64.decode (FloatKind.f64.encode (.number s Fl 0)) = .number s k3 q3 := i1
    generalize FloatKind.f64.encode (.number s Fl 0) = z at *
    obtain ⟨k4, q4, j1, j2, j3, j4⟩ := exact32 s k3 q3 (by omega) (k := Fl) (q := 0) (by omega) (by decide) (by rw [i2]) (T := TT) (by omega) (by rw [i2]; exact hbig)
    have j1' : FloatKind.f32.decode (FloatKind.f32.encode (.number s k3 q3)) = .number s k4 q4 := j1
    generalize hw : FloatKind.f32.encode (.number s k3 q3) = w at *
    have fin4 : (Datum.number s k4 q4).isInfinity = false := rfl
    have f12 := ord_num (k := .f32) j1' e4' (by omega) (by omega)
    have e8 : (FloatKind.f32.format.order w r != some .eq) = decide ((16 * V m p) % 2 ^ 2000 ≠ 0) := by
      rw [f12, cmp_ne]
      rw [V_zero] at i2
      simp only [sV, j2, i2, e5]
      generalize 16 * V m p = X at *
      generalize 2 ^ 2000 = Q at *
      generalize hz : X / Q = zz at *
      have key : ((if s = true then -((Fl * Q : Nat) : Int) else ((Fl * Q : Nat) : Int)) = if s = true then -(X : Int) else (X : Int)) ↔ X % Q = 0 := by
        have e : (Fl * Q = X) ↔ X % Q = 0 := by
          constructor
          · intro h
            rw [← h]; exact Nat.mul_mod_left ..
          · intro h
            have : (s && X % Q != 0).toNat = 0 := by rw [h]; simp
            rw [this] at hFl
            rw [← hFl, Nat.add_zero, Nat.mul_comm]
            omega
        rw [← e]
        cases s
        · simp only [Bool.false_eq_true, if_false]; omega
        · simp only [if_true]; omega
      exact decide_eq_decide.2 ⟨fun h h2 => h (key.2 h2), fun h h2 => h (key.1 h2)⟩
    by_cases c2 : (16 * V m p) % 2 ^ 2000 = 0
    · have hg : gridE m p = 0 := by rw [gridE, if_neg (by rw [not_or]; exact ⟨c, fun h => h c2⟩)]
      rw [c2] at e8
      simp only [ne_eq, not_true_eq_false, decide_false] at e8
      rw [hg]
      simp -implicitDefEqProofs [c213, fltBin, f0, e1, e2, e3', e4', hy, f4, fin2, kf, i1', hw, j1', fin4, e8, kw]
    · have hg : gridE m p = 3 := by rw [gridE, if_pos (.inr c2)]
      have : decide ((16 * V m p) % 2 ^ 2000 ≠ 0) = true := decide_eq_true c2
      rw [this] at e8
      rw [hg]
      simp -implicitDefEqProofs [c213, fltBin, f0, e1, e2, e3', e4', hy, f4, fin2, kf, i1', hw, j1', fin4, e8, kw]

theorem All_fail {α : Type} (Q : α → Prop) : (T.fail : T α).All Q = False := by unfold T.All; rfl
theorem nan32_order {x y : Nat} {s : Bool} {t : Nat} (h : single.read x = .nan s t) : FloatKind.f32.format.order x y = none := neq_nan (k := .f32) h
theorem nan_right {k : FloatKind} {x y : Nat} {s : Bool} {t : Nat} (h : k.decode y = .nan s t) : k.format.order x y = none := by
  unfold Format.order
  rw [show k.format.read y = .nan s t from h]
  cases k.format.read x <;> rfl
theorem mul_nan {b : Nat} {s : Bool} {t : Nat} (h : single.read b = .nan s t) : FloatKind.f32.format.mul 1098907648 b = none := by
  unfold Format.mul
  rw [show FloatKind.f32.format.read b = .nan s t from h]
  cases FloatKind.f32.format.read 1098907648 <;> rfl

theorem conv_nan {src dst : FloatKind} {z : Nat} {s : Bool} {t : Nat} (hne : src ≠ dst) (h : src.decode z = .nan s t) : optN (convA [] (.flt dst) (.p (.flt src z))) (nanC (.flt dst) (.p (.flt src z))) [] = .pick (nanN dst) fun i => .ret (.p (.flt dst (nanB dst i)), []) := by
  simp only [optN, convA, nanC, if_neg hne, h, some1]

/-- of what is no number the grid says something -/
theorem grid_nan (hC : ∀ f ∈ [213, 224, 211], ∀ as, C f as = none) (hL : LibOk C) {b : Nat} {s : Bool} {t : Nat} (hr : single.read b = .nan s t) : (callPure (evFn F C G (d + 2)) C (.fn 213) [.p (.flt .f32 b), .p (.flt .f32 1149239296)]).All (fun r => ∃ e, r = .p (.int .i64 e)) := by
  rw [call_eq fe213 _ (hC 213 (by simp) _)]
  have f0 : Op.negFloat .f32 1149239296 = 3296722944 := by decide +kernel
  have kw := fun bb e => when211c (C := C) (G := G) (d := d) (hC 211 (by simp)) bb e
  have o1 : ∀ y, FloatKind.f32.format.order b y = none := fun y => nan32_order hr
  have m1 := mul_nan hr
  simp -implicitDefEqProofs [c213, fltBin, f0, o1, m1, nanA, arithB]
  simp -implicitDefEqProofs only [bind_pick, All_pick]
  refine ⟨nan_pos32, fun i _ => ?_⟩
  obtain ⟨s1, u1, hu1⟩ := nanB32 (i := i)
  have d1 := conv_nan (src := .f32) (dst := .f64) (by decide) hu1
  generalize nanB .f32 i = z1 at *
  simp -implicitDefEqProofs [-convA, -optN, d1]
  simp -implicitDefEqProofs only [bind_pick, All_pick]
  refine ⟨nan_pos64, fun j _ => ?_⟩
  obtain ⟨s2, u2, hu2⟩ := nanB64 (i := j)
  generalize nanB .f64 j = z2 at *
  simp -implicitDefEqProofs []
  have h := floor_nan (C := C) (G := G) (d := d) (hC 224 (by simp)) hL hu2
  generalize callPure (evFn F C G (d + 1)) C (.fn 224) [.p (.flt .f64 z2)] = T224 at h ⊢
  induction T224 with
  | fail => exact absurd h (by rw [All_fail]; exact id)
  | pick n k ih =>
    rw [All_pick] at h
    simp -implicitDefEqProofs only [bind_pick, All_pick]
    exact ⟨h.1, fun i hi => ih i (h.2 i hi)⟩
  | ret a =>
    rw [All_ret] at h
    obtain ⟨z3, rfl, s3, u3, hu3⟩ := h
    have d3 := conv_nan (src := .f64) (dst := .f32) (by decide) hu3
    simp -implicitDefEqProofs [-convA, -optN, d3]
    simp -implicitDefEqProofs only [bind_pick, All_pick]
    refine ⟨nan_pos32, fun l _ => ?_⟩
    generalize nanB .f32 l = z4 at *
    simp -implicitDefEqProofs [fltBin, m1, nanA, arithB]
    simp -implicitDefEqProofs only [bind_pick, All_pick]
    refine ⟨nan_pos32, fun i2 _ => ?_⟩
    obtain ⟨s5, u5, hu5⟩ := nanB32 (i := i2)
    have o5 : ∀ x, FloatKind.f32.format.order x (nanB .f32 i2) = none := fun x => nan_right (k := .f32) hu5
    generalize nanB .f32 i2 = z5 at *
    simp -implicitDefEqProofs [fltBin, o5, kw]

theorem grid_inf (hC : ∀ f ∈ [213, 224, 211], ∀ as, C f as = none) {b : Nat} {s : Bool} (hr : single.read b = .infinity s) : callPure (evFn F C G (d + 2)) C (.fn 213) [.p (.flt .f32 b), .p (.flt .f32 1149239296)] = .ret (.p (.int .i64 3)) := by
  rw [call_eq fe213 _ (hC 213 (by simp) _)]
  have f0 : Op.negFloat .f32 1149239296 = 3296722944 := by decide +kernel
  have kw := fun bb e => when211c (C := C) (G := G) (d := d) (hC 211 (by simp)) bb e
  cases s
  · have e1 : FloatKind.f32.format.order b 3296722944 = some .gt := by
      unfold Format.order
      rw [show FloatKind.f32.format.read b = .infinity false from hr, show FloatKind.f32.format.read _ = _ from r1024n]; rfl
    have e2 : FloatKind.f32.format.order b 1149239296 = some .gt := by
      unfold Format.order
      rw [show FloatKind.f32.format.read b = .infinity false from hr, show FloatKind.f32.format.read _ = _ from r1024]; rfl
    simp -implicitDefEqProofs [c213, fltBin, f0, e1, e2, kw]
  · have e1 : FloatKind.f32.format.order b 3296722944 = some .lt := by
      unfold Format.order
      rw [show FloatKind.f32.format.read b = .infinity true from hr, show FloatKind.f32.format.read _ = _ from r1024n]; rfl
    simp -implicitDefEqProofs [c213, fltBin, f0, e1, kw]

theorem m199 : c199 = firstC := rfl
/-- the error of a sample -/
theorem sample201 (hC : ∀ f ∈ [201, 213, 224, 211, 199, 212, 222, 223, 233], ∀ as, C f as = none) (hL : LibOk C) (b : Nat) (K : AVal → Prop) (hK : K (.p (.int .i64 (smpE b)))) : (callPure (evFn F C G (d + 4)) C (.fn 201) [.p (.flt .f32 b)]).All K := by
  rw [call_eq fe201 _ (hC 201 (by simp) _)]
  have h := infinite212 (C := C) (G := G) (d := d) (fun f hf => hC f (by simp at hf ⊢; omega)) hL b (fun r => r = .p (.bool (finB b))) rfl
  have kw := fun bb e => when211c (C := C) (G := G) (d := d + 2) (hC 211 (by simp)) bb e
  have k9 := fun x y => first_ok (C := C) (G := G) (d := d + 2) (m199 ▸ fe199) (hC 199 (by simp)) [x, y] (by simp)
  simp only [pI, List.map_cons, List.map_nil, List.length_cons, List.length_nil, Nat.zero_add, Nat.reduceAdd] at k9
  simp -implicitDefEqProofs [c201]
  generalize callPure (evFn F C G (d + 3)) C (.fn 212) [.p (.flt .f32 b)] = T212 at h ⊢
  induction T212 with
  | fail => exact absurd h (by rw [All_fail]; exact id)
  | pick n k ih =>
    rw [All_pick] at h
    simp -implicitDefEqProofs only [bind_pick, All_pick]
    exact ⟨h.1, fun i hi => ih i (h.2 i hi)⟩
  | ret a =>
    rw [All_ret] at h
    subst h
    cases hr : single.read b with
    | number s m p =>
      have hfin : finB b = false := by unfold finB; rw [hr]
      have hsm : smpE b = gridE m p := by unfold smpE gridE; rw [hr]
      rw [hsm] at hK
      have kg := grid_num (C := C) (G := G) (d := d + 1) (fun f hf => hC f (by simp at hf ⊢; omega)) hL hr
      have hf : firstE [0, gridE m p] = gridE m p := by
        simp only [firstE, if_true]
        split <;> simp_all
      generalize gridE m p = e at *
      have k99 := k9 0 e
      rw [hf] at k99
      simp -implicitDefEqProofs [hfin, kw, kg, k99, hK]
    | infinity s =>
      have hfin : finB b = true := by unfold finB; rw [hr]
      have hsm : smpE b = 1 := by unfold smpE; rw [hr]
      rw [hsm] at hK
      have kg := grid_inf (C := C) (G := G) (d := d + 1) (fun f hf => hC f (by simp at hf ⊢; omega)) hr
      have k99 := k9 1 3
      simp -implicitDefEqProofs [hfin, kw, kg, k99, firstE, hK]
    | nan s t =>
      have hfin : finB b = true := by unfold finB; rw [hr]
      have hsm : smpE b = 1 := by unfold smpE; rw [hr]
      rw [hsm] at hK
      have hg := grid_nan (C := C) (G := G) (d := d + 1) (fun f hf => hC f (by simp at hf ⊢; omega)) hL hr
      simp -implicitDefEqProofs [hfin, kw]
      generalize callPure (evFn F C G (d + 3)) C (.fn 213) [.p (.flt .f32 b), .p (.flt .f32 1149239296)] = T213 at hg ⊢
      induction T213 with
      | fail => exact absurd hg (by rw [All_fail]; exact id)
      | pick n k ih =>
        rw [All_pick] at hg
        simp -implicitDefEqProofs only [bind_pick, All_pick]
        exact ⟨hg.1, fun i hi => ih i (hg.2 i hi)⟩
      | ret a =>
        rw [All_ret] at hg
        obtain ⟨e, rfl⟩ := hg
        have k99 := k9 1 e
        simp -implicitDefEqProofs [k99, firstE, hK]
end
end Fw
