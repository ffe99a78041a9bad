/- Momenta: the chapter's and the reference's. -/
import Derived.Test.YtfkacogfieiccaaGreatDoorBaP1
set_option maxHeartbeats 8000000
namespace Fw
open Go
attribute [local irreducible] evCode evOps evOpsD evOper evOperD evOp evFn loopN T.All T.bind callPure callOp opsK opsDK restK seqK blockK loopS setK setQ giveK scalK gcK finish finS rfunK yldK yldB loopK

structure PartOk (x : PartI) : Prop where
  m1 : 1 ≤ x.ml
  m2 : x.ml ≤ x.mh
  m3 : x.mh ≤ 10000000
  b1 : -100000 ≤ x.bl
  b2 : x.bl ≤ x.bh
  b3 : x.bh ≤ 100000
  a1 : -100000 ≤ x.al
  a2 : x.al ≤ x.ah
  a3 : x.ah ≤ 100000
theorem parts_of {l : List PartI} (h : partsE l = 0) : (0 < l.length ∧ l.length ≤ 8) ∧ ∀ i, (hi : i < l.length) → PartOk l[i] := by
  unfold partsE at h
  by_cases c : manyE l.length 8 = 0
  · rw [if_pos c] at h
    have hm := manyE_zero.1 c
    refine ⟨by omega, fun i hi => ?_⟩
    have := all_zero h i hi
    rw [partE_lt hi, firstE_zero] at this
    simp only [List.mem_cons, List.not_mem_nil, or_false, forall_eq_or_imp, forall_eq, ivE_zero] at this
    exact ⟨by omega, by omega, by omega, by omega, by omega, by omega, by omega, by omega, by omega⟩
  · rw [if_neg c] at h; exact absurd h c

theorem prod_abs {a b A B : Int} (h1 : -A ≤ a) (h2 : a ≤ A) (h3 : -B ≤ b) (h4 : b ≤ B) : -(A * B) ≤ a * b ∧ a * b ≤ A * B := by
  have ha : a.natAbs ≤ A.natAbs := by omega
  have hb : b.natAbs ≤ B.natAbs := by omega
  have hm : (a * b).natAbs ≤ (A * B).natAbs := by rw [Int.natAbs_mul, Int.natAbs_mul]; exact Nat.mul_le_mul ha hb
  have hp : 0 ≤ A * B := Int.mul_nonneg (by omega) (by omega)
  omega

/-- the least and the greatest product -/
def prI (a b c e : Int) : Int × Int := (min (min (min (a * c) (a * e)) (b * c)) (b * e), max (max (max (a * c) (a * e)) (b * c)) (b * e))
theorem minInt3 (a b c e : Int) : minInt a [iv b, iv c, iv e] = some (min (min (min a b) c) e) := by
  simp only [minInt]; congr 1; split <;> split <;> split <;> omega
theorem maxInt3 (a b c e : Int) : maxInt a [iv b, iv c, iv e] = some (max (max (max a b) c) e) := by
  simp only [maxInt]; congr 1; split <;> split <;> split <;> omega

theorem prI_in {a b c e : Int} (h1 : -10000000 ≤ a) (h2 : a ≤ 10000000) (h3 : -10000000 ≤ b) (h4 : b ≤ 10000000) (h5 : -100000 ≤ c) (h6 : c ≤ 100000) (h7 : -100000 ≤ e) (h8 : e ≤ 100000) :
    (-1000000000000 ≤ (prI a b c e).1 ∧ (prI a b c e).1 ≤ 1000000000000) ∧ (-1000000000000 ≤ (prI a b c e).2 ∧ (prI a b c e).2 ≤ 1000000000000) ∧ (prI a b c e).1 ≤ (prI a b c e).2 := by
  have p1 := prod_abs (A := 10000000) (B := 100000) h1 h2 h5 h6
  have p2 := prod_abs (A := 10000000) (B := 100000) h1 h2 h7 h8
  have p3 := prod_abs (A := 10000000) (B := 100000) h3 h4 h5 h6
  have p4 := prod_abs (A := 10000000) (B := 100000) h3 h4 h7 h8
  unfold prI
  generalize a * c = w at *
  generalize a * e = x at *
  generalize b * c = y at *
  generalize b * e = z at *
  simp only
  omega

theorem times131 {n : Nat} (hn : 1 ≤ n) {a b c e : Int} (h1 : -10000000 ≤ a) (h2 : a ≤ 10000000) (h3 : -10000000 ≤ b) (h4 : b ≤ 10000000) (h5 : -100000 ≤ c) (h6 : c ≤ 100000) (h7 : -100000 ≤ e) (h8 : e ≤ 100000) :
    RUN n 131 [.agg [iv a, iv b], .agg [iv c, iv e]] = .ret (.agg [iv (prI a b c e).1, iv (prI a b c e).2]) := by
  obtain ⟨d, rfl⟩ : ∃ d, n = d + 1 := ⟨n - 1, by omega⟩
  rw [RUN, call_eq fe131 _ rfl]
  have p1 := prod_abs (A := 10000000) (B := 100000) h1 h2 h5 h6
  have p2 := prod_abs (A := 10000000) (B := 100000) h1 h2 h7 h8
  have p3 := prod_abs (A := 10000000) (B := 100000) h3 h4 h5 h6
  have p4 := prod_abs (A := 10000000) (B := 100000) h3 h4 h7 h8
  have w1 : IntKind.i64.wrap (a * c) = a * c := wrap64 (by omega) (by omega)
  have w2 : IntKind.i64.wrap (a * e) = a * e := wrap64 (by omega) (by omega)
  have w3 : IntKind.i64.wrap (b * c) = b * c := wrap64 (by omega) (by omega)
  have w4 : IntKind.i64.wrap (b * e) = b * e := wrap64 (by omega) (by omega)
  simp -implicitDefEqProofs [c131, w1, w2, w3, w4, minInt3, maxInt3, prI]

theorem products178 {n : Nat} (hn : 3 ≤ n) {a b c e : Int} (h1 : -10000000 ≤ a) (h2 : a ≤ 10000000) (h3 : -10000000 ≤ b) (h4 : b ≤ 10000000) (h5 : -100000 ≤ c) (h6 : c ≤ 100000) (h7 : -100000 ≤ e) (h8 : e ≤ 100000) :
    RUN n 178 [.agg [iv a, iv b], .agg [iv c, iv e]] = .ret (.agg [iv (prI a b c e).1, iv (prI a b c e).2]) := by
  obtain ⟨d, rfl⟩ : ∃ d, n = d + 3 := ⟨n - 3, by omega⟩
  rw [RUN, call_eq fe178 _ rfl]
  have p1 := prod_abs (A := 10000000) (B := 100000) h1 h2 h5 h6
  have p2 := prod_abs (A := 10000000) (B := 100000) h1 h2 h7 h8
  have p3 := prod_abs (A := 10000000) (B := 100000) h3 h4 h5 h6
  have p4 := prod_abs (A := 10000000) (B := 100000) h3 h4 h7 h8
  have w1 : IntKind.i64.wrap (a * c) = a * c := wrap64 (by omega) (by omega)
  have w2 : IntKind.i64.wrap (a * e) = a * e := wrap64 (by omega) (by omega)
  have w3 : IntKind.i64.wrap (b * c) = b * c := wrap64 (by omega) (by omega)
  have w4 : IntKind.i64.wrap (b * e) = b * e := wrap64 (by omega) (by omega)
  have hmin := min186 (n := d + 2) (by omega) [a * c, a * e, b * c, b * e] (by simp) (by simp)
  have hmax := max135 (n := d + 2) (by omega) [a * c, a * e, b * c, b * e] (by simp) (by simp)
  have e1 : loF [a * c, a * e, b * c, b * e] 3 = (prI a b c e).1 := rfl
  have e2 : hiF [a * c, a * e, b * c, b * e] 3 = (prI a b c e).2 := rfl
  simp only [isl, pI, List.map_cons, List.map_nil, List.length_cons, List.length_nil, Nat.zero_add, Nat.reduceAdd, Nat.add_one_sub_one, e1, e2] at hmin hmax
  simp -implicitDefEqProofs [c178, w1, w2, w3, w4, hmin, hmax]

theorem plus165 {n : Nat} (hn : 1 ≤ n) {a b c e : Int} (h1 : -2000000000000000000 ≤ a) (h2 : a ≤ 2000000000000000000) (h3 : -2000000000000000000 ≤ b) (h4 : b ≤ 2000000000000000000) (h5 : -2000000000000000000 ≤ c) (h6 : c ≤ 2000000000000000000) (h7 : -2000000000000000000 ≤ e) (h8 : e ≤ 2000000000000000000) :
    RUN n 165 [.agg [iv a, iv b], .agg [iv c, iv e]] = .ret (.agg [iv (a + c), iv (b + e)]) := by
  obtain ⟨d, rfl⟩ : ∃ d, n = d + 1 := ⟨n - 1, by omega⟩
  rw [RUN, call_eq fe165 _ rfl]
  have w1 : IntKind.i64.wrap (a + c) = a + c := wrap64 (by omega) (by omega)
  have w2 : IntKind.i64.wrap (b + e) = b + e := wrap64 (by omega) (by omega)
  simp -implicitDefEqProofs [c165, w1, w2]
theorem minus166 {n : Nat} (hn : 1 ≤ n) {a b c e : Int} (h1 : -2000000000000000000 ≤ a) (h2 : a ≤ 2000000000000000000) (h3 : -2000000000000000000 ≤ b) (h4 : b ≤ 2000000000000000000) (h5 : -2000000000000000000 ≤ c) (h6 : c ≤ 2000000000000000000) (h7 : -2000000000000000000 ≤ e) (h8 : e ≤ 2000000000000000000) :
    RUN n 166 [.agg [iv a, iv b], .agg [iv c, iv e]] = .ret (.agg [iv (a - e), iv (b - c)]) := by
  obtain ⟨d, rfl⟩ : ∃ d, n = d + 1 := ⟨n - 1, by omega⟩
  rw [RUN, call_eq fe166 _ rfl]
  have w1 : IntKind.i64.wrap (a - e) = a - e := wrap64 (by omega) (by omega)
  have w2 : IntKind.i64.wrap (b - c) = b - c := wrap64 (by omega) (by omega)
  simp -implicitDefEqProofs [c166, w1, w2]

/-! the momenta of the first parts -/
def bfI (x : PartI) : Int × Int := prI x.ml x.mh x.bl x.bh
def afI (x : PartI) : Int × Int := prI x.ml x.mh x.al x.ah
def momF (f : PartI → Int × Int) (l : List PartI) : Nat → Int × Int
  | 0 => (0, 0)
  | k + 1 => ((momF f l k).1 + (f (l.getD k par0)).1, (momF f l k).2 + (f (l.getD k par0)).2)
theorem bfI_in {x : PartI} (h : PartOk x) : (-1000000000000 ≤ (bfI x).1 ∧ (bfI x).1 ≤ 1000000000000) ∧ (-1000000000000 ≤ (bfI x).2 ∧ (bfI x).2 ≤ 1000000000000) ∧ (bfI x).1 ≤ (bfI x).2 := by
  obtain ⟨m1, m2, m3, b1, b2, b3, a1, a2, a3⟩ := h
  exact prI_in (by omega) (by omega) (by omega) (by omega) (by omega) (by omega) (by omega) (by omega)
theorem afI_in {x : PartI} (h : PartOk x) : (-1000000000000 ≤ (afI x).1 ∧ (afI x).1 ≤ 1000000000000) ∧ (-1000000000000 ≤ (afI x).2 ∧ (afI x).2 ≤ 1000000000000) ∧ (afI x).1 ≤ (afI x).2 := by
  obtain ⟨m1, m2, m3, b1, b2, b3, a1, a2, a3⟩ := h
  exact prI_in (by omega) (by omega) (by omega) (by omega) (by omega) (by omega) (by omega) (by omega)
theorem momF_in {f : PartI → Int × Int} {l : List PartI} (hf : ∀ i, (hi : i < l.length) → (-1000000000000 ≤ (f l[i]).1 ∧ (f l[i]).1 ≤ 1000000000000) ∧ (-1000000000000 ≤ (f l[i]).2 ∧ (f l[i]).2 ≤ 1000000000000) ∧ (f l[i]).1 ≤ (f l[i]).2) :
    ∀ k, k ≤ l.length → (-1000000000000 * (k : Int) ≤ (momF f l k).1 ∧ (momF f l k).1 ≤ 1000000000000 * (k : Int)) ∧ (-1000000000000 * (k : Int) ≤ (momF f l k).2 ∧ (momF f l k).2 ≤ 1000000000000 * (k : Int)) ∧ (momF f l k).1 ≤ (momF f l k).2 := by
  intro k
  induction k with
  | zero => intro _; simp [momF]
  | succ k ih =>
    intro hk
    have h1 := ih (by omega)
    have h2 := hf k (by omega)
    simp only [momF, getD_p (show k < l.length by omega)]
    omega

theorem hid4 : hidT 4 = [2] := by decide
theorem momentum67 {n : Nat} (hn : 2 ≤ n) {l : List PartI} (hl : l.length ≤ 8) (hok : ∀ i, (hi : i < l.length) → PartOk l[i]) : RUN n 67 [ptl l] = .ret (.tup [.agg [iv (momF bfI l l.length).1, iv (momF bfI l l.length).2], .agg [iv (momF afI l l.length).1, iv (momF afI l l.length).2]]) := by
  obtain ⟨d, rfl⟩ : ∃ d, n = d + 2 := ⟨n - 2, by omega⟩
  rw [RUN, call_eq fe67 _ rfl]
  let Z : Obj := .arr [.int .i64 0, .int .i64 0] 0 1
  let inv : Nat → St := fun k => ⟨[(0, ptl l), (2, .ptr 0 0 0), (3, .ptr 1 0 0), (4, .ptr 2 0 0), (5, .ptr 3 0 0), (6, iv k)], [(3, .arr [.int .i64 (momF afI l k).1, .int .i64 (momF afI l k).2] 0 1), (2, .arr [.int .i64 (momF bfI l k).1, .int .i64 (momF bfI l k).2] 0 1), (1, Z), (0, Z)]⟩
  simp -implicitDefEqProofs [c67]
  rw [loop_run' inv l.length (e := .exit 0) (st' := ⟨(inv l.length).env ++ [(12, .p (.bool false))], (inv l.length).sto⟩) (by simp)]
  · simp -implicitDefEqProofs [inv, Z, hidI, hide, hid4, stOp, plain]
  · exact loopS_same rfl (by simp [inv, Z, momF])
  · intro k hk
    have hx := rowC_drop pc7_len l k hk
    have hlt : k * 7 < l.length * 7 := by omega
    have hlt' : (k : Int) < l.length := by omega
    have hws := wrap_succ (i := k) (by omega)
    have hb := momF_in (f := bfI) (fun i hi => bfI_in (hok i hi)) k (by omega)
    have ha := momF_in (f := afI) (fun i hi => afI_in (hok i hi)) k (by omega)
    have hpo := hok k hk
    have sb : momF bfI l (k + 1) = ((momF bfI l k).1 + (bfI l[k]).1, (momF bfI l k).2 + (bfI l[k]).2) := by simp only [momF, getD_p hk]
    have sa : momF afI l (k + 1) = ((momF afI l k).1 + (afI l[k]).1, (momF afI l k).2 + (afI l[k]).2) := by simp only [momF, getD_p hk]
    have q1 := bfI_in hpo
    have q2 := afI_in hpo
    generalize l[k] = x at *
    obtain ⟨m1, m2, m3, b1, b2, b3, a1, a2, a3⟩ := hpo
    have t1 := times131 (n := d + 1) (by omega) (a := x.ml) (b := x.mh) (c := x.bl) (e := x.bh) (by omega) (by omega) (by omega) (by omega) (by omega) (by omega) (by omega) (by omega)
    have t2 := times131 (n := d + 1) (by omega) (a := x.ml) (b := x.mh) (c := x.al) (e := x.ah) (by omega) (by omega) (by omega) (by omega) (by omega) (by omega) (by omega) (by omega)
    rw [show prI x.ml x.mh x.bl x.bh = bfI x from rfl] at t1
    rw [show prI x.ml x.mh x.al x.ah = afI x from rfl] at t2
    have w1 : IntKind.i64.wrap ((momF bfI l k).1 + (bfI x).1) = (momF bfI l k).1 + (bfI x).1 := wrap64 (by omega) (by omega)
    have w2 : IntKind.i64.wrap ((momF bfI l k).2 + (bfI x).2) = (momF bfI l k).2 + (bfI x).2 := wrap64 (by omega) (by omega)
    have w3 : IntKind.i64.wrap ((momF afI l k).1 + (afI x).1) = (momF afI l k).1 + (afI x).1 := wrap64 (by omega) (by omega)
    have w4 : IntKind.i64.wrap ((momF afI l k).2 + (afI x).2) = (momF afI l k).2 + (afI x).2 := wrap64 (by omega) (by omega)
    refine ⟨?_, ?h1, ?h2⟩
    case h1 =>
      simp -implicitDefEqProofs [inv, Z, loopS_eq, c67L0, cP_len, hx, hlt, hlt', hws, t1, t2, w1, w2, w3, w4]
      exact rfl
    case h2 => exact loopS_same rfl (by simp [inv, Z, sb, sa])
  · simp -implicitDefEqProofs [inv, Z, loopS_eq, c67L0]
  · simp [loopFuel]; omega
end Fw
