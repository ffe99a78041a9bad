/- Impulses: the chapter's and the reference's. -/
import Derived.Test.YtfkacogfieiccaaGreatDoorBaW2
import Derived.Test.YtfkacogfieiccaaGreatDoorBaP2
set_option maxHeartbeats 8000000
namespace Fw
open Go
attribute [local irreducible] evCode evOps evOpsD evOper evOperD evOp evFn loopN T.All T.bind callPure callOp opsK opsDK restK seqK blockK loopS setK setQ giveK scalK gcK finish finS rfunK yldK yldB loopK

/-! sums -/
def sumI : List Int → Int
  | [] => 0
  | x :: r => x + sumI r
theorem sumI_append (a b : List Int) : sumI (a ++ b) = sumI a + sumI b := by
  induction a with
  | nil => simp [sumI]
  | cons x r ih => simp [sumI, ih]; omega
theorem sumI_take {l : List Int} {i : Nat} (h : i < l.length) : sumI (l.take (i + 1)) = sumI (l.take i) + l[i] := by
  rw [← List.take_append_getElem h, sumI_append]; simp [sumI]
theorem sumI_in {B : Int} : ∀ {l : List Int}, (∀ x ∈ l, -B ≤ x ∧ x ≤ B) → -(B * (l.length : Int)) ≤ sumI l ∧ sumI l ≤ B * (l.length : Int) := by
  intro l
  induction l with
  | nil => intro _; simp [sumI]
  | cons x r ih =>
    intro h
    have h1 := ih (fun y hy => h y (List.mem_cons_of_mem _ hy))
    have h2 := h x (List.mem_cons_self ..)
    simp only [sumI, List.length_cons]
    have : B * ((r.length + 1 : Nat) : Int) = B * (r.length : Int) + B := by
      rw [show ((r.length + 1 : Nat) : Int) = (r.length : Int) + 1 by omega, Int.mul_add, Int.mul_one]
    omega

theorem sum137 {n : Nat} (hn : 1 ≤ n) {l : List Int} (hl : l.length ≤ 1000) (hb : ∀ x ∈ l, -1000000000000000 ≤ x ∧ x ≤ 1000000000000000) : RUN n 137 [isl l] = .ret (iv (sumI l)) := by
  obtain ⟨d, rfl⟩ : ∃ d, n = d + 1 := ⟨n - 1, by omega⟩
  rw [RUN, call_eq fe137 _ rfl]
  let inv : Nat → St := fun i => ⟨[(3, iv (sumI (l.take i))), (6, isl l), (7, iv l.length), (8, iv i)], []⟩
  have htl : l.take l.length = l := List.take_of_length_le (by omega)
  simp -implicitDefEqProofs [c137]
  rw [loop_run' inv l.length (e := .exit 0) (st' := ⟨(inv l.length).env ++ [(9, .p (.bool false))], []⟩) (by simp)]
  · simp -implicitDefEqProofs [inv, htl]
  · simp [inv, sumI]
  · intro i hi
    have hlt' : (i : Int) < l.length := by omega
    have hgo : l[i]? = some l[i] := List.getElem?_eq_getElem hi
    have h1 := sumI_in (B := 1000000000000000) (l := l.take i) (fun x hx => hb x (List.mem_of_mem_take hx))
    have h2 := hb l[i] (List.getElem_mem hi)
    have h3 : ((l.take i).length : Int) ≤ 1000 := by simp; omega
    have hw : IntKind.i64.wrap (sumI (l.take i) + l[i]) = sumI (l.take (i + 1)) := by
      rw [sumI_take hi]
      exact wrap64 (by omega) (by omega)
    refine ⟨inv (i + 1), ?_, rfl⟩
    simp -implicitDefEqProofs [inv, loopS_eq, c137L0, hi, hlt', hw, wrap_succ (i := i) (by omega)]
  · simp -implicitDefEqProofs [inv, loopS_eq, c137L0, htl]
  · simp [loopFuel]; omega

/-! what is known of a valid wall -/
structure LoadOk (x : LoadI) : Prop where
  px : 0 ≤ x.x ∧ x.x ≤ 1000000
  py : 0 ≤ x.y ∧ x.y ≤ 1000000
  sc : 1 ≤ x.scale ∧ x.scale ≤ 1000000
  er : 0 ≤ x.err ∧ x.err ≤ 1000000
  ln : 0 < x.s.length ∧ x.s.length ≤ 64
  sm : ∀ n ∈ x.s, -x.scale ≤ n ∧ n ≤ x.scale
structure WallOk (l : List LoadI) : Prop where
  len : 0 < l.length ∧ l.length ≤ 16
  ok : ∀ i, (hi : i < l.length) → LoadOk l[i]
  eq : ∀ i, (hi : i < l.length) → l[i].s.length = (l.getD 0 loa0).s.length
theorem wall_of {l : List LoadI} (h : wallE l = 0) : WallOk l := by
  unfold wallE at h
  by_cases c : manyE l.length 16 = 0
  · rw [if_pos c] at h
    have hm := manyE_zero.1 c
    have hz := all_zero h
    have key : ∀ i, (hi : i < l.length) → LoadOk l[i] ∧ l[i].s.length = (l.getD 0 loa0).s.length := by
      intro i hi
      have h1 := hz i hi
      unfold loadE at h1
      by_cases zA : loadA1 l i = 0
      · rw [if_pos zA, loadB_lt hi, firstE_zero] at h1
        rw [loadA_lt hi, firstE_zero] at zA
        simp only [List.mem_cons, List.not_mem_nil, or_false, forall_eq_or_imp, forall_eq, rangeE_zero, rangesE_zero, whenE_zero (show (12 : Int) ≠ 0 by decide), whenE_zero (show (5 : Int) ≠ 0 by decide), whenE_zero (show (2 : Int) ≠ 0 by decide), decide_eq_false_iff_not, beq_eq_false_iff_ne, bne_eq_false_iff_eq] at h1 zA
        obtain ⟨_, a1, a2, a3, a4⟩ := zA
        obtain ⟨b1, b2, b3, b4⟩ := h1
        rw [getD_w (show 0 < l.length by omega)]
        exact ⟨⟨a1, a2, a3, a4, by omega, b4⟩, by omega⟩
      · rw [if_neg zA] at h1; exact absurd h1 zA
    exact ⟨by omega, fun i hi => (key i hi).1, fun i hi => (key i hi).2⟩
  · rw [if_neg c] at h; exact absurd h c

/-- the impulse of a cell -/
def impI (x : LoadI) : Int × Int := (100 * (sumI x.s - (x.s.length : Int) * x.err), 100 * (sumI x.s + (x.s.length : Int) * x.err))
def anyI (x : LoadI) : Int × Int := (-(100 * (x.s.length : Int) * x.scale), 100 * (x.s.length : Int) * x.scale)
theorem sums_in {x : LoadI} (h : LoadOk x) : (-64000000 ≤ sumI x.s ∧ sumI x.s ≤ 64000000) ∧ 0 ≤ (x.s.length : Int) * x.err ∧ (x.s.length : Int) * x.err ≤ 64000000 := by
  have h1 := sumI_in (B := 1000000) (l := x.s) (fun n hn => by have := h.sm n hn; have := h.sc; omega)
  have h2 := prod_in (a := (x.s.length : Int)) (b := x.err) (A := 64) (B := 1000000) ⟨by omega, by have := h.ln; omega⟩ h.er
  have := h.ln
  omega
theorem impI_in {x : LoadI} (h : LoadOk x) : (-12800000000 ≤ (impI x).1 ∧ (impI x).1 ≤ 12800000000) ∧ (-12800000000 ≤ (impI x).2 ∧ (impI x).2 ≤ 12800000000) ∧ (impI x).1 ≤ (impI x).2 := by
  have := sums_in h
  simp only [impI]
  omega
theorem anyI_in {x : LoadI} (h : LoadOk x) : (-6400000000 ≤ (anyI x).1 ∧ (anyI x).1 ≤ 0) ∧ (0 ≤ (anyI x).2 ∧ (anyI x).2 ≤ 6400000000) ∧ (anyI x).1 = -(anyI x).2 := by
  have h1 := h.ln
  have h2 := prod_in (a := 100 * (x.s.length : Int)) (b := x.scale) (A := 6400) (B := 1000000) ⟨by omega, by omega⟩ ⟨by have := h.sc; omega, h.sc.2⟩
  simp only [anyI]
  generalize 100 * (x.s.length : Int) * x.scale = q at *
  exact ⟨⟨by omega, by omega⟩, ⟨by omega, by omega⟩, trivial⟩

theorem impulse129 {n : Nat} (hn : 2 ≤ n) {x : LoadI} (h : LoadOk x) : RUN n 129 [.agg (la6 x)] = .ret (.agg [iv (impI x).1, iv (impI x).2]) := by
  obtain ⟨d, rfl⟩ : ∃ d, n = d + 2 := ⟨n - 2, by omega⟩
  rw [RUN, call_eq fe129 _ rfl]
  have hs := sums_in h
  have h1 := sum137 (n := d + 1) (by omega) (l := x.s) (by have := h.ln; omega) (fun n hn => by have := h.sm n hn; have := h.sc; omega)
  have w1 : IntKind.i64.wrap ((x.s.length : Int) * x.err) = (x.s.length : Int) * x.err := wrap64 (by omega) (by omega)
  have w2 : IntKind.i64.wrap (sumI x.s - (x.s.length : Int) * x.err) = sumI x.s - (x.s.length : Int) * x.err := wrap64 (by omega) (by omega)
  have w3 : IntKind.i64.wrap (100 * (sumI x.s - (x.s.length : Int) * x.err)) = (impI x).1 := wrap64 (by omega) (by omega)
  have w4 : IntKind.i64.wrap (sumI x.s + (x.s.length : Int) * x.err) = sumI x.s + (x.s.length : Int) * x.err := wrap64 (by omega) (by omega)
  have w5 : IntKind.i64.wrap (100 * (sumI x.s + (x.s.length : Int) * x.err)) = (impI x).2 := wrap64 (by omega) (by omega)
  simp -implicitDefEqProofs [c129, h1, w1, w2, w3, w4, w5]

theorem any130 {n : Nat} (hn : 1 ≤ n) {x : LoadI} (h : LoadOk x) : RUN n 130 [.agg (la6 x)] = .ret (.agg [iv (anyI x).1, iv (anyI x).2]) := by
  obtain ⟨d, rfl⟩ : ∃ d, n = d + 1 := ⟨n - 1, by omega⟩
  rw [RUN, call_eq fe130 _ rfl]
  have ha := anyI_in h
  have hl := h.ln
  simp only [anyI] at ha
  have w1 : IntKind.i64.wrap (100 * (x.s.length : Int)) = 100 * (x.s.length : Int) := wrap64 (by omega) (by omega)
  have w2 : IntKind.i64.wrap (100 * (x.s.length : Int) * x.scale) = 100 * (x.s.length : Int) * x.scale := wrap64 (by omega) (by omega)
  have w3 : IntKind.i64.wrap (-(100 * (x.s.length : Int) * x.scale)) = -(100 * (x.s.length : Int) * x.scale) := wrap64 (by omega) (by omega)
  simp -implicitDefEqProofs [c130, w1, w2, w3, anyI]

theorem impulse133 {n : Nat} (hn : 1 ≤ n) {x : LoadI} (h : LoadOk x) : RUN n 133 [.agg (la6 x)] = .ret (.agg [iv (impI x).1, iv (impI x).2]) := by
  obtain ⟨d, rfl⟩ : ∃ d, n = d + 1 := ⟨n - 1, by omega⟩
  rw [RUN, call_eq fe133 _ rfl]
  have hs := sums_in h
  have hl := h.ln
  let B : Sto := [(1, .arr [.int .i64 0, .int .i64 0] 0 1), (0, .box (la6 x))]
  let inv : Nat → St := fun i => ⟨[(1, .ptr 0 0 0), (2, .ptr 1 0 0), (3, iv (sumI (x.s.take i))), (4, iv i)], B⟩
  have htl : x.s.take x.s.length = x.s := List.take_of_length_le (by omega)
  have w1 : IntKind.i64.wrap ((x.s.length : Int) * x.err) = (x.s.length : Int) * x.err := wrap64 (by omega) (by omega)
  have w2 : IntKind.i64.wrap (sumI x.s - (x.s.length : Int) * x.err) = sumI x.s - (x.s.length : Int) * x.err := wrap64 (by omega) (by omega)
  have w3 : IntKind.i64.wrap (100 * (sumI x.s - (x.s.length : Int) * x.err)) = (impI x).1 := wrap64 (by omega) (by omega)
  have w4 : IntKind.i64.wrap (sumI x.s + (x.s.length : Int) * x.err) = sumI x.s + (x.s.length : Int) * x.err := wrap64 (by omega) (by omega)
  have w5 : IntKind.i64.wrap (100 * (sumI x.s + (x.s.length : Int) * x.err)) = (impI x).2 := wrap64 (by omega) (by omega)
  have key : loopN (loopS (evFn F C0 G0 d) C0 G0 0 false [1, 2, 3, 4] c133L0) loopFuel ⟨[(1, .ptr 0 0 0), (2, .ptr 1 0 0), (3, iv 0), (4, iv 0)], B⟩ = .ret (.exit 0, ⟨[(1, .ptr 0 0 0), (2, .ptr 1 0 0), (3, iv (sumI x.s)), (4, iv x.s.length), (10, .p (.bool false))], B⟩) := by
    refine loop_run' inv x.s.length (by simp) ?_ ?_ ?_ (by simp [loopFuel]; omega)
    · simp [inv, sumI]
    · intro i hi
      have hlt' : (i : Int) < x.s.length := by omega
      have hgo : x.s[i]? = some x.s[i] := List.getElem?_eq_getElem hi
      have h1 := sumI_in (B := 1000000) (l := x.s.take i) (fun n hx => by have := h.sm n (List.mem_of_mem_take hx); have := h.sc; omega)
      have h2 := h.sm x.s[i] (List.getElem_mem hi)
      have h3 : ((x.s.take i).length : Int) ≤ 64 := by simp; omega
      have h4 := h.sc
      have hw : IntKind.i64.wrap (sumI (x.s.take i) + x.s[i]) = sumI (x.s.take (i + 1)) := by
        rw [sumI_take hi]
        exact wrap64 (by omega) (by omega)
      refine ⟨inv (i + 1), ?_, rfl⟩
      simp -implicitDefEqProofs [inv, B, loopS_eq, c133L0, hi, hlt', hw, wrap_succ (i := i) (by omega)]
    · simp -implicitDefEqProofs [inv, B, loopS_eq, c133L0, htl]
  simp only [B] at key
  have w1' : IntKind.i64.wrap (x.err * (x.s.length : Int)) = (x.s.length : Int) * x.err := by rw [Int.mul_comm]; exact w1
  simp -implicitDefEqProofs [c133, key, w1', w2, w3, w4, w5]

/-! sums of intervals -/
def tot : List (Int × Int) → Int × Int
  | [] => (0, 0)
  | x :: r => (x.1 + (tot r).1, x.2 + (tot r).2)
theorem tot_append (a b : List (Int × Int)) : tot (a ++ b) = ((tot a).1 + (tot b).1, (tot a).2 + (tot b).2) := by
  induction a with
  | nil => simp [tot]
  | cons x r ih => simp [tot, ih]; omega
theorem tot_take {l : List (Int × Int)} {i : Nat} (h : i < l.length) : tot (l.take (i + 1)) = ((tot (l.take i)).1 + l[i].1, (tot (l.take i)).2 + l[i].2) := by
  rw [← List.take_append_getElem h, tot_append]; simp [tot]
theorem tot_set (v : Int × Int) : ∀ (l : List (Int × Int)) (i : Nat) (h : i < l.length), tot (l.set i v) = ((tot l).1 - l[i].1 + v.1, (tot l).2 - l[i].2 + v.2) := by
  intro l
  induction l with
  | nil => intro i h; cases h
  | cons x r ih =>
    intro i h
    cases i with
    | zero => simp [tot]; omega
    | succ k =>
      have := ih k (by simpa using h)
      simp [tot, this]
      omega
def InB (B : Int) (x : Int × Int) : Prop := (-B ≤ x.1 ∧ x.1 ≤ B) ∧ (-B ≤ x.2 ∧ x.2 ≤ B) ∧ x.1 ≤ x.2
theorem tot_in {B : Int} : ∀ {l : List (Int × Int)}, (∀ x ∈ l, InB B x) → InB (B * (l.length : Int)) (tot l) := by
  intro l
  induction l with
  | nil => intro _; simp [tot, InB]
  | cons x r ih =>
    intro h
    have h1 := ih (fun y hy => h y (List.mem_cons_of_mem _ hy))
    have h2 := h x (List.mem_cons_self ..)
    have h3 : B * ((r.length + 1 : Nat) : Int) = B * (r.length : Int) + B := by
      rw [show ((r.length + 1 : Nat) : Int) = (r.length : Int) + 1 by omega, Int.mul_add, Int.mul_one]
    simp only [tot, List.length_cons]
    unfold InB at *
    omega

theorem total127 {n : Nat} (hn : 2 ≤ n) {l : List (Int × Int)} (hl : l.length ≤ 1000) (hb : ∀ x ∈ l, InB 1000000000000000 x) : RUN n 127 [csl l] = .ret (.agg [iv (tot l).1, iv (tot l).2]) := by
  obtain ⟨d, rfl⟩ : ∃ d, n = d + 2 := ⟨n - 2, by omega⟩
  rw [RUN, call_eq fe127 _ rfl]
  let Z : Obj := .arr [.int .i64 0, .int .i64 0] 0 1
  let inv : Nat → St := fun i => ⟨[(2, .ptr 0 0 0), (3, .ptr 1 0 0), (6, csl l), (7, iv l.length), (8, iv i)], [(1, .arr [.int .i64 (tot (l.take i)).1, .int .i64 (tot (l.take i)).2] 0 1), (0, Z)]⟩
  have htl : l.take l.length = l := List.take_of_length_le (by omega)
  simp -implicitDefEqProofs [c127]
  rw [loop_run' inv l.length (e := .exit 0) (st' := ⟨(inv l.length).env ++ [(9, .p (.bool false))], (inv l.length).sto⟩) (by simp)]
  · simp -implicitDefEqProofs [inv, Z, htl]
  · exact loopS_same rfl (by simp [inv, Z, tot])
  · intro i hi
    have hx := cI_drop l i hi
    have hlt : i * 2 < l.length * 2 := by omega
    have hlt' : (i : Int) < l.length := by omega
    have ht := tot_take hi
    have h1 := tot_in (B := 1000000000000000) (l := l.take i) (fun x hx => hb x (List.mem_of_mem_take hx))
    have h2 := hb l[i] (List.getElem_mem hi)
    have h3 : ((l.take i).length : Int) ≤ 1000 := by simp; omega
    unfold InB at h1 h2
    generalize l[i] = x at *
    have hp := plus165 (n := d + 1) (by omega) (a := (tot (l.take i)).1) (b := (tot (l.take i)).2) (c := x.1) (e := x.2) (by omega) (by omega) (by omega) (by omega) (by omega) (by omega) (by omega) (by omega)
    refine ⟨?_, ?h1, ?h2⟩
    case h1 =>
      simp -implicitDefEqProofs [inv, Z, loopS_eq, c127L0, hx, hlt, hlt', hp, wrap_succ (i := i) (by omega)]
      exact rfl
    case h2 => exact loopS_same rfl (by simp [inv, Z, ht])
  · simp -implicitDefEqProofs [inv, Z, loopS_eq, c127L0]
  · simp [loopFuel]; omega

def impL (l : List LoadI) : List (Int × Int) := l.map impI
@[simp] theorem impL_length (l : List LoadI) : (impL l).length = l.length := by simp [impL]
theorem impL_in {l : List LoadI} (h : WallOk l) : ∀ x ∈ impL l, InB 12800000000 x := by
  intro x hx
  obtain ⟨y, hy, rfl⟩ := List.mem_map.1 hx
  obtain ⟨i, hi, rfl⟩ := List.getElem_of_mem hy
  exact impI_in (h.ok i hi)

theorem map128 {n : Nat} (hn : 3 ≤ n) {l : List LoadI} (h : WallOk l) : RUN n 128 [lol l, .p (.clo 129 [] [])] = .ret (.own (cI (impL l)) l.length 2) := by
  obtain ⟨d, rfl⟩ : ∃ d, n = d + 3 := ⟨n - 3, by omega⟩
  rw [RUN, call_eq fe128 _ rfl]
  have hl := h.len
  let inv : Nat → St := fun i => ⟨[(1, .p (.clo 129 [] [])), (5, .sl 0 i 0 i), (8, lol l), (9, iv l.length), (10, iv i)], [(0, .arr (cI ((impL l).take i)) i 2)]⟩
  have htl : (impL l).take l.length = impL l := List.take_of_length_le (by simp)
  simp -implicitDefEqProofs [c128]
  rw [loop_run' inv l.length (e := .exit 0) (st' := ⟨(inv l.length).env ++ [(11, .p (.bool false))], (inv l.length).sto⟩) (by simp)]
  · simp -implicitDefEqProofs [inv, htl]
  · exact loopS_same rfl (by simp [inv, cI])
  · intro i hi
    have hx := rowC_drop lc6_len l i hi
    have hlt : i * 6 < l.length * 6 := by omega
    have hlt' : (i : Int) < l.length := by omega
    have hlim : i + 1 ≤ lim := by simp only [lim]; omega
    have hto : ((impL l).take i).length = i := by simp; omega
    have hi2 : i < (impL l).length := by simpa using hi
    have ht : cI ((impL l).take (i + 1)) = cI ((impL l).take i) ++ [.int .i64 (impI l[i]).1, .int .i64 (impI l[i]).2] := by
      rw [← List.take_append_getElem hi2, cI_append]
      simp [impL, cI]
    have hm := impulse129 (n := d + 2) (by omega) (h.ok i hi)
    generalize l[i] = x at *
    refine ⟨?_, ?h1, ?h2⟩
    case h1 =>
      simp -implicitDefEqProofs [inv, loopS_eq, c128L0, cW_len, hx, hlt, hlt', hlim, hto, hm, wrap_succ (i := i) (by omega)]
      exact rfl
    case h2 => exact loopS_same rfl (by simp [inv, ht, -List.map_take])
  · simp -implicitDefEqProofs [inv, loopS_eq, c128L0]
  · simp [loopFuel]; omega

theorem impulse77 {n : Nat} (hn : 2 ≤ n) {l : List LoadI} (h : WallOk l) : RUN n 77 [lol l] = .ret (.agg [iv (tot (impL l)).1, iv (tot (impL l)).2]) := by
  obtain ⟨d, rfl⟩ : ∃ d, n = d + 2 := ⟨n - 2, by omega⟩
  rw [RUN, call_eq fe77 _ rfl]
  have hl := h.len
  let Z : Obj := .arr [.int .i64 0, .int .i64 0] 0 1
  let inv : Nat → St := fun i => ⟨[(0, lol l), (2, .ptr 0 0 0), (3, .ptr 1 0 0), (4, iv i)], [(1, .arr [.int .i64 (tot ((impL l).take i)).1, .int .i64 (tot ((impL l).take i)).2] 0 1), (0, Z)]⟩
  have htl : (impL l).take l.length = impL l := List.take_of_length_le (by simp)
  simp -implicitDefEqProofs [c77]
  rw [loop_run' inv l.length (e := .exit 0) (st' := ⟨(inv l.length).env ++ [(9, .p (.bool false))], (inv l.length).sto⟩) (by simp)]
  · simp -implicitDefEqProofs [inv, Z, htl]
  · exact loopS_same rfl (by simp [inv, Z, tot])
  · intro i hi
    have hx := rowC_drop lc6_len l i hi
    have hlt : i * 6 < l.length * 6 := by omega
    have hlt' : (i : Int) < l.length := by omega
    have hi2 : i < (impL l).length := by simpa using hi
    have ht := tot_take hi2
    have hg : (impL l)[i] = impI l[i] := by simp [impL]
    rw [hg] at ht
    have h1 := tot_in (B := 12800000000) (l := (impL l).take i) (fun x hx => impL_in h x (List.mem_of_mem_take hx))
    have h2 := impI_in (h.ok i hi)
    have h3 : (((impL l).take i).length : Int) ≤ 16 := by simp; omega
    have hm := impulse133 (n := d + 1) (by omega) (h.ok i hi)
    unfold InB at h1
    generalize l[i] = x at *
    have w1 : IntKind.i64.wrap ((tot ((impL l).take i)).1 + (impI x).1) = (tot ((impL l).take i)).1 + (impI x).1 := wrap64 (by omega) (by omega)
    have w2 : IntKind.i64.wrap ((tot ((impL l).take i)).2 + (impI x).2) = (tot ((impL l).take i)).2 + (impI x).2 := wrap64 (by omega) (by omega)
    refine ⟨?_, ?h1, ?h2⟩
    case h1 =>
      simp -implicitDefEqProofs [inv, Z, loopS_eq, c77L0, cW_len, hx, hlt, hlt', hm, w1, w2, wrap_succ (i := i) (by omega)]
      exact rfl
    case h2 => exact loopS_same rfl (by simp [inv, Z, ht])
  · simp -implicitDefEqProofs [inv, Z, loopS_eq, c77L0]
  · simp [loopFuel]; omega
end Fw
