/- Sets of packs, checked; what fits; bounds: the pulse chapter and its reference. -/
import Derived.Test.YtombnimlolbekaaGreatDoorPuX2
set_option maxHeartbeats 8000000
namespace Fw
open Go
attribute [local irreducible] evCode evOps evOpsD evOper evOperD evOp evFn loopN T.All T.bind callPure callOp opsK opsDK restK seqK blockK loopS setK setQ giveK scalK gcK finish finS rfunK yldK yldB loopK

def targE (x : Int × Int) : Int := ivE 0 10000000 x
theorem target141 {n : Nat} (hn : 4 ≤ n) (x : Int × Int) : RUN n 141 [.agg [iv x.1, iv x.2]] = .ret (iv (targE x)) := by
  obtain ⟨d, rfl⟩ : ∃ d, n = d + 4 := ⟨n - 4, by omega⟩
  rw [RUN, call_eq fe141 _ rfl]
  simp -implicitDefEqProofs [c141, interval105 (n := d + 3) (by omega) x, targE]
theorem target81 {n : Nat} (hn : 4 ≤ n) (x : Int × Int) : RUN n 81 [.agg [iv x.1, iv x.2]] = .ret (iv (targE x)) := by
  obtain ⟨d, rfl⟩ : ∃ d, n = d + 4 := ⟨n - 4, by omega⟩
  rw [RUN, call_eq fe81 _ rfl]
  simp -implicitDefEqProofs [c81, ends102 (n := d + 3) (by omega) x, targE]
theorem price82 {n : Nat} (hn : 3 ≤ n) (k : Int) : RUN n 82 [iv k] = .ret (iv (rangeE (-1000) 1000 k)) := by
  obtain ⟨d, rfl⟩ : ∃ d, n = d + 3 := ⟨n - 3, by omega⟩
  rw [RUN, call_eq fe82 _ rfl]
  simp -implicitDefEqProofs [c82, range101 (n := d + 2)]

/-- packs that are valid, as far as the numbers go -/
structure PkOk (x : PackI) : Prop where
  force : 0 ≤ x.force ∧ x.force ≤ 10000
  time : 1 ≤ x.time ∧ x.time ≤ 64
  cost : 0 ≤ x.cost ∧ x.cost ≤ 1000000
structure PksOk (l : List PackI) : Prop where
  few : l.length ≤ 8
  all : ∀ x ∈ l, PkOk x
theorem packs_of {l : List PackI} (h : packsE l = 0) : PksOk l := by
  unfold packsE at h
  split at h
  · omega
  · rename_i h8
    refine ⟨by omega, fun x hx => ?_⟩
    obtain ⟨i, hi, rfl⟩ := List.getElem_of_mem hx
    have h1 := firstE_zero.1 h (packE l i) (List.mem_map.2 ⟨i, by simpa using hi, rfl⟩)
    have h2 := firstE_zero.1 h1
    rw [getD_at hi] at h2
    exact ⟨rangeE_zero.1 (h2 (rangeE 0 10000 l[i].force) (by simp)), rangeE_zero.1 (h2 (rangeE 1 64 l[i].time) (by simp)), rangeE_zero.1 (h2 (rangeE 0 1000000 l[i].cost) (by simp))⟩

def impI (x : PackI) : Int := x.force * x.time
theorem imp_in {x : PackI} (h : PkOk x) : 0 ≤ impI x ∧ impI x ≤ 640000 := by
  have h1 : 0 ≤ x.force * x.time := Int.mul_nonneg h.force.1 (by have := h.time; omega)
  have h2 : x.force * x.time ≤ 10000 * x.time := Int.mul_le_mul_of_nonneg_right h.force.2 (by have := h.time; omega)
  have h3 := h.time
  unfold impI
  omega

theorem impulse142 {n : Nat} (hn : 1 ≤ n) {x : PackI} (h : PkOk x) : RUN n 142 [pka x] = .ret (iv (impI x)) := by
  obtain ⟨d, rfl⟩ : ∃ d, n = d + 1 := ⟨n - 1, by omega⟩
  rw [RUN, call_eq fe142 _ rfl]
  have h1 := imp_in h
  have w : IntKind.i64.wrap (x.force * x.time) = impI x := wrap64 (by unfold impI at h1; omega) (by unfold impI at h1; omega)
  simp -implicitDefEqProofs [c142, w]

/-! sets -/

def outB (n : Nat) (i : Int) : Bool := decide (i < 0) || decide ((n : Int) ≤ i)
def ordE (set : List Int) (k : Nat) : Int := if set.getD (k + 1) 0 ≤ set.getD k 0 then 11 else 0
/-- the error of a set of some packs -/
def setEr (n : Nat) (set : List Int) : Int := if set.any (outB n) = true then 10 else firstE ((List.range (set.length - 1)).map (ordE set))

theorem out172 {n : Nat} (hn : 1 ≤ n) (l : List PackI) (i : Int) : RUN n 172 [iv i, .p (.pp [.sl (cP l) l.length])] = .ret (.p (.bool (outB l.length i))) := by
  obtain ⟨d, rfl⟩ : ∃ d, n = d + 1 := ⟨n - 1, by omega⟩
  rw [RUN, call_eq fe172 _ rfl]
  by_cases h : i < 0 <;> simp -implicitDefEqProofs [c172, h, outB]

theorem index190 {d : Nat} (c : List Int) (f : Nat) (caps : List PVal) (g : Int → Bool) (hn : ∀ p ∈ caps, nrm p = p) (hl : c.length < 1000000) (hf : ∀ x ∈ c, RUN d f (iv x :: caps.map .p) = .ret (.p (.bool (g x)))) :
    ∃ r : Int, RUN (d + 1) 190 [isl c, .p (.clo f [] caps)] = .ret (iv r) ∧ ((0 : Int) ≤ r ↔ c.any g = true) := by
  rw [RUN, call_eq fe190 _ rfl]
  let inv : Nat → St := fun i => ⟨[(0, isl c), (1, .p (.clo f [] caps)), (7, iv c.length), (8, iv i)], []⟩
  let e : Nat → Int := fun i => if g (c.getD i 0) = true then 1 else 0
  have key := loop_first (step := loopS (evFn F C0 G0 d) C0 G0 0 true [0, 1, 7, 8] c190L0) inv e c.length (.exit 0, ⟨(inv c.length).env ++ [(9, .p (.bool false))], []⟩) (fun i => (.ret, ⟨[(4, iv i)], []⟩))
    (st0 := ⟨[(0, isl c), (1, .p (.clo f [] caps)), (7, iv c.length), (8, iv 0)], []⟩) rfl (fun i hi => by
      have hlt' : (i : Int) < c.length := by omega
      have hgi : c.getD i 0 = c[i] := by simp [List.getD_eq_getElem?_getD, List.getElem?_eq_getElem hi]
      have hei : e i = if g c[i] = true then 1 else 0 := by simp only [e, hgi]
      have h1 := hf c[i] (List.getElem_mem hi)
      rw [hei]
      cases hg : g c[i] with
      | false =>
        rw [hg] at h1
        refine ⟨fun _ => ⟨inv (i + 1), ?_, rfl⟩, fun hz => absurd (by simp) hz⟩
        simp -implicitDefEqProofs [inv, loopS_eq, c190L0, hi, hlt', h1, Function.comp_def, nrm_list hn, wrap_succ (i := i) (by omega)]
      | true =>
        rw [hg] at h1
        refine ⟨fun hz => absurd hz (by simp), fun _ => ?_⟩
        simp -implicitDefEqProofs [inv, loopS_eq, c190L0, hi, hlt', h1, Function.comp_def, nrm_list hn]) (fun i => by simp) (by simp -implicitDefEqProofs [inv, loopS_eq, c190L0]) (by simp) (fuel := loopFuel) (by simp [loopFuel]; omega)
  generalize hB : c.any g = B
  simp -implicitDefEqProofs [c190]
  rcases key with ⟨k1, k2⟩ | ⟨j, hj, k1, k2, k3, _⟩
  · refine ⟨-1, ?_, ?_⟩
    · rw [k1]
      simp -implicitDefEqProofs [inv]
    · have : c.any g = false := by
        rw [List.any_eq_false]
        intro x hx
        obtain ⟨i, hi, rfl⟩ := List.getElem_of_mem hx
        have h1 := firstE_zero.1 k2 (e i) (List.mem_map.2 ⟨i, by simpa using hi, rfl⟩)
        have hgi : c.getD i 0 = c[i] := by simp [List.getD_eq_getElem?_getD, List.getElem?_eq_getElem hi]
        intro hc
        simp only [e, hgi, hc, if_true] at h1
        omega
      rw [hB] at this; subst this; simp
  · refine ⟨j, ?_, ?_⟩
    · rw [k1]
      simp -implicitDefEqProofs
    · have hgi : c.getD j 0 = c[j] := by simp [List.getD_eq_getElem?_getD, List.getElem?_eq_getElem hj]
      have : c.any g = true := by
        rw [List.any_eq_true]
        refine ⟨c[j], List.getElem_mem hj, ?_⟩
        refine Classical.byContradiction (fun hc => k3 ?_)
        simp only [e, hgi, if_neg hc]
      rw [hB] at this; subst this; simp

theorem contains171 {d : Nat} (c : List Int) (f : Nat) (caps : List PVal) (g : Int → Bool) (hn : ∀ p ∈ caps, nrm p = p) (hl : c.length < 1000000) (hf : ∀ x ∈ c, RUN d f (iv x :: caps.map .p) = .ret (.p (.bool (g x)))) :
    RUN (d + 2) 171 [isl c, .p (.clo f [] caps)] = .ret (.p (.bool (c.any g))) := by
  obtain ⟨r, h1, h2⟩ := index190 c f caps g hn hl hf
  rw [RUN, call_eq fe171 _ rfl]
  have h3 : decide (0 ≤ r) = c.any g := by rw [Bool.eq_iff_iff]; simpa using h2
  simp -implicitDefEqProofs [c171, h1, h3]

theorem order_loop {d : Nat} {live : List Nat} {body : ACode} (c : List Int) (J : Nat → St) (bad : Ex × St) (okx : Ex × St) (hb : bad.1 ≠ .normal) (ho : okx.1 ≠ .normal) (hl : c.length < 1000000)
    (hstep : ∀ k, (h : k + 1 < c.length) → (¬ c[k + 1] ≤ c[k] → loopS (evFn F C0 G0 d) C0 G0 0 false live body (J (k + 1)) = .ret (.normal, J (k + 2))) ∧ (c[k + 1] ≤ c[k] → loopS (evFn F C0 G0 d) C0 G0 0 false live body (J (k + 1)) = .ret bad))
    (hend : loopS (evFn F C0 G0 d) C0 G0 0 false live body (J (c.length - 1 + 1)) = .ret okx) :
    loopN (loopS (evFn F C0 G0 d) C0 G0 0 false live body) loopFuel (J 1) = .ret (if firstE ((List.range (c.length - 1)).map (ordE c)) = 0 then okx else bad) ∧ (firstE ((List.range (c.length - 1)).map (ordE c)) = 0 ∨ firstE ((List.range (c.length - 1)).map (ordE c)) = 11) := by
  have key := loop_first (step := loopS (evFn F C0 G0 d) C0 G0 0 false live body) (fun k => J (k + 1)) (ordE c) (c.length - 1) okx (fun _ => bad) (st0 := J 1) rfl (fun k hk => by
    have h1 : k + 1 < c.length := by omega
    have g1 : c.getD (k + 1) 0 = c[k + 1] := by simp [List.getD_eq_getElem?_getD, List.getElem?_eq_getElem h1]
    have g2 : c.getD k 0 = c[k] := by simp [List.getD_eq_getElem?_getD, List.getElem?_eq_getElem (show k < c.length by omega)]
    obtain ⟨s1, s2⟩ := hstep k h1
    refine ⟨fun hz => ⟨J (k + 2), s1 (fun hc => ?_), rfl⟩, fun hz => s2 ?_⟩
    · simp only [ordE, g1, g2, if_pos hc] at hz
      omega
    · refine Classical.byContradiction (fun hc => hz ?_)
      simp only [ordE, g1, g2, if_neg hc]) (fun _ => hb) hend ho (fuel := loopFuel) (by simp [loopFuel]; omega)
  rcases key with ⟨k1, k2⟩ | ⟨j, hj, k1, k2, k3, _⟩
  · rw [k1, k2]; exact ⟨rfl, .inl rfl⟩
  · rw [k1, k2, if_neg k3]
    refine ⟨rfl, .inr ?_⟩
    unfold ordE at k3 ⊢
    split
    · rfl
    · rename_i hc; rw [if_neg hc] at k3; exact absurd rfl k3

theorem set140 {n : Nat} (hn : 4 ≤ n) (l : List PackI) (set : List Int) (hl : set.length < 1000000) : RUN n 140 [psl l, isl set] = .ret (iv (setEr l.length set)) := by
  obtain ⟨d, rfl⟩ : ∃ d, n = d + 4 := ⟨n - 4, by omega⟩
  rw [RUN, call_eq fe140 _ rfl]
  have h1 := contains171 (d := d + 1) set 172 [.pp [.sl (cP l) l.length]] (outB l.length) (by simp) hl (fun x _ => out172 (n := d + 1) (by omega) l x)
  have hs : setEr l.length set = if set.any (outB l.length) = true then 10 else firstE ((List.range (set.length - 1)).map (ordE set)) := rfl
  rw [hs]
  cases ha : set.any (outB l.length) with
  | true =>
    rw [ha] at h1
    simp -implicitDefEqProofs [c140, h1]
  | false =>
    rw [ha] at h1
    let S : Sto := [(0, .box [psl l])]
    let J : Nat → St := fun i => ⟨[(1, isl set), (5, iv i)], S⟩
    obtain ⟨k1, k2⟩ := order_loop (d := d + 3) (live := [1, 5]) (body := c140L0) set J (.ret, ⟨[(4, iv 11)], S⟩) (.exit 0, ⟨[(1, isl set), (5, iv (set.length - 1 + 1 : Nat)), (12, .p (.bool false))], S⟩) (by simp) (by simp) hl (fun k hk => by
      have b1 : (k : Int) + 1 < set.length := by omega
      have b2 : (k : Int) < set.length := by omega
      have b3 : (0 : Int) ≤ (k : Int) + 1 := by omega
      have t1 : ((k : Int) + 1).toNat = k + 1 := by omega
      have e1 : (k : Int) + 1 - 1 = k := by omega
      have w1 := wrap64 (n := (k : Int)) (by omega) (by omega)
      have w2 := wrap64 (n := (k : Int) + 1 + 1) (by omega) (by omega)
      have hk2 : k < set.length := by omega
      refine ⟨fun hc => ?_, fun hc => ?_⟩
      · simp -implicitDefEqProofs [J, S, loopS_eq, c140L0, b1, b2, b3, t1, e1, w1, w2, hk, hk2, hc]
        omega
      · simp -implicitDefEqProofs [J, S, loopS_eq, c140L0, b1, b2, b3, t1, e1, w1, hk, hk2, hc]) (by
        have : ¬ ((set.length - 1 + 1 : Nat) : Int) < set.length := by omega
        generalize set.length - 1 + 1 = m at *
        simp -implicitDefEqProofs [J, S, loopS_eq, c140L0, this])
    simp only [J, S] at k1
    have k1' : loopN (loopS (evFn F C0 G0 (d + 3)) C0 G0 0 false [1, 5] c140L0) loopFuel ⟨[(1, isl set), (5, iv 1)], [(0, .box [psl l])]⟩ = _ := k1
    simp -implicitDefEqProofs [c140, h1]
    rw [k1']
    rcases k2 with k2 | k2
    · rw [k2]
      simp -implicitDefEqProofs
    · rw [k2]
      simp -implicitDefEqProofs

theorem set83 {n : Nat} (hn : 1 ≤ n) (l : List PackI) (set : List Int) (hl : set.length < 1000000) : RUN n 83 [psl l, isl set] = .ret (iv (setEr l.length set)) := by
  obtain ⟨d, rfl⟩ : ∃ d, n = d + 1 := ⟨n - 1, by omega⟩
  rw [RUN, call_eq fe83 _ rfl]
  have hs : setEr l.length set = if set.any (outB l.length) = true then 10 else firstE ((List.range (set.length - 1)).map (ordE set)) := rfl
  rw [hs]
  let inv : Nat → St := fun i => ⟨[(0, psl l), (1, isl set), (5, iv i)], []⟩
  let e : Nat → Int := fun i => if outB l.length (set.getD i 0) = true then 1 else 0
  have key := loop_first (step := loopS (evFn F C0 G0 d) C0 G0 0 false [0, 1, 5] c83L0) inv e set.length (.exit 0, ⟨(inv set.length).env ++ [(10, .p (.bool false))], []⟩) (fun i => (.ret, ⟨[(4, iv 10)], []⟩))
    (st0 := ⟨[(0, psl l), (1, isl set), (5, iv 0)], []⟩) rfl (fun i hi => by
      have hlt' : (i : Int) < set.length := by omega
      have hgi : set.getD i 0 = set[i] := by simp [List.getD_eq_getElem?_getD, List.getElem?_eq_getElem hi]
      have hei : e i = if outB l.length set[i] = true then 1 else 0 := by simp only [e, hgi]
      rw [hei]
      by_cases h1 : set[i] < 0
      · have ho : outB l.length set[i] = true := by simp [outB, h1]
        refine ⟨fun hz => absurd hz (by simp [ho]), fun _ => ?_⟩
        simp -implicitDefEqProofs [inv, loopS_eq, c83L0, hi, hlt', h1]
      · by_cases h2 : (l.length : Int) ≤ set[i]
        · have ho : outB l.length set[i] = true := by simp [outB, h2]
          refine ⟨fun hz => absurd hz (by simp [ho]), fun _ => ?_⟩
          simp -implicitDefEqProofs [inv, loopS_eq, c83L0, hi, hlt', h1, h2]
        · have ho : outB l.length set[i] = false := by simp only [outB, Bool.or_eq_false_iff, decide_eq_false_iff_not]; exact ⟨h1, h2⟩
          refine ⟨fun _ => ⟨inv (i + 1), ?_, rfl⟩, fun hz => absurd (by simp [ho]) hz⟩
          simp -implicitDefEqProofs [inv, loopS_eq, c83L0, hi, hlt', h1, h2, wrap_succ (i := i) (by omega)]) (fun i => by simp) (by simp -implicitDefEqProofs [inv, loopS_eq, c83L0]) (by simp) (fuel := loopFuel) (by simp [loopFuel]; omega)
  rcases key with ⟨k1, k2⟩ | ⟨j, hj, k1, k2, k3, _⟩
  · have ha : set.any (outB l.length) = false := by
      rw [List.any_eq_false]
      intro x hx
      obtain ⟨i, hi, rfl⟩ := List.getElem_of_mem hx
      have h1 := firstE_zero.1 k2 (e i) (List.mem_map.2 ⟨i, by simpa using hi, rfl⟩)
      have hgi : set.getD i 0 = set[i] := by simp [List.getD_eq_getElem?_getD, List.getElem?_eq_getElem hi]
      intro hc
      simp only [e, hgi, hc, if_true] at h1
      omega
    rw [ha]
    let J : Nat → St := fun i => ⟨[(1, isl set), (6, iv i)], []⟩
    obtain ⟨q1, q2⟩ := order_loop (d := d) (live := [1, 6]) (body := c83L1) set J (.ret, ⟨[(4, iv 11)], []⟩) (.exit 2, ⟨[(1, isl set), (6, iv (set.length - 1 + 1 : Nat)), (30, .p (.bool false))], []⟩) (by simp) (by simp) hl (fun k hk => by
      have b1 : (k : Int) + 1 < set.length := by omega
      have b2 : (k : Int) < set.length := by omega
      have b3 : (0 : Int) ≤ (k : Int) + 1 := by omega
      have t1 : ((k : Int) + 1).toNat = k + 1 := by omega
      have e1 : (k : Int) + 1 - 1 = k := by omega
      have w1 := wrap64 (n := (k : Int)) (by omega) (by omega)
      have w2 := wrap64 (n := (k : Int) + 1 + 1) (by omega) (by omega)
      have hk2 : k < set.length := by omega
      refine ⟨fun hc => ?_, fun hc => ?_⟩
      · simp -implicitDefEqProofs [J, loopS_eq, c83L1, b1, b2, b3, t1, e1, w1, w2, hk, hk2, hc]
        omega
      · simp -implicitDefEqProofs [J, loopS_eq, c83L1, b1, b2, b3, t1, e1, w1, hk, hk2, hc]) (by
        have : ¬ ((set.length - 1 + 1 : Nat) : Int) < set.length := by omega
        generalize set.length - 1 + 1 = m at *
        simp -implicitDefEqProofs [J, loopS_eq, c83L1, this])
    simp only [J] at q1
    have q1' : loopN (loopS (evFn F C0 G0 d) C0 G0 0 false [1, 6] c83L1) loopFuel ⟨[(1, isl set), (6, iv 1)], []⟩ = _ := q1
    simp -implicitDefEqProofs [c83]
    rw [k1]
    simp -implicitDefEqProofs [inv]
    rw [q1']
    rcases q2 with q2 | q2
    · rw [q2]
      simp -implicitDefEqProofs
    · rw [q2]
      simp -implicitDefEqProofs
  · have ha : set.any (outB l.length) = true := by
      have hgi : set.getD j 0 = set[j] := by simp [List.getD_eq_getElem?_getD, List.getElem?_eq_getElem hj]
      rw [List.any_eq_true]
      refine ⟨set[j], List.getElem_mem hj, ?_⟩
      refine Classical.byContradiction (fun hc => k3 ?_)
      simp only [e, hgi, if_neg hc]
    rw [ha]
    simp -implicitDefEqProofs [c83]
    rw [k1]
    simp -implicitDefEqProofs
end Fw
