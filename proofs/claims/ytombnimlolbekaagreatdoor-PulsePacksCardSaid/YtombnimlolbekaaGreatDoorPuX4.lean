/- What fits; bounds: the pulse chapter and its reference. -/
import Derived.Test.YtombnimlolbekaaGreatDoorPuX3
set_option maxHeartbeats 8000000
namespace Fw
open Go
attribute [local irreducible] evCode evOps evOpsD evOper evOperD evOp evFn loopN T.All T.bind callPure callOp opsK opsDK restK seqK blockK loopS setK setQ giveK scalK gcK finish finS rfunK yldK yldB loopK

def atI (l : List PackI) (set : List Int) (k : Nat) : PackI := l.getD (set.getD k 0).toNat pk0
def impF (l : List PackI) (set : List Int) : Nat → Int
  | 0 => 0
  | k + 1 => impF l set k + impI (atI l set k)
def cstF (l : List PackI) (set : List Int) : Nat → Int
  | 0 => 0
  | k + 1 => cstF l set k + (atI l set k).cost

/-- indices that are in range -/
def InR (n : Nat) (set : List Int) : Prop := ∀ i ∈ set, 0 ≤ i ∧ i < n
theorem set_of {n : Nat} {set : List Int} (h : setEr n set = 0) : InR n set := by
  unfold setEr at h
  split at h
  · omega
  · rename_i ha
    intro i hi
    refine Classical.byContradiction (fun hc => ha ?_)
    rw [List.any_eq_true]
    exact ⟨i, hi, by simp only [outB, Bool.or_eq_true, decide_eq_true_eq]; omega⟩

theorem InR.at {l : List PackI} {set : List Int} (h : InR l.length set) {k : Nat} (hk : k < set.length) : set[k].toNat < l.length ∧ set[k] = ((set[k].toNat : Nat) : Int) ∧ atI l set k = l.getD set[k].toNat pk0 := by
  have h1 := h set[k] (List.getElem_mem hk)
  have hg : set.getD k 0 = set[k] := by simp [List.getD_eq_getElem?_getD, List.getElem?_eq_getElem hk]
  exact ⟨by omega, by omega, by rw [atI, hg]⟩

theorem sums_in {l : List PackI} (hp : PksOk l) {set : List Int} (h : InR l.length set) : ∀ k, k ≤ set.length → (0 ≤ impF l set k ∧ impF l set k ≤ 640000 * (k : Int)) ∧ (0 ≤ cstF l set k ∧ cstF l set k ≤ 1000000 * (k : Int)) := by
  intro k
  induction k with
  | zero => intro _; simp [impF, cstF]
  | succ k ih =>
    intro hk
    have h1 := ih (by omega)
    obtain ⟨a1, a2, a3⟩ := h.at (show k < set.length by omega)
    have h2 : atI l set k ∈ l := by rw [a3, getD_at a1]; exact List.getElem_mem a1
    have h3 := hp.all _ h2
    have h4 := imp_in h3
    have h5 := h3.cost
    simp only [impF, cstF]
    omega

def fitB (l : List PackI) (set : List Int) (x : Int × Int) : Bool := decide (x.1 ≤ impF l set set.length) && decide (impF l set set.length ≤ x.2)
def badF (l : List PackI) (set : List Int) (x : Int × Int) : Int := firstE [packsE l, setEr l.length set, targE x]

theorem fits76 {n : Nat} (hn : 5 ≤ n) (l : List PackI) (set : List Int) (x : Int × Int) (hs : ∀ y ∈ l, y.name.length ≤ 9223372036854775807) (hl : set.length < 1000000) : RUN n 76 [psl l, isl set, .agg [iv x.1, iv x.2]] = .ret (.tup [.p (.bool (if badF l set x = 0 then fitB l set x else false)), iv (badF l set x)]) := by
  obtain ⟨d, rfl⟩ : ∃ d, n = d + 5 := ⟨n - 5, by omega⟩
  rw [RUN, call_eq fe76 _ rfl]
  have h1 := packs87 (n := d + 4) (by omega) l hs
  have h2 := set140 (n := d + 4) (by omega) l set hl
  have h3 := target141 (n := d + 4) (by omega) x
  have h4 := first92_3 (n := d + 4) (by omega) (packsE l) (setEr l.length set) (targE x)
  have e : firstE [packsE l, setEr l.length set, targE x] = badF l set x := rfl
  rw [e] at h4
  by_cases hz : badF l set x = 0
  · have hz1 := firstE_zero.1 hz
    have hp := packs_of (hz1 (packsE l) (by simp))
    have hr := set_of (hz1 (setEr l.length set) (by simp))
    have hsm := sums_in hp hr
    let so : Obj := .arr [.int .i64 x.1, .int .i64 x.2] 0 1
    let inv : Nat → St := fun i => ⟨[(0, psl l), (5, .ptr 0 0 0), (9, iv (impF l set i)), (24, isl set), (25, iv set.length), (26, iv i)], [(0, so)]⟩
    rw [if_pos hz]
    simp -implicitDefEqProofs [c76, h1, h2, h3, h4, hz]
    rw [loop_run inv set.length (e := .exit 0) (st' := ⟨(inv set.length).env ++ [(27, .p (.bool false))], (inv set.length).sto⟩) (by simp)]
    · have hf : fitB l set x = (decide (x.1 ≤ impF l set set.length) && decide (impF l set set.length ≤ x.2)) := rfl
      rw [hf]
      by_cases c1 : x.1 ≤ impF l set set.length <;> simp -implicitDefEqProofs [inv, so, c1]
    · rfl
    · intro i hi
      have hlt' : (i : Int) < set.length := by omega
      obtain ⟨a1, a2, a3⟩ := hr.at hi
      have hb := hsm (i + 1) (by omega)
      have hi1 : impF l set (i + 1) = impF l set i + impI (atI l set i) := rfl
      have hpk := hp.all _ (List.getElem_mem a1)
      have h5 := impulse142 (n := d + 4) (by omega) hpk
      rw [a3, getD_at a1] at hi1
      rw [hi1] at hb
      have w := wrap64 (n := impF l set i + impI l[set[i].toNat]) (by omega) (by omega)
      have hx := cP_drop l set[i].toNat a1
      generalize hT : set[i].toNat = t at *
      have b1 : (0 : Int) ≤ set[i] := by omega
      have b2 : set[i] < l.length := by omega
      have b3 : t * 4 < l.length * 4 := by omega
      have b4 : t * 4 + 4 ≤ l.length * 4 := by omega
      simp -implicitDefEqProofs [inv, so, loopS_eq, c76L0, hi, hlt', hT, hx, b1, b2, b3, h5, w, hi1, wrap_succ (i := i) (by omega)]
    · simp -implicitDefEqProofs [inv, so, loopS_eq, c76L0]
    · simp [loopFuel]; omega
  · rw [if_neg hz]
    simp -implicitDefEqProofs [c76, h1, h2, h3, h4, hz]

theorem sum147 {n : Nat} (hn : 1 ≤ n) {l : List PackI} (hp : PksOk l) {set : List Int} (hr : InR l.length set) (hl : set.length < 1000000) : RUN n 147 [psl l, isl set] = .ret (.tup [iv (impF l set set.length), iv (cstF l set set.length)]) := by
  obtain ⟨d, rfl⟩ : ∃ d, n = d + 1 := ⟨n - 1, by omega⟩
  rw [RUN, call_eq fe147 _ rfl]
  have hsm := sums_in hp hr
  let inv : Nat → St := fun i => ⟨[(0, psl l), (1, isl set), (6, iv (impF l set i)), (7, iv (cstF l set i)), (8, iv i)], []⟩
  simp -implicitDefEqProofs [c147]
  rw [loop_run' inv set.length (e := .exit 0) (st' := ⟨(inv set.length).env ++ [(13, .p (.bool false))], []⟩) (by simp)]
  · simp -implicitDefEqProofs [inv]
  · rfl
  · intro i hi
    have hlt' : (i : Int) < set.length := by omega
    obtain ⟨a1, a2, a3⟩ := hr.at hi
    have hb := hsm (i + 1) (by omega)
    have hi1 : impF l set (i + 1) = impF l set i + impI (atI l set i) := rfl
    have hc1 : cstF l set (i + 1) = cstF l set i + (atI l set i).cost := rfl
    have hpk := hp.all _ (List.getElem_mem a1)
    have him := imp_in hpk
    have hib : l[set[i].toNat].force * l[set[i].toNat].time = impI l[set[i].toNat] := rfl
    rw [a3, getD_at a1] at hi1 hc1
    rw [hi1, hc1] at hb
    have w0 := wrap64 (n := impI l[set[i].toNat]) (by omega) (by omega)
    have w := wrap64 (n := impF l set i + impI l[set[i].toNat]) (by omega) (by omega)
    have w2 := wrap64 (n := cstF l set i + l[set[i].toNat].cost) (by omega) (by omega)
    have hx := cP_drop l set[i].toNat a1
    generalize hT : set[i].toNat = t at *
    have b1 : (0 : Int) ≤ set[i] := by omega
    have b2 : set[i] < l.length := by omega
    have b3 : t * 4 < l.length * 4 := by omega
    have b4 : t * 4 + 4 ≤ l.length * 4 := by omega
    refine ⟨⟨(inv (i + 1)).env, [(0, .arr (pkc l[t]) 0 1)]⟩, ?_, loopS_same rfl (by simp [inv])⟩
    simp -implicitDefEqProofs [inv, loopS_eq, c147L0, hi, hlt', hT, hx, b1, b2, b3, hib, w0, w, w2, hi1, hc1, wrap_succ (i := i) (by omega)]
  · simp -implicitDefEqProofs [inv, loopS_eq, c147L0]
  · simp [loopFuel]; omega

theorem fits84 {n : Nat} (hn : 2 ≤ n) {l : List PackI} (hp : PksOk l) {set : List Int} (hr : InR l.length set) (hl : set.length < 1000000) (x : Int × Int) : RUN n 84 [psl l, isl set, .agg [iv x.1, iv x.2]] = .ret (.p (.bool (fitB l set x))) := by
  obtain ⟨d, rfl⟩ : ∃ d, n = d + 2 := ⟨n - 2, by omega⟩
  rw [RUN, call_eq fe84 _ rfl]
  have h1 := sum147 (n := d + 1) (by omega) hp hr hl
  have hf : fitB l set x = (decide (x.1 ≤ impF l set set.length) && decide (impF l set set.length ≤ x.2)) := rfl
  rw [hf]
  by_cases c1 : x.1 ≤ impF l set set.length <;> simp -implicitDefEqProofs [c84, h1, c1]

/-! bounds -/

def bndF (l : List PackI) (price n0 : Int) : Nat → Int
  | 0 => n0
  | k + 1 => bndF l price n0 k + min 0 ((l.getD k pk0).cost - price * impI (l.getD k pk0))
def bnd0 (x : Int × Int) (price : Int) : Int := if price < 0 then price * x.2 else price * x.1
def badB (l : List PackI) (x : Int × Int) (price : Int) : Int := firstE [packsE l, targE x, rangeE (-1000) 1000 price]

theorem prod_price {p a b : Int} (hp : -1000 ≤ p ∧ p ≤ 1000) (ha : 0 ≤ a ∧ a ≤ b) : -(1000 * b) ≤ p * a ∧ p * a ≤ 1000 * b := by
  have h1 : p * a ≤ 1000 * a := Int.mul_le_mul_of_nonneg_right hp.2 ha.1
  have h2 : -1000 * a ≤ p * a := Int.mul_le_mul_of_nonneg_right hp.1 ha.1
  omega

theorem bnd_in {l : List PackI} (hp : PksOk l) {price n0 : Int} (hpr : -1000 ≤ price ∧ price ≤ 1000) : ∀ k, k ≤ l.length → n0 - 700000000 * (k : Int) ≤ bndF l price n0 k ∧ bndF l price n0 k ≤ n0 := by
  intro k
  induction k with
  | zero => intro _; simp [bndF]
  | succ k ih =>
    intro hk
    have h1 := ih (by omega)
    have h2 := hp.all _ (List.getElem_mem (show k < l.length by omega))
    have h3 := imp_in h2
    have h4 := prod_price hpr h3
    have h5 := h2.cost
    simp only [bndF, getD_at (show k < l.length by omega)]
    omega

theorem bound79 {n : Nat} (hn : 5 ≤ n) (l : List PackI) (x : Int × Int) (price : Int) (hs : ∀ y ∈ l, y.name.length ≤ 9223372036854775807) : RUN n 79 [psl l, .agg [iv x.1, iv x.2], iv price] = .ret (.tup [iv (if badB l x price = 0 then bndF l price (bnd0 x price) l.length else 0), iv (badB l x price)]) := by
  obtain ⟨d, rfl⟩ : ∃ d, n = d + 5 := ⟨n - 5, by omega⟩
  rw [RUN, call_eq fe79 _ rfl]
  have h1 := packs87 (n := d + 4) (by omega) l hs
  have h3 := target141 (n := d + 4) (by omega) x
  have h2 := within95 (n := d + 4) (by omega) price (-1000) 1000
  have h4 := first92_3 (n := d + 4) (by omega) (packsE l) (targE x) (rangeE (-1000) 1000 price)
  have e : firstE [packsE l, targE x, rangeE (-1000) 1000 price] = badB l x price := rfl
  rw [e] at h4
  by_cases hz : badB l x price = 0
  · have hz1 := firstE_zero.1 hz
    have hp := packs_of (hz1 (packsE l) (by simp))
    have ht := ivE_zero.1 (show ivE 0 10000000 x = 0 from hz1 (targE x) (by simp))
    have hpr := rangeE_zero.1 (hz1 (rangeE (-1000) 1000 price) (by simp))
    have hfew := hp.few
    have q1 := prod_price hpr (a := x.1) (b := 10000000) (by omega)
    have q2 := prod_price hpr (a := x.2) (b := 10000000) (by omega)
    have w1 := wrap64 (n := price * x.1) (by omega) (by omega)
    have w2 := wrap64 (n := price * x.2) (by omega) (by omega)
    have h0 : -10000000000 ≤ bnd0 x price ∧ bnd0 x price ≤ 10000000000 := by unfold bnd0; split <;> omega
    have hin := bnd_in hp (n0 := bnd0 x price) hpr
    let inv : Nat → St := fun i => ⟨[(2, iv price), (9, iv (bndF l price (bnd0 x price) i)), (33, psl l), (34, iv l.length), (35, iv i)], [(0, .arr [.int .i64 x.1, .int .i64 x.2] 0 1)]⟩
    let inv2 : Nat → St := fun i => ⟨[(2, iv price), (9, iv (bndF l price (bnd0 x price) i)), (33, psl l), (34, iv l.length), (35, iv i)], []⟩
    have key : ∀ S : Sto, S = [(0, .arr [.int .i64 x.1, .int .i64 x.2] 0 1)] → loopN (loopS (evFn F C0 G0 (d + 4)) C0 G0 0 true [2, 9, 33, 34, 35] c79L0) loopFuel ⟨[(2, iv price), (9, iv (bnd0 x price)), (33, psl l), (34, iv l.length), (35, iv 0)], S⟩ = .ret (.exit 0, ⟨(inv2 l.length).env ++ [(36, .p (.bool false))], []⟩) := by
      rintro S rfl
      refine loop_run' inv2 l.length (e := .exit 0) (by simp) ?_ (fun i hi => ?_) ?_ (by simp [loopFuel]; omega)
      · exact loopS_same rfl (by simp [inv2, bndF])
      · have hlt' : (i : Int) < l.length := by omega
        have hx := cP_drop l i hi
        have hpk := hp.all _ (List.getElem_mem hi)
        have him := imp_in hpk
        have h5 := impulse142 (n := d + 4) (by omega) hpk
        have hb := hin (i + 1) (by omega)
        have hc := hpk.cost
        have q3 := prod_price hpr him
        have hs1 : bndF l price (bnd0 x price) (i + 1) = bndF l price (bnd0 x price) i + min 0 (l[i].cost - price * impI l[i]) := by simp only [bndF, getD_at hi]
        rw [hs1] at hb
        have w3 := wrap64 (n := price * impI l[i]) (by omega) (by omega)
        have w4 := wrap64 (n := l[i].cost - price * impI l[i]) (by omega) (by omega)
        have w5 := wrap64 (n := bndF l price (bnd0 x price) i + min 0 (l[i].cost - price * impI l[i])) (by omega) (by omega)
        have m1 := min2 0 (l[i].cost - price * impI l[i])
        have b3 : i * 4 < l.length * 4 := by omega
        have b4 : i * 4 + 4 ≤ l.length * 4 := by omega
        refine ⟨⟨(inv2 (i + 1)).env, [(0, .arr (pkc l[i]) 0 1)]⟩, ?_, loopS_same rfl (by simp [inv2])⟩
        simp -implicitDefEqProofs [inv2, loopS_eq, c79L0, hlt', hx, b3, h5, w3, w4, w5, m1, hs1, wrap_succ (i := i) (by omega)]
      · simp -implicitDefEqProofs [inv2, loopS_eq, c79L0]
    have key := key _ rfl
    rw [if_pos hz]
    by_cases hneg : price < 0
    · have hb0 : bnd0 x price = price * x.2 := by rw [bnd0, if_pos hneg]
      rw [hb0] at key
      simp -implicitDefEqProofs [c79, h1, h2, h3, h4, hz, w1, w2, hneg]
      rw [key]
      simp -implicitDefEqProofs [inv2, hb0]
    · have hb0 : bnd0 x price = price * x.1 := by rw [bnd0, if_neg hneg]
      rw [hb0] at key
      simp -implicitDefEqProofs [c79, h1, h2, h3, h4, hz, w1, hneg]
      rw [key]
      simp -implicitDefEqProofs [inv2, hb0]
  · rw [if_neg hz]
    simp -implicitDefEqProofs [c79, h1, h2, h3, h4, hz]

theorem bound86 {n : Nat} (hn : 1 ≤ n) {l : List PackI} (hp : PksOk l) {x : Int × Int} (ht : targE x = 0) {price : Int} (hpr : -1000 ≤ price ∧ price ≤ 1000) : RUN n 86 [psl l, .agg [iv x.1, iv x.2], iv price] = .ret (iv (bndF l price (bnd0 x price) l.length)) := by
  obtain ⟨d, rfl⟩ : ∃ d, n = d + 1 := ⟨n - 1, by omega⟩
  rw [RUN, call_eq fe86 _ rfl]
  have ht := ivE_zero.1 (show ivE 0 10000000 x = 0 from ht)
  have hfew := hp.few
  have q1 := prod_price hpr (a := x.1) (b := 10000000) (by omega)
  have q2 := prod_price hpr (a := x.2) (b := 10000000) (by omega)
  have w1 := wrap64 (n := price * x.1) (by omega) (by omega)
  have w2 := wrap64 (n := price * x.2) (by omega) (by omega)
  have h0 : -10000000000 ≤ bnd0 x price ∧ bnd0 x price ≤ 10000000000 := by unfold bnd0; split <;> omega
  have hin := bnd_in hp (n0 := bnd0 x price) hpr
  let S : Sto := [(0, .arr [.int .i64 x.1, .int .i64 x.2] 0 1)]
  let inv : Nat → St := fun i => ⟨[(0, psl l), (2, iv price), (7, iv (bndF l price (bnd0 x price) i)), (8, iv i)], S⟩
  have key : ∀ st0 : St, st0 = ⟨[(0, psl l), (2, iv price), (7, iv (bnd0 x price)), (8, iv 0)], S⟩ → loopN (loopS (evFn F C0 G0 d) C0 G0 0 false [0, 2, 7, 8] c86L0) loopFuel st0 = .ret (.exit 0, ⟨(inv l.length).env ++ [(22, .p (.bool false))], S⟩) := by
    rintro st0 rfl
    refine loop_run inv l.length (by simp) rfl (fun i hi => ?_) ?_ (by simp [loopFuel]; omega)
    · have hlt' : (i : Int) < l.length := by omega
      have hx := cP_drop l i hi
      have hpk := hp.all _ (List.getElem_mem hi)
      have him := imp_in hpk
      have hb := hin (i + 1) (by omega)
      have hc := hpk.cost
      have q3 := prod_price hpr him
      have q4 := prod_price hpr (a := l[i].force) (b := 10000) hpk.force
      have hs1 : bndF l price (bnd0 x price) (i + 1) = bndF l price (bnd0 x price) i + min 0 (l[i].cost - price * impI l[i]) := by simp only [bndF, getD_at hi]
      rw [hs1] at hb
      have ha : price * l[i].force * l[i].time = price * impI l[i] := by rw [impI, Int.mul_assoc]
      have w0 := wrap64 (n := price * l[i].force) (by omega) (by omega)
      have w3 := wrap64 (n := price * impI l[i]) (by omega) (by omega)
      have w4 := wrap64 (n := l[i].cost - price * impI l[i]) (by omega) (by omega)
      have w5 := wrap64 (n := bndF l price (bnd0 x price) i + min 0 (l[i].cost - price * impI l[i])) (by omega) (by omega)
      have m1 := min2 0 (l[i].cost - price * impI l[i])
      have b3 : i * 4 < l.length * 4 := by omega
      have b4 : i * 4 + 4 ≤ l.length * 4 := by omega
      simp -implicitDefEqProofs [inv, S, loopS_eq, c86L0, hlt', hx, b3, w0, ha, w3, w4, w5, m1, hs1, wrap_succ (i := i) (by omega)]
    · simp -implicitDefEqProofs [inv, S, loopS_eq, c86L0]
  have key := key _ rfl
  simp only [S] at key
  by_cases hneg : price < 0
  · have hb0 : bnd0 x price = price * x.2 := by rw [bnd0, if_pos hneg]
    rw [hb0] at key
    simp -implicitDefEqProofs [c86, w1, w2, hneg]
    rw [key]
    simp -implicitDefEqProofs [inv, hb0]
  · have hb0 : bnd0 x price = price * x.1 := by rw [bnd0, if_neg hneg]
    rw [hb0] at key
    simp -implicitDefEqProofs [c86, w1, hneg]
    rw [key]
    simp -implicitDefEqProofs [inv, hb0]
end Fw
