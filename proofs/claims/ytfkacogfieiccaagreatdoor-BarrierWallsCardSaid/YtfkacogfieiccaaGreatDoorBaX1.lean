/- Forces over ways: the chapter's and the reference's. -/
import Derived.Test.YtfkacogfieiccaaGreatDoorBaW3
set_option maxHeartbeats 8000000
namespace Fw
open Go
attribute [local irreducible] evCode evOps evOpsD evOper evOperD evOp evFn loopN T.All T.bind callPure callOp opsK opsDK restK seqK blockK loopS setK setQ giveK scalK gcK finish finS rfunK yldK yldB loopK

def crE (f w : List Int) : Int := firstE [whenE ((f.length : Int) == 0) 12, whenE (decide ((64 : Int) < f.length)) 5, rangesE (-1000000) 1000000 f, whenE ((w.length : Int) != (f.length : Int)) 2, rangesE 0 1000000 w]
structure CrOk (f w : List Int) : Prop where
  len : 0 < f.length ∧ f.length ≤ 64
  eq : w.length = f.length
  fs : ∀ x ∈ f, -1000000 ≤ x ∧ x ≤ 1000000
  ws : ∀ x ∈ w, 0 ≤ x ∧ x ≤ 1000000
theorem cr_of {f w : List Int} (h : crE f w = 0) : CrOk f w := by
  unfold crE at h
  rw [firstE_zero] at h
  simp only [List.mem_cons, List.not_mem_nil, or_false, forall_eq_or_imp, forall_eq, rangesE_zero, whenE_zero (show (12 : Int) ≠ 0 by decide), whenE_zero (show (5 : Int) ≠ 0 by decide), whenE_zero (show (2 : Int) ≠ 0 by decide), decide_eq_false_iff_not, beq_eq_false_iff_ne, bne_eq_false_iff_eq] at h
  obtain ⟨h1, h2, h3, h4, h5⟩ := h
  exact ⟨by omega, by omega, h3, h5⟩

/-- does a number follow a greater one? -/
def dnE (w : List Int) (k : Nat) : Int := if w.getD (k + 1) 0 < w.getD k 0 then 1 else 0
def sortB (w : List Int) : Bool := decide (firstE ((List.range (w.length - 1)).map (dnE w)) = 0)
theorem sortB_true {w : List Int} : sortB w = true ↔ ∀ k, k < w.length - 1 → dnE w k = 0 := by
  unfold sortB
  rw [decide_eq_true_eq]
  constructor
  · intro h k hk
    exact all_zero h k hk
  · intro h
    rw [firstE_zero]
    intro e he
    obtain ⟨k, hk, rfl⟩ := List.mem_map.1 he
    exact h k (by simpa using hk)

theorem less167 {n : Nat} (hn : 2 ≤ n) (a b : Int) : RUN n 167 [iv a, iv b] = .ret (.p (.bool (decide (a < b)))) := by
  obtain ⟨d, rfl⟩ : ∃ d, n = d + 2 := ⟨n - 2, by omega⟩
  rw [RUN, call_eq fe167 _ rfl]
  have h1 := fun a => nan179 (n := d + 1) (by omega) a
  simp -implicitDefEqProofs [c167, h1]

theorem sorted141 {n : Nat} (hn : 3 ≤ n) {w : List Int} (hp : 0 < w.length) (hl : w.length < 1000000) : RUN n 141 [isl w] = .ret (.p (.bool (sortB w))) := by
  obtain ⟨d, rfl⟩ : ∃ d, n = d + 3 := ⟨n - 3, by omega⟩
  rw [RUN, call_eq fe141 _ rfl]
  have h1 := fun a b => less167 (n := d + 2) (by omega) a b
  obtain ⟨N, hN⟩ : ∃ N, N + 1 = w.length := ⟨w.length - 1, by omega⟩
  let e : Nat → Int := fun k => dnE w (N - 1 - k)
  let inv : Nat → St := fun k => ⟨[(0, isl w), (3, iv ((N : Int) - k))], []⟩
  have hw0 : IntKind.i64.wrap ((w.length : Int) - 1) = (N : Int) := by
    rw [show (N : Int) = (w.length : Int) - 1 by omega]
    exact wrap64 (by omega) (by omega)
  have key := loop_firstR (step := loopS (evFn F C0 G0 (d + 2)) C0 G0 0 false [0, 3] c141L0) inv e N (.exit 0, ⟨[(0, isl w), (3, iv 0), (8, .p (.bool false))], []⟩) (fun _ st => st.env = [(2, .p (.bool false))])
    (st0 := ⟨[(0, isl w), (3, iv (N : Int))], []⟩) (by simp [inv]) (fun k hk => by
      have hk1 : N - 1 - k + 1 < w.length := by omega
      have hk0 : N - 1 - k < w.length := by omega
      have hpos : (0 : Int) < (N : Int) - k := by omega
      have hnn : (0 : Int) ≤ (N : Int) - k := by omega
      have hlt : (N : Int) - k < w.length := by omega
      have htn : ((N : Int) - k).toNat = N - 1 - k + 1 := by omega
      have hw1 : IntKind.i64.wrap ((N : Int) - k - 1) = (N : Int) - k - 1 := wrap64 (by omega) (by omega)
      have hnn1 : (0 : Int) ≤ (N : Int) - k - 1 := by omega
      have hlt1 : (N : Int) - k - 1 < w.length := by omega
      have htn1 : ((N : Int) - k - 1).toNat = N - 1 - k := by omega
      have hnx : (N : Int) - ((k : Int) + 1) = (N : Int) - k - 1 := by omega
      have hkle : k ≤ N := by omega
      have h1le : (1 : Int) ≤ (N : Int) - k := by omega
      have hei : e k = if w[N - 1 - k + 1] < w[N - 1 - k] then 1 else 0 := by simp only [e, dnE, getD_i hk1, getD_i hk0]
      have g1 : ∀ q, (pI w)[N - 1 - k + 1]'q = .int .i64 w[N - 1 - k + 1] := fun q => by simp
      have g0 : ∀ q, (pI w)[N - 1 - k]'q = .int .i64 w[N - 1 - k] := fun q => by simp
      rw [hei]
      by_cases c : w[N - 1 - k + 1] < w[N - 1 - k]
      · refine ⟨fun h => absurd h (by simp [c]), fun _ => ⟨?_, ?h1, ?h2⟩⟩
        case h1 =>
          simp -implicitDefEqProofs [inv, loopS_eq, c141L0, hk, hkle, h1le, hlt, htn, hw1, hlt1, htn1, hk1, hk0, h1, c]
          exact rfl
        case h2 => rfl
      · refine ⟨fun _ => ⟨?_, ?h3, ?h4⟩, fun h => absurd (by simp [c]) h⟩
        case h3 =>
          simp -implicitDefEqProofs [inv, loopS_eq, c141L0, hk, hkle, h1le, hlt, htn, hw1, hlt1, htn1, hk1, hk0, h1, c]
          exact rfl
        case h4 => simp [inv, hnx]) (by simp -implicitDefEqProofs [inv, loopS_eq, c141L0]) (by simp) (fuel := loopFuel) (by simp only [loopFuel]; omega)
  have hall : (firstE ((List.range N).map e) = 0) ↔ sortB w = true := by
    rw [sortB_true, firstE_zero]
    constructor
    · intro h k hk
      have := h (e (N - 1 - k)) (List.mem_map.2 ⟨N - 1 - k, by simp only [List.mem_range]; omega, rfl⟩)
      simp only [e] at this
      rwa [show N - 1 - (N - 1 - k) = k by omega] at this
    · intro h x hx
      obtain ⟨k, hk, rfl⟩ := List.mem_map.1 hx
      simp only [List.mem_range] at hk
      exact h _ (by omega)
  simp -implicitDefEqProofs [c141, hw0]
  rcases key with ⟨k1, k2⟩ | ⟨j, st, hj, k1, kr, k2, k3, _⟩
  · have hs := hall.1 k2
    rw [k1]
    simp -implicitDefEqProofs [hs]
  · have hs : sortB w = false := by
      cases h : sortB w with
      | false => rfl
      | true => rw [hall.2 h] at k2; exact absurd k2.symm k3
    obtain ⟨env, sto⟩ := st
    simp only at kr
    subst kr
    rw [k1]
    simp -implicitDefEqProofs [hs]

def crushE (f w : List Int) : Int := if crE f w = 0 then (if sortB w = true then 0 else 11) else crE f w
theorem check76 {n : Nat} (hn : 5 ≤ n) (f w : List Int) (hf : f.length < 1000000) (hw : w.length < 1000000) : RUN n 76 [isl f, isl w] = .ret (iv (crushE f w)) := by
  obtain ⟨d, rfl⟩ : ∃ d, n = d + 5 := ⟨n - 5, by omega⟩
  rw [RUN, call_eq fe76 _ rfl]
  have h1 := fun b e => when55 (n := d + 4) (by omega) b e
  have h2 := ranges121 (n := d + 4) (by omega) f (-1000000) 1000000 hf
  have h3 := ranges121 (n := d + 4) (by omega) w 0 1000000 hw
  have h4 := first101_5 (n := d + 4) (by omega) (whenE ((f.length : Int) == 0) 12) (whenE (decide ((64 : Int) < f.length)) 5) (rangesE (-1000000) 1000000 f) (whenE ((w.length : Int) != (f.length : Int)) 2) (rangesE 0 1000000 w)
  rw [show firstE [whenE ((f.length : Int) == 0) 12, whenE (decide ((64 : Int) < f.length)) 5, rangesE (-1000000) 1000000 f, whenE ((w.length : Int) != (f.length : Int)) 2, rangesE 0 1000000 w] = crE f w from rfl] at h4
  unfold crushE
  by_cases z0 : crE f w = 0
  · rw [if_pos z0]
    have hok := cr_of z0
    have hp : 0 < w.length := by have := hok.len; have := hok.eq; omega
    let N := w.length - 1
    let inv : Nat → St := fun k => ⟨[(1, isl w), (6, iv ((k + 1 : Nat) : Int))], []⟩
    have hend : ((N : Nat) : Int) + 1 = (w.length : Int) := by simp only [N]; omega
    have key := loop_firstR (step := loopS (evFn F C0 G0 (d + 4)) C0 G0 0 false [1, 6] c76L0) inv (dnE w) N (.exit 0, ⟨(inv N).env ++ [(33, .p (.bool false))], []⟩) (fun _ st => st.env = [(4, iv 11)])
      (st0 := ⟨[(1, isl w), (6, iv 1)], []⟩) (by simp [inv]) (fun k hk => by
        have hk1 : k + 1 < w.length := by simp only [N] at *; omega
        have hk0 : k < w.length := by omega
        have hnn : (0 : Int) ≤ (k : Int) + 1 := by omega
        have htn : ((k : Int) + 1).toNat = k + 1 := by omega
        have hlt : (k : Int) + 1 < w.length := by omega
        have hlt0 : (k : Int) < w.length := by omega
        have hwk : IntKind.i64.wrap (k : Int) = k := wrap64 (by omega) (by omega)
        have hwk2 : IntKind.i64.wrap ((k : Int) + 1 + 1) = (k : Int) + 1 + 1 := wrap64 (by omega) (by omega)
        have hei : dnE w k = if w[k + 1] < w[k] then 1 else 0 := by simp only [dnE, getD_i hk1, getD_i hk0]
        rw [hei]
        by_cases c : w[k + 1] < w[k]
        · refine ⟨fun h => absurd h (by simp [c]), fun _ => ⟨?_, ?h1, ?h2⟩⟩
          case h1 =>
            simp -implicitDefEqProofs [inv, loopS_eq, c76L0, hnn, htn, hlt, hlt0, hwk, hk1, hk0, c]
            exact rfl
          case h2 => rfl
        · refine ⟨fun _ => ⟨inv (k + 1), ?h3, rfl⟩, fun h => absurd (by simp [c]) h⟩
          case h3 =>
            simp -implicitDefEqProofs [inv, loopS_eq, c76L0, hnn, htn, hlt, hlt0, hwk, hwk2, hk1, hk0, c]) (by simp -implicitDefEqProofs [inv, loopS_eq, c76L0, hend]) (by simp) (fuel := loopFuel) (by simp only [loopFuel, N]; omega)
    simp -implicitDefEqProofs [c76, h1, h2, h3, h4, z0]
    rcases key with ⟨k1, k2⟩ | ⟨j, st, hj, k1, kr, k2, k3, _⟩
    · have hs : sortB w = true := decide_eq_true k2
      rw [k1]
      simp -implicitDefEqProofs [inv, hs]
    · have hs : sortB w = false := decide_eq_false (by rw [k2]; exact k3)
      obtain ⟨env, sto⟩ := st
      simp only at kr
      subst kr
      rw [k1]
      simp -implicitDefEqProofs [hs]
  · rw [if_neg z0]
    have hb : (crE f w != 0) = true := by simpa using z0
    simp -implicitDefEqProofs [c76, h1, h2, h3, h4, hb]

def crI (f w : List Int) : Nat → Int
  | 0 => 0
  | k + 1 => crI f w k + (f.getD k 0 + f.getD (k + 1) 0) * (w.getD (k + 1) 0 - w.getD k 0)
theorem crI_in {f w : List Int} (h : CrOk f w) : ∀ k, k + 1 ≤ f.length → -(2000000000000 * (k : Int)) ≤ crI f w k ∧ crI f w k ≤ 2000000000000 * (k : Int) := by
  intro k
  induction k with
  | zero => intro _; simp [crI]
  | succ k ih =>
    intro hk
    have h1 := ih (by omega)
    have e := h.eq
    have hf0 : k < f.length := by omega
    have hf1 : k + 1 < f.length := by omega
    have hw0 : k < w.length := by omega
    have hw1 : k + 1 < w.length := by omega
    simp only [crI, getD_i hf0, getD_i hf1, getD_i hw0, getD_i hw1]
    have a1 := h.fs f[k] (List.getElem_mem hf0)
    have a2 := h.fs f[k + 1] (List.getElem_mem hf1)
    have b1 := h.ws w[k] (List.getElem_mem hw0)
    have b2 := h.ws w[k + 1] (List.getElem_mem hw1)
    have p := prod_abs (a := f[k] + f[k + 1]) (b := w[k + 1] - w[k]) (A := 2000000) (B := 1000000) (by omega) (by omega) (by omega) (by omega)
    generalize (f[k] + f[k + 1]) * (w[k + 1] - w[k]) = q at *
    omega

theorem crush_step {f w : List Int} (h : CrOk f w) {k : Nat} (hk : k + 1 < f.length) (hw1 : k + 1 < w.length) :
    IntKind.i64.wrap (f[k] + f[k + 1]) = f[k] + f[k + 1] ∧ IntKind.i64.wrap (w[k + 1] - w[k]) = w[k + 1] - w[k] ∧ IntKind.i64.wrap ((f[k] + f[k + 1]) * (w[k + 1] - w[k])) = (f[k] + f[k + 1]) * (w[k + 1] - w[k]) ∧ IntKind.i64.wrap (crI f w k + (f[k] + f[k + 1]) * (w[k + 1] - w[k])) = crI f w (k + 1) := by
  have hf0 : k < f.length := by omega
  have hw0 : k < w.length := by omega
  have a1 := h.fs f[k] (List.getElem_mem hf0)
  have a2 := h.fs f[k + 1] (List.getElem_mem hk)
  have b1 := h.ws w[k] (List.getElem_mem hw0)
  have b2 := h.ws w[k + 1] (List.getElem_mem hw1)
  have p := prod_abs (a := f[k] + f[k + 1]) (b := w[k + 1] - w[k]) (A := 2000000) (B := 1000000) (by omega) (by omega) (by omega) (by omega)
  have hc := crI_in h k (by omega)
  have hl := h.len
  refine ⟨wrap64 (by omega) (by omega), wrap64 (by omega) (by omega), wrap64 (by omega) (by omega), ?_⟩
  simp only [crI, getD_i hf0, getD_i hk, getD_i hw0, getD_i hw1]
  exact wrap64 (by omega) (by omega)

def crA (f w : List Int) : Int := if crushE f w = 0 then crI f w (f.length - 1) else 0
theorem crush75 {n : Nat} (hn : 6 ≤ n) (f w : List Int) (hf : f.length < 1000000) (hw : w.length < 1000000) : RUN n 75 [isl f, isl w] = .ret (.tup [iv (crA f w), iv (crushE f w)]) := by
  obtain ⟨d, rfl⟩ : ∃ d, n = d + 6 := ⟨n - 6, by omega⟩
  rw [RUN, call_eq fe75 _ rfl]
  have h1 := fun b e => when107 (n := d + 5) (by omega) b e
  have h2 := ranged122 (n := d + 5) (by omega) f (-1000000) 1000000 hf
  have h3 := ranged122 (n := d + 5) (by omega) w 0 1000000 hw
  have h4 := first98_5 (n := d + 5) (by omega) (whenE ((f.length : Int) == 0) 12) (whenE (decide ((64 : Int) < f.length)) 5) (rangesE (-1000000) 1000000 f) (whenE ((w.length : Int) != (f.length : Int)) 2) (rangesE 0 1000000 w)
  rw [show firstE [whenE ((f.length : Int) == 0) 12, whenE (decide ((64 : Int) < f.length)) 5, rangesE (-1000000) 1000000 f, whenE ((w.length : Int) != (f.length : Int)) 2, rangesE 0 1000000 w] = crE f w from rfl] at h4
  by_cases z0 : crE f w = 0
  · have hok := cr_of z0
    have hl := hok.len
    have he := hok.eq
    have h5 := sorted141 (n := d + 5) (by omega) (w := w) (by omega) hw
    cases hs : sortB w with
    | true =>
      have e1 : crushE f w = 0 := by simp [crushE, z0, hs]
      have e2 : crA f w = crI f w (f.length - 1) := by simp [crA, e1]
      rw [e1, e2]
      let N := f.length - 1
      let inv : Nat → St := fun k => ⟨[(0, isl f), (1, isl w), (7, iv (crI f w k)), (8, iv ((k + 1 : Nat) : Int))], []⟩
      have hend : ((N : Nat) : Int) + 1 = (w.length : Int) := by simp only [N]; omega
      have key : loopN (loopS (evFn F C0 G0 (d + 5)) C0 G0 0 false [0, 1, 7, 8] c75L0) loopFuel ⟨[(0, isl f), (1, isl w), (7, iv 0), (8, iv 1)], []⟩ = .ret (.exit 0, ⟨(inv N).env ++ [(38, .p (.bool false))], []⟩) := by
        refine loop_run' inv N (by simp) (by simp [inv, crI]) ?_ (by simp -implicitDefEqProofs [inv, loopS_eq, c75L0, hend]) (by simp only [loopFuel, N]; omega)
        intro k hk
        have hk1 : k + 1 < f.length := by simp only [N] at *; omega
        have hkw1 : k + 1 < w.length := by omega
        have hk0 : k < f.length := by omega
        have hkw0 : k < w.length := by omega
        have hnn : (0 : Int) ≤ (k : Int) + 1 := by omega
        have htn : ((k : Int) + 1).toNat = k + 1 := by omega
        have hlt : (k : Int) + 1 < f.length := by omega
        have hlt0 : (k : Int) < f.length := by omega
        have hwlt : (k : Int) + 1 < w.length := by omega
        have hwlt0 : (k : Int) < w.length := by omega
        have hwk : IntKind.i64.wrap (k : Int) = k := wrap64 (by omega) (by omega)
        have hwk2 : IntKind.i64.wrap ((k : Int) + 1 + 1) = (k : Int) + 1 + 1 := wrap64 (by omega) (by omega)
        obtain ⟨w1, w2, w3, w4⟩ := crush_step hok hk1 hkw1
        refine ⟨inv (k + 1), ?_, rfl⟩
        simp -implicitDefEqProofs [inv, loopS_eq, c75L0, hnn, htn, hlt, hlt0, hwlt, hwlt0, hwk, hwk2, hk1, hk0, hkw1, hkw0, w1, w2, w3, w4]
      simp -implicitDefEqProofs [c75, h1, h2, h3, h4, z0, h5, hs, key, inv, N]
    | false =>
      have e1 : crushE f w = 11 := by simp [crushE, z0, hs]
      have e2 : crA f w = 0 := by simp [crA, e1]
      rw [e1, e2]
      simp -implicitDefEqProofs [c75, h1, h2, h3, h4, z0, h5, hs]
  · have e1 : crushE f w = crE f w := by simp [crushE, z0]
    have e2 : crA f w = 0 := by simp [crA, e1, z0]
    have hb : (crE f w != 0) = true := by simpa using z0
    rw [e1, e2]
    simp -implicitDefEqProofs [c75, h1, h2, h3, h4, hb]

theorem crush81 {n : Nat} (hn : 1 ≤ n) {f w : List Int} (z : crushE f w = 0) : RUN n 81 [isl f, isl w] = .ret (iv (crA f w)) := by
  obtain ⟨d, rfl⟩ : ∃ d, n = d + 1 := ⟨n - 1, by omega⟩
  rw [RUN, call_eq fe81 _ rfl]
  have z0 : crE f w = 0 := by
    unfold crushE at z
    by_cases h : crE f w = 0
    · exact h
    · rw [if_neg h] at z; exact absurd z h
  have hok := cr_of z0
  have hl := hok.len
  have he := hok.eq
  have e2 : crA f w = crI f w (f.length - 1) := by simp [crA, z]
  rw [e2]
  let N := f.length - 1
  let inv : Nat → St := fun k => ⟨[(0, isl f), (1, isl w), (5, iv (crI f w k)), (6, iv ((k + 1 : Nat) : Int))], []⟩
  have hend : ((N : Nat) : Int) + 1 = (f.length : Int) := by simp only [N]; omega
  have key : loopN (loopS (evFn F C0 G0 d) C0 G0 0 false [0, 1, 5, 6] c81L0) loopFuel ⟨[(0, isl f), (1, isl w), (5, iv 0), (6, iv 1)], []⟩ = .ret (.exit 0, ⟨(inv N).env ++ [(10, .p (.bool false))], []⟩) := by
    refine loop_run' inv N (by simp) (by simp [inv, crI]) ?_ (by simp -implicitDefEqProofs [inv, loopS_eq, c81L0, hend]) (by simp only [loopFuel, N]; omega)
    intro k hk
    have hk1 : k + 1 < f.length := by simp only [N] at *; omega
    have hkw1 : k + 1 < w.length := by omega
    have hk0 : k < f.length := by omega
    have hkw0 : k < w.length := by omega
    have hnn : (0 : Int) ≤ (k : Int) + 1 := by omega
    have htn : ((k : Int) + 1).toNat = k + 1 := by omega
    have hlt : (k : Int) + 1 < f.length := by omega
    have hlt0 : (k : Int) < f.length := by omega
    have hwlt : (k : Int) + 1 < w.length := by omega
    have hwlt0 : (k : Int) < w.length := by omega
    have hwk : IntKind.i64.wrap (k : Int) = k := wrap64 (by omega) (by omega)
    have hwk2 : IntKind.i64.wrap ((k : Int) + 1 + 1) = (k : Int) + 1 + 1 := wrap64 (by omega) (by omega)
    obtain ⟨w1, w2, w3, w4⟩ := crush_step hok hk1 hkw1
    refine ⟨inv (k + 1), ?_, rfl⟩
    simp -implicitDefEqProofs [inv, loopS_eq, c81L0, hnn, htn, hlt, hlt0, hwlt, hwlt0, hwk, hwk2, hk1, hk0, hkw1, hkw0, w1, w2, w3, w4]
  simp -implicitDefEqProofs [c81, key, inv, N]
end Fw
