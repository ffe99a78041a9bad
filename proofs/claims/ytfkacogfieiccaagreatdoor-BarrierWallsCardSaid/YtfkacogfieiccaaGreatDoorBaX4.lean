/- The centre of the forces on a wall: the chapter's and the reference's. -/
import Derived.Test.YtfkacogfieiccaaGreatDoorBaX2
set_option maxHeartbeats 8000000
namespace Fw
open Go
attribute [local irreducible] evCode evOps evOpsD evOper evOperD evOp evFn loopN T.All T.bind callPure callOp opsK opsDK restK seqK blockK loopS setK setQ giveK scalK gcK finish finS rfunK yldK yldB loopK

theorem axis232 {n : Nat} (hn : 1 ≤ n) (a b : Int) : RUN n 232 [.agg [iv a, iv b]] = .ret (iv a) := by
  obtain ⟨d, rfl⟩ : ∃ d, n = d + 1 := ⟨n - 1, by omega⟩
  rw [RUN, call_eq fe232 _ rfl]
  simp -implicitDefEqProofs [c232]
theorem axis233 {n : Nat} (hn : 1 ≤ n) (a b : Int) : RUN n 233 [.agg [iv a, iv b]] = .ret (iv b) := by
  obtain ⟨d, rfl⟩ : ∃ d, n = d + 1 := ⟨n - 1, by omega⟩
  rw [RUN, call_eq fe233 _ rfl]
  simp -implicitDefEqProofs [c233]

/-- the moment of a cell, and of all -/
def ctr (f : LoadI → Int) (l : List LoadI) (j : Nat) : Int := sumI (l.map fun x => f x * x.s.getD j 0)
theorem ctr_take {f : LoadI → Int} {l : List LoadI} {i : Nat} (h : i < l.length) (j : Nat) : ctr f (l.take (i + 1)) j = ctr f (l.take i) j + f l[i] * l[i].s.getD j 0 := by
  unfold ctr
  rw [← List.take_append_getElem h, List.map_append, sumI_append]
  simp [sumI]
theorem mom_in {f : LoadI → Int} {x : LoadI} (hx : LoadOk x) (hf : 0 ≤ f x ∧ f x ≤ 1000000) (j : Nat) : -1000000000000 ≤ f x * x.s.getD j 0 ∧ f x * x.s.getD j 0 ≤ 1000000000000 := by
  have h3 := getD_in (B := 1000000) (by omega) (fun y hy => by have := hx.sm y hy; have := hx.sc; omega) j
  have := prod_abs (a := f x) (b := x.s.getD j 0) (A := 1000000) (B := 1000000) (by omega) (by omega) (by omega) (by omega)
  omega
theorem ctr_in {f : LoadI → Int} {l : List LoadI} (h : ∀ i, (hi : i < l.length) → LoadOk l[i]) (hf : ∀ i, (hi : i < l.length) → 0 ≤ f l[i] ∧ f l[i] ≤ 1000000) (j : Nat) : ∀ i, i ≤ l.length → -(1000000000000 * (i : Int)) ≤ ctr f (l.take i) j ∧ ctr f (l.take i) j ≤ 1000000000000 * (i : Int) := by
  intro i
  induction i with
  | zero => intro _; simp [ctr, sumI]
  | succ i ih =>
    intro hi
    have h1 := ih (by omega)
    have h3 := mom_in (h i (by omega)) (hf i (by omega)) j
    rw [ctr_take (by omega)]
    generalize f l[i] * l[i].s.getD j 0 = q at *
    omega

theorem moment139 {n ax : Nat} {f : LoadI → Int} (hn : 1 ≤ n) {x : LoadI} (hax : ∀ d, RUN (d + 1) ax [.agg [iv x.x, iv x.y]] = .ret (iv (f x))) (hx : LoadOk x) (hf : 0 ≤ f x ∧ f x ≤ 1000000) {j : Nat} (hj : j < x.s.length) :
    RUN (n + 1) 139 [.agg (la6 x), .p (.pp [.clo ax [] []]), .p (.pp [.int .i64 j])] = .ret (iv (f x * x.s.getD j 0)) := by
  obtain ⟨d, rfl⟩ : ∃ d, n = d + 1 := ⟨n - 1, by omega⟩
  rw [RUN, call_eq fe139 _ rfl]
  have h1 := hax d
  have hj3 : (j : Int) < x.s.length := by omega
  have hgo : x.s[j]? = some x.s[j] := List.getElem?_eq_getElem hj
  have hm := mom_in hx hf j
  rw [getD_i hj] at hm ⊢
  have hw : IntKind.i64.wrap (f x * x.s[j]) = f x * x.s[j] := wrap64 (by omega) (by omega)
  simp -implicitDefEqProofs [c139, h1, hj, hj3, hw]

theorem map138 {n ax : Nat} {f : LoadI → Int} (hn : 3 ≤ n) {l : List LoadI} (h : WallOk l) (hax : ∀ (x : LoadI) d, RUN (d + 1) ax [.agg [iv x.x, iv x.y]] = .ret (iv (f x))) (hf : ∀ i, (hi : i < l.length) → 0 ≤ f l[i] ∧ f l[i] ≤ 1000000) {j : Nat} (hj : j < wid l) :
    RUN n 138 [lol l, .p (.clo 139 [] [.pp [.clo ax [] []], .pp [.int .i64 j]])] = .ret (.own (pI (l.map fun x => f x * x.s.getD j 0)) l.length 1) := by
  obtain ⟨d, rfl⟩ : ∃ d, n = d + 3 := ⟨n - 3, by omega⟩
  rw [RUN, call_eq fe138 _ rfl]
  have hl := h.len
  let M : List Int := l.map fun x => f x * x.s.getD j 0
  have hM : M.length = l.length := by simp [M]
  let K : AVal := .p (.clo 139 [] [.pp [.clo ax [] []], .pp [.int .i64 j]])
  let inv : Nat → St := fun i => ⟨[(1, K), (5, .sl 0 i 0 i), (8, lol l), (9, iv l.length), (10, iv i)], [(0, .arr (pI (M.take i)) i 1)]⟩
  have htl : M.take l.length = M := List.take_of_length_le (by omega)
  simp -implicitDefEqProofs [c138]
  rw [loop_run' inv l.length (e := .exit 0) (st' := ⟨(inv l.length).env ++ [(11, .p (.bool false))], (inv l.length).sto⟩) (by simp)]
  · simp -implicitDefEqProofs [inv, K, htl, hM]
    rfl
  · exact loopS_same rfl (by simp [inv, K])
  · intro i hi
    have hx := rowC_drop lc6_len l i hi
    have hlt : i * 6 < l.length * 6 := by omega
    have hlt' : (i : Int) < l.length := by omega
    have hlim : i + 1 ≤ lim := by simp only [lim]; omega
    have hiM : i < M.length := by omega
    have hto : (M.take i).length = i := by simp; omega
    have ht : pI (M.take (i + 1)) = pI (M.take i) ++ [.int .i64 (f l[i] * l[i].s.getD j 0)] := by
      rw [pI_snoc, ← List.take_append_getElem hiM]
      simp [M]
    have hm := moment139 (n := d + 1) (by omega) (hax l[i]) (h.ok i hi) (hf i hi) (j := j) (by have := h.eq i hi; unfold wid at hj; omega)
    generalize l[i] = x at *
    generalize f x * x.s.getD j 0 = q at *
    refine ⟨?_, ?h1, ?h2⟩
    case h1 =>
      simp -implicitDefEqProofs [inv, K, loopS_eq, c138L0, cW_len, hx, hlt, hlt', hlim, hto, hm, wrap_succ (i := i) (by omega)]
      exact rfl
    case h2 => exact loopS_same rfl (by simp [inv, K, ht, -List.map_take])
  · simp -implicitDefEqProofs [inv, K, loopS_eq, c138L0]
  · simp [loopFuel]; omega

def largeB (r : Int × Int) : Bool := decide (999999999 < r.1) || decide (r.1 < -999999999) || decide (999999999 < r.2)
theorem large140 {n : Nat} (hn : 1 ≤ n) (a b : Int) : RUN n 140 [.agg [iv a, iv b]] = .ret (.p (.bool (largeB (a, b)))) := by
  obtain ⟨d, rfl⟩ : ∃ d, n = d + 1 := ⟨n - 1, by omega⟩
  rw [RUN, call_eq fe140 _ rfl]
  by_cases c1 : 999999999 < a
  · simp -implicitDefEqProofs [c140, c1, largeB]
  · by_cases c2 : a < -999999999
    · simp -implicitDefEqProofs [c140, c1, c2, largeB]
    · simp -implicitDefEqProofs [c140, c1, c2, largeB]

theorem quotient143 {n : Nat} (hn : 3 ≤ n) (x y : Int) (hy : y ≠ 0) (h1 : -4611686018427387904 ≤ x) (h2 : x ≤ 4611686018427387904) (h3 : -4611686018427387904 ≤ y) (h4 : y ≤ 4611686018427387904) :
    RUN n 143 [iv x, iv y] = .ret (if largeB (lowI x y) = true then .tup [.agg [iv 0, iv 0], iv 4] else .tup [.agg [iv (lowI x y).1, iv (lowI x y).2], iv 0]) := by
  obtain ⟨d, rfl⟩ : ∃ d, n = d + 3 := ⟨n - 3, by omega⟩
  rw [RUN, call_eq fe143 _ rfl]
  have h := lowest106 (n := d + 2) (by omega) x y hy h1 h2 h3 h4
  generalize lowI x y = r at *
  by_cases c1 : 999999999 < r.1
  · simp -implicitDefEqProofs [c143, h, c1, largeB]
  · by_cases c2 : r.1 < -999999999
    · simp -implicitDefEqProofs [c143, h, c1, c2, largeB]
    · by_cases c3 : 999999999 < r.2
      · simp -implicitDefEqProofs [c143, h, c1, c2, c3, largeB]
      · simp -implicitDefEqProofs [c143, h, c1, c2, c3, largeB]

def idxE (w : List LoadI) (x : Int) : Int := whenE (decide (x < 0) || decide ((wid w : Int) ≤ x)) 10
theorem idxE_zero {w : List LoadI} {x : Int} : idxE w x = 0 ↔ 0 ≤ x ∧ x < wid w := by
  unfold idxE
  rw [whenE_zero (by decide)]
  simp only [Bool.or_eq_false_iff, decide_eq_false_iff_not]
  omega
theorem check79 {n : Nat} (hn : 2 ≤ n) {w : List LoadI} (hwo : WallOk w) (x : Int) : RUN n 79 [lol w, iv x] = .ret (iv (idxE w x)) := by
  obtain ⟨d, rfl⟩ : ∃ d, n = d + 2 := ⟨n - 2, by omega⟩
  rw [RUN, call_eq fe79 _ rfl]
  have hl0 : 0 < w.length := hwo.len.1
  have h50 : ∀ q, (rowC lc6 w)[5]'q = .sl (pI w[0].s) w[0].s.length := fun q => by
    have := wall_five (l := w) hl0
    rw [List.getElem?_eq_getElem q] at this
    exact Option.some.inj this
  have hlp6 : 5 < w.length * 6 := by omega
  have hwid : w[0].s.length = wid w := by unfold wid; rw [getD_w hl0]
  have h1 := fun b e => when55 (n := d + 1) (by omega) b e
  by_cases c : x < 0
  · simp -implicitDefEqProofs [c79, h1, c, idxE]
  · simp -implicitDefEqProofs [c79, cW_len, hl0, hlp6, h50, hwid, h1, c, idxE]

/-- the two quotients, and the error -/
def cenA (w : List LoadI) (j : Nat) : Int × Int := lowI (ctr (·.x) w j) (forI w j)
def cenB (w : List LoadI) (j : Nat) : Int × Int := lowI (ctr (·.y) w j) (forI w j)
def cenE (w : List LoadI) (j : Nat) : Int := if forI w j = 0 then 6 else if largeB (cenA w j) = true ∨ largeB (cenB w j) = true then 4 else 0

theorem cen_facts {w : List LoadI} (hwo : WallOk w) (j : Nat) : (-16000000 ≤ forI w j ∧ forI w j ≤ 16000000) ∧ (-16000000000000 ≤ ctr (·.x) w j ∧ ctr (·.x) w j ≤ 16000000000000) ∧ -16000000000000 ≤ ctr (·.y) w j ∧ ctr (·.y) w j ≤ 16000000000000 := by
  have hl := hwo.len
  have htl : w.take w.length = w := List.take_of_length_le (by omega)
  have h1 := forI_in hwo.ok j w.length (by omega)
  have h2 := ctr_in (f := (·.x)) hwo.ok (fun i hi => (hwo.ok i hi).px) j w.length (by omega)
  have h3 := ctr_in (f := (·.y)) hwo.ok (fun i hi => (hwo.ok i hi).py) j w.length (by omega)
  rw [htl] at h1 h2 h3
  omega

theorem hid16 : hidT 16 = [4] := by decide

theorem centre80 {n : Nat} (hn : 4 ≤ n) {w : List LoadI} (hwo : WallOk w) {j : Nat} (hj : j < wid w) :
    RUN n 80 [lol w, iv j] = .ret (if cenE w j = 0 then .tup [.agg [iv (cenA w j).1, iv (cenA w j).2], .agg [iv (cenB w j).1, iv (cenB w j).2], iv 0] else .tup [.agg [iv 0, iv 0], .agg [iv 0, iv 0], iv (cenE w j)]) := by
  obtain ⟨d, rfl⟩ : ∃ d, n = d + 4 := ⟨n - 4, by omega⟩
  rw [RUN, call_eq fe80 _ rfl]
  have hl := hwo.len
  have h1 := force142 (n := d + 3) (by omega) hwo (j := j) hj
  have hb := cen_facts hwo j
  by_cases z : forI w j = 0
  · have e : cenE w j = 6 := by simp [cenE, z]
    rw [e, if_neg (by decide)]
    rw [z] at h1
    simp -implicitDefEqProofs [c80, h1]
  · have hzb : (forI w j == 0) = false := by simpa using z
    let Z : Obj := .arr [.int .i64 0, .int .i64 0] 0 1
    have htl : w.take w.length = w := List.take_of_length_le (by omega)
    let inv : Nat → St := fun i => ⟨[(0, lol w), (1, iv j), (4, .ptr 0 0 0), (5, .ptr 1 0 0), (7, iv (forI w j)), (8, iv (ctr (·.x) (w.take i) j)), (9, iv (ctr (·.y) (w.take i) j)), (10, iv i)], [(1, Z), (0, Z)]⟩
    have key : loopN (loopS (evFn F C0 G0 (d + 3)) C0 G0 0 false [0, 1, 4, 5, 7, 8, 9, 10] c80L0) loopFuel ⟨[(0, lol w), (1, iv j), (4, .ptr 0 0 0), (5, .ptr 1 0 0), (7, iv (forI w j)), (8, iv 0), (9, iv 0), (10, iv 0)], [(1, Z), (0, Z)]⟩ = .ret (.exit 0, ⟨[(0, lol w), (1, iv j), (4, .ptr 0 0 0), (5, .ptr 1 0 0), (7, iv (forI w j)), (8, iv (ctr (·.x) w j)), (9, iv (ctr (·.y) w j)), (10, iv w.length), (25, .p (.bool false))], [(1, Z), (0, Z)]⟩) := by
      refine loop_run' inv w.length (by simp) (by simp [inv, ctr, sumI]) ?_ (by simp -implicitDefEqProofs [inv, Z, loopS_eq, c80L0, htl]) (by simp [loopFuel]; omega)
      intro i hi
      have hx := rowC_drop lc6_len w i hi
      have hlt : i * 6 < w.length * 6 := by omega
      have hlt' : (i : Int) < w.length := by omega
      have he := hwo.eq i hi
      have hj2 : j < w[i].s.length := by unfold wid at hj; omega
      have hj3 : (j : Int) < w[i].s.length := by omega
      have hgo : w[i].s[j]? = some w[i].s[j] := List.getElem?_eq_getElem hj2
      have tx := ctr_take (f := (·.x)) hi j
      have ty := ctr_take (f := (·.y)) hi j
      have bx := ctr_in (f := (·.x)) hwo.ok (fun i hi => (hwo.ok i hi).px) j (i + 1) (by omega)
      have byy := ctr_in (f := (·.y)) hwo.ok (fun i hi => (hwo.ok i hi).py) j (i + 1) (by omega)
      have mx := mom_in (f := (·.x)) (hwo.ok i hi) (hwo.ok i hi).px j
      have my := mom_in (f := (·.y)) (hwo.ok i hi) (hwo.ok i hi).py j
      simp only [getD_i hj2] at tx ty mx my
      generalize w[i] = x at *
      have w1 : IntKind.i64.wrap (x.x * x.s[j]) = x.x * x.s[j] := wrap64 (by omega) (by omega)
      have w2 : IntKind.i64.wrap (x.y * x.s[j]) = x.y * x.s[j] := wrap64 (by omega) (by omega)
      have w3 : IntKind.i64.wrap (ctr (·.x) (w.take i) j + x.x * x.s[j]) = ctr (·.x) (w.take (i + 1)) j := by rw [← tx]; exact wrap64 (by omega) (by omega)
      have w4 : IntKind.i64.wrap (ctr (·.y) (w.take i) j + x.y * x.s[j]) = ctr (·.y) (w.take (i + 1)) j := by rw [← ty]; exact wrap64 (by omega) (by omega)
      refine ⟨inv (i + 1), ?_, rfl⟩
      simp -implicitDefEqProofs [inv, Z, loopS_eq, c80L0, cW_len, hx, hlt, hlt', hj2, hj3, w1, w2, w3, w4, wrap_succ (i := i) (by omega)]
    simp only [Z] at key
    have q1 := quotient143 (n := d + 3) (by omega) (ctr (·.x) w j) (forI w j) z (by omega) (by omega) (by omega) (by omega)
    have q2 := quotient143 (n := d + 3) (by omega) (ctr (·.y) w j) (forI w j) z (by omega) (by omega) (by omega) (by omega)
    rw [show lowI (ctr (·.x) w j) (forI w j) = cenA w j from rfl] at q1
    rw [show lowI (ctr (·.y) w j) (forI w j) = cenB w j from rfl] at q2
    unfold cenE
    rw [if_neg z]
    generalize forI w j = v at *
    generalize ctr (·.x) w j = X at *
    generalize ctr (·.y) w j = Y at *
    generalize cenA w j = A at *
    generalize cenB w j = B at *
    cases la : largeB A with
    | true =>
      rw [la, if_pos rfl] at q1
      cases lb : largeB B with
      | true =>
        rw [lb, if_pos rfl] at q2
        simp -implicitDefEqProofs [c80, h1, hzb, key, q1, q2]
      | false =>
        rw [lb, if_neg (by simp)] at q2
        simp -implicitDefEqProofs [c80, h1, hzb, key, q1, q2]
    | false =>
      rw [la, if_neg (by simp)] at q1
      cases lb : largeB B with
      | true =>
        rw [lb, if_pos rfl] at q2
        simp -implicitDefEqProofs [c80, h1, hzb, key, q1, q2]
      | false =>
        rw [lb, if_neg (by simp)] at q2
        simp -implicitDefEqProofs [c80, h1, hzb, key, q1, q2, hidI, hide, hid16, stOp, plain]
end Fw
