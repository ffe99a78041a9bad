/- Tows: runs, stops, what is safe. -/
import Derived.Test.YtfkacogfieiccaaGreatDoorBaL2
set_option maxHeartbeats 8000000
namespace Fw
open Go
attribute [local irreducible] evCode evOps evOpsD evOper evOperD evOp evFn loopN T.All T.bind callPure callOp opsK opsDK restK seqK blockK loopS setK setQ giveK scalK gcK finish finS rfunK yldK yldB loopK

theorem inside115 {n : Nat} (hn : 3 ≤ n) (x a b : Int) : RUN n 115 [iv x, .agg [iv a, iv b]] = .ret (iv (rangeE a b x)) := by
  obtain ⟨d, rfl⟩ : ∃ d, n = d + 3 := ⟨n - 3, by omega⟩
  rw [RUN, call_eq fe115 _ rfl]
  have h1 := within108 (n := d + 2) (by omega) x a b
  simp -implicitDefEqProofs [c115, h1]
theorem in41 {n : Nat} (hn : 2 ≤ n) (x a b : Int) : RUN n 41 [iv x, .agg [iv a, iv b]] = .ret (iv (rangeE a b x)) := by
  obtain ⟨d, rfl⟩ : ∃ d, n = d + 2 := ⟨n - 2, by omega⟩
  rw [RUN, call_eq fe41 _ rfl]
  have h1 := fun b e => when55 (n := d + 1) (by omega) b e
  by_cases c1 : x < a
  · simp -implicitDefEqProofs [c41, h1, c1, rangeE, whenE]
  · by_cases c2 : b < x <;> simp -implicitDefEqProofs [c41, h1, c1, c2, rangeE, whenE]

theorem run34 {n : Nat} (hn : 7 ≤ n) (t : TowI) (hl : t.pull.length < 1000000) (f : Int) : RUN n 34 [twa t, iv f] = .ret (if towE t = 0 then (if rangeE t.fl t.fh f = 0 then .tup [isl (runL t f), iv 0] else .tup [.p (.sl [] 0), iv (rangeE t.fl t.fh f)]) else .tup [.p (.sl [] 0), iv (towE t)]) := by
  obtain ⟨d, rfl⟩ : ∃ d, n = d + 7 := ⟨n - 7, by omega⟩
  rw [RUN, call_eq fe34 _ rfl]
  have h0 := tow48 (n := d + 6) (by omega) t hl
  have h1 := inside115 (n := d + 6) (by omega) f t.fl t.fh
  by_cases z0 : towE t = 0
  · have h := tow_of z0
    have hfr := h.fr
    rw [if_pos z0]
    by_cases z1 : rangeE t.fl t.fh f = 0
    · rw [if_pos z1]
      have hf := rangeE_zero.1 z1
      have h2 := run116 (n := d + 6) (by omega) h (f := f) (by omega)
      simp -implicitDefEqProofs [c34, h0, z0, h1, z1, h2]
    · rw [if_neg z1]
      have hb : (rangeE t.fl t.fh f != 0) = true := by simpa using z1
      simp -implicitDefEqProofs [c34, h0, z0, h1, hb]
  · rw [if_neg z0]
    have hb : (towE t != 0) = true := by simpa using z0
    simp -implicitDefEqProofs [c34, h0, hb]

/-! what is reached -/
def reL (t : TowI) : List (Int × Int) := (List.range (t.pull.length + 1)).map fun i => (runF t t.fh i, runF t t.fl i)
@[simp] theorem reL_length (t : TowI) : (reL t).length = t.pull.length + 1 := by simp [reL]
theorem cI_append (a b : List (Int × Int)) : cI (a ++ b) = cI a ++ cI b := by
  induction a with
  | nil => rfl
  | cons x r ih => simp [cI, ih]
theorem re_take (t : TowI) (i : Nat) (h : i < t.pull.length + 1) : cI ((reL t).take i) ++ [.int .i64 (runF t t.fh i), .int .i64 (runF t t.fl i)] = cI ((reL t).take (i + 1)) := by
  have hi : i < (reL t).length := by simpa using h
  rw [← List.take_append_getElem hi, cI_append]
  simp [reL, cI]

theorem reach46 {n : Nat} (hn : 2 ≤ n) {t : TowI} (h : TowOk t) : RUN n 46 [twa t] = .ret (.own (cI (reL t)) (t.pull.length + 1) 2) := by
  obtain ⟨d, rfl⟩ : ∃ d, n = d + 2 := ⟨n - 2, by omega⟩
  rw [RUN, call_eq fe46 _ rfl]
  have hfew := h.few
  have hfr := h.fr
  have h1 := run43 (n := d + 1) (by omega) h (f := t.fh) (by omega)
  have h2 := run43 (n := d + 1) (by omega) h (f := t.fl) (by omega)
  let A : AVal := .p (.sl (pI (runL t t.fh)) (t.pull.length + 1))
  let B : AVal := .p (.sl (pI (runL t t.fl)) (t.pull.length + 1))
  let inv : Nat → St := fun i => ⟨[(3, A), (4, B), (5, .sl 1 i 0 i), (6, iv i)], [(1, .arr (cI ((reL t).take i)) i 2), (0, .box (twl t))]⟩
  have hend : (reL t).take (t.pull.length + 1) = reL t := List.take_of_length_le (by simp)
  simp -implicitDefEqProofs [c46, h1, h2]
  rw [loop_run inv (t.pull.length + 1) (e := .exit 0) (st' := ⟨(inv (t.pull.length + 1)).env ++ [(20, .p (.bool false))], (inv (t.pull.length + 1)).sto⟩) (by simp)]
  · simp -implicitDefEqProofs [inv, hend]
  · rfl
  · intro i hi
    have hlt' : (i : Int) < (t.pull.length : Int) + 1 := by omega
    have g1 : ∀ q, (runL t t.fh)[i]'q = runF t t.fh i := fun q => by simp [runL]
    have g2 : ∀ q, (runL t t.fl)[i]'q = runF t t.fl i := fun q => by simp [runL]
    have ht := re_take t i hi
    have hto : ((reL t).take i).length = i := by simp; omega
    have hlim : i + 1 ≤ lim := by simp only [lim]; omega
    simp -implicitDefEqProofs [inv, A, B, loopS_eq, c46L0, hi, hlt', g1, g2, hto, hlim, ht, wrap_succ (i := i) (by omega), -List.map_take, -List.take_append_getElem]
  · simp -implicitDefEqProofs [inv, A, B, loopS_eq, c46L0]
  · simp [loopFuel]; omega

theorem reach36 {n : Nat} (hn : 7 ≤ n) (t : TowI) (hl : t.pull.length < 1000000) : RUN n 36 [twa t] = .ret (if towE t = 0 then .tup [.own (cI (reL t)) (t.pull.length + 1) 2, iv 0] else .tup [.p (.sl [] 0), iv (towE t)]) := by
  obtain ⟨d, rfl⟩ : ∃ d, n = d + 7 := ⟨n - 7, by omega⟩
  rw [RUN, call_eq fe36 _ rfl]
  have h0 := tow48 (n := d + 6) (by omega) t hl
  by_cases z0 : towE t = 0
  · rw [if_pos z0]
    have h := tow_of z0
    have hfew := h.few
    have hfr := h.fr
    have h1 := run116 (n := d + 6) (by omega) h (f := t.fh) (by omega)
    have h2 := run116 (n := d + 6) (by omega) h (f := t.fl) (by omega)
    let A : AVal := .p (.sl (pI (runL t t.fh)) (t.pull.length + 1))
    let B : AVal := .p (.sl (pI (runL t t.fl)) (t.pull.length + 1))
    let inv : Nat → St := fun i => ⟨[(5, A), (6, B), (7, .sl 1 i 0 i), (25, iv ((t.pull.length + 1 : Nat) : Int)), (26, iv i)], [(1, .arr (cI ((reL t).take i)) i 2), (0, .box (twl t))]⟩
    have hend : (reL t).take (t.pull.length + 1) = reL t := List.take_of_length_le (by simp)
    simp -implicitDefEqProofs [c36, h0, z0, h1, h2]
    rw [loop_run inv (t.pull.length + 1) (e := .exit 0) (st' := ⟨(inv (t.pull.length + 1)).env ++ [(27, .p (.bool false))], (inv (t.pull.length + 1)).sto⟩) (by simp)]
    · simp -implicitDefEqProofs [inv, hend]
    · simp [inv, A, B, cI]
    · intro i hi
      have hlt' : (i : Int) < (t.pull.length : Int) + 1 := by omega
      have g1 : ∀ q, (runL t t.fh)[i]'q = runF t t.fh i := fun q => by simp [runL]
      have g2 : ∀ q, (runL t t.fl)[i]'q = runF t t.fl i := fun q => by simp [runL]
      have ht := re_take t i hi
      have hto : ((reL t).take i).length = i := by simp; omega
      have hlim : i + 1 ≤ lim := by simp only [lim]; omega
      simp -implicitDefEqProofs [inv, A, B, loopS_eq, c36L0, hi, hlt', g1, g2, hto, hlim, ht, wrap_succ (i := i) (by omega), -List.map_take, -List.take_append_getElem]
    · simp -implicitDefEqProofs [inv, A, B, loopS_eq, c36L0]
    · simp [loopFuel]; omega
  · rw [if_neg z0]
    have hb : (towE t != 0) = true := by simpa using z0
    simp -implicitDefEqProofs [c36, h0, hb]

/-! stops -/
def upI (x den : Int) : Int := -((-x) / den)
theorem up_eq {x den : Int} (hd : 0 < den) : (x + den - 1) / den = upI x den := by
  unfold upI
  have h1 := Int.mul_ediv_add_emod (-x) den
  have h2 := Int.emod_nonneg (-x) (show den ≠ 0 by omega)
  have h3 := Int.emod_lt_of_pos (-x) hd
  generalize (-x) / den = q at *
  generalize (-x) % den = r at *
  have e : x + den - 1 = (den - 1 - r) + den * (0 - q) - 0 := by
    have : den * (0 - q) = -(den * q) := by rw [Int.mul_sub]; omega
    omega
  have h4 : (x + den - 1) / den = ((den - 1 - r) + den * (0 - q)) / den := by rw [e]; simp
  rw [h4, Int.add_mul_ediv_left _ _ (by omega), Int.ediv_eq_zero_of_lt (by omega) (by omega)]
  omega
theorem upI_in {x den B : Int} (hd : 0 < den) (hx : 0 ≤ x) (hB : x ≤ B) : 0 ≤ upI x den ∧ upI x den ≤ B := by
  rw [← up_eq hd]
  constructor
  · exact Int.ediv_nonneg (by omega) (by omega)
  · have h1 : (x + den - 1) / den ≤ x := by
      rcases Int.lt_or_le 0 x with h | h
      · have : (x + den - 1) / den < x + 1 := by
          apply Int.ediv_lt_of_lt_mul hd
          have h2 : x * 1 ≤ x * den := Int.mul_le_mul_of_nonneg_left (by omega) hx
          have h3 : (x + 1) * den = x * den + den := by rw [Int.add_mul, Int.one_mul]
          omega
        omega
      · have : x = 0 := by omega
        subst this
        rw [Int.ediv_eq_zero_of_lt (by omega) (by omega)]
        omega
    omega

theorem up153 {n : Nat} (hn : 1 ≤ n) (x den : Int) (hd : 0 < den) (h1 : 0 ≤ x) (h2 : x ≤ 1000000000000) (h3 : den ≤ 1000000000000) : RUN n 153 [iv x, iv den] = .ret (iv (upI x den)) := by
  obtain ⟨d, rfl⟩ : ∃ d, n = d + 1 := ⟨n - 1, by omega⟩
  rw [RUN, call_eq fe153 _ rfl]
  have w1 := wrap64 (n := x + den) (by omega) (by omega)
  have w2 := wrap64 (n := x + den - 1) (by omega) (by omega)
  have hq := upI_in hd h1 h2
  have ht : (x + den - 1).tdiv den = upI x den := by rw [Int.tdiv_eq_ediv_of_nonneg (by omega)]; exact up_eq hd
  have w3 := wrap64 (n := upI x den) (by omega) (by omega)
  have hz : ¬ den = 0 := by omega
  have hm1 : ¬ den = -1 := by omega
  simp -implicitDefEqProofs [c153, w1, w2, ht, w3, hz]

theorem ceil105 {n : Nat} (hn : 2 ≤ n) (x den : Int) (hd : 0 < den) (h1 : 0 ≤ x) (h2 : x ≤ 1000000000) : RUN n 105 [iv x, iv den] = .ret (iv (upI x den)) := by
  obtain ⟨d, rfl⟩ : ∃ d, n = d + 2 := ⟨n - 2, by omega⟩
  rw [RUN, call_eq fe105 _ rfl]
  have h := floor104 (n := d + 1) (by omega) (-x) den hd (by omega) (by omega)
  have hq := upI_in hd h1 h2
  have w0 := wrap64 (n := -x) (by omega) (by omega)
  have w1 := wrap64 (n := -((-x) / den)) (by unfold upI at hq; omega) (by unfold upI at hq; omega)
  simp -implicitDefEqProofs [c105, h, w0, w1, upI]

/-- where a car stops, and the error -/
def brA (t : TowI) (c : Nat) (f b : Int) : Int × Int := if runF t f c = 0 then (c, 0) else if f + b = 0 then (0, 7) else (c + upI (runF t f c) (f + b), 0)

theorem stop118 {n : Nat} (hn : 2 ≤ n) (c : Nat) (s f : Int) (hc : c ≤ 1000) (hs : 0 ≤ s ∧ s ≤ 100000000) (hf : 0 ≤ f ∧ f ≤ 200000) : RUN n 118 [iv c, iv s, iv f] = .ret (if s = 0 then .tup [iv c, .p (.bool true)] else if f = 0 then .tup [iv 0, .p (.bool false)] else .tup [iv (c + upI s f), .p (.bool true)]) := by
  obtain ⟨d, rfl⟩ : ∃ d, n = d + 2 := ⟨n - 2, by omega⟩
  rw [RUN, call_eq fe118 _ rfl]
  by_cases c1 : s = 0
  · subst c1
    simp -implicitDefEqProofs [c118]
  · have c1' : ¬ s ≤ 0 := by omega
    by_cases c2 : f = 0
    · subst c2
      simp -implicitDefEqProofs [c118, c1, c1']
    · have hb : (f == 0) = false := by simpa using c2
      have h1 := up153 (n := d + 1) (by omega) s f (by omega) hs.1 (by omega) (by omega)
      have hq := upI_in (x := s) (den := f) (B := 100000000) (by omega) hs.1 hs.2
      have w := wrap64 (n := (c : Int) + upI s f) (by omega) (by omega)
      simp -implicitDefEqProofs [c118, c1, c1', c2, hb, h1, w]

theorem runL_get (t : TowI) (f : Int) {c : Nat} (_ : c < t.pull.length + 1) (q : c < (runL t f).length) : (runL t f)[c]'q = runF t f c := by simp [runL]
theorem wrap_zero : IntKind.i64.wrap 0 = 0 := by decide

theorem brake44 {n : Nat} (hn : 3 ≤ n) {t : TowI} (h : TowOk t) {c : Nat} (hc : (c : Int) ≤ t.wall) {f b : Int} (hf : 0 ≤ f ∧ f ≤ 100000) (hb : 0 ≤ b ∧ b ≤ 100000) : RUN n 44 [twa t, iv c, iv f, iv b] = .ret (.tup [iv (brA t c f b).1, iv (brA t c f b).2]) := by
  obtain ⟨d, rfl⟩ : ∃ d, n = d + 3 := ⟨n - 3, by omega⟩
  rw [RUN, call_eq fe44 _ rfl]
  have hw := h.wl
  have hfew := h.few
  have h1 := run43 (n := d + 2) (by omega) h hf
  have hcl : c < t.pull.length + 1 := by omega
  have hci : (c : Int) < (t.pull.length : Int) + 1 := by omega
  have g := runL_get t f hcl
  have hr := runF_in h hf.1 c (by omega)
  have w := wrap64 (n := f + b) (by omega) (by omega)
  have hBr : brA t c f b = if runF t f c = 0 then ((c : Int), 0) else if f + b = 0 then (0, 7) else (c + upI (runF t f c) (f + b), 0) := rfl
  rw [hBr]
  generalize runF t f c = s at *
  by_cases c1 : s = 0
  · subst c1
    simp -implicitDefEqProofs [c44, h1, hcl, hci, g]
  · have q1 : (s == 0) = false := by simpa using c1
    by_cases c2 : f + b = 0
    · simp -implicitDefEqProofs [c44, h1, hcl, hci, g, q1, c1, c2, wrap_zero]
    · have q2 : (f + b == 0) = false := by simpa using c2
      have h2 := ceil105 (n := d + 2) (by omega) s (f + b) (by omega) hr.1 (by omega)
      have hq := upI_in (x := s) (den := f + b) (B := 1000000000) (by omega) hr.1 (by omega)
      have w2 := wrap64 (n := (c : Int) + upI s (f + b)) (by omega) (by omega)
      simp -implicitDefEqProofs [c44, h1, hcl, hci, g, q1, c1, w, q2, c2, h2, w2]

def safeB (t : TowI) (c : Nat) : Bool := decide ((brA t c t.fl t.bl).2 = 0) && decide ((brA t c t.fl t.bl).1 ≤ t.wall)

theorem safe45 {n : Nat} (hn : 4 ≤ n) {t : TowI} (h : TowOk t) {c : Nat} (hc : (c : Int) ≤ t.wall) : RUN n 45 [twa t, iv c] = .ret (.p (.bool (safeB t c))) := by
  obtain ⟨d, rfl⟩ : ∃ d, n = d + 4 := ⟨n - 4, by omega⟩
  rw [RUN, call_eq fe45 _ rfl]
  have hfr := h.fr
  have hbr := h.br
  have h1 := brake44 (n := d + 3) (by omega) h hc (f := t.fl) (b := t.bl) (by omega) (by omega)
  unfold safeB
  generalize (brA t c t.fl t.bl).1 = x at *
  generalize (brA t c t.fl t.bl).2 = e at *
  by_cases c1 : e = 0
  · subst c1
    simp -implicitDefEqProofs [c45, h1]
  · have q1 : (e == 0) = false := by simpa using c1
    simp -implicitDefEqProofs [c45, h1, q1, c1]

theorem safe119 {n : Nat} (hn : 3 ≤ n) {t : TowI} (h : TowOk t) {c : Nat} (hc : (c : Int) ≤ t.wall) : RUN n 119 [twa t, iv c] = .ret (.p (.bool (safeB t c))) := by
  obtain ⟨d, rfl⟩ : ∃ d, n = d + 3 := ⟨n - 3, by omega⟩
  rw [RUN, call_eq fe119 _ rfl]
  have hw := h.wl
  have hfew := h.few
  have hfr := h.fr
  have hbr := h.br
  have h1 := run116 (n := d + 2) (by omega) h (f := t.fl) (by omega)
  have hcl : c < t.pull.length + 1 := by omega
  have hci : (c : Int) < (t.pull.length : Int) + 1 := by omega
  have g := runL_get t t.fl hcl
  have hr := runF_in h hfr.1 c (by omega)
  have w := wrap64 (n := t.fl + t.bl) (by omega) (by omega)
  have h2 := stop118 (n := d + 2) (by omega) c (runF t t.fl c) (t.fl + t.bl) (by omega) (by omega) (by omega)
  have hB : safeB t c = (decide ((if runF t t.fl c = 0 then ((c : Int), (0 : Int)) else if t.fl + t.bl = 0 then (0, 7) else (c + upI (runF t t.fl c) (t.fl + t.bl), 0)).2 = 0) && decide ((if runF t t.fl c = 0 then ((c : Int), (0 : Int)) else if t.fl + t.bl = 0 then (0, 7) else (c + upI (runF t t.fl c) (t.fl + t.bl), 0)).1 ≤ t.wall)) := rfl
  rw [hB]
  generalize runF t t.fl c = s at *
  by_cases c1 : s = 0
  · subst c1
    simp -implicitDefEqProofs at h2
    simp -implicitDefEqProofs [c119, h1, hcl, hci, g, w, h2]
  · rw [if_neg c1] at h2
    by_cases c2 : t.fl + t.bl = 0
    · rw [if_pos c2, c2] at h2
      simp -implicitDefEqProofs [c119, h1, hcl, hci, g, c2, h2, c1, wrap_zero]
    · rw [if_neg c2] at h2
      simp -implicitDefEqProofs [c119, h1, hcl, hci, g, w, c2, h2, c1]

def brE (t : TowI) (c f b : Int) : Int := firstE [cellE t c, rangeE t.fl t.fh f, rangeE t.bl t.bh b]
theorem brake37 {n : Nat} (hn : 7 ≤ n) (t : TowI) (hl : t.pull.length < 1000000) (c f b : Int) : RUN n 37 [twa t, iv c, iv f, iv b] = .ret (if towE t = 0 then (if brE t c f b = 0 then .tup [iv (brA t c.toNat f b).1, iv (brA t c.toNat f b).2] else .tup [iv 0, iv (brE t c f b)]) else .tup [iv 0, iv (towE t)]) := by
  obtain ⟨d, rfl⟩ : ∃ d, n = d + 7 := ⟨n - 7, by omega⟩
  rw [RUN, call_eq fe37 _ rfl]
  have h0 := tow48 (n := d + 6) (by omega) t hl
  by_cases z0 : towE t = 0
  · rw [if_pos z0]
    have h := tow_of z0
    have hw := h.wl
    have hfew := h.few
    have hfr := h.fr
    have hbr := h.br
    have h1 := cell117 (n := d + 6) (by omega) t c
    have h2 := inside115 (n := d + 6) (by omega) f t.fl t.fh
    have h3 := inside115 (n := d + 6) (by omega) b t.bl t.bh
    have h4 := first98_3 (n := d + 6) (by omega) (cellE t c) (rangeE t.fl t.fh f) (rangeE t.bl t.bh b)
    have e : firstE [cellE t c, rangeE t.fl t.fh f, rangeE t.bl t.bh b] = brE t c f b := rfl
    rw [e] at h4
    by_cases z1 : brE t c f b = 0
    · rw [if_pos z1]
      have hz := firstE_zero.1 z1
      have q1 := cellE_zero.1 (hz (cellE t c) (by simp))
      have q2 := rangeE_zero.1 (hz (rangeE t.fl t.fh f) (by simp))
      have q3 := rangeE_zero.1 (hz (rangeE t.bl t.bh b) (by simp))
      obtain ⟨k, rfl⟩ : ∃ k : Nat, c = k := ⟨c.toNat, by omega⟩
      rw [Int.toNat_natCast]
      have hcl : k < t.pull.length + 1 := by omega
      have hci : (k : Int) < (t.pull.length : Int) + 1 := by omega
      have h5 := run116 (n := d + 6) (by omega) h (f := f) (by omega)
      have g := runL_get t f hcl
      have hr := runF_in h (show 0 ≤ f by omega) k (by omega)
      have w := wrap64 (n := f + b) (by omega) (by omega)
      have h6 := stop118 (n := d + 6) (by omega) k (runF t f k) (f + b) (by omega) (by omega) (by omega)
      have h7 := fun b e => when107 (n := d + 6) (by omega) b e
      have hBr : brA t k f b = if runF t f k = 0 then ((k : Int), 0) else if f + b = 0 then (0, 7) else (k + upI (runF t f k) (f + b), 0) := rfl
      rw [hBr]
      generalize runF t f k = s at *
      by_cases c1 : s = 0
      · subst c1
        simp -implicitDefEqProofs at h6
        simp -implicitDefEqProofs [c37, h0, z0, h1, h2, h3, h4, z1, h5, hcl, hci, g, w, h6, h7, whenE]
      · rw [if_neg c1] at h6
        by_cases c2 : f + b = 0
        · rw [if_pos c2, c2] at h6
          simp -implicitDefEqProofs [c37, h0, z0, h1, h2, h3, h4, z1, h5, hcl, hci, g, c2, h6, h7, c1, whenE, wrap_zero]
        · rw [if_neg c2] at h6
          simp -implicitDefEqProofs [c37, h0, z0, h1, h2, h3, h4, z1, h5, hcl, hci, g, w, h6, h7, c1, c2, whenE]
    · rw [if_neg z1]
      have hb : (brE t c f b != 0) = true := by simpa using z1
      simp -implicitDefEqProofs [c37, h0, z0, h1, h2, h3, h4, hb]
  · rw [if_neg z0]
    have hb : (towE t != 0) = true := by simpa using z0
    simp -implicitDefEqProofs [c37, h0, hb]

theorem safe38 {n : Nat} (hn : 7 ≤ n) (t : TowI) (hl : t.pull.length < 1000000) (c : Int) : RUN n 38 [twa t, iv c] = .ret (if towE t = 0 then (if cellE t c = 0 then .tup [.p (.bool (safeB t c.toNat)), iv 0] else .tup [.p (.bool false), iv (cellE t c)]) else .tup [.p (.bool false), iv (towE t)]) := by
  obtain ⟨d, rfl⟩ : ∃ d, n = d + 7 := ⟨n - 7, by omega⟩
  rw [RUN, call_eq fe38 _ rfl]
  have h0 := tow48 (n := d + 6) (by omega) t hl
  by_cases z0 : towE t = 0
  · rw [if_pos z0]
    have h := tow_of z0
    have h1 := cell117 (n := d + 6) (by omega) t c
    by_cases z1 : cellE t c = 0
    · rw [if_pos z1]
      have q1 := cellE_zero.1 z1
      obtain ⟨k, rfl⟩ : ∃ k : Nat, c = k := ⟨c.toNat, by omega⟩
      rw [Int.toNat_natCast]
      have h2 := safe119 (n := d + 6) (by omega) h q1.2
      simp -implicitDefEqProofs [c38, h0, z0, h1, z1, h2]
    · rw [if_neg z1]
      have hb : (cellE t c != 0) = true := by simpa using z1
      simp -implicitDefEqProofs [c38, h0, z0, h1, hb]
  · rw [if_neg z0]
    have hb : (towE t != 0) = true := by simpa using z0
    simp -implicitDefEqProofs [c38, h0, hb]
end Fw
