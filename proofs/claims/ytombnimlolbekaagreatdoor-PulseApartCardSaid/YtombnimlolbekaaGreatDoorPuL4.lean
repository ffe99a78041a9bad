/- The excess of a pulse, and sums: the pulse chapter and its reference. -/
import Derived.Test.YtombnimlolbekaaGreatDoorPuL3
set_option maxHeartbeats 8000000
namespace Fw
open Go
attribute [local irreducible] evCode evOps evOpsD evOper evOperD evOp evFn loopN T.All T.bind callPure callOp opsK opsDK restK seqK blockK loopS setK setQ giveK scalK gcK finish finS rfunK yldK yldB loopK

def exN (x : Int × Int) (a : Int) : Int := max 0 (max (x.1 - a) (a - x.2))
def exF (c : List (Int × Int)) (p : List Int) : Nat → Int × Int
 | 0 => (0, 0)
 | i + 1 => if (exF c p i).1 < exN (c.getD i (0, 0)) (p.getD i 0) then (exN (c.getD i (0, 0)) (p.getD i 0), i) else exF c p i

theorem exF_nonneg (c : List (Int × Int)) (p : List Int) (i : Nat) : 0 ≤ (exF c p i).1 := by
 induction i with
 | zero => simp [exF]
 | succ i ih =>
  simp only [exF]
  split
  ·rename_i h; omega
  ·exact ih

structure Fit (c : List (Int × Int)) (p : List Int) : Prop where
 len : p.length = c.length
 small : c.length ≤ 64
 corr : ∀ x ∈ c, 0 ≤ x.1 ∧ x.1 ≤ 10000 ∧ 0 ≤ x.2 ∧ x.2 ≤ 10000 ∧ x.1 ≤ x.2
 acc : ∀ a ∈ p, -100000 ≤ a ∧ a ≤ 100000

theorem excess109 {n : Nat} (hn : 1 ≤ n) {c : List (Int × Int)} {p : List Int} (h : Fit c p) : RUN n 109 [csl c, isl p] = .ret (.tup [iv (exF c p p.length).1, iv (exF c p p.length).2]) := by
 obtain ⟨d, rfl⟩ : ∃ d, n = d + 1 := ⟨n - 1, by omega⟩
 rw [RUN, call_eq fe109 _ rfl]
 have hlen := h.len
 have hsm := h.small
 let inv : Nat → St := fun i => ⟨[(0, csl c), (6, iv (exF c p i).1), (7, iv (exF c p i).2), (12, isl p), (13, iv p.length), (14, iv i)], []⟩
 simp [c109]
 rw [loop_run' inv p.length (e := .exit 0) (st' := ⟨(inv p.length).env ++ [(15, .p (.bool false))], (inv p.length).sto⟩) (by simp)]
 ·simp [inv]
 ·rfl
 ·intro i hi
  have hic : i < c.length := by omega
  have hx := cI_drop c i hic
  have hp : p[i]? = some p[i] := List.getElem?_eq_getElem hi
  have hlt : i * 2 < c.length * 2 := by omega
  have hlt' : (i : Int) < c.length := by omega
  have hb := h.corr c[i] (List.getElem_mem hic)
  have ha := h.acc p[i] (List.getElem_mem hi)
  have h0 := exF_nonneg c p i
  have he : exF c p (i + 1) = if (exF c p i).1 < exN c[i] p[i] then (exN c[i] p[i], (i : Int)) else exF c p i := by
   simp only [exF, List.getD_eq_getElem?_getD, List.getElem?_eq_getElem hic, hp, Option.getD_some]
  refine ⟨⟨(inv (i + 1)).env, [(0, .arr [.int .i64 c[i].1, .int .i64 c[i].2] 0 1)]⟩, ?_, loopS_same rfl (by simp [inv])⟩
  generalize c[i] = x at *
  generalize hpa : p[i] = a at *
  obtain ⟨x1, x2⟩ := x
  simp only at hb
  have w1 := wrap64 (n := x1 - a) (by omega) (by omega)
  have w2 := wrap64 (n := a - x2) (by omega) (by omega)
  generalize hmq : exF c p i = m at *
  obtain ⟨m, q⟩ := m
  by_cases e : x1 = a ∧ x2 = a
  ·obtain ⟨rfl, rfl⟩ := e
   have hn : ¬ (m < exN (x2, x2) x2) := by simp only [exN]; simp only at h0; omega
   rw [if_neg hn] at he
   simp -implicitDefEqProofs [inv, loopS_eq, c109L0, hi, hx, hpa, hmq, hlt, hlt', he, wrap_succ (i := i) (by omega), eqK, keyOk, eqP]
  ·have hq : (x1 == a && x2 == a) = false := by
    rw [Bool.eq_false_iff]
    simpa using e
   by_cases hd : x1 - a < a - x2
   ·have hx' : exN (x1, x2) a = max 0 (a - x2) := by simp only [exN]; omega
    by_cases hm : m < a - x2
    ·have hy : exN (x1, x2) a = a - x2 := by simp only at h0; omega
     rw [hy, if_pos hm] at he
     simp -implicitDefEqProofs [inv, loopS_eq, c109L0, hi, hx, hpa, hmq, hlt, hlt', he, wrap_succ (i := i) (by omega), eqK, keyOk, eqP, w1, w2, maxInt, hd, hm, hq]
    ·have hy : ¬ m < exN (x1, x2) a := by simp only at h0; omega
     rw [if_neg hy] at he
     simp -implicitDefEqProofs [inv, loopS_eq, c109L0, hi, hx, hpa, hmq, hlt, hlt', he, wrap_succ (i := i) (by omega), eqK, keyOk, eqP, w1, w2, maxInt, hd, hm, hq]
   ·have hx' : exN (x1, x2) a = max 0 (x1 - a) := by simp only [exN]; omega
    by_cases hm : m < x1 - a
    ·have hy : exN (x1, x2) a = x1 - a := by simp only at h0; omega
     rw [hy, if_pos hm] at he
     simp -implicitDefEqProofs [inv, loopS_eq, c109L0, hi, hx, hpa, hmq, hlt, hlt', he, wrap_succ (i := i) (by omega), eqK, keyOk, eqP, w1, w2, maxInt, hd, hm, hq]
    ·have hy : ¬ m < exN (x1, x2) a := by simp only at h0; omega
     rw [if_neg hy] at he
     simp -implicitDefEqProofs [inv, loopS_eq, c109L0, hi, hx, hpa, hmq, hlt, hlt', he, wrap_succ (i := i) (by omega), eqK, keyOk, eqP, w1, w2, maxInt, hd, hm, hq]
 ·simp [inv, loopS_eq, c109L0]
 ·simp [loopFuel]; omega

/-! the reference -/

def inZ (z : List ((Int × Int) × Int)) : Bool := z.all fun y => decide (y.1.1 ≤ y.2) && decide (y.2 ≤ y.1.2)

theorem exF_zero (c : List (Int × Int)) (p : List Int) (n : Nat) : (exF c p n).1 = 0 ↔ ∀ j, j < n → exN (c.getD j (0, 0)) (p.getD j 0) = 0 := by
 induction n with
 | zero => simp [exF]
 | succ n ih =>
  have h0 := exF_nonneg c p n
  have h1 : 0 ≤ exN (c.getD n (0, 0)) (p.getD n 0) := by simp only [exN]; omega
  simp only [exF]
  constructor
  ·intro h j hj
   split at h
   ·rename_i hlt; simp only at h; omega
   ·rename_i hlt
    by_cases hjn : j = n
    ·subst hjn; omega
    ·exact ih.1 h j (by omega)
  ·intro h
   have h2 := ih.2 (fun j hj => h j (by omega))
   have h3 := h n (by omega)
   rw [if_neg (by omega)]
   exact h2

theorem ex_in {c : List (Int × Int)} {p : List Int} (h : p.length = c.length) : decide ((exF c p p.length).1 = 0) = inZ (c.zip p) := by
 rw [Bool.eq_iff_iff]
 simp only [decide_eq_true_eq, inZ, List.all_eq_true, exF_zero, Bool.and_eq_true]
 constructor
 ·intro hx y hy
  obtain ⟨j, hj, rfl⟩ := List.getElem_of_mem hy
  have hj' : j < c.length ∧ j < p.length := by simp at hj; omega
  have := hx j hj'.2
  simp only [List.getD_eq_getElem?_getD, List.getElem?_eq_getElem hj'.1, List.getElem?_eq_getElem hj'.2, Option.getD_some, exN] at this
  simp only [List.getElem_zip]
  omega
 ·intro hx j hj
  have hc : j < c.length := by omega
  have hm : (c[j], p[j]) ∈ c.zip p := by
   rw [← List.getElem_zip (h := by simp; omega)]
   exact List.getElem_mem _
  have := hx _ hm
  simp only [List.getD_eq_getElem?_getD, List.getElem?_eq_getElem hc, List.getElem?_eq_getElem hj, Option.getD_some, exN]
  simp only at this
  omega

/-! the errors, read -/

theorem firstE_zero {l : List Int} : firstE l = 0 ↔ ∀ e ∈ l, e = 0 := by
 induction l with
 | nil => simp [firstE]
 | cons e r ih =>
  rw [firstE_cons]
  by_cases h : e = 0 <;> simp [h, ih]

theorem rangeE_zero {lo hi n : Int} : rangeE lo hi n = 0 ↔ lo ≤ n ∧ n ≤ hi := by
 unfold rangeE
 split <;> omega

theorem whenE_zero {b : Bool} {e : Int} (he : e ≠ 0) : whenE b e = 0 ↔ b = false := by
 cases b <;> simp [whenE, he]

theorem sizedE_zero {n m : Int} : sizedE n m = 0 ↔ n ≠ 0 ∧ n ≤ m := by
 simp [sizedE, firstE_zero, whenE_zero]

theorem ivE_zero {lo hi : Int} {x : Int × Int} : ivE lo hi x = 0 ↔ lo ≤ x.1 ∧ x.1 ≤ hi ∧ lo ≤ x.2 ∧ x.2 ≤ hi ∧ x.1 ≤ x.2 := by
 simp [ivE, firstE_zero, whenE_zero, rangeE_zero, and_assoc]

theorem accE_zero {p : List Int} : accE p = 0 ↔ ∀ a ∈ p, -100000 ≤ a ∧ a ≤ 100000 := by
 simp [accE, firstE_zero, rangeE_zero]

theorem corrE_zero {c : List (Int × Int)} (h : corrE c = 0) : c.length ≠ 0 ∧ c.length ≤ 64 ∧ ∀ x ∈ c, 0 ≤ x.1 ∧ x.1 ≤ 10000 ∧ 0 ≤ x.2 ∧ x.2 ≤ 10000 ∧ x.1 ≤ x.2 := by
 unfold corrE at h
 split at h
 ·rename_i hs
  obtain ⟨h1, h2⟩ := sizedE_zero.1 hs
  refine ⟨by omega, by omega, fun x hx => ?_⟩
  exact ivE_zero.1 (firstE_zero.1 h _ (List.mem_map.2 ⟨x, hx, rfl⟩))
 ·rename_i hs; exact absurd h hs

theorem fit_of {c : List (Int × Int)} {p : List Int} (h : firstE [corrE c, fitE c p] = 0) : Fit c p := by
 have h1 := firstE_zero.1 h
 have hc := corrE_zero (h1 (corrE c) (by simp))
 have hf := firstE_zero.1 (h1 (fitE c p) (by simp))
 have hl := (whenE_zero (by decide)).1 (hf _ (List.mem_cons_self ..))
 have hl2 : (p.length : Int) = c.length := by simpa using hl
 exact ⟨by omega, hc.2.1, hc.2.2, accE_zero.1 (hf (accE p) (by simp))⟩

theorem pulse_of {p : List Int} (h : pulseE p = 0) : p.length ≠ 0 ∧ p.length ≤ 64 ∧ ∀ a ∈ p, -100000 ≤ a ∧ a ≤ 100000 := by
 have h1 := firstE_zero.1 h
 obtain ⟨h2, h3⟩ := sizedE_zero.1 (h1 _ (List.mem_cons_self ..))
 exact ⟨by omega, by omega, accE_zero.1 (h1 (accE p) (by simp))⟩

/-! Excess and Inside -/

theorem excess34 {n : Nat} (hn : 7 ≤ n) (c : List (Int × Int)) (p : List Int) (hc : c.length < 1000000) (hp : p.length < 1000000) :
  RUN n 34 [csl c, isl p] = .ret (if firstE [corrE c, fitE c p] = 0 then .tup [iv (exF c p p.length).1, iv (exF c p p.length).2, iv 0] else .tup [iv 0, iv 0, iv (firstE [corrE c, fitE c p])]) := by
 obtain ⟨d, rfl⟩ : ∃ d, n = d + 7 := ⟨n - 7, by omega⟩
 rw [RUN, call_eq fe34 _ rfl]
 have h1 := corr43 (n := d + 6) (by omega) c hc
 have h2 := fit108 (n := d + 6) (by omega) c p hp
 have h3 := first92_2 (n := d + 6) (by omega) (corrE c) (fitE c p)
 by_cases h : firstE [corrE c, fitE c p] = 0
 ·have h4 := excess109 (n := d + 6) (by omega) (fit_of h)
  rw [if_pos h]
  simp -implicitDefEqProofs [c34, h1, h2, h3, h, h4]
 ·rw [if_neg h]
  simp -implicitDefEqProofs [c34, h1, h2, h3, h]

theorem inside31 {n : Nat} (hn : 8 ≤ n) (c : List (Int × Int)) (p : List Int) (hc : c.length < 1000000) (hp : p.length < 1000000) :
  RUN n 31 [csl c, isl p] = .ret (.tup [.p (.bool (if firstE [corrE c, fitE c p] = 0 then inZ (c.zip p) else false)), iv (firstE [corrE c, fitE c p])]) := by
 obtain ⟨d, rfl⟩ : ∃ d, n = d + 8 := ⟨n - 8, by omega⟩
 rw [RUN, call_eq fe31 _ rfl]
 have h1 := excess34 (n := d + 7) (by omega) c p hc hp
 by_cases h : firstE [corrE c, fitE c p] = 0
 ·rw [if_pos h] at h1
  rw [if_pos h, ← ex_in (fit_of h).len, h]
  simp -implicitDefEqProofs [c31, h1]
  rfl
 ·rw [if_neg h] at h1
  rw [if_neg h]
  have hb : (firstE [corrE c, fitE c p] == 0) = false := by simpa using h
  generalize firstE [corrE c, fitE c p] = e at *
  simp -implicitDefEqProofs [c31, h1, hb]
end Fw
