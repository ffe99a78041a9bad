/- Several texts in one: steps of the proof, no condition of their own. -/
import Derived.Test.YthiklnppmlmjeaaDoorTgMov
import Derived.Test.YthiklnppmlmjeaaDoorToFe
import Derived.Test.YthiklnppmlmjeaaDoorFwC
import Derived.Test.YthiklnppmlmjeaaDoorTgH4
import Derived.Test.YthiklnppmlmjeaaDoorTgSD
import Derived.Test.YthiklnppmlmjeaaDoorTgR3
attribute [local irreducible] Fw.evCode Fw.evOps Fw.evOpsD Fw.evOper Fw.evOperD Fw.evOp Fw.evFn Fw.loopN Fw.T.All Fw.T.bind Fw.callPure Fw.callOp Fw.opsK Fw.opsDK Fw.restK Fw.seqK Fw.blockK Fw.loopS Fw.setK Fw.setQ Fw.giveK Fw.scalK Fw.gcK Fw.finish Fw.finS Fw.rfunK Fw.yldK Fw.yldB Fw.loopK
section
set_option maxHeartbeats 4000000
namespace Fw
open Go

/-! the acts of a shot -/
abbrev x1 : ActI := ⟨0, kInsert, 0, 0, 0, 0⟩
abbrev x2 : ActI := ⟨0, kInsert, 1, 0, 0, 0⟩
abbrev x3 : ActI := ⟨1, kArm, 0, 0, 0, 0⟩
abbrev x4 : ActI := ⟨5, kShoot, 0, 0, 0, 0⟩
abbrev xm (t a b c : Int) : ActI := ⟨t, kMeasure, 0, a, b, c⟩
def sS1 : StaI := ⟨0, false, false, false, false, false, false, false, false, true, false, 0, false, -1, 0⟩
def sS2 : StaI := ⟨0, false, false, false, false, false, false, false, false, true, true, 0, false, -1, 0⟩
def sS3 : StaI := ⟨1, false, false, false, false, false, false, false, false, true, true, 0, true, -1, 0⟩
def sS4 : StaI := ⟨5, false, false, false, false, false, false, false, false, true, true, 0, false, 5, -1⟩
def sSm (t adm : Int) : StaI := ⟨t, false, false, false, false, false, false, false, false, true, true, 0, false, 5, adm⟩
theorem r1 : (reaL bgS x1).length = 0 := by decide
theorem r2 : (reaL sS1 x2).length = 0 := by decide
theorem r3 : (reaL sS2 x3).length = 0 := by decide
theorem r4 : (reaL sS3 x4).length = 0 := by decide
theorem r5 (a b c : Int) : (reaL sS4 (xm 9 a b c)).length = 0 := by rw [reaL_nil]; simp [stB, armB, dooB, peoB, keyR, waiB, sS4]
theorem r6 (m a b c : Int) : (reaL (sSm 9 m) (xm 30 a b c)).length = 0 := by rw [reaL_nil]; simp [stB, armB, dooB, peoB, keyR, waiB, sSm]
theorem a1 (base W : Int) : aftS base W bgS x1 = sS1 := by simp [aftS, bgS, sS1, setY]
theorem a2 (base W : Int) : aftS base W sS1 x2 = sS2 := by simp [aftS, sS1, sS2, setY]
theorem a3 (base W : Int) : aftS base W sS2 x3 = sS3 := by simp [aftS, sS2, sS3]
theorem a4 (base W : Int) : aftS base W sS3 x4 = sS4 := by simp [aftS, sS3, sS4]
theorem a5 (base W a b c : Int) : aftS base W sS4 (xm 9 a b c) = sSm 9 (max (5 + base) (9 + W)) := by simp [aftS, sS4, sSm]
theorem a6 (base W m a b c : Int) : aftS base W (sSm 9 m) (xm 30 a b c) = sSm 30 (max (5 + base) (30 + W)) := by simp [aftS, sSm]
/-! moves -/
theorem mem_mvF (l : List Int) (g : List (Int × Int)) (v : Int) : ∀ k, v ∈ mvF l g k ↔ ∃ j : Nat, j < k ∧ v = (j : Int) + 1 ∧ l.getD (j + 1) 0 ≠ l.getD j 0 ∧ freF g (j + 1) g.length = false := by
 intro k
 induction k with
 | zero => simp [mvF]
 | succ k ih =>
  simp only [mvF]
  constructor
  ·intro h
   split at h
   ·rename_i c
    rcases List.mem_append.1 h with h | h
    ·obtain ⟨j, h1, h2⟩ := ih.1 h
     exact ⟨j, by omega, h2⟩
    ·have e : v = (k : Int) + 1 := by simpa using h
     exact ⟨k, by omega, e, c.1, c.2⟩
   ·obtain ⟨j, h1, h2⟩ := ih.1 h
    exact ⟨j, by omega, h2⟩
  ·rintro ⟨j, h1, h2, h3, h4⟩
   by_cases e : j = k
   ·subst e
    rw [if_pos ⟨h3, h4⟩]
    simp [h2]
   ·have hm := ih.2 ⟨j, by omega, h2, h3, h4⟩
    split
    ·exact List.mem_append.2 (.inl hm)
    ·exact hm
end Fw
end

section
set_option maxHeartbeats 8000000
namespace Fw
open Go

theorem m50 : c50 = firstC := rfl
def ivE (lo hi : Int) (x : Int × Int) : Int := firstE [rangeE lo hi x.1, rangeE lo hi x.2, whenE (decide (x.2 < x.1)) 11]

end Fw
end

section
set_option maxHeartbeats 8000000
namespace Fw
open Go

theorem m82 : c82 = mapC (.p (.int .i64 0)) 8 := rfl

end Fw
end

section
set_option maxHeartbeats 8000000
namespace Fw
open Go

/-! the reference -/

end Fw
end

section
set_option maxHeartbeats 8000000
namespace Fw
open Go

structure Fit (c : List (Int × Int)) (p : List Int) : Prop where
 len : p.length = c.length
 small : c.length ≤ 64
 corr : ∀ x ∈ c, 0 ≤ x.1 ∧ x.1 ≤ 10000 ∧ 0 ≤ x.2 ∧ x.2 ≤ 10000 ∧ x.1 ≤ x.2
 acc : ∀ a ∈ p, -100000 ≤ a ∧ a ≤ 100000

/-! the reference -/

/-! the errors, read -/

theorem rangeE_zero {lo hi n : Int} : rangeE lo hi n = 0 ↔ lo ≤ n ∧ n ≤ hi := by
 unfold rangeE
 split <;> omega

theorem whenE_zero {b : Bool} {e : Int} (he : e ≠ 0) : whenE b e = 0 ↔ b = false := by
 cases b <;> simp [whenE, he]

theorem ivE_zero {lo hi : Int} {x : Int × Int} : ivE lo hi x = 0 ↔ lo ≤ x.1 ∧ x.1 ≤ hi ∧ lo ≤ x.2 ∧ x.2 ≤ hi ∧ x.1 ≤ x.2 := by
 simp [ivE, firstE_zero, whenE_zero, rangeE_zero, and_assoc]

/-! Excess and Inside -/

end Fw
end

section
set_option maxHeartbeats 16000000
namespace Fw
open Go

def inB (g : List (Int × Int)) (v : Int) : Bool := g.any fun p => decide (p.1 ≤ v) && decide (v < p.2)
theorem fre_take (g : List (Int × Int)) (v : Int) : ∀ k, k ≤ g.length → freF g v k = inB (g.take k) v
 | 0, _ => by simp [freF, inB]
 | k + 1, hk => by
  have ih := fre_take g v k (by omega)
  have e : g.getD k (0, 0) = g[k] := by simp [List.getD_eq_getElem?_getD, List.getElem?_eq_getElem (show k < g.length by omega)]
  rw [List.take_succ_eq_append_getElem (by omega)]
  simp only [freF, ih, e, inB, List.any_append, List.any_cons, List.any_nil, Bool.or_false]
theorem fre_in (g : List (Int × Int)) (v : Int) : freF g v g.length = inB g v := by
 rw [fre_take g v g.length (Nat.le_refl _), List.take_of_length_le (Nat.le_refl _)]

theorem mvF_inc (l : List Int) (g : List (Int × Int)) : ∀ k, (∀ v ∈ mvF l g k, v ≤ k) ∧ ∀ i, i + 1 < (mvF l g k).length → (mvF l g k).getD i 0 < (mvF l g k).getD (i + 1) 0
 | 0 => ⟨fun v hv => by simp [mvF] at hv, fun i hi => by simp [mvF] at hi⟩
 | k + 1 => by
  obtain ⟨h1, h2⟩ := mvF_inc l g k
  simp only [mvF]
  split
  ·refine ⟨fun v hv => ?_, fun i hi => ?_⟩
   ·rcases List.mem_append.1 hv with q | q
    ·have := h1 v q; omega
    ·have : v = (k : Int) + 1 := by simpa using q
     omega
   ·simp only [List.length_append, List.length_singleton] at hi
    have e0 : (mvF l g k ++ [(k : Int) + 1]).getD i 0 = (mvF l g k).getD i 0 := by
     simp [List.getD_eq_getElem?_getD, List.getElem?_append_left (show i < (mvF l g k).length by omega)]
    rw [e0]
    by_cases hi2 : i + 1 < (mvF l g k).length
    ·have e1 : (mvF l g k ++ [(k : Int) + 1]).getD (i + 1) 0 = (mvF l g k).getD (i + 1) 0 := by
      simp [List.getD_eq_getElem?_getD, List.getElem?_append_left hi2]
     rw [e1]
     exact h2 i hi2
    ·have e : i + 1 = (mvF l g k).length := by omega
     have e1 : (mvF l g k ++ [(k : Int) + 1]).getD (i + 1) 0 = (k : Int) + 1 := by
      rw [e]
      simp [List.getD_eq_getElem?_getD]
     rw [e1]
     have hm : (mvF l g k).getD i 0 ∈ mvF l g k := by
      rw [List.getD_eq_getElem?_getD, List.getElem?_eq_getElem (show i < (mvF l g k).length by omega)]
      exact List.getElem_mem _
     have := h1 _ hm
     omega
  ·exact ⟨fun v hv => by have := h1 v hv; omega, h2⟩
theorem inc_at {L : List Int} (h : ∀ i, i + 1 < L.length → L.getD i 0 < L.getD (i + 1) 0) : ∀ i, i < L.length → L.getD 0 0 + i ≤ L.getD i 0
 | 0, _ => by simp
 | i + 1, hi => by
  have := inc_at h i (by omega)
  have := h i hi
  omega
theorem getD_mem' {l : List Int} {j : Nat} (h : j < l.length) : l.getD j 0 ∈ l := by
 rw [List.getD_eq_getElem?_getD, List.getElem?_eq_getElem h]
 exact List.getElem_mem h
theorem mem_getD' {l : List Int} {x : Int} (h : x ∈ l) : ∃ j, j < l.length ∧ l.getD j 0 = x := by
 obtain ⟨j, hj, rfl⟩ := List.getElem_of_mem h
 exact ⟨j, hj, by simp [List.getD_eq_getElem?_getD, hj]⟩

def trL (s b : Nat) : List Int := (List.range (s + b + 3)).map fun (t : Nat) => max 0 (min ((t : Int) - s) b)
theorem trL_length (s b : Nat) : (trL s b).length = s + b + 3 := by simp [trL]
theorem trL_getD (s b : Nat) {j : Nat} (h : j < s + b + 3) : (trL s b).getD j 0 = max 0 (min ((j : Int) - s) b) := by
 simp [trL, List.getD_eq_getElem?_getD, h]
theorem moved_facts {g : List (Int × Int)} {s cell b : Nat} (hcb : cell ≤ b) (hin : ∀ c, c < cell → inB g ((s : Int) + c) = true) (hout : inB g ((s : Int) + cell) = false) :
  (∀ v ∈ mvF (trL s b) g (s + b + 2), (s : Int) + cell ≤ v ∧ v ≤ s + b) ∧ ((mvF (trL s b) g (s + b + 2)).length : Int) ≤ b - cell + 1 ∧ (0 < cell → 0 < (mvF (trL s b) g (s + b + 2)).length ∧ (mvF (trL s b) g (s + b + 2)).getD 0 0 = s + cell) := by
 obtain ⟨_, hinc⟩ := mvF_inc (trL s b) g (s + b + 2)
 have hm := fun v => mem_mvF (trL s b) g v (s + b + 2)
 have hall : ∀ v ∈ mvF (trL s b) g (s + b + 2), (s : Int) + cell ≤ v ∧ v ≤ s + b := fun v hv => by
  obtain ⟨j, hj, rfl, h1, h2⟩ := (hm v).1 hv
  rw [trL_getD s b (by omega), trL_getD s b (by omega)] at h1
  rw [fre_in] at h2
  have hr : (s : Int) + 1 ≤ j + 1 ∧ (j : Int) + 1 ≤ s + b := by omega
  refine ⟨?_, hr.2⟩
  rcases Int.lt_or_le ((j : Int) + 1) ((s : Int) + cell) with hl | hl
  ·have hc := hin (j + 1 - s) (by omega)
   have e : (s : Int) + ((j + 1 - s : Nat) : Int) = (j : Int) + 1 := by omega
   rw [e] at hc
   have h2' : inB g ((j : Int) + 1) = false := by
    have : ((j + 1 : Nat) : Int) = (j : Int) + 1 := by omega
    simpa [this] using h2
   rw [hc] at h2'
   cases h2'
  ·exact hl
 refine ⟨hall, ?_, fun h0 => ?_⟩
 ·generalize mvF (trL s b) g (s + b + 2) = L at *
  by_cases hl : L.length = 0
  ·omega
  ·have h1 := inc_at hinc (L.length - 1) (by omega)
   have h2 := hall _ (getD_mem' (l := L) (j := 0) (by omega))
   have h3 := hall _ (getD_mem' (l := L) (j := L.length - 1) (by omega))
   omega
 ·have hmem : (s : Int) + cell ∈ mvF (trL s b) g (s + b + 2) := by
   refine (hm _).2 ⟨s + cell - 1, by omega, by omega, ?_, ?_⟩
   ·rw [trL_getD s b (by omega), trL_getD s b (by omega)]
    omega
   ·rw [fre_in]
    have : ((s + cell - 1 : Nat) : Int) + 1 = s + cell := by omega
    rw [this]
    exact hout
  generalize mvF (trL s b) g (s + b + 2) = L at *
  obtain ⟨j, hj, e⟩ := mem_getD' hmem
  have h1 := inc_at hinc j hj
  have h2 := hall _ (getD_mem' (l := L) (j := 0) (by omega))
  exact ⟨by omega, by omega⟩

/-! spans that are in order -/
structure SpOk (g : List (Int × Int)) (m : Int) : Prop where
 one : ∀ i, i < g.length → 0 ≤ (g.getD i (0, 0)).1 ∧ (g.getD i (0, 0)).1 < (g.getD i (0, 0)).2 ∧ (g.getD i (0, 0)).2 ≤ m
 two : ∀ i, i + 1 < g.length → (g.getD i (0, 0)).2 ≤ (g.getD (i + 1) (0, 0)).1
theorem SpOk.mono {g : List (Int × Int)} {m n : Int} (h : SpOk g m) (hm : m ≤ n) : SpOk g n := ⟨fun i hi => by have := h.one i hi; omega, h.two⟩
theorem SpOk.snoc {g : List (Int × Int)} {a b : Int} (h : SpOk g a) (h0 : 0 ≤ a) (hab : a < b) : SpOk (g ++ [(a, b)]) b := by
 have e0 : ∀ i, i < g.length → (g ++ [(a, b)]).getD i (0, 0) = g.getD i (0, 0) := fun i hi => by simp [List.getD_eq_getElem?_getD, List.getElem?_append_left hi]
 have e1 : (g ++ [(a, b)]).getD g.length (0, 0) = (a, b) := by simp [List.getD_eq_getElem?_getD]
 refine ⟨fun i hi => ?_, fun i hi => ?_⟩
 ·simp only [List.length_append, List.length_singleton] at hi
  by_cases hl : i < g.length
  ·rw [e0 i hl]
   have := h.one i hl
   omega
  ·obtain rfl : i = g.length := by omega
   rw [e1]
   exact ⟨h0, hab, Int.le_refl _⟩
 ·simp only [List.length_append, List.length_singleton] at hi
  rw [e0 i (by omega)]
  by_cases hl : i + 1 < g.length
  ·rw [e0 _ hl]
   exact h.two i hl
  ·have : i + 1 = g.length := by omega
   rw [this, e1]
   exact (h.one i (by omega)).2.2
theorem SpOk.init {g : List (Int × Int)} {x : Int × Int} {m : Int} (h : SpOk (g ++ [x]) m) : SpOk g x.1 := by
 have e0 : ∀ i, i < g.length → (g ++ [x]).getD i (0, 0) = g.getD i (0, 0) := fun i hi => by simp [List.getD_eq_getElem?_getD, List.getElem?_append_left hi]
 have e1 : (g ++ [x]).getD g.length (0, 0) = x := by simp [List.getD_eq_getElem?_getD]
 have two : ∀ i, i + 1 < g.length → (g.getD i (0, 0)).2 ≤ (g.getD (i + 1) (0, 0)).1 := fun i hi => by
  have := h.two i (by simp; omega)
  rwa [e0 i (by omega), e0 (i + 1) hi] at this
 have last : ∀ d i, i + d + 1 = g.length → (g.getD i (0, 0)).2 ≤ x.1 := by
  intro d
  induction d with
  | zero =>
   intro i hi
   have := h.two i (by simp; omega)
   rw [e0 i (by omega), show i + 1 = g.length by omega, e1] at this
   exact this
  | succ d ih =>
   intro i hi
   have h1 := ih (i + 1) (by omega)
   have h2 := two i (by omega)
   have h3 := h.one (i + 1) (by simp; omega)
   rw [e0 (i + 1) (by omega)] at h3
   omega
 refine ⟨fun i hi => ?_, two⟩
 have h1 := h.one i (by simp; omega)
 rw [e0 i hi] at h1
 have := last (g.length - 1 - i) i (by omega)
 omega
theorem SpOk.touch {g : List (Int × Int)} {a b : Int} (h : SpOk g a) (h0 : 0 ≤ a) (hab : a ≤ b) : SpOk (touchF g a b) b := by
 unfold touchF
 split
 ·exact h.mono hab
 ·rename_i hb
  split
  ·rename_i hq
   obtain ⟨hne, he⟩ := hq
   obtain ⟨p, x, rfl⟩ : ∃ p x, g = p ++ [x] := ⟨g.dropLast, g.getLast hne, (List.dropLast_concat_getLast hne).symm⟩
   have e1 : (p ++ [x]).getLastD (0, 0) = x := by simp
   have e2 : (p ++ [x]).getD p.length (0, 0) = x := by simp [List.getD_eq_getElem?_getD]
   have h1 := h.one p.length (by simp)
   rw [e2] at h1
   rw [e1, List.dropLast_concat]
   exact h.init.snoc h1.1 (by omega)
  ·exact h.snoc h0 (by omega)
theorem span_ok (P : StaI → Bool) {L : List StaI} (hasc : ∀ i, i + 1 < L.length → (L.getD i zS).tick ≤ (L.getD (i + 1) zS).tick) (h0 : ∀ i, i < L.length → 0 ≤ (L.getD i zS).tick) : ∀ k, k < L.length → SpOk (spanF P L k) (L.getD k zS).tick
 | 0, _ => ⟨fun i hi => by simp [spanF] at hi, fun i hi => by simp [spanF] at hi⟩
 | k + 1, hk => by
  have ih := span_ok P hasc h0 k (by omega)
  have ha := hasc k hk
  simp only [spanF]
  split
  ·exact ih.touch (h0 k (by omega)) ha
  ·exact ih.mono ha
theorem span_all (P : StaI → Bool) (L : List StaI) : spanF P L L.length = spanF P L (L.length - 1) := by
 cases h : L.length with
 | zero => rfl
 | succ n =>
  simp only [Nat.add_sub_cancel, spanF]
  rw [if_neg (by omega)]
theorem spn_of {g : List (Int × Int)} {m : Int} (h : SpOk g m) (hm : m ≤ 100000000) (hl : g.length ≤ 32) : spnE g = 0 := by
 unfold spnE
 rw [if_neg (by omega)]
 refine firstE_zero.2 fun e he => ?_
 obtain ⟨i, hi, rfl⟩ := List.mem_map.1 he
 have hi := List.mem_range.1 hi
 have h1 := h.one i hi
 unfold spn1
 refine firstE_zero.2 fun e he => ?_
 simp only [List.mem_cons, List.not_mem_nil, or_false] at he
 rcases he with rfl | rfl
 ·refine (whenE_zero (by decide)).2 ?_
  simp only [gbad, Bool.or_eq_false_iff, decide_eq_false_iff_not]
  omega
 ·refine (whenE_zero (by decide)).2 ?_
  rw [decide_eq_false_iff_not]
  unfold endG
  by_cases hi0 : i = 0
  ·rw [if_pos hi0]
   omega
  ·rw [if_neg hi0]
   have h2 := h.two (i - 1) (by omega)
   rw [show i - 1 + 1 = i by omega] at h2
   omega
theorem tra_of (s b : Nat) (hs : s + b + 3 ≤ 1024) (hb : b ≤ 100000) : traE (trL s b) = 0 := by
 unfold traE
 rw [trL_length, if_neg (by omega)]
 refine firstE_zero.2 fun e he => ?_
 obtain ⟨x, hx, rfl⟩ := List.mem_map.1 he
 obtain ⟨t, _, rfl⟩ := List.mem_map.1 hx
 exact rangeE_zero.2 (by omega)
end Fw
end

section
set_option maxHeartbeats 16000000
namespace Fw
open Go

def armT : List ActI → Int
 | [] => -1
 | x :: r => if x.kind = kArm then x.tick else armT r
theorem armT_snoc (x : ActI) : ∀ l : List ActI, (∀ y ∈ l, 0 ≤ y.tick) → armT (l ++ [x]) = if armT l < 0 then (if x.kind = kArm then x.tick else -1) else armT l
 | [], _ => by simp [armT]
 | y :: r, h => by
  have h0 := h y (by simp)
  have ih := armT_snoc x r (fun z hz => h z (by simp [hz]))
  simp only [List.cons_append, armT]
  split
  ·rw [if_neg (by omega)]
  ·exact ih
theorem armT_neg : ∀ l : List ActI, (∀ y ∈ l, 0 ≤ y.tick) → (armT l < 0 ↔ ∀ y ∈ l, y.kind ≠ kArm)
 | [], _ => by simp [armT]
 | y :: r, h => by
  have h0 := h y (by simp)
  have ih := armT_neg r (fun z hz => h z (by simp [hz]))
  simp only [armT]
  split
  ·rename_i hk
   constructor
   ·intro h'; omega
   ·intro h'; exact absurd hk (h' y (by simp))
  ·rename_i hk
   rw [ih]
   constructor
   ·intro h' z hz
    rcases List.mem_cons.1 hz with rfl | q
    ·exact hk
    ·exact h' z q
   ·intro h' z hz
    exact h' z (by simp [hz])
theorem armT_or : ∀ l : List ActI, (∀ y ∈ l, 0 ≤ y.tick) → armT l = -1 ∨ 0 ≤ armT l
 | [], _ => .inl rfl
 | y :: r, h => by
  have h0 := h y (by simp)
  have ih := armT_or r (fun z hz => h z (by simp [hz]))
  simp only [armT]
  split
  ·exact .inr h0
  ·exact ih
theorem armT_in : ∀ l : List ActI, ¬ armT l < 0 → ∃ y ∈ l, y.tick = armT l
 | [], h => absurd (show armT [] < 0 by simp [armT]) h
 | y :: r, h => by
  simp only [armT] at h ⊢
  split
  ·exact ⟨y, by simp, rfl⟩
  ·rename_i hk
   rw [if_neg hk] at h
   obtain ⟨z, hz, e⟩ := armT_in r h
   exact ⟨z, by simp [hz], e⟩
theorem setO_armed (s : StaI) (n : Int) (b : Bool) : (setO s n b).armed = s.armed := by
 unfold setO
 repeat' split
 all_goals rfl
theorem setY_armed (s : StaI) (n : Int) (b : Bool) : (setY s n b).armed = s.armed := by
 unfold setY
 split <;> rfl
theorem aft_armed {s : StaI} {x : ActI} (hs : s.armed = false) (hx : x.kind ≠ kArm) (base W : Int) : (aftS base W s x).armed = false := by
 unfold aftS
 by_cases h1 : x.kind = kOpen
 ·rw [if_pos h1, setO_armed]; exact hs
 ·by_cases h2 : x.kind = kClose
  ·rw [if_neg h1, if_pos h2, setO_armed]; exact hs
  ·by_cases h3 : x.kind = kInsert
   ·rw [if_neg h1, if_neg h2, if_pos h3, setY_armed]; exact hs
   ·by_cases h4 : x.kind = kRemove
    ·rw [if_neg h1, if_neg h2, if_neg h3, if_pos h4, setY_armed]; exact hs
    ·rw [if_neg h1, if_neg h2, if_neg h3, if_neg h4]
     repeat' split
     all_goals first | exact hs | rfl | (rename_i q; exact absurd q hx) | skip
     all_goals simp_all
theorem run_unarmed (base : Int) (W : ActI → Int) : ∀ (l : List ActI) (s : StaI), s.armed = false → (∀ y ∈ l, y.kind ≠ kArm) → ∀ t ∈ (runG base W s l).1, t.armed = false
 | [], s, _, _, t, ht => by simp [runG] at ht
 | x :: r, s, hs, hx, t, ht => by
  have ha := aft_armed hs (hx x (by simp)) base (W x)
  simp only [runG] at ht
  split at ht
  ·rcases List.mem_cons.1 ht with rfl | q
   ·exact ha
   ·exact run_unarmed base W r _ ha (fun y hy => hx y (by simp [hy])) t q
  ·cases ht
theorem span_none (L : List StaI) (h : ∀ t ∈ L, t.armed = false) : ∀ k, k ≤ L.length → spanF armP L k = []
 | 0, _ => rfl
 | k + 1, hk => by
  have ih := span_none L h k (by omega)
  have e : L.getD k zS = L[k] := by simp [List.getD_eq_getElem?_getD, List.getElem?_eq_getElem (show k < L.length by omega)]
  have ha : armP (L.getD k zS) = false := by rw [e]; exact h _ (List.getElem_mem _)
  simp only [spanF, ha, ih]
  rfl
theorem armed_none {h : HallI} {l : List ActI} (hx : ∀ y ∈ l, y.kind ≠ kArm) : spanF armP (runH h l).1 (runH h l).1.length = [] :=
 span_none _ (run_unarmed h.base (wP h) l bgS rfl hx) _ (Nat.le_refl _)

theorem first_not (P : Nat → Bool) : ∀ N, P N = false → ∃ c, c ≤ N ∧ P c = false ∧ ∀ k, k < c → P k = true
 | 0, h => ⟨0, Nat.le_refl _, h, fun k hk => absurd hk (by omega)⟩
 | N + 1, h => by
  by_cases hp : ∃ k, k ≤ N ∧ P k = false
  ·obtain ⟨k, hk, hpk⟩ := hp
   have : ∃ c, c ≤ k ∧ P c = false ∧ ∀ j, j < c → P j = true := by
    clear h
    induction k using Nat.strongRecOn with
    | _ k ih =>
     by_cases hq : ∃ j, j < k ∧ P j = false
     ·obtain ⟨j, hj, hpj⟩ := hq
      obtain ⟨c, h1, h2, h3⟩ := ih j hj (by omega) hpj
      exact ⟨c, by omega, h2, h3⟩
     ·refine ⟨k, Nat.le_refl _, hpk, fun j hj => ?_⟩
      cases hb : P j with
      | true => rfl
      | false => exact absurd ⟨j, hj, hb⟩ hq
   obtain ⟨c, h1, h2, h3⟩ := this
   exact ⟨c, by omega, h2, h3⟩
  ·refine ⟨N + 1, Nat.le_refl _, h, fun k hk => ?_⟩
   cases hb : P k with
   | true => rfl
   | false => exact absurd ⟨k, by omega, hb⟩ hp
theorem aft_tick (base W : Int) (s : StaI) (x : ActI) : (aftS base W s x).tick = x.tick := by
 unfold aftS
 repeat' split
 all_goals first | rfl | (rw [setO_tick]) | (rw [setY_tick])
theorem run_ticks (base : Int) (W : ActI → Int) (m : Int) : ∀ (l : List ActI) (s : StaI), (∀ y ∈ l, 0 ≤ y.tick ∧ y.tick ≤ m) → ∀ t ∈ (runG base W s l).1, 0 ≤ t.tick ∧ t.tick ≤ m
 | [], s, _, t, ht => by simp [runG] at ht
 | x :: r, s, hx, t, ht => by
  have ha : (aftS base (W x) s x).tick = x.tick := aft_tick base (W x) s x
  simp only [runG] at ht
  split at ht
  ·rcases List.mem_cons.1 ht with rfl | q
   ·rw [ha]
    exact hx x (by simp)
   ·exact run_ticks base W m r _ (fun y hy => hx y (by simp [hy])) t q
  ·cases ht
end Fw
end

section
set_option maxHeartbeats 16000000
set_option maxRecDepth 8000
namespace Fw
open Go

abbrev hB (h : HallI) : Obj := .box [iv h.doors, iv h.base, csl h.t0, csl h.t1, csl h.t2]
abbrev o9 (h : HallI) (D : List ActI) (S : StaI) : Sto := [(2, .arr (sc S) 0 1), (1, .arr (rowC ac D) D.length 6), (0, hB h)]
abbrev e9 (n : Nat) (held : Bool) (fr : Int) (sh : Int) (l : List ActI) (i : Int) : Env := [(2, .ptr 0 0 0), (5, .sl 1 n 0 n), (6, .ptr 2 0 0), (7, bl held), (8, iv fr), (9, iv sh), (48, asl l), (49, iv l.length), (50, iv i)]
abbrev f9 (n : Nat) (held : Bool) (fr : Int) (sh : Int) (l : List ActI) (i : Int) (tl : Env) : Env := (2, .ptr 0 0 0) :: (5, .sl 1 n 0 n) :: (6, .ptr 2 0 0) :: (7, bl held) :: (8, iv fr) :: (9, iv sh) :: (11, .ptr 3 0 0) :: (16, .ptr 5 0 0) :: (48, asl l) :: (49, iv l.length) :: (50, iv i) :: tl

end Fw
end

section
set_option maxHeartbeats 8000000
namespace Fw
open Go

theorem when78 {n : Nat} (hn : 1 ≤ n) (b : Bool) (e : Int) : RUN n 78 [.p (.bool b), iv e] = .ret (iv (whenE b e)) := by
 obtain ⟨d, rfl⟩ : ∃ d, n = d + 1 := ⟨n - 1, by omega⟩
 rw [RUN, call_eq fe78 _ rfl]
 cases b <;> simp [c78, whenE]
theorem within117 {n : Nat} (hn : 2 ≤ n) (x lo hi : Int) : RUN n 117 [iv x, iv lo, iv hi] = .ret (iv (rangeE lo hi x)) := by
 obtain ⟨d, rfl⟩ : ∃ d, n = d + 2 := ⟨n - 2, by omega⟩
 rw [RUN, call_eq fe117 _ rfl]
 have hw := fun b e => when78 (n := d + 1) (by omega) b e
 by_cases h1 : x < lo <;> by_cases h2 : hi < x <;> simp [c117, h1, h2, hw, whenE, rangeE]
theorem m73 : c73 = firstC := rfl
theorem first73 {n : Nat} (hn : 1 ≤ n) (l : List Int) (hl : l.length < 1000000) : RUN n 73 [.p (.sl (pI l) l.length)] = .ret (iv (firstE l)) := by
 obtain ⟨d, rfl⟩ : ∃ d, n = d + 1 := ⟨n - 1, by omega⟩
 exact first_ok (m73 ▸ fe73) (fun _ => rfl) l hl

theorem first73_2 {n : Nat} (hn : 1 ≤ n) (a b : Int) : RUN n 73 [.p (.sl [.int .i64 a, .int .i64 b] 2)] = .ret (iv (firstE [a, b])) := first73 hn [a, b] (by simp)
theorem first73_3 {n : Nat} (hn : 1 ≤ n) (a b c : Int) : RUN n 73 [.p (.sl [.int .i64 a, .int .i64 b, .int .i64 c] 3)] = .ret (iv (firstE [a, b, c])) := first73 hn [a, b, c] (by simp)
theorem first73_4 {n : Nat} (hn : 1 ≤ n) (a b c e : Int) : RUN n 73 [.p (.sl [.int .i64 a, .int .i64 b, .int .i64 c, .int .i64 e] 4)] = .ret (iv (firstE [a, b, c, e])) := first73 hn [a, b, c, e] (by simp)
theorem interval116 {n : Nat} (hn : 3 ≤ n) (x : Int × Int) (lo hi : Int) : RUN n 116 [.agg [iv x.1, iv x.2], iv lo, iv hi] = .ret (iv (ivE lo hi x)) := by
 obtain ⟨d, rfl⟩ : ∃ d, n = d + 3 := ⟨n - 3, by omega⟩
 rw [RUN, call_eq fe116 _ rfl]
 simp [c116, within117 (n := d + 2), when78 (n := d + 2), first73_3 (n := d + 2), ivE]

theorem ends113 {n : Nat} (hn : 3 ≤ n) (x : Int × Int) (lo hi : Int) : RUN n 113 [.agg [iv x.1, iv x.2], iv lo, iv hi] = .ret (iv (ivE lo hi x)) := by
 obtain ⟨d, rfl⟩ : ∃ d, n = d + 3 := ⟨n - 3, by omega⟩
 rw [RUN, call_eq fe113 _ rfl]
 simp [c113, range44 (n := d + 2), when47 (n := d + 2), first43_3 (n := d + 2), ivE]
theorem m121 : c121 = mapC (.p (.int .i64 0)) 8 := rfl

theorem fc121 : F 121 = some (mapC (.p (.int .i64 0)) 8) := m121 ▸ fe121

end Fw
end

section
set_option maxHeartbeats 8000000
namespace Fw
open Go

theorem pI_mapB (l : List Int) (g : Int → Int) : (pI l).map (fun c => match c with | .int .i64 n => .int .i64 (g n) | c => c) = pI (l.map g) := by
 simp [pI]
theorem pI_setB (l : List Int) (k : Nat) (v : Int) : (pI l).set k (.int .i64 v) = pI (l.set k v) := by
 simp [pI, List.map_set]
theorem getD_i {l : List Int} {i : Nat} (h : i < l.length) : l.getD i 0 = l[i] := by simp [List.getD_eq_getElem?_getD, List.getElem?_eq_getElem h]
theorem interval109' {n : Nat} (hn : 3 ≤ n) (a b lo hi : Int) : RUN n 116 [.agg [iv a, iv b], iv lo, iv hi] = .ret (iv (ivE lo hi (a, b))) := interval116 hn (a, b) lo hi
theorem ends103' {n : Nat} (hn : 3 ≤ n) (a b lo hi : Int) : RUN n 113 [.agg [iv a, iv b], iv lo, iv hi] = .ret (iv (ivE lo hi (a, b))) := ends113 hn (a, b) lo hi

/-! numbers in a range -/
def rangesE (lo hi : Int) (l : List Int) : Int := firstE (l.map (rangeE lo hi))
theorem rangesE_zero {lo hi : Int} {l : List Int} : rangesE lo hi l = 0 ↔ ∀ x ∈ l, lo ≤ x ∧ x ≤ hi := by
 unfold rangesE
 rw [firstE_zero]
 simp only [List.mem_map, forall_exists_index, and_imp, forall_apply_eq_imp_iff₂, rangeE_zero]

theorem range122 {n : Nat} (hn : 3 ≤ n) (x lo hi : Int) : RUN n 122 [iv x, .p (.pp [.int .i64 lo]), .p (.pp [.int .i64 hi])] = .ret (iv (rangeE lo hi x)) := by
 obtain ⟨d, rfl⟩ : ∃ d, n = d + 3 := ⟨n - 3, by omega⟩
 rw [RUN, call_eq fe122 _ rfl]
 have h := within117 (n := d + 2) (by omega) x lo hi
 simp -implicitDefEqProofs [c122, h]

theorem map121 {n : Nat} (hn : 4 ≤ n) (l : List Int) (lo hi : Int) (hl : l.length < 1000000) : RUN n 121 [isl l, .p (.clo 122 [] [.pp [.int .i64 lo], .pp [.int .i64 hi]])] = .ret (.own (pI (l.map (rangeE lo hi))) l.length 1) := by
 obtain ⟨d, rfl⟩ : ∃ d, n = d + 4 := ⟨n - 4, by omega⟩
 have := map_ok (C := C0) (G := G0) (d := d + 3) fc121 (by decide) (fun _ => rfl) (pI l) 122 [.pp [.int .i64 lo], .pp [.int .i64 hi]] (fun c => match c with | .int .i64 n => .int .i64 (rangeE lo hi n) | c => c) (by simpa using hl) (by simp) (fun c hc => by
  obtain ⟨x, hx, rfl⟩ := List.mem_map.1 hc
  refine ⟨?_, rfl⟩
  simp only [nrm_int, List.map_cons, List.map_nil]
  exact range122 (n := d + 3) (by omega) x lo hi)
 rw [pI_mapB, pI_length] at this
 exact this

theorem ranged87 {n : Nat} (hn : 5 ≤ n) (l : List Int) (lo hi : Int) (hl : l.length < 1000000) : RUN n 87 [isl l, iv lo, iv hi] = .ret (iv (rangesE lo hi l)) := by
 obtain ⟨d, rfl⟩ : ∃ d, n = d + 5 := ⟨n - 5, by omega⟩
 rw [RUN, call_eq fe87 _ rfl]
 have h1 := map121 (n := d + 4) (by omega) l lo hi hl
 have h2 := first73 (n := d + 4) (by omega) (l.map (rangeE lo hi)) (by simpa using hl)
 simp only [List.length_map] at h2
 simp -implicitDefEqProofs [c87, h1, h2, rangesE]

theorem ranges112 {n : Nat} (hn : 3 ≤ n) (l : List Int) (lo hi : Int) (hl : l.length < 1000000) : RUN n 112 [isl l, iv lo, iv hi] = .ret (iv (rangesE lo hi l)) := by
 obtain ⟨d, rfl⟩ : ∃ d, n = d + 3 := ⟨n - 3, by omega⟩
 rw [RUN, call_eq fe112 _ rfl]
 let inv : Nat → St := fun i => ⟨[(0, isl l), (1, iv lo), (2, iv hi), (7, iv i)], []⟩
 let e : Nat → Int := fun i => rangeE lo hi (l.getD i 0)
 have hm : rangesE lo hi l = firstE ((List.range l.length).map e) := by
  unfold rangesE
  congr 1
  refine List.ext_getElem (by simp) (fun i h1 h2 => ?_)
  have : i < l.length := by simpa using h1
  simp only [List.getElem_map, List.getElem_range, e, getD_i this]
 have key := loop_first (step := loopS (evFn F C0 G0 (d + 2)) C0 G0 0 false [0, 1, 2, 7] c112L0) inv e l.length (.exit 0, ⟨(inv l.length).env ++ [(12, .p (.bool false))], []⟩) (fun i => (.ret, ⟨[(6, iv (e i))], []⟩))
  (st0 := ⟨[(0, isl l), (1, iv lo), (2, iv hi), (7, iv 0)], []⟩) rfl (fun i hi' => by
   have hlt' : (i : Int) < l.length := by omega
   have hgo : l[i]? = some l[i] := List.getElem?_eq_getElem hi'
   have hei : e i = rangeE lo hi l[i] := by simp only [e, getD_i hi']
   have h1 := range44 (n := d + 2) (by omega) l[i] lo hi
   rw [hei]
   refine ⟨fun hz => ⟨inv (i + 1), ?_, rfl⟩, fun hz => ?_⟩
   ·simp -implicitDefEqProofs [inv, loopS_eq, c112L0, hi', hlt', h1, hz, wrap_succ (i := i) (by omega)]
   ·simp -implicitDefEqProofs [inv, loopS_eq, c112L0, hi', hlt', h1, hz]) (fun i => by simp) (by simp -implicitDefEqProofs [inv, loopS_eq, c112L0]) (by simp) (fuel := loopFuel) (by simp [loopFuel]; omega)
 simp -implicitDefEqProofs [c112]
 rw [hm]
 rcases key with ⟨k1, k2⟩ | ⟨j, hj, k1, k2, k3, _⟩
 ·rw [k1, k2]
  simp -implicitDefEqProofs [inv]
 ·rw [k1, k2]
  simp -implicitDefEqProofs

/-! tows -/
structure TowI where
 pull : List Int
 fl : Int
 fh : Int
 bl : Int
 bh : Int
 wall : Int
abbrev twc (t : TowI) : List PVal := [.sl (pI t.pull) t.pull.length, .int .i64 t.fl, .int .i64 t.fh, .int .i64 t.bl, .int .i64 t.bh, .int .i64 t.wall]
abbrev twl (t : TowI) : List AVal := [isl t.pull, iv t.fl, iv t.fh, iv t.bl, iv t.bh, iv t.wall]
abbrev twa (t : TowI) : AVal := .agg (twl t)

def towE (t : TowI) : Int := firstE [whenE ((t.pull.length : Int) == 0) 12, whenE (decide ((64 : Int) < t.pull.length)) 5, rangesE 0 100000 t.pull, ivE 0 100000 (t.fl, t.fh), ivE 0 100000 (t.bl, t.bh), rangeE 1 t.pull.length t.wall]

structure TowOk (t : TowI) : Prop where
 pos : 0 < t.pull.length
 few : t.pull.length ≤ 64
 pulls : ∀ x ∈ t.pull, 0 ≤ x ∧ x ≤ 100000
 fr : 0 ≤ t.fl ∧ t.fl ≤ t.fh ∧ t.fh ≤ 100000
 br : 0 ≤ t.bl ∧ t.bl ≤ t.bh ∧ t.bh ≤ 100000
 wl : 1 ≤ t.wall ∧ t.wall ≤ t.pull.length

theorem tow_of {t : TowI} (h : towE t = 0) : TowOk t := by
 have hz := firstE_zero.1 h
 have h1 := (whenE_zero (by decide)).1 (hz (whenE ((t.pull.length : Int) == 0) 12) (by simp))
 have h2 := (whenE_zero (by decide)).1 (hz (whenE (decide ((64 : Int) < t.pull.length)) 5) (by simp))
 have h3 := rangesE_zero.1 (hz (rangesE 0 100000 t.pull) (by simp))
 have h4 := ivE_zero.1 (hz (ivE 0 100000 (t.fl, t.fh)) (by simp))
 have h5 := ivE_zero.1 (hz (ivE 0 100000 (t.bl, t.bh)) (by simp))
 have h6 := rangeE_zero.1 (hz (rangeE 1 t.pull.length t.wall) (by simp))
 simp at h1 h2 h4 h5
 exact ⟨by
  have : t.pull.length ≠ 0 := by simpa using h1
  omega, by omega, h3, by omega, by omega, h6⟩

theorem tow65 {n : Nat} (hn : 4 ≤ n) (t : TowI) (hl : t.pull.length < 1000000) : RUN n 65 [twa t] = .ret (iv (towE t)) := by
 obtain ⟨d, rfl⟩ : ∃ d, n = d + 4 := ⟨n - 4, by omega⟩
 rw [RUN, call_eq fe65 _ rfl]
 have h1 := fun b e => when47 (n := d + 3) (by omega) b e
 have h2 := ranges112 (n := d + 3) (by omega) t.pull 0 100000 hl
 have h3 := fun a b lo hi => ends103' (n := d + 3) (by omega) a b lo hi
 have h4 := fun x lo hi => range44 (n := d + 3) (by omega) x lo hi
 have h5 := fun a b c e f g => first43 (n := d + 3) (by omega) [a, b, c, e, f, g] (by simp)
 simp only [pI, List.map_cons, List.map_nil, List.length_cons, List.length_nil] at h5
 simp -implicitDefEqProofs [c65, h1, h2, h3, h4, h5, towE]

theorem tow69 {n : Nat} (hn : 6 ≤ n) (t : TowI) (hl : t.pull.length < 1000000) : RUN n 69 [twa t] = .ret (iv (towE t)) := by
 obtain ⟨d, rfl⟩ : ∃ d, n = d + 6 := ⟨n - 6, by omega⟩
 rw [RUN, call_eq fe69 _ rfl]
 have h1 := fun b e => when78 (n := d + 5) (by omega) b e
 have h2 := ranged87 (n := d + 5) (by omega) t.pull 0 100000 hl
 have h3 := fun a b lo hi => interval109' (n := d + 5) (by omega) a b lo hi
 have h4 := fun x lo hi => within117 (n := d + 5) (by omega) x lo hi
 have h5 := fun a b => first73_2 (n := d + 5) (by omega) a b
 have h6 := fun a b c e => first73_4 (n := d + 5) (by omega) a b c e
 have hs : towE t = if firstE [whenE ((t.pull.length : Int) == 0) 12, whenE (decide ((64 : Int) < t.pull.length)) 5] = 0 then firstE [rangesE 0 100000 t.pull, ivE 0 100000 (t.fl, t.fh), ivE 0 100000 (t.bl, t.bh), rangeE 1 t.pull.length t.wall] else firstE [whenE ((t.pull.length : Int) == 0) 12, whenE (decide ((64 : Int) < t.pull.length)) 5] := by
  simp only [towE, firstE]
  by_cases q1 : whenE ((t.pull.length : Int) == 0) 12 = 0 <;> by_cases q2 : whenE (decide ((64 : Int) < t.pull.length)) 5 = 0 <;> simp [q1, q2]
 rw [hs]
 generalize hE : firstE [whenE ((t.pull.length : Int) == 0) 12, whenE (decide ((64 : Int) < t.pull.length)) 5] = e at *
 by_cases hz : e = 0
 ·simp -implicitDefEqProofs [c69, h1, h2, h3, h4, h5, h6, hE, hz]
 ·have hb : (e != 0) = true := by simpa using hz
  simp -implicitDefEqProofs [c69, h1, h5, hE, hz, hb]

/-! runs -/
def runFB (t : TowI) (f : Int) : Nat → Int
 | 0 => 0
 | i + 1 => max 0 (runFB t f i + t.pull.getD i 0 - f)
def runLB (t : TowI) (f : Int) : List Int := (List.range (t.pull.length + 1)).map (runFB t f)
@[simp] theorem runL_lengthB (t : TowI) (f : Int) : (runLB t f).length = t.pull.length + 1 := by simp [runLB]
theorem runF_in {t : TowI} (h : TowOk t) {f : Int} (hf : 0 ≤ f) : ∀ i, i ≤ t.pull.length → 0 ≤ runFB t f i ∧ runFB t f i ≤ 100000 * (i : Int) := by
 intro i
 induction i with
 | zero => intro _; simp [runFB]
 | succ i ih =>
  intro hi
  have h1 := ih (by omega)
  have h2 := h.pulls _ (List.getElem_mem (show i < t.pull.length by omega))
  simp only [runFB, getD_i (show i < t.pull.length by omega)]
  omega

theorem max2' (a : Int) : maxInt 0 [iv a] = some (max 0 a) := max2 0 a

theorem run77 {n : Nat} (hn : 1 ≤ n) {t : TowI} (h : TowOk t) {f : Int} (hf : 0 ≤ f ∧ f ≤ 100000) : RUN n 77 [twa t, iv f] = .ret (.own (pI (runLB t f)) (t.pull.length + 1) 1) := by
 obtain ⟨d, rfl⟩ : ∃ d, n = d + 1 := ⟨n - 1, by omega⟩
 rw [RUN, call_eq fe77 _ rfl]
 have hfew := h.few
 let L : Nat → List Int := fun i => (List.range (t.pull.length + 1)).map (fun k => if k ≤ i then runFB t f k else 0)
 let inv : Nat → St := fun i => ⟨[(1, iv f), (5, .sl 1 0 0 (t.pull.length + 1)), (14, isl t.pull), (15, iv t.pull.length), (16, iv i)], [(1, .arr (pI (L i)) 0 1), (0, .box (twl t))]⟩
 have h0 : L 0 = List.replicate (t.pull.length + 1) 0 := by
  refine List.ext_getElem (by simp [L]) (fun i h1 h2 => ?_)
  simp only [L, List.getElem_map, List.getElem_range, List.getElem_replicate]
  split
  ·have : i = 0 := by omega
   subst this; rfl
  ·rfl
 have hend : L t.pull.length = runLB t f := by
  refine List.map_congr_left (fun i hi => ?_)
  have := List.mem_range.1 hi
  rw [if_pos (by omega)]
 have hz : List.replicate (t.pull.length + 1) [PVal.int .i64 0] = List.replicate (t.pull.length + 1) [PVal.int .i64 0] := rfl
 have hfl : (List.replicate (t.pull.length + 1) [PVal.int .i64 0]).flatten = pI (L 0) := by
  rw [h0, List.flatten_replicate_singleton]
  simp [pI]
 have w0 := wrap64 (n := (t.pull.length : Int) + 1) (by omega) (by omega)
 have hm1 : (0 : Int) ≤ (t.pull.length : Int) + 1 := by omega
 have hm2 : (t.pull.length : Int) + 1 ≤ (lim : Int) := by simp only [lim]; omega
 have hm3 : ((t.pull.length : Int) + 1).toNat = t.pull.length + 1 := by omega
 simp -implicitDefEqProofs [c77, w0, hm1, hm2, hm3]
 rw [loop_run inv t.pull.length (e := .exit 0) (st' := ⟨(inv t.pull.length).env ++ [(17, .p (.bool false))], (inv t.pull.length).sto⟩) (by simp)]
 ·simp -implicitDefEqProofs [inv, hend]
 ·simp [inv, h0, pI]
 ·intro i hi
  have hlt' : (i : Int) < t.pull.length := by omega
  have hgo : t.pull[i]? = some t.pull[i] := List.getElem?_eq_getElem hi
  have hp := h.pulls _ (List.getElem_mem hi)
  have hb := runF_in h hf.1 i (by omega)
  have hs : runFB t f (i + 1) = max 0 (runFB t f i + t.pull[i] - f) := by simp only [runFB, getD_i hi]
  have w1 := wrap64 (n := runFB t f i + t.pull[i]) (by omega) (by omega)
  have w2 := wrap64 (n := runFB t f i + t.pull[i] - f) (by omega) (by omega)
  have hlen : (L i).length = t.pull.length + 1 := by simp [L]
  have hL : (pI (L i)).set (i + 1) (.int .i64 (max 0 (runFB t f i + t.pull[i] - f))) = pI (L (i + 1)) := by
   rw [← hs, pI_setB]
   congr 1
   refine List.ext_getElem (by simp [L]) (fun k h1 h2 => ?_)
   simp only [List.getElem_set, L, List.getElem_map, List.getElem_range]
   by_cases hk : i + 1 = k
   ·subst hk; simp
   ·rw [if_neg hk]
    by_cases hk2 : k ≤ i
    ·rw [if_pos hk2, if_pos (by omega)]
    ·rw [if_neg hk2, if_neg (by omega)]
  have hg : ∀ q, (L i)[i]'q = runFB t f i := fun q => by simp [L]
  have hi5 : (0 : Int) ≤ (i : Int) + 1 := by omega
  have hi6 : i + 1 ≤ t.pull.length := hi
  have hi3 : (i : Int) < (t.pull.length : Int) + 1 := by omega
  have hi4 : (i : Int) + 1 < (t.pull.length : Int) + 1 := by omega
  have hi1 : i + 1 < t.pull.length + 1 := by omega
  have hi2 : i < t.pull.length + 1 := by omega
  simp -implicitDefEqProofs [inv, loopS_eq, c77L0, hi, hlt', hlen, hg, w1, w2, max2', hL, hi2, hi3, hi4, hi5, hi6, wrap_succ (i := i) (by omega)]
 ·simp -implicitDefEqProofs [inv, loopS_eq, c77L0]
 ·simp [loopFuel]; omega
end Fw
end

section
set_option maxHeartbeats 16000000
namespace Fw
open Go

structure JobI where
 name : List UInt8
 dummy : Int
 crew : Int
 hall : Int
 time : Int
 soak : Int
def jc (x : JobI) : List PVal := [.str x.name, .int .i64 x.dummy, .int .i64 x.crew, .int .i64 x.hall, .int .i64 x.time, .int .i64 x.soak]
abbrev ja (x : JobI) : AVal := .agg [sv x.name, iv x.dummy, iv x.crew, iv x.hall, iv x.time, iv x.soak]
abbrev jsl (l : List JobI) : AVal := .p (.sl (rowC jc l) l.length)
end Fw
end

section
set_option maxHeartbeats 16000000
namespace Fw
open Go

end Fw
end

section
set_option maxHeartbeats 16000000
namespace Fw
open Go

end Fw
end

