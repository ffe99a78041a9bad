/- A run below another one; settings that are learned: plain facts. -/
import Derived.Test.YtombnimlolbekaaGreatDoorPuQ6
set_option maxHeartbeats 4000000
namespace Fw
open Go

theorem tw_len (tick : Int) : ∀ (l u : List (Int × Int)), l.map Prod.fst = u.map Prod.fst → (l.takeWhile fun x => decide (x.1 ≤ tick)).length = (u.takeWhile fun x => decide (x.1 ≤ tick)).length
 | [], u, h => by cases u with
  | nil => rfl
  | cons a r => cases h
 | a :: r, u, h => by
  cases u with
  | nil => cases h
  | cons b q =>
   simp only [List.map_cons, List.cons.injEq] at h
   have ih := tw_len tick r q h.2
   simp only [List.takeWhile_cons, h.1]
   split
   ·simp [ih]
   ·rfl

structure Wider (l u : List (Int × Int)) : Prop where
 len : u.length = l.length
 frm : ∀ i, (u.getD i (0, 0)).1 = (l.getD i (0, 0)).1
 val : ∀ i, (l.getD i (0, 0)).2 ≤ (u.getD i (0, 0)).2

theorem Wider.valve {l u : List (Int × Int)} (h : Wider l u) (tick : Int) : valveP l tick ≤ valveP u tick := by
 have hm : l.map Prod.fst = u.map Prod.fst := by
  refine List.ext_getElem (by simp [h.len]) fun i h1 h2 => ?_
  have a1 : i < l.length := by simpa using h1
  have a2 : i < u.length := by simpa using h2
  have := h.frm i
  simp only [List.getD_eq_getElem?_getD, List.getElem?_eq_getElem a1, List.getElem?_eq_getElem a2, Option.getD_some] at this
  simp [this]
 unfold valveP
 rw [tw_len tick l u hm]
 unfold accF
 split
 ·exact Int.le_refl _
 ·exact h.val _

theorem step_mono {a b w v d : Int} (hd : 1 ≤ d) (hab : a ≤ b) (hwv : w ≤ v) : a + (w - a) / d ≤ b + (v - b) / d := by
 have h1 : (w - a) / d - (b - a) = (w - a + (-(b - a)) * d) / d := by
  rw [Int.add_mul_ediv_right _ _ (by omega)]; omega
 have h2 : (b - a) * 1 ≤ (b - a) * d := Int.mul_le_mul_of_nonneg_left hd (by omega)
 have h3 : w - a + (-(b - a)) * d ≤ v - b := by rw [Int.neg_mul]; omega
 have h4 := Int.ediv_le_ediv (show 0 < d by omega) h3
 omega

theorem wish_mono {s : SledI} {l u : List (Int × Int)} (h : Wider l u) (hl : Valid l) {g f : Int} (hg : 0 ≤ g) (hgf : g ≤ f) (i : Nat) : wishF s l g i ≤ wishF s u f i := by
 unfold wishF
 refine Int.ediv_le_ediv (by decide) ?_
 have h1 := h.valve (max 0 ((i : Int) - s.delay))
 have h2 := valveP_bound hl (max 0 ((i : Int) - s.delay))
 exact Int.mul_le_mul hgf h1 h2.1 (by omega)

theorem run_mono {s : SledI} (hs : SledOk s) {l u : List (Int × Int)} (h : Wider l u) (hl : Valid l) {g f : Int} (hg : 0 ≤ g) (hgf : g ≤ f) : ∀ i, runF s l g i ≤ runF s u f i
 | 0 => Int.le_refl _
 | i + 1 => step_mono hs.lag.1 (run_mono hs h hl hg hgf i) (wish_mono h hl hg hgf i)

theorem Wider.refl (l : List (Int × Int)) : Wider l l := ⟨rfl, fun _ => rfl, fun _ => Int.le_refl _⟩

theorem run_ahead {s : SledI} (hs : SledOk s) {l : List (Int × Int)} (hl : Valid l) {g : Int} (hg : 0 ≤ g) (i : Nat) : runF s l g (i + 1) ≤ max (runF s l g i) g := by
 have hw := wishF_bound (s := s) hl hg i
 have hd := div_between (x := wishF s l g i - runF s l g i) hs.lag.1
 simp only [runF]
 by_cases h : 0 ≤ wishF s l g i - runF s l g i
 ·have := hd.1 h; omega
 ·have := hd.2 (by omega); omega

/-! valves that are opened -/
def openL (l : List (Int × Int)) (x : Int) : List (Int × Int) := l.map fun y => (y.1, min 100 (y.2 + x))
theorem openL_get (l : List (Int × Int)) (x : Int) {i : Nat} (h : i < l.length) : (openL l x).getD i (0, 0) = ((l.getD i (0, 0)).1, min 100 ((l.getD i (0, 0)).2 + x)) := by
 simp [openL, List.getD_eq_getElem?_getD, h]
theorem openL_wider {l : List (Int × Int)} (hl : Valid l) {x : Int} (hx : 0 ≤ x) : Wider l (openL l x) := by
 refine ⟨by simp [openL], fun i => ?_, fun i => ?_⟩
 ·by_cases h : i < l.length
  ·rw [openL_get l x h]
  ·simp [openL, List.getD_eq_getElem?_getD, h]
 ·by_cases h : i < l.length
  ·rw [openL_get l x h]
   have := hl.val i h
   simp only
   omega
  ·simp [openL, List.getD_eq_getElem?_getD, h]
theorem openL_keep {l : List (Int × Int)} (hl : Valid l) {x : Int} (hx : 0 ≤ x) : Keep l (openL l x) := by
 have hw := openL_wider hl hx
 refine ⟨hw.len, hw.frm, fun i h => ?_⟩
 rw [openL_get l x h]
 have := hl.val i h
 simp only
 omega

/-! what is learned -/
theorem learnS_safe {s : SledI} {l c out : List (Int × Int)} {p : List Int} {step : Int} {i : Nat} (h : safeB s out c.length = true) : safeB s (learnS s l c p step i out) c.length = true := by
 unfold learnS
 split
 ·exact h
 ·split
  ·assumption
  ·exact h
theorem outF_safe {s : SledI} {l c : List (Int × Int)} {p : List Int} {step : Int} (h : safeB s l c.length = true) : ∀ i, safeB s (outF s l c p step i) c.length = true
 | 0 => h
 | i + 1 => learnS_safe (outF_safe h i)
theorem learnF_safe {s : SledI} {l c : List (Int × Int)} {gain step : Int} (h : safeB s l c.length = true) : ∀ k, safeB s (learnF s l c gain step k) c.length = true
 | 0 => h
 | k + 1 => outF_safe (learnF_safe h k) _

theorem learnF_from {s : SledI} {l c : List (Int × Int)} {gain step : Int} (h : Valid l) (i : Nat) : ∀ k, ((learnF s l c gain step k).getD i (0, 0)).1 = (l.getD i (0, 0)).1
 | 0 => rfl
 | k + 1 => by
  have hk := learnF_valid (s := s) (c := c) (gain := gain) (step := step) h k
  rw [learnF, (learnedL_keep hk.1).frm i, learnF_from h i k]

theorem outF_later {s : SledI} {l c : List (Int × Int)} {p : List Int} {step : Int} (h : Valid l) : ∀ i, i ≤ l.length → ∀ j, i ≤ j → (outF s l c p step i).getD j (0, 0) = l.getD j (0, 0)
 | 0, _, _, _ => rfl
 | i + 1, hi, j, hj => by
  have ih := outF_later (s := s) (c := c) (p := p) (step := step) h i (by omega) j (by omega)
  have hlen := (outF_keep (s := s) (c := c) (p := p) (step := step) h i (by omega)).len
  simp only [outF, learnS]
  split
  ·exact ih
  ·split
   ·rw [moveL_get _ _ _ _ (by omega), if_neg (by omega), ih]
   ·exact ih

theorem outF_near {s : SledI} {l c : List (Int × Int)} {p : List Int} {step : Int} (h : Valid l) (hst : 0 ≤ step) : ∀ i, i ≤ l.length → ∀ j, j < l.length →
  ((outF s l c p step i).getD j (0, 0)).2 - (l.getD j (0, 0)).2 ≤ step ∧ (l.getD j (0, 0)).2 - ((outF s l c p step i).getD j (0, 0)).2 ≤ step
 | 0, _, j, _ => by simp only [outF]; omega
 | i + 1, hi, j, hj => by
  have ih := outF_near (s := s) (c := c) (p := p) h hst i (by omega) j hj
  have hlen := (outF_keep (s := s) (c := c) (p := p) (step := step) h i (by omega)).len
  simp only [outF, learnS]
  split
  ·exact ih
  ·split
   ·rw [moveL_get _ _ _ _ (by omega)]
    split
    ·rename_i e
     subst e
     rw [outF_later h i (by omega) i (Nat.le_refl _)]
     have hv := h.val i hj
     simp only
     rcases wishI_cases s l c p i with e | e | e <;> rw [e] <;> omega
    ·exact ih
   ·exact ih

theorem learned_near {s : SledI} {l c : List (Int × Int)} {p : List Int} {step : Int} (h : Valid l) (hst : 0 ≤ step) (j : Nat) (hj : j < l.length) :
  max (((learnedL s l c p step).getD j (0, 0)).2 - (l.getD j (0, 0)).2) ((l.getD j (0, 0)).2 - ((learnedL s l c p step).getD j (0, 0)).2) ≤ step := by
 have := outF_near (s := s) (c := c) (p := p) h hst l.length (Nat.le_refl _) j hj
 unfold learnedL
 omega

theorem run_load {s : SledI} (hs : SledOk s) {l : List (Int × Int)} (hl : Valid l) {k : Nat} (h : safeB s l k = true) {g : Int} (hg : 0 ≤ g) (hgh : g ≤ s.high) (j : Nat) (hj : j < k) : runF s l g (j + 1) ≤ s.load :=
 Int.le_trans (run_mono hs (Wider.refl l) hl hg hgh (j + 1)) ((safeB_iff s l k).1 h j hj)

theorem valid_to {l : List (Int × Int)} (h : Valid l) : settingE l = 0 := by
 have hp := h.pos
 have hq := h.small
 unfold settingE
 rw [if_pos (sizedE_zero.2 (by omega))]
 unfold stepsE
 refine firstE_zero.2 fun e he => ?_
 obtain ⟨i, hi, rfl⟩ := List.mem_map.1 he
 rw [List.mem_range] at hi
 have hv := h.val i hi
 refine firstE_zero.2 fun e he => ?_
 simp only [List.mem_cons, List.not_mem_nil, or_false] at he
 rcases he with rfl | rfl | rfl
 ·exact rangeE_zero.2 (by omega)
 ·exact rangeE_zero.2 (by omega)
 ·refine (whenE_zero (by decide)).2 ?_
  unfold apartB
  split
  ·rw [h.zero]; rfl
  ·rw [decide_eq_false_iff_not]
   have := h.inc i (by omega) hi
   omega
end Fw
