/- What is true of stops: plain facts. -/
import Derived.Test.YtfkacogfieiccaaGreatDoorBaL4
set_option maxHeartbeats 4000000
namespace Fw
open Go

theorem runF_nonneg (t : TowI) (f : Int) : ∀ i, 0 ≤ runF t f i
  | 0 => by simp [runF]
  | i + 1 => by simp only [runF]; omega
theorem runF_anti (t : TowI) {f g : Int} (h : f ≤ g) : ∀ i, runF t g i ≤ runF t f i
  | 0 => by simp [runF]
  | i + 1 => by
    have := runF_anti t h i
    simp only [runF]; omega
theorem runF_le (t : TowI) {f : Int} (hf : 0 ≤ f) (hp : ∀ x ∈ t.pull, x ≤ 60) : ∀ i, runF t f i ≤ 60 * (i : Int)
  | 0 => by simp [runF]
  | i + 1 => by
    have h := runF_le t hf hp i
    have h2 : t.pull.getD i 0 ≤ 60 := by
      rw [List.getD_eq_getElem?_getD]
      cases hg : t.pull[i]? with
      | none => simp
      | some x => simpa using hp x (List.mem_of_getElem? hg)
    simp only [runF]; omega

theorem up_le {x den k : Int} (hd : 0 < den) : upI x den ≤ k ↔ x ≤ k * den := by
  unfold upI
  constructor
  · intro h
    have h1 : -k ≤ (-x) / den := by omega
    have h2 := (Int.le_ediv_iff_mul_le hd).1 h1
    rw [Int.neg_mul] at h2; omega
  · intro h
    have h2 : -k * den ≤ -x := by rw [Int.neg_mul]; omega
    have h1 := (Int.le_ediv_iff_mul_le hd).2 h2
    omega

/-- a cell is safe just when its speed is braked before the wall -/
theorem safe_iff {t : TowI} (h : TowOk t) {c : Nat} (hc : (c : Int) ≤ t.wall) : safeB t c = true ↔ runF t t.fl c ≤ (t.wall - c) * (t.bl + t.fl) := by
  have hfr := h.fr
  have hbr := h.br
  have hr := runF_nonneg t t.fl c
  have hprod : 0 ≤ (t.wall - c) * (t.bl + t.fl) := Int.mul_nonneg (by omega) (by omega)
  unfold safeB brA
  by_cases c1 : runF t t.fl c = 0
  · rw [if_pos c1]
    simp only [Bool.and_eq_true, decide_eq_true_eq]
    constructor
    · intro _; omega
    · intro _; exact ⟨trivial, hc⟩
  · rw [if_neg c1]
    by_cases c2 : t.fl + t.bl = 0
    · rw [if_pos c2]
      have : t.bl + t.fl = 0 := by omega
      rw [this]
      simp only [Bool.and_eq_true, decide_eq_true_eq, Int.mul_zero]
      constructor
      · intro h; exact absurd h.1 (by decide)
      · intro h; omega
    · rw [if_neg c2]
      have hd : 0 < t.fl + t.bl := by omega
      have hu := up_le (x := runF t t.fl c) (k := t.wall - c) hd
      rw [Int.add_comm t.bl t.fl]
      simp only [Bool.and_eq_true, decide_eq_true_eq]
      constructor
      · intro h; exact hu.1 (by omega)
      · intro h; have := hu.2 h; exact ⟨trivial, by omega⟩

theorem lead_pre {e : Nat → Int} : ∀ n q, q < lead e n → e q = 0 := by
  intro n
  induction n with
  | zero => intro q h; simp [lead] at h
  | succ n ih =>
    intro q h
    simp only [lead] at h
    split at h
    · rename_i hc
      by_cases hq : q = n
      · subst hq; exact hc.2
      · exact ih q (by omega)
    · exact ih q h
theorem lead_stop {e : Nat → Int} : ∀ n, lead e n < n → e (lead e n) ≠ 0 := by
  intro n
  induction n with
  | zero => intro h; omega
  | succ n ih =>
    intro h
    simp only [lead] at h ⊢
    split at h
    · omega
    · rename_i hc
      rw [if_neg hc]
      by_cases hl : lead e n < n
      · exact ih hl
      · have h2 := lead_le e n
        have h3 : lead e n = n := by omega
        rw [h3]
        exact fun h4 => hc ⟨h3, h4⟩

theorem last_in {t : TowI} (h : TowOk t) : 0 ≤ lastI t ∧ lastI t ≤ t.wall := by
  have hw := h.wl
  have h1 := lead_le (unE t) (t.wall.toNat + 1)
  have h0 : lead (unE t) (t.wall.toNat + 1) ≠ 0 := fun hz => by
    have := lead_stop (e := unE t) (t.wall.toNat + 1) (by omega)
    rw [hz] at this
    exact this (safe_zero h)
  unfold lastI
  omega
theorem last_safe {t : TowI} {c : Nat} (hc : (c : Int) ≤ lastI t) : safeB t c = true := by
  unfold lastI at hc
  have h := lead_pre (e := unE t) (t.wall.toNat + 1) c (by omega)
  unfold unE at h
  split at h
  · assumption
  · exact absurd h (by decide)
theorem last_next {t : TowI} {c : Nat} (hw : (c : Int) ≤ t.wall) (hc : (c : Int) = lastI t + 1) : safeB t c = false := by
  unfold lastI at hc
  have he : c = lead (unE t) (t.wall.toNat + 1) := by omega
  have h := lead_stop (e := unE t) (t.wall.toNat + 1) (by omega)
  rw [← he] at h
  unfold unE at h
  split at h
  · exact absurd rfl h
  · rename_i hs; simpa using hs

theorem tabL_get {t : TowI} (h : TowOk t) {i : Nat} (hi : (i : Int) ≤ t.wall) : (tabL t).getD i 0 = runF t t.fl i := by
  have hw := h.wl
  have hl := tabL_length h
  have h1 : i < (tabL t).length := by omega
  have h2 : i < t.pull.length + 1 := by omega
  rw [List.getD_eq_getElem?_getD, List.getElem?_eq_getElem h1]
  simp [tabL, runL]

/-- the table proves a cell just when all cells up to it are safe -/
theorem prov_iff {t : TowI} (h : TowOk t) {c : Nat} (hc : (c : Int) ≤ t.wall) : provB t (tabL t) c = true ↔ ∀ i, i ≤ c → safeB t i = true := by
  have hw := h.wl
  have hl := tabL_length h
  unfold provB
  have ha : firstE ((List.range ((tabL t).length - 1)).map (e1 t (tabL t))) = 0 := by
    refine firstE_zero.2 fun x hx => ?_
    obtain ⟨i, hi, rfl⟩ := List.mem_map.1 hx
    rw [List.mem_range] at hi
    have g1 := tabL_get h (i := i) (by omega)
    have g2 := tabL_get h (i := i + 1) (by omega)
    simp only [e1, bad1, g1, g2, runF]
    rw [if_neg]
    simp only [decide_eq_true_eq]
    omega
  rw [ha]
  simp only [decide_true, Bool.true_and, decide_eq_true_eq]
  constructor
  · intro hz i hi
    have := all_zero hz i (by omega)
    rw [safe_iff h (by omega)]
    simp only [e2, bad2, tabL_get h (i := i) (by omega)] at this
    split at this
    · exact absurd this (by decide)
    · rename_i hb; simp only [decide_eq_true_eq] at hb; omega
  · intro hs
    refine firstE_zero.2 fun x hx => ?_
    obtain ⟨i, hi, rfl⟩ := List.mem_map.1 hx
    rw [List.mem_range] at hi
    have h1 := (safe_iff h (c := i) (by omega)).1 (hs i (by omega))
    simp only [e2, bad2, tabL_get h (i := i) (by omega)]
    rw [if_neg]
    simp only [decide_eq_true_eq]
    omega

theorem cells_zero {t : TowI} (h : TowOk t) (hp : ∀ x ∈ t.pull, x ≤ 60) {c : Nat} (hc : (c : Int) ≤ t.wall) : cellsE t (tabL t) c = 0 := by
  have hw := h.wl
  have hl := tabL_length h
  have hfr := h.fr
  have hfew := h.few
  unfold cellsE
  have a1 : shapeE t (tabL t) = 0 := by
    unfold shapeE
    have : (((tabL t).length : Int) != t.wall + 1) = false := by simp; omega
    rw [this]; rfl
  have a2 : rangesE 0 100000000 (tabL t) = 0 := by
    refine rangesE_zero.2 fun x hx => ?_
    obtain ⟨i, hi, rfl⟩ := List.getElem_of_mem hx
    have g := tabL_get h (i := i) (by omega)
    rw [List.getD_eq_getElem?_getD, List.getElem?_eq_getElem hi] at g
    simp only [Option.getD_some] at g
    rw [g]
    have r1 := runF_nonneg t t.fl i
    have r2 := runF_le t (f := t.fl) (by omega) hp i
    exact ⟨r1, by omega⟩
  have a3 : cellE t c = 0 := cellE_zero.2 ⟨by omega, hc⟩
  rw [a1, a2, a3]
  rfl

theorem check_is {t : TowI} (h : TowOk t) (hz : towE t = 0) (hp : ∀ x ∈ t.pull, x ≤ 60) {c : Nat} (hc : (c : Int) ≤ t.wall) :
    (checkE t (tabL t) c = 0 ∧ safeB t c = true) ∨ (checkE t (tabL t) c = 19 ∧ lastI t < c) := by
  unfold checkE
  rw [if_pos hz, if_pos (cells_zero h hp hc), Int.toNat_natCast]
  by_cases hb : provB t (tabL t) c = true
  · left
    rw [hb]
    exact ⟨rfl, (prov_iff h hc).1 hb c (Nat.le_refl _)⟩
  · right
    have hb' : provB t (tabL t) c = false := by simpa using hb
    rw [hb']
    refine ⟨rfl, ?_⟩
    by_cases hl : lastI t < c
    · exact hl
    · exact absurd ((prov_iff h hc).2 fun i hi => last_safe (by omega)) hb

theorem stop_safe {t : TowI} (h : TowOk t) {c : Nat} (hc : (c : Int) ≤ t.wall) {f b : Int} (hf : t.fl ≤ f) (hb : t.bl ≤ b) (hs : safeB t c = true) : (brA t c f b).2 = 0 ∧ (brA t c f b).1 ≤ t.wall := by
  have hfr := h.fr
  have hbr := h.br
  have hr := runF_nonneg t f c
  have ha := runF_anti t hf c
  have h1 := (safe_iff h hc).1 hs
  unfold brA
  by_cases c1 : runF t f c = 0
  · rw [if_pos c1]; exact ⟨rfl, hc⟩
  · rw [if_neg c1]
    by_cases c2 : f + b = 0
    · have : t.bl + t.fl = 0 := by omega
      rw [this, Int.mul_zero] at h1
      omega
    · rw [if_neg c2]
      refine ⟨rfl, ?_⟩
      have hd : 0 < f + b := by omega
      have hm : (t.wall - c) * (t.bl + t.fl) ≤ (t.wall - c) * (f + b) := Int.mul_le_mul_of_nonneg_left (by omega) (by omega)
      have := (up_le (x := runF t f c) (k := t.wall - c) hd).2 (by omega)
      show (c : Int) + upI (runF t f c) (f + b) ≤ t.wall
      omega
end Fw
