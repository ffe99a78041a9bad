/- Several texts in one: steps of the proof, no condition of their own. -/
import Derived.Test.YtombnimlolbekaaGreatDoorPuL5
import Derived.Test.YtombnimlolbekaaGreatDoorPuPh
section
set_option maxHeartbeats 4000000
namespace Fw
open Go

theorem exF_facts (c : List (Int × Int)) (p : List Int) : ∀ n, 0 < n →
  (∀ j, j < n → exN (c.getD j (0, 0)) (p.getD j 0) ≤ (exF c p n).1 ∧ (exN (c.getD j (0, 0)) (p.getD j 0) < (exF c p n).1 ∨ (exF c p n).1 = 0 ∨ (exF c p n).2 ≤ j)) ∧ 0 ≤ (exF c p n).2 ∧ (exF c p n).2 < n
 | 0, h => absurd h (by omega)
 | n + 1, _ => by
  by_cases hn : n = 0
  ·subst hn
   by_cases hx : 0 < exN (c.getD 0 (0, 0)) (p.getD 0 0)
   ·have e : exF c p (0 + 1) = (exN (c.getD 0 (0, 0)) (p.getD 0 0), 0) := if_pos hx
    rw [e]
    refine ⟨fun j hj => ?_, by simp⟩
    obtain rfl : j = 0 := by omega
    simp
   ·have e : exF c p (0 + 1) = (0, 0) := if_neg hx
    rw [e]
    refine ⟨fun j hj => ?_, by simp⟩
    obtain rfl : j = 0 := by omega
    simp only [Int.not_lt] at hx
    simp only []
    omega
  ·obtain ⟨h1, h2, h3⟩ := exF_facts c p n (by omega)
   have h0 := exF_nonneg c p n
   simp only [exF]
   split
   ·refine ⟨fun j hj => ?_, by simp only []; omega, by simp only []; omega⟩
    by_cases hj2 : j < n
    ·have := h1 j hj2
     simp only []
     omega
    ·obtain rfl : j = n := by omega
     simp only []
     omega
   ·refine ⟨fun j hj => ?_, h2, by omega⟩
    by_cases hj2 : j < n
    ·exact h1 j hj2
    ·obtain rfl : j = n := by omega
     omega

def wideI (x : Int × Int) (a : Int) : Int × Int := (min x.1 (max 0 a), max x.2 (min 10000 a))
theorem wide_ok {x : Int × Int} (h : 0 ≤ x.1 ∧ x.1 ≤ 10000 ∧ 0 ≤ x.2 ∧ x.2 ≤ 10000 ∧ x.1 ≤ x.2) (a : Int) : ivE 0 10000 (wideI x a) = 0 := by
 refine ivE_zero.2 ?_
 simp only [wideI]
 omega
theorem wide_in {x : Int × Int} (h : 0 ≤ x.1 ∧ x.1 ≤ 10000 ∧ 0 ≤ x.2 ∧ x.2 ≤ 10000 ∧ x.1 ≤ x.2) (a : Int) : ((wideI x a).1 ≤ a ∧ a ≤ (wideI x a).2) ↔ (0 ≤ a ∧ a ≤ 10000) := by
 simp only [wideI]
 omega

theorem sumF_both (p q : List Int) (h : q.length = p.length) : ∀ i, i ≤ p.length → sumF (p.zipWith (· + ·) q) i = sumF p i + sumF q i
 | 0, _ => by simp [sumF]
 | i + 1, hi => by
  have ih := sumF_both p q h i (by omega)
  simp only [sumF, ih]
  have a1 : i < p.length := by omega
  have a2 : i < q.length := by omega
  have : (p.zipWith (· + ·) q).getD i 0 = p.getD i 0 + q.getD i 0 := by
   simp [List.getD_eq_getElem?_getD, List.getElem?_zipWith, List.getElem?_eq_getElem a1, List.getElem?_eq_getElem a2]
  omega
end Fw
end

section
set_option maxHeartbeats 4000000
namespace Fw
open Go

theorem loF_le (l : List Int) : ∀ k j, j ≤ k → loF l k ≤ l.getD j 0
 | 0, j, h => by
  obtain rfl : j = 0 := by omega
  exact Int.le_refl _
 | k + 1, j, h => by
  simp only [loF]
  by_cases hj : j ≤ k
  ·have := loF_le l k j hj; omega
  ·obtain rfl : j = k + 1 := by omega
   omega
theorem le_hiF (l : List Int) : ∀ k j, j ≤ k → l.getD j 0 ≤ hiF l k
 | 0, j, h => by
  obtain rfl : j = 0 := by omega
  exact Int.le_refl _
 | k + 1, j, h => by
  simp only [hiF]
  by_cases hj : j ≤ k
  ·have := le_hiF l k j hj; omega
  ·obtain rfl : j = k + 1 := by omega
   omega
theorem loF_at (l : List Int) : ∀ k, ∃ j, j ≤ k ∧ loF l k = l.getD j 0
 | 0 => ⟨0, by omega, rfl⟩
 | k + 1 => by
  obtain ⟨j, hj, e⟩ := loF_at l k
  simp only [loF]
  by_cases h : loF l k ≤ l.getD (k + 1) 0
  ·exact ⟨j, by omega, by omega⟩
  ·exact ⟨k + 1, by omega, by omega⟩
theorem hiF_at (l : List Int) : ∀ k, ∃ j, j ≤ k ∧ hiF l k = l.getD j 0
 | 0 => ⟨0, by omega, rfl⟩
 | k + 1 => by
  obtain ⟨j, hj, e⟩ := hiF_at l k
  simp only [hiF]
  by_cases h : l.getD (k + 1) 0 ≤ hiF l k
  ·exact ⟨j, by omega, by omega⟩
  ·exact ⟨k + 1, by omega, by omega⟩

theorem getD_mem {l : List Int} {j : Nat} (h : j < l.length) : l.getD j 0 ∈ l := by
 rw [List.getD_eq_getElem?_getD, List.getElem?_eq_getElem h]
 exact List.getElem_mem h
theorem mem_getD {l : List Int} {x : Int} (h : x ∈ l) : ∃ j, j < l.length ∧ l.getD j 0 = x := by
 obtain ⟨j, hj, rfl⟩ := List.getElem_of_mem h
 exact ⟨j, hj, by simp [List.getD_eq_getElem?_getD, hj]⟩

theorem lo_same {a b : List Int} (h0 : 0 < a.length) (hl : b.length = a.length) (hm : ∀ x, x ∈ a ↔ x ∈ b) : loF a (a.length - 1) = loF b (b.length - 1) := by
 obtain ⟨i, hi, ei⟩ := loF_at a (a.length - 1)
 obtain ⟨j, hj, ej⟩ := loF_at b (b.length - 1)
 obtain ⟨p, hp, ep⟩ := mem_getD ((hm _).1 (getD_mem (l := a) (j := i) (by omega)))
 obtain ⟨q, hq, eq⟩ := mem_getD ((hm _).2 (getD_mem (l := b) (j := j) (by omega)))
 have h1 := loF_le b (b.length - 1) p (by omega)
 have h2 := loF_le a (a.length - 1) q (by omega)
 omega
theorem hi_same {a b : List Int} (h0 : 0 < a.length) (hl : b.length = a.length) (hm : ∀ x, x ∈ a ↔ x ∈ b) : hiF a (a.length - 1) = hiF b (b.length - 1) := by
 obtain ⟨i, hi, ei⟩ := hiF_at a (a.length - 1)
 obtain ⟨j, hj, ej⟩ := hiF_at b (b.length - 1)
 obtain ⟨p, hp, ep⟩ := mem_getD ((hm _).1 (getD_mem (l := a) (j := i) (by omega)))
 obtain ⟨q, hq, eq⟩ := mem_getD ((hm _).2 (getD_mem (l := b) (j := j) (by omega)))
 have h1 := le_hiF b (b.length - 1) p (by omega)
 have h2 := le_hiF a (a.length - 1) q (by omega)
 omega

theorem spread_turn {ls : List (List Int)} (h0 : 0 < ls.length) (k m : Nat) : spreadL (ls.drop k ++ ls.take k) m = spreadL ls m := by
 unfold spreadL
 refine List.map_congr_left fun i _ => ?_
 have hlen : (ls.drop k ++ ls.take k).length = ls.length := by simp only [List.length_append, List.length_drop, List.length_take]; omega
 have hm : ∀ x, x ∈ colL ls i ↔ x ∈ colL (ls.drop k ++ ls.take k) i := fun x => by
  have : x ∈ colL ls i ↔ x ∈ colL (ls.take k ++ ls.drop k) i := by rw [List.take_append_drop]
  rw [this]
  simp only [colL, List.map_append, List.mem_append]
  exact Or.comm
 have hc : (colL ls i).length = ls.length := by simp [colL]
 have hd : (colL (ls.drop k ++ ls.take k) i).length = (colL ls i).length := by rw [hc]; simpa only [colL, List.length_map] using hlen
 have h1 := lo_same (by omega) hd hm
 have h2 := hi_same (by omega) hd hm
 rw [hd, hc] at h1 h2
 simp only [loC, hiC, hlen, h1, h2]

theorem loC_le {ls : List (List Int)} {r k : Nat} (h : r < ls.length) : loC ls k ≤ (ls.getD r []).getD k 0 ∧ (ls.getD r []).getD k 0 ≤ hiC ls k := by
 have e : (colL ls k).getD r 0 = (ls.getD r []).getD k 0 := by
  simp [colL, List.getD_eq_getElem?_getD, h]
 rw [← e]
 exact ⟨loF_le _ _ _ (by omega), le_hiF _ _ _ (by omega)⟩

theorem sumF_between {l : List Int} {a b : Int} (h : ∀ j, j < l.length → a ≤ l.getD j 0 ∧ l.getD j 0 ≤ b) : ∀ n : Nat, n ≤ l.length → (n : Int) * a ≤ sumF l n ∧ sumF l n ≤ n * b
 | 0, _ => by simp [sumF]
 | n + 1, hn => by
  have ih := sumF_between h n (by omega)
  have := h n (by omega)
  simp only [sumF]
  rw [show ((n + 1 : Nat) : Int) = (n : Int) + 1 from by omega, Int.add_mul, Int.add_mul, Int.one_mul, Int.one_mul]
  omega

theorem mean_in {ls : List (List Int)} (h0 : 0 < ls.length) (k : Nat) : loC ls k ≤ meanI ls k ∧ meanI ls k ≤ hiC ls k := by
 have hc : (colL ls k).length = ls.length := by simp [colL]
 have hs := sumF_between (l := colL ls k) (a := loC ls k) (b := hiC ls k) (fun j hj => ⟨loF_le _ _ _ (by omega), le_hiF _ _ _ (by omega)⟩) ls.length (by omega)
 unfold meanI
 generalize loC ls k = a at *
 generalize hiC ls k = b at *
 generalize sumF (colL ls k) ls.length = t at *
 have hn : (0 : Int) < 2 * ls.length := by omega
 constructor
 ·rw [Int.le_ediv_iff_mul_le hn]
  have : a * (2 * (ls.length : Int)) = 2 * ((ls.length : Int) * a) := by rw [Int.mul_comm a, Int.mul_assoc]
  omega
 ·have h1 : (2 * t + (ls.length : Int)) / (2 * ls.length) < b + 1 := by
   rw [Int.ediv_lt_iff_lt_mul hn]
   have : (b + 1) * (2 * (ls.length : Int)) = 2 * ((ls.length : Int) * b) + 2 * ls.length := by rw [Int.add_mul, Int.one_mul, Int.mul_comm b, Int.mul_assoc]
   omega
  omega
end Fw
end

section
set_option maxHeartbeats 4000000
namespace Fw
open Go

theorem part_ratio {q : Int} (hq : 0 < q) (a f w : Int) : partF (w * q) a (f * q) = partF w a f := by
 have e : ∀ b : Int, b * (f * q) / (w * q) = b * f / w := fun b => by
  rw [← Int.mul_assoc, Int.mul_ediv_mul_of_pos_left _ _ hq]
 simp only [partF, e]

theorem part_one {w : Int} (hw : 0 < w) (a f : Int) : (partF w a f).1 ≤ (partF w a f).2 ∧ (partF w a f).2 - (partF w a f).1 ≤ 1 := by
 simp only [partF, Int.neg_mul]
 have h1 := Int.emod_nonneg (a * f) (show w ≠ 0 by omega)
 have h2 := Int.emod_lt_of_pos (a * f) hw
 have h3 := Int.emod_nonneg (-(a * f)) (show w ≠ 0 by omega)
 have h4 := Int.emod_lt_of_pos (-(a * f)) hw
 have h5 := Int.mul_ediv_add_emod (a * f) w
 have h6 := Int.mul_ediv_add_emod (-(a * f)) w
 generalize (a * f) % w = r at *
 generalize (-(a * f)) % w = s at *
 generalize a * f / w = x at *
 generalize -(a * f) / w = y at *
 have h7 : w * (x + y) = -(r + s) := by rw [Int.mul_add]; omega
 have h8 : x + y ≤ 0 := by
  by_cases h : x + y ≤ 0
  ·exact h
  ·have := Int.mul_le_mul_of_nonneg_left (show (1 : Int) ≤ x + y by omega) (show 0 ≤ w by omega)
   omega
 have h9 : -1 ≤ x + y := by
  by_cases h : -1 ≤ x + y
  ·exact h
  ·have := Int.mul_le_mul_of_nonneg_left (show x + y ≤ -2 by omega) (show 0 ≤ w by omega)
   omega
 omega

theorem parts_345 {q : Int} (hq : 0 < q) (a : Int) :
  3 * q * (partF (5 * q) a (3 * q)).1 + 4 * q * (partF (5 * q) a (4 * q)).1 ≤ a * (5 * q) ∧ a * (5 * q) ≤ 3 * q * (partF (5 * q) a (3 * q)).2 + 4 * q * (partF (5 * q) a (4 * q)).2 := by
 rw [part_ratio hq, part_ratio hq]
 simp only [partF]
 have h1 : 3 * (a * 3 / 5) + 4 * (a * 4 / 5) ≤ a * 5 := by omega
 have h2 : a * 5 ≤ 3 * (-(-a * 3 / 5)) + 4 * (-(-a * 4 / 5)) := by omega
 have e : ∀ x y : Int, 3 * q * x + 4 * q * y = (3 * x + 4 * y) * q := fun x y => by
  rw [Int.add_mul, Int.mul_assoc, Int.mul_assoc, Int.mul_assoc 3 x q, Int.mul_assoc 4 y q, Int.mul_comm q x, Int.mul_comm q y]
 rw [e, e, ← Int.mul_assoc a 5 q]
 exact ⟨Int.mul_le_mul_of_nonneg_right h1 (by omega), Int.mul_le_mul_of_nonneg_right h2 (by omega)⟩
end Fw
end

