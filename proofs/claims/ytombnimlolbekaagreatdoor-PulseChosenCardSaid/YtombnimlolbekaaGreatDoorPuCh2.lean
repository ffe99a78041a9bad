/- The law on what is chosen: plain facts about its calls. -/
import Derived.Test.YtombnimlolbekaaGreatDoorPuCh1
set_option maxHeartbeats 16000000
namespace Fw
open Go

abbrev moreP : PackI := ⟨[109, 111, 114, 101], 0, 1, 0⟩
theorem packs_more {l : List PackI} (h : packsE l = 0) (h6 : l.length ≤ 6) (hn : ∀ y ∈ l, y.name ≠ [109, 111, 114, 101]) : packsE (l ++ [moreP]) = 0 := by
 unfold packsE at h ⊢
 rw [if_neg (by omega)] at h
 rw [if_neg (by simp; omega)]
 refine firstE_zero.2 fun e he => ?_
 obtain ⟨i, hi, rfl⟩ := List.mem_map.1 he
 have hi := List.mem_range.1 hi
 simp only [List.length_append, List.length_singleton] at hi
 by_cases hl : i < l.length
 ·have := firstE_zero.1 h (packE l i) (List.mem_map.2 ⟨i, List.mem_range.2 hl, rfl⟩)
  have g : (l ++ [moreP]).getD i pk0 = l.getD i pk0 := by
   simp [List.getD_eq_getElem?_getD, List.getElem?_append_left hl]
  have t : (l ++ [moreP]).take i = l.take i := List.take_append_of_le_length (by omega)
  unfold packE at this ⊢
  rw [g, t]
  exact this
 ·obtain rfl : i = l.length := by omega
  have g : (l ++ [moreP]).getD l.length pk0 = moreP := by simp [List.getD_eq_getElem?_getD]
  have t : (l ++ [moreP]).take l.length = l := by simp
  unfold packE
  rw [g, t]
  have hm : decide (moreP.name ∈ l.map (·.name)) = false := by
   apply decide_eq_false
   intro hc
   obtain ⟨y, hy, e⟩ := List.mem_map.1 hc
   exact hn y hy e
  rw [hm]
  decide

theorem cheap_none {l : List PackI} {x : Int × Int} (hp : packsE l = 0) (ht : targE x = 0) (h : bestF l x (2 ^ l.length) = none) : chE l x = 18 ∧ chCost l x = 0 ∧ chOut l x = [] := by
 have hz : chErr l x = 0 := firstE_zero.2 fun e he => by
  simp only [List.mem_cons, List.not_mem_nil, or_false] at he
  rcases he with rfl | rfl
  ·exact hp
  ·exact ht
 simp only [chE, chCost, chOut, if_pos hz, h, Option.getD_none, and_self]
theorem cheap_some {l : List PackI} {x : Int × Int} (hp : packsE l = 0) (ht : targE x = 0) {s : List Int} (h : bestF l x (2 ^ l.length) = some s) : chE l x = 0 ∧ chCost l x = cst l s ∧ chOut l x = s := by
 have hz : chErr l x = 0 := firstE_zero.2 fun e he => by
  simp only [List.mem_cons, List.not_mem_nil, or_false] at he
  rcases he with rfl | rfl
  ·exact hp
  ·exact ht
 simp only [chE, chCost, chOut, if_pos hz, h, Option.getD_some, and_self]
theorem badF_sel {l : List PackI} {x : Int × Int} (hp : packsE l = 0) (ht : targE x = 0) (b : Nat) : badF l (selF b l.length) x = 0 := firstE_zero.2 fun e he => by
 simp only [List.mem_cons, List.not_mem_nil, or_false] at he
 rcases he with rfl | rfl | rfl
 ·exact hp
 ·exact sel_ok b l.length
 ·exact ht
theorem badB_zero {l : List PackI} {x : Int × Int} (hp : packsE l = 0) (ht : targE x = 0) {p : Int} (h : -1000 ≤ p ∧ p ≤ 1000) : badB l x p = 0 := firstE_zero.2 fun e he => by
 simp only [List.mem_cons, List.not_mem_nil, or_false] at he
 rcases he with rfl | rfl | rfl
 ·exact hp
 ·exact ht
 ·exact rangeE_zero.2 h
theorem targ_of {x : Int × Int} (h : targE x = 0) : 0 ≤ x.1 ∧ x.1 ≤ 10000000 ∧ 0 ≤ x.2 ∧ x.2 ≤ 10000000 ∧ x.1 ≤ x.2 := ivE_zero.1 h
theorem targ_to {x : Int × Int} (h : 0 ≤ x.1 ∧ x.1 ≤ 10000000 ∧ 0 ≤ x.2 ∧ x.2 ≤ 10000000 ∧ x.1 ≤ x.2) : targE x = 0 := ivE_zero.2 h
end Fw
