import Derived.Test.YtombnimlolbekaaGreatDoorPuBl6
import Derived.Test.YtombnimlolbekaaGreatDoorPuRunsL
namespace Go.Proofs.YtombnimlolbekaaGreatDoor
open Go Fw
set_option maxRecDepth 100000

abbrev pairTyB : Ty := .st [.int .i64, .int .i64]
abbrev courseTy : Ty := .st [.sl pairTyB, .int .u16, .int .u8, .int .u8]
theorem course_args {ps : List PVal} (h : HasTy courseTy ps) : ∃ (c : List (Int × Int)) (u v w : Int), ps = [.sl (cI c) c.length, .int .u16 u, .int .u8 v, .int .u8 w] ∧ (0 ≤ u ∧ u ≤ 65535) ∧ (0 ≤ v ∧ v ≤ 255) ∧ (0 ≤ w ∧ w ≤ 255) := by
 obtain ⟨_, r1, rfl, h1, _, _, r2, rfl, ⟨u, rfl, hu⟩, _, _, r3, rfl, ⟨v, rfl, hv⟩, _, _, r4, rfl, ⟨w, rfl, hw⟩, _, hr⟩ := h
 have hr' : r4 = [] := hr
 subst hr'
 obtain ⟨c, rfl⟩ := pairs_args h1
 exact ⟨c, u, v, w, rfl, hu, hv, hw⟩

theorem evP_RUNb (n f : Nat) (args : List AVal) : evP F C0 G0 n f args = RUN n f args := rfl
attribute [local irreducible] evP T.All callPure
abbrev TsBel : List Ty := [sledTy, .sl pairTyB, courseTy]
theorem bel_law (pss : List (List PVal)) (h : HasArgs TsBel pss) : (evP F C0 G0 61 8 (argsOf TsBel pss)).All (· = .p (.bool true)) := by
 obtain ⟨ps, qs, rs, rfl, h1, h2, h3⟩ := HasArgs3 h
 ·obtain ⟨s, rfl⟩ := sled_args h1
  obtain ⟨l, rfl⟩ := pairs_args h2
  obtain ⟨c, u, v, w, rfl, hu, hv, hw⟩ := course_args h3
  have := below_at s l c u v w hu hv hw
  have e : argsOf TsBel [slc s, [.sl (cI l) l.length], [.sl (cI c) c.length, .int .u16 u, .int .u8 v, .int .u8 w]] = [sla s, csl l, .agg [csl c, .p (.int .u16 u), .p (.int .u8 v), .p (.int .u8 w)]] := rfl
  rw [evP_RUNb, e, this, All_ret]
end Go.Proofs.YtombnimlolbekaaGreatDoor
