import Derived.Test.YtombnimlolbekaaGreatDoorPuApE
import Derived.Test.YtombnimlolbekaaGreatDoorPuSprL
namespace Go.Proofs.YtombnimlolbekaaGreatDoor
open Go Fw
set_option maxRecDepth 100000

abbrev stepTyA : Ty := .st [.int .i64, .int .i64]
abbrev slopesTy : Ty := .st [.sl stepTyA, .int .u8]
theorem slopes_args {ps : List PVal} (h : HasTy slopesTy ps) : ∃ (c : List (Int × Int)) (v : Nat), ps = [.sl (cI c) c.length, .int .u8 v] ∧ v ≤ 255 := by
 obtain ⟨_, r1, rfl, h1, _, _, r2, rfl, ⟨v, rfl, hv⟩, _, hr⟩ := h
 have hr' : r2 = [] := hr
 subst hr'
 obtain ⟨c, rfl⟩ := pairs_args h1
 have hv : 0 ≤ v ∧ v ≤ 255 := hv
 refine ⟨c, v.toNat, ?_, by omega⟩
 rw [Int.toNat_of_nonneg hv.1]
 rfl

theorem evP_RUNc (n f : Nat) (args : List AVal) : evP F C0 G0 n f args = RUN n f args := rfl
attribute [local irreducible] evP T.All callPure
abbrev TsApa : List Ty := [.sl (.sl (.int .i64)), .sl stepTyA, slopesTy]
theorem apa_law (pss : List (List PVal)) (h : HasArgs TsApa pss) : (evP F C0 G0 61 9 (argsOf TsApa pss)).All (· = .p (.bool true)) := by
 obtain ⟨ps, qs, rs, rfl, h1, h2, h3⟩ := HasArgs3 h
 ·obtain ⟨ls, rfl, hl⟩ := lists_args h1
  obtain ⟨c, rfl⟩ := pairs_args h2
  obtain ⟨st, t, rfl, ht⟩ := slopes_args h3
  have := apa_at ls c st t ht hl
  have e : argsOf TsApa [[.sl (pL ls) ls.length], [.sl (cI c) c.length], [.sl (cI st) st.length, .int .u8 t]] = [llsl ls, csl c, .agg [csl st, .p (.int .u8 t)]] := rfl
  rw [evP_RUNc, e, this, All_ret]
end Go.Proofs.YtombnimlolbekaaGreatDoor
