/- Arguments: lists of integers and of intervals. -/
import Derived.Test.YtbaedpfgjpkabaaGreatDoorChS1
import Derived.Test.YtbaedpfgjpkabaaGreatDoorFwC
namespace Fw
open Go

def in64 (n : Int) : Prop := -9223372036854775808 ≤ n ∧ n ≤ 9223372036854775807

theorem HasArgs2 {A B : Ty} {pss : List (List PVal)} (h : HasArgs [A, B] pss) : ∃ p q, pss = [p, q] ∧ HasTy A p ∧ HasTy B q := by
  match pss, h with
  | [p, q], ⟨h1, _, h2, _, _⟩ => exact ⟨p, q, rfl, h1, h2⟩
abbrev bandTy : Ty := .st [.int .i64, .int .i64]
theorem band_args {ps : List PVal} (h : HasTy bandTy ps) : ∃ a b : Int, ps = [.int .i64 a, .int .i64 b] := by
  obtain ⟨_, r1, rfl, ⟨a, rfl, _⟩, _, _, r2, rfl, ⟨b, rfl, _⟩, _, hr⟩ := h
  have hr' : r2 = [] := hr
  subst hr'
  exact ⟨a, b, rfl⟩


end Fw
