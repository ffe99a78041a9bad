/- Arguments: lists of acts. -/
import Derived.Test.YtdjkleaojdeepaaGreatDoorGaArgs
import Derived.Test.YtdjkleaojdeepaaGreatDoorGaR5
namespace Fw
open Go

theorem act_rows : ∀ (rows : List (List PVal)), (∀ r ∈ rows, HasTy actTy r ∧ r.length = actTy.size) → ∃ l : List ActI, rows.flatten = rowC ac l ∧ l.length = rows.length ∧ ∀ x ∈ l, x.kind.length ≤ 9223372036854775807 := by
 intro rows
 induction rows with
 | nil => intro _; exact ⟨[], rfl, rfl, fun x hx => by cases hx⟩
 | cons r rest ih =>
  intro h
  obtain ⟨l, h1, h2, h3⟩ := ih (fun r hr => h r (by simp [hr]))
  obtain ⟨hr, _⟩ := h r (by simp)
  obtain ⟨_, r1, rfl, ⟨a, rfl, _⟩, _, _, r2, rfl, ⟨k, rfl, hk⟩, _, _, r3, rfl, ⟨b, rfl, _⟩, _, _, r4, rfl, ht, _, hr4⟩ := hr
  have hr' : r4 = [] := hr4
  subst hr'
  obtain ⟨x, y, z, rfl⟩ := three_args ht
  refine ⟨⟨a, k, b, x, y, z⟩ :: l, by simp [h1, rowC_cons, ac], by simp [h2], fun q hq => ?_⟩
  rcases List.mem_cons.1 hq with e | e
  ·subst e; exact hk
  ·exact h3 q e
theorem acts_args {ps : List PVal} (h : HasTy (.sl actTy) ps) : ∃ l : List ActI, ps = [.sl (rowC ac l) l.length] ∧ l.length ≤ 9223372036854775807 ∧ ∀ x ∈ l, x.kind.length ≤ 9223372036854775807 := by
 obtain ⟨rows, rfl, b1, b2⟩ := h
 obtain ⟨l, s1, s2, s3⟩ := act_rows rows b1
 exact ⟨l, by rw [s1, ← s2], by omega, s3⟩
end Fw
