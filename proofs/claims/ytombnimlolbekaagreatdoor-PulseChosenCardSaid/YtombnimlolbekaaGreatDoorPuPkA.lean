import Derived.Test.YtombnimlolbekaaGreatDoorPuX5
import Derived.Test.YtombnimlolbekaaGreatDoorPuArgs
import Derived.Test.YtombnimlolbekaaGreatDoorPuG
namespace Go.Proofs.YtombnimlolbekaaGreatDoor
open Go Fw
set_option maxRecDepth 100000

abbrev packTy : Ty := .st [.str, .int .i64, .int .i64, .int .i64]
theorem pack_args {ps : List PVal} (h : HasTy packTy ps) : ∃ x : PackI, ps = pkc x ∧ x.name.length ≤ 9223372036854775807 := by
 obtain ⟨_, r1, rfl, ⟨s, rfl, hs⟩, _, _, r2, rfl, ⟨a, rfl, _⟩, _, _, r3, rfl, ⟨b, rfl, _⟩, _, _, r4, rfl, ⟨c, rfl, _⟩, _, hr⟩ := h
 have hr' : r4 = [] := hr
 subst hr'
 exact ⟨⟨s, a, b, c⟩, rfl, hs⟩
theorem rows_packs : ∀ (rows : List (List PVal)), (∀ r ∈ rows, HasTy packTy r ∧ r.length = Ty.size packTy) → ∃ l : List PackI, rows.flatten = cP l ∧ l.length = rows.length ∧ ∀ x ∈ l, x.name.length ≤ 9223372036854775807 := by
 intro rows
 induction rows with
 | nil => intro _; exact ⟨[], rfl, rfl, fun x hx => by cases hx⟩
 | cons r rest ih =>
  intro h
  obtain ⟨l, h1, h2, h3⟩ := ih (fun r hr => h r (by simp [hr]))
  obtain ⟨x, rfl, hx⟩ := pack_args (h r (by simp)).1
  refine ⟨x :: l, by simp [h1, cP], by simp [h2], fun y hy => ?_⟩
  rcases List.mem_cons.1 hy with e | e
  ·subst e; exact hx
  ·exact h3 y e
end Go.Proofs.YtombnimlolbekaaGreatDoor
