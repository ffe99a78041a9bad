import Derived.Test.YtdjkleaojdeepaaGreatDoorGaJob
import Derived.Test.YtdjkleaojdeepaaGreatDoorGaA
import Derived.Test.YtdjkleaojdeepaaGreatDoorGaArgs
import Derived.Test.YtdjkleaojdeepaaGreatDoorGaG
namespace Fw
open Go
abbrev jobTy : Ty := .st [.str, .int .i64, .int .i64, .int .i64, .int .i64, .int .i64]
theorem job_rows : ∀ (rows : List (List PVal)), (∀ r ∈ rows, HasTy jobTy r ∧ r.length = jobTy.size) → ∃ l : List JobI, rows.flatten = rowC jc l ∧ l.length = rows.length ∧ ∀ x ∈ l, x.name.length ≤ 9223372036854775807 := by
  intro rows
  induction rows with
  | nil => intro _; exact ⟨[], rfl, rfl, fun x hx => by cases hx⟩
  | cons r rest ih =>
    intro h
    obtain ⟨l, h1, h2, h3⟩ := ih (fun r hr => h r (by simp [hr]))
    obtain ⟨hr, _⟩ := h r (by simp)
    obtain ⟨_, r1, rfl, ⟨k, rfl, hk⟩, _, _, r2, rfl, ⟨a, rfl, _⟩, _, _, r3, rfl, ⟨b, rfl, _⟩, _, _, r4, rfl, ⟨c, rfl, _⟩, _, _, r5, rfl, ⟨e, rfl, _⟩, _, _, r6, rfl, ⟨f, rfl, _⟩, _, hr6⟩ := hr
    have hr' : r6 = [] := hr6
    subst hr'
    refine ⟨⟨k, a, b, c, e, f⟩ :: l, by simp [h1, rowC_cons, jc], by simp [h2], fun q hq => ?_⟩
    rcases List.mem_cons.1 hq with e | e
    · subst e; exact hk
    · exact h3 q e
theorem jobs_args {ps : List PVal} (h : HasTy (.sl jobTy) ps) : ∃ l : List JobI, ps = [.sl (rowC jc l) l.length] ∧ l.length ≤ 9223372036854775807 ∧ ∀ x ∈ l, x.name.length ≤ 9223372036854775807 := by
  obtain ⟨rows, rfl, b1, b2⟩ := h
  obtain ⟨l, s1, s2, s3⟩ := job_rows rows b1
  exact ⟨l, by rw [s1, ← s2], by omega, s3⟩
end Fw
namespace Go.Proofs.YtdjkleaojdeepaaGreatDoor
open Go Fw
set_option maxRecDepth 100000
theorem evP_RUN (f : Nat) (args : List AVal) : evP F C0 G0 61 f args = RUN 61 f args := rfl
theorem awake60 : RUN 60 17 [] = .ret (.p (.bool true)) := awake
attribute [local irreducible] evP T.All callPure
abbrev TsJob : List Ty := [.sl jobTy, .sl (.int .i64), .sl (.int .i64)]
end Go.Proofs.YtdjkleaojdeepaaGreatDoor
