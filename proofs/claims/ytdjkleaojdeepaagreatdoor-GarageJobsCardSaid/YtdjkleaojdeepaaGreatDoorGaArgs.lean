/- Arguments: lists of integers and of intervals. -/
import Derived.Test.YtdjkleaojdeepaaGreatDoorGaH7
import Derived.Test.YtdjkleaojdeepaaGreatDoorFwC
namespace Fw
open Go

def in64 (n : Int) : Prop := -9223372036854775808 ≤ n ∧ n ≤ 9223372036854775807

theorem rows_ints : ∀ (rows : List (List PVal)), (∀ r ∈ rows, HasTy (.int .i64) r ∧ r.length = Ty.size (.int .i64)) → ∃ l : List Int, rows.flatten = pI l ∧ l.length = rows.length ∧ ∀ x ∈ l, in64 x := by
  intro rows
  induction rows with
  | nil => intro _; exact ⟨[], rfl, rfl, fun x hx => by cases hx⟩
  | cons r rest ih =>
    intro h
    obtain ⟨l, h1, h2, h3⟩ := ih (fun r hr => h r (by simp [hr]))
    obtain ⟨n, hn, hb⟩ := (h r (by simp)).1
    refine ⟨n :: l, by simp [hn, h1, pI], by simp [h2], fun x hx => ?_⟩
    rcases List.mem_cons.1 hx with e | e
    · subst e; exact hb
    · exact h3 x e

theorem HasArgs3 {A B D : Ty} {pss : List (List PVal)} (h : HasArgs [A, B, D] pss) : ∃ p q r, pss = [p, q, r] ∧ HasTy A p ∧ HasTy B q ∧ HasTy D r := by
  match pss, h with
  | [p, q, r], ⟨h1, _, h2, _, h3, _, _⟩ => exact ⟨p, q, r, rfl, h1, h2, h3⟩

abbrev bandTy : Ty := .st [.int .i64, .int .i64]
theorem ints_args {ps : List PVal} (h : HasTy (.sl (.int .i64)) ps) : ∃ l : List Int, ps = [.sl (pI l) l.length] := by
  obtain ⟨rows, rfl, b1, _⟩ := h
  obtain ⟨l, s1, s2, _⟩ := rows_ints rows b1
  exact ⟨l, by rw [s1, ← s2]⟩
abbrev actTy : Ty := .st [.int .i64, .str, .int .i64, .arr 3 (.int .i64)]
abbrev hallTy : Ty := .st [.int .i64, .int .i64, .arr 3 (.sl bandTy)]
end Fw
