/- Arguments: lists of integers and of intervals. -/
import Derived.Test.YtbaedpfgjpkabaaGreatDoorChS1
import Derived.Test.YtbaedpfgjpkabaaGreatDoorFwC
namespace Fw
open Go

def in64 (n : Int) : Prop := -9223372036854775808 ≤ n ∧ n ≤ 9223372036854775807

theorem HasArgs2 {A B : Ty} {pss : List (List PVal)} (h : HasArgs [A, B] pss) : ∃ p q, pss = [p, q] ∧ HasTy A p ∧ HasTy B q := by
  match pss, h with
  | [p, q], ⟨h1, _, h2, _, _⟩ => exact ⟨p, q, rfl, h1, h2⟩
abbrev bandTy : Ty := .st [.int .i64, .int .i64]
theorem rows_flts : ∀ (rows : List (List PVal)), (∀ r ∈ rows, HasTy (.flt .f32) r ∧ r.length = Ty.size (.flt .f32)) → ∃ l : List Nat, rows.flatten = pF l ∧ l.length = rows.length := by
  intro rows
  induction rows with
  | nil => intro _; exact ⟨[], rfl, rfl⟩
  | cons r rest ih =>
    intro h
    obtain ⟨l, h1, h2⟩ := ih (fun r hr => h r (by simp [hr]))
    obtain ⟨b, hb, _⟩ := (h r (by simp)).1
    exact ⟨b :: l, by simp [hb, h1, pF], by simp [h2]⟩
theorem floats_args {ps : List PVal} (h : HasTy (.sl (.flt .f32)) ps) : ∃ l : List Nat, ps = [.sl (pF l) l.length] := by
  obtain ⟨rows, rfl, b1, _⟩ := h
  obtain ⟨l, s1, s2⟩ := rows_flts rows b1
  exact ⟨l, by rw [s1, ← s2]⟩
end Fw
