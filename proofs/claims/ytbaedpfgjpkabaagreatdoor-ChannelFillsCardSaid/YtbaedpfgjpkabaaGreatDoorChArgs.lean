/- Arguments: lists of integers and of intervals. -/
import Derived.Test.YtbaedpfgjpkabaaGreatDoorChS1
import Derived.Test.YtbaedpfgjpkabaaGreatDoorFwC
namespace Fw
open Go

def in64 (n : Int) : Prop := -9223372036854775808 ≤ n ∧ n ≤ 9223372036854775807

theorem HasArgs3 {A B D : Ty} {pss : List (List PVal)} (h : HasArgs [A, B, D] pss) : ∃ p q r, pss = [p, q, r] ∧ HasTy A p ∧ HasTy B q ∧ HasTy D r := by
  match pss, h with
  | [p, q, r], ⟨h1, _, h2, _, h3, _, _⟩ => exact ⟨p, q, r, rfl, h1, h2, h3⟩

abbrev bandTy : Ty := .st [.int .i64, .int .i64]
theorem band_args {ps : List PVal} (h : HasTy bandTy ps) : ∃ a b : Int, ps = [.int .i64 a, .int .i64 b] := by
  obtain ⟨_, r1, rfl, ⟨a, rfl, _⟩, _, _, r2, rfl, ⟨b, rfl, _⟩, _, hr⟩ := h
  have hr' : r2 = [] := hr
  subst hr'
  exact ⟨a, b, rfl⟩


theorem band_rows : ∀ (rows : List (List PVal)), (∀ r ∈ rows, HasTy bandTy r ∧ r.length = bandTy.size) → ∃ l : List (Int × Int), rows.flatten = cI l ∧ l.length = rows.length := by
  intro rows
  induction rows with
  | nil => intro _; exact ⟨[], rfl, rfl⟩
  | cons r rest ih =>
    intro h
    obtain ⟨l, h1, h2⟩ := ih (fun r hr => h r (by simp [hr]))
    obtain ⟨a, b, hg⟩ := band_args (h r (by simp)).1
    exact ⟨(a, b) :: l, by simp [hg, h1, cI], by simp [h2]⟩
theorem bands_args {ps : List PVal} (h : HasTy (.sl bandTy) ps) : ∃ l : List (Int × Int), ps = [.sl (cI l) l.length] := by
  obtain ⟨rows, rfl, b1, _⟩ := h
  obtain ⟨l, s1, s2⟩ := band_rows rows b1
  exact ⟨l, by rw [s1, ← s2]⟩
theorem rows_flts : ∀ (rows : List (List PVal)), (∀ r ∈ rows, HasTy (.flt .f32) r ∧ r.length = Ty.size (.flt .f32)) → ∃ l : List Nat, rows.flatten = pF l ∧ l.length = rows.length := by
  intro rows
  induction rows with
  | nil => intro _; exact ⟨[], rfl, rfl⟩
  | cons r rest ih =>
    intro h
    obtain ⟨l, h1, h2⟩ := ih (fun r hr => h r (by simp [hr]))
    obtain ⟨b, hb, _⟩ := (h r (by simp)).1
    exact ⟨b :: l, by simp [hb, h1, pF], by simp [h2]⟩
theorem floats_args {ps : List PVal} (h : HasTy (.sl (.flt .f32)) ps) : ∃ l : List Nat, ps = [.sl (pF l) l.length] := by
  obtain ⟨rows, rfl, b1, _⟩ := h
  obtain ⟨l, s1, s2⟩ := rows_flts rows b1
  exact ⟨l, by rw [s1, ← s2]⟩
end Fw
