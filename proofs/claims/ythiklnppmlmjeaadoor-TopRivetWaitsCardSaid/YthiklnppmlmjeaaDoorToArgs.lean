/- Arguments: lists of integers and of intervals. -/
import Derived.Test.YthiklnppmlmjeaaDoorTgR2
import Derived.Test.YthiklnppmlmjeaaDoorFwC
namespace Fw
open Go

theorem HasArgs2 {A B : Ty} {pss : List (List PVal)} (h : HasArgs [A, B] pss) : ∃ p q, pss = [p, q] ∧ HasTy A p ∧ HasTy B q := by
 match pss, h with
 | [p, q], ⟨h1, _, h2, _, _⟩ => exact ⟨p, q, rfl, h1, h2⟩
abbrev bandTy : Ty := .st [.int .i64, .int .i64]
theorem band_args {ps : List PVal} (h : HasTy bandTy ps) : ∃ a b : Int, ps = [.int .i64 a, .int .i64 b] := by
 obtain ⟨_, r1, rfl, ⟨a, rfl, _⟩, _, _, r2, rfl, ⟨b, rfl, _⟩, _, hr⟩ := h
 have hr' : r2 = [] := hr
 subst hr'
 exact ⟨a, b, rfl⟩


theorem band_rows : ∀ (rows : List (List PVal)), (∀ r ∈ rows, HasTy bandTy r ∧ r.length = bandTy.size) → ∃ l : List (Int × Int), rows.flatten = cI l ∧ l.length = rows.length := by
 intro rows
 induction rows with
 | nil => intro _; exact ⟨[], rfl, rfl⟩
 | cons r rest ih =>
  intro h
  obtain ⟨l, h1, h2⟩ := ih (fun r hr => h r (by simp [hr]))
  obtain ⟨a, b, hg⟩ := band_args (h r (by simp)).1
  exact ⟨(a, b) :: l, by simp [hg, h1, cI], by simp [h2]⟩
theorem bands_args {ps : List PVal} (h : HasTy (.sl bandTy) ps) : ∃ l : List (Int × Int), ps = [.sl (cI l) l.length] := by
 obtain ⟨rows, rfl, b1, _⟩ := h
 obtain ⟨l, s1, s2⟩ := band_rows rows b1
 exact ⟨l, by rw [s1, ← s2]⟩
abbrev actTy : Ty := .st [.int .i64, .str, .int .i64, .arr 3 (.int .i64)]
abbrev hallTy : Ty := .st [.int .i64, .int .i64, .arr 3 (.sl bandTy)]
theorem tabs_args {ps : List PVal} (h : HasTy (.arr 3 (.sl bandTy)) ps) : ∃ a b c : List (Int × Int), ps = [.sl (cI a) a.length, .sl (cI b) b.length, .sl (cI c) c.length] := by
 obtain ⟨rows, h1, rfl, h2⟩ := h
 match rows, h1 with
 | [x, y, z], _ =>
  obtain ⟨a, rfl⟩ := bands_args (h2 x (by simp)).1
  obtain ⟨b, rfl⟩ := bands_args (h2 y (by simp)).1
  obtain ⟨c, rfl⟩ := bands_args (h2 z (by simp)).1
  exact ⟨a, b, c, rfl⟩
theorem hall_args {ps : List PVal} (h : HasTy hallTy ps) : ∃ x : HallI, ps = [.int .i64 x.doors, .int .i64 x.base, .sl (cI x.t0) x.t0.length, .sl (cI x.t1) x.t1.length, .sl (cI x.t2) x.t2.length] := by
 obtain ⟨_, r1, rfl, ⟨a, rfl, _⟩, _, _, r2, rfl, ⟨b, rfl, _⟩, _, _, r3, rfl, ht, _, hr⟩ := h
 have hr' : r3 = [] := hr
 subst hr'
 obtain ⟨x, y, z, rfl⟩ := tabs_args ht
 exact ⟨⟨a, b, x, y, z⟩, rfl⟩
end Fw
