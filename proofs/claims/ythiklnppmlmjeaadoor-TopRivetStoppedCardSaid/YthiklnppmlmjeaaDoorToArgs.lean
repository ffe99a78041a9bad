/- Arguments: lists of integers and of intervals. -/
import Derived.Test.YthiklnppmlmjeaaDoorTgH8
import Derived.Test.YthiklnppmlmjeaaDoorFwC
namespace Fw
open Go

def in64 (n : Int) : Prop := -9223372036854775808 ≤ n ∧ n ≤ 9223372036854775807

theorem rows_ints : ∀ (rows : List (List PVal)), (∀ r ∈ rows, HasTy (.int .i64) r ∧ r.length = Ty.size (.int .i64)) → ∃ l : List Int, rows.flatten = pI l ∧ l.length = rows.length ∧ ∀ x ∈ l, in64 x := by
 intro rows
 induction rows with
 | nil => intro _; exact ⟨[], rfl, rfl, fun x hx => by cases hx⟩
 | cons r rest ih =>
  intro h
  obtain ⟨l, h1, h2, h3⟩ := ih (fun r hr => h r (by simp [hr]))
  obtain ⟨n, hn, hb⟩ := (h r (by simp)).1
  refine ⟨n :: l, by simp [hn, h1, pI], by simp [h2], fun x hx => ?_⟩
  rcases List.mem_cons.1 hx with e | e
  ·subst e; exact hb
  ·exact h3 x e

theorem HasArgs3 {A B D : Ty} {pss : List (List PVal)} (h : HasArgs [A, B, D] pss) : ∃ p q r, pss = [p, q, r] ∧ HasTy A p ∧ HasTy B q ∧ HasTy D r := by
 match pss, h with
 | [p, q, r], ⟨h1, _, h2, _, h3, _, _⟩ => exact ⟨p, q, r, rfl, h1, h2, h3⟩

abbrev bandTy : Ty := .st [.int .i64, .int .i64]
theorem band_args {ps : List PVal} (h : HasTy bandTy ps) : ∃ a b : Int, ps = [.int .i64 a, .int .i64 b] := by
 obtain ⟨_, r1, rfl, ⟨a, rfl, _⟩, _, _, r2, rfl, ⟨b, rfl, _⟩, _, hr⟩ := h
 have hr' : r2 = [] := hr
 subst hr'
 exact ⟨a, b, rfl⟩


theorem band_rows : ∀ (rows : List (List PVal)), (∀ r ∈ rows, HasTy bandTy r ∧ r.length = bandTy.size) → ∃ l : List (Int × Int), rows.flatten = cI l ∧ l.length = rows.length := by
 intro rows
 induction rows with
 | nil => intro _; exact ⟨[], rfl, rfl⟩
 | cons r rest ih =>
  intro h
  obtain ⟨l, h1, h2⟩ := ih (fun r hr => h r (by simp [hr]))
  obtain ⟨a, b, hg⟩ := band_args (h r (by simp)).1
  exact ⟨(a, b) :: l, by simp [hg, h1, cI], by simp [h2]⟩
theorem bands_args {ps : List PVal} (h : HasTy (.sl bandTy) ps) : ∃ l : List (Int × Int), ps = [.sl (cI l) l.length] := by
 obtain ⟨rows, rfl, b1, _⟩ := h
 obtain ⟨l, s1, s2⟩ := band_rows rows b1
 exact ⟨l, by rw [s1, ← s2]⟩
abbrev actTy : Ty := .st [.int .i64, .str, .int .i64, .arr 3 (.int .i64)]
abbrev hallTy : Ty := .st [.int .i64, .int .i64, .arr 3 (.sl bandTy)]
theorem three_args {ps : List PVal} (h : HasTy (.arr 3 (.int .i64)) ps) : ∃ a b c : Int, ps = [.int .i64 a, .int .i64 b, .int .i64 c] := by
 obtain ⟨rows, h1, rfl, h2⟩ := h
 obtain ⟨l, e, h3, _⟩ := rows_ints rows h2
 rw [h1] at h3
 match l, h3 with
 | [a, b, c], _ => exact ⟨a, b, c, e⟩
theorem tabs_args {ps : List PVal} (h : HasTy (.arr 3 (.sl bandTy)) ps) : ∃ a b c : List (Int × Int), ps = [.sl (cI a) a.length, .sl (cI b) b.length, .sl (cI c) c.length] := by
 obtain ⟨rows, h1, rfl, h2⟩ := h
 match rows, h1 with
 | [x, y, z], _ =>
  obtain ⟨a, rfl⟩ := bands_args (h2 x (by simp)).1
  obtain ⟨b, rfl⟩ := bands_args (h2 y (by simp)).1
  obtain ⟨c, rfl⟩ := bands_args (h2 z (by simp)).1
  exact ⟨a, b, c, rfl⟩
theorem hall_args {ps : List PVal} (h : HasTy hallTy ps) : ∃ x : HallI, ps = [.int .i64 x.doors, .int .i64 x.base, .sl (cI x.t0) x.t0.length, .sl (cI x.t1) x.t1.length, .sl (cI x.t2) x.t2.length] := by
 obtain ⟨_, r1, rfl, ⟨a, rfl, _⟩, _, _, r2, rfl, ⟨b, rfl, _⟩, _, _, r3, rfl, ht, _, hr⟩ := h
 have hr' : r3 = [] := hr
 subst hr'
 obtain ⟨x, y, z, rfl⟩ := tabs_args ht
 exact ⟨⟨a, b, x, y, z⟩, rfl⟩
end Fw
