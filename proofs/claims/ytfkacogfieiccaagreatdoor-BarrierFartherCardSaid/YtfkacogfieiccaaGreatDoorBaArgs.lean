/- Arguments: lists of integers and tows. -/
import Derived.Test.YtfkacogfieiccaaGreatDoorBaL2
import Derived.Test.YtfkacogfieiccaaGreatDoorFwC
namespace Fw
open Go

def in64 (n : Int) : Prop := -9223372036854775808 ≤ n ∧ n ≤ 9223372036854775807

theorem rows_ints : ∀ (rows : List (List PVal)), (∀ r ∈ rows, HasTy (.int .i64) r ∧ r.length = Ty.size (.int .i64)) → ∃ l : List Int, rows.flatten = pI l ∧ l.length = rows.length ∧ ∀ x ∈ l, in64 x := by
 intro rows
 induction rows with
 | nil => intro _; exact ⟨[], rfl, rfl, fun x hx => by cases hx⟩
 | cons r rest ih =>
  intro h
  obtain ⟨l, h1, h2, h3⟩ := ih (fun r hr => h r (by simp [hr]))
  obtain ⟨n, hn, hb⟩ := (h r (by simp)).1
  refine ⟨n :: l, by simp [hn, h1, pI], by simp [h2], fun x hx => ?_⟩
  rcases List.mem_cons.1 hx with e | e
  ·subst e; exact hb
  ·exact h3 x e

theorem HasArgs2 {A B : Ty} {pss : List (List PVal)} (h : HasArgs [A, B] pss) : ∃ p q, pss = [p, q] ∧ HasTy A p ∧ HasTy B q := by
 match pss, h with
 | [p, q], ⟨h1, _, h2, _, _⟩ => exact ⟨p, q, rfl, h1, h2⟩
abbrev bandTy : Ty := .st [.int .i64, .int .i64]
theorem band_args {ps : List PVal} (h : HasTy bandTy ps) : ∃ a b : Int, ps = [.int .i64 a, .int .i64 b] := by
 obtain ⟨_, r1, rfl, ⟨a, rfl, _⟩, _, _, r2, rfl, ⟨b, rfl, _⟩, _, hr⟩ := h
 have hr' : r2 = [] := hr
 subst hr'
 exact ⟨a, b, rfl⟩

abbrev towTy : Ty := .st [.sl (.int .i64), bandTy, bandTy, .int .i64]
theorem tow_args {ps : List PVal} (h : HasTy towTy ps) : ∃ t : TowI, ps = twc t := by
 obtain ⟨s1, r1, rfl, ⟨rows, rfl, a1, a2⟩, _, f1, r2, rfl, hf, _, b1, r3, rfl, hb, _, _, r4, rfl, ⟨w, rfl, _⟩, _, hr⟩ := h
 have hr' : r4 = [] := hr
 subst hr'
 obtain ⟨l, l1, l2, _⟩ := rows_ints rows a1
 obtain ⟨fl, fh, rfl⟩ := band_args hf
 obtain ⟨bl, bh, rfl⟩ := band_args hb
 exact ⟨⟨l, fl, fh, bl, bh, w⟩, by simp [l1, l2, twc]⟩
end Fw
