/- Arguments: lists of integers and of intervals. -/
import Derived.Test.YtombnimlolbekaaGreatDoorPuL2
import Derived.Test.YtombnimlolbekaaGreatDoorFwC
namespace Fw
open Go

def in64 (n : Int) : Prop := -9223372036854775808 ≤ n ∧ n ≤ 9223372036854775807

theorem rows_ints : ∀ (rows : List (List PVal)), (∀ r ∈ rows, HasTy (.int .i64) r ∧ r.length = Ty.size (.int .i64)) → ∃ l : List Int, rows.flatten = pI l ∧ l.length = rows.length ∧ ∀ x ∈ l, in64 x := by
 intro rows
 induction rows with
 | nil => intro _; exact ⟨[], rfl, rfl, fun x hx => by cases hx⟩
 | cons r rest ih =>
  intro h
  obtain ⟨l, h1, h2, h3⟩ := ih (fun r hr => h r (by simp [hr]))
  obtain ⟨n, hn, hb⟩ := (h r (by simp)).1
  refine ⟨n :: l, by simp [hn, h1, pI], by simp [h2], fun x hx => ?_⟩
  rcases List.mem_cons.1 hx with e | e
  ·subst e; exact hb
  ·exact h3 x e

theorem rows_pairs : ∀ (rows : List (List PVal)), (∀ r ∈ rows, HasTy (.st [.int .i64, .int .i64]) r ∧ r.length = Ty.size (.st [.int .i64, .int .i64])) → ∃ c : List (Int × Int), rows.flatten = cI c ∧ c.length = rows.length ∧ ∀ x ∈ c, in64 x.1 ∧ in64 x.2 := by
 intro rows
 induction rows with
 | nil => intro _; exact ⟨[], rfl, rfl, fun x hx => by cases hx⟩
 | cons r rest ih =>
  intro h
  obtain ⟨l, h1, h2, h3⟩ := ih (fun r hr => h r (by simp [hr]))
  obtain ⟨a, b, hr, ⟨n, hn, hb⟩, _, a2, b2, hr2, ⟨m, hm, hb2⟩, _, hnil⟩ := (h r (by simp)).1
  subst hn hm
  have hnil' : b2 = [] := hnil
  subst hnil' hr2
  refine ⟨(n, m) :: l, by simp [hr, h1, cI], by simp [h2], fun x hx => ?_⟩
  rcases List.mem_cons.1 hx with e | e
  ·subst e; exact ⟨hb, hb2⟩
  ·exact h3 x e

theorem HasArgs3 {A B D : Ty} {pss : List (List PVal)} (h : HasArgs [A, B, D] pss) : ∃ p q r, pss = [p, q, r] ∧ HasTy A p ∧ HasTy B q ∧ HasTy D r := by
 match pss, h with
 | [p, q, r], ⟨h1, _, h2, _, h3, _, _⟩ => exact ⟨p, q, r, rfl, h1, h2, h3⟩
end Fw
