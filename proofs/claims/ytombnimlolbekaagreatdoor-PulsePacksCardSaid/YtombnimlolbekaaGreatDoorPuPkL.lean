import Derived.Test.YtombnimlolbekaaGreatDoorPuPk
import Derived.Test.YtombnimlolbekaaGreatDoorPuArgs
import Derived.Test.YtombnimlolbekaaGreatDoorPuG
namespace Go.Proofs.YtombnimlolbekaaGreatDoor
open Go Fw
set_option maxRecDepth 100000

abbrev packTy : Ty := .st [.str, .int .i64, .int .i64, .int .i64]
theorem pack_args {ps : List PVal} (h : HasTy packTy ps) : ∃ x : PackI, ps = pkc x ∧ x.name.length ≤ 9223372036854775807 := by
  obtain ⟨_, r1, rfl, ⟨s, rfl, hs⟩, _, _, r2, rfl, ⟨a, rfl, _⟩, _, _, r3, rfl, ⟨b, rfl, _⟩, _, _, r4, rfl, ⟨c, rfl, _⟩, _, hr⟩ := h
  have hr' : r4 = [] := hr
  subst hr'
  exact ⟨⟨s, a, b, c⟩, rfl, hs⟩
theorem rows_packs : ∀ (rows : List (List PVal)), (∀ r ∈ rows, HasTy packTy r ∧ r.length = Ty.size packTy) → ∃ l : List PackI, rows.flatten = cP l ∧ l.length = rows.length ∧ ∀ x ∈ l, x.name.length ≤ 9223372036854775807 := by
  intro rows
  induction rows with
  | nil => intro _; exact ⟨[], rfl, rfl, fun x hx => by cases hx⟩
  | cons r rest ih =>
    intro h
    obtain ⟨l, h1, h2, h3⟩ := ih (fun r hr => h r (by simp [hr]))
    obtain ⟨x, rfl, hx⟩ := pack_args (h r (by simp)).1
    refine ⟨x :: l, by simp [h1, cP], by simp [h2], fun y hy => ?_⟩
    rcases List.mem_cons.1 hy with e | e
    · subst e; exact hx
    · exact h3 y e
theorem target_args {ps : List PVal} (h : HasTy (.st [.st [.int .i64, .int .i64], .int .i64]) ps) : ∃ (x : Int × Int) (p : Int), ps = [.int .i64 x.1, .int .i64 x.2, .int .i64 p] := by
  obtain ⟨g, r1, rfl, ⟨g1, g2, rfl, ⟨a, rfl, _⟩, _, g3, g4, rfl, ⟨b, rfl, _⟩, _, hg4⟩, _, x1, r2, rfl, ⟨p, rfl, _⟩, _, hr⟩ := h
  have hg4' : g4 = [] := hg4
  have hr' : r2 = [] := hr
  subst hg4' hr'
  exact ⟨(a, b), p, rfl⟩

abbrev TsPk : List Ty := [.sl packTy, .sl (.int .i64), .st [.st [.int .i64, .int .i64], .int .i64]]
theorem pk_law (pss : List (List PVal)) (h : HasArgs TsPk pss) : (evP F C0 G0 61 10 (argsOf TsPk pss)).All (· = .p (.bool true)) := by
  obtain ⟨ps, qs, rs, rfl, h1, h2, h3⟩ := HasArgs3 h
  obtain ⟨rows, rfl, a1, a2⟩ := h1
  obtain ⟨l, l1, l2, l3⟩ := rows_packs rows a1
  obtain ⟨rows', rfl, b1, _⟩ := h2
  obtain ⟨set, s1, s2, _⟩ := rows_ints rows' b1
  obtain ⟨x, p, rfl⟩ := target_args h3
  have := pk_at l set x p (by omega) l3
  rw [l1, ← l2, s1, ← s2]
  show (RUN 61 10 [psl l, isl set, .agg [iv x.1, iv x.2, iv p]]).All _
  rw [this]
  exact rfl
end Go.Proofs.YtombnimlolbekaaGreatDoor
