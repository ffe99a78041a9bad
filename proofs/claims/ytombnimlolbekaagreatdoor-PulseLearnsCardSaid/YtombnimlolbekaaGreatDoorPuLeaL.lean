import Derived.Test.YtombnimlolbekaaGreatDoorPuLea
import Derived.Test.YtombnimlolbekaaGreatDoorPuRunsL
namespace Go.Proofs.YtombnimlolbekaaGreatDoor
open Go Fw
set_option maxRecDepth 100000

abbrev pairTy : Ty := .st [.int .i64, .int .i64]
abbrev lessonTy : Ty := .st [.sl pairTy, .sl (.int .i64), .int .i64, .int .i64, .int .i64]
theorem lesson_args {ps : List PVal} (h : HasTy lessonTy ps) : ∃ (c : List (Int × Int)) (p : List Int) (a b d : Int), ps = [.sl (cI c) c.length, .sl (pI p) p.length, .int .i64 a, .int .i64 b, .int .i64 d] := by
  obtain ⟨_, r1, rfl, h1, _, _, r2, rfl, h2, _, _, r3, rfl, ⟨a, rfl, _⟩, _, _, r4, rfl, ⟨b, rfl, _⟩, _, _, r5, rfl, ⟨d, rfl, _⟩, _, hr⟩ := h
  have hr' : r5 = [] := hr
  subst hr'
  obtain ⟨c, rfl⟩ := pairs_args h1
  obtain ⟨q, q1, q2, _⟩ := h2
  obtain ⟨p, p1, p2, _⟩ := rows_ints q q2
  exact ⟨c, p, a, b, d, by rw [q1, p1, ← p2]; rfl⟩

abbrev TsLea : List Ty := [sledTy, .sl pairTy, lessonTy]
theorem lea_law (pss : List (List PVal)) (h : HasArgs TsLea pss) : (evP F C0 G0 61 5 (argsOf TsLea pss)).All (· = .p (.bool true)) := by
  obtain ⟨ps, qs, rs, rfl, h1, h2, h3⟩ := HasArgs3 h
  · obtain ⟨s, rfl⟩ := sled_args h1
    obtain ⟨l, rfl⟩ := pairs_args h2
    obtain ⟨c, p, a, b, d, rfl⟩ := lesson_args h3
    have := lea_at s l c p a b d
    show (RUN 61 5 [sla s, csl l, .agg [csl c, isl p, iv a, iv b, iv d]]).All _
    rw [this]
    exact rfl
end Go.Proofs.YtombnimlolbekaaGreatDoor
