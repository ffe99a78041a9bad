import Derived.Test.YtombnimlolbekaaGreatDoorPuSpr
import Derived.Test.YtombnimlolbekaaGreatDoorPuRunsL
namespace Go.Proofs.YtombnimlolbekaaGreatDoor
open Go Fw
set_option maxRecDepth 100000

theorem lists_args {ps : List PVal} (h : HasTy (.sl (.sl (.int .i64))) ps) : ∃ ls : List (List Int), ps = [.sl (pL ls) ls.length] ∧ ls.length ≤ 9223372036854775807 := by
  obtain ⟨rows, h1, h2, h3⟩ := h
  have : ∃ ls : List (List Int), rows.flatten = pL ls ∧ ls.length = rows.length := by
    clear h1 h3
    induction rows with
    | nil => exact ⟨[], rfl, rfl⟩
    | cons r rest ih =>
      obtain ⟨ls, e1, e2⟩ := ih (fun r hr => h2 r (by simp [hr]))
      obtain ⟨q, q1, q2, _⟩ := (h2 r (by simp)).1
      obtain ⟨l, l1, l2, _⟩ := rows_ints q q2
      exact ⟨l :: ls, by rw [List.flatten_cons, e1, q1, l1, ← l2]; rfl, by simp [e2]⟩
  obtain ⟨ls, e1, e2⟩ := this
  exact ⟨ls, by rw [h1, e1, e2], by omega⟩

theorem three_args {ps : List PVal} (h : HasTy (.st [.int .i64, .int .i64, .int .i64]) ps) : ∃ a b c : Int, ps = [.int .i64 a, .int .i64 b, .int .i64 c] := by
  obtain ⟨_, r1, rfl, ⟨a, rfl, _⟩, _, _, r2, rfl, ⟨b, rfl, _⟩, _, _, r3, rfl, ⟨c, rfl, _⟩, _, hr⟩ := h
  have hr' : r3 = [] := hr
  subst hr'
  exact ⟨a, b, c, rfl⟩

abbrev TsSpr : List Ty := [.sl (.sl (.int .i64)), .int .i64, .st [.int .i64, .int .i64, .int .i64]]
theorem spr_law (pss : List (List PVal)) (h : HasArgs TsSpr pss) : (evP F C0 G0 61 6 (argsOf TsSpr pss)).All (· = .p (.bool true)) := by
  obtain ⟨ps, qs, rs, rfl, h1, h2, h3⟩ := HasArgs3 h
  · obtain ⟨ls, rfl, hl⟩ := lists_args h1
    obtain ⟨t, rfl, _⟩ := h2
    obtain ⟨a, b, c, rfl⟩ := three_args h3
    have := spr_at ls t ⟨a, b, c⟩ hl
    show (RUN 61 6 [llsl ls, iv t, spa ⟨a, b, c⟩]).All _
    rw [this]
    exact rfl

end Go.Proofs.YtombnimlolbekaaGreatDoor
