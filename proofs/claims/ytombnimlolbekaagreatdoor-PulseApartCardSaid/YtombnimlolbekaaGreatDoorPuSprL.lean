import Derived.Test.YtombnimlolbekaaGreatDoorPuSpr
import Derived.Test.YtombnimlolbekaaGreatDoorPuRunsL
namespace Go.Proofs.YtombnimlolbekaaGreatDoor
open Go Fw
set_option maxRecDepth 100000

theorem lists_args {ps : List PVal} (h : HasTy (.sl (.sl (.int .i64))) ps) : ∃ ls : List (List Int), ps = [.sl (pL ls) ls.length] ∧ ls.length ≤ 9223372036854775807 := by
 obtain ⟨rows, h1, h2, h3⟩ := h
 have : ∃ ls : List (List Int), rows.flatten = pL ls ∧ ls.length = rows.length := by
  clear h1 h3
  induction rows with
  | nil => exact ⟨[], rfl, rfl⟩
  | cons r rest ih =>
   obtain ⟨ls, e1, e2⟩ := ih (fun r hr => h2 r (by simp [hr]))
   obtain ⟨q, q1, q2, _⟩ := (h2 r (by simp)).1
   obtain ⟨l, l1, l2, _⟩ := rows_ints q q2
   exact ⟨l :: ls, by rw [List.flatten_cons, e1, q1, l1, ← l2]; rfl, by simp [e2]⟩
 obtain ⟨ls, e1, e2⟩ := this
 exact ⟨ls, by rw [h1, e1, e2], by omega⟩

abbrev TsSpr : List Ty := [.sl (.sl (.int .i64)), .int .i64, .st [.int .i64, .int .i64, .int .i64]]
end Go.Proofs.YtombnimlolbekaaGreatDoor
