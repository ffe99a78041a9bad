import Derived.Test.YtfkacogfieiccaaGreatDoorBaTow
import Derived.Test.YtfkacogfieiccaaGreatDoorBaArgs
import Derived.Test.YtfkacogfieiccaaGreatDoorBaG
namespace Go.Proofs.YtfkacogfieiccaaGreatDoor
open Go Fw
set_option maxRecDepth 100000

abbrev TsTow : List Ty := [towTy, .arr 3 (.int .i64)]
theorem three_args {ps : List PVal} (h : HasTy (.arr 3 (.int .i64)) ps) : ∃ a b c : Int, ps = [.int .i64 a, .int .i64 b, .int .i64 c] := by
  obtain ⟨rows, h1, rfl, h2⟩ := h
  obtain ⟨l, e, h3, _⟩ := rows_ints rows h2
  rw [h1] at h3
  match l, h3 with
  | [a, b, c], _ => exact ⟨a, b, c, e⟩
theorem tow_law (pss : List (List PVal)) (h : HasArgs TsTow pss) : (evP F C0 G0 61 5 (argsOf TsTow pss)).All (· = .p (.bool true)) := by
  obtain ⟨ps, qs, rfl, h1, h2⟩ := HasArgs2 h
  obtain ⟨t, rfl⟩ := tow_args h1
  obtain ⟨c, f, b, rfl⟩ := three_args h2
  have := tow_at t c f b
  show (RUN 61 5 [twa t, .agg [iv c, iv f, iv b]]).All _
  rw [this]
  exact rfl
end Go.Proofs.YtfkacogfieiccaaGreatDoor
