import Derived.Test.YtfkacogfieiccaaGreatDoorBaTab
import Derived.Test.YtfkacogfieiccaaGreatDoorBaArgs
import Derived.Test.YtfkacogfieiccaaGreatDoorBaG
namespace Go.Proofs.YtfkacogfieiccaaGreatDoor
open Go Fw
set_option maxRecDepth 100000

abbrev TsTab : List Ty := [towTy, .sl (.int .i64), .int .i64]
theorem tab_law (pss : List (List PVal)) (h : HasArgs TsTab pss) : (evP F C0 G0 61 6 (argsOf TsTab pss)).All (· = .p (.bool true)) := by
  obtain ⟨ps, qs, rs, rfl, h1, h2, h3⟩ := HasArgs3 h
  obtain ⟨t, rfl⟩ := tow_args h1
  obtain ⟨rows', rfl, b1, _⟩ := h2
  obtain ⟨tab, s1, s2, _⟩ := rows_ints rows' b1
  obtain ⟨c, rfl, _⟩ := h3
  have := tab_at t tab c
  rw [s1, ← s2]
  show (RUN 61 6 [twa t, isl tab, iv c]).All _
  rw [this]
  exact rfl
end Go.Proofs.YtfkacogfieiccaaGreatDoor
