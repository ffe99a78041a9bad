import Derived.Test.YtfkacogfieiccaaGreatDoorBaShelf
import Derived.Test.YtfkacogfieiccaaGreatDoorBaArgs
import Derived.Test.YtfkacogfieiccaaGreatDoorBaG
namespace Go.Proofs.YtfkacogfieiccaaGreatDoor
open Go Fw
set_option maxRecDepth 100000

theorem three_bytes {ps : List PVal} (h : HasTy (.arr 3 (.int .u8)) ps) : ∃ a b c : Int, ps = [.int .u8 a, .int .u8 b, .int .u8 c] ∧ (0 ≤ a ∧ a ≤ 255) ∧ (0 ≤ b ∧ b ≤ 255) ∧ (0 ≤ c ∧ c ≤ 255) := by
 obtain ⟨rows, h1, rfl, h2⟩ := h
 match rows, h1 with
 | [r, q, s], _ =>
  obtain ⟨a, rfl, ha⟩ := (h2 r (by simp)).1
  obtain ⟨b, rfl, hb⟩ := (h2 q (by simp)).1
  obtain ⟨c, rfl, hc⟩ := (h2 s (by simp)).1
  exact ⟨a, b, c, rfl, ha, hb, hc⟩
theorem evP_RUNf (n f : Nat) (args : List AVal) : evP F C0 G0 n f args = RUN n f args := rfl
attribute [local irreducible] evP T.All callPure
abbrev TsFar : List Ty := [towTy, .arr 3 (.int .u8)]
theorem far_law (pss : List (List PVal)) (h : HasArgs TsFar pss) : (evP F C0 G0 61 11 (argsOf TsFar pss)).All (· = .p (.bool true)) := by
 obtain ⟨ps, qs, rfl, h1, h2⟩ := HasArgs2 h
 obtain ⟨t, rfl⟩ := tow_args h1
 obtain ⟨a, b, c, rfl, ha, hb, hc⟩ := three_bytes h2
 have := farther_at t a b c ha hb hc
 have e : argsOf TsFar [twc t, [.int .u8 a, .int .u8 b, .int .u8 c]] = [twa t, .agg [.p (.int .u8 a), .p (.int .u8 b), .p (.int .u8 c)]] := rfl
 rw [evP_RUNf, e, this, All_ret]
end Go.Proofs.YtfkacogfieiccaaGreatDoor
