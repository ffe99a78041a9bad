import Derived.Test.YtfkacogfieiccaaGreatDoorBaT6
import Derived.Test.YtfkacogfieiccaaGreatDoorBaArgs
import Derived.Test.YtfkacogfieiccaaGreatDoorBaG
namespace Go.Proofs.YtfkacogfieiccaaGreatDoor
open Go Fw
set_option maxRecDepth 100000

theorem two_bytes {ps : List PVal} (h : HasTy (.arr 2 (.int .u8)) ps) : ∃ a b : Int, ps = [.int .u8 a, .int .u8 b] ∧ (0 ≤ a ∧ a ≤ 255) ∧ (0 ≤ b ∧ b ≤ 255) := by
  obtain ⟨rows, h1, rfl, h2⟩ := h
  match rows, h1 with
  | [r, q], _ =>
    obtain ⟨a, rfl, ha⟩ := (h2 r (by simp)).1
    obtain ⟨b, rfl, hb⟩ := (h2 q (by simp)).1
    exact ⟨a, b, rfl, ha, hb⟩
theorem evP_RUNs (n f : Nat) (args : List AVal) : evP F C0 G0 n f args = RUN n f args := rfl
attribute [local irreducible] evP T.All callPure
abbrev TsSto : List Ty := [towTy, .arr 2 (.int .u8)]
theorem sto_law (pss : List (List PVal)) (h : HasArgs TsSto pss) : (evP F C0 G0 61 10 (argsOf TsSto pss)).All (· = .p (.bool true)) := by
  obtain ⟨ps, qs, rfl, h1, h2⟩ := HasArgs2 h
  obtain ⟨t, rfl⟩ := tow_args h1
  obtain ⟨a, b, rfl, ha, hb⟩ := two_bytes h2
  have := stop_at t a b ha hb
  have e : argsOf TsSto [twc t, [.int .u8 a, .int .u8 b]] = [twa t, .agg [.p (.int .u8 a), .p (.int .u8 b)]] := rfl
  rw [evP_RUNs, e, this, All_ret]
end Go.Proofs.YtfkacogfieiccaaGreatDoor
