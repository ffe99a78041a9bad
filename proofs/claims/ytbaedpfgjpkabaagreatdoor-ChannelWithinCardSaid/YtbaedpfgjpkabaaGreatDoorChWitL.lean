import Derived.Test.YtbaedpfgjpkabaaGreatDoorChWiA
import Derived.Test.YtbaedpfgjpkabaaGreatDoorChA
import Derived.Test.YtbaedpfgjpkabaaGreatDoorChArgs
import Derived.Test.YtbaedpfgjpkabaaGreatDoorChG
namespace Fw
open Go
theorem rows_8 : ∀ (rows : List (List PVal)), (∀ r ∈ rows, HasTy (.int .i8) r ∧ r.length = Ty.size (.int .i8)) → ∃ l : List Int, rows.flatten = p8 l ∧ l.length = rows.length ∧ ∀ n ∈ l, -128 ≤ n ∧ n ≤ 127 := by
  intro rows
  induction rows with
  | nil => intro _; exact ⟨[], rfl, rfl, fun x hx => by cases hx⟩
  | cons r rest ih =>
    intro h
    obtain ⟨l, h1, h2, h3⟩ := ih (fun r hr => h r (by simp [hr]))
    obtain ⟨n, hn, hb⟩ := (h r (by simp)).1
    refine ⟨n :: l, by simp [hn, h1, p8], by simp [h2], fun x hx => ?_⟩
    rcases List.mem_cons.1 hx with e | e
    · subst e; exact hb
    · exact h3 x e
theorem ints8_args {ps : List PVal} (h : HasTy (.sl (.int .i8)) ps) : ∃ l : List Int, ps = [.sl (p8 l) l.length] ∧ ∀ n ∈ l, -128 ≤ n ∧ n ≤ 127 := by
  obtain ⟨rows, rfl, b1, _⟩ := h
  obtain ⟨l, s1, s2, s3⟩ := rows_8 rows b1
  exact ⟨l, by rw [s1, ← s2], s3⟩
theorem four8_args {ps : List PVal} (h : HasTy (.arr 4 (.int .u8)) ps) : ∃ a b c d : Int, ps = [.int .u8 a, .int .u8 b, .int .u8 c, .int .u8 d] ∧ (0 ≤ a ∧ a ≤ 255) ∧ (0 ≤ b ∧ b ≤ 255) ∧ (0 ≤ c ∧ c ≤ 255) ∧ (0 ≤ d ∧ d ≤ 255) := by
  obtain ⟨rows, h1, rfl, h2⟩ := h
  match rows, h1 with
  | [x, y, z, w], _ =>
    obtain ⟨a, rfl, ha⟩ := (h2 x (by simp)).1
    obtain ⟨b, rfl, hb⟩ := (h2 y (by simp)).1
    obtain ⟨c, rfl, hc⟩ := (h2 z (by simp)).1
    obtain ⟨d, rfl, hd⟩ := (h2 w (by simp)).1
    exact ⟨a, b, c, d, rfl, ha, hb, hc, hd⟩
end Fw
namespace Go.Proofs.YtbaedpfgjpkabaaGreatDoor
open Go Fw
set_option maxRecDepth 100000
theorem evP_RUN (f : Nat) (args : List AVal) : evP F C0 G0 61 f args = RUN 61 f args := rfl
theorem awake60 : RUN 60 15 [] = .ret (.p (.bool true)) := awake
attribute [local irreducible] evP T.All callPure
abbrev TsWit : List Ty := [.sl (.int .i64), .sl (.int .i8), .arr 4 (.int .u8)]
theorem wit_law (pss : List (List PVal)) (h : HasArgs TsWit pss) : (evP F C0 G0 61 12 (argsOf TsWit pss)).All (· = .p (.bool true)) := by
  obtain ⟨ps, qs, rs, rfl, h1, h2, h3⟩ := HasArgs3 h
  obtain ⟨k, rfl⟩ := ints_args h1
  obtain ⟨l, rfl, hl⟩ := ints8_args h2
  obtain ⟨n0, n1, n2, n3, rfl, b0, b1, b2, b3⟩ := four8_args h3
  have ha : argsOf TsWit [[.sl (pI k) k.length], [.sl (p8 l) l.length], [.int .u8 n0, .int .u8 n1, .int .u8 n2, .int .u8 n3]] = [isl k, l8 l, n8 n0 n1 n2 n3] := rfl
  rw [evP_RUN, ha, wit_at awake60 k l hl n0 n1 n2 n3 b0 b1 b2 b3, All_ret]
end Go.Proofs.YtbaedpfgjpkabaaGreatDoor
