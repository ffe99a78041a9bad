import Derived.Test.YtbaedpfgjpkabaaGreatDoorChStr
import Derived.Test.YtbaedpfgjpkabaaGreatDoorChA
import Derived.Test.YtbaedpfgjpkabaaGreatDoorChArgs
import Derived.Test.YtbaedpfgjpkabaaGreatDoorChG
namespace Fw
open Go
theorem sen_rows : ∀ (rows : List (List PVal)), (∀ r ∈ rows, HasTy (.st [.str, .int .i64, bandTy]) r ∧ r.length = Ty.size (.st [.str, .int .i64, bandTy])) → ∃ l : List SenI, rows.flatten = rowC sc l ∧ l.length = rows.length := by
  intro rows
  induction rows with
  | nil => intro _; exact ⟨[], rfl, rfl⟩
  | cons r rest ih =>
    intro h
    obtain ⟨l, h1, h2⟩ := ih (fun r hr => h r (by simp [hr]))
    obtain ⟨_, r1, hr, ⟨p, rfl, _⟩, _, _, r2, rfl, ⟨sc', rfl, _⟩, _, _, r3, rfl, hb, _, hr3⟩ := (h r (by simp)).1
    have hr' : r3 = [] := hr3
    subst hr'
    obtain ⟨a, b, rfl⟩ := band_args hb
    exact ⟨⟨p, sc', a, b⟩ :: l, by rw [List.flatten_cons, h1, hr]; rfl, by simp [h2]⟩
theorem sens_args {ps : List PVal} (h : HasTy (.sl (.st [.str, .int .i64, bandTy])) ps) : ∃ l : List SenI, ps = [.sl (rowC sc l) l.length] ∧ l.length ≤ 9223372036854775807 := by
  obtain ⟨rows, rfl, b1, b2⟩ := h
  obtain ⟨l, s1, s2⟩ := sen_rows rows b1
  exact ⟨l, by rw [s1, ← s2], by omega⟩
end Fw
namespace Go.Proofs.YtbaedpfgjpkabaaGreatDoor
open Go Fw
set_option maxRecDepth 100000
theorem gokS {w : World} (hL : laidMetH Tryz.prog Rows.channelStringsRow.laid w) : GOk G0 w (fun _ => True) := by
  obtain ⟨qs, h, _⟩ := (laidMetH_iff.1 hL).1
  have hm : ∃ qs, DataW.LaidVars Tryz.prog w (Rows.channelStringsRow.laid.filter fun x => x.2.handleName?.isNone) qs := ⟨qs, h⟩
  intro g cs hg
  unfold G0 at hg
  split at hg <;> first | (cases hg; done) | skip
  all_goals (rw [Option.some.injEq] at hg; subst hg)
  · exact laid_data (n := 8) hm (List.mem_filter.2 ⟨List.mem_of_getElem? (i := 4) rfl, by kernel_rfl⟩) (by kernel_rfl) (t := 169) (by kernel_rfl) (by kernel_rfl)
  · exact laid_data (n := 8) hm (List.mem_filter.2 ⟨List.mem_of_getElem? (i := 5) rfl, by kernel_rfl⟩) (by kernel_rfl) (t := 140) (by kernel_rfl) (by kernel_rfl)
  · exact laid_funcs (n := 8) hL (List.mem_of_getElem? (i := 6) rfl) (by kernel_rfl) (t := 186) (by kernel_rfl) (by kernel_rfl)
  · exact laid_funcs (n := 8) hL (List.mem_of_getElem? (i := 7) rfl) (by kernel_rfl) (t := 186) (by kernel_rfl) (by kernel_rfl)
  · exact laid_funcs (n := 8) hL (List.mem_of_getElem? (i := 8) rfl) (by kernel_rfl) (t := 186) (by kernel_rfl) (by kernel_rfl)
  · exact laid_data (n := 8) hm (List.mem_filter.2 ⟨List.mem_of_getElem? (i := 2) rfl, by kernel_rfl⟩) (by kernel_rfl) (t := 293) (by kernel_rfl) (by kernel_rfl)
theorem awake60 : RUN 60 15 [] = .ret (.p (.bool true)) := awake
attribute [local irreducible] evP T.All callPure
abbrev TsStr : List Ty := [.sl (.st [.str, .int .i64, bandTy]), .str]
end Go.Proofs.YtbaedpfgjpkabaaGreatDoor
