import Derived.Test.YtbaedpfgjpkabaaGreatDoorChSum2
import Derived.Test.YtbaedpfgjpkabaaGreatDoorChA
import Derived.Test.YtbaedpfgjpkabaaGreatDoorChArgs
import Derived.Test.YtbaedpfgjpkabaaGreatDoorChG
namespace Fw
open Go
theorem rows_recs : ∀ (rows : List (List PVal)), (∀ r ∈ rows, HasTy (.sl (.flt .f32)) r ∧ r.length = Ty.size (.sl (.flt .f32))) → ∃ l : List (List Nat), rows.flatten = pL l ∧ l.length = rows.length := by
  intro rows
  induction rows with
  | nil => intro _; exact ⟨[], rfl, rfl⟩
  | cons r rest ih =>
    intro h
    obtain ⟨l, h1, h2⟩ := ih (fun r hr => h r (by simp [hr]))
    obtain ⟨x, hx⟩ := floats_args (h r (by simp)).1
    exact ⟨x :: l, by simp [hx, h1, pL], by simp [h2]⟩
theorem recs_args {ps : List PVal} (h : HasTy (.sl (.sl (.flt .f32))) ps) : ∃ l : List (List Nat), ps = [.sl (pL l) l.length] := by
  obtain ⟨rows, rfl, b1, _⟩ := h
  obtain ⟨l, s1, s2⟩ := rows_recs rows b1
  exact ⟨l, by rw [s1, ← s2]⟩
end Fw
namespace Go.Proofs.YtbaedpfgjpkabaaGreatDoor
open Go Fw
set_option maxRecDepth 100000
theorem evP_RUN (f : Nat) (args : List AVal) : evP F C0 G0 61 f args = RUN 61 f args := rfl
theorem awake60 : RUN 60 15 [] = .ret (.p (.bool true)) := awake
attribute [local irreducible] evP T.All callPure
abbrev serTy : Ty := .st [.sl (.flt .f32), .sl (.flt .f32), .st [.str, .int .i64, .int .i64], .int .i64]
abbrev TsSum : List Ty := [serTy, .sl (.sl (.flt .f32))]
theorem sum_law (pss : List (List PVal)) (h : HasArgs TsSum pss) : (evP F C0 G0 61 9 (argsOf TsSum pss)).All (· = .p (.bool true)) := by
  obtain ⟨ps, qs, rfl, h1, h2⟩ := HasArgs2 h
  obtain ⟨_, r1, rfl, ha, _, _, r2, rfl, hb, _, _, r3, rfl, hc, _, _, r4, rfl, ⟨s, rfl, _⟩, _, hr⟩ := h1
  have hr' : r4 = [] := hr
  subst hr'
  obtain ⟨A, rfl⟩ := floats_args ha
  obtain ⟨B, rfl⟩ := floats_args hb
  obtain ⟨_, q1, rfl, ⟨p, rfl, _⟩, _, _, q2, rfl, ⟨ax, rfl, _⟩, _, _, q3, rfl, ⟨sg, rfl, _⟩, _, hq⟩ := hc
  have hq' : q3 = [] := hq
  subst hq'
  obtain ⟨l, rfl⟩ := recs_args h2
  have ha : argsOf TsSum [[.sl (pF A) A.length] ++ ([.sl (pF B) B.length] ++ (([.str p] ++ ([.int .i64 ax] ++ ([.int .i64 sg] ++ []))) ++ ([.int .i64 s] ++ []))), [.sl (pL l) l.length]] = [.agg [fsl A, fsl B, sv p, iv ax, iv sg, iv s], lsl l] := rfl
  rw [evP_RUN, ha, sum_at awake60 A B ⟨p, ax, sg⟩ s l, All_ret]
end Go.Proofs.YtbaedpfgjpkabaaGreatDoor
