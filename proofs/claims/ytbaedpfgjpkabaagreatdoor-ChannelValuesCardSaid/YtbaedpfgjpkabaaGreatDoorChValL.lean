import Derived.Test.YtbaedpfgjpkabaaGreatDoorChVal
import Derived.Test.YtbaedpfgjpkabaaGreatDoorChA
import Derived.Test.YtbaedpfgjpkabaaGreatDoorChArgs
import Derived.Test.YtbaedpfgjpkabaaGreatDoorChG
namespace Fw
open Go
abbrev valTy : Ty := .st [.int .i64, .int .i64, .bool, .bool]
theorem val_rows : ∀ (rows : List (List PVal)), (∀ r ∈ rows, HasTy valTy r ∧ r.length = Ty.size valTy) → ∃ l : List ValI, rows.flatten = rowC vc l ∧ l.length = rows.length := by
  intro rows
  induction rows with
  | nil => intro _; exact ⟨[], rfl, rfl⟩
  | cons r rest ih =>
    intro h
    obtain ⟨l, h1, h2⟩ := ih (fun r hr => h r (by simp [hr]))
    obtain ⟨_, r1, hr, ⟨a, rfl, _⟩, _, _, r2, rfl, ⟨b, rfl, _⟩, _, _, r3, rfl, ⟨u, rfl⟩, _, _, r4, rfl, ⟨o, rfl⟩, _, hr4⟩ := (h r (by simp)).1
    have hr' : r4 = [] := hr4
    subst hr'
    exact ⟨⟨a, b, u, o⟩ :: l, by rw [List.flatten_cons, h1, hr]; rfl, by simp [h2]⟩
theorem vals_args {ps : List PVal} (h : HasTy (.sl valTy) ps) : ∃ l : List ValI, ps = [.sl (rowC vc l) l.length] := by
  obtain ⟨rows, rfl, b1, b2⟩ := h
  obtain ⟨l, s1, s2⟩ := val_rows rows b1
  exact ⟨l, by rw [s1, ← s2]⟩
end Fw
namespace Go.Proofs.YtbaedpfgjpkabaaGreatDoor
open Go Fw
set_option maxRecDepth 100000
theorem evP_RUN (f : Nat) (args : List AVal) : evP F C0 G0 61 f args = RUN 61 f args := rfl
theorem awake60 : RUN 60 15 [] = .ret (.p (.bool true)) := awake
attribute [local irreducible] evP T.All callPure
abbrev TsVal : List Ty := [.sl valTy]
theorem val_law (pss : List (List PVal)) (h : HasArgs TsVal pss) : (evP F C0 G0 61 7 (argsOf TsVal pss)).All (· = .p (.bool true)) := by
  obtain ⟨ps, rfl, h1⟩ := HasArgs1 h
  obtain ⟨l, rfl⟩ := vals_args h1
  have ha : argsOf TsVal [[.sl (rowC vc l) l.length]] = [vsl l] := rfl
  rw [evP_RUN, ha, val_at awake60 l, All_ret]
end Go.Proofs.YtbaedpfgjpkabaaGreatDoor
