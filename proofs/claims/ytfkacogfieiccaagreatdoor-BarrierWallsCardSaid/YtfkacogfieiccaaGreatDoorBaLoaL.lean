import Derived.Test.YtfkacogfieiccaaGreatDoorBaW1
import Derived.Test.YtfkacogfieiccaaGreatDoorBaArgs
import Derived.Test.YtfkacogfieiccaaGreatDoorBaG
namespace Go.Proofs.YtfkacogfieiccaaGreatDoor
open Go Fw
set_option maxRecDepth 100000

abbrev loadTy : Ty := .st [.str, bandTy, .int .i64, .int .i64, .sl (.int .i64)]
theorem load_args {ps : List PVal} (h : HasTy loadTy ps) : ∃ g : LoadI, ps = lc6 g := by
  obtain ⟨_, r1, rfl, ⟨w, rfl, _⟩, _, s, r2, rfl, hs, _, _, r3, rfl, ⟨a, rfl, _⟩, _, _, r4, rfl, ⟨b, rfl, _⟩, _, _, r5, rfl, ⟨rows, rfl, a1, _⟩, _, hr⟩ := h
  have hr' : r5 = [] := hr
  subst hr'
  obtain ⟨x, y, rfl⟩ := band_args hs
  obtain ⟨l, l1, l2, _⟩ := rows_ints rows a1
  exact ⟨⟨w, x, y, a, b, l⟩, by simp [l1, l2]⟩
theorem load_rows : ∀ (rows : List (List PVal)), (∀ r ∈ rows, HasTy loadTy r ∧ r.length = loadTy.size) → ∃ l : List LoadI, rows.flatten = rowC lc6 l ∧ l.length = rows.length := by
  intro rows
  induction rows with
  | nil => intro _; exact ⟨[], rfl, rfl⟩
  | cons r rest ih =>
    intro h
    obtain ⟨l, h1, h2⟩ := ih (fun r hr => h r (by simp [hr]))
    obtain ⟨g, hg⟩ := load_args (h r (by simp)).1
    exact ⟨g :: l, by simp [hg, h1, rowC_cons], by simp [h2]⟩
theorem evP_RUN (n f : Nat) (args : List AVal) : evP F C0 G0 n f args = RUN n f args := rfl
end Go.Proofs.YtfkacogfieiccaaGreatDoor
