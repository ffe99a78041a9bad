import Derived.Test.YtfkacogfieiccaaGreatDoorBaW5
import Derived.Test.YtfkacogfieiccaaGreatDoorBaLoaL
namespace Go.Proofs.YtfkacogfieiccaaGreatDoor
open Go Fw
set_option maxRecDepth 100000

abbrev partTy : Ty := .st [.str, bandTy, bandTy, bandTy]
theorem part_args {ps : List PVal} (h : HasTy partTy ps) : ∃ g : PartI, ps = pc7 g := by
  obtain ⟨_, r1, rfl, ⟨w, rfl, _⟩, _, s, r2, rfl, hs, _, o, r3, rfl, ho, _, q, r4, rfl, hq, _, hr⟩ := h
  have hr' : r4 = [] := hr
  subst hr'
  obtain ⟨a, b, rfl⟩ := band_args hs
  obtain ⟨c, e, rfl⟩ := band_args ho
  obtain ⟨f, g, rfl⟩ := band_args hq
  exact ⟨⟨w, a, b, c, e, f, g⟩, rfl⟩
theorem part_rows : ∀ (rows : List (List PVal)), (∀ r ∈ rows, HasTy partTy r ∧ r.length = partTy.size) → ∃ l : List PartI, rows.flatten = rowC pc7 l ∧ l.length = rows.length := by
  intro rows
  induction rows with
  | nil => intro _; exact ⟨[], rfl, rfl⟩
  | cons r rest ih =>
    intro h
    obtain ⟨l, h1, h2⟩ := ih (fun r hr => h r (by simp [hr]))
    obtain ⟨g, hg⟩ := part_args (h r (by simp)).1
    exact ⟨g :: l, by simp [hg, h1, rowC_cons], by simp [h2]⟩
attribute [local irreducible] evP T.All callPure
abbrev TsBal : List Ty := [.sl partTy, .sl loadTy]
theorem bal_law (pss : List (List PVal)) (h : HasArgs TsBal pss) : (evP F C0 G0 61 7 (argsOf TsBal pss)).All (· = .p (.bool true)) := by
  obtain ⟨ps, qs, rfl, h1, h2⟩ := HasArgs2 h
  obtain ⟨rows, rfl, b1, b2⟩ := h1
  obtain ⟨l, s1, s2⟩ := part_rows rows b1
  obtain ⟨rows2, rfl, c1, c2⟩ := h2
  obtain ⟨w, t1, t2⟩ := load_rows rows2 c1
  have := bal_at l (by omega) w (by omega)
  have ha : argsOf TsBal [[.sl rows.flatten rows.length], [.sl rows2.flatten rows2.length]] = [ptl l, lol w] := by
    rw [s1, ← s2, t1, ← t2]
    rfl
  rw [evP_RUN, ha, this, All_ret]
end Go.Proofs.YtfkacogfieiccaaGreatDoor
