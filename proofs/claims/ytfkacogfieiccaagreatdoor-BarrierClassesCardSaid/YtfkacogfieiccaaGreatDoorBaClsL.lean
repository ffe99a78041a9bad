import Derived.Test.YtfkacogfieiccaaGreatDoorBaN4
import Derived.Test.YtfkacogfieiccaaGreatDoorBaSpdL
namespace Go.Proofs.YtfkacogfieiccaaGreatDoor
open Go Fw
set_option maxRecDepth 100000

abbrev classTy : Ty := .st [.str, bandTy, bandTy]
theorem class_args {ps : List PVal} (h : HasTy classTy ps) : ∃ g : ClsI, ps = kc5 g := by
  obtain ⟨_, r1, rfl, ⟨w, rfl, _⟩, _, s, r2, rfl, hs, _, o, r3, rfl, ho, _, hr⟩ := h
  have hr' : r3 = [] := hr
  subst hr'
  obtain ⟨a, b, rfl⟩ := band_args hs
  obtain ⟨c, e, rfl⟩ := band_args ho
  exact ⟨⟨w, a, b, c, e⟩, rfl⟩
theorem class_rows : ∀ (rows : List (List PVal)), (∀ r ∈ rows, HasTy classTy r ∧ r.length = classTy.size) → ∃ l : List ClsI, rows.flatten = rowC kc5 l ∧ l.length = rows.length := by
  intro rows
  induction rows with
  | nil => intro _; exact ⟨[], rfl, rfl⟩
  | cons r rest ih =>
    intro h
    obtain ⟨l, h1, h2⟩ := ih (fun r hr => h r (by simp [hr]))
    obtain ⟨g, hg⟩ := class_args (h r (by simp)).1
    exact ⟨g :: l, by simp [hg, h1, rowC_cons], by simp [h2]⟩
abbrev TsCls : List Ty := [.sl classTy, bandTy, bandTy]
theorem cls_law (pss : List (List PVal)) (h : HasArgs TsCls pss) : (evP F C0 G0 61 4 (argsOf TsCls pss)).All (· = .p (.bool true)) := by
  obtain ⟨ps, qs, rs, rfl, h1, h2, h3⟩ := HasArgs3 h
  obtain ⟨rows, rfl, b1, b2⟩ := h1
  obtain ⟨l, s1, s2⟩ := class_rows rows b1
  obtain ⟨a, b, rfl⟩ := band_args h2
  obtain ⟨x, y, rfl⟩ := band_args h3
  have := cls_at l (by omega) a b x y
  rw [s1, ← s2]
  show (RUN 61 4 [ksl l, .agg [iv a, iv b], .agg [iv x, iv y]]).All _
  rw [this]
  exact rfl
end Go.Proofs.YtfkacogfieiccaaGreatDoor
