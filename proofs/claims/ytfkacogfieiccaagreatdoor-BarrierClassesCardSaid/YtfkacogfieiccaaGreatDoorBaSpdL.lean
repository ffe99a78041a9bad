import Derived.Test.YtfkacogfieiccaaGreatDoorBaSpd
import Derived.Test.YtfkacogfieiccaaGreatDoorBaArgs
import Derived.Test.YtfkacogfieiccaaGreatDoorBaG
namespace Go.Proofs.YtfkacogfieiccaaGreatDoor
open Go Fw
set_option maxRecDepth 100000

abbrev gateTy : Ty := .st [.int .i64, bandTy]
theorem gate_args {ps : List PVal} (h : HasTy gateTy ps) : ∃ g : GateI, ps = gc3 g := by
  obtain ⟨_, r1, rfl, ⟨a, rfl, _⟩, _, s, r2, rfl, hs, _, hr⟩ := h
  have hr' : r2 = [] := hr
  subst hr'
  obtain ⟨lo, hi, rfl⟩ := band_args hs
  exact ⟨⟨a, lo, hi⟩, rfl⟩
theorem gate_rows : ∀ (rows : List (List PVal)), (∀ r ∈ rows, HasTy gateTy r ∧ r.length = gateTy.size) → ∃ l : List GateI, rows.flatten = rowC gc3 l ∧ l.length = rows.length := by
  intro rows
  induction rows with
  | nil => intro _; exact ⟨[], rfl, rfl⟩
  | cons r rest ih =>
    intro h
    obtain ⟨l, h1, h2⟩ := ih (fun r hr => h r (by simp [hr]))
    obtain ⟨g, hg⟩ := gate_args (h r (by simp)).1
    exact ⟨g :: l, by simp [hg, h1, rowC_cons], by simp [h2]⟩
theorem two_bands {ps : List PVal} (h : HasTy (.arr 2 bandTy) ps) : ∃ a b c e : Int, ps = [.int .i64 a, .int .i64 b, .int .i64 c, .int .i64 e] := by
  obtain ⟨rows, h1, rfl, h2⟩ := h
  match rows, h1 with
  | [x, y], _ =>
    obtain ⟨a, b, rfl⟩ := band_args (h2 x (by simp)).1
    obtain ⟨c, e, rfl⟩ := band_args (h2 y (by simp)).1
    exact ⟨a, b, c, e, rfl⟩
abbrev TsSpd : List Ty := [.sl gateTy, .arr 2 bandTy]
theorem spd_law (pss : List (List PVal)) (h : HasArgs TsSpd pss) : (evP F C0 G0 61 3 (argsOf TsSpd pss)).All (· = .p (.bool true)) := by
  obtain ⟨ps, qs, rfl, h1, h2⟩ := HasArgs2 h
  obtain ⟨rows, rfl, b1, _⟩ := h1
  obtain ⟨l, s1, s2⟩ := gate_rows rows b1
  obtain ⟨a, b, c, e, rfl⟩ := two_bands h2
  have := spd_at l a b c e
  rw [s1, ← s2]
  show (RUN 61 3 [gsl l, .agg [iv a, iv b, iv c, iv e]]).All _
  rw [this]
  exact rfl
end Go.Proofs.YtfkacogfieiccaaGreatDoor
