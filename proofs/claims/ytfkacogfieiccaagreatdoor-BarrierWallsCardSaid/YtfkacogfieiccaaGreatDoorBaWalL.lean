import Derived.Test.YtfkacogfieiccaaGreatDoorBaX6
import Derived.Test.YtfkacogfieiccaaGreatDoorBaLoaL
namespace Go.Proofs.YtfkacogfieiccaaGreatDoor
open Go Fw
set_option maxRecDepth 100000

abbrev crushTy : Ty := .st [.sl (.int .i64), .sl (.int .i64), .int .i64]
theorem crush_args {ps : List PVal} (h : HasTy crushTy ps) : ∃ (f g : List Int) (x : Int), ps = [.sl (pI f) f.length, .sl (pI g) g.length, .int .i64 x] := by
  obtain ⟨_, r1, rfl, ⟨rows, rfl, a1, _⟩, _, _, r2, rfl, ⟨rows2, rfl, b1, _⟩, _, _, r3, rfl, ⟨x, rfl, _⟩, _, hr⟩ := h
  have hr' : r3 = [] := hr
  subst hr'
  obtain ⟨f, f1, f2, _⟩ := rows_ints rows a1
  obtain ⟨g, g1, g2, _⟩ := rows_ints rows2 b1
  exact ⟨f, g, x, by simp [f1, f2, g1, g2]⟩
attribute [local irreducible] evP T.All callPure
abbrev TsWal : List Ty := [.sl loadTy, crushTy]
theorem wal_law (pss : List (List PVal)) (h : HasArgs TsWal pss) : (evP F C0 G0 61 8 (argsOf TsWal pss)).All (· = .p (.bool true)) := by
  obtain ⟨ps, qs, rfl, h1, h2⟩ := HasArgs2 h
  obtain ⟨rows, rfl, b1, b2⟩ := h1
  obtain ⟨w, s1, s2⟩ := load_rows rows b1
  obtain ⟨f, g, x, rfl⟩ := crush_args h2
  have := wal_at w (by omega) f g x
  have ha : argsOf TsWal [[.sl rows.flatten rows.length], [.sl (pI f) f.length, .sl (pI g) g.length, .int .i64 x]] = [lol w, .agg [isl f, isl g, iv x]] := by
    rw [s1, ← s2]
    rfl
  rw [evP_RUN, ha, this, All_ret]
end Go.Proofs.YtfkacogfieiccaaGreatDoor
