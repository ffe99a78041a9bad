import Derived.Test.YtombnimlolbekaaGreatDoorPuRuns
import Derived.Test.YtombnimlolbekaaGreatDoorPuArgs
import Derived.Test.YtombnimlolbekaaGreatDoorPuG
namespace Go.Proofs.YtombnimlolbekaaGreatDoor
open Go Fw

def sledTy : Ty := .st [.st [.int .i64, .int .i64], .int .i64, .int .i64, .int .i64]

theorem sled_args {ps : List PVal} (h : HasTy sledTy ps) : ∃ s : SledI, ps = slc s := by
  obtain ⟨g, r1, rfl, ⟨g1, g2, rfl, ⟨a, rfl, _⟩, _, g3, g4, rfl, ⟨b, rfl, _⟩, _, hg4⟩, _, x1, r2, rfl, ⟨lag, rfl, _⟩, _, x2, r3, rfl, ⟨dl, rfl, _⟩, _, x3, r4, rfl, ⟨ld, rfl, _⟩, _, hr4⟩ := h
  have hg4' : g4 = [] := hg4
  have hr4' : r4 = [] := hr4
  subst hg4' hr4'
  exact ⟨⟨a, b, lag, dl, ld⟩, rfl⟩

theorem two_args {ps : List PVal} (h : HasTy (.arr 2 (.int .i64)) ps) : ∃ k : Int × Int, ps = [.int .i64 k.1, .int .i64 k.2] := by
  obtain ⟨rows, t1, t2, t3⟩ := h
  match rows, t1 with
  | [u, v], _ =>
    obtain ⟨⟨n, hu, _⟩, _⟩ := t3 u (by simp)
    obtain ⟨⟨m, hv, _⟩, _⟩ := t3 v (by simp)
    exact ⟨(n, m), by rw [t2, hu, hv]; rfl⟩

theorem pairs_args {ps : List PVal} (h : HasTy (.sl (.st [.int .i64, .int .i64])) ps) : ∃ c : List (Int × Int), ps = [.sl (cI c) c.length] := by
  obtain ⟨rows, h1, h2, _⟩ := h
  obtain ⟨c, e1, e2, _⟩ := rows_pairs rows h2
  exact ⟨c, by rw [h1, e1, e2]⟩

theorem runs_law (pss : List (List PVal)) (h : HasArgs [sledTy, .sl (.st [.int .i64, .int .i64]), .arr 2 (.int .i64)] pss) :
    (evP F C0 G0 61 3 (argsOf [sledTy, .sl (.st [.int .i64, .int .i64]), .arr 2 (.int .i64)] pss)).All (· = .p (.bool true)) := by
  obtain ⟨s, l, k, hk⟩ : ∃ (s : SledI) (l : List (Int × Int)) (k : Int × Int), argsOf [sledTy, .sl (.st [.int .i64, .int .i64]), .arr 2 (.int .i64)] pss = [sla s, csl l, .agg [iv k.1, iv k.2]] := by
    cases pss with
    | nil => exact h.elim
    | cons ps q =>
      obtain ⟨h1, _, h⟩ := h
      cases q with
      | nil => exact h.elim
      | cons qs q =>
        obtain ⟨h2, _, h⟩ := h
        cases q with
        | nil => exact h.elim
        | cons rs q =>
          obtain ⟨h3, _, _⟩ := h
          obtain ⟨s, rfl⟩ := sled_args h1
          obtain ⟨l, rfl⟩ := pairs_args h2
          obtain ⟨k, rfl⟩ := two_args h3
          exact ⟨s, l, k, by cases q <;> rfl⟩
  rw [hk]
  have := runs_at s l k
  rw [RUN] at this
  rw [evP, this]
  exact rfl
end Go.Proofs.YtombnimlolbekaaGreatDoor
