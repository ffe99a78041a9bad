import Derived.Test.YtombnimlolbekaaGreatDoorPuCh7
import Derived.Test.YtombnimlolbekaaGreatDoorPuPkA
namespace Go.Proofs.YtombnimlolbekaaGreatDoor
open Go Fw
set_option maxRecDepth 100000

theorem i16_args {ps : List PVal} (h : HasTy (.arr 2 (.int .i16)) ps) : ∃ a b : Int, ps = [.int .i16 a, .int .i16 b] ∧ (-32768 ≤ a ∧ a ≤ 32767) ∧ (-32768 ≤ b ∧ b ≤ 32767) := by
 obtain ⟨rows, t1, t2, t3⟩ := h
 match rows, t1 with
 | [u, v], _ =>
  obtain ⟨⟨n, hu, hn⟩, _⟩ := t3 u (by simp)
  obtain ⟨⟨m, hv, hm⟩, _⟩ := t3 v (by simp)
  exact ⟨n, m, by rw [t2, hu, hv]; rfl, hn, hm⟩
theorem ends_args {ps : List PVal} (h : HasTy (.st [.int .i64, .int .i64]) ps) : ∃ x : Int × Int, ps = [.int .i64 x.1, .int .i64 x.2] := by
 obtain ⟨_, r1, rfl, ⟨a, rfl, _⟩, _, _, r2, rfl, ⟨b, rfl, _⟩, _, hr⟩ := h
 have hr' : r2 = [] := hr
 subst hr'
 exact ⟨(a, b), rfl⟩
theorem evP_RUNd (n f : Nat) (args : List AVal) : evP F C0 G0 n f args = RUN n f args := rfl
attribute [local irreducible] evP T.All callPure
abbrev TsCho : List Ty := [.sl packTy, .st [.int .i64, .int .i64], .arr 2 (.int .i16)]
theorem cho_law (pss : List (List PVal)) (h : HasArgs TsCho pss) : (evP F C0 G0 61 11 (argsOf TsCho pss)).All (· = .p (.bool true)) := by
 obtain ⟨ps, qs, rs, rfl, h1, h2, h3⟩ := HasArgs3 h
 obtain ⟨rows, rfl, a1, a2⟩ := h1
 obtain ⟨l, l1, l2, l3⟩ := rows_packs rows a1
 obtain ⟨x, rfl⟩ := ends_args h2
 obtain ⟨a, b, rfl, ha, hb⟩ := i16_args h3
 have := cho_at l x a b (by omega) l3 ha hb
 rw [l1, ← l2]
 have e : argsOf TsCho [[.sl (cP l) l.length], [.int .i64 x.1, .int .i64 x.2], [.int .i16 a, .int .i16 b]] = [psl l, .agg [iv x.1, iv x.2], .agg [.p (.int .i16 a), .p (.int .i16 b)]] := rfl
 rw [evP_RUNd, e, this, All_ret]
end Go.Proofs.YtombnimlolbekaaGreatDoor
