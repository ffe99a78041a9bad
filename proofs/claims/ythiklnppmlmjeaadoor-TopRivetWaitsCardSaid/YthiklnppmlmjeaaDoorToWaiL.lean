import Derived.Test.YthiklnppmlmjeaaDoorToW5
import Derived.Test.YthiklnppmlmjeaaDoorToA
import Derived.Test.YthiklnppmlmjeaaDoorToArgs
import Derived.Test.YthiklnppmlmjeaaDoorToG
namespace Fw
open Go
theorem u16_natT {r : List PVal} (h : HasTy (.int .u16) r) : ∃ n : Nat, r = [.int .u16 n] ∧ n ≤ 65535 := by
 obtain ⟨a, rfl, h0, h1⟩ := h
 have h0 : 0 ≤ a := h0
 have h1 : a ≤ 65535 := h1
 exact ⟨a.toNat, by rw [Int.toNat_of_nonneg h0], by omega⟩
theorem u8_natT {r : List PVal} (h : HasTy (.int .u8) r) : ∃ n : Nat, r = [.int .u8 n] ∧ n ≤ 255 := by
 obtain ⟨a, rfl, h0, h1⟩ := h
 have h0 : 0 ≤ a := h0
 have h1 : a ≤ 255 := h1
 exact ⟨a.toNat, by rw [Int.toNat_of_nonneg h0], by omega⟩
theorem two16_args {ps : List PVal} (h : HasTy (.arr 2 (.int .u16)) ps) : ∃ a b : Nat, ps = [.int .u16 a, .int .u16 b] ∧ a ≤ 65535 ∧ b ≤ 65535 := by
 obtain ⟨rows, h1, rfl, h2⟩ := h
 match rows, h1 with
 | [x, y], _ =>
  obtain ⟨a, rfl, ha⟩ := u16_natT (h2 x (by simp)).1
  obtain ⟨b, rfl, hb⟩ := u16_natT (h2 y (by simp)).1
  exact ⟨a, b, rfl, ha, hb⟩
abbrev sledTyT : Ty := .st [.st [.int .i64, .int .i64], .int .i64, .int .i64, .int .i64]
abbrev runTy : Ty := .st [sledTyT, .sl bandTy, .int .u8, .arr 2 (.int .u16)]
theorem sled_argsT {ps : List PVal} (h : HasTy sledTyT ps) : ∃ s : SledI, ps = [.int .i64 s.low, .int .i64 s.high, .int .i64 s.lag, .int .i64 s.delay, .int .i64 s.load] := by
 obtain ⟨g, r1, rfl, ⟨g1, g2, rfl, ⟨a, rfl, _⟩, _, g3, g4, rfl, ⟨b, rfl, _⟩, _, hg4⟩, _, x1, r2, rfl, ⟨lag, rfl, _⟩, _, x2, r3, rfl, ⟨dl, rfl, _⟩, _, x3, r4, rfl, ⟨ld, rfl, _⟩, _, hr4⟩ := h
 have hg4' : g4 = [] := hg4
 have hr4' : r4 = [] := hr4
 subst hg4' hr4'
 exact ⟨⟨a, b, lag, dl, ld⟩, rfl⟩
theorem run_args {ps : List PVal} (h : HasTy runTy ps) : ∃ (s : SledI) (st : List (Int × Int)) (t u v : Nat), ps = [.int .i64 s.low, .int .i64 s.high, .int .i64 s.lag, .int .i64 s.delay, .int .i64 s.load, .sl (cI st) st.length, .int .u8 t, .int .u16 u, .int .u16 v] ∧ t ≤ 255 ∧ u ≤ 65535 ∧ v ≤ 65535 := by
 obtain ⟨q0, r1, rfl, h1, _, q1, r2, rfl, h2, _, q2, r3, rfl, h3, _, q3, r4, rfl, h4, _, hr⟩ := h
 have hr' : r4 = [] := hr
 subst hr'
 obtain ⟨s, rfl⟩ := sled_argsT h1
 obtain ⟨st, rfl⟩ := bands_args h2
 obtain ⟨t, rfl, ht⟩ := u8_natT h3
 obtain ⟨u, v, rfl, hu, hv⟩ := two16_args h4
 exact ⟨s, st, t, u, v, rfl, ht, hu, hv⟩
end Fw
namespace Go.Proofs.YthiklnppmlmjeaaDoor
open Go Fw
set_option maxRecDepth 100000
theorem evP_RUN (f : Nat) (args : List AVal) : evP F C0 G0 61 f args = RUN 61 f args := rfl
theorem awake60 : RUN 60 11 [] = .ret (.p (.bool true)) := awakeW
attribute [local irreducible] evP T.All callPure
abbrev TsWts : List Ty := [hallTy, runTy]
theorem wts_law (pss : List (List PVal)) (h : HasArgs TsWts pss) : (evP F C0 G0 61 3 (argsOf TsWts pss)).All (· = .p (.bool true)) := by
 obtain ⟨ps, qs, rfl, h1, h2⟩ := HasArgs2 h
 obtain ⟨y, rfl⟩ := hall_args h1
 obtain ⟨s, st, t, u, v, rfl, ht, hu, hv⟩ := run_args h2
 have ha : argsOf TsWts [[.int .i64 y.doors, .int .i64 y.base, .sl (cI y.t0) y.t0.length, .sl (cI y.t1) y.t1.length, .sl (cI y.t2) y.t2.length], [.int .i64 s.low, .int .i64 s.high, .int .i64 s.lag, .int .i64 s.delay, .int .i64 s.load, .sl (cI st) st.length, .int .u8 t, .int .u16 u, .int .u16 v]] = [ha y, .agg (wX s st t u v)] := rfl
 rw [evP_RUN, ha, waits_at awake60 y s st t u v ht hu hv, All_ret]
end Go.Proofs.YthiklnppmlmjeaaDoor
