/- Several texts in one: steps of the proof, no condition of their own. -/
import Derived.Test.YtdjkleaojdeepaaGreatDoorGaK
attribute [local irreducible] Fw.evCode Fw.evOps Fw.evOpsD Fw.evOper Fw.evOperD Fw.evOp Fw.evFn Fw.loopN Fw.T.All Fw.T.bind Fw.callPure Fw.callOp Fw.opsK Fw.opsDK Fw.restK Fw.seqK Fw.blockK Fw.loopS Fw.setK Fw.setQ Fw.giveK Fw.scalK Fw.gcK Fw.finish Fw.finS Fw.rfunK Fw.yldK Fw.yldB Fw.loopK
section
set_option maxHeartbeats 16000000
namespace Fw
open Go

def prvL (l : List (Int × Int)) : Nat → Int × Int
 | 0 => (-1, 0)
 | i + 1 => l.getD i (0, 0)
def ordB (p s : Int × Int) (z : Bool) : Bool := (z && decide (s.1 ≠ 0)) || decide (s.1 ≤ p.1) || decide (s.2 < p.2)
def stE (p s : Int × Int) (z : Bool) : Int := firstE [rangeE 0 100000 s.1, rangeE 0 1000000 s.2, whenE (ordB p s z) 11]
def stL (l : List (Int × Int)) : List Int := (List.range l.length).map fun i => stE (prvL l i) (l.getD i (0, 0)) (decide (i = 0))
def tabE (l : List (Int × Int)) : Int := if l.length = 0 then 12 else if 8 < l.length then 5 else firstE (stL l)
theorem table135 {n : Nat} (hn : 4 ≤ n) (l : List (Int × Int)) (hl : l.length < 1000000) : RUN n 135 [csl l] = .ret (iv (tabE l)) := by
 obtain ⟨d, rfl⟩ : ∃ d, n = d + 4 := ⟨n - 4, by omega⟩
 rw [RUN, call_eq fe135 _ rfl]
 have kw := fun b e => when104 (n := d + 3) (by omega) b e
 have k2 := fun a b => first91_2 (n := d + 3) (by omega) a b
 have k3 := fun a b c => first91_3 (n := d + 3) (by omega) a b c
 have kr := fun x lo hi => within92 (n := d + 3) (by omega) x lo hi
 by_cases h0 : l.length = 0
 ·have : l = [] := List.eq_nil_of_length_eq_zero h0
  subst this
  have e3 : cI ([] : List (Int × Int)) = [] := rfl
  simp -implicitDefEqProofs [c135, kw, k2, whenE, firstE, tabE]
 ·by_cases h8 : 8 < l.length
  ·have hg : ((8 : Int) < l.length) := by omega
   simp -implicitDefEqProofs [c135, kw, k2, whenE, firstE, tabE, h0, h8, hg]
  ·have hg : ¬ ((8 : Int) < l.length) := by omega
   let inv : Nat → St := fun i => ⟨[(4, .ptr 0 0 0), (22, csl l), (23, iv l.length), (24, iv i)], [(0, .arr [.int .i64 (prvL l i).1, .int .i64 (prvL l i).2] 0 1)]⟩
   have ht : tabE l = firstE (stL l) := by simp [tabE, h0, h8]
   have key := loop_firstR (step := loopS (evFn F C0 G0 (d + 3)) C0 G0 0 true [4, 22, 23, 24] c135L0) inv (fun i => stE (prvL l i) (l.getD i (0, 0)) (decide (i = 0))) l.length (.exit 0, ⟨(inv l.length).env ++ [(25, .p (.bool false))], (inv l.length).sto⟩) (fun i st => st.env = [(2, iv (stE (prvL l i) (l.getD i (0, 0)) (decide (i = 0))))])
    (st0 := ⟨[(4, .ptr 0 0 0), (22, csl l), (23, iv l.length), (24, iv 0)], [(0, .arr [.int .i64 (-1), .int .i64 0] 0 1)]⟩) rfl (fun i hi => by
    have hx := cI_drop l i hi
    have hlt : i * 2 < l.length * 2 := by omega
    have wi := wrap_succ (i := i) (by omega)
    have hp : prvL l (i + 1) = l[i] := by simp [prvL, List.getD_eq_getElem?_getD, hi]
    have hg : l.getD i (0, 0) = l[i] := by simp [List.getD_eq_getElem?_getD, hi]
    have hcl := cI_length l
    simp only [inv, hp, csl, hg]
    generalize cI (l.drop (i + 1)) = R2 at *
    generalize cI l = A at *
    generalize prvL l i = p at *
    generalize l[i] = s at *
    have hb : ∀ b, b = ordB p s (decide (i = 0)) → firstE [rangeE 0 100000 s.1, rangeE 0 1000000 s.2, whenE b 11] = stE p s (decide (i = 0)) := fun b h => by rw [h]; rfl
    generalize hE : stE p s (decide (i = 0)) = e at *
    have hi0 : ¬ i = 0 → ((i : Int) == 0) = false := fun h => by simpa using h
    obtain ⟨s1, s2⟩ := s
    obtain ⟨p1, p2⟩ := p
    simp only at hb hx
    have hb' : ∀ b, b = ordB (p1, p2) (s1, s2) (decide (i = 0)) → RUN (d + 3) 91 [.p (.sl [.int .i64 (rangeE 0 100000 s1), .int .i64 (rangeE 0 1000000 s2), .int .i64 (whenE b 11)] 3)] = .ret (iv e) := fun b h => by rw [k3, hb b h]
    refine ⟨fun hs => ?_, fun hs => ?_⟩
    ·subst hs
     by_cases c0 : i = 0
     ·subst c0
      simp only [Nat.zero_mul, List.drop_zero] at hx
      have w0 : IntKind.i64.wrap 1 = 1 := by decide
      by_cases c1 : s1 = 0 <;> by_cases c2 : s1 ≤ p1 <;> by_cases c3 : s2 < p2
      all_goals
       have hb2 := hb' _ rfl
       have c1' := c1
       have c1b : (s1 != 0) = decide (¬ s1 = 0) := by by_cases h : s1 = 0 <;> simp [h]
       simp only [c1', decide_true, decide_false, not_true_eq_false, not_false_eq_true] at c1b
       first | subst c1 | skip
       simp only [ordB, c1', c2, c3, decide_true, decide_false, ne_eq, not_true_eq_false, not_false_eq_true, Bool.true_and, Bool.or_true, Bool.or_false] at hb2
       refine ⟨?_, ?h1, ?h2⟩
       case h1 =>
        simp -implicitDefEqProofs [loopS_eq, c135L0, hi, hx, w0, kr, kw, hb2, c1b, c2, c3]
        exact rfl
       case h2 => exact loopS_same (by simp [hx]) (by simp [hx])
     ·have hi0 := hi0 c0
      by_cases c1 : s1 = 0 <;> by_cases c2 : s1 ≤ p1 <;> by_cases c3 : s2 < p2
      all_goals
       have hb2 := hb' _ rfl
       have c1' := c1
       have c1b : (s1 != 0) = decide (¬ s1 = 0) := by by_cases h : s1 = 0 <;> simp [h]
       simp only [c1', decide_true, decide_false, not_true_eq_false, not_false_eq_true] at c1b
       first | subst c1 | skip
       simp only [ordB, c0, c1', c2, c3, decide_true, decide_false, ne_eq, not_true_eq_false, not_false_eq_true, Bool.false_and, Bool.or_true, Bool.or_false] at hb2
       refine ⟨?_, ?h1, ?h2⟩
       case h1 =>
        simp -implicitDefEqProofs [loopS_eq, c135L0, hi, hi0, hx, hlt, hcl, wi, kr, kw, hb2, c2, c3]
        exact rfl
       case h2 => exact loopS_same (by simp []) (by simp [])
    ·skip
     by_cases c0 : i = 0
     ·subst c0
      simp only [Nat.zero_mul, List.drop_zero] at hx
      have w0 : IntKind.i64.wrap 1 = 1 := by decide
      by_cases c1 : s1 = 0 <;> by_cases c2 : s1 ≤ p1 <;> by_cases c3 : s2 < p2
      all_goals
       have hb2 := hb' _ rfl
       have c1' := c1
       have c1b : (s1 != 0) = decide (¬ s1 = 0) := by by_cases h : s1 = 0 <;> simp [h]
       simp only [c1', decide_true, decide_false, not_true_eq_false, not_false_eq_true] at c1b
       first | subst c1 | skip
       simp only [ordB, c1', c2, c3, decide_true, decide_false, ne_eq, not_true_eq_false, not_false_eq_true, Bool.true_and, Bool.or_true, Bool.or_false] at hb2
       refine ⟨?_, ?g1, ?g2⟩
       case g1 =>
        simp -implicitDefEqProofs [loopS_eq, c135L0, hi, hx, kr, kw, hb2, c1b, c2, c3, hs]
        exact rfl
       case g2 => rfl
     ·have hi0 := hi0 c0
      by_cases c1 : s1 = 0 <;> by_cases c2 : s1 ≤ p1 <;> by_cases c3 : s2 < p2
      all_goals
       have hb2 := hb' _ rfl
       have c1' := c1
       have c1b : (s1 != 0) = decide (¬ s1 = 0) := by by_cases h : s1 = 0 <;> simp [h]
       simp only [c1', decide_true, decide_false, not_true_eq_false, not_false_eq_true] at c1b
       first | subst c1 | skip
       simp only [ordB, c0, c1', c2, c3, decide_true, decide_false, ne_eq, not_true_eq_false, not_false_eq_true, Bool.false_and, Bool.or_true, Bool.or_false] at hb2
       refine ⟨?_, ?g1, ?g2⟩
       case g1 =>
        simp -implicitDefEqProofs [loopS_eq, c135L0, hi, hi0, hx, hlt, hcl, kr, kw, hb2, c2, c3, hs]
        exact rfl
       case g2 => rfl
     ) (by simp [inv, loopS_eq, c135L0]) (by simp) (fuel := loopFuel) (by simp [loopFuel]; omega)
   simp -implicitDefEqProofs [c135, kw, k2, whenE, firstE, h0, hg]
   rcases key with ⟨h1, h2⟩ | ⟨j, ⟨env, sto⟩, hj, h1, h2, h3, _, _⟩
   ·rw [h1, ht, show firstE (stL l) = 0 from h2]
    simp [inv]
   ·rw [h1, ht, show firstE (stL l) = _ from h3]
    simp only at h2
    subst h2
    generalize stE (prvL l j) _ _ = e
    simp
end Fw
end

section
set_option maxHeartbeats 16000000
namespace Fw
open Go

theorem cI_drop1 (l : List (Int × Int)) (i : Nat) (h : i < l.length) : (cI l).drop (i * 2 + 1) = .int .i64 l[i].2 :: cI (l.drop (i + 1)) := by
 rw [← List.drop_drop, cI_drop l i h]; rfl
theorem stE_two (p s : Int × Int) (z : Bool) : stE p s z = if firstE [rangeE 0 100000 s.1, rangeE 0 1000000 s.2] = 0 then (if ordB p s z = true then 11 else 0) else firstE [rangeE 0 100000 s.1, rangeE 0 1000000 s.2] := by
 unfold stE
 by_cases h1 : rangeE 0 100000 s.1 = 0 <;> by_cases h2 : rangeE 0 1000000 s.2 = 0 <;> cases ordB p s z <;> simp [firstE, h1, h2, whenE]
theorem ordB_ref (_p s : Int × Int) (h : firstE [rangeE 0 100000 s.1, rangeE 0 1000000 s.2] = 0) : ordB (-1, 0) s true = decide (s.1 ≠ 0) := by
 have h1 : rangeE 0 100000 s.1 = 0 := by by_cases h1 : rangeE 0 100000 s.1 = 0; exact h1; simp [firstE, h1] at h
 have h2 : rangeE 0 1000000 s.2 = 0 := by by_cases h2 : rangeE 0 1000000 s.2 = 0; exact h2; simp [firstE, h1, h2] at h
 unfold rangeE at h1 h2
 split at h1
 ·omega
 ·split at h2
  ·omega
  ·have a : ¬ s.1 ≤ -1 := by omega
   have b : ¬ s.2 < 0 := by omega
   simp [ordB, a, b]
theorem table128 {n : Nat} (hn : 4 ≤ n) (l : List (Int × Int)) (hl : l.length < 1000000) : RUN n 128 [csl l] = .ret (iv (tabE l)) := by
 obtain ⟨d, rfl⟩ : ∃ d, n = d + 4 := ⟨n - 4, by omega⟩
 rw [RUN, call_eq fe128 _ rfl]
 have kw := fun b e => when94 (n := d + 3) (by omega) b e
 have k2 := fun a b => first23_2 (n := d + 3) (by omega) a b
 have kr := fun x lo hi => range24 (n := d + 3) (by omega) x lo hi
 by_cases h0 : l.length = 0
 ·have : l = [] := List.eq_nil_of_length_eq_zero h0
  subst this
  have e3 : cI ([] : List (Int × Int)) = [] := rfl
  simp -implicitDefEqProofs [c128, kw, k2, whenE, firstE, tabE]
 ·by_cases h8 : 8 < l.length
  ·have hg : ((8 : Int) < l.length) := by omega
   simp -implicitDefEqProofs [c128, kw, k2, whenE, firstE, tabE, h0, h8, hg]
  ·have hg : ¬ ((8 : Int) < l.length) := by omega
   let inv : Nat → St := fun i => ⟨[(0, csl l), (4, iv i)], []⟩
   have ht : tabE l = firstE (stL l) := by simp [tabE, h0, h8]
   have key := loop_firstR (step := loopS (evFn F C0 G0 (d + 3)) C0 G0 0 false [0, 4] c128L0) inv (fun i => stE (prvL l i) (l.getD i (0, 0)) (decide (i = 0))) l.length (.exit 0, ⟨(inv l.length).env ++ [(22, .p (.bool false))], (inv l.length).sto⟩) (fun i st => st.env = [(2, iv (stE (prvL l i) (l.getD i (0, 0)) (decide (i = 0))))])
    (st0 := ⟨[(0, csl l), (4, iv 0)], []⟩) rfl (fun i hi => by
    have hx := cI_drop l i hi
    have hx1 := cI_drop1 l i hi
    have hlt : i * 2 < l.length * 2 := by omega
    have hlt1 : i * 2 + 1 < l.length * 2 := by omega
    have wi := wrap_succ (i := i) (by omega)
    have hg : l.getD i (0, 0) = l[i] := by simp [List.getD_eq_getElem?_getD, hi]
    have hcl := cI_length l
    by_cases c0 : i = 0
    ·subst c0
     have hp : prvL l 0 = (-1, 0) := rfl
     simp only [Nat.zero_mul, List.drop_zero, Nat.zero_add] at hx hx1
     simp only [inv, csl, hg, hp]
     generalize cI (l.drop (0 + 1)) = R2 at *
     generalize cI l = A at *
     generalize l[0] = s at *
     have hr := ordB_ref (-1, 0) s
     have h2 := stE_two (-1, 0) s (decide (0 = 0))
     obtain ⟨s1, s2⟩ := s
     simp only [decide_true] at hx hx1 hr h2 ⊢
     generalize stE (-1, 0) (s1, s2) true = e at *
     have w0 : IntKind.i64.wrap 1 = 1 := by decide
     generalize hF : firstE [rangeE 0 100000 s1, rangeE 0 1000000 s2] = f at *
     by_cases hf : f = 0
     ·subst hf
      rw [if_pos rfl, hr rfl] at h2
      by_cases c1 : s1 = 0
      ·subst c1
       simp at h2
       subst h2
       refine ⟨fun _ => ⟨?_, ?h1, ?h2⟩, fun h => absurd rfl h⟩
       case h1 =>
        simp -implicitDefEqProofs [loopS_eq, c128L0, hi, hx, w0, kr, k2, hF]
        exact rfl
       case h2 => simp [hx]
      ·simp [c1] at h2
       subst h2
       have c1b : (s1 != 0) = true := by simpa using c1
       refine ⟨fun h => absurd h (by decide), fun _ => ⟨?_, ?h1, ?h2⟩⟩
       case h1 =>
        simp -implicitDefEqProofs [loopS_eq, c128L0, hi, hx, kr, k2, hF, c1b]
        exact rfl
       case h2 => rfl
     ·rw [if_neg hf] at h2
      subst h2
      refine ⟨fun h => absurd h hf, fun _ => ⟨?_, ?h1, ?h2⟩⟩
      case h1 =>
       simp -implicitDefEqProofs [loopS_eq, c128L0, hi, hx, kr, k2, hF, hf]
       exact rfl
      case h2 => rfl
    ·obtain ⟨j, hj⟩ : ∃ j, i = j + 1 := ⟨i - 1, by omega⟩
     have hjl : j < l.length := by omega
     have hp : prvL l i = l[j] := by rw [hj]; simp [prvL, List.getD_eq_getElem?_getD, hjl]
     have hy := cI_drop l j hjl
     have hy1 := cI_drop1 l j hjl
     have hlj : j * 2 < l.length * 2 := by omega
     have hlj1 : j * 2 + 1 < l.length * 2 := by omega
     have hm : (i : Int) - 1 = (j : Int) := by omega
     have wj : IntKind.i64.wrap (j : Int) = j := wrap64 (by omega) (by omega)
     have hi0 : ((i : Int) == 0) = false := by simpa using c0
     have hp0 : 0 < i := by omega
     have hp1 : (0 : Int) < i := by omega
     simp only [inv, csl, hg, hp]
     generalize cI (l.drop (i + 1)) = R2 at *
     generalize cI (l.drop (j + 1)) = R3 at *
     generalize cI l = A at *
     generalize l[i] = s at *
     generalize l[j] = p at *
     have h2 := stE_two p s (decide (i = 0))
     obtain ⟨s1, s2⟩ := s
     obtain ⟨p1, p2⟩ := p
     simp only [c0, decide_false] at hx hx1 hy hy1 h2 ⊢
     generalize stE (p1, p2) (s1, s2) false = e at *
     generalize hF : firstE [rangeE 0 100000 s1, rangeE 0 1000000 s2] = f at *
     by_cases hf : f = 0
     ·subst hf
      rw [if_pos rfl] at h2
      by_cases c2 : s1 ≤ p1
      ·by_cases c3 : s2 < p2
       all_goals
        simp [ordB, c2, c3] at h2
        subst h2
        refine ⟨fun h => absurd h (by decide), fun _ => ⟨?_, ?h1, ?h2⟩⟩
        case h1 =>
         simp -implicitDefEqProofs [loopS_eq, c128L0, hi, hi0, hp0, hm, wj, hjl, hy, hlj, hx, hlt, hcl, kr, k2, hF, c2]
         exact rfl
        case h2 => rfl
      ·by_cases c3 : s2 < p2
       ·skip
        simp [ordB, c2, c3] at h2
        subst h2
        refine ⟨fun h => absurd h (by decide), fun _ => ⟨?_, ?h1, ?h2⟩⟩
        case h1 =>
         simp -implicitDefEqProofs [loopS_eq, c128L0, hi, hi0, hp0, hm, wj, hjl, hy, hlj, hx, hlt, hcl, kr, k2, hF, c2, c3]
         exact rfl
        case h2 => rfl
       ·simp [ordB, c2, c3] at h2
        subst h2
        refine ⟨fun _ => ⟨?_, ?h1, ?h2⟩, fun h => absurd rfl h⟩
        case h1 =>
         simp -implicitDefEqProofs [loopS_eq, c128L0, hi, hi0, hp0, hm, wj, hjl, hy, hlj, hx, hlt, hcl, wi, kr, k2, hF, c2, c3]
         exact rfl
        case h2 => simp
     ·rw [if_neg hf] at h2
      subst h2
      refine ⟨fun h => absurd h hf, fun _ => ⟨?_, ?h1, ?h2⟩⟩
      case h1 =>
       simp -implicitDefEqProofs [loopS_eq, c128L0, hi, hx, hlt, hcl, kr, k2, hF, hf]
       exact rfl
      case h2 => rfl
     ) (by simp [inv, loopS_eq, c128L0]) (by simp) (fuel := loopFuel) (by simp [loopFuel]; omega)
   simp -implicitDefEqProofs [c128, kw, k2, whenE, firstE, h0, hg]
   rcases key with ⟨h1, h2⟩ | ⟨j, ⟨env, sto⟩, hj, h1, h2, h3, _, _⟩
   ·rw [h1, ht, show firstE (stL l) = 0 from h2]
    simp [inv]
   ·rw [h1, ht, show firstE (stL l) = _ from h3]
    simp only at h2
    subst h2
    generalize stE (prvL l j) _ _ = e
    simp
end Fw
end

section
set_option maxHeartbeats 16000000
namespace Fw
open Go

structure HallI where
 doors : Int
 base : Int
 t0 : List (Int × Int)
 t1 : List (Int × Int)
 t2 : List (Int × Int)
abbrev ha (h : HallI) : AVal := .agg [iv h.doors, iv h.base, csl h.t0, csl h.t1, csl h.t2]
def hallE (h : HallI) : Int := firstE [rangeE 1 8 h.doors, rangeE 0 1000000 h.base, tabE h.t0, tabE h.t1, tabE h.t2]
def dcI : List PVal → List (Int × Int)
 | .int _ a :: .int _ b :: r => (a, b) :: dcI r
 | _ => []
theorem dcI_cI (l : List (Int × Int)) : dcI (cI l) = l := by
 induction l with
 | nil => rfl
 | cons x r ih => simp only [cI, dcI, ih]
def tabG : PVal → PVal
 | .sl cs _ => .int .i64 (tabE (dcI cs))
 | c => c
theorem a134 : c134 = mapC (.p (.int .i64 0)) 8 := rfl
theorem fc134 : F 134 = some (mapC (.p (.int .i64 0)) 8) := a134 ▸ fe134
theorem map134 {n : Nat} (hn : 5 ≤ n) (a b c : List (Int × Int)) (ha : a.length < 1000000) (hb : b.length < 1000000) (hc : c.length < 1000000) :
  RUN n 134 [.p (.sl [.sl (cI a) a.length, .sl (cI b) b.length, .sl (cI c) c.length] 3), .p (.clo 135 [] [])] = .ret (.own [.int .i64 (tabE a), .int .i64 (tabE b), .int .i64 (tabE c)] 3 1) := by
 obtain ⟨d, rfl⟩ : ∃ d, n = d + 5 := ⟨n - 5, by omega⟩
 have := map_ok (C := C0) (G := G0) (d := d + 4) fc134 (by decide) (fun _ => rfl) [.sl (cI a) a.length, .sl (cI b) b.length, .sl (cI c) c.length] 135 [] tabG (by simp) (by simp) (by
  intro x hx
  have key : ∀ l : List (Int × Int), l.length < 1000000 → callPure (evFn F C0 G0 (d + 4)) C0 (.fn 135) (.p (nrm (.sl (cI l) l.length)) :: List.map AVal.p []) = .ret (.p (tabG (.sl (cI l) l.length))) ∧ nrm (tabG (.sl (cI l) l.length)) = tabG (.sl (cI l) l.length) := fun l hl => by
   have k := table135 (n := d + 4) (by omega) l hl
   have e : tabG (.sl (cI l) l.length) = .int .i64 (tabE l) := by simp only [tabG, dcI_cI]
   rw [e]
   exact ⟨k, rfl⟩
  simp only [List.mem_cons, List.not_mem_nil, or_false] at hx
  rcases hx with rfl | rfl | rfl
  ·exact key a ha
  ·exact key b hb
  ·exact key c hc)
 simp only [List.map_cons, List.map_nil, tabG, dcI_cI] at this
 exact this
theorem first_app (a b c d e : Int) : firstE [a, b, firstE [c, d, e]] = firstE [a, b, c, d, e] := by
 by_cases h1 : a = 0 <;> by_cases h2 : b = 0 <;> by_cases h3 : c = 0 <;> by_cases h4 : d = 0 <;> by_cases h5 : e = 0 <;> simp [firstE, h1, h2, h3, h4, h5]
theorem hall81 {n : Nat} (hn : 6 ≤ n) (h : HallI) (h0 : h.t0.length < 1000000) (h1 : h.t1.length < 1000000) (h2 : h.t2.length < 1000000) : RUN n 81 [ha h] = .ret (iv (hallE h)) := by
 obtain ⟨d, rfl⟩ : ∃ d, n = d + 6 := ⟨n - 6, by omega⟩
 rw [RUN, call_eq fe81 _ rfl]
 have k := map134 (n := d + 5) (by omega) h.t0 h.t1 h.t2 h0 h1 h2
 have k3 := fun a b c => first91_3 (n := d + 5) (by omega) a b c
 have kr := fun x lo hi => within92 (n := d + 5) (by omega) x lo hi
 have hE : hallE h = _ := (first_app _ _ _ _ _).symm
 rw [hE]
 simp only [ha, csl]
 generalize cI h.t0 = A0 at *
 generalize cI h.t1 = A1 at *
 generalize cI h.t2 = A2 at *
 simp -implicitDefEqProofs [c81, k, k3, kr]
theorem hall65 {n : Nat} (hn : 6 ≤ n) (h : HallI) (h0 : h.t0.length < 1000000) (h1 : h.t1.length < 1000000) (h2 : h.t2.length < 1000000) : RUN n 65 [ha h] = .ret (iv (hallE h)) := by
 obtain ⟨d, rfl⟩ : ∃ d, n = d + 6 := ⟨n - 6, by omega⟩
 rw [RUN, call_eq fe65 _ rfl]
 have ka := table128 (n := d + 5) (by omega) h.t0 h0
 have kb := table128 (n := d + 5) (by omega) h.t1 h1
 have kc := table128 (n := d + 5) (by omega) h.t2 h2
 have k5 : ∀ a b c e f : Int, RUN (d + 5) 23 [.p (.sl [.int .i64 a, .int .i64 b, .int .i64 c, .int .i64 e, .int .i64 f] 5)] = .ret (iv (firstE [a, b, c, e, f])) := fun a b c e f => first23 (by omega) [a, b, c, e, f] (by simp)
 have kr := fun x lo hi => range24 (n := d + 5) (by omega) x lo hi
 unfold hallE
 simp only [ha, csl] at ka kb kc ⊢
 generalize cI h.t0 = A0 at *
 generalize cI h.t1 = A1 at *
 generalize cI h.t2 = A2 at *
 simp -implicitDefEqProofs [c65, ka, kb, kc, k5, kr]
abbrev v3 (a b c : Int) : AVal := .agg [iv a, iv b, iv c]
def valE (a b c : Int) : Int := firstE [rangeE 0 100000 a, rangeE 0 100000 b, rangeE 0 100000 c]
theorem val160 {n : Nat} (hn : 3 ≤ n) (x : Int) : RUN n 160 [iv x] = .ret (iv (rangeE 0 100000 x)) := by
 obtain ⟨d, rfl⟩ : ∃ d, n = d + 3 := ⟨n - 3, by omega⟩
 rw [RUN, call_eq fe160 _ rfl]
 have kr := fun x lo hi => within92 (n := d + 2) (by omega) x lo hi
 simp -implicitDefEqProofs [c160, kr]
def ranG : PVal → PVal
 | .int _ n => .int .i64 (rangeE 0 100000 n)
 | c => c
theorem map105v {n : Nat} (hn : 4 ≤ n) (a b c : Int) : RUN n 105 [.p (.sl [.int .i64 a, .int .i64 b, .int .i64 c] 3), .p (.clo 160 [] [])] = .ret (.own [.int .i64 (rangeE 0 100000 a), .int .i64 (rangeE 0 100000 b), .int .i64 (rangeE 0 100000 c)] 3 1) := by
 obtain ⟨d, rfl⟩ : ∃ d, n = d + 4 := ⟨n - 4, by omega⟩
 exact map_ok (C := C0) (G := G0) (d := d + 3) fc105 (by decide) (fun _ => rfl) [.int .i64 a, .int .i64 b, .int .i64 c] 160 [] ranG (by simp) (by simp) (by
  intro x hx
  simp only [List.mem_cons, List.not_mem_nil, or_false] at hx
  rcases hx with rfl | rfl | rfl
  ·exact ⟨val160 (by omega) a, rfl⟩
  ·exact ⟨val160 (by omega) b, rfl⟩
  ·exact ⟨val160 (by omega) c, rfl⟩)
theorem measures131 {n : Nat} (hn : 5 ≤ n) (a b c : Int) : RUN n 131 [v3 a b c] = .ret (iv (valE a b c)) := by
 obtain ⟨d, rfl⟩ : ∃ d, n = d + 5 := ⟨n - 5, by omega⟩
 rw [RUN, call_eq fe131 _ rfl]
 have k := map105v (n := d + 4) (by omega) a b c
 have k3 := fun a b c => first91_3 (n := d + 4) (by omega) a b c
 simp -implicitDefEqProofs [c131, k, k3, valE]
theorem values79 {n : Nat} (hn : 3 ≤ n) (a b c : Int) : RUN n 79 [v3 a b c] = .ret (iv (valE a b c)) := by
 obtain ⟨d, rfl⟩ : ∃ d, n = d + 3 := ⟨n - 3, by omega⟩
 rw [RUN, call_eq fe79 _ rfl]
 have kr := fun x lo hi => range24 (n := d + 2) (by omega) x lo hi
 have k3 := fun a b c => first23_3 (n := d + 2) (by omega) a b c
 simp -implicitDefEqProofs [c79, kr, k3, valE]
end Fw
end

section
set_option maxHeartbeats 16000000
namespace Fw
open Go

def wtP (l : List (Int × Int)) (v acc : Int) : Nat → Int
 | 0 => acc
 | i + 1 => if (l.getD i (0, 0)).1 ≤ v then max (wtP l v acc i) (l.getD i (0, 0)).2 else wtP l v acc i
def waitP (h : HallI) (a b c : Int) : Int := wtP h.t2 c (wtP h.t1 b (wtP h.t0 a 0 h.t0.length) h.t1.length) h.t2.length
theorem in132 {d : Nat} (l : List (Int × Int)) (hl : l.length < 1000000) (x y z : PVal) (a b c acc : Int) (k : Nat) (v : Int) (hv : (k = 0 ∧ v = a) ∨ (k = 1 ∧ v = b) ∨ (k = 2 ∧ v = c)) :
  loopN (loopS (evFn F C0 G0 d) C0 G0 0 true [3, 5, 6, 11, 12, 16, 17, 18] c132L0) loopFuel ⟨[(3, .ptr 1 0 0), (5, iv acc), (6, iv k), (11, .agg [.p x, .p y, .p z]), (12, iv k), (16, csl l), (17, iv l.length), (18, iv 0)], [(1, .arr [.int .i64 a, .int .i64 b, .int .i64 c] 0 1)]⟩ =
  .ret (.exit 2, ⟨[(3, .ptr 1 0 0), (5, iv (wtP l v acc l.length)), (6, iv k), (11, .agg [.p x, .p y, .p z]), (12, iv k), (16, csl l), (17, iv l.length), (18, iv l.length), (19, .p (.bool false))], [(1, .arr [.int .i64 a, .int .i64 b, .int .i64 c] 0 1)]⟩) := by
 refine loop_run' (fun i => ⟨[(3, .ptr 1 0 0), (5, iv (wtP l v acc i)), (6, iv k), (11, .agg [.p x, .p y, .p z]), (12, iv k), (16, csl l), (17, iv l.length), (18, iv i)], [(1, .arr [.int .i64 a, .int .i64 b, .int .i64 c] 0 1)]⟩) l.length (by simp) rfl ?_ ?_ (by simp [loopFuel]; omega)
 ·intro i hi
  have hx := cI_drop l i hi
  have hlt : i * 2 < l.length * 2 := by omega
  have wi := wrap_succ (i := i) (by omega)
  have hg : l.getD i (0, 0) = l[i] := by simp [List.getD_eq_getElem?_getD, hi]
  have hcl := cI_length l
  have mx := fun a b => max2 a b
  have hs : wtP l v acc (i + 1) = if l[i].1 ≤ v then max (wtP l v acc i) l[i].2 else wtP l v acc i := by simp only [wtP, hg]
  simp only [hs, csl]
  generalize wtP l v acc i = w at *
  generalize cI (l.drop (i + 1)) = R2 at *
  generalize cI l = A at *
  generalize l[i] = s at *
  obtain ⟨s1, s2⟩ := s
  simp only at hx ⊢
  rcases hv with ⟨rfl, rfl⟩ | ⟨rfl, rfl⟩ | ⟨rfl, rfl⟩
  all_goals
   by_cases c1 : s1 ≤ v
   all_goals
    refine ⟨?_, ?h1, ?h2⟩
    case h1 =>
     simp -implicitDefEqProofs [loopS_eq, c132L0, hi, hx, hlt, hcl, wi, mx, c1]
     exact rfl
    case h2 => exact loopS_same (by simp [c1]) (by simp [c1])
 ·simp -implicitDefEqProofs [loopS_eq, c132L0]
theorem wait132 {n : Nat} (hn : 1 ≤ n) (h : HallI) (h0 : h.t0.length < 1000000) (h1 : h.t1.length < 1000000) (h2 : h.t2.length < 1000000) (a b c : Int) : RUN n 132 [ha h, v3 a b c] = .ret (iv (waitP h a b c)) := by
 obtain ⟨d, rfl⟩ : ∃ d, n = d + 1 := ⟨n - 1, by omega⟩
 rw [RUN, call_eq fe132 _ rfl]
 have i0 := in132 (d := d) h.t0 h0 (.sl (cI h.t0) h.t0.length) (.sl (cI h.t1) h.t1.length) (.sl (cI h.t2) h.t2.length) a b c 0 0 a (.inl ⟨rfl, rfl⟩)
 generalize hw0 : wtP h.t0 a 0 h.t0.length = w0 at *
 have i1 := in132 (d := d) h.t1 h1 (.sl (cI h.t0) h.t0.length) (.sl (cI h.t1) h.t1.length) (.sl (cI h.t2) h.t2.length) a b c w0 1 b (.inr (.inl ⟨rfl, rfl⟩))
 generalize hw1 : wtP h.t1 b w0 h.t1.length = w1 at *
 have i2 := in132 (d := d) h.t2 h2 (.sl (cI h.t0) h.t0.length) (.sl (cI h.t1) h.t1.length) (.sl (cI h.t2) h.t2.length) a b c w1 2 c (.inr (.inr ⟨rfl, rfl⟩))
 generalize hw2 : wtP h.t2 c w1 h.t2.length = w2 at *
 have hP : waitP h a b c = w2 := by simp only [waitP, hw0, hw1, hw2]
 rw [hP]
 simp only [iv, csl, Int.natCast_zero, Int.natCast_one, show ((2 : Nat) : Int) = 2 from rfl] at i0 i1 i2
 simp only [ha, csl]
 generalize cI h.t0 = A0 at *
 generalize cI h.t1 = A1 at *
 generalize cI h.t2 = A2 at *
 have e1 : IntKind.i64.wrap 1 = 1 := by decide
 have e2 : IntKind.i64.wrap 2 = 2 := by decide
 have e3 : IntKind.i64.wrap 3 = 3 := by decide
 simp -implicitDefEqProofs [c132]
 have s0 : loopS (evFn F C0 G0 d) C0 G0 0 true [3, 5, 11, 12] c132L1 ⟨[(3, .ptr 1 0 0), (5, iv 0), (11, .agg [.p (.sl A0 h.t0.length), .p (.sl A1 h.t1.length), .p (.sl A2 h.t2.length)]), (12, iv 0)], [(1, .arr [.int .i64 a, .int .i64 b, .int .i64 c] 0 1), (0, .box [iv h.doors, iv h.base, .p (.sl A0 h.t0.length), .p (.sl A1 h.t1.length), .p (.sl A2 h.t2.length)])]⟩ = .ret (.normal, ⟨[(3, .ptr 1 0 0), (5, iv w0), (11, .agg [.p (.sl A0 h.t0.length), .p (.sl A1 h.t1.length), .p (.sl A2 h.t2.length)]), (12, iv 1)], [(1, .arr [.int .i64 a, .int .i64 b, .int .i64 c] 0 1)]⟩) := by
  simp -implicitDefEqProofs [loopS_eq, c132L1]
  rw [i0]
  simp -implicitDefEqProofs [e1]
 have s1 : loopS (evFn F C0 G0 d) C0 G0 0 true [3, 5, 11, 12] c132L1 ⟨[(3, .ptr 1 0 0), (5, iv w0), (11, .agg [.p (.sl A0 h.t0.length), .p (.sl A1 h.t1.length), .p (.sl A2 h.t2.length)]), (12, iv 1)], [(1, .arr [.int .i64 a, .int .i64 b, .int .i64 c] 0 1)]⟩ = .ret (.normal, ⟨[(3, .ptr 1 0 0), (5, iv w1), (11, .agg [.p (.sl A0 h.t0.length), .p (.sl A1 h.t1.length), .p (.sl A2 h.t2.length)]), (12, iv 2)], [(1, .arr [.int .i64 a, .int .i64 b, .int .i64 c] 0 1)]⟩) := by
  simp -implicitDefEqProofs [loopS_eq, c132L1]
  rw [i1]
  simp -implicitDefEqProofs [e2]
 have s2 : loopS (evFn F C0 G0 d) C0 G0 0 true [3, 5, 11, 12] c132L1 ⟨[(3, .ptr 1 0 0), (5, iv w1), (11, .agg [.p (.sl A0 h.t0.length), .p (.sl A1 h.t1.length), .p (.sl A2 h.t2.length)]), (12, iv 2)], [(1, .arr [.int .i64 a, .int .i64 b, .int .i64 c] 0 1)]⟩ = .ret (.normal, ⟨[(3, .ptr 1 0 0), (5, iv w2), (11, .agg [.p (.sl A0 h.t0.length), .p (.sl A1 h.t1.length), .p (.sl A2 h.t2.length)]), (12, iv 3)], [(1, .arr [.int .i64 a, .int .i64 b, .int .i64 c] 0 1)]⟩) := by
  simp -implicitDefEqProofs [loopS_eq, c132L1]
  rw [i2]
  simp -implicitDefEqProofs [e3]
 have s3 : loopS (evFn F C0 G0 d) C0 G0 0 true [3, 5, 11, 12] c132L1 ⟨[(3, .ptr 1 0 0), (5, iv w2), (11, .agg [.p (.sl A0 h.t0.length), .p (.sl A1 h.t1.length), .p (.sl A2 h.t2.length)]), (12, iv 3)], [(1, .arr [.int .i64 a, .int .i64 b, .int .i64 c] 0 1)]⟩ = .ret (.exit 0, ⟨[(3, .ptr 1 0 0), (5, iv w2), (11, .agg [.p (.sl A0 h.t0.length), .p (.sl A1 h.t1.length), .p (.sl A2 h.t2.length)]), (12, iv 3), (13, .p (.bool false))], [(1, .arr [.int .i64 a, .int .i64 b, .int .i64 c] 0 1)]⟩) := by
  simp -implicitDefEqProofs [loopS_eq, c132L1]
 rw [loopN_on s0 (by simp [loopFuel]), loopN_on s1 (by simp [loopFuel]), loopN_on s2 (by simp [loopFuel]), loopN_end s3 (by simp) (by simp [loopFuel])]
 simp -implicitDefEqProofs []
end Fw
end

