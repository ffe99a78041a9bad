/- Halls: the checks of a table, the program's and the reference's. -/
import Derived.Test.YtdjkleaojdeepaaGreatDoorGaK
set_option maxHeartbeats 16000000
namespace Fw
open Go
attribute [local irreducible] evCode evOps evOpsD evOper evOperD evOp evFn loopN T.All T.bind callPure callOp opsK opsDK restK seqK blockK loopS setK setQ giveK scalK gcK finish finS rfunK yldK yldB loopK

/-- what stands before a step -/
def prvL (l : List (Int × Int)) : Nat → Int × Int
  | 0 => (-1, 0)
  | i + 1 => l.getD i (0, 0)
/-- a step that is out of order -/
def ordB (p s : Int × Int) (z : Bool) : Bool := (z && decide (s.1 ≠ 0)) || decide (s.1 ≤ p.1) || decide (s.2 < p.2)
def stE (p s : Int × Int) (z : Bool) : Int := firstE [rangeE 0 100000 s.1, rangeE 0 1000000 s.2, whenE (ordB p s z) 11]
def stL (l : List (Int × Int)) : List Int := (List.range l.length).map fun i => stE (prvL l i) (l.getD i (0, 0)) (decide (i = 0))
def tabE (l : List (Int × Int)) : Int := if l.length = 0 then 12 else if 8 < l.length then 5 else firstE (stL l)
theorem table135 {n : Nat} (hn : 4 ≤ n) (l : List (Int × Int)) (hl : l.length < 1000000) : RUN n 135 [csl l] = .ret (iv (tabE l)) := by
  obtain ⟨d, rfl⟩ : ∃ d, n = d + 4 := ⟨n - 4, by omega⟩
  rw [RUN, call_eq fe135 _ rfl]
  have kw := fun b e => when104 (n := d + 3) (by omega) b e
  have k2 := fun a b => first91_2 (n := d + 3) (by omega) a b
  have k3 := fun a b c => first91_3 (n := d + 3) (by omega) a b c
  have kr := fun x lo hi => within92 (n := d + 3) (by omega) x lo hi
  by_cases h0 : l.length = 0
  · have : l = [] := List.eq_nil_of_length_eq_zero h0
    subst this
    have e3 : cI ([] : List (Int × Int)) = [] := rfl
    simp -implicitDefEqProofs [c135, kw, k2, whenE, firstE, tabE]
  · by_cases h8 : 8 < l.length
    · have hg : ((8 : Int) < l.length) := by omega
      simp -implicitDefEqProofs [c135, kw, k2, whenE, firstE, tabE, h0, h8, hg]
    · have hg : ¬ ((8 : Int) < l.length) := by omega
      let inv : Nat → St := fun i => ⟨[(4, .ptr 0 0 0), (22, csl l), (23, iv l.length), (24, iv i)], [(0, .arr [.int .i64 (prvL l i).1, .int .i64 (prvL l i).2] 0 1)]⟩
      have ht : tabE l = firstE (stL l) := by simp [tabE, h0, h8]
      have key := loop_firstR (step := loopS (evFn F C0 G0 (d + 3)) C0 G0 0 true [4, 22, 23, 24] c135L0) inv (fun i => stE (prvL l i) (l.getD i (0, 0)) (decide (i = 0))) l.length (.exit 0, ⟨(inv l.length).env ++ [(25, .p (.bool false))], (inv l.length).sto⟩) (fun i st => st.env = [(2, iv (stE (prvL l i) (l.getD i (0, 0)) (decide (i = 0))))])
        (st0 := ⟨[(4, .ptr 0 0 0), (22, csl l), (23, iv l.length), (24, iv 0)], [(0, .arr [.int .i64 (-1), .int .i64 0] 0 1)]⟩) rfl (fun i hi => by
        have hx := cI_drop l i hi
        have hlt : i * 2 < l.length * 2 := by omega
        have wi := wrap_succ (i := i) (by omega)
        have hp : prvL l (i + 1) = l[i] := by simp [prvL, List.getD_eq_getElem?_getD, hi]
        have hg : l.getD i (0, 0) = l[i] := by simp [List.getD_eq_getElem?_getD, hi]
        have hcl := cI_length l
        simp only [inv, hp, csl, hg]
        generalize cI (l.drop (i + 1)) = R2 at *
        generalize cI l = A at *
        generalize prvL l i = p at *
        generalize l[i] = s at *
        have hb : ∀ b, b = ordB p s (decide (i = 0)) → firstE [rangeE 0 100000 s.1, rangeE 0 1000000 s.2, whenE b 11] = stE p s (decide (i = 0)) := fun b h => by rw [h]; rfl
        generalize hE : stE p s (decide (i = 0)) = e at *
        have hi0 : ¬ i = 0 → ((i : Int) == 0) = false := fun h => by simpa using h
        obtain ⟨s1, s2⟩ := s
        obtain ⟨p1, p2⟩ := p
        simp only at hb hx
        have hb' : ∀ b, b = ordB (p1, p2) (s1, s2) (decide (i = 0)) → RUN (d + 3) 91 [.p (.sl [.int .i64 (rangeE 0 100000 s1), .int .i64 (rangeE 0 1000000 s2), .int .i64 (whenE b 11)] 3)] = .ret (iv e) := fun b h => by rw [k3, hb b h]
        refine ⟨fun hs => ?_, fun hs => ?_⟩
        · subst hs
          by_cases c0 : i = 0
          · subst c0
            simp only [Nat.zero_mul, List.drop_zero] at hx
            have w0 : IntKind.i64.wrap 1 = 1 := by decide
            by_cases c1 : s1 = 0 <;> by_cases c2 : s1 ≤ p1 <;> by_cases c3 : s2 < p2
            all_goals
              have hb2 := hb' _ rfl
              have c1' := c1
              have c1b : (s1 != 0) = decide (¬ s1 = 0) := by by_cases h : s1 = 0 <;> simp [h]
              simp only [c1', decide_true, decide_false, not_true_eq_false, not_false_eq_true] at c1b
              first | subst c1 | skip
              simp only [ordB, c1', c2, c3, decide_true, decide_false, ne_eq, not_true_eq_false, not_false_eq_true, Bool.true_and, Bool.or_true, Bool.or_false] at hb2
              refine ⟨?_, ?h1, ?h2⟩
              case h1 =>
                simp -implicitDefEqProofs [loopS_eq, c135L0, hi, hx, w0, kr, kw, hb2, c1b, c2, c3]
                exact rfl
              case h2 => exact loopS_same (by simp [hx]) (by simp [hx])
          · have hi0 := hi0 c0
            by_cases c1 : s1 = 0 <;> by_cases c2 : s1 ≤ p1 <;> by_cases c3 : s2 < p2
            all_goals
              have hb2 := hb' _ rfl
              have c1' := c1
              have c1b : (s1 != 0) = decide (¬ s1 = 0) := by by_cases h : s1 = 0 <;> simp [h]
              simp only [c1', decide_true, decide_false, not_true_eq_false, not_false_eq_true] at c1b
              first | subst c1 | skip
              simp only [ordB, c0, c1', c2, c3, decide_true, decide_false, ne_eq, not_true_eq_false, not_false_eq_true, Bool.false_and, Bool.or_true, Bool.or_false] at hb2
              refine ⟨?_, ?h1, ?h2⟩
              case h1 =>
                simp -implicitDefEqProofs [loopS_eq, c135L0, hi, hi0, hx, hlt, hcl, wi, kr, kw, hb2, c2, c3]
                exact rfl
              case h2 => exact loopS_same (by simp []) (by simp [])
        · skip
          by_cases c0 : i = 0
          · subst c0
            simp only [Nat.zero_mul, List.drop_zero] at hx
            have w0 : IntKind.i64.wrap 1 = 1 := by decide
            by_cases c1 : s1 = 0 <;> by_cases c2 : s1 ≤ p1 <;> by_cases c3 : s2 < p2
            all_goals
              have hb2 := hb' _ rfl
              have c1' := c1
              have c1b : (s1 != 0) = decide (¬ s1 = 0) := by by_cases h : s1 = 0 <;> simp [h]
              simp only [c1', decide_true, decide_false, not_true_eq_false, not_false_eq_true] at c1b
              first | subst c1 | skip
              simp only [ordB, c1', c2, c3, decide_true, decide_false, ne_eq, not_true_eq_false, not_false_eq_true, Bool.true_and, Bool.or_true, Bool.or_false] at hb2
              refine ⟨?_, ?g1, ?g2⟩
              case g1 =>
                simp -implicitDefEqProofs [loopS_eq, c135L0, hi, hx, kr, kw, hb2, c1b, c2, c3, hs]
                exact rfl
              case g2 => rfl
          · have hi0 := hi0 c0
            by_cases c1 : s1 = 0 <;> by_cases c2 : s1 ≤ p1 <;> by_cases c3 : s2 < p2
            all_goals
              have hb2 := hb' _ rfl
              have c1' := c1
              have c1b : (s1 != 0) = decide (¬ s1 = 0) := by by_cases h : s1 = 0 <;> simp [h]
              simp only [c1', decide_true, decide_false, not_true_eq_false, not_false_eq_true] at c1b
              first | subst c1 | skip
              simp only [ordB, c0, c1', c2, c3, decide_true, decide_false, ne_eq, not_true_eq_false, not_false_eq_true, Bool.false_and, Bool.or_true, Bool.or_false] at hb2
              refine ⟨?_, ?g1, ?g2⟩
              case g1 =>
                simp -implicitDefEqProofs [loopS_eq, c135L0, hi, hi0, hx, hlt, hcl, kr, kw, hb2, c2, c3, hs]
                exact rfl
              case g2 => rfl
          ) (by simp [inv, loopS_eq, c135L0]) (by simp) (fuel := loopFuel) (by simp [loopFuel]; omega)
      simp -implicitDefEqProofs [c135, kw, k2, whenE, firstE, h0, hg]
      rcases key with ⟨h1, h2⟩ | ⟨j, ⟨env, sto⟩, hj, h1, h2, h3, _, _⟩
      · rw [h1, ht, show firstE (stL l) = 0 from h2]
        simp [inv]
      · rw [h1, ht, show firstE (stL l) = _ from h3]
        simp only at h2
        subst h2
        generalize stE (prvL l j) _ _ = e
        simp
end Fw
