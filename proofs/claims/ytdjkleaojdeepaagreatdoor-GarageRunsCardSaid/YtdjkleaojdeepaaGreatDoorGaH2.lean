/- Halls: the check of a table, the reference's. -/
import Derived.Test.YtdjkleaojdeepaaGreatDoorGaH1
set_option maxHeartbeats 16000000
namespace Fw
open Go
attribute [local irreducible] evCode evOps evOpsD evOper evOperD evOp evFn loopN T.All T.bind callPure callOp opsK opsDK restK seqK blockK loopS setK setQ giveK scalK gcK finish finS rfunK yldK yldB loopK

theorem cI_drop1 (l : List (Int × Int)) (i : Nat) (h : i < l.length) : (cI l).drop (i * 2 + 1) = .int .i64 l[i].2 :: cI (l.drop (i + 1)) := by
  rw [← List.drop_drop, cI_drop l i h]; rfl
theorem stE_two (p s : Int × Int) (z : Bool) : stE p s z = if firstE [rangeE 0 100000 s.1, rangeE 0 1000000 s.2] = 0 then (if ordB p s z = true then 11 else 0) else firstE [rangeE 0 100000 s.1, rangeE 0 1000000 s.2] := by
  unfold stE
  by_cases h1 : rangeE 0 100000 s.1 = 0 <;> by_cases h2 : rangeE 0 1000000 s.2 = 0 <;> cases ordB p s z <;> simp [firstE, h1, h2, whenE]
/-- the reference's order -/
theorem ordB_ref (_p s : Int × Int) (h : firstE [rangeE 0 100000 s.1, rangeE 0 1000000 s.2] = 0) : ordB (-1, 0) s true = decide (s.1 ≠ 0) := by
  have h1 : rangeE 0 100000 s.1 = 0 := by by_cases h1 : rangeE 0 100000 s.1 = 0; exact h1; simp [firstE, h1] at h
  have h2 : rangeE 0 1000000 s.2 = 0 := by by_cases h2 : rangeE 0 1000000 s.2 = 0; exact h2; simp [firstE, h1, h2] at h
  unfold rangeE at h1 h2
  split at h1
  · omega
  · split at h2
    · omega
    · have a : ¬ s.1 ≤ -1 := by omega
      have b : ¬ s.2 < 0 := by omega
      simp [ordB, a, b]
theorem table128 {n : Nat} (hn : 4 ≤ n) (l : List (Int × Int)) (hl : l.length < 1000000) : RUN n 128 [csl l] = .ret (iv (tabE l)) := by
  obtain ⟨d, rfl⟩ : ∃ d, n = d + 4 := ⟨n - 4, by omega⟩
  rw [RUN, call_eq fe128 _ rfl]
  have kw := fun b e => when94 (n := d + 3) (by omega) b e
  have k2 := fun a b => first23_2 (n := d + 3) (by omega) a b
  have kr := fun x lo hi => range24 (n := d + 3) (by omega) x lo hi
  by_cases h0 : l.length = 0
  · have : l = [] := List.eq_nil_of_length_eq_zero h0
    subst this
    have e3 : cI ([] : List (Int × Int)) = [] := rfl
    simp -implicitDefEqProofs [c128, kw, k2, whenE, firstE, tabE]
  · by_cases h8 : 8 < l.length
    · have hg : ((8 : Int) < l.length) := by omega
      simp -implicitDefEqProofs [c128, kw, k2, whenE, firstE, tabE, h0, h8, hg]
    · have hg : ¬ ((8 : Int) < l.length) := by omega
      let inv : Nat → St := fun i => ⟨[(0, csl l), (4, iv i)], []⟩
      have ht : tabE l = firstE (stL l) := by simp [tabE, h0, h8]
      have key := loop_firstR (step := loopS (evFn F C0 G0 (d + 3)) C0 G0 0 false [0, 4] c128L0) inv (fun i => stE (prvL l i) (l.getD i (0, 0)) (decide (i = 0))) l.length (.exit 0, ⟨(inv l.length).env ++ [(22, .p (.bool false))], (inv l.length).sto⟩) (fun i st => st.env = [(2, iv (stE (prvL l i) (l.getD i (0, 0)) (decide (i = 0))))])
        (st0 := ⟨[(0, csl l), (4, iv 0)], []⟩) rfl (fun i hi => by
        have hx := cI_drop l i hi
        have hx1 := cI_drop1 l i hi
        have hlt : i * 2 < l.length * 2 := by omega
        have hlt1 : i * 2 + 1 < l.length * 2 := by omega
        have wi := wrap_succ (i := i) (by omega)
        have hg : l.getD i (0, 0) = l[i] := by simp [List.getD_eq_getElem?_getD, hi]
        have hcl := cI_length l
        by_cases c0 : i = 0
        · subst c0
          have hp : prvL l 0 = (-1, 0) := rfl
          simp only [Nat.zero_mul, List.drop_zero, Nat.zero_add] at hx hx1
          simp only [inv, csl, hg, hp]
          generalize cI (l.drop (0 + 1)) = R2 at *
          generalize cI l = A at *
          generalize l[0] = s at *
          have hr := ordB_ref (-1, 0) s
          have h2 := stE_two (-1, 0) s (decide (0 = 0))
          obtain ⟨s1, s2⟩ := s
          simp only [decide_true] at hx hx1 hr h2 ⊢
          generalize stE (-1, 0) (s1, s2) true = e at *
          have w0 : IntKind.i64.wrap 1 = 1 := by decide
          generalize hF : firstE [rangeE 0 100000 s1, rangeE 0 1000000 s2] = f at *
          by_cases hf : f = 0
          · subst hf
            rw [if_pos rfl, hr rfl] at h2
            by_cases c1 : s1 = 0
            · subst c1
              simp at h2
              subst h2
              refine ⟨fun _ => ⟨?_, ?h1, ?h2⟩, fun h => absurd rfl h⟩
              case h1 =>
                simp -implicitDefEqProofs [loopS_eq, c128L0, hi, hx, w0, kr, k2, hF]
                exact rfl
              case h2 => simp [hx]
            · simp [c1] at h2
              subst h2
              have c1b : (s1 != 0) = true := by simpa using c1
              refine ⟨fun h => absurd h (by decide), fun _ => ⟨?_, ?h1, ?h2⟩⟩
              case h1 =>
                simp -implicitDefEqProofs [loopS_eq, c128L0, hi, hx, kr, k2, hF, c1b]
                exact rfl
              case h2 => rfl
          · rw [if_neg hf] at h2
            subst h2
            refine ⟨fun h => absurd h hf, fun _ => ⟨?_, ?h1, ?h2⟩⟩
            case h1 =>
              simp -implicitDefEqProofs [loopS_eq, c128L0, hi, hx, kr, k2, hF, hf]
              exact rfl
            case h2 => rfl
        · obtain ⟨j, hj⟩ : ∃ j, i = j + 1 := ⟨i - 1, by omega⟩
          have hjl : j < l.length := by omega
          have hp : prvL l i = l[j] := by rw [hj]; simp [prvL, List.getD_eq_getElem?_getD, hjl]
          have hy := cI_drop l j hjl
          have hy1 := cI_drop1 l j hjl
          have hlj : j * 2 < l.length * 2 := by omega
          have hlj1 : j * 2 + 1 < l.length * 2 := by omega
          have hm : (i : Int) - 1 = (j : Int) := by omega
          have wj : IntKind.i64.wrap (j : Int) = j := wrap64 (by omega) (by omega)
          have hi0 : ((i : Int) == 0) = false := by simpa using c0
          have hp0 : 0 < i := by omega
          have hp1 : (0 : Int) < i := by omega
          simp only [inv, csl, hg, hp]
          generalize cI (l.drop (i + 1)) = R2 at *
          generalize cI (l.drop (j + 1)) = R3 at *
          generalize cI l = A at *
          generalize l[i] = s at *
          generalize l[j] = p at *
          have h2 := stE_two p s (decide (i = 0))
          obtain ⟨s1, s2⟩ := s
          obtain ⟨p1, p2⟩ := p
          simp only [c0, decide_false] at hx hx1 hy hy1 h2 ⊢
          generalize stE (p1, p2) (s1, s2) false = e at *
          generalize hF : firstE [rangeE 0 100000 s1, rangeE 0 1000000 s2] = f at *
          by_cases hf : f = 0
          · subst hf
            rw [if_pos rfl] at h2
            by_cases c2 : s1 ≤ p1
            · by_cases c3 : s2 < p2
              all_goals
                simp [ordB, c2, c3] at h2
                subst h2
                refine ⟨fun h => absurd h (by decide), fun _ => ⟨?_, ?h1, ?h2⟩⟩
                case h1 =>
                  simp -implicitDefEqProofs [loopS_eq, c128L0, hi, hi0, hp0, hm, wj, hjl, hy, hlj, hx, hlt, hcl, kr, k2, hF, c2]
                  exact rfl
                case h2 => rfl
            · by_cases c3 : s2 < p2
              · skip
                simp [ordB, c2, c3] at h2
                subst h2
                refine ⟨fun h => absurd h (by decide), fun _ => ⟨?_, ?h1, ?h2⟩⟩
                case h1 =>
                  simp -implicitDefEqProofs [loopS_eq, c128L0, hi, hi0, hp0, hm, wj, hjl, hy, hlj, hx, hlt, hcl, kr, k2, hF, c2, c3]
                  exact rfl
                case h2 => rfl
              · simp [ordB, c2, c3] at h2
                subst h2
                refine ⟨fun _ => ⟨?_, ?h1, ?h2⟩, fun h => absurd rfl h⟩
                case h1 =>
                  simp -implicitDefEqProofs [loopS_eq, c128L0, hi, hi0, hp0, hm, wj, hjl, hy, hlj, hx, hlt, hcl, wi, kr, k2, hF, c2, c3]
                  exact rfl
                case h2 => simp
          · rw [if_neg hf] at h2
            subst h2
            refine ⟨fun h => absurd h hf, fun _ => ⟨?_, ?h1, ?h2⟩⟩
            case h1 =>
              simp -implicitDefEqProofs [loopS_eq, c128L0, hi, hx, hlt, hcl, kr, k2, hF, hf]
              exact rfl
            case h2 => rfl
          ) (by simp [inv, loopS_eq, c128L0]) (by simp) (fuel := loopFuel) (by simp [loopFuel]; omega)
      simp -implicitDefEqProofs [c128, kw, k2, whenE, firstE, h0, hg]
      rcases key with ⟨h1, h2⟩ | ⟨j, ⟨env, sto⟩, hj, h1, h2, h3, _, _⟩
      · rw [h1, ht, show firstE (stL l) = 0 from h2]
        simp [inv]
      · rw [h1, ht, show firstE (stL l) = _ from h3]
        simp only at h2
        subst h2
        generalize stE (prvL l j) _ _ = e
        simp
end Fw
