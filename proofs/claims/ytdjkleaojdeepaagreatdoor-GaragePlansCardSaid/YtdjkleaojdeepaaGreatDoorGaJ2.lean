/- Jobs: their checks by the reference. -/
import Derived.Test.YtdjkleaojdeepaaGreatDoorGaJ1
set_option maxHeartbeats 16000000
namespace Fw
open Go
attribute [local irreducible] evCode evOps evOpsD evOper evOperD evOp evFn loopN T.All T.bind callPure callOp opsK opsDK restK seqK blockK loopS setK setQ giveK scalK gcK finish finS rfunK yldK yldB loopK

theorem inner51 {d : Nat} (l : List JobI) (hl : l.length < 1000000) (i : Nat) (hi : i < l.length) :
    (jTw l i = true ∧ loopN (loopS (evFn F C0 G0 d) C0 G0 0 false [0, 3, 5] c51L0) loopFuel ⟨[(0, jsl l), (3, iv i), (5, iv 0)], []⟩ = .ret (.ret, ⟨[(2, iv 9)], []⟩)) ∨
    (jTw l i = false ∧ loopN (loopS (evFn F C0 G0 d) C0 G0 0 false [0, 3, 5] c51L0) loopFuel ⟨[(0, jsl l), (3, iv i), (5, iv 0)], []⟩ = .ret (.exit 2, ⟨[(0, jsl l), (3, iv i), (5, iv i), (27, .p (.bool false))], []⟩)) := by
  let inv : Nat → St := fun k => ⟨[(0, jsl l), (3, iv i), (5, iv k)], []⟩
  have hR := jR_len l
  have key := loop_first (step := loopS (evFn F C0 G0 d) C0 G0 0 false [0, 3, 5] c51L0) inv (fun k => if (l.getD k zJ).name = (l.getD i zJ).name then 1 else 0) i (.exit 2, ⟨(inv i).env ++ [(27, .p (.bool false))], []⟩) (fun _ => (.ret, ⟨[(2, iv 9)], []⟩))
    (st0 := ⟨[(0, jsl l), (3, iv i), (5, iv 0)], []⟩) (fuel := loopFuel) rfl (fun k hk => by
      have hk' : k < l.length := by omega
      have hw := wrap_succ (i := k) (by omega)
      have hlt : k * 6 < l.length * 6 := by omega
      have hdr := rowC_drop jc_len l k hk'
      have hlt2 : i * 6 < l.length * 6 := by omega
      have hdr2 := rowC_drop jc_len l i hi
      have hki : (k : Int) < i := by omega
      rw [getJ hk', getJ hi]
      generalize hA : rowC jc l = A at *
      generalize rowC jc (l.drop (i + 1)) = R2 at *
      generalize rowC jc (l.drop (k + 1)) = R3 at *
      generalize l[k] = x at *
      generalize l[i] = y at *
      obtain ⟨nm, a1, a2, a3, a4, a5⟩ := x
      obtain ⟨nm', a1', a2', a3', a4', a5'⟩ := y
      simp only at hdr hdr2 ⊢
      by_cases h : nm = nm'
      · subst h
        rw [if_pos rfl]
        refine ⟨fun h0 => absurd h0 (by decide), fun _ => ?_⟩
        simp -implicitDefEqProofs [inv, hA, hR, loopS_eq, c51L0, hi, hk', hki, hlt, hlt2, hdr, hdr2, jc, strBin]
      · rw [if_neg h]
        have hb : (nm == nm') = false := by simpa using h
        refine ⟨fun _ => ⟨?_, ?h1, ?h2⟩, fun h0 => absurd rfl h0⟩
        case h1 =>
          simp -implicitDefEqProofs [inv, hA, hR, loopS_eq, c51L0, hi, hk', hki, hlt, hlt2, hdr, hdr2, jc, strBin, hb, hw]
          exact rfl
        case h2 => rfl) (fun _ => by simp) (by simp -implicitDefEqProofs [inv, loopS_eq, c51L0]) (by simp) (by simp [loopFuel]; omega)
  rcases key with ⟨k1, k2⟩ | ⟨j, hj, k1, k2, k3, k4⟩
  · refine .inr ⟨?_, k1⟩
    cases ht : jTw l i with
    | false => rfl
    | true =>
      unfold jTw at ht
      simp only [decide_eq_true_eq, List.mem_map] at ht
      obtain ⟨x, hx, he⟩ := ht
      obtain ⟨j, hj, rfl⟩ := List.getElem_of_mem hx
      have hji : j < i := by simp only [List.length_take] at hj; omega
      have := firstE_zero.1 k2 _ (List.mem_map.2 ⟨j, List.mem_range.2 hji, rfl⟩)
      rw [if_pos (by rw [getJ (show j < l.length by omega)]; simpa using he)] at this
      cases this
  · refine .inl ⟨?_, k1⟩
    have he : (l.getD j zJ).name = (l.getD i zJ).name := by
      by_cases h : (l.getD j zJ).name = (l.getD i zJ).name
      · exact h
      · rw [if_neg h] at k3; exact absurd rfl k3
    unfold jTw
    simp only [decide_eq_true_eq, List.mem_map]
    refine ⟨l[j]'(by omega), ?_, ?_⟩
    · rw [List.mem_take_iff_getElem]; exact ⟨j, by omega, rfl⟩
    · rw [getJ (show j < l.length by omega)] at he; exact he
theorem jobs51 {n : Nat} (hn : 4 ≤ n) (l : List JobI) (hl : l.length ≤ 9223372036854775807) : RUN n 51 [jsl l] = .ret (iv (jobE l)) := by
  obtain ⟨d, rfl⟩ : ∃ d, n = d + 4 := ⟨n - 4, by omega⟩
  rw [RUN, call_eq fe51 _ rfl]
  have hR := jR_len l
  by_cases c : (8 : Int) < l.length
  · have c' : 8 < l.length := by omega
    simp -implicitDefEqProofs [c51, c, jobE, c']
  · have c' : ¬ 8 < l.length := by omega
    simp only [jobE, if_neg c']
    let inv : Nat → St := fun i => ⟨[(0, jsl l), (3, iv i)], []⟩
    have key := loop_firstR (step := loopS (evFn F C0 G0 (d + 3)) C0 G0 0 false [0, 3] c51L1) inv (job1 l) l.length (.exit 0, ⟨(inv l.length).env ++ [(13, .p (.bool false))], (inv l.length).sto⟩) (fun i st => st.env = [(2, iv (job1 l i))])
      (st0 := ⟨[(0, jsl l), (3, iv 0)], []⟩) rfl (fun i hi => by
      have hlt : i * 6 < l.length * 6 := by omega
      have hdr := rowC_drop jc_len l i hi
      have wi := wrap_succ (i := i) (by omega)
      have hdx : ∀ q, (rowC jc l).drop (i * 6 + q) = (jc l[i] ++ rowC jc (l.drop (i + 1))).drop q := fun q => by rw [← List.drop_drop, hdr]
      have hl1 : i * 6 + 1 < l.length * 6 := by omega
      have hl2 : i * 6 + 2 < l.length * 6 := by omega
      have hl3 : i * 6 + 3 < l.length * 6 := by omega
      have hl4 : i * 6 + 4 < l.length * 6 := by omega
      have hl5 : i * 6 + 5 < l.length * 6 := by omega
      have hd1 := hdx 1
      have hd2 := hdx 2
      have hd3 := hdx 3
      have hd4 := hdx 4
      have hd5 := hdx 5
      have k1 := cname112 (n := d + 3) (by omega) l[i].name
      have kr := fun x lo hi => range24 (n := d + 3) (by omega) x lo hi
      have k5 := fun a b c e f => first23_5 (n := d + 3) (by omega) a b c e f
      have hin := inner51 (d := d + 3) l (by omega) i hi
      unfold job1
      rw [getJ hi]
      simp only [inv]
      have h91 : whenE true 9 = 9 := rfl
      have h90 : whenE false 9 = 0 := rfl
      generalize whenE (!nameB l[i].name) 8 = e1 at *
      generalize hj : jTw l i = tw at *
      unfold jRng
      simp only [jsl] at *
      generalize hA : rowC jc l = A at *
      generalize rowC jc (l.drop (i + 1)) = R2 at *
      generalize l[i] = x at *
      obtain ⟨nm, a1, a2, a3, a4, a5⟩ := x
      simp only [jc, List.drop_succ_cons, List.drop_zero, List.cons_append, List.nil_append] at hdr hd1 hd2 hd3 hd4 hd5 k1 ⊢
      by_cases he1 : e1 = 0
      · subst he1
        rcases hin with ⟨h1, hin⟩ | ⟨h1, hin⟩
        · subst h1
          have hE : firstE [0, whenE true 9, firstE [rangeE 0 16 a1, rangeE 0 16 a2, rangeE 0 16 a3, rangeE 1 10000 a4, rangeE 0 10000 a5]] = 9 := rfl
          rw [hE]
          refine ⟨fun he => absurd he (by decide), fun _ => ?_⟩
          refine ⟨?_, ?h1, ?h2⟩
          case h1 =>
            simp -implicitDefEqProofs [loopS_eq, c51L1, hi, hR, hlt, hdr, k1]
            rw [hin]
            simp -implicitDefEqProofs []
            exact rfl
          case h2 => rfl
        · subst h1
          have hE : firstE [0, whenE false 9, firstE [rangeE 0 16 a1, rangeE 0 16 a2, rangeE 0 16 a3, rangeE 1 10000 a4, rangeE 0 10000 a5]] = firstE [rangeE 0 16 a1, rangeE 0 16 a2, rangeE 0 16 a3, rangeE 1 10000 a4, rangeE 0 10000 a5] := by
            rw [h90]
            generalize firstE [rangeE 0 16 a1, rangeE 0 16 a2, rangeE 0 16 a3, rangeE 1 10000 a4, rangeE 0 10000 a5] = e
            by_cases h : e = 0 <;> simp [firstE, h]
          rw [hE]
          generalize hG : firstE [rangeE 0 16 a1, rangeE 0 16 a2, rangeE 0 16 a3, rangeE 1 10000 a4, rangeE 0 10000 a5] = e at *
          refine ⟨fun he => ?_, fun he => ?_⟩
          · subst he
            refine ⟨?_, ?h1, ?h2⟩
            case h1 =>
              simp -implicitDefEqProofs [loopS_eq, c51L1, hi, hR, hlt, hdr, k1]
              rw [hin]
              simp -implicitDefEqProofs [hi, hR, hlt, hdr, kr, k5, hG, wi]
              exact rfl
            case h2 => rfl
          · refine ⟨?_, ?h1, ?h2⟩
            case h1 =>
              simp -implicitDefEqProofs [loopS_eq, c51L1, hi, hR, hlt, hdr, k1]
              rw [hin]
              simp -implicitDefEqProofs [hi, hR, hlt, hdr, kr, k5, hG, he]
              exact rfl
            case h2 => rfl
      · have hE : ∀ b c, firstE [e1, b, c] = e1 := fun b c => by simp [firstE, he1]
        rw [hE]
        refine ⟨fun he => absurd he he1, fun _ => ?_⟩
        refine ⟨?_, ?h1, ?h2⟩
        case h1 =>
          simp -implicitDefEqProofs [loopS_eq, c51L1, hi, hR, hlt, hdr, k1, he1]
          exact rfl
        case h2 => rfl) (by simp -implicitDefEqProofs [inv, loopS_eq, c51L1]) (by simp) (fuel := loopFuel) (by simp [loopFuel]; omega)
    rcases key with ⟨h1, h2⟩ | ⟨j, ⟨env, sto⟩, hj, h1, h2, h3, _, _⟩
    · rw [show firstE _ = 0 from h2]
      simp only [inv] at h1
      simp -implicitDefEqProofs [c51, c]
      rw [show loopN _ _ _ = _ from h1]
      simp
    · rw [show firstE _ = _ from h3]
      simp only at h2
      subst h2
      simp -implicitDefEqProofs [c51, c]
      rw [show loopN _ _ _ = _ from h1]
      simp
end Fw
