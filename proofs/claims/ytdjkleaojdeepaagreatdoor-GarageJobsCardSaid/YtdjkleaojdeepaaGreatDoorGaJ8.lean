/- Schedules: whether jobs are apart, by the reference (printed by genJ8.py). -/
import Derived.Test.YtdjkleaojdeepaaGreatDoorGaJ7
set_option maxHeartbeats 16000000
set_option maxRecDepth 8000
namespace Fw
open Go
attribute [local irreducible] evCode evOps evOpsD evOper evOperD evOp evFn loopN T.All T.bind callPure callOp opsK opsDK restK seqK blockK loopS setK setQ giveK scalK gcK finish finS rfunK yldK yldB loopK

def P56 (l : List JobI) (st : List Int) (i k : Nat) : St := ⟨[(0, jsl l), (1, isl st), (5, iv i), (6, iv k)], []⟩
theorem inner56 {d : Nat} (l : List JobI) (st : List Int) (hl : JobsOk l) (hs : StOkJ l.length st) (i : Nat) (hi : i < l.length) :
    (con1 l st i = 0 ∧ loopN (loopS (evFn F C0 G0 d) C0 G0 0 false [0, 1, 5, 6] c56L0) loopFuel (P56 l st i 0) = .ret (.exit 2, ⟨(P56 l st i i).env ++ [(17, .p (.bool false))], []⟩)) ∨
    (con1 l st i = 24 ∧ ∃ s, loopN (loopS (evFn F C0 G0 d) C0 G0 0 false [0, 1, 5, 6] c56L0) loopFuel (P56 l st i 0) = .ret (.ret, s) ∧ s.env = [(4, .p (.bool false))]) := by
  have h8 := hl.1
  have key := loop_firstR (step := loopS (evFn F C0 G0 d) C0 G0 0 false [0, 1, 5, 6] c56L0) (P56 l st i) (fun k => if conI l st i k = true then 24 else 0) i (.exit 2, ⟨(P56 l st i i).env ++ [(17, .p (.bool false))], []⟩) (fun _ s => s.env = [(4, .p (.bool false))]) (st0 := P56 l st i 0) rfl (fun k hk => by
      have hki : (k : Int) < i := by omega
      have hkl : k < l.length := by omega
      have hks : k < st.length := by have := hs.1; omega
      have his : i < st.length := by have := hs.1; omega
      have wk := wrap_succ (i := k) (by omega)
      have hR := pI_len st
      have hdk := pI_drop st k hks
      have hdi := pI_drop st i his
      rw [← getI hks] at hdk
      rw [← getI his] at hdi
      have hJ := jR_len l
      have rowd : ∀ (j : Nat) (hj : j < l.length) (q : Nat), (rowC jc l).drop (j * 6 + q) = (jc (l.getD j zJ) ++ rowC jc (l.drop (j + 1))).drop q := fun j hj q => by
        rw [← List.drop_drop, rowC_drop jc_len l j hj, getJ hj]
      have i1 := rowd i hi 1
      have li1 : i * 6 + 1 < l.length * 6 := by omega
      have i2 := rowd i hi 2
      have li2 : i * 6 + 2 < l.length * 6 := by omega
      have i3 := rowd i hi 3
      have li3 : i * 6 + 3 < l.length * 6 := by omega
      have i4 := rowd i hi 4
      have li4 : i * 6 + 4 < l.length * 6 := by omega
      have i5 := rowd i hi 5
      have li5 : i * 6 + 5 < l.length * 6 := by omega
      have i0 := rowd i hi 0
      simp only [Nat.add_zero, List.drop_zero] at i0
      have li0 : i * 6 < l.length * 6 := by omega
      have k1 := rowd k hkl 1
      have lk1 : k * 6 + 1 < l.length * 6 := by omega
      have k2 := rowd k hkl 2
      have lk2 : k * 6 + 2 < l.length * 6 := by omega
      have k3 := rowd k hkl 3
      have lk3 : k * 6 + 3 < l.length * 6 := by omega
      have k4 := rowd k hkl 4
      have lk4 : k * 6 + 4 < l.length * 6 := by omega
      have k5 := rowd k hkl 5
      have lk5 : k * 6 + 5 < l.length * 6 := by omega
      have k0 := rowd k hkl 0
      simp only [Nat.add_zero, List.drop_zero] at k0
      have lk0 : k * 6 < l.length * 6 := by omega
      clear rowd
      have bi := hl.2 _ (List.getElem_mem hi)
      have bk := hl.2 _ (List.getElem_mem hkl)
      rw [← getJ hi] at bi
      rw [← getJ hkl] at bk
      have si := hs.2 i hi
      have sk := hs.2 k hkl
      unfold conI conB freeJ
      simp only [P56, jsl, isl]
      generalize rowC jc (l.drop (i + 1)) = R3 at *
      generalize rowC jc (l.drop (k + 1)) = R6 at *
      generalize rowC jc l = J at *
      generalize l.getD i zJ = x at *
      generalize l.getD k zJ = y at *
      generalize st.getD i 0 = sx at *
      generalize st.getD k 0 = sy at *
      generalize hA : pI st = A at *
      generalize A.drop (k + 1) = R4 at *
      generalize A.drop (i + 1) = R5 at *
      obtain ⟨nm, a1, a2, a3, a4, a5⟩ := x
      obtain ⟨nm', c1, c2, c3, c4, c5⟩ := y
      simp only [jc, List.drop_succ_cons, List.drop_zero, List.cons_append, List.nil_append] at bi bk i0 i1 i2 i3 i4 i5 k0 k1 k2 k3 k4 k5 ⊢
      have w1 := wrap64 (n := sx + a4) (by omega) (by omega)
      have w2 := wrap64 (n := sy + c4) (by omega) (by omega)
      have w3 := wrap64 (n := sx + a4 + a5) (by omega) (by omega)
      have w4 := wrap64 (n := sy + c4 + c5) (by omega) (by omega)
      generalize hv : (decide (sx < if a1 = c1 then sy + c4 + c5 else if a2 = c2 ∨ a3 = c3 then sy + c4 else 0) && decide (sy < if c1 = a1 then sx + a4 + a5 else if c2 = a2 ∨ c3 = a3 then sx + a4 else 0)) = cv
      by_cases d1 : a1 = c1
      · subst d1
        by_cases d2 : a2 = c2
        · subst d2
          by_cases q1 : sy < sx + a4
          · by_cases q2 : sx < sy + c4
            · have r1 : sy < sx + a4 + a5 := by omega
              have r2 : sx < sy + c4 + c5 := by omega
              have hv : cv = true := by
                rw [← hv]
                first | (simp [r1, r2]; done) | (simp [w1, q1, q2, r1, r2]; omega)
              subst hv
              refine ⟨fun h => absurd h (by decide), fun _ => ⟨?_, ?h1, ?h2⟩⟩
              case h1 =>
                simp -implicitDefEqProofs [loopS_eq, c56L0, hi, hkl, hki, hks, his, hdk, hdi, hR, hJ, li0, lk0, i0, k0, w2, w1, q1, q2]
                exact rfl
              case h2 => rfl
            · have r1 : sy < sx + a4 + a5 := by omega
              by_cases r2 : sx < sy + c4 + c5
              · have hv : cv = true := by
                  rw [← hv]
                  first | (simp [r1, r2]; done) | (simp [w1, q1, q2, r1, r2]; omega)
                subst hv
                refine ⟨fun h => absurd h (by decide), fun _ => ⟨?_, ?h1, ?h2⟩⟩
                case h1 =>
                  simp -implicitDefEqProofs [loopS_eq, c56L0, hi, hkl, hki, hks, his, hdk, hdi, hR, hJ, li0, lk0, i0, k0, w2, w3, w4, w1, q1, q2, r1, r2]
                  exact rfl
                case h2 => rfl
              · have hv : cv = false := by
                  rw [← hv]
                  first | (simp [r1, r2]; done) | (simp [w1, q1, q2, r1, r2]; omega)
                subst hv
                refine ⟨fun _ => ⟨?_, ?h1, ?h2⟩, fun h => absurd rfl h⟩
                case h1 =>
                  simp -implicitDefEqProofs [loopS_eq, c56L0, hi, hkl, hki, hks, his, hdk, hdi, hR, hJ, li0, lk0, i0, k0, w2, w3, w4, w1, q1, q2, r1, r2, wk]
                  exact rfl
                case h2 => rfl
          · by_cases r1 : sy < sx + a4 + a5
            · by_cases r2 : sx < sy + c4 + c5
              · have hv : cv = true := by
                  rw [← hv]
                  first | (simp [r1, r2]; done) | (simp [w1, q1, r1, r2]; omega)
                subst hv
                refine ⟨fun h => absurd h (by decide), fun _ => ⟨?_, ?h1, ?h2⟩⟩
                case h1 =>
                  simp -implicitDefEqProofs [loopS_eq, c56L0, hi, hkl, hki, hks, his, hdk, hdi, hR, hJ, li0, lk0, i0, k0, w2, w3, w4, w1, q1, r1, r2]
                  exact rfl
                case h2 => rfl
              · have hv : cv = false := by
                  rw [← hv]
                  first | (simp [r1, r2]; done) | (simp [w1, q1, r1, r2]; omega)
                subst hv
                refine ⟨fun _ => ⟨?_, ?h1, ?h2⟩, fun h => absurd rfl h⟩
                case h1 =>
                  simp -implicitDefEqProofs [loopS_eq, c56L0, hi, hkl, hki, hks, his, hdk, hdi, hR, hJ, li0, lk0, i0, k0, w2, w3, w4, w1, q1, r1, r2, wk]
                  exact rfl
                case h2 => rfl
            · have hv : cv = false := by
                rw [← hv]
                first | (simp [r1]; done) | (simp [w1, q1, r1]; omega)
              subst hv
              refine ⟨fun _ => ⟨?_, ?h1, ?h2⟩, fun h => absurd rfl h⟩
              case h1 =>
                simp -implicitDefEqProofs [loopS_eq, c56L0, hi, hkl, hki, hks, his, hdk, hdi, hR, hJ, li0, lk0, i0, k0, w2, w3, w1, q1, r1, wk]
                exact rfl
              case h2 => rfl
        · have d2b : (a2 == c2) = false := by simpa using d2
          have d2s : ¬ c2 = a2 := fun e => d2 e.symm
          by_cases d3 : a3 = c3
          · subst d3
            by_cases q1 : sy < sx + a4
            · by_cases q2 : sx < sy + c4
              · have r1 : sy < sx + a4 + a5 := by omega
                have r2 : sx < sy + c4 + c5 := by omega
                have hv : cv = true := by
                  rw [← hv]
                  first | (simp [r1, r2]; done) | (simp [w1, d2, d2b, d2s, q1, q2, r1, r2]; omega)
                subst hv
                refine ⟨fun h => absurd h (by decide), fun _ => ⟨?_, ?h1, ?h2⟩⟩
                case h1 =>
                  simp -implicitDefEqProofs [loopS_eq, c56L0, hi, hkl, hki, hks, his, hdk, hdi, hR, hJ, li0, lk0, i0, k0, w2, w1, d2b, q1, q2]
                  exact rfl
                case h2 => rfl
              · have r1 : sy < sx + a4 + a5 := by omega
                by_cases r2 : sx < sy + c4 + c5
                · have hv : cv = true := by
                    rw [← hv]
                    first | (simp [r1, r2]; done) | (simp [w1, d2, d2b, d2s, q1, q2, r1, r2]; omega)
                  subst hv
                  refine ⟨fun h => absurd h (by decide), fun _ => ⟨?_, ?h1, ?h2⟩⟩
                  case h1 =>
                    simp -implicitDefEqProofs [loopS_eq, c56L0, hi, hkl, hki, hks, his, hdk, hdi, hR, hJ, li0, lk0, i0, k0, w2, w3, w4, w1, d2b, q1, q2, r1, r2]
                    exact rfl
                  case h2 => rfl
                · have hv : cv = false := by
                    rw [← hv]
                    first | (simp [r1, r2]; done) | (simp [w1, d2, d2b, d2s, q1, q2, r1, r2]; omega)
                  subst hv
                  refine ⟨fun _ => ⟨?_, ?h1, ?h2⟩, fun h => absurd rfl h⟩
                  case h1 =>
                    simp -implicitDefEqProofs [loopS_eq, c56L0, hi, hkl, hki, hks, his, hdk, hdi, hR, hJ, li0, lk0, i0, k0, w2, w3, w4, w1, d2b, q1, q2, r1, r2, wk]
                    exact rfl
                  case h2 => rfl
            · by_cases r1 : sy < sx + a4 + a5
              · by_cases r2 : sx < sy + c4 + c5
                · have hv : cv = true := by
                    rw [← hv]
                    first | (simp [r1, r2]; done) | (simp [w1, d2, d2b, d2s, q1, r1, r2]; omega)
                  subst hv
                  refine ⟨fun h => absurd h (by decide), fun _ => ⟨?_, ?h1, ?h2⟩⟩
                  case h1 =>
                    simp -implicitDefEqProofs [loopS_eq, c56L0, hi, hkl, hki, hks, his, hdk, hdi, hR, hJ, li0, lk0, i0, k0, w2, w3, w4, w1, d2b, q1, r1, r2]
                    exact rfl
                  case h2 => rfl
                · have hv : cv = false := by
                    rw [← hv]
                    first | (simp [r1, r2]; done) | (simp [w1, d2, d2b, d2s, q1, r1, r2]; omega)
                  subst hv
                  refine ⟨fun _ => ⟨?_, ?h1, ?h2⟩, fun h => absurd rfl h⟩
                  case h1 =>
                    simp -implicitDefEqProofs [loopS_eq, c56L0, hi, hkl, hki, hks, his, hdk, hdi, hR, hJ, li0, lk0, i0, k0, w2, w3, w4, w1, d2b, q1, r1, r2, wk]
                    exact rfl
                  case h2 => rfl
              · have hv : cv = false := by
                  rw [← hv]
                  first | (simp [r1]; done) | (simp [w1, d2, d2b, d2s, q1, r1]; omega)
                subst hv
                refine ⟨fun _ => ⟨?_, ?h1, ?h2⟩, fun h => absurd rfl h⟩
                case h1 =>
                  simp -implicitDefEqProofs [loopS_eq, c56L0, hi, hkl, hki, hks, his, hdk, hdi, hR, hJ, li0, lk0, i0, k0, w2, w3, w1, d2b, q1, r1, wk]
                  exact rfl
                case h2 => rfl
          · have d3b : (a3 == c3) = false := by simpa using d3
            have d3s : ¬ c3 = a3 := fun e => d3 e.symm
            by_cases r1 : sy < sx + a4 + a5
            · by_cases r2 : sx < sy + c4 + c5
              · have hv : cv = true := by
                  rw [← hv]
                  first | (simp [r1, r2]; done) | (simp [w1, d2, d2b, d2s, d3, d3b, d3s, r1, r2]; omega)
                subst hv
                refine ⟨fun h => absurd h (by decide), fun _ => ⟨?_, ?h1, ?h2⟩⟩
                case h1 =>
                  simp -implicitDefEqProofs [loopS_eq, c56L0, hi, hkl, hki, hks, his, hdk, hdi, hR, hJ, li0, lk0, i0, k0, w2, w3, w4, w1, d2b, d3b, r1, r2]
                  exact rfl
                case h2 => rfl
              · have hv : cv = false := by
                  rw [← hv]
                  first | (simp [r1, r2]; done) | (simp [w1, d2, d2b, d2s, d3, d3b, d3s, r1, r2]; omega)
                subst hv
                refine ⟨fun _ => ⟨?_, ?h1, ?h2⟩, fun h => absurd rfl h⟩
                case h1 =>
                  simp -implicitDefEqProofs [loopS_eq, c56L0, hi, hkl, hki, hks, his, hdk, hdi, hR, hJ, li0, lk0, i0, k0, w2, w3, w4, w1, d2b, d3b, r1, r2, wk]
                  exact rfl
                case h2 => rfl
            · have hv : cv = false := by
                rw [← hv]
                first | (simp [r1]; done) | (simp [w1, d2, d2b, d2s, d3, d3b, d3s, r1]; omega)
              subst hv
              refine ⟨fun _ => ⟨?_, ?h1, ?h2⟩, fun h => absurd rfl h⟩
              case h1 =>
                simp -implicitDefEqProofs [loopS_eq, c56L0, hi, hkl, hki, hks, his, hdk, hdi, hR, hJ, li0, lk0, i0, k0, w2, w3, w1, d2b, d3b, r1, wk]
                exact rfl
              case h2 => rfl
      · have d1b : (a1 == c1) = false := by simpa using d1
        have d1s : ¬ c1 = a1 := fun e => d1 e.symm
        by_cases d2 : a2 = c2
        · subst d2
          by_cases q1 : sy < sx + a4
          · by_cases q2 : sx < sy + c4
            · have hv : cv = true := by
                rw [← hv]
                first | (simp [d1, d1s, q1, q2]; done) | (simp [d1, d1b, d1s, q1, q2]; omega)
              subst hv
              refine ⟨fun h => absurd h (by decide), fun _ => ⟨?_, ?h1, ?h2⟩⟩
              case h1 =>
                simp -implicitDefEqProofs [loopS_eq, c56L0, hi, hkl, hki, hks, his, hdk, hdi, hR, hJ, li0, lk0, i0, k0, w1, w2, q1, q2]
                exact rfl
              case h2 => rfl
            · have hv : cv = false := by
                rw [← hv]
                first | (simp [d1, d1s, q1, q2]; done) | (simp [d1, d1b, d1s, q1, q2]; omega)
              subst hv
              refine ⟨fun _ => ⟨?_, ?h1, ?h2⟩, fun h => absurd rfl h⟩
              case h1 =>
                simp -implicitDefEqProofs [loopS_eq, c56L0, hi, hkl, hki, hks, his, hdk, hdi, hR, hJ, li0, lk0, i0, k0, w1, w2, d1b, q1, q2, wk]
                exact rfl
              case h2 => rfl
          · have hv : cv = false := by
              rw [← hv]
              first | (simp [d1, d1s, q1]; done) | (simp [d1, d1b, d1s, q1]; omega)
            subst hv
            refine ⟨fun _ => ⟨?_, ?h1, ?h2⟩, fun h => absurd rfl h⟩
            case h1 =>
              simp -implicitDefEqProofs [loopS_eq, c56L0, hi, hkl, hki, hks, his, hdk, hdi, hR, hJ, li0, lk0, i0, k0, w1, w2, d1b, q1, wk]
              exact rfl
            case h2 => rfl
        · have d2b : (a2 == c2) = false := by simpa using d2
          have d2s : ¬ c2 = a2 := fun e => d2 e.symm
          by_cases d3 : a3 = c3
          · subst d3
            by_cases q1 : sy < sx + a4
            · by_cases q2 : sx < sy + c4
              · have hv : cv = true := by
                  rw [← hv]
                  first | (simp [d1, d1s, d2, d2s, q1, q2]; done) | (simp [d1, d1b, d1s, d2, d2b, d2s, q1, q2]; omega)
                subst hv
                refine ⟨fun h => absurd h (by decide), fun _ => ⟨?_, ?h1, ?h2⟩⟩
                case h1 =>
                  simp -implicitDefEqProofs [loopS_eq, c56L0, hi, hkl, hki, hks, his, hdk, hdi, hR, hJ, li0, lk0, i0, k0, w1, w2, d2b, q1, q2]
                  exact rfl
                case h2 => rfl
              · have hv : cv = false := by
                  rw [← hv]
                  first | (simp [d1, d1s, d2, d2s, q1, q2]; done) | (simp [d1, d1b, d1s, d2, d2b, d2s, q1, q2]; omega)
                subst hv
                refine ⟨fun _ => ⟨?_, ?h1, ?h2⟩, fun h => absurd rfl h⟩
                case h1 =>
                  simp -implicitDefEqProofs [loopS_eq, c56L0, hi, hkl, hki, hks, his, hdk, hdi, hR, hJ, li0, lk0, i0, k0, w1, w2, d1b, d2b, q1, q2, wk]
                  exact rfl
                case h2 => rfl
            · have hv : cv = false := by
                rw [← hv]
                first | (simp [d1, d1s, d2, d2s, q1]; done) | (simp [d1, d1b, d1s, d2, d2b, d2s, q1]; omega)
              subst hv
              refine ⟨fun _ => ⟨?_, ?h1, ?h2⟩, fun h => absurd rfl h⟩
              case h1 =>
                simp -implicitDefEqProofs [loopS_eq, c56L0, hi, hkl, hki, hks, his, hdk, hdi, hR, hJ, li0, lk0, i0, k0, w1, w2, d1b, d2b, q1, wk]
                exact rfl
              case h2 => rfl
          · have d3b : (a3 == c3) = false := by simpa using d3
            have d3s : ¬ c3 = a3 := fun e => d3 e.symm
            have n0 : ¬ sx < 0 := by omega
            have hv : cv = false := by
              rw [← hv]
              first | (simp [d1, d1s, d2, d2s, d3, d3s, n0]; done) | (simp [d1, d1b, d1s, d2, d2b, d2s, d3, d3b, d3s, n0]; omega)
            subst hv
            refine ⟨fun _ => ⟨?_, ?h1, ?h2⟩, fun h => absurd rfl h⟩
            case h1 =>
              simp -implicitDefEqProofs [loopS_eq, c56L0, hi, hkl, hki, hks, his, hdk, hdi, hR, hJ, li0, lk0, i0, k0, w1, w2, d1b, d2b, d3b, wk]
              exact rfl
            case h2 => rfl) (by simp -implicitDefEqProofs [loopS_eq, c56L0, P56]) (by simp) (fuel := loopFuel) (by simp [loopFuel]; omega)
  rcases key with ⟨h1, h2⟩ | ⟨j, s, hj, h1, h2, h3, h4, _⟩
  · exact .inl ⟨h2, h1⟩
  · refine .inr ⟨?_, s, h1, h2⟩
    have : con1 l st i = if conI l st i j = true then 24 else 0 := h3
    rw [this]
    split
    · rfl
    · rename_i q; rw [if_neg q] at h4; exact absurd rfl h4
end Fw
