/- Starts of jobs that are placed in an order: by the reference. -/
import Derived.Test.YtdjkleaojdeepaaGreatDoorGaJ4
set_option maxHeartbeats 16000000
set_option maxRecDepth 8000
namespace Fw
open Go
attribute [local irreducible] evCode evOps evOpsD evOper evOperD evOp evFn loopN T.All T.bind callPure callOp opsK opsDK restK seqK blockK loopS setK setQ giveK scalK gcK finish finS rfunK yldK yldB loopK

def P54 (l : List JobI) (o : List Int) (k : Nat) (st : List Int) (at0 : Int) (m : Nat) : St := ⟨[(0, jsl l), (1, isl o), (5, .sl 0 0 0 l.length), (6, iv k), (7, .ptr 1 0 0), (8, iv at0), (9, iv m)], [(1, .arr (jc (jo l o k)) 0 1), (0, .arr (pI st) 0 1)]⟩
theorem round54 {d : Nat} (l : List JobI) (o : List Int) (hl : JobsOk l) (ho : OrdOk l.length o) (k : Nat) (hk : k < l.length) (m : Nat) (hm : m < k) :
    ∃ st1, loopS (evFn F C0 G0 d) C0 G0 0 true [0, 1, 5, 6, 7, 8, 9] c54L0 (P54 l o k (plF l o k) (atF l o (plF l o k) (jo l o k) m) m) = .ret (.normal, st1) ∧
      loopS (evFn F C0 G0 d) C0 G0 0 true [0, 1, 5, 6, 7, 8, 9] c54L0 st1 = loopS (evFn F C0 G0 d) C0 G0 0 true [0, 1, 5, 6, 7, 8, 9] c54L0 (P54 l o k (plF l o k) (atF l o (plF l o k) (jo l o k) (m + 1)) (m + 1)) := by
  have h8 := hl.1
  have hmk : (m : Int) < k := by omega
  have wm := wrap_succ (i := m) (by omega)
  have hmo : m < o.length := by have := ho.1; omega
  have b2 := ho.2.1 m (by omega)
  have hln := plF_len l o k
  have hle := plF_le hl ho k (by omega)
  have hat := atF_le hl ho (plF l o k) hln (B := 20000 * k) (by omega) (hle) (jo l o k) m (by omega)
  generalize hS : plF l o k = S at *
  have hj := hl.2 _ (jo_mem ho (show m < l.length by omega))
  have hat1 : atF l o S (jo l o k) (m + 1) = max (atF l o S (jo l o k) m) (freeJ (jo l o k) (jo l o m) (S.getD (o.getD m 0).toNat 0)) := rfl
  rw [hat1]
  generalize atF l o S (jo l o k) m = at0 at *
  have hrow : (rowC jc l).drop ((o.getD m 0).toNat * 6) = jc (jo l o m) ++ rowC jc (l.drop ((o.getD m 0).toNat + 1)) := by
    have hlt : (o.getD m 0).toNat < l.length := by omega
    rw [rowC_drop jc_len l _ hlt]
    unfold jo
    rw [getJ hlt]
  have hR := jR_len l
  have hlt2 : (o.getD m 0).toNat * 6 < l.length * 6 := by omega
  have hlt2b : (o.getD m 0).toNat * 6 + 6 ≤ l.length * 6 := by omega
  have hgm2 : (pI S)[(o.getD m 0).toNat]? = some (.int .i64 (S.getD (o.getD m 0).toNat 0)) := pIq _ _ (by omega)
  have hPl : (pI S).length = l.length := by rw [pI_len]; exact hln
  have hdr := pI_drop o m hmo
  rw [← getI hmo] at hdr
  have hPo := pI_len o
  have hso := hle (o.getD m 0).toNat (by omega)
  unfold freeJ
  simp only [P54, jsl, isl]
  generalize hM : o.getD m 0 = om at *
  generalize jo l o k = xk at *
  generalize jo l o m = xm at *
  generalize rowC jc (l.drop (om.toNat + 1)) = R2 at *
  generalize rowC jc l = A at *
  generalize S.getD om.toNat 0 = so at *
  generalize pI S = PS at *
  generalize hPO : pI o = PO at *
  generalize PO.drop (m + 1) = T2 at *
  have hgm' : ∀ q, PS[om.toNat]'q = .int .i64 so := fun q => by rw [List.getElem?_eq_getElem q] at hgm2; exact Option.some.inj hgm2
  obtain ⟨p3, p4⟩ := b2
  obtain ⟨nm, a1, a2, a3, a4, a5⟩ := xk
  obtain ⟨nm', c1, c2, c3, c4, c5⟩ := xm
  simp only at hj ⊢
  have mx := fun a b => max2 a b
  have w1 := wrap64 (n := so + c4) (by omega) (by omega)
  have w2 := wrap64 (n := so + c4 + c5) (by omega) (by omega)
  by_cases d1 : a1 = c1
  · rw [if_pos d1]
    by_cases d2 : a2 = c2
    · have hv : max at0 (so + c4 + c5) = max (max at0 (so + c4)) (so + c4 + c5) := by omega
      rw [hv]
      refine ⟨?_, ?h1, ?h2⟩
      case h1 =>
        simp -implicitDefEqProofs [loopS_eq, c54L0, hmk, hmo, hdr, hPo, p3, p4, hR, hlt2, hrow, jc, hgm', hPl, mx, w1, w2, d1, d2, wm]
        exact rfl
      case h2 => exact loopS_same (by simp) (by simp [jc, d1, d2])
    · have d2b : (a2 == c2) = false := by simpa using d2
      by_cases d3 : a3 = c3
      · have hv : max at0 (so + c4 + c5) = max (max at0 (so + c4)) (so + c4 + c5) := by omega
        rw [hv]
        refine ⟨?_, ?h1, ?h2⟩
        case h1 =>
          simp -implicitDefEqProofs [loopS_eq, c54L0, hmk, hmo, hdr, hPo, p3, p4, hR, hlt2, hrow, jc, hgm', hPl, mx, w1, w2, d1, d2b, d3, wm]
          exact rfl
        case h2 => exact loopS_same (by simp) (by simp [jc, d1, d3])
      · have d3b : (a3 == c3) = false := by simpa using d3
        refine ⟨?_, ?h1, ?h2⟩
        case h1 =>
          simp -implicitDefEqProofs [loopS_eq, c54L0, hmk, hmo, hdr, hPo, p3, p4, hR, hlt2, hrow, jc, hgm', hPl, mx, w1, w2, d1, d2b, d3b, wm]
          exact rfl
        case h2 => exact loopS_same (by simp) (by simp [jc, d1])
  · have d1b : (a1 == c1) = false := by simpa using d1
    rw [if_neg d1]
    by_cases d2 : a2 = c2
    · rw [if_pos (.inl d2)]
      refine ⟨?_, ?h1, ?h2⟩
      case h1 =>
        simp -implicitDefEqProofs [loopS_eq, c54L0, hmk, hmo, hdr, hPo, p3, p4, hR, hlt2, hrow, jc, hgm', hPl, mx, w1, d1b, d2, wm]
        exact rfl
      case h2 => exact loopS_same (by simp) (by simp [jc, d2])
    · have d2b : (a2 == c2) = false := by simpa using d2
      by_cases d3 : a3 = c3
      · rw [if_pos (.inr d3)]
        refine ⟨?_, ?h1, ?h2⟩
        case h1 =>
          simp -implicitDefEqProofs [loopS_eq, c54L0, hmk, hmo, hdr, hPo, p3, p4, hR, hlt2, hrow, jc, hgm', hPl, mx, w1, d1b, d2b, d3, wm]
          exact rfl
        case h2 => exact loopS_same (by simp) (by simp [jc, d3])
      · have d3b : (a3 == c3) = false := by simpa using d3
        rw [if_neg (fun c => c.elim d2 d3)]
        have hv : max at0 0 = at0 := by omega
        rw [hv]
        refine ⟨?_, ?h1, ?h2⟩
        case h1 =>
          simp -implicitDefEqProofs [loopS_eq, c54L0, hmk, hmo, hdr, hPo, p3, p4, hR, hlt2, hrow, jc, hgm', hPl, w1, d1b, d2b, d3b, wm]
          exact rfl
        case h2 => exact loopS_same (by simp) (by simp [jc])
theorem inner54 {d : Nat} (l : List JobI) (o : List Int) (hl : JobsOk l) (ho : OrdOk l.length o) (k : Nat) (hk : k < l.length) :
    loopN (loopS (evFn F C0 G0 d) C0 G0 0 true [0, 1, 5, 6, 7, 8, 9] c54L0) loopFuel (P54 l o k (plF l o k) 0 0) = .ret (.exit 2, ⟨(P54 l o k (plF l o k) (atF l o (plF l o k) (jo l o k) k) k).env ++ [(30, .p (.bool false))], (P54 l o k (plF l o k) (atF l o (plF l o k) (jo l o k) k) k).sto⟩) := by
  rw [loop_run' (fun m => P54 l o k (plF l o k) (atF l o (plF l o k) (jo l o k) m) m) k (e := .exit 2) (st' := ⟨(P54 l o k (plF l o k) (atF l o (plF l o k) (jo l o k) k) k).env ++ [(30, .p (.bool false))], (P54 l o k (plF l o k) (atF l o (plF l o k) (jo l o k) k) k).sto⟩) (by simp)]
  · rfl
  · intro m hm
    exact round54 l o hl ho k hk m hm
  · simp -implicitDefEqProofs [loopS_eq, c54L0, P54]
  · have := hl.1; simp [loopFuel]; omega
theorem starts54 {n : Nat} (hn : 1 ≤ n) (l : List JobI) (o : List Int) (hl : JobsOk l) (ho : OrdOk l.length o) : RUN n 54 [jsl l, isl o] = .ret (.own (pI (plF l o l.length)) l.length 1) := by
  obtain ⟨d, rfl⟩ : ∃ d, n = d + 1 := ⟨n - 1, by omega⟩
  rw [RUN, call_eq fe54 _ rfl]
  have h8 := hl.1
  have hol := ho.1
  have hln := plF_len l o l.length
  have hP : (pI (plF l o l.length)).length = l.length := by rw [pI_len]; exact hln
  have hlim : (l.length : Int) ≤ lim := by simp only [lim]; omega
  let inv : Nat → St := fun k => ⟨[(0, jsl l), (1, isl o), (5, .sl 0 0 0 l.length), (6, iv k)], [(0, .arr (pI (plF l o k)) 0 1)]⟩
  have key : loopN (loopS (evFn F C0 G0 d) C0 G0 0 true [0, 1, 5, 6] c54L1) loopFuel (inv 0) = .ret (.exit 0, ⟨(inv l.length).env ++ [(18, .p (.bool false))], (inv l.length).sto⟩) := by
    rw [loop_run' inv l.length (e := .exit 0) (st' := ⟨(inv l.length).env ++ [(18, .p (.bool false))], (inv l.length).sto⟩) (by simp)]
    · rfl
    · intro k hk
      have hko : k < o.length := by omega
      have wk := wrap_succ (i := k) (by omega)
      have b1 := ho.2.1 k hk
      have hdr := pI_drop o k hko
      rw [← getI hko] at hdr
      have hR := pI_len o
      have hJ := jR_len l
      have hlt2 : (o.getD k 0).toNat * 6 < l.length * 6 := by omega
      have hlt2b : (o.getD k 0).toNat * 6 + 6 ≤ l.length * 6 := by omega
      have hrow : (rowC jc l).drop ((o.getD k 0).toNat * 6) = jc (jo l o k) ++ rowC jc (l.drop ((o.getD k 0).toNat + 1)) := by
        have hlt : (o.getD k 0).toNat < l.length := by omega
        rw [rowC_drop jc_len l _ hlt]
        unfold jo
        rw [getJ hlt]
      have hin := inner54 (d := d) l o hl ho k hk
      have hlk := plF_len l o k
      have hset : (pI (plF l o k)).set (o.getD k 0).toNat (.int .i64 (atF l o (plF l o k) (jo l o k) k)) = pI (plF l o (k + 1)) := by rw [pI_set]; rfl
      have hPl : (pI (plF l o k)).length = l.length := by rw [pI_len]; exact hlk
      have hst : (o.getD k 0).toNat + 1 ≤ l.length := by omega
      simp only [P54, inv, jsl, isl] at *
      simp only [Int.natCast_zero] at hin
      generalize atF l o (plF l o k) (jo l o k) k = at0 at *
      generalize pI (plF l o k) = S1 at *
      generalize pI (plF l o (k + 1)) = S2 at *
      generalize hO : o.getD k 0 = ok at *
      generalize rowC jc (l.drop (ok.toNat + 1)) = R3 at *
      generalize rowC jc l = J at *
      generalize jo l o k = xk at *
      generalize hA : pI o = A at *
      generalize A.drop (k + 1) = R2 at *
      obtain ⟨p1, p2⟩ := b1
      obtain ⟨nm, a1, a2, a3, a4, a5⟩ := xk
      simp only [jc] at hin hrow
      refine ⟨?_, ?h1, ?h2⟩
      case h1 =>
        simp -implicitDefEqProofs [loopS_eq, c54L1, hko, hdr, hR, hJ, p1, p2, hlt2, hrow]
        rw [show loopN _ _ _ = _ from hin]
        simp -implicitDefEqProofs [wk, hko, hdr, hR, p1, p2, hPl, hset, hst]
        exact rfl
      case h2 => exact loopS_same (by simp) (by simp)
    · simp -implicitDefEqProofs [loopS_eq, c54L1, inv, hol]
    · simp [loopFuel]; omega
  have e0 : pI (plF l o 0) = List.replicate l.length (PVal.int .i64 0) := by simp [plF, pI]
  simp only [inv, jsl, isl] at key ⊢
  rw [e0] at key
  generalize rowC jc l = J at *
  generalize pI (plF l o l.length) = S2 at *
  simp only [Int.natCast_zero] at key
  generalize pI o = A at *
  simp -implicitDefEqProofs [c54, hlim]
  rw [show loopN _ _ _ = _ from key]
  simp -implicitDefEqProofs [hP]
end Fw
