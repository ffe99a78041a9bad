/- The best order of jobs by the reference: the search. -/
import Derived.Test.YtdjkleaojdeepaaGreatDoorGaPl7
set_option maxHeartbeats 16000000
set_option maxRecDepth 8000
namespace Fw
open Go
attribute [local irreducible] evCode evOps evOpsD evOper evOperD evOp evFn loopN T.All T.bind callPure callOp opsK opsDK restK seqK blockK loopS setK setQ giveK scalK gcK finish finS rfunK yldK yldB loopK

theorem prm_all {n : Nat} (h : n ≤ 5) : 0 < (prm n).length ∧ (prm n).length ≤ 120 ∧ ∀ k, k < (prm n).length → OrdOk n ((prm n).getD k []) := by
  by_cases h0 : 0 < n
  · obtain ⟨a, b, _⟩ := prm_len h0 h
    exact ⟨a, b, fun k hk => ord_ok (prm_at h0 h hk).2.1⟩
  · have : n = 0 := by omega
    subst this
    refine ⟨by decide, by decide, fun k hk => ?_⟩
    have hk0 : k = 0 := by
      have : (prm 0).length = 1 := by decide
      omega
    subst hk0
    exact ⟨by decide, fun j hj => by omega, fun a b _ hb => by omega⟩
theorem val55 {d : Nat} (l : List JobI) (hl : JobsOk l) (o : List Int) (ho : OrdOk l.length o) : RUN (d + 2) 54 [jsl l, isl o] = .ret (.own (pI (plF l o l.length)) l.length 1) ∧ RUN (d + 2) 55 [jsl l, .p (.sl (pI (plF l o l.length)) l.length)] = .ret (iv (valO l o)) := by
  refine ⟨starts54 (by omega) l o hl ho, ?_⟩
  have := end55 (n := d + 2) (by omega) l (plF l o l.length) hl (placed_ok hl ho)
  simp only [isl, plF_len] at this
  exact this
theorem plan61 {n : Nat} (hn : 12 ≤ n) (l : List JobI) (hl : JobsOk l) (h5 : l.length ≤ 5) : RUN n 61 [jsl l] = .ret (.tup [isl (bestO l), iv (valO l (bestO l))]) := by
  obtain ⟨d, rfl⟩ : ∃ d, n = d + 12 := ⟨n - 12, by omega⟩
  rw [RUN, call_eq fe61 _ rfl]
  obtain ⟨p1, p2, hok⟩ := prm_all h5
  obtain ⟨a, k120, hda⟩ := orders120 h5 (d := d + 11) (by omega)
  have hA : ((prm l.length).map slO).length = (prm l.length).length := by simp
  have hdr : ∀ k, k < (prm l.length).length → ((prm l.length).map slO).drop k = .sl (pI (prK l k)) l.length :: ((prm l.length).map slO).drop (k + 1) := fun k hk => by
    rw [List.drop_eq_getElem_cons (by rw [hA]; exact hk)]
    have hg : (prm l.length)[k] = prK l k := by simp [prK, List.getD_eq_getElem?_getD, hk]
    simp only [List.getElem_map, hg, slO]
    rw [show (prK l k).length = l.length from (hok k hk).1]
  obtain ⟨v54, v55⟩ := val55 (d := d + 9) l hl (prK l 0) (hok 0 p1)
  have hN : ((prm l.length).length : Int) = ((prm l.length).length : Int) := rfl
  let inv : Nat → St := fun k => ⟨[(0, jsl l), (4, .p (.sl ((prm l.length).map slO) (prm l.length).length)), (5, iv (bI l k)), (6, iv (valO l (prK l (bI l k)))), (7, iv ((k : Int) + 1))], []⟩
  have key : loopN (loopS (evFn F C0 G0 (d + 11)) C0 G0 0 false [0, 4, 5, 6, 7] c61L0) loopFuel (inv 0) = .ret (.exit 0, ⟨(inv ((prm l.length).length - 1)).env ++ [(22, .p (.bool false))], []⟩) := by
    rw [loop_run' inv ((prm l.length).length - 1) (e := .exit 0) (st' := ⟨(inv ((prm l.length).length - 1)).env ++ [(22, .p (.bool false))], []⟩) (by simp)]
    · rfl
    · intro k hk
      have hk1 : k + 1 < (prm l.length).length := by omega
      have hki : (k : Int) + 1 < (prm l.length).length := by omega
      have wk := wrap64 (n := (k : Int) + 1 + 1) (by omega) (by omega)
      have hn1 : ((k : Int) + 1).toNat = k + 1 := by omega
      have h0i : 0 ≤ (k : Int) + 1 := by omega
      have hd := hdr (k + 1) hk1
      obtain ⟨w54, w55⟩ := val55 (d := d + 9) l hl (prK l (k + 1)) (hok _ hk1)
      simp only [inv]
      have hlp := (hok _ hk1).1
      simp only [isl] at w54
      rw [show (prK l (k + 1)).length = l.length from hlp] at w54
      have hcast : (((k + 1 : Nat)) : Int) = (k : Int) + 1 := by omega
      by_cases hV : valO l (prK l (k + 1)) < valO l (prK l (bI l k))
      · have e1 : bI l (k + 1) = k + 1 := by simp only [bI, if_pos hV]
        simp only [e1, hcast]
        generalize valO l (prK l (k + 1)) = V1 at *
        generalize valO l (prK l (bI l k)) = V0 at *
        generalize pI (plF l (prK l (k + 1)) l.length) = PF at *
        generalize pI (prK l (k + 1)) = PK at *
        simp only [jsl] at *
        generalize rowC jc l = J at *
        generalize (prm l.length).map slO = PA at *
        generalize (prm l.length).length = N at *
        generalize PA.drop (k + 1 + 1) = R2 at *
        refine ⟨?_, ?h1, ?h2⟩
        case h1 =>
          simp -implicitDefEqProofs [loopS_eq, c61L0, hk1, hki, hn1, h0i, hA, hd, w54, w55, hV, wk]
          exact rfl
        case h2 => rfl
      · have e1 : bI l (k + 1) = bI l k := by simp only [bI, if_neg hV]
        simp only [e1, hcast]
        generalize valO l (prK l (k + 1)) = V1 at *
        generalize valO l (prK l (bI l k)) = V0 at *
        generalize pI (plF l (prK l (k + 1)) l.length) = PF at *
        generalize pI (prK l (k + 1)) = PK at *
        generalize bI l k = bk at *
        simp only [jsl] at *
        generalize rowC jc l = J at *
        generalize (prm l.length).map slO = PA at *
        generalize (prm l.length).length = N at *
        generalize PA.drop (k + 1 + 1) = R2 at *
        refine ⟨?_, ?h1, ?h2⟩
        case h1 =>
          simp -implicitDefEqProofs [loopS_eq, c61L0, hk1, hki, hn1, h0i, hA, hd, w54, w55, hV, wk]
          exact rfl
        case h2 => rfl
    · have hnl : ¬ (((prm l.length).length - 1 : Nat) : Int) + 1 < (prm l.length).length := by omega
      simp -implicitDefEqProofs [loopS_eq, c61L0, inv, hnl]
    · simp [loopFuel]; omega
  have hb := bI_le l ((prm l.length).length - 1)
  have hbN : bI l ((prm l.length).length - 1) < (prm l.length).length := by omega
  have hbi : (bI l ((prm l.length).length - 1) : Int) < (prm l.length).length := by omega
  have hdb := hdr _ hbN
  have hd0 := hdr 0 p1
  have hl0 := (hok 0 p1).1
  simp only [isl] at v54
  rw [show (prK l 0).length = l.length from hl0] at v54
  have hlb := (hok _ hbN).1
  have p1i : (0 : Int) < (prm l.length).length := by omega
  simp only [inv, bI, Int.natCast_zero, Int.zero_add] at key
  have hbl : (bestO l).length = l.length := hlb
  have hbe : prK l (bI l ((prm l.length).length - 1)) = bestO l := rfl
  rw [hbe] at key hdb
  simp only [isl, hbl]
  generalize valO l (bestO l) = VB at *
  generalize valO l (prK l 0) = V0 at *
  generalize pI (plF l (prK l 0) l.length) = PF at *
  generalize pI (prK l 0) = P0 at *
  generalize pI (bestO l) = PB at *
  generalize bI l ((prm l.length).length - 1) = bi at *
  generalize ((((prm l.length).length - 1 : Nat)) : Int) = z at *
  simp only [jsl] at *
  generalize rowC jc l = J at *
  generalize (prm l.length).map slO = PA at *
  generalize (prm l.length).length = N at *
  generalize PA.drop (bi + 1) = R2 at *
  generalize PA.drop (0 + 1) = R3 at *
  simp only [List.drop_zero] at hd0
  subst hd0
  simp -implicitDefEqProofs [c61, k120, hda, p1, hA, v54, v55]
  rw [show loopN _ _ _ = _ from key]
  simp -implicitDefEqProofs [hbN, hbi, hA, hdb]
end Fw
