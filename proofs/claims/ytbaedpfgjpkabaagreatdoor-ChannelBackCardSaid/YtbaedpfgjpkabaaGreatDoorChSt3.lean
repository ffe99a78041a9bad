/- Lists of sensors: checked by the reference. -/
import Derived.Test.YtbaedpfgjpkabaaGreatDoorChSt1
set_option maxHeartbeats 8000000
namespace Fw
open Go
attribute [local irreducible] evCode evOps evOpsD evOper evOperD evOp evFn loopN T.All T.bind callPure callOp opsK opsDK restK seqK blockK loopS setK setQ giveK scalK gcK finish finS rfunK yldK yldB loopK

/-- names that were there before -/
def twL (l : List SenI) (i : Nat) (nm : List UInt8) : List Int := (List.range i).map fun k => if (l.getD k ⟨[], 0, 0, 0⟩).name = nm then 9 else 0
def senI1 (l : List SenI) (i : Nat) : Int := if senE (l.getD i ⟨[], 0, 0, 0⟩) = 0 then firstE (twL l i (l.getD i ⟨[], 0, 0, 0⟩).name) else senE (l.getD i ⟨[], 0, 0, 0⟩)
def sensL (l : List SenI) : List Int := (List.range l.length).map (senI1 l)
def sensE (l : List SenI) : Int := if 16 < l.length then 5 else firstE (sensL l)

theorem check95 {n : Nat} (hn : 5 ≤ n) (l : List SenI) (hl : l.length < 1000000) : RUN n 95 [ssl l] = .ret (iv (sensE l)) := by
  obtain ⟨d, rfl⟩ : ∃ d, n = d + 5 := ⟨n - 5, by omega⟩
  rw [RUN, call_eq fe95 _ rfl]
  have hR := sR_len l
  by_cases c : (16 : Int) < l.length
  · have c' : 16 < l.length := by omega
    simp -implicitDefEqProofs [c95, c, sensE, c']
  · have c' : ¬ 16 < l.length := by omega
    simp only [sensE, if_neg c']
    let inv : Nat → St := fun i => ⟨[(0, ssl l), (3, iv i)], []⟩
    have hes : (sensL l).length = l.length := by simp [sensL]
    simp -implicitDefEqProofs [c95, c]
    rw [loop_errs (st0 := ⟨[(0, ssl l), (3, .p (.int .i64 0))], []⟩) inv (sensL l) (.exit 0, ⟨(inv l.length).env ++ [(12, .p (.bool false))], []⟩) (fun e => (.ret, ⟨[(2, iv e)], []⟩)) (by rfl)]
    · by_cases y : firstE (sensL l) = 0
      · simp -implicitDefEqProofs [y, inv]
      · simp -implicitDefEqProofs [y]
    · intro i hi
      rw [hes] at hi
      have w2 := wrap_succ (i := i) (by omega)
      have hlt : i * 4 < l.length * 4 := by omega
      have hdr := rowC_drop sc_len l i hi
      have k27 := sensor27 (n := d + 4) (by omega) l[i]
      have hgi : l.getD i ⟨[], 0, 0, 0⟩ = l[i] := by rw [List.getD_eq_getElem?_getD, List.getElem?_eq_getElem hi]; rfl
      have he : (sensL l)[i] = if senE l[i] = 0 then firstE (twL l i l[i].name) else senE l[i] := by
        have h0 : (sensL l)[i] = senI1 l i := by simp [sensL]
        rw [h0, senI1, hgi]
      have hin : loopN (loopS (evFn F C0 G0 (d + 4)) C0 G0 0 false [0, 3, 5] c95L0) loopFuel ⟨[(0, ssl l), (3, iv i), (5, .p (.int .i64 0))], []⟩ = .ret (if firstE (twL l i l[i].name) = 0 then (.exit 2, ⟨[(0, ssl l), (3, iv i), (5, iv i), (25, .p (.bool false))], []⟩) else (.ret, ⟨[(2, iv (firstE (twL l i l[i].name)))], []⟩)) := by
        let inv2 : Nat → St := fun k => ⟨[(0, ssl l), (3, iv i), (5, iv k)], []⟩
        have htl : (twL l i l[i].name).length = i := by simp [twL]
        refine loop_errs inv2 (twL l i l[i].name) _ (fun e => (.ret, ⟨[(2, iv e)], []⟩)) (by rfl) ?_ (by intro e; simp) ?_ (by simp) (by rw [htl]; simp [loopFuel]; omega)
        · intro k hk
          have hki : k < i := htl ▸ hk
          have hkl : k < l.length := by omega
          have w3 := wrap_succ (i := k) (by omega)
          have hltk : k * 4 < l.length * 4 := by omega
          have hdk := rowC_drop sc_len l k hkl
          have hgk : l.getD k ⟨[], 0, 0, 0⟩ = l[k] := by rw [List.getD_eq_getElem?_getD, List.getElem?_eq_getElem hkl]; rfl
          have he2 : (twL l i l[i].name)[k] = if l[k].name = l[i].name then 9 else 0 := by
            have : (twL l i l[i].name)[k] = if (l.getD k ⟨[], 0, 0, 0⟩).name = l[i].name then 9 else 0 := by simp [twL]
            rw [this, hgk]
          rw [he2]
          generalize hA : rowC sc l = A at *
          generalize rowC sc (l.drop (i + 1)) = R2 at *
          generalize rowC sc (l.drop (k + 1)) = R3 at *
          clear he2 he k27 hgi hgk
          generalize l[i] = s at *
          generalize l[k] = t at *
          obtain ⟨nm, sk, sl, sh⟩ := s
          obtain ⟨nt, tk, tl, th⟩ := t
          simp only at hdr hdk ⊢
          by_cases cq : nt = nm
          · refine ⟨fun he => ?_, fun he => ?_⟩
            · simp [cq] at he
            · simp -implicitDefEqProofs [inv2, loopS_eq, c95L0, hki, hkl, hi, hA, hR, hlt, hltk, hdr, hdk, sc, cq, strBin]
          · refine ⟨fun he => ⟨_, ?_, rfl⟩, fun he => ?_⟩
            · simp -implicitDefEqProofs [inv2, loopS_eq, c95L0, hki, hkl, hi, hA, hR, hlt, hltk, hdr, hdk, sc, cq, strBin, w3]
            · simp [cq] at he
        · simp only [htl, inv2]
          simp -implicitDefEqProofs [loopS_eq, c95L0]
      rw [he]
      generalize firstE (twL l i l[i].name) = e2 at *
      generalize senE l[i] = e1 at *
      generalize hA : rowC sc l = A at *
      generalize rowC sc (l.drop (i + 1)) = R2 at *
      clear he hgi
      generalize l[i] = s at *
      obtain ⟨nm, sk, sl, sh⟩ := s
      by_cases z1 : e1 = 0
      · rw [if_pos z1]
        rw [z1] at k27
        by_cases z2 : e2 = 0
        · rw [if_pos z2] at hin
          refine ⟨fun _ => ⟨_, ?_, rfl⟩, fun he => absurd z2 he⟩
          simp -implicitDefEqProofs [inv, loopS_eq, c95L1, hi, hA, hR, hlt, hdr, sc, k27, hin, w2]
        · rw [if_neg z2] at hin
          refine ⟨fun he => absurd he z2, fun _ => ?_⟩
          simp -implicitDefEqProofs [inv, loopS_eq, c95L1, hi, hA, hR, hlt, hdr, sc, k27, hin]
      · rw [if_neg z1]
        refine ⟨fun he => absurd he z1, fun _ => ?_⟩
        simp -implicitDefEqProofs [inv, loopS_eq, c95L1, hi, hA, hR, hlt, hdr, sc, k27, z1]
    · intro e; simp
    · rw [hes]
      simp -implicitDefEqProofs [inv, loopS_eq, c95L1]
    · simp
    · rw [hes]; simp [loopFuel]; omega
end Fw
