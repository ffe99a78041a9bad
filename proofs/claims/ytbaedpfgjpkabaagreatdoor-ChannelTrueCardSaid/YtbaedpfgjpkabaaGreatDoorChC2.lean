/- The codes of channels: read. -/
import Derived.Test.YtbaedpfgjpkabaaGreatDoorChC1
set_option maxHeartbeats 8000000
namespace Fw
open Go
attribute [local irreducible] evCode evOps evOpsD evOper evOperD evOp evFn loopN T.All T.bind callPure callOp opsK opsDK restK seqK blockK loopS setK setQ giveK scalK gcK finish finS rfunK yldK yldB loopK

def pB (l : List UInt8) : List PVal := l.map fun b => .int .u8 (b.toNat : Int)
@[simp] theorem pB_length (l : List UInt8) : (pB l).length = l.length := by simp [pB]
def eqE (l : List UInt8) (v : UInt8) (i : Nat) : Int := if v = l.getD i 0 then 1 else 0
def idxB (l : List UInt8) (v : UInt8) : Int := if firstE ((List.range l.length).map (eqE l v)) = 0 then -1 else (l.idxOf v : Int)

theorem idxOf_at (v : UInt8) : ∀ (l : List UInt8) (j : Nat), l[j]? = some v → (∀ q, q < j → l[q]? ≠ some v) → l.idxOf v = j
  | [], j, h, _ => by simp at h
  | b :: r, 0, h, _ => by
    have : b = v := by simpa using h
    subst this; simp
  | b :: r, j + 1, h, hq => by
    have hb : ¬ b = v := fun e => hq 0 (by omega) (by simp [e])
    have ih := idxOf_at v r j (by simpa using h) (fun q hq2 => by have := hq (q + 1) (by omega); simpa using this)
    rw [List.idxOf_cons, ih]
    have : (b == v) = false := by simpa using hb
    simp [this]
theorem index105 {n : Nat} (hn : 1 ≤ n) (l : List UInt8) (v : UInt8) (hl : l.length < 100000) : RUN n 105 [.p (.sl (pB l) l.length), .p (.int .u8 (v.toNat : Int))] = .ret (iv (idxB l v)) := by
  obtain ⟨d, rfl⟩ : ∃ d, n = d + 1 := ⟨n - 1, by omega⟩
  rw [RUN, call_eq fe105 _ rfl]
  let inv : Nat → St := fun i => ⟨[(0, .p (.sl (pB l) l.length)), (1, .p (.int .u8 (v.toNat : Int))), (7, iv l.length), (8, iv i)], []⟩
  have key := loop_first (step := loopS (evFn F C0 G0 d) C0 G0 0 false [0, 1, 7, 8] c105L0) inv (eqE l v) l.length (.exit 0, ⟨(inv l.length).env ++ [(9, .p (.bool false))], []⟩) (fun i => (.ret, ⟨[(4, iv i)], []⟩))
    (st0 := ⟨[(0, .p (.sl (pB l) l.length)), (1, .p (.int .u8 (v.toNat : Int))), (7, iv l.length), (8, iv 0)], []⟩) (fuel := loopFuel) rfl (fun i hi => by
      have hlt : (i : Int) < l.length := by omega
      have hgd : l.getD i 0 = l[i] := by simp [List.getD_eq_getElem?_getD, List.getElem?_eq_getElem hi]
      have hgn : ∀ q, (pB l)[i]'q = .int .u8 ((l[i]).toNat : Int) := fun q => by simp [pB]
      have hpl : (pB l).length = l.length := by simp
      have hw := wrap_succ (i := i) (by omega)
      simp only [eqE, hgd]
      generalize hQ : pB l = Q at *
      by_cases h : v = l[i]
      · rw [if_pos h]
        refine ⟨fun h0 => absurd h0 (by decide), fun _ => ?_⟩
        have hb : ((v.toNat : Int) == ((l[i]).toNat : Int)) = true := by rw [← h]; simp
        generalize l[i] = y at *
        subst h
        simp -implicitDefEqProofs [inv, hQ, loopS_eq, c105L0, hi, hlt, hgn, hpl]
      · rw [if_neg h]
        have hne : ¬ (v.toNat : Int) = ((l[i]).toNat : Int) := fun e => h (UInt8.toNat_inj.1 (by omega))
        refine ⟨fun _ => ⟨?_, ?h1, ?h2⟩, fun h0 => absurd rfl h0⟩
        case h1 =>
          simp -implicitDefEqProofs [inv, hQ, loopS_eq, c105L0, hi, hlt, hgn, hpl, hw, hne]
          exact rfl
        case h2 => simp [inv, hQ]) (fun _ => by simp) (by simp -implicitDefEqProofs [inv, loopS_eq, c105L0]) (by simp) (by simp [loopFuel]; omega)
  simp -implicitDefEqProofs [c105]
  rcases key with ⟨k1, k2⟩ | ⟨j, hj, k1, k2, k3, k4⟩
  · rw [k1]
    simp -implicitDefEqProofs [inv, idxB, k2]
  · rw [k1]
    have hj2 : l[j]? = some l[j] := List.getElem?_eq_getElem hj
    have hx : l.idxOf v = j := by
      refine idxOf_at v l j ?_ fun q hq => ?_
      · have hgd : l.getD j 0 = l[j] := by simp [List.getD_eq_getElem?_getD, hj2]
        simp only [eqE, hgd] at k3
        split at k3
        · rename_i e; rw [hj2, e]
        · exact absurd rfl k3
      · have hql : q < l.length := by omega
        have := k4 q hq
        have hgd : l.getD q 0 = l[q] := by simp [List.getD_eq_getElem?_getD, List.getElem?_eq_getElem hql]
        simp only [eqE, hgd] at this
        rw [List.getElem?_eq_getElem hql]
        split at this
        · exact absurd this (by decide)
        · rename_i e; intro h; exact e (Option.some.inj h).symm
    rw [← k2] at k3
    simp -implicitDefEqProofs [idxB, k3, hx]
end Fw
