/- Orders and starts of jobs: their checks, both sides. -/
import Derived.Test.YtdjkleaojdeepaaGreatDoorGaJ2
set_option maxHeartbeats 16000000
namespace Fw
open Go
attribute [local irreducible] evCode evOps evOpsD evOper evOperD evOp evFn loopN T.All T.bind callPure callOp opsK opsDK restK seqK blockK loopS setK setQ giveK scalK gcK finish finS rfunK yldK yldB loopK

theorem pI_len (l : List Int) : (pI l).length = l.length := by simp [pI]
theorem pI_drop (l : List Int) (k : Nat) (hk : k < l.length) : (pI l).drop k = .int .i64 l[k] :: (pI l).drop (k + 1) := by
  rw [List.drop_eq_getElem_cons (by rw [pI_len]; exact hk)]; simp [pI]
theorem pI_take (l : List Int) (k : Nat) : (pI l).take k = pI (l.take k) := by simp [pI]
theorem getI {l : List Int} {i : Nat} (hi : i < l.length) : l.getD i 0 = l[i] := by simp [List.getD_eq_getElem?_getD, hi]
theorem mem_first {l : List Int} {v : Int} {n : Nat} (hn : n = l.length) (h : firstE ((List.range n).map fun i => if l.getD i 0 = v then 1 else 0) = 0) : ¬ v ∈ l := fun hm => by
  subst hn
  obtain ⟨i, hi, he⟩ := List.getElem_of_mem hm
  have := firstE_zero.1 h _ (List.mem_map.2 ⟨i, List.mem_range.2 hi, rfl⟩)
  rw [if_pos (by rw [getI hi]; exact he)] at this
  cases this
theorem has73 {n : Nat} (hn : 1 ≤ n) (l : List Int) (hl : l.length < 1000000) (v : Int) : RUN n 73 [isl l, iv v] = .ret (.p (.bool (decide (v ∈ l)))) := by
  obtain ⟨d, rfl⟩ : ∃ d, n = d + 1 := ⟨n - 1, by omega⟩
  rw [RUN, call_eq fe73 _ rfl]
  have hR := pI_len l
  let inv : Nat → St := fun i => ⟨[(0, isl l), (1, iv v), (5, iv i)], []⟩
  have key := loop_first (step := loopS (evFn F C0 G0 d) C0 G0 0 false [0, 1, 5] c73L0) inv (fun i => if l.getD i 0 = v then 1 else 0) l.length (.exit 0, ⟨(inv l.length).env ++ [(9, .p (.bool false))], []⟩) (fun _ => (.ret, ⟨[(4, .p (.bool true))], []⟩))
    (st0 := ⟨[(0, isl l), (1, iv v), (5, iv 0)], []⟩) (fuel := loopFuel) rfl (fun i hi => by
      have hw := wrap_succ (i := i) (by omega)
      have hdr := pI_drop l i hi
      rw [getI hi]
      simp only [inv, isl]
      generalize hA : pI l = A at *
      generalize A.drop (i + 1) = R2 at *
      generalize l[i] = x at *
      by_cases h : x = v
      · subst h
        rw [if_pos rfl]
        refine ⟨fun h0 => absurd h0 (by decide), fun _ => ?_⟩
        simp -implicitDefEqProofs [hR, loopS_eq, c73L0, hi, hdr]
      · rw [if_neg h]
        have hb : (x == v) = false := by simpa using h
        refine ⟨fun _ => ⟨?_, ?h1, ?h2⟩, fun h0 => absurd rfl h0⟩
        case h1 =>
          simp -implicitDefEqProofs [hR, loopS_eq, c73L0, hi, hdr, hb, hw]
          exact rfl
        case h2 => rfl) (fun _ => by simp) (by simp -implicitDefEqProofs [inv, loopS_eq, c73L0]) (by simp) (by simp [loopFuel]; omega)
  simp -implicitDefEqProofs [c73]
  rcases key with ⟨k1, k2⟩ | ⟨j, hj, k1, k2, k3, k4⟩
  · have hno := mem_first rfl k2
    rw [show loopN _ _ _ = _ from k1]
    simp -implicitDefEqProofs [inv, hno]
  · have hyes : v ∈ l := by
      by_cases h : l.getD j 0 = v
      · rw [getI hj] at h; rw [← h]; exact List.getElem_mem hj
      · rw [if_neg h] at k3; exact absurd rfl k3
    rw [show loopN _ _ _ = _ from k1]
    simp -implicitDefEqProofs [hyes]
def ord1 (n : Nat) (o : List Int) (k : Nat) : Int := firstE [whenE (decide (o.getD k 0 < 0) || decide ((n : Int) ≤ o.getD k 0)) 10, whenE (decide (o.getD k 0 ∈ o.take k)) 9]
def ordE (n : Nat) (o : List Int) : Int := if o.length ≠ n then 2 else firstE ((List.range o.length).map (ord1 n o))
end Fw
