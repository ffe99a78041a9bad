/- 'mapped' from integers to intervals. -/
import Derived.Test.YtombnimlolbekaaGreatDoorPuPd
set_option maxHeartbeats 8000000
namespace Fw
open Go
attribute [local irreducible] evCode evOps evOpsD evOper evOperD evOp evFn loopN T.All T.bind callPure callOp opsK opsDK restK seqK blockK loopS setK setQ giveK scalK gcK finish finS rfunK yldK yldB loopK

theorem map124 {d : Nat} (l : List Int) (f : Nat) (caps : List PVal) (hn : ∀ c ∈ caps, nrm c = c) (g : Int → Int × Int) (hl : l.length < 1000000) (hg : ∀ x ∈ l, RUN d f (iv x :: caps.map .p) = .ret (.agg [iv (g x).1, iv (g x).2])) :
    RUN (d + 1) 124 [isl l, .p (.clo f [] caps)] = .ret (.own (cI (l.map g)) l.length 2) := by
  rw [RUN, call_eq fe124 _ rfl]
  let inv : Nat → St := fun i => ⟨[(1, .p (.clo f [] caps)), (5, .sl 0 i 0 i), (8, isl l), (9, iv l.length), (10, iv i)], [(0, .arr (cI ((l.map g).take i)) i 2)]⟩
  have htl : (l.map g).take l.length = l.map g := List.take_of_length_le (by simp)
  simp -implicitDefEqProofs [c124]
  rw [loop_run inv l.length (e := .exit 0) (st' := ⟨(inv l.length).env ++ [(11, .p (.bool false))], (inv l.length).sto⟩) (by simp)]
  · simp -implicitDefEqProofs [inv, htl]
  · rfl
  · intro i hi
    have hb : (i : Int) < l.length := by omega
    have hlim : i + 1 ≤ lim := by simp only [lim]; omega
    have hto : ((l.map g).take i).length = i := by simp; omega
    have ht : cI ((l.map g).take (i + 1)) = cI ((l.map g).take i) ++ [.int .i64 (g l[i]).1, .int .i64 (g l[i]).2] := by
      rw [take_succ_map g l i hi, cI_append]; rfl
    have h1 := hg l[i] (List.getElem_mem hi)
    have hm : min i l.length = i := by omega
    simp -implicitDefEqProofs [inv, loopS_eq, c124L0, hi, hb, hlim, hto, h1, Function.comp_def, nrm_list hn, wrap_succ (i := i) (by omega), ht, -List.map_take]
  · simp [inv, loopS_eq, c124L0]
  · simp [loopFuel]; omega
end Fw
