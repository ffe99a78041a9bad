/- The law on runs: what it returns at any input. -/
import Derived.Test.YtombnimlolbekaaGreatDoorPuS5
import Derived.Test.YtombnimlolbekaaGreatDoorPuLanes
set_option maxHeartbeats 16000000
namespace Fw
open Go
attribute [local irreducible] evCode evOps evOpsD evOper evOperD evOp evFn loopN T.All T.bind callPure callOp opsK opsDK restK seqK blockK loopS setK setQ giveK scalK gcK finish finS rfunK yldK yldB loopK

theorem steps14 {n : Nat} (hn : 1 ≤ n) (c : List (Int × Int)) (hl : c.length < 1000000) : RUN n 14 [csl c] = .ret (.own (cI c) c.length 2) := by
 obtain ⟨d, rfl⟩ : ∃ d, n = d + 1 := ⟨n - 1, by omega⟩
 rw [RUN, call_eq fe14 _ rfl]
 let inv : Nat → St := fun i => ⟨[(3, .sl 0 i 0 i), (6, csl c), (7, iv c.length), (8, iv i)], [(0, .arr (cI (c.take i)) i 2)]⟩
 have htl : c.take c.length = c := List.take_of_length_le (by omega)
 simp -implicitDefEqProofs [c14]
 rw [loop_run' inv c.length (e := .exit 0) (st' := ⟨(inv c.length).env ++ [(9, .p (.bool false))], (inv c.length).sto⟩) (by simp)]
 ·simp -implicitDefEqProofs [inv, htl]
 ·rfl
 ·intro i hi
  have hx := cI_drop c i hi
  have hlt : i * 2 < c.length * 2 := by omega
  have hlt' : (i : Int) < c.length := by omega
  have hlim : i + 1 ≤ lim := by simp only [lim]; omega
  have hto : (c.take i).length = i := by simp; omega
  have ht : cI (c.take (i + 1)) = cI (c.take i) ++ [.int .i64 c[i].1, .int .i64 c[i].2] := by
   rw [cI_snoc, List.take_append_getElem]
  refine ⟨⟨(inv (i + 1)).env, (1, .arr [.int .i64 c[i].1, .int .i64 c[i].2] 0 1) :: (inv (i + 1)).sto⟩, ?_, loopS_same rfl (by simp [inv])⟩
  simp -implicitDefEqProofs [inv, loopS_eq, c14L0, hx, hlt, hlt', hlim, hto, wrap_succ (i := i) (by omega), ht]
 ·simp [inv, loopS_eq, c14L0]
 ·simp [loopFuel]; omega

abbrev two (k : Int × Int) : List PVal := [.int .i64 k.1, .int .i64 k.2]

end Fw
