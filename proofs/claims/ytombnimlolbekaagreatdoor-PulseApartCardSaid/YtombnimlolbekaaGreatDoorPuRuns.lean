/- The law on runs: what it returns at any input. -/
import Derived.Test.YtombnimlolbekaaGreatDoorPuS5
import Derived.Test.YtombnimlolbekaaGreatDoorPuLanes
set_option maxHeartbeats 16000000
namespace Fw
open Go
attribute [local irreducible] evCode evOps evOpsD evOper evOperD evOp evFn loopN T.All T.bind callPure callOp opsK opsDK restK seqK blockK loopS setK setQ giveK scalK gcK finish finS rfunK yldK yldB loopK

theorem steps14 {n : Nat} (hn : 1 ≤ n) (c : List (Int × Int)) (hl : c.length < 1000000) : RUN n 14 [csl c] = .ret (.own (cI c) c.length 2) := by
 obtain ⟨d, rfl⟩ : ∃ d, n = d + 1 := ⟨n - 1, by omega⟩
 rw [RUN, call_eq fe14 _ rfl]
 let inv : Nat → St := fun i => ⟨[(3, .sl 0 i 0 i), (6, csl c), (7, iv c.length), (8, iv i)], [(0, .arr (cI (c.take i)) i 2)]⟩
 have htl : c.take c.length = c := List.take_of_length_le (by omega)
 simp -implicitDefEqProofs [c14]
 rw [loop_run' inv c.length (e := .exit 0) (st' := ⟨(inv c.length).env ++ [(9, .p (.bool false))], (inv c.length).sto⟩) (by simp)]
 ·simp -implicitDefEqProofs [inv, htl]
 ·rfl
 ·intro i hi
  have hx := cI_drop c i hi
  have hlt : i * 2 < c.length * 2 := by omega
  have hlt' : (i : Int) < c.length := by omega
  have hlim : i + 1 ≤ lim := by simp only [lim]; omega
  have hto : (c.take i).length = i := by simp; omega
  have ht : cI (c.take (i + 1)) = cI (c.take i) ++ [.int .i64 c[i].1, .int .i64 c[i].2] := by
   rw [cI_snoc, List.take_append_getElem]
  refine ⟨⟨(inv (i + 1)).env, (1, .arr [.int .i64 c[i].1, .int .i64 c[i].2] 0 1) :: (inv (i + 1)).sto⟩, ?_, loopS_same rfl (by simp [inv])⟩
  simp -implicitDefEqProofs [inv, loopS_eq, c14L0, hx, hlt, hlt', hlim, hto, wrap_succ (i := i) (by omega), ht]
 ·simp [inv, loopS_eq, c14L0]
 ·simp [loopFuel]; omega

theorem same30 {n : Nat} (hn : 1 ≤ n) (a b : List (Int × Int)) (ha : a.length < 1000000) : RUN n 30 [csl a, csl b] = .ret (.p (.bool (decide (a = b)))) := by
 obtain ⟨d, rfl⟩ : ∃ d, n = d + 1 := ⟨n - 1, by omega⟩
 rw [RUN, call_eq fe30 _ rfl]
 by_cases hl : a.length = b.length
 ·let inv : Nat → St := fun i => ⟨[(0, csl a), (1, csl b), (5, iv i)], []⟩
  let out : Nat → Ex × St := fun i => if a.drop i = b.drop i then (.exit 0, ⟨(inv a.length).env ++ [(14, .p (.bool false))], []⟩) else (.ret, ⟨[(4, .p (.bool false))], []⟩)
  simp -implicitDefEqProofs [c30, hl]
  rw [loop_rec inv out a.length (by simp [inv])]
  ·by_cases hq : a = b <;> simp [out, inv, hq]
  ·intro i hi
   have hi' : i < b.length := by omega
   have hx := cI_drop a i hi
   have hy := cI_drop b i hi'
   have hlt : i * 2 < a.length * 2 := by omega
   have hlt' : i * 2 < b.length * 2 := by omega
   have hd : (a.drop i = b.drop i) ↔ a[i] = b[i] ∧ a.drop (i + 1) = b.drop (i + 1) := by
    rw [List.drop_eq_getElem_cons hi, List.drop_eq_getElem_cons hi', List.cons.injEq]
   have hp : (a[i] = b[i]) ↔ (a[i].1 = b[i].1 ∧ a[i].2 = b[i].2) := Prod.ext_iff
   by_cases h : a[i].1 = b[i].1 ∧ a[i].2 = b[i].2
   ·refine .inl ⟨?_, ?_⟩
    ·simp -implicitDefEqProofs [inv, loopS_eq, c30L0, hi', hx, hy, hlt', hl, h.1, h.2, eqK, keyOk, eqP, wrap_succ (i := i) (by omega)]
    ·simp [out, hd, hp, h]
   ·have hb : ((a[i].1 == b[i].1) && (a[i].2 == b[i].2)) = false := by rw [Bool.eq_false_iff]; simpa using h
    refine .inr ⟨?_, ?_⟩
    ·simp -implicitDefEqProofs [inv, loopS_eq, c30L0, hi', hx, hy, hlt', hl, hb, eqK, keyOk, eqP, out, hd, hp, h]
    ·simp [out, hd, hp, h]
  ·have h1 : a.drop a.length = [] := List.drop_of_length_le (by omega)
   have h2 : b.drop a.length = [] := List.drop_of_length_le (by omega)
   simp [inv, loopS_eq, c30L0, out, hl]
  ·simp [loopFuel]; omega
 ·have : ¬ a = b := fun h => hl (by rw [h])
  have hl' : ¬ (a.length : Int) = b.length := by omega
  simp -implicitDefEqProofs [c30, hl', this]


abbrev two (k : Int × Int) : List PVal := [.int .i64 k.1, .int .i64 k.2]

end Fw
