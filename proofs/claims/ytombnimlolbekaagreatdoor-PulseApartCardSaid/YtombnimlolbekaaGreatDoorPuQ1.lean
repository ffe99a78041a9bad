/- Lists of settings; safety as the chapter looks at it; checks of learning. -/
import Derived.Test.YtombnimlolbekaaGreatDoorPuRuns
import Derived.Test.YtombnimlolbekaaGreatDoorPuPh
import Derived.Test.YtombnimlolbekaaGreatDoorPuAp4
set_option maxHeartbeats 8000000
namespace Fw
open Go
attribute [local irreducible] evCode evOps evOpsD evOper evOperD evOp evFn loopN T.All T.bind callPure callOp opsK opsDK restK seqK blockK loopS setK setQ giveK scalK gcK finish finS rfunK yldK yldB loopK



theorem cI_get0 (l : List (Int × Int)) (i : Nat) (h : i < l.length) : (cI l)[i * 2]? = some (.int .i64 l[i].1) := by
 have := cI_drop l i h
 have h2 : (cI l)[i * 2]? = ((cI l).drop (i * 2))[0]? := by simp
 rw [h2, this]; rfl
theorem cI_get1 (l : List (Int × Int)) (i : Nat) (h : i < l.length) : (cI l)[i * 2 + 1]? = some (.int .i64 l[i].2) := by
 have := cI_drop l i h
 have h2 : (cI l)[i * 2 + 1]? = ((cI l).drop (i * 2))[1]? := by simp
 rw [h2, this]; rfl
theorem cI_set0 (l : List (Int × Int)) (i : Nat) (h : i < l.length) (a : Int) : (cI l).set (i * 2) (.int .i64 a) = cI (l.set i (a, l[i].2)) := by
 induction l generalizing i with
 | nil => cases h
 | cons x r ih =>
  cases i with
  | zero => simp [cI]
  | succ i =>
   have := ih i (by simpa using h)
   rw [show (i + 1) * 2 = i * 2 + 1 + 1 by omega]
   simpa [cI] using this
theorem cI_set1 (l : List (Int × Int)) (i : Nat) (h : i < l.length) (a : Int) : (cI l).set (i * 2 + 1) (.int .i64 a) = cI (l.set i (l[i].1, a)) := by
 induction l generalizing i with
 | nil => cases h
 | cons x r ih =>
  cases i with
  | zero => simp [cI]
  | succ i =>
   have := ih i (by simpa using h)
   rw [show (i + 1) * 2 = i * 2 + 1 + 1 by omega]
   simpa [cI] using this

theorem told52 {n : Nat} (hn : 1 ≤ n) (c : List (Int × Int)) (hl : c.length < 1000000) : RUN n 52 [csl c] = .ret (.own (cI c) c.length 2) := by
 obtain ⟨d, rfl⟩ : ∃ d, n = d + 1 := ⟨n - 1, by omega⟩
 rw [RUN, call_eq fe52 _ rfl]
 let inv : Nat → St := fun i => ⟨[(3, .sl 0 i 0 i), (6, csl c), (7, iv c.length), (8, iv i)], [(0, .arr (cI (c.take i)) i 2)]⟩
 have htl : c.take c.length = c := List.take_of_length_le (by omega)
 simp -implicitDefEqProofs [c52]
 rw [loop_run' inv c.length (e := .exit 0) (st' := ⟨(inv c.length).env ++ [(9, .p (.bool false))], (inv c.length).sto⟩) (by simp)]
 ·simp -implicitDefEqProofs [inv, htl]
 ·rfl
 ·intro i hi
  have hx := cI_drop c i hi
  have hlt : i * 2 < c.length * 2 := by omega
  have hlt' : (i : Int) < c.length := by omega
  have hlim : i + 1 ≤ lim := by simp only [lim]; omega
  have hto : (c.take i).length = i := by simp; omega
  have ht : cI (c.take (i + 1)) = cI (c.take i) ++ [.int .i64 c[i].1, .int .i64 c[i].2] := by
   rw [cI_snoc, List.take_append_getElem]
  refine ⟨⟨(inv (i + 1)).env, (1, .arr [.int .i64 c[i].1, .int .i64 c[i].2] 0 1) :: (inv (i + 1)).sto⟩, ?_, loopS_same rfl (by simp [inv])⟩
  simp -implicitDefEqProofs [inv, loopS_eq, c52L0, hx, hlt, hlt', hlim, hto, wrap_succ (i := i) (by omega), ht]
 ·simp [inv, loopS_eq, c52L0]
 ·simp [loopFuel]; omega

theorem same51 {n : Nat} (hn : 1 ≤ n) (a b : List (Int × Int)) (ha : a.length < 1000000) : RUN n 51 [csl a, csl b] = .ret (.p (.bool (decide (a = b)))) := by
 obtain ⟨d, rfl⟩ : ∃ d, n = d + 1 := ⟨n - 1, by omega⟩
 rw [RUN, call_eq fe51 _ rfl]
 by_cases hl : a.length = b.length
 ·let inv : Nat → St := fun i => ⟨[(0, csl a), (1, csl b), (5, iv i)], []⟩
  let out : Nat → Ex × St := fun i => if a.drop i = b.drop i then (.exit 0, ⟨(inv a.length).env ++ [(14, .p (.bool false))], []⟩) else (.ret, ⟨[(4, .p (.bool false))], []⟩)
  simp -implicitDefEqProofs [c51, hl]
  rw [loop_rec inv out a.length (by simp [inv])]
  ·by_cases hq : a = b <;> simp [out, inv, hq]
  ·intro i hi
   have hi' : i < b.length := by omega
   have hx := cI_drop a i hi
   have hy := cI_drop b i hi'
   have hlt : i * 2 < a.length * 2 := by omega
   have hlt' : i * 2 < b.length * 2 := by omega
   have hd : (a.drop i = b.drop i) ↔ a[i] = b[i] ∧ a.drop (i + 1) = b.drop (i + 1) := by
    rw [List.drop_eq_getElem_cons hi, List.drop_eq_getElem_cons hi', List.cons.injEq]
   have hp : (a[i] = b[i]) ↔ (a[i].1 = b[i].1 ∧ a[i].2 = b[i].2) := Prod.ext_iff
   by_cases h : a[i].1 = b[i].1 ∧ a[i].2 = b[i].2
   ·refine .inl ⟨?_, ?_⟩
    ·simp -implicitDefEqProofs [inv, loopS_eq, c51L0, hi', hx, hy, hlt', hl, h.1, h.2, eqK, keyOk, eqP, wrap_succ (i := i) (by omega)]
    ·simp [out, hd, hp, h]
   ·have hb : ((a[i].1 == b[i].1) && (a[i].2 == b[i].2)) = false := by rw [Bool.eq_false_iff]; simpa using h
    refine .inr ⟨?_, ?_⟩
    ·simp -implicitDefEqProofs [inv, loopS_eq, c51L0, hi', hx, hy, hlt', hl, hb, eqK, keyOk, eqP, out, hd, hp, h]
    ·simp [out, hd, hp, h]
  ·have h1 : a.drop a.length = [] := List.drop_of_length_le (by omega)
   have h2 : b.drop a.length = [] := List.drop_of_length_le (by omega)
   simp [inv, loopS_eq, c51L0, out, hl]
  ·simp [loopFuel]; omega
 ·have : ¬ a = b := fun h => hl (by rw [h])
  have hl' : ¬ (a.length : Int) = b.length := by omega
  simp -implicitDefEqProofs [c51, hl', this]

def csv (c : List (Int × Int)) : PVal := .sl (cI c) c.length
def pS (ls : List (List (Int × Int))) : List PVal := ls.map csv
abbrev ssl (ls : List (List (Int × Int))) : AVal := .p (.sl (pS ls) ls.length)
@[simp] theorem pS_length (ls : List (List (Int × Int))) : (pS ls).length = ls.length := by simp [pS]
@[simp] theorem pS_get (ls : List (List (Int × Int))) (i : Nat) : (pS ls)[i]? = (ls[i]?).map csv := by simp [pS]
@[simp] theorem pS_getElem (ls : List (List (Int × Int))) (i : Nat) (h : i < (pS ls).length) : (pS ls)[i] = csv (ls[i]'(by simpa using h)) := by simp [pS]
@[simp] theorem nrm_csv (l : List (Int × Int)) : nrm (csv l) = csv l := rfl
@[simp] theorem scalarP_csv (l : List (Int × Int)) : scalarP (csv l) = false := rfl

end Fw
