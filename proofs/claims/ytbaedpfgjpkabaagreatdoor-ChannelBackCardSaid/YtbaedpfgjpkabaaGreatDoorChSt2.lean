/- Lists of sensors: printed. -/
import Derived.Test.YtbaedpfgjpkabaaGreatDoorChSt1
set_option maxHeartbeats 8000000
namespace Fw
open Go
attribute [local irreducible] evCode evOps evOpsD evOper evOperD evOp evFn loopN T.All T.bind callPure callOp opsK opsDK restK seqK blockK loopS setK setQ giveK scalK gcK finish finS rfunK yldK yldB loopK

/-- a sensor whose line is short enough for the evaluator -/
structure SenL (s : SenI) : Prop where
  a : -1000000000 ≤ s.scale ∧ s.scale ≤ 1000000000
  b : -1000000000 ≤ s.lo ∧ s.lo ≤ 1000000000
  c : -1000000000 ≤ s.hi ∧ s.hi ≤ 1000000000
  d : (Lib.join [[115, 101, 110, 115, 111, 114], s.name, itoaS s.scale, itoaS s.lo, itoaS s.hi] [32]).length ≤ lim - 1

theorem mapped163 {n : Nat} (hn : 5 ≤ n) (l : List SenI) (hl : l.length < 1000000) (hs : ∀ s ∈ l, SenL s) : RUN n 163 [ssl l, .p (.clo 164 [] [])] = .ret (.own (pStr (l.map lineS)) l.length 1) := by
  obtain ⟨d, rfl⟩ : ∃ d, n = d + 5 := ⟨n - 5, by omega⟩
  rw [RUN, call_eq fe163 _ rfl]
  let inv : Nat → St := fun i => ⟨[(1, .p (.clo 164 [] [])), (5, .sl 0 i 0 i), (8, ssl l), (9, iv l.length), (10, iv i)], [(0, .arr (pStr ((l.map lineS).take i)) i 1)]⟩
  have hR := sR_len l
  have htake : (l.map lineS).take l.length = l.map lineS := List.take_of_length_le (by simp)
  simp -implicitDefEqProofs [c163]
  rw [loop_run' inv l.length (e := .exit 0) (st' := ⟨(inv l.length).env ++ [(11, .p (.bool false))], (inv l.length).sto⟩) (by simp)]
  · simp -implicitDefEqProofs [inv, htake]
  · rfl
  · intro i hi
    have hlim : i + 1 ≤ lim := by simp only [lim]; omega
    have wi := wrap_succ (i := i) (by omega)
    obtain ⟨a, b, c, e⟩ := hs l[i] (List.getElem_mem hi)
    have k := line164 (n := d + 4) (by omega) l[i] a b c e
    have hti : ((l.map lineS).take i).length = i := by simp; omega
    have hr : pStr ((l.map lineS).take (i + 1)) = pStr ((l.map lineS).take i) ++ [.str (lineS l[i])] := by
      rw [List.take_add_one]; simp [hi, pStr]
    have hln : (pStr ((l.map lineS).take i)).length = i := by simp [pStr]; omega
    have hlt : i * 4 < l.length * 4 := by omega
    have hdr := rowC_drop sc_len l i hi
    clear a b c e
    simp only [inv]
    generalize hA : rowC sc l = A at *
    generalize pStr ((l.map lineS).take i) = R' at *
    generalize rowC sc (l.drop (i + 1)) = R2 at *
    generalize lineS l[i] = w at *
    generalize l[i] = v at *
    obtain ⟨nm, sk, sl, sh⟩ := v
    refine ⟨?_, ?h1, ?h2⟩
    case h1 =>
      simp -implicitDefEqProofs [loopS_eq, c163L0, hi, hA, hR, hlt, hdr, sc, k, hlim, hln, wi]
      exact rfl
    case h2 => exact loopS_same rfl (by simp [hr])
  · simp -implicitDefEqProofs [inv, loopS_eq, c163L0]
  · simp [loopFuel]; omega

/-- the text of sensors -/
def textS (l : List SenI) : List UInt8 := (l.map lineS).flatten
theorem lineS_eq (s : SenI) : lineS s = [115, 101, 110, 115, 111, 114] ++ [32] ++ s.name ++ [32] ++ itoaS s.scale ++ [32] ++ itoaS s.lo ++ [32] ++ itoaS s.hi ++ [10] := by
  simp [lineS, Lib.join]
end Fw
