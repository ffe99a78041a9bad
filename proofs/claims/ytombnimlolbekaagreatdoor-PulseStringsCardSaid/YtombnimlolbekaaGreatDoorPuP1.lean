/- Lists of runs: the pulse chapter and its reference. -/
import Derived.Test.YtombnimlolbekaaGreatDoorPuS5
set_option maxHeartbeats 8000000
namespace Fw
open Go
attribute [local irreducible] evCode evOps evOpsD evOper evOperD evOp evFn loopN T.All T.bind callPure callOp opsK opsDK restK seqK blockK loopS setK setQ giveK scalK gcK finish finS rfunK yldK yldB loopK

/-- a list of lists, as cells -/
def lsl (l : List Int) : PVal := .sl (pI l) l.length
def pL (ls : List (List Int)) : List PVal := ls.map lsl
abbrev llsl (ls : List (List Int)) : AVal := .p (.sl (pL ls) ls.length)
@[simp] theorem pL_length (ls : List (List Int)) : (pL ls).length = ls.length := by simp [pL]
@[simp] theorem pL_get (ls : List (List Int)) (i : Nat) : (pL ls)[i]? = (ls[i]?).map lsl := by simp [pL]
@[simp] theorem pL_getElem (ls : List (List Int)) (i : Nat) (h : i < (pL ls).length) : (pL ls)[i] = lsl (ls[i]'(by simpa using h)) := by simp [pL]
theorem pL_snoc (ls : List (List Int)) (x : List Int) : pL ls ++ [lsl x] = pL (ls ++ [x]) := by simp [pL]
@[simp] theorem nrm_lsl (l : List Int) : nrm (lsl l) = lsl l := rfl
@[simp] theorem scalarP_lsl (l : List Int) : scalarP (lsl l) = false := rfl

theorem runs57 {n : Nat} (hn : 2 ≤ n) (ls : List (List Int)) (hl : ls.length < 1000000) (hi : ∀ l ∈ ls, l.length < 1000000) : RUN n 57 [llsl ls] = .ret (.own (pL ls) ls.length 1) := by
  obtain ⟨d, rfl⟩ : ∃ d, n = d + 2 := ⟨n - 2, by omega⟩
  rw [RUN, call_eq fe57 _ rfl]
  let inv : Nat → St := fun i => ⟨[(3, .sl 0 i 0 i), (6, llsl ls), (7, iv ls.length), (8, iv i)], [(0, .arr (pL (ls.take i)) i 1)]⟩
  have htl : ls.take ls.length = ls := List.take_of_length_le (by omega)
  simp -implicitDefEqProofs [c57]
  rw [loop_run inv ls.length (e := .exit 0) (st' := ⟨(inv ls.length).env ++ [(9, .p (.bool false))], (inv ls.length).sto⟩) (by simp)]
  · simp -implicitDefEqProofs [inv, htl]
  · rfl
  · intro i hi'
    have hlt' : (i : Int) < ls.length := by omega
    have hlim : i + 1 ≤ lim := by simp only [lim]; omega
    have hto : (ls.take i).length = i := by simp; omega
    have ht : pL (ls.take (i + 1)) = pL (ls.take i) ++ [.sl (pI ls[i]) ls[i].length] := by
      rw [show (PVal.sl (pI ls[i]) ls[i].length) = lsl ls[i] from rfl, pL_snoc, List.take_append_getElem]
    have h33 := (ints33 (n := d + 1) (by omega) ls[i] (hi _ (List.getElem_mem hi'))).choose_spec.1
    have h33' : callPure (evFn F C0 G0 (d + 1)) C0 (.fn 33) [.p (lsl ls[i])] = .ret (.own (pI ls[i]) ls[i].length 1) := h33
    simp -implicitDefEqProofs [inv, loopS_eq, c57L0, hi', hlt', hlim, hto, h33', wrap_succ (i := i) (by omega), ht]
  · simp [inv, loopS_eq, c57L0]
  · simp [loopFuel]; omega

/-- the error of runs -/
def runE (ls : List (List Int)) (l : List Int) : Int := firstE [pulseE l, whenE ((l.length : Int) != (ls.getD 0 []).length) 2]
def runsE (ls : List (List Int)) : Int := if sizedE ls.length 8 = 0 then firstE (ls.map (runE ls)) else sizedE ls.length 8

theorem run157 {n : Nat} (hn : 7 ≤ n) (ls : List (List Int)) (h0 : 0 < ls.length) (l : List Int) (hl : l.length < 1000000) : RUN n 157 [.p (lsl l), .p (.pp [.sl (pL ls) ls.length])] = .ret (iv (runE ls l)) := by
  obtain ⟨d, rfl⟩ : ∃ d, n = d + 7 := ⟨n - 7, by omega⟩
  rw [RUN, call_eq fe157 _ rfl]
  have hg : ls.getD 0 [] = ls[0] := by simp [List.getD_eq_getElem?_getD, List.getElem?_eq_getElem h0]
  have h1 := pulse110 (n := d + 6) (by omega) l hl
  have h1' : callPure (evFn F C0 G0 (d + 6)) C0 (.fn 110) [.p (lsl l)] = .ret (iv (pulseE l)) := h1
  have he : runE ls l = firstE [pulseE l, whenE ((l.length : Int) != ls[0].length) 2] := by rw [runE, hg]
  rw [he]
  have hlen : ∀ (l : List Int), lsl l = .sl (pI l) l.length := fun _ => rfl
  simp only [hlen] at h1' ⊢
  have hd : ∃ r, pL ls = .sl (pI ls[0]) ls[0].length :: r := by
    cases ls with
    | nil => simp at h0
    | cons x r => exact ⟨pL r, rfl⟩
  obtain ⟨r, hr⟩ := hd
  simp -implicitDefEqProofs [c157, h1', hr, h0, when107 (n := d + 6), first92_2 (n := d + 6)]
end Fw
