/- Records: the errors of samples, their integers, samples of integers; the program's and the reference's. -/
import Derived.Test.YtbaedpfgjpkabaaGreatDoorChN1
set_option maxHeartbeats 8000000
namespace Fw
open Go
attribute [local irreducible] evCode evOps evOpsD evOper evOperD evOp evFn loopN T.All T.bind callPure callOp opsK opsDK restK seqK blockK loopS setK setQ giveK scalK gcK finish finS rfunK yldK yldB loopK

abbrev fv (b : Nat) : AVal := .p (.flt .f32 b)
abbrev fsl (l : List Nat) : AVal := .p (.sl (pF l) l.length)
@[simp] theorem pF_length (l : List Nat) : (pF l).length = l.length := by simp [pF]
@[simp] theorem pF_get (l : List Nat) (i : Nat) : (pF l)[i]? = (l[i]?).map (.flt .f32) := by simp [pF]
@[simp] theorem pF_getElem (l : List Nat) (i : Nat) (h : i < (pF l).length) : (pF l)[i] = .flt .f32 (l[i]'(by simpa using h)) := by simp [pF]
@[simp] theorem pF_nil : pF [] = [] := rfl
def smpsE (l : List Nat) : Int := if 4096 < l.length then 5 else firstE (l.map smpE)
def SmpOk (l : List Nat) : Prop := ∀ b ∈ l, smpE b = 0
theorem m200 : c200 = mapC (.p (.int .i64 0)) 8 := rfl
/-! integers of samples -/
/-! samples of integers -/
def In16 (l : List Int) : Prop := ∀ n ∈ l, -16384 ≤ n ∧ n ≤ 16384
end Fw
