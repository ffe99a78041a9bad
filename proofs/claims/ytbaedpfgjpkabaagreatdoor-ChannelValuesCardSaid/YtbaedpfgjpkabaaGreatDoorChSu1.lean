/- Sums of records: turned, agreement, speeds, ways. -/
import Derived.Test.YtbaedpfgjpkabaaGreatDoorChS1
import Derived.Test.YtbaedpfgjpkabaaGreatDoorChN2
import Derived.Test.YtbaedpfgjpkabaaGreatDoorChC1
set_option maxHeartbeats 8000000
namespace Fw
open Go
attribute [local irreducible] evCode evOps evOpsD evOper evOperD evOp evFn loopN T.All T.bind callPure callOp opsK opsDK restK seqK blockK loopS setK setQ giveK scalK gcK finish finS rfunK yldK yldB loopK

/-! turned -/
def tuE (l : List Nat) (c : CodeI) : Int := firstE [smpsE l, codeE c]
/-- the samples that the program makes -/
def tuO (l : List Nat) (c : CodeI) : List Nat := if c.sign < 0 then l.map fun b => smpF (-smpN b) else l
@[simp] theorem tuO_length (l : List Nat) (c : CodeI) : (tuO l c).length = l.length := by unfold tuO; split <;> simp

/-! agreement -/
def agE (a b : List Nat) : Int := firstE [smpsE a, smpsE b, whenE ((a.length : Int) != b.length) 2]
def agS (a b : List Nat) (i : Nat) : Int := sumN (fun i => (a.map smpN).getD i 0 * (b.map smpN).getD i 0) i
def sgn (x : Int) : Int := if x < 0 then -1 else if 0 < x then 1 else 0
theorem cmp143 {n : Nat} (hn : 2 ≤ n) (x y : Int) : RUN n 143 [iv x, iv y] = .ret (iv (if x < y then -1 else if y < x then 1 else 0)) := by
  obtain ⟨d, rfl⟩ : ∃ d, n = d + 2 := ⟨n - 2, by omega⟩
  rw [RUN, call_eq fe143 _ rfl]
  have k1 := nan186 (n := d + 1) (by omega) x
  have k2 := nan186 (n := d + 1) (by omega) y
  by_cases a : x < y
  · simp -implicitDefEqProofs [c143, k1, k2, a]
  · by_cases b : y < x
    · simp -implicitDefEqProofs [c143, k1, k2, a, b]
    · simp -implicitDefEqProofs [c143, k1, k2, a, b]

end Fw
