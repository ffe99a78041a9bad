/- The reference's weights and what it encloses: the same as the chapter's. -/
import Derived.Test.YtbaedpfgjpkabaaGreatDoorChN1
set_option maxHeartbeats 16000000
namespace Fw
open Go
attribute [local irreducible] evCode evOps evOpsD evOper evOperD evOp evFn loopN T.All T.bind callPure callOp opsK opsDK restK seqK blockK loopS setK setQ giveK scalK gcK finish finS rfunK yldK yldB loopK

def atI (i n : Int) : Int := min (n - 1) (max 0 i)
theorem min2 (a b : Int) : minInt a [iv b] = some (min a b) := by simp only [minInt]; congr 1; split <;> omega

/-! lists of integers in which one number is made greater -/
def bump (l : List Int) (m : Nat) (a : Int) : List Int := l.set m (l.getD m 0 + a)
@[simp] theorem bump_length (l : List Int) (m : Nat) (a : Int) : (bump l m a).length = l.length := by simp [bump]
def dotL (h : Nat → Int) (l : List Int) : Int := sumN (fun m => h m * l.getD m 0) l.length
def bnd (l : List Int) (B : Int) : Prop := ∀ q, ((l.getD q 0).natAbs : Int) ≤ B
/-! the reference's weights -/
def rJ (k : List Int) (i : Nat) (M : List Int) : Nat → List Int
  | 0 => M
  | j + 1 => bump (rJ k i M j) (k.length - 1 + i - j) (k.getD i 0 * k.getD j 0)
def rI (k : List Int) : Nat → List Int
  | 0 => List.replicate (2 * k.length - 1) 0
  | i + 1 => rJ k i (rI k i) k.length
def refW (k : List Int) : List Int := rI k k.length

@[simp] theorem rJ_length (k : List Int) (i : Nat) (M : List Int) (j : Nat) : (rJ k i M j).length = M.length := by
  induction j with
  | zero => rfl
  | succ j ih => simp [rJ, ih]
@[simp] theorem rI_length (k : List Int) (i : Nat) : (rI k i).length = 2 * k.length - 1 := by
  induction i with
  | zero => simp [rI]
  | succ i ih => simp [rI, ih]
/-- a sum over pairs -/
def dd (k : List Int) (g : Nat → Nat → Int) : Int := sumN (fun i => sumN (fun j => g i j * (k.getD i 0 * k.getD j 0)) k.length) k.length

/-! how much each interval weighs -/
def aI (w : List Int) (lk n at' : Nat) : Nat → List Int
  | 0 => List.replicate n 0
  | i + 1 => bump (aI w lk n at' i) (atI ((at' : Int) + i - lk + 1) n).toNat (w.getD i 0)
@[simp] theorem aI_length (w : List Int) (lk n at' i : Nat) : (aI w lk n at' i).length = n := by
  induction i with
  | zero => simp [aI]
  | succ i ih => simp [aI, ih]
end Fw
