/- Several texts in one: each is told at its head. -/
import Derived.Test.YtbaedpfgjpkabaaGreatDoorChKer
section
/- The filter of a record: what is constant, turned, opposite, or later. -/
set_option maxHeartbeats 4000000
namespace Fw
open Go

theorem sumN_add (f g : Nat → Int) (n : Nat) : sumN (fun i => f i + g i) n = sumN f n + sumN g n := by
  induction n with
  | zero => rfl
  | succ n ih => simp only [sumN, ih]; omega
/-- the sample that counts at a place, within the record or not -/
def cl (xs : List Int) (z : Int) : Int := xs.getD (clampI 0 z xs.length).toNat 0
/-- what a kernel makes of a record at a place -/
def gW (xs k : List Int) (z : Int) : Int := dd k fun i j => cl xs (z + i - j)
/-! a constant record -/
/-! the weights -/
/-! a record that is turned around -/
/-! opposite samples -/
/-! a record that is later -/
def padO (xs : List Int) (p q : Nat) : List Int := List.replicate p (xs.getD 0 0) ++ xs ++ List.replicate q (xs.getD (xs.length - 1) 0)
@[simp] theorem padO_length (xs : List Int) (p q : Nat) : (padO xs p q).length = p + xs.length + q := by simp [padO, Nat.add_assoc]
end Fw
end

section
/- Lists of integers turned around, and padded; filters of integers. -/
set_option maxHeartbeats 8000000
namespace Fw
open Go
attribute [local irreducible] evCode evOps evOpsD evOper evOperD evOp evFn loopN T.All T.bind callPure callOp opsK opsDK restK seqK blockK loopS setK setQ giveK scalK gcK finish finS rfunK yldK yldB loopK

theorem filt40 {n : Nat} (hn : 6 ≤ n) {xs : List Int} (h : In16 xs) (hl : xs.length ≤ 4096) {k : List Int} (hk : KerOk k) :
    RUN n 40 [.p (.sl (pF (xs.map smpF)) xs.length), .p (.sl (pI k) k.length)] = .ret (filtR (filtO xs (weightsL k) (sumI k * sumI k))) := by
  obtain ⟨m1, m2⟩ := made_ok h
  have hz : krE (xs.map smpF) k = 0 := kr_iff.2 ⟨⟨by simpa using hl, m1⟩, hk⟩
  have := filtered40 hn (xs.map smpF) (by simp; omega) k (by have := hk.2.1; omega)
  rw [if_pos hz, m2] at this
  simp only [fsl, isl, List.length_map] at this
  exact this
end Fw
end

section
/- What stays: the loops of the law. -/
set_option maxHeartbeats 8000000
namespace Fw
open Go
attribute [local irreducible] evCode evOps evOpsD evOper evOperD evOp evFn loopN T.All T.bind callPure callOp opsK opsDK restK seqK blockK loopS setK setQ giveK scalK gcK finish finS rfunK yldK yldB loopK

def p8 (l : List Int) : List PVal := l.map (.int .i8)
@[simp] theorem p8_length (l : List Int) : (p8 l).length = l.length := by simp [p8]
@[simp] theorem p8_get (l : List Int) (i : Nat) : (p8 l)[i]? = (l[i]?).map (.int .i8) := by simp [p8]
@[simp] theorem p8_getElem (l : List Int) (i : Nat) (h : i < (p8 l).length) : (p8 l)[i] = .int .i8 (l[i]'(by simpa using h)) := by simp [p8]
abbrev l8 (l : List Int) : AVal := .p (.sl (p8 l) l.length)
/-- the samples of the pulse -/
def wavO (l : List Int) : List Int := l.map fun n => n.tmod 31
@[simp] theorem wavO_length (l : List Int) : (wavO l).length = l.length := by simp [wavO]
theorem tmod_in (n m : Int) (hm : 0 < m) : -m < n.tmod m ∧ n.tmod m < m := by
  have h1 := Int.tmod_lt_of_pos n hm
  have h2 := Int.tmod_lt_of_pos (-n) hm
  rw [Int.neg_tmod] at h2
  omega
section
variable {d : Nat}
end
end Fw
end

