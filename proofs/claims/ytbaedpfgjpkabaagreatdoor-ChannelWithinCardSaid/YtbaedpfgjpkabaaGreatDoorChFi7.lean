/- Filled records: the reference's function. -/
import Derived.Test.YtbaedpfgjpkabaaGreatDoorChFi6
set_option maxHeartbeats 8000000
namespace Fw
open Go
attribute [local irreducible] evCode evOps evOpsD evOper evOperD evOp evFn loopN T.All T.bind callPure callOp opsK opsDK restK seqK blockK loopS setK setQ giveK scalK gcK finish finS rfunK yldK yldB loopK

/-- the interval at an index, behind some of the samples -/
def refX (g : List (Int × Int)) (u : List Int) (r : Int) (i : Nat) : Nat → Int × Int
  | 0 => (-16384, 16384)
  | k + 1 => if mis g (k : Int) = true then refX g u r i k else if btw g (min i k) (max i k) = true then nar u r i (refX g u r i k) k else refX g u r i k
def somK (g : List (Int × Int)) (k : Nat) : Bool := (List.range k).any fun j => !mis g (j : Int)
theorem fiY_known (g : List (Int × Int)) (u : List Int) (r : Int) (i n : Nat) (hi : i < n) (hm : mis g (i : Int) = false) (hu : -16384 ≤ u.getD i 0 ∧ u.getD i 0 ≤ 16384) : fiY (mL g n) u r i = (u.getD i 0, u.getD i 0) := by
  have hD := mL_getD g n i hi
  rw [hm] at hD
  have el : lft (mL g n) i = i := by
    rcases lft_spec (mL g n) i (by simpa using hi) with ⟨_, e⟩ | ⟨q, e, q1, q2, q3⟩
    · have := e i (Nat.le_refl _); rw [hD] at this; cases this
    · rcases Nat.lt_or_eq_of_le q1 with h | h
      · have := q3 i h (Nat.le_refl _); rw [hD] at this; cases this
      · rw [e, h]
  have er : rgt (mL g n) i = i := by
    rcases rgt_spec (mL g n) i (by simpa using hi) with ⟨_, e⟩ | ⟨q, e, q1, _, q2, q3⟩
    · have := e i (Nat.le_refl _) (by simpa using hi); rw [hD] at this; cases this
    · rcases Nat.lt_or_eq_of_le q1 with h | h
      · have := q3 i (Nat.le_refl _) h; rw [hD] at this; cases this
      · rw [e, h]
  have hz : max ((i : Int) - i) ((i : Int) - i) = 0 := by omega
  unfold fiY
  rw [el, er]
  have hp : (0 : Int) ≤ i := by omega
  simp only [nar, Int.toNat_natCast, hz, Int.mul_zero, Int.sub_zero, Int.add_zero, if_pos hp]
  refine Prod.ext ?_ ?_
  · simp only; omega
  · simp only; omega
end Fw
