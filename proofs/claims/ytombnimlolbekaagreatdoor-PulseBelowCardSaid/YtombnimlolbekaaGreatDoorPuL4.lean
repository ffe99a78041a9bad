/- The excess of a pulse, and sums: the pulse chapter and its reference. -/
import Derived.Test.YtombnimlolbekaaGreatDoorPuL3
set_option maxHeartbeats 8000000
namespace Fw
open Go
attribute [local irreducible] evCode evOps evOpsD evOper evOperD evOp evFn loopN T.All T.bind callPure callOp opsK opsDK restK seqK blockK loopS setK setQ giveK scalK gcK finish finS rfunK yldK yldB loopK

structure Fit (c : List (Int × Int)) (p : List Int) : Prop where
 len : p.length = c.length
 small : c.length ≤ 64
 corr : ∀ x ∈ c, 0 ≤ x.1 ∧ x.1 ≤ 10000 ∧ 0 ≤ x.2 ∧ x.2 ≤ 10000 ∧ x.1 ≤ x.2
 acc : ∀ a ∈ p, -100000 ≤ a ∧ a ≤ 100000

/-! the reference -/

/-! the errors, read -/

theorem firstE_zero {l : List Int} : firstE l = 0 ↔ ∀ e ∈ l, e = 0 := by
 induction l with
 | nil => simp [firstE]
 | cons e r ih =>
  rw [firstE_cons]
  by_cases h : e = 0 <;> simp [h, ih]

theorem rangeE_zero {lo hi n : Int} : rangeE lo hi n = 0 ↔ lo ≤ n ∧ n ≤ hi := by
 unfold rangeE
 split <;> omega

theorem whenE_zero {b : Bool} {e : Int} (he : e ≠ 0) : whenE b e = 0 ↔ b = false := by
 cases b <;> simp [whenE, he]

theorem sizedE_zero {n m : Int} : sizedE n m = 0 ↔ n ≠ 0 ∧ n ≤ m := by
 simp [sizedE, firstE_zero, whenE_zero]

theorem ivE_zero {lo hi : Int} {x : Int × Int} : ivE lo hi x = 0 ↔ lo ≤ x.1 ∧ x.1 ≤ hi ∧ lo ≤ x.2 ∧ x.2 ≤ hi ∧ x.1 ≤ x.2 := by
 simp [ivE, firstE_zero, whenE_zero, rangeE_zero, and_assoc]

theorem accE_zero {p : List Int} : accE p = 0 ↔ ∀ a ∈ p, -100000 ≤ a ∧ a ≤ 100000 := by
 simp [accE, firstE_zero, rangeE_zero]

theorem corrE_zero {c : List (Int × Int)} (h : corrE c = 0) : c.length ≠ 0 ∧ c.length ≤ 64 ∧ ∀ x ∈ c, 0 ≤ x.1 ∧ x.1 ≤ 10000 ∧ 0 ≤ x.2 ∧ x.2 ≤ 10000 ∧ x.1 ≤ x.2 := by
 unfold corrE at h
 split at h
 ·rename_i hs
  obtain ⟨h1, h2⟩ := sizedE_zero.1 hs
  refine ⟨by omega, by omega, fun x hx => ?_⟩
  exact ivE_zero.1 (firstE_zero.1 h _ (List.mem_map.2 ⟨x, hx, rfl⟩))
 ·rename_i hs; exact absurd h hs

theorem fit_of {c : List (Int × Int)} {p : List Int} (h : firstE [corrE c, fitE c p] = 0) : Fit c p := by
 have h1 := firstE_zero.1 h
 have hc := corrE_zero (h1 (corrE c) (by simp))
 have hf := firstE_zero.1 (h1 (fitE c p) (by simp))
 have hl := (whenE_zero (by decide)).1 (hf _ (List.mem_cons_self ..))
 have hl2 : (p.length : Int) = c.length := by simpa using hl
 exact ⟨by omega, hc.2.1, hc.2.2, accE_zero.1 (hf (accE p) (by simp))⟩

/-! Excess and Inside -/

end Fw
