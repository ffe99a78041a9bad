/- What is learned, by the reference. -/
import Derived.Test.YtombnimlolbekaaGreatDoorPuQ2
set_option maxHeartbeats 8000000
namespace Fw
open Go
attribute [local irreducible] evCode evOps evOpsD evOper evOperD evOp evFn loopN T.All T.bind callPure callOp opsK opsDK restK seqK blockK loopS setK setQ giveK scalK gcK finish finS rfunK yldK yldB loopK

def moveL (out : List (Int × Int)) (i : Nat) (by' : Int) : List (Int × Int) := out.set i ((out.getD i (0, 0)).1, max 0 (min 100 ((out.getD i (0, 0)).2 + by')))
def learnS (s : SledI) (l c : List (Int × Int)) (p : List Int) (step : Int) (i : Nat) (out : List (Int × Int)) : List (Int × Int) :=
 if (c.length : Int) ≤ (l.getD i (0, 0)).1 then out else if safeB s (moveL out i (step * wishI s l c p i)) c.length = true then moveL out i (step * wishI s l c p i) else out
def outF (s : SledI) (l c : List (Int × Int)) (p : List Int) (step : Int) : Nat → List (Int × Int)
 | 0 => l
 | i + 1 => learnS s l c p step i (outF s l c p step i)
def learnedL (s : SledI) (l c : List (Int × Int)) (p : List Int) (step : Int) : List (Int × Int) := outF s l c p step l.length

structure Keep (l out : List (Int × Int)) : Prop where
 len : out.length = l.length
 frm : ∀ i, (out.getD i (0, 0)).1 = (l.getD i (0, 0)).1
 val : ∀ i, i < l.length → 0 ≤ (out.getD i (0, 0)).2 ∧ (out.getD i (0, 0)).2 ≤ 100

theorem Keep.refl {l : List (Int × Int)} (h : Valid l) : Keep l l := ⟨rfl, fun _ => rfl, fun i hi => ⟨(h.val i hi).1, (h.val i hi).2.1⟩⟩

theorem Keep.valid {l out : List (Int × Int)} (k : Keep l out) (h : Valid l) : Valid out := by
 refine ⟨by rw [k.len]; exact h.pos, by rw [k.len]; exact h.small, by rw [k.frm]; exact h.zero, fun i hi => ?_, fun i h0 hi => ?_⟩
 ·rw [k.len] at hi
  have := k.val i hi
  have := h.val i hi
  rw [k.frm]
  omega
 ·rw [k.len] at hi
  rw [k.frm, k.frm]
  exact h.inc i h0 hi

theorem moveL_length (out : List (Int × Int)) (i : Nat) (b : Int) : (moveL out i b).length = out.length := by simp [moveL]

theorem moveL_get (out : List (Int × Int)) (i j : Nat) (b : Int) (hi : i < out.length) : (moveL out i b).getD j (0, 0) = if i = j then ((out.getD i (0, 0)).1, max 0 (min 100 ((out.getD i (0, 0)).2 + b))) else out.getD j (0, 0) := by
 simp only [moveL, List.getD_eq_getElem?_getD, List.getElem?_set]
 split
 ·rename_i h; subst h; simp [hi]
 ·rfl

theorem Keep.move {l out : List (Int × Int)} (k : Keep l out) (i : Nat) (b : Int) (hi : i < l.length) : Keep l (moveL out i b) := by
 have hio : i < out.length := by rw [k.len]; exact hi
 refine ⟨by rw [moveL_length, k.len], fun j => ?_, fun j hj => ?_⟩
 ·rw [moveL_get out i j b hio]
  split
  ·rename_i h; subst h; exact k.frm i
  ·exact k.frm j
 ·rw [moveL_get out i j b hio]
  split
  ·simp only; omega
  ·exact k.val j hj

theorem Keep.step {s : SledI} {l c out : List (Int × Int)} {p : List Int} {step : Int} {i : Nat} (k : Keep l out) (hi : i < l.length) : Keep l (learnS s l c p step i out) := by
 unfold learnS
 split
 ·exact k
 ·split
  ·exact k.move i _ hi
  ·exact k

theorem outF_keep {s : SledI} {l c : List (Int × Int)} {p : List Int} {step : Int} (h : Valid l) : ∀ i, i ≤ l.length → Keep l (outF s l c p step i) := by
 intro i
 induction i with
 | zero => intro _; exact Keep.refl h
 | succ i ih => intro hi; exact (ih (by omega)).step (by omega)

theorem wishI_cases (s : SledI) (l c : List (Int × Int)) (p : List Int) (i : Nat) : wishI s l c p i = 1 ∨ wishI s l c p i = -1 ∨ wishI s l c p i = 0 := by
 unfold wishI
 split
 ·exact .inl rfl
 ·split
  ·exact .inr (.inl rfl)
  ·exact .inr (.inr rfl)

end Fw
