/- Lists of rows of cells: what stands at a place, what is written behind. -/
import Derived.Test.YtbaedpfgjpkabaaGreatDoorChK
set_option maxHeartbeats 4000000
namespace Fw
open Go

/-- the cells of a list of rows -/
def rowC {α : Type} (f : α → List PVal) : List α → List PVal
  | [] => []
  | x :: r => f x ++ rowC f r
section
variable {α : Type} {f : α → List PVal} {k : Nat}
@[simp] theorem rowC_nil : rowC f [] = [] := rfl
theorem rowC_cons (x : α) (r : List α) : rowC f (x :: r) = f x ++ rowC f r := rfl
theorem rowC_len (h : ∀ x, (f x).length = k) (l : List α) : (rowC f l).length = l.length * k := by
  induction l with
  | nil => simp
  | cons x r ih => simp only [rowC_cons, List.length_append, h, ih, List.length_cons, Nat.succ_mul]; omega
theorem rowC_append (a b : List α) : rowC f (a ++ b) = rowC f a ++ rowC f b := by
  induction a with
  | nil => rfl
  | cons x r ih => simp only [List.cons_append, rowC_cons, ih, List.append_assoc]
theorem rowC_drop (h : ∀ x, (f x).length = k) (l : List α) (i : Nat) (hi : i < l.length) : (rowC f l).drop (i * k) = f l[i] ++ rowC f (l.drop (i + 1)) := by
  induction l generalizing i with
  | nil => cases hi
  | cons x r ih =>
    cases i with
    | zero => simp [rowC_cons]
    | succ i =>
      have := ih i (by simpa using hi)
      rw [rowC_cons, show (i + 1) * k = (f x).length + i * k by rw [h, Nat.succ_mul]; omega, ← List.drop_drop, List.drop_left]
      simpa using this
theorem rowC_take (l : List α) (i : Nat) (hi : i < l.length) : rowC f (l.take (i + 1)) = rowC f (l.take i) ++ f l[i] := by
  rw [← List.take_append_getElem hi, rowC_append]
  simp [rowC_cons]
end
end Fw
