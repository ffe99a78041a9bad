/- Lists of pairs and of rows as cells; functions of a known form. -/
import Derived.Test.YtdjkleaojdeepaaGreatDoorGaFe
import Derived.Test.YtdjkleaojdeepaaGreatDoorFwC
set_option maxHeartbeats 8000000
namespace Fw
open Go
theorem a91 : c91 = firstC := rfl
theorem a105 : c105 = mapC (.p (.int .i64 0)) 8 := rfl
def cI : List (Int × Int) → List PVal
 | [] => []
 | x :: r => .int .i64 x.1 :: .int .i64 x.2 :: cI r

@[simp] theorem cI_length (l : List (Int × Int)) : (cI l).length = l.length * 2 := by
 induction l with
 | nil => rfl
 | cons x r ih => simp [cI, ih]; omega

theorem cI_drop (l : List (Int × Int)) (i : Nat) (h : i < l.length) : (cI l).drop (i * 2) = .int .i64 l[i].1 :: .int .i64 l[i].2 :: cI (l.drop (i + 1)) := by
 induction l generalizing i with
 | nil => cases h
 | cons x r ih =>
  cases i with
  | zero => simp [cI]
  | succ i =>
   have := ih i (by simpa using h)
   rw [show (i + 1) * 2 = i * 2 + 2 by omega]
   simpa [cI] using this

theorem cI_append (a b : List (Int × Int)) : cI (a ++ b) = cI a ++ cI b := by
 induction a with
 | nil => rfl
 | cons x r ih => simp [cI, ih]
def rowC {α : Type} (f : α → List PVal) : List α → List PVal
 | [] => []
 | x :: r => f x ++ rowC f r
section
variable {α : Type} {f : α → List PVal} {k : Nat}
@[simp] theorem rowC_nil : rowC f [] = [] := rfl
theorem rowC_cons (x : α) (r : List α) : rowC f (x :: r) = f x ++ rowC f r := rfl
theorem rowC_len (h : ∀ x, (f x).length = k) (l : List α) : (rowC f l).length = l.length * k := by
 induction l with
 | nil => simp
 | cons x r ih => simp only [rowC_cons, List.length_append, h, ih, List.length_cons, Nat.succ_mul]; omega
theorem rowC_append (a b : List α) : rowC f (a ++ b) = rowC f a ++ rowC f b := by
 induction a with
 | nil => rfl
 | cons x r ih => simp only [List.cons_append, rowC_cons, ih, List.append_assoc]
theorem rowC_drop (h : ∀ x, (f x).length = k) (l : List α) (i : Nat) (hi : i < l.length) : (rowC f l).drop (i * k) = f l[i] ++ rowC f (l.drop (i + 1)) := by
 induction l generalizing i with
 | nil => cases hi
 | cons x r ih =>
  cases i with
  | zero => simp [rowC_cons]
  | succ i =>
   have := ih i (by simpa using hi)
   rw [rowC_cons, show (i + 1) * k = (f x).length + i * k by rw [h, Nat.succ_mul]; omega, ← List.drop_drop, List.drop_left]
   simpa using this
theorem rowC_take (l : List α) (i : Nat) (hi : i < l.length) : rowC f (l.take (i + 1)) = rowC f (l.take i) ++ f l[i] := by
 rw [← List.take_append_getElem hi, rowC_append]
 simp [rowC_cons]
theorem rowC_snoc (l : List α) (x : α) : rowC f (l ++ [x]) = rowC f l ++ f x := by simp [rowC_append, rowC_cons]
theorem rowC_all (h : ∀ x, (f x).all scalarP = true) (l : List α) : (rowC f l).all scalarP = true := by
 induction l with
 | nil => rfl
 | cons x r ih => simp only [rowC_cons, List.all_append, h, ih, Bool.and_self]
end
def badOf (t : T (Ex × St)) : Ex × St := match t with
 | .ret (.ret, st) => (.ret, st)
 | _ => (.ret, default)
theorem badOf_ret (t : T (Ex × St)) : (badOf t).1 = .ret := by
 unfold badOf
 split <;> rfl

theorem loop_firstR {step : St → T (Ex × St)} (inv : Nat → St) (e : Nat → Int) (n : Nat) (ok : Ex × St) (R : Nat → St → Prop) {st0 : St} (h0 : step st0 = step (inv 0))
  (hstep : ∀ i, i < n → (e i = 0 → ∃ st1, step (inv i) = .ret (.normal, st1) ∧ step st1 = step (inv (i + 1))) ∧ (e i ≠ 0 → ∃ st, step (inv i) = .ret (.ret, st) ∧ R i st)) (hend : step (inv n) = .ret ok) (hok : ok.1 ≠ .normal) {fuel : Nat} (hf : n < fuel) :
  (loopN step fuel st0 = .ret ok ∧ firstE ((List.range n).map e) = 0) ∨ ∃ j st, j < n ∧ loopN step fuel st0 = .ret (.ret, st) ∧ R j st ∧ firstE ((List.range n).map e) = e j ∧ e j ≠ 0 ∧ ∀ q, q < j → e q = 0 := by
 rcases loop_first inv e n ok (fun i => badOf (step (inv i))) h0 (fun i hi => ⟨(hstep i hi).1, fun he => by
   obtain ⟨st, h1, _⟩ := (hstep i hi).2 he
   simp only [h1, badOf]⟩) (fun i => by simp only [badOf_ret]; exact fun h => Ex.noConfusion h) hend hok hf with h | ⟨j, hj, h1, h2, h3, h4⟩
 ·exact .inl h
 ·obtain ⟨st, g1, g2⟩ := (hstep j hj).2 h3
  refine .inr ⟨j, st, hj, ?_, g2, h2, h3, h4⟩
  rw [h1, g1]
  rfl
end Fw
