/- The reference's weights and what it encloses: the same as the chapter's. -/
import Derived.Test.YtbaedpfgjpkabaaGreatDoorChN1
set_option maxHeartbeats 16000000
namespace Fw
open Go
attribute [local irreducible] evCode evOps evOpsD evOper evOperD evOp evFn loopN T.All T.bind callPure callOp opsK opsDK restK seqK blockK loopS setK setQ giveK scalK gcK finish finS rfunK yldK yldB loopK

def atI (i n : Int) : Int := min (n - 1) (max 0 i)
theorem min2 (a b : Int) : minInt a [iv b] = some (min a b) := by simp only [minInt]; congr 1; split <;> omega

/-! lists of integers in which one number is made greater -/
def bump (l : List Int) (m : Nat) (a : Int) : List Int := l.set m (l.getD m 0 + a)
@[simp] theorem bump_length (l : List Int) (m : Nat) (a : Int) : (bump l m a).length = l.length := by simp [bump]
theorem bump_get (l : List Int) (m : Nat) (a : Int) (h : m < l.length) (q : Nat) : (bump l m a).getD q 0 = l.getD q 0 + (if q = m then a else 0) := by
  simp only [bump, List.getD_eq_getElem?_getD, List.getElem?_set]
  by_cases e : m = q
  · subst e; simp [h]
  · have : ¬ q = m := fun h => e h.symm
    simp [e, this]
def dotL (h : Nat → Int) (l : List Int) : Int := sumN (fun m => h m * l.getD m 0) l.length
theorem dotL_bump (h : Nat → Int) (l : List Int) (m : Nat) (a : Int) (hm : m < l.length) : dotL h (bump l m a) = dotL h l + h m * a := by
  simp only [dotL, bump_length]
  have e : ∀ n, m < n → sumN (fun q => h q * (bump l m a).getD q 0) n = sumN (fun q => h q * l.getD q 0) n + h m * a := by
    intro n hn
    induction n with
    | zero => omega
    | succ n ih =>
      simp only [sumN, bump_get l m a hm]
      by_cases c : m = n
      · subst c
        rw [sumN_congr (g := fun q => h q * l.getD q 0) m fun i hi => by
          have : ¬ i = m := by omega
          simp only [this, if_false, Int.add_zero]]
        simp only [if_true, Int.mul_add]; omega
      · have : ¬ n = m := fun h => c h.symm
        have := ih (by omega)
        simp only [bump_get l m a hm] at this
        simp only [‹¬ n = m›, if_false, Int.add_zero, this]; omega
  exact e _ hm
theorem dotL_zero (h : Nat → Int) (n : Nat) : dotL h (List.replicate n 0) = 0 := by
  simp only [dotL]
  exact sumN_zero _ fun i hi => by
    simp only [List.length_replicate] at hi
    simp [List.getD_eq_getElem?_getD, hi]
def bnd (l : List Int) (B : Int) : Prop := ∀ q, ((l.getD q 0).natAbs : Int) ≤ B
theorem bnd_bump {l : List Int} {B A : Int} (h : bnd l B) (m : Nat) (a : Int) (hm : m < l.length) (ha : (a.natAbs : Int) ≤ A) : bnd (bump l m a) (B + A) := by
  intro q
  have := h q
  rw [bump_get l m a hm]
  split <;> omega
theorem bnd_zero (n : Nat) : bnd (List.replicate n 0) 0 := by
  intro q
  rw [List.getD_eq_getElem?_getD]
  cases h : (List.replicate n (0 : Int))[q]? with
  | none => simp
  | some x =>
    have := List.mem_of_getElem? h
    simp only [List.mem_replicate] at this
    simp [this.2]
theorem pI_set (l : List Int) (m : Nat) (x : Int) : (pI l).set m (.int .i64 x) = pI (l.set m x) := by simp [pI, List.map_set]
/-! the reference's weights -/
def rJ (k : List Int) (i : Nat) (M : List Int) : Nat → List Int
  | 0 => M
  | j + 1 => bump (rJ k i M j) (k.length - 1 + i - j) (k.getD i 0 * k.getD j 0)
def rI (k : List Int) : Nat → List Int
  | 0 => List.replicate (2 * k.length - 1) 0
  | i + 1 => rJ k i (rI k i) k.length
def refW (k : List Int) : List Int := rI k k.length

@[simp] theorem rJ_length (k : List Int) (i : Nat) (M : List Int) (j : Nat) : (rJ k i M j).length = M.length := by
  induction j with
  | zero => rfl
  | succ j ih => simp [rJ, ih]
@[simp] theorem rI_length (k : List Int) (i : Nat) : (rI k i).length = 2 * k.length - 1 := by
  induction i with
  | zero => simp [rI]
  | succ i ih => simp [rI, ih]
theorem rJ_bnd {k : List Int} (h : ∀ x ∈ k, -100 ≤ x ∧ x ≤ 100) {i : Nat} (hi : i < k.length) {M : List Int} (hM : M.length = 2 * k.length - 1) {B : Int} (hB : bnd M B) : ∀ j, j ≤ k.length → bnd (rJ k i M j) (B + 10000 * j) := by
  intro j
  induction j with
  | zero => intro _; simpa [rJ] using hB
  | succ j ih =>
    intro hj
    have := bnd_bump (ih (by omega)) (k.length - 1 + i - j) (k.getD i 0 * k.getD j 0) (A := 10000) (by simp [hM]; omega) (by
      have := mul_abs (getD_bound h i) (getD_bound h j); omega)
    intro q
    have := this q
    simp only [rJ]; omega
theorem rI_bnd {k : List Int} (h : ∀ x ∈ k, -100 ≤ x ∧ x ≤ 100) (hl : k.length ≤ 7) : ∀ i, i ≤ k.length → bnd (rI k i) (70000 * i) := by
  intro i
  induction i with
  | zero => intro _; simpa [rI] using bnd_zero (2 * k.length - 1)
  | succ i ih =>
    intro hi q
    have := rJ_bnd (i := i) h (by omega) (rI_length k i) (ih (by omega)) k.length (Nat.le_refl _) q
    simp only [rI]; omega

/-- a sum over pairs -/
def dd (k : List Int) (g : Nat → Nat → Int) : Int := sumN (fun i => sumN (fun j => g i j * (k.getD i 0 * k.getD j 0)) k.length) k.length

theorem dotL_rJ (h : Nat → Int) (k : List Int) {i : Nat} (hi : i < k.length) {M : List Int} (hM : M.length = 2 * k.length - 1) : ∀ j, j ≤ k.length → dotL h (rJ k i M j) = dotL h M + sumN (fun j => h (k.length - 1 + i - j) * (k.getD i 0 * k.getD j 0)) j := by
  intro j
  induction j with
  | zero => intro _; simp [rJ, sumN]
  | succ j ih =>
    intro hj
    simp only [rJ, sumN]
    rw [dotL_bump _ _ _ _ (by simp [hM]; omega), ih (by omega)]; omega
theorem dotL_rI (h : Nat → Int) (k : List Int) : ∀ i, i ≤ k.length → dotL h (rI k i) = sumN (fun i => sumN (fun j => h (k.length - 1 + i - j) * (k.getD i 0 * k.getD j 0)) k.length) i := by
  intro i
  induction i with
  | zero => intro _; simp only [rI, sumN]; exact dotL_zero _ _
  | succ i ih =>
    intro hi
    simp only [rI, sumN]
    rw [dotL_rJ h k (by omega) (rI_length k i) k.length (Nat.le_refl _), ih (by omega)]
theorem dotL_refW (h : Nat → Int) (k : List Int) : dotL h (refW k) = dd k fun i j => h (k.length - 1 + i - j) := dotL_rI h k k.length (Nat.le_refl _)

theorem dot_wJ (h : Int → Int) (k : List Int) (i : Nat) (a : Int) (M : List (Int × Int)) : ∀ j, dot h (wJ k i a M j) = dot h M + sumN (fun j => h ((i : Int) - j) * (a * k.getD j 0)) j := by
  intro j
  induction j with
  | zero => simp [wJ, sumN]
  | succ j ih => simp only [wJ, sumN, dot_addE, ih]; omega
theorem dot_wI (h : Int → Int) (k : List Int) : ∀ i, dot h (wI k i) = sumN (fun i => sumN (fun j => h ((i : Int) - j) * (k.getD i 0 * k.getD j 0)) k.length) i := by
  intro i
  induction i with
  | zero => simp [wI, sumN, dot]
  | succ i ih => simp only [wI, sumN, dot_wJ, ih]
theorem dot_weights (h : Int → Int) (k : List Int) : dot h (weightsL k) = dd k fun i j => h ((i : Int) - j) := dot_wI h k k.length
theorem dd_congr {k : List Int} {g g' : Nat → Nat → Int} (h : ∀ i j, i < k.length → j < k.length → g i j = g' i j) : dd k g = dd k g' := by
  refine sumN_congr _ fun i hi => sumN_congr _ fun j hj => ?_
  simp only [h i j hi hj]
theorem ref_weights (h : Int → Int) (k : List Int) : dotL (fun m => h ((m : Int) - k.length + 1)) (refW k) = dot h (weightsL k) := by
  rw [dotL_refW, dot_weights]
  refine dd_congr fun i j hi hj => ?_
  congr 1; omega

/-! how much each interval weighs -/
def aI (w : List Int) (lk n at' : Nat) : Nat → List Int
  | 0 => List.replicate n 0
  | i + 1 => bump (aI w lk n at' i) (atI ((at' : Int) + i - lk + 1) n).toNat (w.getD i 0)
@[simp] theorem aI_length (w : List Int) (lk n at' i : Nat) : (aI w lk n at' i).length = n := by
  induction i with
  | zero => simp [aI]
  | succ i ih => simp [aI, ih]
end Fw
