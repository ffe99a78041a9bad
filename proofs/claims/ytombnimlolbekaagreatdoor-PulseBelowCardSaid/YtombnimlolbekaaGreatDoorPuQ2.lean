/- What is learned: the plain functions; the wish of a step by the reference. -/
import Derived.Test.YtombnimlolbekaaGreatDoorPuQ1
set_option maxHeartbeats 8000000
namespace Fw
open Go
attribute [local irreducible] evCode evOps evOpsD evOper evOperD evOp evFn loopN T.All T.bind callPure callOp opsK opsDK restK seqK blockK loopS setK setQ giveK scalK gcK finish finS rfunK yldK yldB loopK

theorem loop_from {step : St → T (Ex × St)} (J : Nat → St) (a b : Nat) (hab : a ≤ b) {e : Ex} {st' st0 : St} (he : e ≠ .normal) (h0 : step st0 = step (J a)) (hstep : ∀ t, a ≤ t → t < b → step (J t) = .ret (.normal, J (t + 1))) (hend : step (J b) = .ret (e, st')) {fuel : Nat} (hf : b < fuel) :
  loopN step fuel st0 = .ret (e, st') := by
 refine loop_run (fun k => J (a + k)) (b - a) he h0 (fun i hi => ?_) ?_ (by omega)
 ·exact hstep (a + i) (by omega) (by omega)
 ·rw [show a + (b - a) = b by omega]; exact hend

def twoF (p : List Int) (a : Nat) : Nat → Int
 | 0 => 0
 | t + 1 => if t < a then 0 else twoF p a t + 2 * p.getD t 0
def bothF (c : List (Int × Int)) (a : Nat) : Nat → Int
 | 0 => 0
 | t + 1 => if t < a then 0 else bothF c a t + ((c.getD t (0, 0)).1 + (c.getD t (0, 0)).2)

theorem twoF_self (p : List Int) (a : Nat) : twoF p a a = 0 := by cases a <;> simp [twoF]
theorem bothF_self (c : List (Int × Int)) (a : Nat) : bothF c a a = 0 := by cases a <;> simp [bothF]
theorem twoF_succ (p : List Int) {a t : Nat} (h : a ≤ t) : twoF p a (t + 1) = twoF p a t + 2 * p.getD t 0 := by simp only [twoF, if_neg (show ¬ t < a by omega)]
theorem bothF_succ (c : List (Int × Int)) {a t : Nat} (h : a ≤ t) : bothF c a (t + 1) = bothF c a t + ((c.getD t (0, 0)).1 + (c.getD t (0, 0)).2) := by simp only [bothF, if_neg (show ¬ t < a by omega)]

theorem twoF_bound {c : List (Int × Int)} {p : List Int} (h : Fit c p) (a : Nat) : ∀ (t : Nat), t ≤ c.length → -(200000 * (t : Int)) ≤ twoF p a t ∧ twoF p a t ≤ 200000 * (t : Int) := by
 intro t
 induction t with
 | zero => intro _; simp [twoF]
 | succ t ih =>
  intro ht
  have h1 := ih (by omega)
  have hp : t < p.length := by have := h.len; omega
  have hg : p.getD t 0 = p[t] := by simp [List.getD_eq_getElem?_getD, List.getElem?_eq_getElem hp]
  have h2 := h.acc p[t] (List.getElem_mem hp)
  simp only [twoF, hg]
  split <;> omega
theorem bothF_bound {c : List (Int × Int)} {p : List Int} (h : Fit c p) (a : Nat) : ∀ (t : Nat), t ≤ c.length → 0 ≤ bothF c a t ∧ bothF c a t ≤ 20000 * (t : Int) := by
 intro t
 induction t with
 | zero => intro _; simp [bothF]
 | succ t ih =>
  intro ht
  have h1 := ih (by omega)
  have hp : t < c.length := by omega
  have hg : c.getD t (0, 0) = c[t] := by simp [List.getD_eq_getElem?_getD, List.getElem?_eq_getElem hp]
  have h2 := h.corr c[t] (List.getElem_mem hp)
  simp only [bothF, hg]
  split <;> omega

def fromN (s : SledI) (l : List (Int × Int)) (i : Nat) : Nat := ((l.getD i (0, 0)).1 + s.delay).toNat
def endN (s : SledI) (l : List (Int × Int)) (n i : Nat) : Nat := if i + 1 < l.length then min n (fromN s l (i + 1)) else n
def stopN (s : SledI) (l : List (Int × Int)) (n i : Nat) : Nat := max (fromN s l i) (endN s l n i)
def twoI (s : SledI) (l : List (Int × Int)) (p : List Int) (n i : Nat) : Int := twoF p (fromN s l i) (stopN s l n i)
def bothI (s : SledI) (l c : List (Int × Int)) (i : Nat) : Int := bothF c (fromN s l i) (stopN s l c.length i)
def wishI (s : SledI) (l c : List (Int × Int)) (p : List Int) (i : Nat) : Int :=
 if twoI s l p c.length i < bothI s l c i then 1 else if bothI s l c i < twoI s l p c.length i then -1 else 0

end Fw
