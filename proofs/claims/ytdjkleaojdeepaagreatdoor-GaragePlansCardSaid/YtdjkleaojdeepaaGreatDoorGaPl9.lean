/- The bound of a best plan: by the reference. -/
import Derived.Test.YtdjkleaojdeepaaGreatDoorGaPl8
set_option maxHeartbeats 16000000
set_option maxRecDepth 8000
namespace Fw
open Go
attribute [local irreducible] evCode evOps evOpsD evOper evOperD evOp evFn loopN T.All T.bind callPure callOp opsK opsDK restK seqK blockK loopS setK setQ giveK scalK gcK finish finS rfunK yldK yldB loopK

theorem max4 (a b c d : Int) : maxInt a [iv b, iv c, iv d] = some (max a (max b (max c d))) := by
  simp only [maxInt]
  congr 1
  repeat' split
  all_goals omega
def Rng16 (l : List JobI) : Prop := ∀ x ∈ l, (0 ≤ x.dummy ∧ x.dummy ≤ 16) ∧ (0 ≤ x.crew ∧ x.crew ≤ 16) ∧ (0 ≤ x.hall ∧ x.hall ≤ 16)
theorem rng16 {l : List JobI} (h : jobE l = 0) : Rng16 l := by
  unfold jobE at h
  split at h
  · cases h
  · rename_i hl
    intro x hx
    obtain ⟨i, hi, rfl⟩ := List.getElem_of_mem hx
    have h1 := firstE_zero.1 h _ (List.mem_map.2 ⟨i, List.mem_range.2 hi, rfl⟩)
    unfold job1 at h1
    rw [getJ hi] at h1
    have h2 := firstE_zero.1 h1 (jRng l[i]) (by simp)
    unfold jRng at h2
    have h3 := firstE_zero.1 h2 (rangeE 0 16 l[i].dummy) (by simp)
    have h4 := firstE_zero.1 h2 (rangeE 0 16 l[i].crew) (by simp)
    have h5 := firstE_zero.1 h2 (rangeE 0 16 l[i].hall) (by simp)
    unfold rangeE at h3 h4 h5
    split at h3
    · cases h3
    · split at h4
      · cases h4
      · split at h5
        · cases h5
        · omega
/-- sums by crew, by hall, by dummy, the longest soak by dummy -/
def sC (l : List JobI) (h : Int) : Nat → Int
  | 0 => 0
  | k + 1 => if (l.getD k zJ).crew = h then sC l h k + (l.getD k zJ).time else sC l h k
def sH (l : List JobI) (h : Int) : Nat → Int
  | 0 => 0
  | k + 1 => if (l.getD k zJ).hall = h then sH l h k + (l.getD k zJ).time else sH l h k
def sD (l : List JobI) (h : Int) : Nat → Int
  | 0 => 0
  | k + 1 => if (l.getD k zJ).dummy = h then sD l h k + (l.getD k zJ).time + (l.getD k zJ).soak else sD l h k
def sS (l : List JobI) (h : Int) : Nat → Int
  | 0 => 0
  | k + 1 => if (l.getD k zJ).dummy = h then max (sS l h k) (l.getD k zJ).soak else sS l h k
def mxB (l : List JobI) : Nat → Int
  | 0 => 0
  | h + 1 => max (mxB l h) (max (sC l h l.length) (max (sH l h l.length) (sD l h l.length - sS l h l.length)))
theorem s_le {l : List JobI} (hl : JobsOk l) (h : Int) : ∀ k, k ≤ l.length → (0 ≤ sC l h k ∧ sC l h k ≤ 10000 * k) ∧ (0 ≤ sH l h k ∧ sH l h k ≤ 10000 * k) ∧ (0 ≤ sD l h k ∧ sD l h k ≤ 20000 * k) ∧ (0 ≤ sS l h k ∧ sS l h k ≤ 10000) := by
  intro k
  induction k with
  | zero => intro _; simp [sC, sH, sD, sS]
  | succ k ih =>
    intro hk
    have := ih (by omega)
    have hj := hl.2 l[k] (List.getElem_mem (by omega))
    simp only [sC, sH, sD, sS]
    rw [getJ (by omega)]
    refine ⟨?_, ?_, ?_, ?_⟩ <;> split <;> omega
def P62 (l : List JobI) (w h : Int) (k : Nat) : St := ⟨[(0, jsl l), (3, iv w), (4, iv h), (5, iv (sC l h k)), (6, iv (sH l h k)), (7, iv (sD l h k)), (8, iv (sS l h k)), (9, iv k)], []⟩
theorem round62 {d : Nat} (l : List JobI) (hl : JobsOk l) (w h : Int) (k : Nat) (hk : k < l.length) :
    ∃ st1, loopS (evFn F C0 G0 d) C0 G0 0 false [0, 3, 4, 5, 6, 7, 8, 9] c62L0 (P62 l w h k) = .ret (.normal, st1) ∧
      loopS (evFn F C0 G0 d) C0 G0 0 false [0, 3, 4, 5, 6, 7, 8, 9] c62L0 st1 = loopS (evFn F C0 G0 d) C0 G0 0 false [0, 3, 4, 5, 6, 7, 8, 9] c62L0 (P62 l w h (k + 1)) := by
  have h8 := hl.1
  have wk := wrap_succ (i := k) (by omega)
  have hb := s_le hl h k (by omega)
  have hj := hl.2 _ (List.getElem_mem hk)
  have hJ := jR_len l
  have hlt : k * 6 < l.length * 6 := by omega
  have hrow := rowC_drop jc_len l k hk
  have hl1 : k * 6 + 1 < l.length * 6 := by omega
  have hl2 : k * 6 + 2 < l.length * 6 := by omega
  have hl3 : k * 6 + 3 < l.length * 6 := by omega
  have hl4 : k * 6 + 4 < l.length * 6 := by omega
  have hl5 : k * 6 + 5 < l.length * 6 := by omega
  have hd1 : (rowC jc l).drop (k * 6 + 1) = (jc l[k] ++ rowC jc (l.drop (k + 1))).drop 1 := by rw [← List.drop_drop, hrow]
  have hd2 : (rowC jc l).drop (k * 6 + 2) = (jc l[k] ++ rowC jc (l.drop (k + 1))).drop 2 := by rw [← List.drop_drop, hrow]
  have hd3 : (rowC jc l).drop (k * 6 + 3) = (jc l[k] ++ rowC jc (l.drop (k + 1))).drop 3 := by rw [← List.drop_drop, hrow]
  have hd4 : (rowC jc l).drop (k * 6 + 4) = (jc l[k] ++ rowC jc (l.drop (k + 1))).drop 4 := by rw [← List.drop_drop, hrow]
  have hd5 : (rowC jc l).drop (k * 6 + 5) = (jc l[k] ++ rowC jc (l.drop (k + 1))).drop 5 := by rw [← List.drop_drop, hrow]
  have mx := fun a b => max2 a b
  have w1 := wrap64 (n := sC l h k + l[k].time) (by omega) (by omega)
  have w2 := wrap64 (n := sH l h k + l[k].time) (by omega) (by omega)
  have w3 := wrap64 (n := sD l h k + l[k].time) (by omega) (by omega)
  have w4 := wrap64 (n := sD l h k + l[k].time + l[k].soak) (by omega) (by omega)
  simp only [P62, sC, sH, sD, sS, jsl]
  rw [getJ hk]
  generalize sC l h k = q1 at *
  generalize sH l h k = q2 at *
  generalize sD l h k = q3 at *
  generalize sS l h k = q4 at *
  generalize rowC jc (l.drop (k + 1)) = R3 at *
  generalize rowC jc l = J at *
  generalize l[k] = x at *
  obtain ⟨nm, a1, a2, a3, a4, a5⟩ := x
  simp only [jc, List.cons_append, List.nil_append, List.drop_succ_cons, List.drop_zero] at *
  by_cases e1 : a1 = h <;> by_cases e2 : a2 = h <;> by_cases e3 : a3 = h <;> simp only [e1, e2, e3, if_true, if_false]
  all_goals
    have n1 : (a1 == h) = decide (a1 = h) := rfl
    have n2 : (a2 == h) = decide (a2 = h) := rfl
    have n3 : (a3 == h) = decide (a3 = h) := rfl
    refine ⟨?_, ?h1, ?h2⟩
    case h1 =>
      simp -implicitDefEqProofs [loopS_eq, c62L0, hk, hJ, hlt, hrow, mx, w1, w2, w3, w4, wk, n1, n2, n3, e1, e2, e3]
      exact rfl
    case h2 => rfl
end Fw
