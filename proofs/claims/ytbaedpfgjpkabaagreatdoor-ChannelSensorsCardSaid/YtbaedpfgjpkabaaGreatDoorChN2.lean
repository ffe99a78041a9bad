/- The reference's weights and what it encloses: the same as the chapter's. -/
import Derived.Test.YtbaedpfgjpkabaaGreatDoorChN1
set_option maxHeartbeats 16000000
namespace Fw
open Go
attribute [local irreducible] evCode evOps evOpsD evOper evOperD evOp evFn loopN T.All T.bind callPure callOp opsK opsDK restK seqK blockK loopS setK setQ giveK scalK gcK finish finS rfunK yldK yldB loopK

theorem floor119g {n : Nat} (hn : 1 ≤ n) (x den : Int) (hd : 0 < den) (h1 : -1000000000000000000 ≤ x) (h2 : x ≤ 1000000000000000000) : RUN n 119 [iv x, iv den] = .ret (iv (x / den)) := by
  obtain ⟨d, rfl⟩ : ∃ d, n = d + 1 := ⟨n - 1, by omega⟩
  rw [RUN, call_eq fe119 _ rfl, tdiv_down x den hd]
  obtain ⟨b1, b2, b3, b4⟩ := tdiv_small x den hd _ h1 h2
  have w1 := wrap64 (n := x.tdiv den) (by omega) (by omega)
  have w2 := wrap64 (n := x.tdiv den - 1) (by omega) (by omega)
  have w3 := wrap64 (n := x.tdiv den * den) (by omega) (by omega)
  have hz : den ≠ 0 := by omega
  by_cases h : x < x.tdiv den * den <;> simp [c119, hz, h, w1, w2, w3]

theorem ceil120g {n : Nat} (hn : 2 ≤ n) (x den : Int) (hd : 0 < den) (h1 : -1000000000000000000 ≤ x) (h2 : x ≤ 1000000000000000000) : RUN n 120 [iv x, iv den] = .ret (iv (upQ x den)) := by
  obtain ⟨d, rfl⟩ : ∃ d, n = d + 2 := ⟨n - 2, by omega⟩
  rw [RUN, call_eq fe120 _ rfl]
  have k := floor119g (n := d + 1) (by omega) (-x) den hd (by omega) (by omega)
  have hb : ((-x) / den).natAbs ≤ (-x).natAbs := Int.natAbs_ediv_le_natAbs _ _
  have w1 := wrap64 (n := -x) (by omega) (by omega)
  have w2 := wrap64 (n := -((-x) / den)) (by omega) (by omega)
  have hu : upQ x den = -((-x) / den) := rfl
  rw [hu]
  generalize hq : (-x) / den = q at *
  simp -implicitDefEqProofs [c120, w1, k, w2]

def atI (i n : Int) : Int := min (n - 1) (max 0 i)
theorem at_clamp (a k : Int) {n : Int} (h : 0 < n) : atI (a + k) n = clampI a k n := by
  simp only [atI, clampI]
  split <;> split <;> omega
theorem min2 (a b : Int) : minInt a [iv b] = some (min a b) := by simp only [minInt]; congr 1; split <;> omega

theorem at128 {n : Nat} (hn : 1 ≤ n) (i m : Int) (h0 : 0 < m) (h1 : m < 1000000) : RUN n 128 [iv i, iv m] = .ret (iv (atI i m)) := by
  obtain ⟨d, rfl⟩ : ∃ d, n = d + 1 := ⟨n - 1, by omega⟩
  rw [RUN, call_eq fe128 _ rfl]
  have w := wrap64 (n := m - 1) (by omega) (by omega)
  simp -implicitDefEqProofs [c128, w, max2, min2, atI]

/-! lists of integers in which one number is made greater -/
def bump (l : List Int) (m : Nat) (a : Int) : List Int := l.set m (l.getD m 0 + a)
@[simp] theorem bump_length (l : List Int) (m : Nat) (a : Int) : (bump l m a).length = l.length := by simp [bump]
theorem bump_get (l : List Int) (m : Nat) (a : Int) (h : m < l.length) (q : Nat) : (bump l m a).getD q 0 = l.getD q 0 + (if q = m then a else 0) := by
  simp only [bump, List.getD_eq_getElem?_getD, List.getElem?_set]
  by_cases e : m = q
  · subst e; simp [h]
  · have : ¬ q = m := fun h => e h.symm
    simp [e, this]
def dotL (h : Nat → Int) (l : List Int) : Int := sumN (fun m => h m * l.getD m 0) l.length
theorem dotL_bump (h : Nat → Int) (l : List Int) (m : Nat) (a : Int) (hm : m < l.length) : dotL h (bump l m a) = dotL h l + h m * a := by
  simp only [dotL, bump_length]
  have e : ∀ n, m < n → sumN (fun q => h q * (bump l m a).getD q 0) n = sumN (fun q => h q * l.getD q 0) n + h m * a := by
    intro n hn
    induction n with
    | zero => omega
    | succ n ih =>
      simp only [sumN, bump_get l m a hm]
      by_cases c : m = n
      · subst c
        rw [sumN_congr (g := fun q => h q * l.getD q 0) m fun i hi => by
          have : ¬ i = m := by omega
          simp only [this, if_false, Int.add_zero]]
        simp only [if_true, Int.mul_add]; omega
      · have : ¬ n = m := fun h => c h.symm
        have := ih (by omega)
        simp only [bump_get l m a hm] at this
        simp only [‹¬ n = m›, if_false, Int.add_zero, this]; omega
  exact e _ hm
theorem dotL_zero (h : Nat → Int) (n : Nat) : dotL h (List.replicate n 0) = 0 := by
  simp only [dotL]
  exact sumN_zero _ fun i hi => by
    simp only [List.length_replicate] at hi
    simp [List.getD_eq_getElem?_getD, hi]
def bnd (l : List Int) (B : Int) : Prop := ∀ q, ((l.getD q 0).natAbs : Int) ≤ B
theorem bnd_bump {l : List Int} {B A : Int} (h : bnd l B) (m : Nat) (a : Int) (hm : m < l.length) (ha : (a.natAbs : Int) ≤ A) : bnd (bump l m a) (B + A) := by
  intro q
  have := h q
  rw [bump_get l m a hm]
  split <;> omega
theorem bnd_zero (n : Nat) : bnd (List.replicate n 0) 0 := by
  intro q
  rw [List.getD_eq_getElem?_getD]
  cases h : (List.replicate n (0 : Int))[q]? with
  | none => simp
  | some x =>
    have := List.mem_of_getElem? h
    simp only [List.mem_replicate] at this
    simp [this.2]
theorem pI_set (l : List Int) (m : Nat) (x : Int) : (pI l).set m (.int .i64 x) = pI (l.set m x) := by simp [pI, List.map_set]
/-! the reference's weights -/
def rJ (k : List Int) (i : Nat) (M : List Int) : Nat → List Int
  | 0 => M
  | j + 1 => bump (rJ k i M j) (k.length - 1 + i - j) (k.getD i 0 * k.getD j 0)
def rI (k : List Int) : Nat → List Int
  | 0 => List.replicate (2 * k.length - 1) 0
  | i + 1 => rJ k i (rI k i) k.length
def refW (k : List Int) : List Int := rI k k.length

@[simp] theorem rJ_length (k : List Int) (i : Nat) (M : List Int) (j : Nat) : (rJ k i M j).length = M.length := by
  induction j with
  | zero => rfl
  | succ j ih => simp [rJ, ih]
@[simp] theorem rI_length (k : List Int) (i : Nat) : (rI k i).length = 2 * k.length - 1 := by
  induction i with
  | zero => simp [rI]
  | succ i ih => simp [rI, ih]
theorem rJ_bnd {k : List Int} (h : ∀ x ∈ k, -100 ≤ x ∧ x ≤ 100) {i : Nat} (hi : i < k.length) {M : List Int} (hM : M.length = 2 * k.length - 1) {B : Int} (hB : bnd M B) : ∀ j, j ≤ k.length → bnd (rJ k i M j) (B + 10000 * j) := by
  intro j
  induction j with
  | zero => intro _; simpa [rJ] using hB
  | succ j ih =>
    intro hj
    have := bnd_bump (ih (by omega)) (k.length - 1 + i - j) (k.getD i 0 * k.getD j 0) (A := 10000) (by simp [hM]; omega) (by
      have := mul_abs (getD_bound h i) (getD_bound h j); omega)
    intro q
    have := this q
    simp only [rJ]; omega
theorem rI_bnd {k : List Int} (h : ∀ x ∈ k, -100 ≤ x ∧ x ≤ 100) (hl : k.length ≤ 7) : ∀ i, i ≤ k.length → bnd (rI k i) (70000 * i) := by
  intro i
  induction i with
  | zero => intro _; simpa [rI] using bnd_zero (2 * k.length - 1)
  | succ i ih =>
    intro hi q
    have := rJ_bnd (i := i) h (by omega) (rI_length k i) (ih (by omega)) k.length (Nat.le_refl _) q
    simp only [rI]; omega

/-- a sum over pairs -/
def dd (k : List Int) (g : Nat → Nat → Int) : Int := sumN (fun i => sumN (fun j => g i j * (k.getD i 0 * k.getD j 0)) k.length) k.length

theorem dotL_rJ (h : Nat → Int) (k : List Int) {i : Nat} (hi : i < k.length) {M : List Int} (hM : M.length = 2 * k.length - 1) : ∀ j, j ≤ k.length → dotL h (rJ k i M j) = dotL h M + sumN (fun j => h (k.length - 1 + i - j) * (k.getD i 0 * k.getD j 0)) j := by
  intro j
  induction j with
  | zero => intro _; simp [rJ, sumN]
  | succ j ih =>
    intro hj
    simp only [rJ, sumN]
    rw [dotL_bump _ _ _ _ (by simp [hM]; omega), ih (by omega)]; omega
theorem dotL_rI (h : Nat → Int) (k : List Int) : ∀ i, i ≤ k.length → dotL h (rI k i) = sumN (fun i => sumN (fun j => h (k.length - 1 + i - j) * (k.getD i 0 * k.getD j 0)) k.length) i := by
  intro i
  induction i with
  | zero => intro _; simp only [rI, sumN]; exact dotL_zero _ _
  | succ i ih =>
    intro hi
    simp only [rI, sumN]
    rw [dotL_rJ h k (by omega) (rI_length k i) k.length (Nat.le_refl _), ih (by omega)]
theorem dotL_refW (h : Nat → Int) (k : List Int) : dotL h (refW k) = dd k fun i j => h (k.length - 1 + i - j) := dotL_rI h k k.length (Nat.le_refl _)

theorem dot_wJ (h : Int → Int) (k : List Int) (i : Nat) (a : Int) (M : List (Int × Int)) : ∀ j, dot h (wJ k i a M j) = dot h M + sumN (fun j => h ((i : Int) - j) * (a * k.getD j 0)) j := by
  intro j
  induction j with
  | zero => simp [wJ, sumN]
  | succ j ih => simp only [wJ, sumN, dot_addE, ih]; omega
theorem dot_wI (h : Int → Int) (k : List Int) : ∀ i, dot h (wI k i) = sumN (fun i => sumN (fun j => h ((i : Int) - j) * (k.getD i 0 * k.getD j 0)) k.length) i := by
  intro i
  induction i with
  | zero => simp [wI, sumN, dot]
  | succ i ih => simp only [wI, sumN, dot_wJ, ih]
theorem dot_weights (h : Int → Int) (k : List Int) : dot h (weightsL k) = dd k fun i j => h ((i : Int) - j) := dot_wI h k k.length
theorem dd_congr {k : List Int} {g g' : Nat → Nat → Int} (h : ∀ i j, i < k.length → j < k.length → g i j = g' i j) : dd k g = dd k g' := by
  refine sumN_congr _ fun i hi => sumN_congr _ fun j hj => ?_
  simp only [h i j hi hj]
theorem ref_weights (h : Int → Int) (k : List Int) : dotL (fun m => h ((m : Int) - k.length + 1)) (refW k) = dot h (weightsL k) := by
  rw [dotL_refW, dot_weights]
  refine dd_congr fun i j hi hj => ?_
  congr 1; omega

theorem weights46 {n : Nat} (hn : 2 ≤ n) {k : List Int} (hk : KerOk k) : RUN n 46 [isl k] = .ret (.tup [.own (pI (refW k)) (2 * k.length - 1) 1, iv (sumI k * sumI k)]) := by
  obtain ⟨d, rfl⟩ : ∃ d, n = d + 2 := ⟨n - 2, by omega⟩
  obtain ⟨l1, l2, hb, hs0⟩ := hk
  rw [RUN, call_eq fe46 _ rfl]
  have kd := div126 (n := d + 1) (by omega) k (by omega)
  rw [sumW_eq hb l2 k.length (Nat.le_refl _)] at kd
  have hsn : sumN (fun i => k.getD i 0) k.length = sumI k := rfl
  rw [hsn] at kd
  have hs := sumI_part hb k.length
  rw [hsn] at hs
  have hs1 : sumI k ≤ 700 := by omega
  have hD2 := mul_abs (a := sumI k) (b := sumI k) (A := 700) (B := 700) (by omega) (by omega)
  have wD := wrap64 (n := sumI k * sumI k) (by omega) (by omega)
  have w1 := wrap64 (n := 2 * (k.length : Int)) (by omega) (by omega)
  have w2 := wrap64 (n := 2 * (k.length : Int) - 1) (by omega) (by omega)
  have a1 : (1 : Int) ≤ 2 * (k.length : Int) := by omega
  have a2 : 2 * (k.length : Int) - 1 ≤ lim := by simp only [lim]; omega
  have a3 : (2 * (k.length : Int) - 1).toNat = 2 * k.length - 1 := by omega
  have a4 : ¬ 2 * k.length - 1 = 0 := by omega
  let inv : Nat → St := fun i => ⟨[(0, isl k), (4, .sl 0 0 0 (2 * k.length - 1)), (5, iv i)], [(0, .arr (pI (rI k i)) 0 1)]⟩
  simp -implicitDefEqProofs [c46, w1, w2, a1, a2, a3]
  rw [loop_run inv k.length (e := .exit 0) (st' := ⟨(inv k.length).env ++ [(16, .p (.bool false))], (inv k.length).sto⟩) (by simp)]
  · simp -implicitDefEqProofs [inv, kd, wD, refW]
  · have : pI (List.replicate (2 * k.length - 1) 0) = List.replicate (2 * k.length - 1) (.int .i64 0) := by simp [pI]
    simp only [inv, rI, this]; rfl
  · intro i hi
    have hgi : k.getD i 0 = k[i] := by simp [List.getD_eq_getElem?_getD, List.getElem?_eq_getElem hi]
    have wi := wrap_succ (i := i) (by omega)
    let inv2 : Nat → St := fun j => ⟨[(0, isl k), (4, .sl 0 0 0 (2 * k.length - 1)), (5, iv i), (6, iv j)], [(0, .arr (pI (rJ k i (rI k i) j)) 0 1)]⟩
    simp -implicitDefEqProofs [inv, loopS_eq, c46L1, hi]
    rw [loop_run inv2 k.length (e := .exit 2) (st' := ⟨(inv2 k.length).env ++ [(22, .p (.bool false))], (inv2 k.length).sto⟩) (by simp)]
    · simp -implicitDefEqProofs [inv2, wi, rI]
    · rfl
    · intro j hj
      have hgj : k.getD j 0 = k[j] := by simp [List.getD_eq_getElem?_getD, List.getElem?_eq_getElem hj]
      have wj := wrap_succ (i := j) (by omega)
      have v1 := wrap64 (n := (k.length : Int) - 1) (by omega) (by omega)
      have v2 := wrap64 (n := (k.length : Int) - 1 + i) (by omega) (by omega)
      have v3 := wrap64 (n := (k.length : Int) - 1 + i - j) (by omega) (by omega)
      have b5 : (k.length : Int) - 1 + i - j = ((k.length - 1 + i - j : Nat) : Int) := by omega
      have b4 : k.length - 1 + i - j < 2 * k.length - 1 := by omega
      have hbm := mul_abs (getD_bound hb i) (getD_bound hb j)
      rw [hgi, hgj] at hbm
      have wm := wrap64 (n := k[i] * k[j]) (by omega) (by omega)
      have hq := rJ_bnd (i := i) hb hi (rI_length k i) (rI_bnd hb l2 i (by omega)) j (by omega) (k.length - 1 + i - j)
      have hlen : (rJ k i (rI k i) j).length = 2 * k.length - 1 := by simp
      have hadd : rJ k i (rI k i) (j + 1) = bump (rJ k i (rI k i) j) (k.length - 1 + i - j) (k[i] * k[j]) := by simp only [rJ, hgi, hgj]
      simp only [inv2, hadd]
      generalize rJ k i (rI k i) j = M at *
      generalize hmm : k.length - 1 + i - j = m at *
      have hml : m < M.length := by omega
      have hgm : M[m] = M.getD m 0 := by
        rw [List.getD_eq_getElem?_getD, List.getElem?_eq_getElem hml]; rfl
      have wz := wrap64 (n := M.getD m 0 + k[i] * k[j]) (by omega) (by omega)
      have hset : bump M m (k[i] * k[j]) = M.set m (M.getD m 0 + k[i] * k[j]) := rfl
      rw [hset]
      generalize M.getD m 0 = z at *
      have b6 : m + 1 ≤ 2 * k.length - 1 := by omega
      have v4 := wrap64 (n := (m : Int)) (by omega) (by omega)
      simp -implicitDefEqProofs [loopS_eq, c46L0, hi, hj, v1, v2, v4, b5, b4, b6, wm, wj, hlen, hgm, wz, pI_set]
    · simp -implicitDefEqProofs [inv2, loopS_eq, c46L0]
    · simp [loopFuel]; omega
  · simp -implicitDefEqProofs [inv, loopS_eq, c46L1]
  · simp [loopFuel]; omega

/-! how much each interval weighs -/
def aI (w : List Int) (lk n at' : Nat) : Nat → List Int
  | 0 => List.replicate n 0
  | i + 1 => bump (aI w lk n at' i) (atI ((at' : Int) + i - lk + 1) n).toNat (w.getD i 0)
@[simp] theorem aI_length (w : List Int) (lk n at' i : Nat) : (aI w lk n at' i).length = n := by
  induction i with
  | zero => simp [aI]
  | succ i ih => simp [aI, ih]
theorem atI_in (x : Int) {n : Nat} (h : 0 < n) : 0 ≤ atI x n ∧ atI x n < n := by simp only [atI]; omega
end Fw
