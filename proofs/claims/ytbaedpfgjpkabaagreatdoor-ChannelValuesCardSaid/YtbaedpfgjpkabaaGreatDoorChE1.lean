/- Plain facts about weights by distances, and the small functions that Enclosed calls. -/
import Derived.Test.YtbaedpfgjpkabaaGreatDoorChRun4
set_option maxHeartbeats 8000000
namespace Fw
open Go
attribute [local irreducible] evCode evOps evOpsD evOper evOperD evOp evFn loopN T.All T.bind callPure callOp opsK opsDK restK seqK blockK loopS setK setQ giveK scalK gcK finish finS rfunK yldK yldB loopK

/-- a list of pairs, as the cells of a list of intervals -/
def cI : List (Int × Int) → List PVal
  | [] => []
  | x :: r => .int .i64 x.1 :: .int .i64 x.2 :: cI r

@[simp] theorem cI_length (l : List (Int × Int)) : (cI l).length = l.length * 2 := by
  induction l with
  | nil => rfl
  | cons x r ih => simp [cI, ih]; omega

theorem cI_drop (l : List (Int × Int)) (i : Nat) (h : i < l.length) : (cI l).drop (i * 2) = .int .i64 l[i].1 :: .int .i64 l[i].2 :: cI (l.drop (i + 1)) := by
  induction l generalizing i with
  | nil => cases h
  | cons x r ih =>
    cases i with
    | zero => simp [cI]
    | succ i =>
      have := ih i (by simpa using h)
      rw [show (i + 1) * 2 = i * 2 + 2 by omega]
      simpa [cI] using this

theorem cI_append (a b : List (Int × Int)) : cI (a ++ b) = cI a ++ cI b := by
  induction a with
  | nil => rfl
  | cons x r ih => simp [cI, ih]

/-! weights by distances: a map as a list -/

def asum : List (Int × Int) → Int
  | [] => 0
  | e :: r => (e.2.natAbs : Int) + asum r
def dot (h : Int → Int) : List (Int × Int) → Int
  | [] => 0
  | e :: r => h e.1 * e.2 + dot h r
def fsum (f : Int → Int → Int) : List (Int × Int) → Int
  | [] => 0
  | e :: r => f e.1 e.2 + fsum f r
def addE : List (Int × Int) → Int → Int → List (Int × Int)
  | [], k, w => [(k, w)]
  | e :: r, k, w => if k = e.1 then (e.1, e.2 + w) :: r else e :: addE r k w
def lookE : List (Int × Int) → Int → Option Int
  | [], _ => none
  | e :: r, k => if k = e.1 then some e.2 else lookE r k
def sumN (f : Nat → Int) : Nat → Int
  | 0 => 0
  | n + 1 => sumN f n + f n
def keysE (es : List (Int × Int)) : List Int := es.map (·.1)

theorem asum_nonneg (es : List (Int × Int)) : 0 ≤ asum es := by
  induction es with
  | nil => simp [asum]
  | cons e r ih => simp only [asum]; omega
theorem asum_mem {es : List (Int × Int)} {e : Int × Int} (h : e ∈ es) : (e.2.natAbs : Int) ≤ asum es := by
  induction es with
  | nil => cases h
  | cons x r ih =>
    simp only [asum]
    rcases List.mem_cons.1 h with h | h
    · subst h; have := asum_nonneg r; omega
    · have := ih h; omega
theorem asum_addE (es : List (Int × Int)) (k w : Int) : asum (addE es k w) ≤ asum es + w.natAbs := by
  induction es with
  | nil => simp [addE, asum]
  | cons e r ih =>
    simp only [addE]
    split <;> simp only [asum] <;> omega
theorem asum_erase (es : List (Int × Int)) (i : Nat) (h : i < es.length) : asum es = es[i].2.natAbs + asum (es.eraseIdx i) := by
  induction es generalizing i with
  | nil => cases h
  | cons e r ih =>
    cases i with
    | zero => simp [asum]
    | succ i =>
      have := ih i (by simpa using h)
      simp only [asum, List.eraseIdx_cons_succ, List.getElem_cons_succ]
      omega
theorem dot_erase (f : Int → Int) (es : List (Int × Int)) (i : Nat) (h : i < es.length) : dot f es = f es[i].1 * es[i].2 + dot f (es.eraseIdx i) := by
  induction es generalizing i with
  | nil => cases h
  | cons e r ih =>
    cases i with
    | zero => simp [dot]
    | succ i =>
      have := ih i (by simpa using h)
      simp only [dot, List.eraseIdx_cons_succ, List.getElem_cons_succ]
      omega
theorem fsum_erase (f : Int → Int → Int) (es : List (Int × Int)) (i : Nat) (h : i < es.length) : fsum f es = f es[i].1 es[i].2 + fsum f (es.eraseIdx i) := by
  induction es generalizing i with
  | nil => cases h
  | cons e r ih =>
    cases i with
    | zero => simp [fsum]
    | succ i =>
      have := ih i (by simpa using h)
      simp only [fsum, List.eraseIdx_cons_succ, List.getElem_cons_succ]
      omega
theorem dot_addE (h : Int → Int) (es : List (Int × Int)) (k w : Int) : dot h (addE es k w) = dot h es + h k * w := by
  induction es with
  | nil => simp [addE, dot]
  | cons e r ih =>
    simp only [addE]
    split
    · rename_i hk
      subst hk
      simp only [dot, Int.mul_add]; omega
    · simp only [dot, ih]; omega
theorem keys_addE (es : List (Int × Int)) (k w : Int) : ∀ x, x ∈ keysE (addE es k w) ↔ x ∈ keysE es ∨ x = k := by
  intro x
  induction es with
  | nil => simp [addE, keysE]
  | cons e r ih =>
    simp only [addE]
    split
    · rename_i hk
      subst hk
      simp [keysE]
      intro h; exact .inl h
    · simp only [keysE, List.map_cons, List.mem_cons] at ih ⊢
      rw [ih, or_assoc]
theorem nodup_addE {es : List (Int × Int)} (h : (keysE es).Nodup) (k w : Int) : (keysE (addE es k w)).Nodup := by
  induction es with
  | nil => simp [addE, keysE]
  | cons e r ih =>
    simp only [keysE, List.map_cons, List.nodup_cons] at h
    simp only [addE]
    split
    · simp only [keysE, List.map_cons, List.nodup_cons]; exact h
    · rename_i hk
      simp only [keysE, List.map_cons, List.nodup_cons]
      refine ⟨fun hm => ?_, ih h.2⟩
      rcases (keys_addE r k w e.1).1 hm with h1 | h1
      · exact h.1 h1
      · exact hk h1.symm
theorem length_addE (es : List (Int × Int)) (k w : Int) : (addE es k w).length ≤ es.length + 1 := by
  induction es with
  | nil => simp [addE]
  | cons e r ih => simp only [addE]; split <;> simp only [List.length_cons] <;> omega
theorem lookE_none {es : List (Int × Int)} {k : Int} (h : lookE es k = none) (w : Int) : addE es k w = es ++ [(k, w)] := by
  induction es with
  | nil => rfl
  | cons e r ih =>
    simp only [lookE] at h
    simp only [addE]
    split at h
    · cases h
    · rename_i hk; rw [if_neg hk, ih h]; rfl
theorem lookE_mem {es : List (Int × Int)} {k v : Int} (h : lookE es k = some v) : (k, v) ∈ es := by
  induction es with
  | nil => cases h
  | cons e r ih =>
    simp only [lookE] at h
    split at h
    · rename_i hk; cases h; subst hk; exact List.mem_cons_self
    · exact List.mem_cons_of_mem _ (ih h)
theorem look_kA (es : List (Int × Int)) (k : Int) : mapFind (.int .i64 k) (kA es) (kB es) = some ((lookE es k).map (.int .i64)) := by
  induction es with
  | nil => rfl
  | cons e r ih =>
    by_cases h : k = e.1
    · simp [kA, kB, pI, mapFind, keyEq, eqP, lookE, h]
    · have hb : (k == e.1) = false := by simpa using h
      simp only [kA, kB, pI, List.map_map] at ih
      simp [kA, kB, pI, mapFind, keyEq, eqP, lookE, h, hb, ih]
theorem set_kA {es : List (Int × Int)} {k v : Int} (h : lookE es k = some v) (w : Int) : mapSet (.int .i64 k) (.int .i64 (v + w)) (kA es) (kB es) = kB (addE es k w) ∧ kA (addE es k w) = kA es := by
  induction es with
  | nil => cases h
  | cons e r ih =>
    simp only [lookE] at h
    by_cases hk : k = e.1
    · rw [if_pos hk] at h
      cases h
      simp [kA, kB, pI, mapSet, keyEq, eqP, addE, hk]
    · have hb : (k == e.1) = false := by simpa using hk
      rw [if_neg hk] at h
      have := ih h
      simp only [kA, kB, pI, List.map_map] at this
      simp [kA, kB, pI, mapSet, keyEq, eqP, addE, hk, hb, this]
theorem kA_snoc (es : List (Int × Int)) (k w : Int) : kA es ++ [.int .i64 k] = kA (es ++ [(k, w)]) := by simp [kA, pI]
theorem kB_snoc (es : List (Int × Int)) (k w : Int) : kB es ++ [.int .i64 w] = kB (es ++ [(k, w)]) := by simp [kB, pI]
theorem look_bound {es : List (Int × Int)} {k v : Int} (h : lookE es k = some v) : (v.natAbs : Int) ≤ asum es := asum_mem (lookE_mem h)

/-! the sum over a map, as a sum over indices -/

def ind (i k : Int) : Int := if k = i then 1 else 0

theorem sumN_congr {f g : Nat → Int} : ∀ n, (∀ i, i < n → f i = g i) → sumN f n = sumN g n := by
  intro n
  induction n with
  | zero => intro _; rfl
  | succ n ih => intro h; simp only [sumN, ih fun i hi => h i (by omega), h n (by omega)]
theorem sumN_zero {f : Nat → Int} (n : Nat) (h : ∀ i, i < n → f i = 0) : sumN f n = 0 := by
  induction n with
  | zero => rfl
  | succ n ih => simp only [sumN, ih fun i hi => h i (by omega), h n (by omega)]; rfl
theorem sumN_one {f g : Nat → Int} (n k : Nat) (hk : k < n) (h : ∀ i, i < n → i ≠ k → f i = g i) (h0 : g k = 0) : sumN f n = f k + sumN g n := by
  induction n with
  | zero => omega
  | succ n ih =>
    simp only [sumN]
    by_cases e : k = n
    · subst e
      rw [sumN_congr k fun i hi => h i (by omega) (by omega), h0]; omega
    · rw [ih (by omega) fun i hi => h i (by omega), h n (by omega) (by omega)]; omega
theorem dot_none {es : List (Int × Int)} {k : Int} (h : k ∉ keysE es) : dot (ind k) es = 0 := by
  induction es with
  | nil => rfl
  | cons e r ih =>
    simp only [keysE, List.map_cons, List.mem_cons, not_or] at h
    have he : ind k e.1 = 0 := by simp [ind, Ne.symm h.1]
    simp only [dot, he, ih h.2]; omega
theorem fsum_all (f : Int → Int → Int) (hf : ∀ k, f k 0 = 0) (n : Nat) : ∀ es : List (Int × Int), (keysE es).Nodup → (∀ k ∈ keysE es, 0 ≤ k ∧ k < n) → fsum f es = sumN (fun i => f i (dot (ind i) es)) n := by
  intro es
  induction es with
  | nil => intro _ _; rw [sumN_zero n fun i _ => by simp only [dot, hf]]; rfl
  | cons e r ih =>
    intro hn hk
    simp only [keysE, List.map_cons, List.nodup_cons] at hn
    obtain ⟨k0, k1⟩ := hk e.1 (by simp [keysE])
    have hi := ih hn.2 fun k h => hk k (by simp only [keysE, List.map_cons, List.mem_cons]; exact .inr h)
    obtain ⟨m, hm⟩ : ∃ m : Nat, e.1 = m := ⟨e.1.toNat, by omega⟩
    have hd : dot (ind e.1) r = 0 := dot_none hn.1
    rw [hm] at hd
    have h1 : ind m m = 1 := by simp [ind]
    rw [sumN_one (g := fun i => f i (dot (ind i) r)) n m (by omega) (fun i hi hne => by
      have : ind i e.1 = 0 := by simp [ind, hm]; omega
      simp only [dot, this]; congr 1; omega) (by simp only [hd, hf])]
    simp only [fsum, dot, h1, hd, hi, hm]
    congr 2; omega

theorem fsum_bound {f : Int → Int → Int} {B : Int} {es : List (Int × Int)} (h : ∀ e ∈ es, (f e.1 e.2).natAbs ≤ B * e.2.natAbs) : ((fsum f es).natAbs : Int) ≤ B * asum es := by
  induction es with
  | nil => simp [fsum, asum]
  | cons e r ih =>
    have := ih fun x hx => h x (List.mem_cons_of_mem _ hx)
    have h0 := h e List.mem_cons_self
    simp only [fsum, asum, Int.mul_add]; omega

/-! the weights of a kernel -/

def wJ (k : List Int) (i : Int) (a : Int) (M : List (Int × Int)) : Nat → List (Int × Int)
  | 0 => M
  | j + 1 => addE (wJ k i a M j) (i - j) (a * k.getD j 0)
def wI (k : List Int) : Nat → List (Int × Int)
  | 0 => []
  | i + 1 => wJ k i (k.getD i 0) (wI k i) k.length
def weightsL (k : List Int) : List (Int × Int) := wI k k.length
def sumI (k : List Int) : Int := sumN (fun i => k.getD i 0) k.length

theorem mul_abs {a b A B : Int} (ha : (a.natAbs : Int) ≤ A) (hb : (b.natAbs : Int) ≤ B) : ((a * b).natAbs : Int) ≤ A * B := by
  rw [Int.natAbs_mul, Int.natCast_mul]
  exact Int.mul_le_mul ha hb (by omega) (by omega)
theorem getD_bound {k : List Int} (h : ∀ x ∈ k, -100 ≤ x ∧ x ≤ 100) (i : Nat) : ((k.getD i 0).natAbs : Int) ≤ 100 := by
  rw [List.getD_eq_getElem?_getD]
  cases hi : k[i]? with
  | none => simp
  | some x =>
    have := h x (List.mem_of_getElem? hi)
    simp only [Option.getD_some]; omega
theorem wJ_spec {k : List Int} (h : ∀ x ∈ k, -100 ≤ x ∧ x ≤ 100) (hl : k.length ≤ 7) (i : Nat) (hi : i < 7) (M : List (Int × Int)) (hM : ∀ x ∈ keysE M, -7 ≤ x ∧ x ≤ 7) : ∀ j, j ≤ k.length →
    asum (wJ k i (k.getD i 0) M j) ≤ asum M + 10000 * j ∧ (wJ k i (k.getD i 0) M j).length ≤ M.length + j ∧ (∀ x ∈ keysE (wJ k i (k.getD i 0) M j), -7 ≤ x ∧ x ≤ 7) := by
  intro j
  induction j with
  | zero => intro _; exact ⟨by simp [wJ], by simp [wJ], hM⟩
  | succ j ih =>
    intro hj
    obtain ⟨h1, h2, h3⟩ := ih (by omega)
    have hb := mul_abs (getD_bound h i) (getD_bound h j)
    refine ⟨?_, ?_, ?_⟩
    · have := asum_addE (wJ k i (k.getD i 0) M j) (i - j) (k.getD i 0 * k.getD j 0)
      simp only [wJ]; omega
    · have := length_addE (wJ k i (k.getD i 0) M j) (i - j) (k.getD i 0 * k.getD j 0)
      simp only [wJ]; omega
    · intro x hx
      rcases (keys_addE _ _ _ x).1 hx with hx | hx
      · exact h3 x hx
      · subst hx; omega
theorem wI_spec {k : List Int} (h : ∀ x ∈ k, -100 ≤ x ∧ x ≤ 100) (hl : k.length ≤ 7) : ∀ i, i ≤ k.length →
    asum (wI k i) ≤ 70000 * i ∧ (wI k i).length ≤ 7 * i ∧ (∀ x ∈ keysE (wI k i), -7 ≤ x ∧ x ≤ 7) := by
  intro i
  induction i with
  | zero => intro _; exact ⟨by simp [wI, asum], by simp [wI], by simp [wI, keysE]⟩
  | succ i ih =>
    intro hi
    obtain ⟨h1, h2, h3⟩ := ih (by omega)
    obtain ⟨g1, g2, g3⟩ := wJ_spec h hl i (by omega) (wI k i) h3 k.length (by omega)
    exact ⟨by simp only [wI]; omega, by simp only [wI]; omega, g3⟩
theorem weights_spec {k : List Int} (h : ∀ x ∈ k, -100 ≤ x ∧ x ≤ 100) (hl : k.length ≤ 7) : asum (weightsL k) ≤ 490000 ∧ (weightsL k).length ≤ 49 ∧ ∀ x ∈ keysE (weightsL k), -7 ≤ x ∧ x ≤ 7 := by
  obtain ⟨h1, h2, h3⟩ := wI_spec h hl k.length (by omega)
  exact ⟨by simp only [weightsL]; omega, by simp only [weightsL]; omega, h3⟩
theorem sumN_bound {f : Nat → Int} {B : Int} (n : Nat) (h : ∀ i, i < n → ((f i).natAbs : Int) ≤ B) : ((sumN f n).natAbs : Int) ≤ B * n := by
  induction n with
  | zero => simp [sumN]
  | succ n ih =>
    have := ih fun i hi => h i (by omega)
    have := h n (by omega)
    simp only [sumN, Int.natCast_succ, Int.mul_add]; omega
end Fw
