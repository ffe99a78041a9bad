/- The next order of some jobs: what the chapter's next does to a list. -/
import Derived.Test.YtdjkleaojdeepaaGreatDoorGaJ3
import Derived.Test.YtdjkleaojdeepaaGreatDoorFwC
set_option maxHeartbeats 16000000
set_option maxRecDepth 8000
namespace Fw
open Go
attribute [local irreducible] evCode evOps evOpsD evOper evOperD evOp evFn loopN T.All T.bind callPure callOp opsK opsDK restK seqK blockK loopS setK setQ giveK scalK gcK finish finS rfunK yldK yldB loopK

/-- the last of the first places whose element is less than the next one -/
def srch (p : List Int) : Nat → Int
  | 0 => -1
  | m + 1 => if p.getD m 0 < p.getD (m + 1) 0 then m else srch p m
/-- the last place up to one whose element is not less than a number -/
def lastK (p : List Int) (v : Int) : Nat → Nat
  | 0 => 0
  | k + 1 => if p.getD (k + 1) 0 < v then lastK p v k else k + 1
/-- some swaps of a reversal -/
def rvF (q : List Int) (off len : Nat) : Nat → List Int
  | 0 => q
  | t + 1 => ((rvF q off len t).set (off + t) ((rvF q off len t).getD (off + (len - 1 - t)) 0)).set (off + (len - 1 - t)) ((rvF q off len t).getD (off + t) 0)
/-- a store with two objects more -/
def Nx (r s : Nat) (R B : Obj) (p : List Int) : Sto := [(r, R), (s, B), (0, .arr (pI p) 0 1)]

theorem find119 {d : Nat} (r s : Nat) (R B : Obj) (hr : s < r) (hs : 0 < s) (p : List Int) (hp : p.length < 1000) : ∀ (m fuel : Nat), m + 1 ≤ p.length → m + 1 < fuel →
    ∃ env, loopN (loopS (evFn F C0 G0 d) C0 G0 (r + 1) false [0, 3, 4] c119L0) fuel ⟨[(0, .sl 0 0 0 p.length), (3, iv (-1)), (4, iv ((m : Int) - 1))], Nx r s R B p⟩ = .ret (.exit 0, ⟨(0, .sl 0 0 0 p.length) :: (3, iv (srch p m)) :: env, Nx r s R B p⟩) := by
  have h0r : ¬ r = 0 := by omega
  have h0s : ¬ s = 0 := by omega
  have hP := pI_len p
  intro m
  induction m with
  | zero =>
    intro fuel h1 h2
    obtain ⟨f, rfl⟩ : ∃ f, fuel = f + 1 := ⟨fuel - 1, by omega⟩
    refine ⟨[(4, iv (-1)), (11, .p (.bool false))], ?_⟩
    rw [loopN_end (e := .exit 0) (st1 := ⟨(0, .sl 0 0 0 p.length) :: (3, iv (srch p 0)) :: [(4, iv (-1)), (11, .p (.bool false))], Nx r s R B p⟩) ?_ (by simp) (by omega)]
    simp -implicitDefEqProofs [loopS_eq, c119L0, srch]
  | succ m ih =>
    intro fuel h1 h2
    have hmi : (((m + 1 : Nat) : Int) - 1) = (m : Int) := by omega
    rw [hmi]
    have hm1 : m < p.length := by omega
    have hm2 : m + 1 < p.length := by omega
    have hw1 := wrap64 (n := (m : Int) + 1) (by omega) (by omega)
    have hw2 := wrap64 (n := (m : Int) - 1) (by omega) (by omega)
    have hn1 : ((m : Int) + 1).toNat = m + 1 := by omega
    have h0i : 0 ≤ (m : Int) + 1 := by omega
    have hlt : (m : Int) + 1 < p.length := by omega
    have g1 : ∀ q, (pI p)[m]'q = .int .i64 (p.getD m 0) := fun q => by
      have := getI hm1; rw [this]; simp [pI]
    have g2 : ∀ q, (pI p)[m + 1]'q = .int .i64 (p.getD (m + 1) 0) := fun q => by
      have := getI hm2; rw [this]; simp [pI]
    by_cases hc : p.getD m 0 < p.getD (m + 1) 0
    · have e : srch p (m + 1) = (m : Int) := by simp only [srch, if_pos hc]
      rw [e]
      refine ⟨[], ?_⟩
      rw [loopN_end (e := .exit 0) (st1 := ⟨[(0, .sl 0 0 0 p.length), (3, iv m)], Nx r s R B p⟩) ?_ (by simp) (by omega)]
      simp only [Nx]
      generalize p.getD m 0 = x at *
      generalize p.getD (m + 1) 0 = y at *
      generalize pI p = A at *
      simp -implicitDefEqProofs [loopS_eq, c119L0, h0r, h0s, hm1, hm2, hw1, hn1, h0i, hlt, g1, g2, hP, hc]
    · have e : srch p (m + 1) = srch p m := by simp only [srch, if_neg hc]
      rw [e]
      obtain ⟨env, hi⟩ := ih (fuel - 1) (by omega) (by omega)
      refine ⟨env, ?_⟩
      rw [loopN_on (st1 := ⟨[(0, .sl 0 0 0 p.length), (3, iv (-1)), (4, iv ((m : Int) - 1))], Nx r s R B p⟩) ?_ (by omega)]
      · exact hi
      · simp only [Nx]
        generalize p.getD m 0 = x at *
        generalize p.getD (m + 1) 0 = y at *
        generalize pI p = A at *
        simp -implicitDefEqProofs [loopS_eq, c119L0, h0r, h0s, hm1, hm2, hw1, hw2, hn1, h0i, hlt, g1, g2, hP, hc]
theorem last119 {d : Nat} (r s : Nat) (R B : Obj) (hr : s < r) (hs : 0 < s) (p : List Int) (hp : p.length < 1000) (a : Nat) (ha : a + 1 < p.length) (hlt : p.getD a 0 < p.getD (a + 1) 0) : ∀ (k fuel : Nat), a + 1 ≤ k → k < p.length → k + 1 < fuel →
    a + 1 ≤ lastK p (p.getD a 0) k ∧ lastK p (p.getD a 0) k ≤ k ∧ ∃ env, loopN (loopS (evFn F C0 G0 d) C0 G0 (r + 1) false [0, 3, 5] c119L1) fuel ⟨[(0, .sl 0 0 0 p.length), (3, iv a), (5, iv k)], Nx r s R B p⟩ = .ret (.exit 2, ⟨(0, .sl 0 0 0 p.length) :: (3, iv a) :: (5, iv (lastK p (p.getD a 0) k)) :: env, Nx r s R B p⟩) := by
  have h0r : ¬ r = 0 := by omega
  have h0s : ¬ s = 0 := by omega
  have hP := pI_len p
  have haa : a < p.length := by omega
  have g1 : ∀ q, (pI p)[a]'q = .int .i64 (p.getD a 0) := fun q => by
    have := getI haa; rw [this]; simp [pI]
  intro k
  induction k with
  | zero => intro fuel h1 h2 h3; omega
  | succ k ih =>
    intro fuel h1 h2 h3
    have g2 : ∀ q, (pI p)[k + 1]'q = .int .i64 (p.getD (k + 1) 0) := fun q => by
      have := getI h2; rw [this]; simp [pI]
    have hw2 := wrap64 (n := ((k + 1 : Nat) : Int) - 1) (by omega) (by omega)
    have hk1 : ((k + 1 : Nat) : Int) = (k : Int) + 1 := by omega
    have hk2 : ((k + 1 : Nat) : Int) - 1 = (k : Int) := by omega
    have hn1 : ((k : Int) + 1).toNat = k + 1 := by omega
    have h0i : 0 ≤ (k : Int) + 1 := by omega
    have hlt2 : (k : Int) + 1 < p.length := by omega
    have hk3 : (k : Int) + 1 - 1 = (k : Int) := by omega
    rw [hk2] at hw2
    by_cases hc : p.getD (k + 1) 0 < p.getD a 0
    · have hne : a + 1 ≤ k := by
        rcases Nat.lt_or_ge k (a + 1) with q | q
        · have : k = a := by omega
          subst this; omega
        · exact q
      have e : lastK p (p.getD a 0) (k + 1) = lastK p (p.getD a 0) k := by simp only [lastK, if_pos hc]
      rw [e]
      obtain ⟨i1, i2, env, hi⟩ := ih (fuel - 1) hne (by omega) (by omega)
      refine ⟨i1, by omega, env, ?_⟩
      rw [loopN_on (st1 := ⟨[(0, .sl 0 0 0 p.length), (3, iv a), (5, iv k)], Nx r s R B p⟩) ?_ (by omega)]
      · exact hi
      · simp only [Nx, hk1]
        generalize p.getD a 0 = x at *
        generalize p.getD (k + 1) 0 = y at *
        generalize pI p = A at *
        simp -implicitDefEqProofs [loopS_eq, c119L1, h0r, h0s, haa, h2, hw2, hk3, hn1, h0i, hlt2, g1, g2, hP, hc]
    · have e : lastK p (p.getD a 0) (k + 1) = k + 1 := by simp only [lastK, if_neg hc]
      rw [e]
      refine ⟨by omega, by omega, [(38, .p (.bool false))], ?_⟩
      rw [loopN_end (e := .exit 2) (st1 := ⟨(0, .sl 0 0 0 p.length) :: (3, iv a) :: (5, iv ((k + 1 : Nat) : Int)) :: [(38, .p (.bool false))], Nx r s R B p⟩) ?_ (by simp) (by omega)]
      simp only [Nx, hk1]
      generalize p.getD a 0 = x at *
      generalize p.getD (k + 1) 0 = y at *
      generalize pI p = A at *
      simp -implicitDefEqProofs [loopS_eq, c119L1, h0r, h0s, haa, h2, hn1, h0i, hlt2, g1, g2, hP, hc]
end Fw
