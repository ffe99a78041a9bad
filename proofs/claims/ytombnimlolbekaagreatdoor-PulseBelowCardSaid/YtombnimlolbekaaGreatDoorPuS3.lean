/- Runs of settings: the pulse chapter and its reference. -/
import Derived.Test.YtombnimlolbekaaGreatDoorPuS2
set_option maxHeartbeats 8000000
namespace Fw
open Go
attribute [local irreducible] evCode evOps evOpsD evOper evOperD evOp evFn loopN T.All T.bind callPure callOp opsK opsDK restK seqK blockK loopS setK setQ giveK scalK gcK finish finS rfunK yldK yldB loopK

/-! quotients, rounded down -/

theorem tdiv_down (n den : Int) (hd : 0 < den) : n / den = if n < n.tdiv den * den then n.tdiv den - 1 else n.tdiv den := by
 have h1 := Int.mul_tdiv_add_tmod n den
 have h2 : n.tmod den < den := Int.tmod_lt_of_pos n hd
 have h3 : -den < n.tmod den := Int.lt_tmod_of_pos n hd
 rw [Int.mul_comm] at h1
 split
 ·have : n / den = n.tdiv den - 1 ∧ n % den = n.tmod den + den := by
   rw [Int.ediv_emod_unique hd]
   refine ⟨?_, by omega, by omega⟩
   rw [Int.mul_sub, Int.mul_comm]; omega
  exact this.1
 ·have : n / den = n.tdiv den ∧ n % den = n.tmod den := by
   rw [Int.ediv_emod_unique hd]
   refine ⟨?_, by omega, h2⟩
   rw [Int.mul_comm]; omega
  exact this.1

theorem tdiv_small (n den : Int) (_hd : 0 < den) (b : Int) (h1 : -b ≤ n) (h2 : n ≤ b) : -b ≤ n.tdiv den ∧ n.tdiv den ≤ b ∧ -(2 * b) ≤ n.tdiv den * den ∧ n.tdiv den * den ≤ 2 * b := by
 have h := Int.natAbs_tdiv_le_natAbs n den
 have h3 := Int.mul_tdiv_add_tmod n den
 have h4 : (n.tmod den).natAbs ≤ n.natAbs := by
  rw [Int.natAbs_tmod]
  exact Nat.mod_le _ _
 rw [Int.mul_comm] at h3
 omega

theorem floor122 {n : Nat} (hn : 1 ≤ n) (x den : Int) (hd : 0 < den) (h1 : -1000000000000 ≤ x) (h2 : x ≤ 1000000000000) : RUN n 122 [iv x, iv den] = .ret (iv (x / den)) := by
 obtain ⟨d, rfl⟩ : ∃ d, n = d + 1 := ⟨n - 1, by omega⟩
 rw [RUN, call_eq fe122 _ rfl, tdiv_down x den hd]
 obtain ⟨b1, b2, b3, b4⟩ := tdiv_small x den hd _ h1 h2
 have w1 := wrap64 (n := x.tdiv den) (by omega) (by omega)
 have w2 := wrap64 (n := x.tdiv den - 1) (by omega) (by omega)
 have w3 := wrap64 (n := x.tdiv den * den) (by omega) (by omega)
 have hz : den ≠ 0 := by omega
 by_cases h : x < x.tdiv den * den <;> simp -implicitDefEqProofs [c122, hz, h, w1, w2, w3]
/-! runs -/

def wishF (s : SledI) (l : List (Int × Int)) (g : Int) (i : Nat) : Int := (g * valveP l (max 0 ((i : Int) - s.delay))) / 100
def runF (s : SledI) (l : List (Int × Int)) (g : Int) : Nat → Int
 | 0 => 0
 | i + 1 => runF s l g i + (wishF s l g i - runF s l g i) / s.lag
def runL (s : SledI) (l : List (Int × Int)) (g : Int) (k : Nat) : List Int := (List.range k).map fun i => runF s l g (i + 1)

theorem accF_bound {l : List (Int × Int)} (h : Valid l) (i : Nat) (hi : i ≤ l.length) : 0 ≤ accF l i ∧ accF l i ≤ 100 := by
 unfold accF
 split
 ·omega
 ·have := h.val (i - 1) (by omega); omega

theorem valveP_bound {l : List (Int × Int)} (h : Valid l) (tick : Int) : 0 ≤ valveP l tick ∧ valveP l tick ≤ 100 := by
 unfold valveP
 exact accF_bound h _ (List.takeWhile_sublist _).length_le

theorem wishF_bound {s : SledI} {l : List (Int × Int)} (h : Valid l) {g : Int} (hg : 0 ≤ g) (i : Nat) : 0 ≤ wishF s l g i ∧ wishF s l g i ≤ g := by
 obtain ⟨h1, h2⟩ := valveP_bound h (max 0 ((i : Int) - s.delay))
 unfold wishF
 generalize valveP l (max 0 ((i : Int) - s.delay)) = v at *
 have h3 : 0 ≤ g * v := Int.mul_nonneg hg h1
 have h4 : g * v ≤ g * 100 := Int.mul_le_mul_of_nonneg_left h2 hg
 omega

theorem div_between {x d : Int} (hd : 1 ≤ d) : (0 ≤ x → 0 ≤ x / d ∧ x / d ≤ x) ∧ (x ≤ 0 → x ≤ x / d ∧ x / d ≤ 0) := by
 have h1 := Int.mul_ediv_add_emod x d
 have h2 := Int.emod_nonneg x (show d ≠ 0 by omega)
 have h3 := Int.emod_lt_of_pos x (show 0 < d by omega)
 constructor
 ·intro hx
  have h4 : 0 ≤ x / d := Int.ediv_nonneg hx (by omega)
  refine ⟨h4, ?_⟩
  have : x / d ≤ d * (x / d) := by
   have := Int.mul_le_mul_of_nonneg_right hd h4
   rwa [Int.one_mul] at this
  omega
 ·intro hx
  have h4 : x / d ≤ 0 := by
   refine Classical.byContradiction (fun hc => ?_)
   have : d * 1 ≤ d * (x / d) := Int.mul_le_mul_of_nonneg_left (by omega) (by omega)
   omega
  refine ⟨?_, h4⟩
  refine Classical.byContradiction (fun hc => ?_)
  have h5 : x / d ≤ x - 1 := by omega
  have h6 : d * (x / d) ≤ d * (x - 1) := Int.mul_le_mul_of_nonneg_left h5 (by omega)
  have h7 : d * x ≤ 1 * x := Int.mul_le_mul_of_nonpos_right hd hx
  rw [Int.mul_sub, Int.mul_one] at h6
  omega

theorem runF_bound {s : SledI} {l : List (Int × Int)} (h : Valid l) {g : Int} (hg : 0 ≤ g) (hl : 1 ≤ s.lag) (i : Nat) : 0 ≤ runF s l g i ∧ runF s l g i ≤ g := by
 induction i with
 | zero => simp only [runF]; omega
 | succ i ih =>
  have hw := wishF_bound (s := s) h hg i
  simp only [runF]
  obtain ⟨p, q⟩ := div_between (x := wishF s l g i - runF s l g i) hl
  by_cases hc : runF s l g i ≤ wishF s l g i
  ·have := p (by omega); omega
  ·have := q (by omega); omega
end Fw
