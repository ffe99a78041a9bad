/- All orders of some jobs, and how orders compare. -/
import Derived.Test.YtdjkleaojdeepaaGreatDoorGaPl2
set_option maxHeartbeats 16000000
set_option maxRecDepth 8000
namespace Fw
open Go
attribute [local irreducible] evCode evOps evOpsD evOper evOperD evOp evFn loopN T.All T.bind callPure callOp opsK opsDK restK seqK blockK loopS setK setQ giveK scalK gcK finish finS rfunK yldK yldB loopK

def prmF (n : Nat) : Nat → List Int → List (List Int)
  | 0, b => [b]
  | k + 1, b => (List.range n).flatMap fun (i : Nat) => if b.contains (Int.ofNat i) then [] else prmF n k (b ++ [Int.ofNat i])
/-- all orders of n jobs, in their order -/
def prm (n : Nat) : List (List Int) := prmF n n []
def cmpI (a b : Int) : Int := if a < b then -1 else if b < a then 1 else 0
def lexC (a b : List Int) : Int := firstE ((List.range a.length).map fun i => cmpI (a.getD i 0) (b.getD i 0))
/-- what is asked of all orders -/
def prmOk (n : Nat) : Bool := (List.range (prm n).length).all fun k => (nextP ((prm n).getD k []) == (prm n)[k + 1]?) && (ordE n ((prm n).getD k []) == 0) && (List.range k).all fun b => lexC ((prm n).getD k []) ((prm n).getD b []) == 1
theorem prm1 : prmOk 1 = true := by decide +kernel
theorem prm2 : prmOk 2 = true := by decide +kernel
theorem prm3 : prmOk 3 = true := by decide +kernel
theorem prm4 : prmOk 4 = true := by decide +kernel
theorem prm5 : prmOk 5 = true := by decide +kernel
theorem prm_ok {n : Nat} (h0 : 0 < n) (h : n ≤ 5) : prmOk n = true := by
  match n, h0, h with
  | 1, _, _ => exact prm1
  | 2, _, _ => exact prm2
  | 3, _, _ => exact prm3
  | 4, _, _ => exact prm4
  | 5, _, _ => exact prm5
theorem prm_len {n : Nat} (h0 : 0 < n) (h : n ≤ 5) : 0 < (prm n).length ∧ (prm n).length ≤ 120 ∧ (prm n)[0]? = some ((List.range n).map fun (i : Nat) => Int.ofNat i) := by
  match n, h0, h with
  | 1, _, _ => decide +kernel
  | 2, _, _ => decide +kernel
  | 3, _, _ => decide +kernel
  | 4, _, _ => decide +kernel
  | 5, _, _ => decide +kernel
theorem prm_at {n : Nat} (h0 : 0 < n) (h : n ≤ 5) {k : Nat} (hk : k < (prm n).length) : nextP ((prm n).getD k []) = (prm n)[k + 1]? ∧ ordE n ((prm n).getD k []) = 0 ∧ ∀ b, b < k → lexC ((prm n).getD k []) ((prm n).getD b []) = 1 := by
  have := List.all_eq_true.1 (prm_ok h0 h) k (List.mem_range.2 hk)
  simp only [Bool.and_eq_true, beq_iff_eq, List.all_eq_true, List.mem_range] at this
  exact ⟨this.1.1, this.1.2, this.2⟩
theorem compare146 {n : Nat} (hn : 2 ≤ n) (a b : Int) : RUN n 146 [iv a, iv b] = .ret (iv (cmpI a b)) := by
  obtain ⟨d, rfl⟩ : ∃ d, n = d + 2 := ⟨n - 2, by omega⟩
  rw [RUN, call_eq fe146 _ rfl]
  have k := fun a => nan165 (n := d + 1) (by omega) a
  unfold cmpI
  by_cases h1 : a < b
  · simp -implicitDefEqProofs [c146, k, h1]
  · by_cases h2 : b < a
    · simp -implicitDefEqProofs [c146, k, h1, h2]
    · simp -implicitDefEqProofs [c146, k, h1, h2]
theorem or145 {n : Nat} (hn : 1 ≤ n) (a b : Int) : RUN n 145 [.p (.sl [.int .i64 a, .int .i64 b] 2)] = .ret (iv (firstE [a, b])) := by
  obtain ⟨d, rfl⟩ : ∃ d, n = d + 1 := ⟨n - 1, by omega⟩
  rw [RUN, call_eq fe145 _ rfl]
  have w1 : IntKind.i64.wrap 1 = 1 := by decide
  have w2 : IntKind.i64.wrap 2 = 2 := by decide
  have key : loopN (loopS (evFn F C0 G0 d) C0 G0 0 false [3, 6, 7, 8] c145L0) loopFuel ⟨[(3, iv 0), (6, .p (.sl [.int .i64 a, .int .i64 b] 2)), (7, iv 2), (8, iv 0)], []⟩ = .ret (if a ≠ 0 then (.ret, ⟨[(2, iv a)], []⟩) else if b ≠ 0 then (.ret, ⟨[(2, iv b)], []⟩) else (.exit 0, ⟨[(3, iv 0), (6, .p (.sl [.int .i64 a, .int .i64 b] 2)), (7, iv 2), (8, iv 2), (9, .p (.bool false))], []⟩)) := by
    by_cases ha : a = 0
    · subst ha
      rw [if_neg (by simp)]
      rw [loopN_on (st1 := ⟨[(3, iv 0), (6, .p (.sl [.int .i64 0, .int .i64 b] 2)), (7, iv 2), (8, iv 1)], []⟩) (by simp -implicitDefEqProofs [loopS_eq, c145L0, w1]) (by simp [loopFuel])]
      by_cases hb : b = 0
      · subst hb
        rw [if_neg (by simp)]
        rw [loopN_on (st1 := ⟨[(3, iv 0), (6, .p (.sl [.int .i64 0, .int .i64 0] 2)), (7, iv 2), (8, iv 2)], []⟩) (by simp -implicitDefEqProofs [loopS_eq, c145L0, w2]) (by simp [loopFuel])]
        rw [loopN_end (e := .exit 0) (by simp -implicitDefEqProofs [loopS_eq, c145L0]; exact rfl) (by simp) (by simp [loopFuel])]
      · rw [if_pos hb]
        rw [loopN_end (e := .ret) (by simp -implicitDefEqProofs [loopS_eq, c145L0, hb]; exact rfl) (by simp) (by simp [loopFuel])]
    · rw [if_pos ha]
      rw [loopN_end (e := .ret) (by simp -implicitDefEqProofs [loopS_eq, c145L0, ha]; exact rfl) (by simp) (by simp [loopFuel])]
  simp -implicitDefEqProofs [c145]
  rw [show loopN _ _ _ = _ from key]
  by_cases ha : a = 0
  · subst ha
    by_cases hb : b = 0
    · subst hb
      simp -implicitDefEqProofs [firstE]
    · simp -implicitDefEqProofs [firstE, hb]
  · simp -implicitDefEqProofs [firstE, ha]
theorem compare147 {n : Nat} (hn : 3 ≤ n) (a b : List Int) (ha : a.length < 1000) (hab : a.length = b.length) : RUN n 147 [isl a, isl b] = .ret (iv (lexC a b)) := by
  obtain ⟨d, rfl⟩ : ∃ d, n = d + 3 := ⟨n - 3, by omega⟩
  rw [RUN, call_eq fe147 _ rfl]
  have hA := pI_len a
  have hB := pI_len b
  let inv : Nat → St := fun i => ⟨[(0, isl a), (1, isl b), (9, isl a), (10, iv a.length), (11, iv i)], []⟩
  have key := loop_firstR (step := loopS (evFn F C0 G0 (d + 2)) C0 G0 0 false [0, 1, 9, 10, 11] c147L0) inv (fun i => cmpI (a.getD i 0) (b.getD i 0)) a.length (.exit 0, ⟨(inv a.length).env ++ [(12, .p (.bool false))], (inv a.length).sto⟩) (fun i st => st.env = [(4, iv (cmpI (a.getD i 0) (b.getD i 0)))])
    (st0 := inv 0) rfl (fun i hi => by
    have wi := wrap_succ (i := i) (by omega)
    have hib : i < b.length := by omega
    have hibi : ¬ (b.length : Int) ≤ i := by omega
    have d1 := pI_drop a i hi
    have d2 := pI_drop b i hib
    rw [← getI hi] at d1
    rw [← getI hib] at d2
    have k := compare146 (n := d + 2) (by omega) (a.getD i 0) (b.getD i 0)
    simp only [inv, isl]
    generalize cmpI (a.getD i 0) (b.getD i 0) = e at *
    generalize a.getD i 0 = x at *
    generalize b.getD i 0 = y at *
    generalize pI a = PA at *
    generalize pI b = PB at *
    generalize PA.drop (i + 1) = R1 at *
    generalize PB.drop (i + 1) = R2 at *
    refine ⟨fun he => ?_, fun he => ?_⟩
    · subst he
      refine ⟨?_, ?h1, ?h2⟩
      case h1 =>
        simp -implicitDefEqProofs [loopS_eq, c147L0, hi, hib, hibi, hA, hB, d1, d2, k, wi]
        exact rfl
      case h2 => rfl
    · refine ⟨?_, ?h1, ?h2⟩
      case h1 =>
        simp -implicitDefEqProofs [loopS_eq, c147L0, hi, hib, hibi, hA, hB, d1, d2, k, he]
        exact rfl
      case h2 => rfl) (by simp -implicitDefEqProofs [inv, loopS_eq, c147L0]) (by simp) (fuel := loopFuel) (by simp [loopFuel]; omega)
  have hnl : ¬ (a.length : Int) < b.length := by omega
  simp only [inv, isl] at *
  simp only [Int.natCast_zero] at key
  rcases key with ⟨h1, h2⟩ | ⟨j, ⟨env, sto⟩, hj, h1, h2, h3, _, _⟩
  · rw [show lexC a b = 0 from h2]
    simp -implicitDefEqProofs [c147]
    rw [show loopN _ _ _ = _ from h1]
    simp -implicitDefEqProofs [hab]
  · rw [show lexC a b = _ from h3]
    simp only at h2
    subst h2
    simp -implicitDefEqProofs [c147]
    rw [show loopN _ _ _ = _ from h1]
    simp
end Fw
