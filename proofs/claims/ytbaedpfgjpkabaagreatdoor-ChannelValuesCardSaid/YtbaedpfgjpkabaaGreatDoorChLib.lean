import Derived.Test.YtbaedpfgjpkabaaGreatDoorChRun3
set_option maxHeartbeats 8000000
namespace Fw
open Go
attribute [local irreducible] evCode evOps evOpsD evOper evOperD evOp evFn loopN T.All T.bind callPure callOp opsK opsDK restK seqK blockK loopS setK setQ giveK scalK gcK finish finS rfunK yldK yldB loopK
section
variable {C : Nat → List AVal → Option (T AVal)} {G : Nat → Option (List PVal)} {d : Nat}

theorem tdiv_floor (n den : Int) (hd : 0 < den) : n / den = if n.tmod den < 0 then n.tdiv den - 1 else n.tdiv den := by
  have h1 := Int.mul_tdiv_add_tmod n den
  have h2 : n.tmod den < den := Int.tmod_lt_of_pos n hd
  have h3 : -den < n.tmod den := by
    have := Int.lt_tmod_of_pos n hd
    exact this
  split
  · have : n / den = n.tdiv den - 1 ∧ n % den = n.tmod den + den := by
      rw [Int.ediv_emod_unique hd]
      refine ⟨?_, by omega, by omega⟩
      rw [Int.mul_sub]; omega
    exact this.1
  · have : n / den = n.tdiv den ∧ n % den = n.tmod den := by
      rw [Int.ediv_emod_unique hd]
      exact ⟨by omega, by omega, h2⟩
    exact this.1

theorem tdiv_bound (n den : Int) (_hd : 0 < den) (b : Int) (h1 : -b ≤ n) (h2 : n ≤ b) : -b ≤ n.tdiv den ∧ n.tdiv den ≤ b := by
  have := Int.natAbs_tdiv_le_natAbs n den
  omega

theorem floor_ok (hC : ∀ as, C 268 as = none) (n den : Int) (hd : 0 < den) (h1 : -1152921504606846976 ≤ n) (h2 : n ≤ 1152921504606846976) :
    callPure (evFn F C G (d + 1)) C (.fn 268) [.p (.int .i64 n), .p (.int .i64 den)] = .ret (.p (.int .i64 (n / den))) := by
  rw [call_eq fe268 _ (hC _), tdiv_floor n den hd]
  obtain ⟨b1, b2⟩ := tdiv_bound n den hd _ h1 h2
  have w1 := wrap64 (n := n.tdiv den) (by omega) (by omega)
  have w2 := wrap64 (n := n.tdiv den - 1) (by omega) (by omega)
  have hz : den ≠ 0 := by omega
  by_cases h : n.tmod den < 0 <;> simp [c268, hz, h, w1, w2]

def nearI (n den : Int) : Int := (2 * n + den) / (2 * den)

theorem near_ok (hC : ∀ f as, C f as = none ∨ f ≠ 268 ∧ f ≠ 270) (n den : Int) (hd : 0 < den) (hd2 : den ≤ 1099511627776) (h1 : -1099511627776 ≤ n) (h2 : n ≤ 1099511627776) :
    callPure (evFn F C G (d + 2)) C (.fn 270) [.p (.int .i64 n), .p (.int .i64 den)] = .ret (.p (.int .i64 (nearI n den))) := by
  have c1 : ∀ as, C 268 as = none := fun as => (hC 268 as).resolve_right (by simp)
  have c2 : ∀ as, C 270 as = none := fun as => (hC 270 as).resolve_right (by simp)
  rw [call_eq fe270 _ (c2 _)]
  have w1 := wrap64 (n := 2 * n) (by omega) (by omega)
  have w2 := wrap64 (n := 2 * n + den) (by omega) (by omega)
  have w3 := wrap64 (n := 2 * den) (by omega) (by omega)
  have hf := floor_ok (G := G) (d := d) c1 (2 * n + den) (2 * den) (by omega) (by omega) (by omega)
  simp [c270, w1, w2, w3, hf, nearI]

theorem when_ok (hC : ∀ as, C 104 as = none) (b : Bool) (e : Int) : callPure (evFn F C G (d + 1)) C (.fn 104) [.p (.bool b), .p (.int .i64 e)] = .ret (.p (.int .i64 (if b then e else 0))) := by
  rw [call_eq fe104 _ (hC _)]
  cases b <;> simp [c104]
end
end Fw
