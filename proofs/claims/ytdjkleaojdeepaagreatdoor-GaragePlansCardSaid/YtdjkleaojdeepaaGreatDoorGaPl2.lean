/- The next order of some jobs: a reversal in place, and the whole of next. -/
import Derived.Test.YtdjkleaojdeepaaGreatDoorGaPl1
set_option maxHeartbeats 16000000
set_option maxRecDepth 8000
namespace Fw
open Go
attribute [local irreducible] evCode evOps evOpsD evOper evOperD evOp evFn loopN T.All T.bind callPure callOp opsK opsDK restK seqK blockK loopS setK setQ giveK scalK gcK finish finS rfunK yldK yldB loopK

theorem rvF_len (q : List Int) (off len : Nat) : ∀ t, (rvF q off len t).length = q.length := by
  intro t
  induction t with
  | zero => rfl
  | succ t ih => simp only [rvF, List.length_set, ih]
theorem pset (l : List Int) (i : Nat) (v : Int) : (pI l).set i (.int .i64 v) = pI (l.set i v) := by simp [pI, List.map_set]
theorem pget (l : List Int) (i : Nat) (hi : i < l.length) : ∀ q, (pI l)[i]'q = .int .i64 (l.getD i 0) := fun q => by rw [getI hi]; simp [pI]
theorem reverse148 {d : Nat} (r s : Nat) (R B : Obj) (hr : s < r) (hs : 0 < s) (q : List Int) (hq : q.length < 1000) (off len : Nat) (hl : off + len ≤ q.length) :
    evFn F C0 G0 (d + 1) (.fn 148) [.sl 0 0 off len] (Nx r s R B q) = .ret (.tup [], Nx r s R B (rvF q off len (len / 2))) := by
  have h0r : ¬ r = 0 := by omega
  have h0s : ¬ s = 0 := by omega
  rw [evFn_fn fe148]
  have key : loopN (loopS (evFn F C0 G0 d) C0 G0 (r + 1) false [0, 2, 3] c148L0) loopFuel ⟨[(0, .sl 0 0 off len), (2, iv 0), (3, iv ((len : Int) - 1))], Nx r s R B q⟩ = .ret (.exit 0, ⟨[(0, .sl 0 0 off len), (2, iv (len / 2 : Nat)), (3, iv ((len : Int) - 1 - (len / 2 : Nat))), (9, .p (.bool false))], Nx r s R B (rvF q off len (len / 2))⟩) := by
    rw [loop_run' (fun t => ⟨[(0, .sl 0 0 off len), (2, iv t), (3, iv ((len : Int) - 1 - t))], Nx r s R B (rvF q off len t)⟩) (len / 2) (e := .exit 0) (st' := ⟨[(0, .sl 0 0 off len), (2, iv (len / 2 : Nat)), (3, iv ((len : Int) - 1 - (len / 2 : Nat))), (9, .p (.bool false))], Nx r s R B (rvF q off len (len / 2))⟩) (by simp)]
    · simp [rvF]
    · intro t ht
      have hlen := rvF_len q off len t
      have hj : (len : Int) - 1 - t = ((len - 1 - t : Nat) : Int) := by omega
      have hlt : (t : Int) < ((len - 1 - t : Nat) : Int) := by omega
      have hltN : t < len - 1 - t := by omega
      have h1 : t < len := by omega
      have h2 : len - 1 - t < len := by omega
      have h1i : (t : Int) < len := by omega
      have h2i : ((len - 1 - t : Nat) : Int) < len := by omega
      have ho1 : off + t < q.length := by omega
      have ho2 : off + (len - 1 - t) < q.length := by omega
      have hne : off + t ≠ off + (len - 1 - t) := by omega
      have hw1 := wrap64 (n := (t : Int) + 1) (by omega) (by omega)
      have hw2 := wrap64 (n := ((len - 1 - t : Nat) : Int) - 1) (by omega) (by omega)
      have hj2 : (len : Int) - 1 - ((t + 1 : Nat) : Int) = ((len - 1 - t : Nat) : Int) - 1 := by omega
      simp only [hj, hj2]
      simp only [rvF]
      generalize hS : rvF q off len t = S at *
      generalize hJ : len - 1 - t = j at *
      have hP := pI_len S
      rw [hlen] at hP
      have g1 := pget S (off + t) (by omega)
      have g2 := pget S (off + j) (by omega)
      have e1 := pset S (off + t) (S.getD (off + j) 0)
      have e2 := pset (S.set (off + t) (S.getD (off + j) 0)) (off + j) (S.getD (off + t) 0)
      have hP1 : (pI (S.set (off + t) (S.getD (off + j) 0))).length = q.length := by rw [pI_len, List.length_set]; exact hlen
      have ho1b : off + t + 1 ≤ q.length := by omega
      have ho2b : off + j + 1 ≤ q.length := by omega
      simp only [Nx]
      generalize S.getD (off + t) 0 = x at *
      generalize S.getD (off + j) 0 = y at *
      generalize pI ((S.set (off + t) y).set (off + j) x) = A3 at *
      generalize pI (S.set (off + t) y) = A2 at *
      generalize pI S = A1 at *
      refine ⟨?_, ?h1, ?h2⟩
      case h1 =>
        simp -implicitDefEqProofs [loopS_eq, c148L0, h0r, h0s, hlt, h1i, h2i, ho1, ho2, ho1b, ho2b, hP, hP1, g1, g2, e1, e2, hw1, hw2]
        exact rfl
      case h2 => rfl
    · have hn : ¬ ((len / 2 : Nat) : Int) < (len : Int) - 1 - (len / 2 : Nat) := by omega
      generalize ((len / 2 : Nat) : Int) = z at *
      simp only [Nx]
      simp -implicitDefEqProofs [loopS_eq, c148L0, hn]
    · simp [loopFuel]; omega
  have hw := wrap64 (n := (len : Int) - 1) (by omega) (by omega)
  generalize rvF q off len (len / 2) = Q at *
  generalize ((len / 2 : Nat) : Int) = z at *
  simp only [Nx] at *
  generalize pI q = A at *
  simp -implicitDefEqProofs [c148, h0r, h0s, hw]
  rw [show loopN _ _ _ = _ from key]
  simp
/-- the next order, if there is one -/
def nextP (p : List Int) : Option (List Int) :=
  if srch p (p.length - 1) < 0 then none else
    let a := (srch p (p.length - 1)).toNat
    let k := lastK p (p.getD a 0) (p.length - 1)
    let q := (p.set a (p.getD k 0)).set k (p.getD a 0)
    some (rvF q (a + 1) (p.length - (a + 1)) ((p.length - (a + 1)) / 2))
theorem srch_spec (p : List Int) : ∀ m, 0 ≤ srch p m → (srch p m).toNat < m ∧ p.getD (srch p m).toNat 0 < p.getD ((srch p m).toNat + 1) 0 := by
  intro m
  induction m with
  | zero => intro h; simp [srch] at h
  | succ m ih =>
    intro h
    simp only [srch] at h ⊢
    split
    · rename_i hc
      exact ⟨by simp, by simpa using hc⟩
    · rename_i hc
      rw [if_neg hc] at h
      obtain ⟨i1, i2⟩ := ih h
      exact ⟨by omega, i2⟩
theorem next119 {d : Nat} (r s : Nat) (R B : Obj) (hr : s < r) (hs : 0 < s) (p : List Int) (hp : p.length < 1000) (hp1 : 0 < p.length) :
    evFn F C0 G0 (d + 2) (.fn 119) [.sl 0 0 0 p.length] (Nx r s R B p) = .ret (.p (.bool (nextP p).isSome), Nx r s R B ((nextP p).getD p)) := by
  have h0r : ¬ r = 0 := by omega
  have h0s : ¬ s = 0 := by omega
  rw [evFn_fn fe119]
  obtain ⟨env, k1⟩ := find119 (d := d + 1) r s R B hr hs p hp (p.length - 1) loopFuel (by omega) (by simp [loopFuel]; omega)
  have hm : ((p.length - 1 : Nat) : Int) - 1 = (p.length : Int) - 2 := by omega
  rw [hm] at k1
  have hw := wrap64 (n := (p.length : Int) - 2) (by omega) (by omega)
  have hw1 := wrap64 (n := (p.length : Int) - 1) (by omega) (by omega)
  have hni : nextId (Nx r s R B p) = r + 1 := rfl
  by_cases h : srch p (p.length - 1) < 0
  · have e : nextP p = none := by unfold nextP; rw [if_pos h]
    rw [e]
    simp only [Option.getD_none, Option.isSome_none]
    generalize srch p (p.length - 1) = a at *
    simp only [Nx] at *
    generalize pI p = A at *
    simp -implicitDefEqProofs [c119, h0r, h0s, hw]
    rw [show loopN _ _ _ = _ from k1]
    simp -implicitDefEqProofs [h]
  · have h : 0 ≤ srch p (p.length - 1) := by omega
    obtain ⟨s1, s2⟩ := srch_spec p _ h
    have e : nextP p = some (rvF ((p.set (srch p (p.length - 1)).toNat (p.getD (lastK p (p.getD (srch p (p.length - 1)).toNat 0) (p.length - 1)) 0)).set (lastK p (p.getD (srch p (p.length - 1)).toNat 0) (p.length - 1)) (p.getD (srch p (p.length - 1)).toNat 0)) ((srch p (p.length - 1)).toNat + 1) (p.length - ((srch p (p.length - 1)).toNat + 1)) ((p.length - ((srch p (p.length - 1)).toNat + 1)) / 2)) := by
      unfold nextP; rw [if_neg (by omega)]
    rw [e]
    obtain ⟨a, ha⟩ : ∃ a : Nat, srch p (p.length - 1) = (a : Int) := ⟨_, (Int.toNat_of_nonneg h).symm⟩
    rw [ha] at k1 s1 s2 ⊢
    simp only [Int.toNat_natCast] at s1 s2 ⊢
    obtain ⟨q1, q2, env2, k2⟩ := last119 (d := d + 1) r s R B hr hs p hp a (by omega) s2 (p.length - 1) loopFuel (by omega) (by omega) (by simp [loopFuel]; omega)
    have hm2 : ((p.length - 1 : Nat) : Int) = (p.length : Int) - 1 := by omega
    rw [hm2] at k2
    generalize lastK p (p.getD a 0) (p.length - 1) = k at *
    have hq : ((p.set a (p.getD k 0)).set k (p.getD a 0)).length = p.length := by simp only [List.length_set]
    have k3 := reverse148 (d := d) r s R B hr hs ((p.set a (p.getD k 0)).set k (p.getD a 0)) (by omega) (a + 1) (p.length - (a + 1)) (by omega)
    have kg : ∀ z, gc (r + 1) [(0, .tup [])] (Nx r s R B z) = Nx r s R B z := fun z => gc_all (by simp [Nx]; omega)
    have hap : a < p.length := by omega
    have hkp : k < p.length := by omega
    have hai : (a : Int) < p.length := by omega
    have hki : (k : Int) < p.length := by omega
    have hP := pI_len p
    have g1 := pget p a hap
    have g2 := pget p k hkp
    have e1 := pset p a (p.getD k 0)
    have e2 := pset (p.set a (p.getD k 0)) k (p.getD a 0)
    have hP1 : (pI (p.set a (p.getD k 0))).length = p.length := by rw [pI_len, List.length_set]
    have hw3 := wrap64 (n := (a : Int) + 1) (by omega) (by omega)
    have ha1 : (a : Int) + 1 ≤ p.length := by omega
    have ha2 : a + 1 ≤ p.length := by omega
    have hk1 : k + 1 ≤ p.length := by omega
    have hn1 : ((a : Int) + 1).toNat = a + 1 := by omega
    have h0i : 0 ≤ (a : Int) + 1 := by omega
    have hneg : ¬ (a : Int) < 0 := by omega
    generalize hRV : rvF ((p.set a (p.getD k 0)).set k (p.getD a 0)) (a + 1) (p.length - (a + 1)) ((p.length - (a + 1)) / 2) = RV at *
    have kg := kg RV
    simp only [Option.getD_some, Option.isSome_some]
    simp only [Nx] at *
    generalize p.getD a 0 = x at *
    generalize p.getD k 0 = y at *
    generalize pI ((p.set a y).set k x) = A3 at *
    generalize pI (p.set a y) = A2 at *
    generalize pI RV = A4 at *
    generalize pI p = A1 at *
    simp -implicitDefEqProofs [c119, h0r, h0s, hw]
    rw [show loopN _ _ _ = _ from k1]
    simp -implicitDefEqProofs [h0r, h0s, hneg, hw1]
    rw [show loopN _ _ _ = _ from k2]
    simp -implicitDefEqProofs [h0r, h0s, hap, hkp, hai, hki, hP, g1, g2, e1, e2, hP1, hw3, ha1, ha2, hk1, hn1, h0i, k3, kg, -gc]
end Fw
