/- Sums of records: speeds, ways, squares. -/
import Derived.Test.YtbaedpfgjpkabaaGreatDoorChSu1
set_option maxHeartbeats 8000000
namespace Fw
open Go
attribute [local irreducible] evCode evOps evOpsD evOper evOperD evOp evFn loopN T.All T.bind callPure callOp opsK opsDK restK seqK blockK loopS setK setQ giveK scalK gcK finish finS rfunK yldK yldB loopK

/-- the sum of the first numbers -/
def pre (x : List Int) (i : Nat) : Int := sumN (fun i => x.getD i 0) i
def sumsL (x : List Int) (s : Int) : List Int := (List.range x.length).map fun i => s + pre x (i + 1)
@[simp] theorem sumsL_length (x : List Int) (s : Int) : (sumsL x s).length = x.length := by simp [sumsL]
theorem sumsL_get (x : List Int) (s : Int) (i : Nat) (hi : i < x.length) : (sumsL x s)[i]? = some (s + pre x (i + 1)) := by simp [sumsL, hi]
theorem pre_bound {x : List Int} {B : Int} (h : ∀ y ∈ x, (y.natAbs : Int) ≤ B) (i : Nat) (hi : i ≤ x.length) : ((pre x i).natAbs : Int) ≤ B * i := sumN_bound i fun j hj => by
  rw [List.getD_eq_getElem?_getD, List.getElem?_eq_getElem (by omega)]
  exact h _ (List.getElem_mem _)

section
variable {d : Nat}
/-- a number more, by reference -/
theorem add189 (x s : Int) (o : Obj) (hw : -9223372036854775808 ≤ s + x ∧ s + x ≤ 9223372036854775807) : evFn F C0 G0 (d + 1) (.fn 189) [iv x, .ptr 0 0 0] [(1, o), (0, .arr [.int .i64 s] 0 1)] = .ret (iv (s + x), [(1, o), (0, .arr [.int .i64 (s + x)] 0 1)]) := by
  rw [evFn_fn fe189]
  have w := wrap64 hw.1 hw.2
  simp -implicitDefEqProofs [c189, w]

theorem map188 (x : List Int) (s B : Int) (hx : ∀ y ∈ x, (y.natAbs : Int) ≤ B) (hB : B ≤ 1000000000000) (hs : -10000000000 ≤ s ∧ s ≤ 10000000000) (hl : x.length ≤ 4096) :
    evFn F C0 G0 (d + 2) (.fn 188) [isl x, .clo 189 [] [.ptr 0 0 0]] [(0, .arr [.int .i64 s] 0 1)] = .ret (.sl 1 x.length 0 x.length, [(1, .arr (pI (sumsL x s)) x.length 1), (0, .arr [.int .i64 (s + pre x x.length)] 0 1)]) := by
  rw [evFn_fn fe188]
  have hpre : ∀ i, i ≤ x.length → ((pre x i).natAbs : Int) ≤ 1000000000000 * 4096 := fun i hi => by
    have h1 := pre_bound hx i hi
    have h2 : B * (i : Int) ≤ 1000000000000 * i := Int.mul_le_mul_of_nonneg_right hB (by omega)
    omega
  let inv : Nat → St := fun i => ⟨[(1, .clo 189 [] [.ptr 0 0 0]), (5, .sl 1 i 0 i), (8, isl x), (9, iv x.length), (10, iv i)], [(1, .arr (pI ((sumsL x s).take i)) i 1), (0, .arr [.int .i64 (s + pre x i)] 0 1)]⟩
  have htake : (sumsL x s).take x.length = sumsL x s := List.take_of_length_le (by simp)
  have hz : s + pre x 0 = s := by simp [pre, sumN]
  simp -implicitDefEqProofs [c188]
  rw [loop_run inv x.length (e := .exit 0) (st' := ⟨(inv x.length).env ++ [(11, .p (.bool false))], (inv x.length).sto⟩) (by simp)]
  · simp -implicitDefEqProofs [inv, htake]
  · simp only [inv, hz]; rfl
  · intro i hi
    have hlim : i + 1 ≤ lim := by simp only [lim]; omega
    have wi := wrap_succ (i := i) (by omega)
    have hg : x.getD i 0 = x[i] := by simp [List.getD_eq_getElem?_getD, List.getElem?_eq_getElem hi]
    have hp : pre x (i + 1) = pre x i + x[i] := by simp only [pre, sumN, hg]
    have h1 := hpre (i + 1) (by omega)
    have hr : pI ((sumsL x s).take (i + 1)) = pI ((sumsL x s).take i) ++ [.int .i64 (s + pre x (i + 1))] := by
      rw [List.take_add_one, sumsL_get x s i hi, pI_snoc]; rfl
    have hm : min i (sumsL x s).length = i := by simp; omega
    rw [hp] at hr h1
    have hti : ((sumsL x s).take i).length = i := by simp; omega
    have k := add189 (d := d) x[i] (s + pre x i) (.arr (pI ((sumsL x s).take i)) i 1) (by omega)
    simp only [inv, hr, hp]
    generalize (sumsL x s).take i = R at *
    rw [← Int.add_assoc]
    generalize s + pre x i = t at *
    simp -implicitDefEqProofs [loopS_eq, c188L0, hi, k, hlim, hti, wi]
  · simp -implicitDefEqProofs [inv, loopS_eq, c188L0]
  · simp [loopFuel]; omega
end
theorem sums157 {n : Nat} (hn : 3 ≤ n) (x : List Int) (s B : Int) (hx : ∀ y ∈ x, (y.natAbs : Int) ≤ B) (hB : B ≤ 1000000000000) (hs : -10000000000 ≤ s ∧ s ≤ 10000000000) (hl : x.length ≤ 4096) : RUN n 157 [isl x, iv s] = .ret (.own (pI (sumsL x s)) x.length 1) := by
  obtain ⟨d, rfl⟩ : ∃ d, n = d + 3 := ⟨n - 3, by omega⟩
  rw [RUN, call_eq fe157 _ rfl]
  have k := map188 (d := d) x s B hx hB hs hl
  simp -implicitDefEqProofs [c157, k]

def stE (l : List Nat) (s : Int) : Int := firstE [smpsE l, rangeE (-999999999) 999999999 s]
theorem st_of {l : List Nat} {s : Int} (h : stE l s = 0) : (l.length ≤ 4096 ∧ SmpOk l) ∧ -999999999 ≤ s ∧ s ≤ 999999999 := by
  have := firstE_zero.1 h
  refine ⟨smps_of (this _ (by simp)), ?_⟩
  have b := this (rangeE (-999999999) 999999999 s) (by simp)
  simp only [rangeE] at b; split at b
  · cases b
  · omega
theorem start156 {n : Nat} (hn : 5 ≤ n) (l : List Nat) (hl : l.length < 1000000) (s : Int) : RUN n 156 [fsl l, iv s] = .ret (iv (stE l s)) := by
  obtain ⟨d, rfl⟩ : ∃ d, n = d + 5 := ⟨n - 5, by omega⟩
  rw [RUN, call_eq fe156 _ rfl]
  have k1 := samples122 (n := d + 4) (by omega) l hl
  have k2 := within111 (n := d + 4) (by omega) s (-999999999) 999999999
  have k3 := first103_2 (n := d + 4) (by omega) (smpsE l) (rangeE (-999999999) 999999999 s)
  have he : firstE [smpsE l, rangeE (-999999999) 999999999 s] = stE l s := rfl
  rw [he] at k3
  generalize stE l s = E at *
  simp -implicitDefEqProofs [c156, k1, k2, k3]
def spdL (l : List Nat) (s : Int) : List Int := sumsL (l.map smpN) s
@[simp] theorem spdL_length (l : List Nat) (s : Int) : (spdL l s).length = l.length := by simp [spdL]
theorem smp_abs {l : List Nat} (h : SmpOk l) : ∀ y ∈ l.map smpN, (y.natAbs : Int) ≤ 16384 := fun y hy => by
  obtain ⟨b, hb, rfl⟩ := List.mem_map.1 hy
  have := smpN_bound (h b hb); omega
theorem spd_abs {l : List Nat} {s : Int} (h : stE l s = 0) : ∀ y ∈ spdL l s, (y.natAbs : Int) ≤ 2000000000 := fun y hy => by
  obtain ⟨⟨a, b⟩, s0, s1⟩ := st_of h
  simp only [spdL, sumsL, List.mem_map, List.mem_range] at hy
  obtain ⟨i, hi, rfl⟩ := hy
  have := pre_bound (smp_abs b) (i + 1) (by omega)
  simp at hi
  omega
theorem speeds72 {n : Nat} (hn : 6 ≤ n) (l : List Nat) (hl : l.length < 1000000) (s : Int) : RUN n 72 [fsl l, iv s] = .ret (if stE l s = 0 then .tup [.p (.sl (pI (spdL l s)) l.length), iv 0] else .tup [.p (.sl [] 0), iv (stE l s)]) := by
  obtain ⟨d, rfl⟩ : ∃ d, n = d + 6 := ⟨n - 6, by omega⟩
  rw [RUN, call_eq fe72 _ rfl]
  have k1 := start156 (n := d + 5) (by omega) l hl s
  by_cases z : stE l s = 0
  · obtain ⟨⟨a, b⟩, s0, s1⟩ := st_of z
    have k2 := units115 (n := d + 5) (by omega) b hl
    have k3 := sums157 (n := d + 5) (by omega) (l.map smpN) s 16384 (smp_abs b) (by decide) (by omega) (by simpa using a)
    rw [isl, List.length_map] at k2 k3
    have e : sumsL (l.map smpN) s = spdL l s := rfl
    rw [e] at k3
    rw [if_pos z]
    generalize spdL l s = R at *
    simp -implicitDefEqProofs [c72, k1, z, k2, k3]
  · rw [if_neg z]
    generalize stE l s = E at *
    simp -implicitDefEqProofs [c72, k1, z]
def wayL (l : List Nat) (s : Int) : List Int := sumsL (spdL l s) 0
@[simp] theorem wayL_length (l : List Nat) (s : Int) : (wayL l s).length = l.length := by simp [wayL]
theorem ways73 {n : Nat} (hn : 6 ≤ n) (l : List Nat) (hl : l.length < 1000000) (s : Int) : RUN n 73 [fsl l, iv s] = .ret (if stE l s = 0 then .tup [.p (.sl (pI (wayL l s)) l.length), iv 0] else .tup [.p (.sl [] 0), iv (stE l s)]) := by
  obtain ⟨d, rfl⟩ : ∃ d, n = d + 6 := ⟨n - 6, by omega⟩
  rw [RUN, call_eq fe73 _ rfl]
  have k1 := start156 (n := d + 5) (by omega) l hl s
  by_cases z : stE l s = 0
  · obtain ⟨⟨a, b⟩, s0, s1⟩ := st_of z
    have k2 := units115 (n := d + 5) (by omega) b hl
    have k3 := sums157 (n := d + 5) (by omega) (l.map smpN) s 16384 (smp_abs b) (by decide) (by omega) (by simpa using a)
    have e : sumsL (l.map smpN) s = spdL l s := rfl
    rw [isl, List.length_map] at k2 k3
    rw [e] at k3
    have k4 := sums157 (n := d + 5) (by omega) (spdL l s) 0 2000000000 (spd_abs z) (by decide) (by omega) (by simpa using a)
    have e2 : sumsL (spdL l s) 0 = wayL l s := rfl
    rw [isl, spdL_length, e2] at k4
    rw [if_pos z]
    generalize wayL l s = W at *
    generalize spdL l s = R at *
    simp -implicitDefEqProofs [c73, k1, z, k2, k3, k4]
  · rw [if_neg z]
    generalize stE l s = E at *
    simp -implicitDefEqProofs [c73, k1, z]

/-! the reference's -/
end Fw
