/- Sums of records: speeds, ways, squares. -/
import Derived.Test.YtbaedpfgjpkabaaGreatDoorChSu1
set_option maxHeartbeats 8000000
namespace Fw
open Go
attribute [local irreducible] evCode evOps evOpsD evOper evOperD evOp evFn loopN T.All T.bind callPure callOp opsK opsDK restK seqK blockK loopS setK setQ giveK scalK gcK finish finS rfunK yldK yldB loopK

/-- the sum of the first numbers -/
def pre (x : List Int) (i : Nat) : Int := sumN (fun i => x.getD i 0) i
def sumsL (x : List Int) (s : Int) : List Int := (List.range x.length).map fun i => s + pre x (i + 1)
@[simp] theorem sumsL_length (x : List Int) (s : Int) : (sumsL x s).length = x.length := by simp [sumsL]
theorem sumsL_get (x : List Int) (s : Int) (i : Nat) (hi : i < x.length) : (sumsL x s)[i]? = some (s + pre x (i + 1)) := by simp [sumsL, hi]
theorem pre_bound {x : List Int} {B : Int} (h : ∀ y ∈ x, (y.natAbs : Int) ≤ B) (i : Nat) (hi : i ≤ x.length) : ((pre x i).natAbs : Int) ≤ B * i := sumN_bound i fun j hj => by
  rw [List.getD_eq_getElem?_getD, List.getElem?_eq_getElem (by omega)]
  exact h _ (List.getElem_mem _)

section
variable {d : Nat}
/-- a number more, by reference -/
theorem add189 (x s : Int) (o : Obj) (hw : -9223372036854775808 ≤ s + x ∧ s + x ≤ 9223372036854775807) : evFn F C0 G0 (d + 1) (.fn 189) [iv x, .ptr 0 0 0] [(1, o), (0, .arr [.int .i64 s] 0 1)] = .ret (iv (s + x), [(1, o), (0, .arr [.int .i64 (s + x)] 0 1)]) := by
  rw [evFn_fn fe189]
  have w := wrap64 hw.1 hw.2
  simp -implicitDefEqProofs [c189, w]

theorem map188 (x : List Int) (s B : Int) (hx : ∀ y ∈ x, (y.natAbs : Int) ≤ B) (hB : B ≤ 1000000000000) (hs : -10000000000 ≤ s ∧ s ≤ 10000000000) (hl : x.length ≤ 4096) :
    evFn F C0 G0 (d + 2) (.fn 188) [isl x, .clo 189 [] [.ptr 0 0 0]] [(0, .arr [.int .i64 s] 0 1)] = .ret (.sl 1 x.length 0 x.length, [(1, .arr (pI (sumsL x s)) x.length 1), (0, .arr [.int .i64 (s + pre x x.length)] 0 1)]) := by
  rw [evFn_fn fe188]
  have hpre : ∀ i, i ≤ x.length → ((pre x i).natAbs : Int) ≤ 1000000000000 * 4096 := fun i hi => by
    have h1 := pre_bound hx i hi
    have h2 : B * (i : Int) ≤ 1000000000000 * i := Int.mul_le_mul_of_nonneg_right hB (by omega)
    omega
  let inv : Nat → St := fun i => ⟨[(1, .clo 189 [] [.ptr 0 0 0]), (5, .sl 1 i 0 i), (8, isl x), (9, iv x.length), (10, iv i)], [(1, .arr (pI ((sumsL x s).take i)) i 1), (0, .arr [.int .i64 (s + pre x i)] 0 1)]⟩
  have htake : (sumsL x s).take x.length = sumsL x s := List.take_of_length_le (by simp)
  have hz : s + pre x 0 = s := by simp [pre, sumN]
  simp -implicitDefEqProofs [c188]
  rw [loop_run inv x.length (e := .exit 0) (st' := ⟨(inv x.length).env ++ [(11, .p (.bool false))], (inv x.length).sto⟩) (by simp)]
  · simp -implicitDefEqProofs [inv, htake]
  · simp only [inv, hz]; rfl
  · intro i hi
    have hlim : i + 1 ≤ lim := by simp only [lim]; omega
    have wi := wrap_succ (i := i) (by omega)
    have hg : x.getD i 0 = x[i] := by simp [List.getD_eq_getElem?_getD, List.getElem?_eq_getElem hi]
    have hp : pre x (i + 1) = pre x i + x[i] := by simp only [pre, sumN, hg]
    have h1 := hpre (i + 1) (by omega)
    have hr : pI ((sumsL x s).take (i + 1)) = pI ((sumsL x s).take i) ++ [.int .i64 (s + pre x (i + 1))] := by
      rw [List.take_add_one, sumsL_get x s i hi, pI_snoc]; rfl
    have hm : min i (sumsL x s).length = i := by simp; omega
    rw [hp] at hr h1
    have hti : ((sumsL x s).take i).length = i := by simp; omega
    have k := add189 (d := d) x[i] (s + pre x i) (.arr (pI ((sumsL x s).take i)) i 1) (by omega)
    simp only [inv, hr, hp]
    generalize (sumsL x s).take i = R at *
    rw [← Int.add_assoc]
    generalize s + pre x i = t at *
    simp -implicitDefEqProofs [loopS_eq, c188L0, hi, k, hlim, hti, wi]
  · simp -implicitDefEqProofs [inv, loopS_eq, c188L0]
  · simp [loopFuel]; omega
end
theorem sums157 {n : Nat} (hn : 3 ≤ n) (x : List Int) (s B : Int) (hx : ∀ y ∈ x, (y.natAbs : Int) ≤ B) (hB : B ≤ 1000000000000) (hs : -10000000000 ≤ s ∧ s ≤ 10000000000) (hl : x.length ≤ 4096) : RUN n 157 [isl x, iv s] = .ret (.own (pI (sumsL x s)) x.length 1) := by
  obtain ⟨d, rfl⟩ : ∃ d, n = d + 3 := ⟨n - 3, by omega⟩
  rw [RUN, call_eq fe157 _ rfl]
  have k := map188 (d := d) x s B hx hB hs hl
  simp -implicitDefEqProofs [c157, k]

def stE (l : List Nat) (s : Int) : Int := firstE [smpsE l, rangeE (-999999999) 999999999 s]
theorem st_of {l : List Nat} {s : Int} (h : stE l s = 0) : (l.length ≤ 4096 ∧ SmpOk l) ∧ -999999999 ≤ s ∧ s ≤ 999999999 := by
  have := firstE_zero.1 h
  refine ⟨smps_of (this _ (by simp)), ?_⟩
  have b := this (rangeE (-999999999) 999999999 s) (by simp)
  simp only [rangeE] at b; split at b
  · cases b
  · omega
theorem start156 {n : Nat} (hn : 5 ≤ n) (l : List Nat) (hl : l.length < 1000000) (s : Int) : RUN n 156 [fsl l, iv s] = .ret (iv (stE l s)) := by
  obtain ⟨d, rfl⟩ : ∃ d, n = d + 5 := ⟨n - 5, by omega⟩
  rw [RUN, call_eq fe156 _ rfl]
  have k1 := samples122 (n := d + 4) (by omega) l hl
  have k2 := within111 (n := d + 4) (by omega) s (-999999999) 999999999
  have k3 := first103_2 (n := d + 4) (by omega) (smpsE l) (rangeE (-999999999) 999999999 s)
  have he : firstE [smpsE l, rangeE (-999999999) 999999999 s] = stE l s := rfl
  rw [he] at k3
  generalize stE l s = E at *
  simp -implicitDefEqProofs [c156, k1, k2, k3]
def spdL (l : List Nat) (s : Int) : List Int := sumsL (l.map smpN) s
@[simp] theorem spdL_length (l : List Nat) (s : Int) : (spdL l s).length = l.length := by simp [spdL]
theorem smp_abs {l : List Nat} (h : SmpOk l) : ∀ y ∈ l.map smpN, (y.natAbs : Int) ≤ 16384 := fun y hy => by
  obtain ⟨b, hb, rfl⟩ := List.mem_map.1 hy
  have := smpN_bound (h b hb); omega
theorem spd_abs {l : List Nat} {s : Int} (h : stE l s = 0) : ∀ y ∈ spdL l s, (y.natAbs : Int) ≤ 2000000000 := fun y hy => by
  obtain ⟨⟨a, b⟩, s0, s1⟩ := st_of h
  simp only [spdL, sumsL, List.mem_map, List.mem_range] at hy
  obtain ⟨i, hi, rfl⟩ := hy
  have := pre_bound (smp_abs b) (i + 1) (by omega)
  simp at hi
  omega
theorem speeds72 {n : Nat} (hn : 6 ≤ n) (l : List Nat) (hl : l.length < 1000000) (s : Int) : RUN n 72 [fsl l, iv s] = .ret (if stE l s = 0 then .tup [.p (.sl (pI (spdL l s)) l.length), iv 0] else .tup [.p (.sl [] 0), iv (stE l s)]) := by
  obtain ⟨d, rfl⟩ : ∃ d, n = d + 6 := ⟨n - 6, by omega⟩
  rw [RUN, call_eq fe72 _ rfl]
  have k1 := start156 (n := d + 5) (by omega) l hl s
  by_cases z : stE l s = 0
  · obtain ⟨⟨a, b⟩, s0, s1⟩ := st_of z
    have k2 := units115 (n := d + 5) (by omega) b hl
    have k3 := sums157 (n := d + 5) (by omega) (l.map smpN) s 16384 (smp_abs b) (by decide) (by omega) (by simpa using a)
    rw [isl, List.length_map] at k2 k3
    have e : sumsL (l.map smpN) s = spdL l s := rfl
    rw [e] at k3
    rw [if_pos z]
    generalize spdL l s = R at *
    simp -implicitDefEqProofs [c72, k1, z, k2, k3]
  · rw [if_neg z]
    generalize stE l s = E at *
    simp -implicitDefEqProofs [c72, k1, z]
def wayL (l : List Nat) (s : Int) : List Int := sumsL (spdL l s) 0
@[simp] theorem wayL_length (l : List Nat) (s : Int) : (wayL l s).length = l.length := by simp [wayL]
theorem ways73 {n : Nat} (hn : 6 ≤ n) (l : List Nat) (hl : l.length < 1000000) (s : Int) : RUN n 73 [fsl l, iv s] = .ret (if stE l s = 0 then .tup [.p (.sl (pI (wayL l s)) l.length), iv 0] else .tup [.p (.sl [] 0), iv (stE l s)]) := by
  obtain ⟨d, rfl⟩ : ∃ d, n = d + 6 := ⟨n - 6, by omega⟩
  rw [RUN, call_eq fe73 _ rfl]
  have k1 := start156 (n := d + 5) (by omega) l hl s
  by_cases z : stE l s = 0
  · obtain ⟨⟨a, b⟩, s0, s1⟩ := st_of z
    have k2 := units115 (n := d + 5) (by omega) b hl
    have k3 := sums157 (n := d + 5) (by omega) (l.map smpN) s 16384 (smp_abs b) (by decide) (by omega) (by simpa using a)
    have e : sumsL (l.map smpN) s = spdL l s := rfl
    rw [isl, List.length_map] at k2 k3
    rw [e] at k3
    have k4 := sums157 (n := d + 5) (by omega) (spdL l s) 0 2000000000 (spd_abs z) (by decide) (by omega) (by simpa using a)
    have e2 : sumsL (spdL l s) 0 = wayL l s := rfl
    rw [isl, spdL_length, e2] at k4
    rw [if_pos z]
    generalize wayL l s = W at *
    generalize spdL l s = R at *
    simp -implicitDefEqProofs [c73, k1, z, k2, k3, k4]
  · rw [if_neg z]
    generalize stE l s = E at *
    simp -implicitDefEqProofs [c73, k1, z]

/-! the reference's -/
theorem sum160 {n : Nat} (hn : 2 ≤ n) {l : List Nat} (h : SmpOk l) (hl : l.length ≤ 4096) (k : Nat) (hk : k ≤ l.length) : RUN n 160 [fsl l, .agg [iv 0, iv k]] = .ret (iv (pre (l.map smpN) k)) := by
  obtain ⟨d, rfl⟩ : ∃ d, n = d + 2 := ⟨n - 2, by omega⟩
  rw [RUN, call_eq fe160 _ rfl]
  let inv : Nat → St := fun i => ⟨[(0, fsl l), (3, .ptr 0 0 0), (5, iv (pre (l.map smpN) i)), (6, iv i)], [(0, .arr [.int .i64 0, .int .i64 k] 0 1)]⟩
  simp -implicitDefEqProofs [c160]
  rw [loop_run inv k (e := .exit 0) (st' := ⟨(inv k).env ++ [(12, .p (.bool false))], (inv k).sto⟩) (by simp)]
  · simp -implicitDefEqProofs [inv]
  · rfl
  · intro i hi
    have hi2 : i < l.length := by omega
    have wi := wrap_succ (i := i) (by omega)
    have ku := sixteen85 (n := d + 1) (by omega) (h l[i] (List.getElem_mem hi2))
    have hp : pre (l.map smpN) (i + 1) = pre (l.map smpN) i + smpN l[i] := by simp only [pre, sumN]; rw [smpN_get i hi2]
    have hb := pre_bound (smp_abs h) (i + 1) (by simp; omega)
    rw [hp] at hb
    simp only [inv, hp]
    generalize smpN l[i] = x at *
    generalize pre (l.map smpN) i = s at *
    have w1 := wrap64 (n := s + x) (by omega) (by omega)
    simp -implicitDefEqProofs [loopS_eq, c160L0, hi, hi2, wi, ku, w1]
  · simp -implicitDefEqProofs [inv, loopS_eq, c160L0]
  · simp [loopFuel]; omega
theorem speeds80 {n : Nat} (hn : 3 ≤ n) {l : List Nat} {s : Int} (z : stE l s = 0) : RUN n 80 [fsl l, iv s] = .ret (.own (pI (spdL l s)) l.length 1) := by
  obtain ⟨d, rfl⟩ : ∃ d, n = d + 3 := ⟨n - 3, by omega⟩
  rw [RUN, call_eq fe80 _ rfl]
  obtain ⟨⟨a, b⟩, s0, s1⟩ := st_of z
  let inv : Nat → St := fun i => ⟨[(0, fsl l), (1, iv s), (5, .sl 0 i 0 i), (6, iv i)], [(0, .arr (pI ((spdL l s).take i)) i 1)]⟩
  have htake : (spdL l s).take l.length = spdL l s := List.take_of_length_le (by simp)
  simp -implicitDefEqProofs [c80]
  rw [loop_run inv l.length (e := .exit 0) (st' := ⟨(inv l.length).env ++ [(10, .p (.bool false))], (inv l.length).sto⟩) (by simp)]
  · simp -implicitDefEqProofs [inv, htake]
  · rfl
  · intro i hi
    have hlim : i + 1 ≤ lim := by simp only [lim]; omega
    have wi := wrap_succ (i := i) (by omega)
    have k := sum160 (n := d + 2) (by omega) b a (i + 1) (by omega)
    rw [show ((i + 1 : Nat) : Int) = (i : Int) + 1 by omega] at k
    have hb := pre_bound (smp_abs b) (i + 1) (by simp; omega)
    have w1 := wrap64 (n := s + pre (l.map smpN) (i + 1)) (by omega) (by omega)
    have hr : pI ((spdL l s).take (i + 1)) = pI ((spdL l s).take i) ++ [.int .i64 (s + pre (l.map smpN) (i + 1))] := by
      rw [List.take_add_one, spdL, sumsL_get _ _ i (by simpa using hi), pI_snoc]; rfl
    have hti : ((spdL l s).take i).length = i := by simp; omega
    simp only [inv, hr]
    generalize (spdL l s).take i = R at *
    generalize pre (l.map smpN) (i + 1) = p at *
    simp -implicitDefEqProofs [loopS_eq, c80L0, hi, wi, k, w1, hlim, hti]
  · simp -implicitDefEqProofs [inv, loopS_eq, c80L0]
  · simp [loopFuel]; omega
theorem ways81 {n : Nat} (hn : 4 ≤ n) {l : List Nat} {s : Int} (z : stE l s = 0) : RUN n 81 [fsl l, iv s] = .ret (.own (pI (wayL l s)) l.length 1) := by
  obtain ⟨d, rfl⟩ : ∃ d, n = d + 4 := ⟨n - 4, by omega⟩
  rw [RUN, call_eq fe81 _ rfl]
  obtain ⟨⟨a, b⟩, s0, s1⟩ := st_of z
  have k80 := speeds80 (n := d + 3) (by omega) z
  have hab := spd_abs z
  have hx : (spdL l s).length = l.length := by simp
  have hw : wayL l s = sumsL (spdL l s) 0 := rfl
  have hwl : (wayL l s).length = l.length := by simp
  have htake : (wayL l s).take l.length = wayL l s := List.take_of_length_le (by simp)
  have hget : ∀ i, i < l.length → (wayL l s)[i]? = some (pre (spdL l s) (i + 1)) := fun i hi => by rw [hw, sumsL_get _ _ i (by omega), Int.zero_add]
  generalize wayL l s = W at *
  generalize spdL l s = X at *
  let inv : Nat → St := fun i => ⟨[(5, .sl 0 i 0 i), (6, iv (pre X i)), (7, .p (.sl (pI X) l.length)), (8, iv i)], [(0, .arr (pI (W.take i)) i 1)]⟩
  simp -implicitDefEqProofs [c81, k80]
  rw [loop_run inv l.length (e := .exit 0) (st' := ⟨(inv l.length).env ++ [(15, .p (.bool false))], (inv l.length).sto⟩) (by simp)]
  · simp -implicitDefEqProofs [inv, htake, hwl]
  · rfl
  · intro i hi
    have hi2 : i < X.length := by omega
    have hlim : i + 1 ≤ lim := by simp only [lim]; omega
    have wi := wrap_succ (i := i) (by omega)
    have hg : X.getD i 0 = X[i] := by simp [List.getD_eq_getElem?_getD, List.getElem?_eq_getElem hi2]
    have hp : pre X (i + 1) = pre X i + X[i] := by simp only [pre, sumN, hg]
    have hb := pre_bound hab (i + 1) (by omega)
    have hr : pI (W.take (i + 1)) = pI (W.take i) ++ [.int .i64 (pre X (i + 1))] := by
      rw [List.take_add_one, hget i hi, pI_snoc]; rfl
    have hti : (W.take i).length = i := by simp; omega
    rw [hp] at hb hr
    have w1 := wrap64 (n := pre X i + X[i]) (by omega) (by omega)
    simp only [inv, hr, hp]
    generalize W.take i = R at *
    generalize pre X i = p at *
    simp -implicitDefEqProofs [loopS_eq, c81L0, hi, hi2, wi, w1, hlim, hti]
  · simp -implicitDefEqProofs [inv, loopS_eq, c81L0]
  · simp [loopFuel]; omega
end Fw
