/- What a kernel encloses: the chapter's and the reference's. -/
import Derived.Test.YtbaedpfgjpkabaaGreatDoorChN2
set_option maxHeartbeats 16000000
namespace Fw
open Go
attribute [local irreducible] evCode evOps evOpsD evOper evOperD evOp evFn loopN T.All T.bind callPure callOp opsK opsDK restK seqK blockK loopS setK setQ giveK scalK gcK finish finS rfunK yldK yldB loopK

def lowF (l : List (Int × Int)) (A : List Int) (i : Nat) : Int := sumN (fun i => min (A.getD i 0 * (l.getD i (0, 0)).1) (A.getD i 0 * (l.getD i (0, 0)).2)) i
def highF (l : List (Int × Int)) (A : List Int) (i : Nat) : Int := sumN (fun i => max (A.getD i 0 * (l.getD i (0, 0)).1) (A.getD i 0 * (l.getD i (0, 0)).2)) i

theorem lh_bound {l : List (Int × Int)} (h : IvOk l) {A : List Int} (hA : bnd A 10000000) (i : Nat) (hi : i < l.length) :
    ((A.getD i 0 * (l.getD i (0, 0)).1).natAbs : Int) ≤ 2000000000000 ∧ ((A.getD i 0 * (l.getD i (0, 0)).2).natAbs : Int) ≤ 2000000000000 := by
  obtain ⟨hk, hg, b1, b2, b3⟩ := iv_get h (k := i) (by omega) (by omega)
  simp only [Int.toNat_natCast] at hk hg b1 b2 b3
  rw [hg]
  have := hA i
  exact ⟨mul_abs (A := 10000000) (B := 200000) this (by omega), mul_abs (A := 10000000) (B := 200000) this (by omega)⟩
theorem lowF_bound {l : List (Int × Int)} (h : IvOk l) {A : List Int} (hA : bnd A 10000000) (i : Nat) (hi : i ≤ l.length) : ((lowF l A i).natAbs : Int) ≤ 2000000000000 * i ∧ ((highF l A i).natAbs : Int) ≤ 2000000000000 * i := by
  refine ⟨sumN_bound i fun j hj => ?_, sumN_bound i fun j hj => ?_⟩
  · obtain ⟨a, b⟩ := lh_bound h hA j (by omega)
    omega
  · obtain ⟨a, b⟩ := lh_bound h hA j (by omega)
    omega

theorem upQ_ge {x y D : Int} (hD : 0 < D) (h : x ≤ y) : x / D ≤ upQ y D := by
  have h1 : x / D ≤ y / D := Int.ediv_le_ediv hD h
  have h2 := Int.mul_ediv_add_emod y D
  have h3 := Int.mul_ediv_add_emod (-y) D
  have h4 := Int.emod_nonneg y (show D ≠ 0 by omega)
  have h5 := Int.emod_nonneg (-y) (show D ≠ 0 by omega)
  have h6 := Int.emod_lt_of_pos y hD
  have h7 := Int.emod_lt_of_pos (-y) hD
  have h8 : y / D ≤ -((-y) / D) := by
    have h9 : D * (y / D + (-y) / D) ≤ 0 := by rw [Int.mul_add]; omega
    have h10 : y / D + (-y) / D ≤ 0 := by
      refine Int.not_lt.1 fun hc => ?_
      have : 0 < D * (y / D + (-y) / D) := Int.mul_pos hD hc
      omega
    omega
  simp only [upQ]; omega

theorem ivX_large {x : Int × Int} (h : x.1 ≤ x.2) : ivX x = if encB x = true then 3 else 0 := by
  simp only [ivX, ivE, firstE, rangeE, whenE, encB]
  by_cases a : x.1 < -200000
  · simp [a]
  · by_cases b : 200000 < x.2
    · have : ¬ x.2 < x.1 := by omega
      by_cases c : 200000 < x.1 <;> simp [a, b, c]
    · have c : ¬ 200000 < x.1 := by omega
      have e : ¬ x.2 < -200000 := by omega
      have f : ¬ x.2 < x.1 := by omega
      simp [a, b, c, e, f]

section
variable {d : Nat}

/-- one round: how much each interval weighs -/
theorem all_loop (l : List (Int × Int)) (hl0 : 0 < l.length) (hl : l.length < 1000000) {k : List Int} (hk : KerOk k) (D : Int) (outs : List PVal) (v at' : Nat) (ha : at' < l.length) (fuel : Nat) (hf : 2 * k.length - 1 < fuel) :
    loopN (loopS (evFn F C0 G0 (d + 1)) C0 G0 0 false [0, 1, 6, 7, 8, 9, 10, 11] c54L0) fuel ⟨[(0, csl l), (1, isl k), (6, .p (.sl (pI (refW k)) (2 * k.length - 1))), (7, iv D), (8, .sl 0 v 0 v), (9, iv at'), (10, .sl 1 0 0 l.length), (11, iv 0)], [(1, .arr (List.replicate l.length (.int .i64 0)) 0 1), (0, .arr outs v 2)]⟩ =
    .ret (.exit 2, ⟨[(0, csl l), (1, isl k), (6, .p (.sl (pI (refW k)) (2 * k.length - 1))), (7, iv D), (8, .sl 0 v 0 v), (9, iv at'), (10, .sl 1 0 0 l.length), (11, iv (2 * k.length - 1 : Nat)), (34, .p (.bool false))], [(1, .arr (pI (aI (refW k) k.length l.length at' (2 * k.length - 1))) 0 1), (0, .arr outs v 2)]⟩) := by
  let inv : Nat → St := fun i => ⟨[(0, csl l), (1, isl k), (6, .p (.sl (pI (refW k)) (2 * k.length - 1))), (7, iv D), (8, .sl 0 v 0 v), (9, iv at'), (10, .sl 1 0 0 l.length), (11, iv i)], [(1, .arr (pI (aI (refW k) k.length l.length at' i)) 0 1), (0, .arr outs v 2)]⟩
  have hk7 := hk.2.1
  have hrl : (refW k).length = 2 * k.length - 1 := rI_length k k.length
  have hz : pI (List.replicate l.length 0) = List.replicate l.length (.int .i64 0) := by simp [pI]
  refine loop_run inv (2 * k.length - 1) (by simp) (by simp only [inv, aI, hz]; rfl) ?_ ?_ hf
  · intro i hi
    have w1 := wrap64 (n := (at' : Int) + i) (by omega) (by omega)
    have w2 := wrap64 (n := (at' : Int) + i - k.length) (by omega) (by omega)
    have w3 := wrap64 (n := (at' : Int) + i - k.length + 1) (by omega) (by omega)
    have wi := wrap_succ (i := i) (by omega)
    have k1 := at128 (n := d + 1) (by omega) ((at' : Int) + i - k.length + 1) l.length (by omega) (by omega)
    have hin := atI_in ((at' : Int) + i - k.length + 1) hl0
    have hb := aI_bnd hk at' hl0 i (atI ((at' : Int) + i - k.length + 1) l.length).toNat
    have hw := rI_bnd hk.2.2.1 hk.2.1 k.length (Nat.le_refl _) i
    have hir : i < (refW k).length := by omega
    have hgw : (refW k)[i] = (refW k).getD i 0 := by
      rw [List.getD_eq_getElem?_getD, List.getElem?_eq_getElem hir]; rfl
    have hadd : aI (refW k) k.length l.length at' (i + 1) = bump (aI (refW k) k.length l.length at' i) (atI ((at' : Int) + i - k.length + 1) l.length).toNat ((refW k).getD i 0) := rfl
    have hlen := aI_length (refW k) k.length l.length at' i
    have hwd : rI k k.length = refW k := rfl
    rw [hwd] at hw
    simp only [inv, hadd]
    generalize (refW k).getD i 0 = x at *
    generalize aI (refW k) k.length l.length at' i = A at *
    generalize hp : atI ((at' : Int) + i - k.length + 1) l.length = p at *
    have p0 := hin.1
    have p1 := hin.2
    have p2 : p.toNat < l.length := by omega
    have p3 : p.toNat < A.length := by omega
    have p4 : p.toNat + 1 ≤ l.length := by omega
    have hgm : A[p.toNat] = A.getD p.toNat 0 := by
      rw [List.getD_eq_getElem?_getD, List.getElem?_eq_getElem p3]; rfl
    have hset : bump A p.toNat x = A.set p.toNat (A.getD p.toNat 0 + x) := rfl
    rw [hset]
    generalize A.getD p.toNat 0 = z at *
    have wz := wrap64 (n := z + x) (by omega) (by omega)
    simp -implicitDefEqProofs [loopS_eq, c54L0, hi, w1, w2, w3, wi, k1, p0, p1, p2, p4, hgw, hgm, hlen, hrl, wz, pI_set]
  · simp -implicitDefEqProofs [inv, loopS_eq, c54L0]

theorem both_loop (l : List (Int × Int)) (hl : l.length ≤ 4096) (hiv : IvOk l) {A : List Int} (hA : bnd A 10000000) (hAl : A.length = l.length) (K W : AVal) (D : Int) (o0 : Obj) (v at' : Nat) (fuel : Nat) (hf : l.length < fuel) :
    loopN (loopS (evFn F C0 G0 (d + 1)) C0 G0 0 false [0, 1, 6, 7, 8, 9, 10, 13, 14, 15] c54L1) fuel ⟨[(0, csl l), (1, K), (6, W), (7, iv D), (8, .sl 0 v 0 v), (9, iv at'), (10, .sl 1 0 0 l.length), (13, iv 0), (14, iv 0), (15, iv 0)], [(1, .arr (pI A) 0 1), (0, o0)]⟩ =
    .ret (.exit 4, ⟨[(0, csl l), (1, K), (6, W), (7, iv D), (8, .sl 0 v 0 v), (9, iv at'), (10, .sl 1 0 0 l.length), (13, iv (lowF l A l.length)), (14, iv (highF l A l.length)), (15, iv l.length), (62, .p (.bool false))], [(1, .arr (pI A) 0 1), (0, o0)]⟩) := by
  let inv : Nat → St := fun i => ⟨[(0, csl l), (1, K), (6, W), (7, iv D), (8, .sl 0 v 0 v), (9, iv at'), (10, .sl 1 0 0 l.length), (13, iv (lowF l A i)), (14, iv (highF l A i)), (15, iv i)], [(1, .arr (pI A) 0 1), (0, o0)]⟩
  refine loop_run inv l.length (by simp) rfl ?_ ?_ hf
  · intro i hi
    have wi := wrap_succ (i := i) (by omega)
    have hlt : i * 2 < l.length * 2 := by omega
    have hdr := cI_drop l i hi
    obtain ⟨b1, b2⟩ := lh_bound hiv hA i hi
    obtain ⟨c1, c2⟩ := lowF_bound hiv hA i (by omega)
    have hgl : l.getD i (0, 0) = l[i] := by simp [List.getD_eq_getElem?_getD, List.getElem?_eq_getElem hi]
    have hi' : i < A.length := by omega
    have hgm : A[i] = A.getD i 0 := by
      rw [List.getD_eq_getElem?_getD, List.getElem?_eq_getElem hi']; rfl
    have s1 : lowF l A (i + 1) = lowF l A i + min (A.getD i 0 * l[i].1) (A.getD i 0 * l[i].2) := by simp only [lowF, sumN, hgl]
    have s2 : highF l A (i + 1) = highF l A i + max (A.getD i 0 * l[i].1) (A.getD i 0 * l[i].2) := by simp only [highF, sumN, hgl]
    rw [hgl] at b1 b2
    simp only [inv, s1, s2]
    generalize A.getD i 0 = a at *
    generalize lowF l A i = p at *
    generalize highF l A i = q at *
    have w1 := wrap64 (n := a * l[i].1) (by omega) (by omega)
    have w2 := wrap64 (n := a * l[i].2) (by omega) (by omega)
    generalize hx : a * l[i].1 = x at *
    generalize hy : a * l[i].2 = y at *
    have w3 := wrap64 (n := p + min x y) (by omega) (by omega)
    have w4 := wrap64 (n := q + max x y) (by omega) (by omega)
    simp -implicitDefEqProofs [loopS_eq, c54L1, hi, hAl, hlt, hdr, hgm, hx, hy, w1, w2, w3, w4, wi, min2, max2]
  · simp -implicitDefEqProofs [inv, loopS_eq, c54L1]
end

theorem low_eq {l : List (Int × Int)} {k : List Int} (hk : KerOk k) (at' : Nat) (h : 0 < l.length) : lowF l (aI (refW k) k.length l.length at' (2 * k.length - 1)) l.length = loS l (weightsL k) at' ∧ highF l (aI (refW k) k.length l.length at' (2 * k.length - 1)) l.length = hiS l (weightsL k) at' := by
  refine ⟨sumN_congr _ fun i _ => ?_, sumN_congr _ fun i _ => ?_⟩
  · rw [aI_tot hk at' h i, fLo, Int.toNat_natCast, Int.mul_comm, Int.mul_comm (totW _ _ _ _) (l.getD i (0, 0)).2]
  · rw [aI_tot hk at' h i, fHi, Int.toNat_natCast, Int.mul_comm, Int.mul_comm (totW _ _ _ _) (l.getD i (0, 0)).2]

theorem lo_hi (l es : List (Int × Int)) (at' : Nat) : loS l es at' ≤ hiS l es at' := by
  simp only [loS, hiS]
  have : ∀ n, sumN (fun i => fLo l i (totW es at' l.length i)) n ≤ sumN (fun i => fHi l i (totW es at' l.length i)) n := by
    intro n
    induction n with
    | zero => exact Int.le_refl _
    | succ n ih =>
      have : fLo l n (totW es at' l.length n) ≤ fHi l n (totW es at' l.length n) := by simp only [fLo, fHi]; omega
      simp only [sumN]; omega
  exact this _

def allB (o : List (Int × Int)) : Bool := o.any encB
theorem anyE (o : List (Int × Int)) : firstE (o.map fun x => if encB x = true then 3 else 0) = if o.any encB = true then 3 else 0 := by
  induction o with
  | nil => rfl
  | cons x r ih =>
    simp only [List.map_cons, firstE, List.any_cons, ih]
    by_cases h : encB x = true
    · simp only [h, if_true, Bool.true_or]; rfl
    · rw [Bool.not_eq_true] at h
      simp only [h, Bool.false_or]; rfl

theorem enclosed54 {n : Nat} (hn : 7 ≤ n) {l : List (Int × Int)} {k : List Int} (h0 : 0 < l.length) (h1 : l.length ≤ 4096) (hiv : IvOk l) (hk : KerOk k) :
    RUN n 54 [csl l, isl k] = .ret (if (encAll l k).any encB = true then .tup [.p (.sl [] 0), iv 4] else .tup [.own (cI (encAll l k)) l.length 2, iv 0]) := by
  obtain ⟨d, rfl⟩ : ∃ d, n = d + 7 := ⟨n - 7, by omega⟩
  rw [RUN, call_eq fe54 _ rfl]
  have k46 := weights46 (n := d + 6) (by omega) hk
  have hk7 := hk.2.1
  have hlen : (encAll l k).length = l.length := by simp [encAll]
  have hs0 := hk.2.2.2
  have hD : 0 < sumI k * sumI k := Int.mul_pos hs0 hs0
  have hout : ∀ i (hi : i < l.length), (encAll l k)[i]? = some (loS l (weightsL k) i / (sumI k * sumI k), upQ (hiS l (weightsL k) i) (sumI k * sumI k)) := fun i hi => by simp [encAll, encO, hi]
  generalize hAll : encAll l k = outs at *
  generalize hDD : sumI k * sumI k = D at *
  let inv : Nat → St := fun i => ⟨[(0, csl l), (1, isl k), (6, .p (.sl (pI (refW k)) (2 * k.length - 1))), (7, iv D), (8, .sl 0 i 0 i), (9, iv i)], [(0, .arr (cI (outs.take i)) i 2)]⟩
  have hle : l.length = (outs.map fun x => if encB x = true then (3 : Int) else 0).length := by simp [hlen]
  have hlim : l.length ≤ lim := by simp only [lim]; omega
  simp -implicitDefEqProofs [c54, k46]
  obtain ⟨r, hr, hz, hnz⟩ := loop_errsQ (step := loopS (evFn F C0 G0 (d + 6)) C0 G0 0 true [0, 1, 6, 7, 8, 9] c54L2) inv (outs.map fun x => if encB x = true then 3 else 0) (.exit 0, ⟨(inv l.length).env ++ [(25, .p (.bool false))], (inv l.length).sto⟩) (fun _ r => ∃ s, r = (.ret, ⟨[(4, .p .nils), (5, iv 4)], s⟩)) (st0 := inv 0) rfl (fun i hi => by
    simp only [List.length_map, hlen] at hi
    have hA := aI_bnd hk i h0 (2 * k.length - 1)
    have hA2 : bnd (aI (refW k) k.length l.length i (2 * k.length - 1)) 10000000 := fun q => by have := hA q; omega
    have hla := all_loop (d := d + 5) l h0 (by omega) hk D (cI (outs.take i)) i i hi loopFuel (by simp only [loopFuel]; omega)
    have hlb := both_loop (d := d + 5) l h1 hiv hA2 (by simp) (isl k) (.p (.sl (pI (refW k)) (2 * k.length - 1))) D (.arr (cI (outs.take i)) i 2) i i loopFuel (by simp only [loopFuel]; omega)
    obtain ⟨e1, e2⟩ := low_eq hk i h0
    obtain ⟨b1, b2⟩ := lowF_bound hiv hA2 l.length (Nat.le_refl _)
    rw [e1, e2] at hlb
    rw [e1] at b1
    rw [e2] at b2
    have hlh := lo_hi l (weightsL k) i
    have kf := floor119g (n := d + 6) (by omega) (loS l (weightsL k) i) D hD (by omega) (by omega)
    have kc := ceil120g (n := d + 6) (by omega) (hiS l (weightsL k) i) D hD (by omega) (by omega)
    have ho := hout i hi
    have hge := upQ_ge hD hlh
    generalize aI (refW k) k.length l.length i (2 * k.length - 1) = A at *
    generalize loS l (weightsL k) i = lo at *
    generalize hiS l (weightsL k) i = hi' at *
    generalize lo / D = p at *
    generalize upQ hi' D = q at *
    have kx := ends84 (n := d + 6) (by omega) (p, q) (-200000) 200000
    have kl : ivE (-200000) 200000 (p, q) = if encB (p, q) = true then 3 else 0 := ivX_large (x := (p, q)) hge
    rw [kl] at kx
    have wi := wrap_succ (i := i) (by omega)
    have hm : min i outs.length = i := by omega
    have hi1 : i + 1 ≤ lim := by omega
    have hcI : cI (outs.take (i + 1)) = cI (outs.take i) ++ [.int .i64 p, .int .i64 q] := by
      rw [List.take_add_one, ho, cI_append]; rfl
    have hog : outs[i] = (p, q) := by
      rw [List.getElem?_eq_getElem (by omega)] at ho
      exact Option.some.inj ho
    simp only [List.getElem_map, hog]
    by_cases c : encB (p, q) = true
    · refine ⟨fun h => by simp [c] at h, fun _ => ⟨?_, ?h1, ?h2, ?h3⟩⟩
      case h1 =>
        simp -implicitDefEqProofs [inv, loopS_eq, c54L2, hi, hlim, hla, hlb, kf, kc, kx, c]
        exact rfl
      case h2 => simp
      case h3 => exact ⟨_, rfl⟩
    · refine ⟨fun _ => ⟨?_, ?h1, ?h2⟩, fun h => by simp [c] at h⟩
      case h1 =>
        simp -implicitDefEqProofs [inv, loopS_eq, c54L2, hi, hlim, hla, hlb, kf, kc, kx, c, hm, hi1, wi]
        exact rfl
      case h2 => exact loopS_same rfl (by simp [inv, hcI])) (by
    simp only [List.length_map, hlen]
    simp -implicitDefEqProofs [inv, loopS_eq, c54L2]) (by simp) (fuel := loopFuel) (by simp [loopFuel, hlen]; omega)
  rw [anyE] at hz hnz
  have htake : outs.take l.length = outs := List.take_of_length_le (by omega)
  have hr' : loopN (loopS (evFn F C0 G0 (d + 6)) C0 G0 0 true [0, 1, 6, 7, 8, 9] c54L2) loopFuel ⟨[(0, csl l), (1, isl k), (6, .p (.sl (pI (refW k)) (2 * k.length - 1))), (7, iv D), (8, .sl 0 0 0 0), (9, iv 0)], [(0, .arr [] 0 2)]⟩ = .ret r := hr
  by_cases c : outs.any encB = true
  · obtain ⟨s, rfl⟩ := hnz (by rw [if_pos c]; decide)
    simp -implicitDefEqProofs [hr', c]
  · have hrz := hz (by rw [if_neg c])
    subst hrz
    simp -implicitDefEqProofs [hr', c, inv, htake, hlen]
end Fw
