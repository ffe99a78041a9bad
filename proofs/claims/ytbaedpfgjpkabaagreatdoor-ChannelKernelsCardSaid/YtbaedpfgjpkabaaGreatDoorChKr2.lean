/- Records with weights: the reference's. -/
import Derived.Test.YtbaedpfgjpkabaaGreatDoorChKr1
set_option maxHeartbeats 8000000
namespace Fw
open Go
attribute [local irreducible] evCode evOps evOpsD evOper evOperD evOp evFn loopN T.All T.bind callPure callOp opsK opsDK restK seqK blockK loopS setK setQ giveK scalK gcK finish finS rfunK yldK yldB loopK

theorem round129 {n : Nat} (hn : 2 ≤ n) (x den : Int) (hd : 0 < den) (hd2 : den ≤ 1000000) (h1 : -100000000000 ≤ x) (h2 : x ≤ 100000000000) : RUN n 129 [iv x, iv den] = .ret (iv (nearI x den)) := by
  obtain ⟨d, rfl⟩ : ∃ d, n = d + 2 := ⟨n - 2, by omega⟩
  rw [RUN, call_eq fe129 _ rfl]
  have w1 := wrap64 (n := 2 * x) (by omega) (by omega)
  have w2 := wrap64 (n := 2 * x + den) (by omega) (by omega)
  have w3 := wrap64 (n := 2 * den) (by omega) (by omega)
  have k := floor119g (n := d + 1) (by omega) (2 * x + den) (2 * den) (by omega) (by omega) (by omega)
  simp -implicitDefEqProofs [c129, w1, w2, w3, k, nearI]

theorem made130 {n : Nat} (hn : 4 ≤ n) (o : List Int) (hl : o.length < 1000000) : RUN n 130 [isl o] = .ret (filtR o) := by
  obtain ⟨d, rfl⟩ : ∃ d, n = d + 4 := ⟨n - 4, by omega⟩
  rw [RUN, call_eq fe130 _ rfl]
  let inv : Nat → St := fun i => ⟨[(0, isl o), (4, iv i)], []⟩
  simp -implicitDefEqProofs [c130]
  rw [loop_errs (st0 := ⟨[(0, isl o), (4, .p (.int .i64 0))], []⟩) inv (o.map (rangeE (-16384) 16384)) (.exit 0, ⟨(inv o.length).env ++ [(8, .p (.bool false))], []⟩) (fun _ => (.ret, ⟨[(2, .p .nils), (3, iv 4)], []⟩)) (by rfl)]
  · by_cases y : firstE (o.map (rangeE (-16384) 16384)) = 0
    · have hin : In16 o := rangeE_all.1 y
      have k := made86 (n := d + 3) (by omega) hin hl
      have hb := in_iff.2 hin
      simp -implicitDefEqProofs [y, inv, hb, k, filtR]
    · have hb : inB o = false := by
        cases h : inB o with
        | false => rfl
        | true => exact absurd (rangeE_all.2 (in_iff.1 h)) y
      simp -implicitDefEqProofs [y, hb, filtR]
  · intro i hi
    simp only [List.length_map] at hi
    have kr := range108 (n := d + 2) (by omega) o[i] (-16384) 16384
    have k180 : RUN (d + 3) 180 [iv o[i]] = .ret (iv (rangeE (-16384) 16384 o[i])) := by
      rw [RUN, call_eq fe180 _ rfl]
      simp -implicitDefEqProofs [c180, kr]
    have w2 := wrap_succ (i := i) (by omega)
    simp only [List.getElem_map]
    generalize rangeE (-16384) 16384 o[i] = e at *
    refine ⟨fun he => ⟨_, ?_, rfl⟩, fun he => ?_⟩
    · simp -implicitDefEqProofs [inv, loopS_eq, c130L0, hi, k180, he, w2]
    · simp -implicitDefEqProofs [inv, loopS_eq, c130L0, hi, k180, he]
  · intro e; simp
  · simp -implicitDefEqProofs [inv, loopS_eq, c130L0]
  · simp
  · simp [loopFuel]; omega

/-- the sum at an index -/
def refP (xs k : List Int) (a : Nat) (i : Nat) : Int := sumN (fun i => k.getD i 0 * xs.getD (atI ((a : Int) - i) xs.length).toNat 0) i
theorem refP_eq {l : List Nat} (k : List Int) (a : Nat) (h : a < l.length) : refP (l.map smpN) k a k.length = wsum (l.map smpN) a (pE k k.length) := by
  rw [wsum_dot, pE_dot, refP]
  refine sumN_congr _ fun i _ => ?_
  rw [Int.mul_comm, show ((a : Int) - i) = a + -(i : Int) by omega, at_clamp _ _ (by simp; omega)]
theorem prod_bound {l : List Nat} (h : SmpOk l) {k : List Int} (hk : ∀ x ∈ k, -100 ≤ x ∧ x ≤ 100) (i j : Nat) : ((k.getD i 0 * (l.map smpN).getD j 0).natAbs : Int) ≤ 1638400 := mul_abs (A := 100) (B := 16384) (getD_bound hk i) (smpN_getD h j)

theorem passed44 {n : Nat} (hn : 6 ≤ n) {l : List Nat} (h : SmpOk l) (hl : l.length ≤ 4096) {k : List Int} (hk : KerOk k) : RUN n 44 [fsl l, isl k] = .ret (filtR (filtO (l.map smpN) (pE k k.length) (sumI k))) := by
  obtain ⟨d, rfl⟩ : ∃ d, n = d + 6 := ⟨n - 6, by omega⟩
  rw [RUN, call_eq fe44 _ rfl]
  have hlen : (filtO (l.map smpN) (pE k k.length) (sumI k)).length = l.length := by simp
  have hget : ∀ i, i < l.length → (filtO (l.map smpN) (pE k k.length) (sumI k))[i]? = some (nearI (refP (l.map smpN) k i k.length) (sumI k)) := fun i hi => by
    rw [refP_eq k i hi]; simp [filtO, hi]
  have k130 := made130 (n := d + 5) (by omega) (filtO (l.map smpN) (pE k k.length) (sumI k)) (by simp; omega)
  have kd := div126 (n := d + 5) (by omega) k (by have := hk.2.1; omega)
  rw [ker_sum hk] at kd
  obtain ⟨d1, d2, d3, d4⟩ := ker_D hk
  have h7 := hk.2.1
  have hkb := hk.2.2.1
  generalize filtO (l.map smpN) (pE k k.length) (sumI k) = o at *
  let inv : Nat → St := fun i => ⟨[(0, fsl l), (1, isl k), (6, .sl 0 i 0 i), (7, iv i)], [(0, .arr (pI (o.take i)) i 1)]⟩
  have htake : o.take l.length = o := List.take_of_length_le (by omega)
  simp -implicitDefEqProofs [c44]
  rw [loop_run inv l.length (e := .exit 0) (st' := ⟨(inv l.length).env ++ [(13, .p (.bool false))], (inv l.length).sto⟩) (by simp)]
  · rw [isl, hlen] at k130
    by_cases c : inB o = true
    · simp only [filtR, c, if_true] at k130 ⊢
      simp -implicitDefEqProofs [inv, htake, hlen, k130]
    · simp only [filtR, c] at k130 ⊢
      simp -implicitDefEqProofs [inv, htake, hlen, k130]
  · rfl
  · intro a ha
    have hlim : a + 1 ≤ lim := by simp only [lim]; omega
    have wa := wrap_succ (i := a) (by omega)
    have hm : min a o.length = a := by omega
    have hcI : pI (o.take (a + 1)) = pI (o.take a) ++ [.int .i64 (nearI (refP (l.map smpN) k a k.length) (sumI k))] := by
      rw [List.take_add_one, hget a ha, pI_snoc]; rfl
    have hb : ∀ i, ((refP (l.map smpN) k a i).natAbs : Int) ≤ 1638400 * i := fun i => sumN_bound i fun j _ => prod_bound h hkb j _
    have hbk := hb k.length
    have kr := round129 (n := d + 5) (by omega) (refP (l.map smpN) k a k.length) (sumI k) d1 (by omega) (by omega) (by omega)
    let inv2 : Nat → St := fun i => ⟨[(0, fsl l), (1, isl k), (6, .sl 0 a 0 a), (7, iv a), (8, iv (refP (l.map smpN) k a i)), (9, iv i)], [(0, .arr (pI (o.take a)) a 1)]⟩
    simp -implicitDefEqProofs [inv, loopS_eq, c44L1, ha]
    rw [loop_run inv2 k.length (e := .exit 2) (st' := ⟨(inv2 k.length).env ++ [(19, .p (.bool false))], (inv2 k.length).sto⟩) (by simp)]
    · generalize nearI (refP (l.map smpN) k a k.length) (sumI k) = x at *
      simp -implicitDefEqProofs [inv2, kd, kr, hlim, hm, wa, hcI]
    · rfl
    · intro i hi
      have hgi : k[i] = k.getD i 0 := by simp [List.getD_eq_getElem?_getD, List.getElem?_eq_getElem hi]
      have wi := wrap_succ (i := i) (by omega)
      have wj := wrap64 (n := (a : Int) - i) (by omega) (by omega)
      have kat := at128 (n := d + 5) (by omega) ((a : Int) - i) l.length (by omega) (by omega)
      have hin := atI_in ((a : Int) - i) (show 0 < l.length by omega)
      have hpb := prod_bound h hkb i (atI ((a : Int) - i) l.length).toNat
      have hs : refP (l.map smpN) k a (i + 1) = refP (l.map smpN) k a i + k.getD i 0 * (l.map smpN).getD (atI ((a : Int) - i) l.length).toNat 0 := by simp only [refP, sumN, List.length_map]
      have hbi := hb i
      simp only [inv2, hs]
      rw [← hgi] at hpb ⊢
      generalize hp : atI ((a : Int) - i) l.length = p at *
      have p0 := hin.1
      have p1 := hin.2
      have p2 : p.toNat < l.length := by omega
      have ku := sixteen85 (n := d + 5) (by omega) (h l[p.toNat] (List.getElem_mem p2))
      have hg2 : (l.map smpN).getD p.toNat 0 = smpN l[p.toNat] := by simp [List.getD_eq_getElem?_getD, p2]
      rw [hg2] at hpb ⊢
      generalize smpN l[p.toNat] = x at *
      generalize refP (l.map smpN) k a i = s at *
      have w1 := wrap64 (n := k[i] * x) (by omega) (by omega)
      have w2 := wrap64 (n := s + k[i] * x) (by omega) (by omega)
      simp -implicitDefEqProofs [loopS_eq, c44L0, hi, wi, wj, kat, p0, p1, p2, ku, w1, w2]
    · simp -implicitDefEqProofs [inv2, loopS_eq, c44L0]
    · simp [loopFuel]; omega
  · simp -implicitDefEqProofs [inv, loopS_eq, c44L1]
  · simp [loopFuel]; omega

/-- there and back -/
def refJ (xs k : List Int) (a i : Nat) (j : Nat) : Int := sumN (fun j => k.getD i 0 * k.getD j 0 * xs.getD (atI ((a : Int) + i - j) xs.length).toNat 0) j
def refF (xs k : List Int) (a : Nat) (i : Nat) : Int := sumN (fun i => refJ xs k a i k.length) i
theorem refF_eq {l : List Nat} (k : List Int) (a : Nat) (h : a < l.length) : refF (l.map smpN) k a k.length = wsum (l.map smpN) a (weightsL k) := by
  rw [wsum_dot, dot_weights, refF, dd]
  refine sumN_congr _ fun i _ => ?_
  refine sumN_congr _ fun j _ => ?_
  rw [Int.mul_comm, show ((a : Int) + i - j) = a + ((i : Int) - j) by omega, at_clamp _ _ (by simp; omega)]
theorem prod3_bound {l : List Nat} (h : SmpOk l) {k : List Int} (hk : ∀ x ∈ k, -100 ≤ x ∧ x ≤ 100) (i j m : Nat) : ((k.getD i 0 * k.getD j 0 * (l.map smpN).getD m 0).natAbs : Int) ≤ 163840000 := mul_abs (A := 10000) (B := 16384) (mul_abs (A := 100) (B := 100) (getD_bound hk i) (getD_bound hk j)) (smpN_getD h m)

theorem filtered45 {n : Nat} (hn : 6 ≤ n) {l : List Nat} (h : SmpOk l) (hl : l.length ≤ 4096) {k : List Int} (hk : KerOk k) : RUN n 45 [fsl l, isl k] = .ret (filtR (filtO (l.map smpN) (weightsL k) (sumI k * sumI k))) := by
  obtain ⟨d, rfl⟩ : ∃ d, n = d + 6 := ⟨n - 6, by omega⟩
  rw [RUN, call_eq fe45 _ rfl]
  have hlen : (filtO (l.map smpN) (weightsL k) (sumI k * sumI k)).length = l.length := by simp
  have hget : ∀ i, i < l.length → (filtO (l.map smpN) (weightsL k) (sumI k * sumI k))[i]? = some (nearI (refF (l.map smpN) k i k.length) (sumI k * sumI k)) := fun i hi => by
    rw [refF_eq k i hi]; simp [filtO, hi]
  have k130 := made130 (n := d + 5) (by omega) (filtO (l.map smpN) (weightsL k) (sumI k * sumI k)) (by simp; omega)
  have kd := div126 (n := d + 5) (by omega) k (by have := hk.2.1; omega)
  rw [ker_sum hk] at kd
  obtain ⟨d1, d2, d3, d4⟩ := ker_D hk
  have wD := wrap64 (n := sumI k * sumI k) (by omega) (by omega)
  have h7 := hk.2.1
  have hkb := hk.2.2.1
  generalize filtO (l.map smpN) (weightsL k) (sumI k * sumI k) = o at *
  let inv : Nat → St := fun i => ⟨[(0, fsl l), (1, isl k), (6, .sl 0 i 0 i), (7, iv i)], [(0, .arr (pI (o.take i)) i 1)]⟩
  have htake : o.take l.length = o := List.take_of_length_le (by omega)
  simp -implicitDefEqProofs [c45]
  rw [loop_run inv l.length (e := .exit 0) (st' := ⟨(inv l.length).env ++ [(14, .p (.bool false))], (inv l.length).sto⟩) (by simp)]
  · rw [isl, hlen] at k130
    by_cases c : inB o = true
    · simp only [filtR, c, if_true] at k130 ⊢
      simp -implicitDefEqProofs [inv, htake, hlen, k130]
    · simp only [filtR, c] at k130 ⊢
      simp -implicitDefEqProofs [inv, htake, hlen, k130]
  · rfl
  · intro a ha
    have hlim : a + 1 ≤ lim := by simp only [lim]; omega
    have wa := wrap_succ (i := a) (by omega)
    have hm : min a o.length = a := by omega
    have hcI : pI (o.take (a + 1)) = pI (o.take a) ++ [.int .i64 (nearI (refF (l.map smpN) k a k.length) (sumI k * sumI k))] := by
      rw [List.take_add_one, hget a ha, pI_snoc]; rfl
    have hbJ : ∀ i j, ((refJ (l.map smpN) k a i j).natAbs : Int) ≤ 163840000 * j := fun i j => sumN_bound j fun m _ => prod3_bound h hkb i m _
    have hbF : ∀ i, ((refF (l.map smpN) k a i).natAbs : Int) ≤ 1146880000 * i := fun i => sumN_bound i fun m _ => by
      have := hbJ m k.length
      omega
    have hbk := hbF k.length
    have kr := round129 (n := d + 5) (by omega) (refF (l.map smpN) k a k.length) (sumI k * sumI k) d3 (by omega) (by omega) (by omega)
    let inv2 : Nat → St := fun i => ⟨[(0, fsl l), (1, isl k), (6, .sl 0 a 0 a), (7, iv a), (8, iv (refF (l.map smpN) k a i)), (9, iv i)], [(0, .arr (pI (o.take a)) a 1)]⟩
    simp -implicitDefEqProofs [inv, loopS_eq, c45L2, ha]
    rw [loop_run inv2 k.length (e := .exit 2) (st' := ⟨(inv2 k.length).env ++ [(20, .p (.bool false))], (inv2 k.length).sto⟩) (by simp)]
    · generalize nearI (refF (l.map smpN) k a k.length) (sumI k * sumI k) = x at *
      simp -implicitDefEqProofs [inv2, kd, wD, kr, hlim, hm, wa, hcI]
    · rfl
    · intro i hi
      have hgi : k[i] = k.getD i 0 := by simp [List.getD_eq_getElem?_getD, List.getElem?_eq_getElem hi]
      have wi := wrap_succ (i := i) (by omega)
      let inv3 : Nat → St := fun j => ⟨[(0, fsl l), (1, isl k), (6, .sl 0 a 0 a), (7, iv a), (8, iv (refF (l.map smpN) k a i + refJ (l.map smpN) k a i j)), (9, iv i), (10, iv j)], [(0, .arr (pI (o.take a)) a 1)]⟩
      have hsF : refF (l.map smpN) k a (i + 1) = refF (l.map smpN) k a i + refJ (l.map smpN) k a i k.length := rfl
      have hz : refJ (l.map smpN) k a i 0 = 0 := rfl
      have hbi := hbF i
      simp -implicitDefEqProofs [inv2, loopS_eq, c45L1, hi]
      rw [loop_run inv3 k.length (e := .exit 4) (st' := ⟨(inv3 k.length).env ++ [(26, .p (.bool false))], (inv3 k.length).sto⟩) (by simp)]
      · simp -implicitDefEqProofs [inv3, wi, hsF]
      · simp only [inv3, hz, Int.add_zero]; rfl
      · intro j hj
        have hgj : k[j] = k.getD j 0 := by simp [List.getD_eq_getElem?_getD, List.getElem?_eq_getElem hj]
        have wjj := wrap_succ (i := j) (by omega)
        have wi2 := wrap64 (n := (a : Int) + i) (by omega) (by omega)
        have wj := wrap64 (n := (a : Int) + i - j) (by omega) (by omega)
        have kat := at128 (n := d + 5) (by omega) ((a : Int) + i - j) l.length (by omega) (by omega)
        have hin := atI_in ((a : Int) + i - j) (show 0 < l.length by omega)
        have hpb := prod3_bound h hkb i j (atI ((a : Int) + i - j) l.length).toNat
        have hkk := mul_abs (A := 100) (B := 100) (getD_bound hkb i) (getD_bound hkb j)
        have hs : refJ (l.map smpN) k a i (j + 1) = refJ (l.map smpN) k a i j + k.getD i 0 * k.getD j 0 * (l.map smpN).getD (atI ((a : Int) + i - j) l.length).toNat 0 := by simp only [refJ, sumN, List.length_map]
        have hbj := hbJ i j
        simp only [inv3, hs]
        rw [← hgi, ← hgj] at hpb hkk ⊢
        generalize hp : atI ((a : Int) + i - j) l.length = p at *
        have p0 := hin.1
        have p1 := hin.2
        have p2 : p.toNat < l.length := by omega
        have ku := sixteen85 (n := d + 5) (by omega) (h l[p.toNat] (List.getElem_mem p2))
        have hg2 : (l.map smpN).getD p.toNat 0 = smpN l[p.toNat] := by simp [List.getD_eq_getElem?_getD, p2]
        rw [hg2] at hpb ⊢
        generalize smpN l[p.toNat] = x at *
        generalize refF (l.map smpN) k a i = s at *
        generalize refJ (l.map smpN) k a i j = t at *
        have w0 := wrap64 (n := k[i] * k[j]) (by omega) (by omega)
        have w1 := wrap64 (n := k[i] * k[j] * x) (by omega) (by omega)
        have w2 := wrap64 (n := s + t + k[i] * k[j] * x) (by omega) (by omega)
        rw [← Int.add_assoc]
        simp -implicitDefEqProofs [loopS_eq, c45L0, hi, hj, wjj, wi2, wj, kat, p0, p1, p2, ku, w0, w1, w2]
      · simp -implicitDefEqProofs [inv3, loopS_eq, c45L0]
      · simp [loopFuel]; omega
    · simp -implicitDefEqProofs [inv2, loopS_eq, c45L1]
    · simp [loopFuel]; omega
  · simp -implicitDefEqProofs [inv, loopS_eq, c45L2]
  · simp [loopFuel]; omega
end Fw
