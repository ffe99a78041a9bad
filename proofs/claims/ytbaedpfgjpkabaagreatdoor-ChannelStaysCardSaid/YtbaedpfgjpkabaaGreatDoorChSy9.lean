/- Several texts in one: each is told at its head. -/
import Derived.Test.YtbaedpfgjpkabaaGreatDoorChKer
section
/- The filter of a record: what is constant, turned, opposite, or later. -/
set_option maxHeartbeats 4000000
namespace Fw
open Go

theorem sumN_add (f g : Nat → Int) (n : Nat) : sumN (fun i => f i + g i) n = sumN f n + sumN g n := by
  induction n with
  | zero => rfl
  | succ n ih => simp only [sumN, ih]; omega
theorem sumN_mul (c : Int) (f : Nat → Int) (n : Nat) : sumN (fun i => c * f i) n = c * sumN f n := by
  induction n with
  | zero => simp [sumN]
  | succ n ih => simp only [sumN, ih, Int.mul_add]
theorem sumN_neg (f : Nat → Int) (n : Nat) : sumN (fun i => -f i) n = -sumN f n := by
  induction n with
  | zero => rfl
  | succ n ih => simp only [sumN, ih]; omega
theorem sumN_comm (f : Nat → Nat → Int) (n : Nat) : ∀ m, sumN (fun i => sumN (fun j => f i j) n) m = sumN (fun j => sumN (fun i => f i j) m) n := by
  intro m
  induction m with
  | zero => simp only [sumN]; exact (sumN_zero n fun _ _ => rfl).symm
  | succ m ih => simp only [sumN, ih]; rw [sumN_add]

theorem dd_swap (k : List Int) (g : Nat → Nat → Int) : dd k g = dd k fun i j => g j i := by
  unfold dd
  rw [sumN_comm]
  refine sumN_congr _ fun i _ => sumN_congr _ fun j _ => ?_
  rw [Int.mul_comm (k.getD j 0)]
theorem dd_const (k : List Int) (c : Int) : dd k (fun _ _ => c) = c * (sumI k * sumI k) := by
  unfold dd
  have h : ∀ i, i < k.length → sumN (fun j => c * (k.getD i 0 * k.getD j 0)) k.length = (c * sumI k) * k.getD i 0 := by
    intro i _
    have : (fun j => c * (k.getD i 0 * k.getD j 0)) = fun j => (c * k.getD i 0) * k.getD j 0 := by
      funext j; rw [Int.mul_assoc]
    rw [this, sumN_mul]
    show c * k.getD i 0 * sumI k = _
    rw [Int.mul_assoc, Int.mul_comm (k.getD i 0), ← Int.mul_assoc]
  rw [sumN_congr _ h, sumN_mul]
  show c * sumI k * sumI k = _
  rw [Int.mul_assoc]
theorem dd_neg (k : List Int) (g : Nat → Nat → Int) : dd k (fun i j => -g i j) = -dd k g := by
  unfold dd
  rw [← sumN_neg]
  refine sumN_congr _ fun i _ => ?_
  rw [← sumN_neg]
  refine sumN_congr _ fun j _ => ?_
  rw [Int.neg_mul]

/-- the sample that counts at a place, within the record or not -/
def cl (xs : List Int) (z : Int) : Int := xs.getD (clampI 0 z xs.length).toNat 0
theorem clamp_lo {z n : Int} (h : z ≤ 0) : clampI 0 z n = 0 := by
  unfold clampI; simp only; split <;> split <;> omega
theorem clamp_mid {z n : Int} (h0 : 0 ≤ z) (h1 : z < n) : clampI 0 z n = z := by
  unfold clampI; simp only; split <;> split <;> omega
theorem clamp_hi {z n : Int} (h0 : 0 < n) (h1 : n - 1 ≤ z) : clampI 0 z n = n - 1 := by
  unfold clampI; simp only; split <;> split <;> omega
theorem clamp_add (a d n : Int) : clampI a d n = clampI 0 (a + d) n := by
  unfold clampI; simp only [Int.zero_add]
/-- what a kernel makes of a record at a place -/
def gW (xs k : List Int) (z : Int) : Int := dd k fun i j => cl xs (z + i - j)
theorem wsum_gW (xs k : List Int) (a : Nat) : wsum xs a (weightsL k) = gW xs k a := by
  rw [wsum_dot, dot_weights]
  refine dd_congr fun i j _ _ => ?_
  rw [clamp_add, cl, Int.add_sub_assoc]
theorem filt_get (xs k : List Int) (D : Int) : filtO xs (weightsL k) D = (List.range xs.length).map fun (a : Nat) => nearI (gW xs k a) D := by
  unfold filtO
  refine List.map_congr_left fun a _ => ?_
  rw [wsum_gW]

theorem near_mul (c : Int) {D : Int} (hD : 0 < D) : nearI (c * D) D = c := by
  unfold nearI
  have e : 2 * (c * D) + D = D + c * (2 * D) := by
    have : 2 * (c * D) = c * (2 * D) := by rw [Int.mul_left_comm]
    omega
  rw [e, Int.add_mul_ediv_right _ _ (by omega), Int.ediv_eq_zero_of_lt (by omega) (by omega)]; omega
theorem near_neg (m : Int) {D : Int} (hD : 0 < D) : nearI (-m) D + nearI m D = 0 ∨ nearI (-m) D + nearI m D = 1 := by
  unfold nearI
  have e1 := Int.mul_ediv_add_emod (2 * m + D) (2 * D)
  have e2 := Int.mul_ediv_add_emod (2 * -m + D) (2 * D)
  have b1 := Int.emod_nonneg (2 * m + D) (show 2 * D ≠ 0 by omega)
  have b2 := Int.emod_lt_of_pos (2 * m + D) (show 0 < 2 * D by omega)
  have b3 := Int.emod_nonneg (2 * -m + D) (show 2 * D ≠ 0 by omega)
  have b4 := Int.emod_lt_of_pos (2 * -m + D) (show 0 < 2 * D by omega)
  generalize (2 * m + D) / (2 * D) = p at *
  generalize (2 * -m + D) / (2 * D) = q at *
  generalize (2 * m + D) % (2 * D) = r at *
  generalize (2 * -m + D) % (2 * D) = s at *
  have e : 2 * D * (q + p) = 2 * D - (r + s) := by rw [Int.mul_add]; omega
  have h1 : -1 < q + p := by
    apply Int.lt_of_mul_lt_mul_left (a := 2 * D) _ (by omega)
    omega
  have h2 : q + p < 2 := by
    apply Int.lt_of_mul_lt_mul_left (a := 2 * D) _ (by omega)
    omega
  omega

/-! a constant record -/
theorem cl_const (n : Nat) (hn : 0 < n) (c z : Int) : cl (List.replicate n c) z = c := by
  have h : (clampI 0 z n).toNat < n := by
    by_cases h0 : z ≤ 0
    · rw [clamp_lo h0]; exact hn
    · by_cases h1 : z < n
      · rw [clamp_mid (by omega) h1]; omega
      · rw [clamp_hi (by omega) (by omega)]; omega
  simp only [cl, List.length_replicate, List.getD_eq_getElem?_getD]
  rw [List.getElem?_replicate, if_pos h]; rfl
theorem filt_const {k : List Int} (hk : KerOk k) (n : Nat) (c : Int) : filtO (List.replicate n c) (weightsL k) (sumI k * sumI k) = List.replicate n c := by
  rw [filt_get]
  apply List.ext_getElem
  · simp
  · intro i h1 h2
    simp only [List.length_map, List.length_range, List.length_replicate] at h1
    simp only [List.getElem_map, List.getElem_range, List.getElem_replicate]
    have : gW (List.replicate n c) k i = c * (sumI k * sumI k) := by
      rw [gW, ← dd_const]
      refine dd_congr fun i j _ _ => ?_
      exact cl_const n (by omega) c _
    rw [this, near_mul c (ker_D hk).2.2.1]
theorem pass_const {k : List Int} (hk : KerOk k) (n : Nat) (c : Int) : filtO (List.replicate n c) (pE k k.length) (sumI k) = List.replicate n c := by
  unfold filtO
  apply List.ext_getElem
  · simp
  · intro i h1 h2
    simp only [List.length_map, List.length_range, List.length_replicate] at h1
    simp only [List.getElem_map, List.getElem_range, List.getElem_replicate]
    have : wsum (List.replicate n c) i (pE k k.length) = c * sumI k := by
      rw [wsum_dot, pE_dot]
      have h : ∀ q, q < k.length → (fun d => (List.replicate n c).getD (clampI i d (List.replicate n c).length).toNat 0) (-(q : Int)) * k.getD q 0 = c * k.getD q 0 := by
        intro q _
        have := cl_const n (by omega) c ((i : Int) + -(q : Int))
        rw [cl, ← clamp_add] at this
        simp only [this]
      rw [sumN_congr _ h, sumN_mul]; rfl
    rw [this, near_mul c (ker_D hk).1]

/-! the weights -/
theorem refW_sum (k : List Int) : sumN (fun m => (refW k).getD m 0) (refW k).length = sumI k * sumI k := by
  have h := dotL_refW (fun _ => 1) k
  rw [dd_const, Int.one_mul] at h
  rw [← h]
  unfold dotL
  exact sumN_congr _ fun i _ => by rw [Int.one_mul]
theorem refW_sym {k : List Int} {i : Nat} (hi : i < 2 * k.length - 1) : (refW k).getD i 0 = (refW k).getD (2 * k.length - 1 - 1 - i) 0 := by
  rw [refW_get i hi, refW_get _ (by omega), look_dot (es := weightsL k) (wI_nodup k k.length), look_dot (es := weightsL k) (wI_nodup k k.length)]
  rw [dot_weights, dot_weights, dd_swap]
  refine dd_congr fun a b _ _ => ?_
  unfold ind
  by_cases h : (b : Int) - a = (i : Int) - k.length + 1
  · rw [if_pos h, if_pos (by omega)]
  · rw [if_neg h, if_neg (by omega)]

/-! a record that is turned around -/
theorem cl_rev (xs : List Int) (h0 : 0 < xs.length) (z : Int) : cl xs.reverse z = cl xs (xs.length - 1 - z) := by
  have hg : ∀ i, i < xs.length → xs.reverse.getD i 0 = xs.getD (xs.length - 1 - i) 0 := by
    intro i hi
    simp only [List.getD_eq_getElem?_getD]
    rw [List.getElem?_reverse hi]
  simp only [cl, List.length_reverse]
  by_cases a0 : z ≤ 0
  · rw [clamp_lo a0, clamp_hi (by omega) (by omega), hg _ (by omega)]
    congr 1
    show xs.length - 1 - 0 = _
    omega
  · by_cases a1 : z < xs.length
    · by_cases a2 : (xs.length : Int) - 1 - z ≤ 0
      · rw [clamp_mid (by omega) a1, clamp_lo a2, hg _ (by omega)]
        congr 1; omega
      · rw [clamp_mid (by omega) a1, clamp_mid (by omega) (by omega), hg _ (by omega)]
        congr 1; omega
    · rw [clamp_hi (by omega) (by omega), clamp_lo (by omega), hg _ (by omega)]
      congr 1; omega
theorem gW_rev (xs k : List Int) (h0 : 0 < xs.length) (z : Int) : gW xs.reverse k z = gW xs k (xs.length - 1 - z) := by
  unfold gW
  rw [dd_swap]
  refine dd_congr fun i j _ _ => ?_
  rw [cl_rev xs h0]
  congr 1; omega
theorem filt_rev (xs k : List Int) (D : Int) : filtO xs.reverse (weightsL k) D = (filtO xs (weightsL k) D).reverse := by
  rw [filt_get, filt_get]
  apply List.ext_getElem
  · simp
  · intro i h1 h2
    simp only [List.length_map, List.length_range, List.length_reverse] at h1
    rw [List.getElem_reverse]
    simp only [List.getElem_map, List.getElem_range, List.length_map, List.length_range]
    rw [gW_rev xs k (by omega)]
    congr 2; omega
theorem inB_rev (o : List Int) : inB o.reverse = inB o := by
  rw [Bool.eq_iff_iff, in_iff, in_iff]
  simp [In16]

/-! opposite samples -/
theorem cl_neg (xs : List Int) (z : Int) : cl (xs.map fun x => -x) z = -cl xs z := by
  simp only [cl, List.length_map, List.getD_eq_getElem?_getD, List.getElem?_map]
  cases xs[(clampI 0 z xs.length).toNat]? <;> simp
theorem gW_neg (xs k : List Int) (z : Int) : gW (xs.map fun x => -x) k z = -gW xs k z := by
  unfold gW
  rw [← dd_neg]
  exact dd_congr fun i j _ _ => cl_neg xs _
theorem filt_neg (xs : List Int) {k : List Int} (hk : KerOk k) (i : Nat) (hi : i < xs.length) :
    (filtO (xs.map fun x => -x) (weightsL k) (sumI k * sumI k)).getD i 0 + (filtO xs (weightsL k) (sumI k * sumI k)).getD i 0 = 0 ∨ (filtO (xs.map fun x => -x) (weightsL k) (sumI k * sumI k)).getD i 0 + (filtO xs (weightsL k) (sumI k * sumI k)).getD i 0 = 1 := by
  rw [filt_get, filt_get]
  simp only [List.getD_eq_getElem?_getD, List.length_map]
  rw [List.getElem?_eq_getElem (by simpa using hi), List.getElem?_eq_getElem (by simpa using hi)]
  simp only [List.getElem_map, List.getElem_range, Option.getD_some]
  rw [gW_neg]
  exact near_neg _ (ker_D hk).2.2.1

/-! a record that is later -/
def padO (xs : List Int) (p q : Nat) : List Int := List.replicate p (xs.getD 0 0) ++ xs ++ List.replicate q (xs.getD (xs.length - 1) 0)
@[simp] theorem padO_length (xs : List Int) (p q : Nat) : (padO xs p q).length = p + xs.length + q := by simp [padO, Nat.add_assoc]
theorem padO_get (xs : List Int) (h0 : 0 < xs.length) (p q : Nat) (i : Nat) (hi : i < p + xs.length + q) : (padO xs p q).getD i 0 = cl xs ((i : Int) - p) := by
  unfold padO cl
  simp only [List.getD_eq_getElem?_getD, List.append_assoc]
  by_cases a0 : i < p
  · rw [List.getElem?_append_left (by simpa using a0), List.getElem?_replicate, if_pos a0, clamp_lo (by omega)]; rfl
  · rw [List.getElem?_append_right (by simp; omega), List.length_replicate]
    by_cases a1 : i < p + xs.length
    · rw [List.getElem?_append_left (by omega), clamp_mid (by omega) (by omega)]
      congr 2; omega
    · rw [List.getElem?_append_right (by omega), List.getElem?_replicate, if_pos (by omega), clamp_hi (by omega) (by omega), Option.getD_some]
      congr 2; omega
theorem cl_pad (xs : List Int) (h0 : 0 < xs.length) (p q : Nat) (z : Int) : cl (padO xs p q) z = cl xs (z - p) := by
  have hc : ∀ y : Int, y ≤ 0 → cl xs y = xs.getD 0 0 := fun y hy => by rw [cl, clamp_lo hy]; rfl
  have hc2 : ∀ y : Int, (xs.length : Int) - 1 ≤ y → cl xs y = xs.getD (xs.length - 1) 0 := fun y hy => by
    rw [cl, clamp_hi (by omega) hy]; congr 1; omega
  rw [cl, padO_length]
  by_cases a0 : z ≤ 0
  · rw [clamp_lo a0]
    rw [show (0 : Int).toNat = 0 by rfl, padO_get xs h0 p q 0 (by omega), hc _ (by omega), hc _ (by omega)]
  · by_cases a1 : z < (p + xs.length + q : Nat)
    · rw [clamp_mid (by omega) a1, padO_get xs h0 p q _ (by omega)]
      congr 1; omega
    · rw [clamp_hi (by omega) (by omega), padO_get xs h0 p q _ (by omega), hc2 _ (by omega), hc2 _ (by omega)]
theorem gW_pad (xs k : List Int) (h0 : 0 < xs.length) (p q : Nat) (z : Int) : gW (padO xs p q) k z = gW xs k (z - p) := by
  unfold gW
  refine dd_congr fun i j _ _ => ?_
  rw [cl_pad xs h0]
  congr 1; omega
theorem filt_pad_get (xs k : List Int) (D : Int) (h0 : 0 < xs.length) (p q : Nat) : filtO (padO xs p q) (weightsL k) D = (List.range (p + xs.length + q)).map fun (a : Nat) => nearI (gW xs k ((a : Int) - p)) D := by
  rw [filt_get, padO_length]
  refine List.map_congr_left fun a _ => ?_
  rw [gW_pad xs k h0]
theorem filt_late (xs k : List Int) (D : Int) (h0 : 0 < xs.length) (e t q : Nat) : (filtO (padO xs (e + t) q) (weightsL k) D).drop t = filtO (padO xs e q) (weightsL k) D := by
  rw [filt_pad_get xs k D h0, filt_pad_get xs k D h0]
  apply List.ext_getElem
  · simp; omega
  · intro i h1 h2
    simp only [List.length_map, List.length_range] at h2
    simp only [List.getElem_drop, List.getElem_map, List.getElem_range]
    congr 2; omega
theorem filt_mid (xs k : List Int) (D : Int) (h0 : 0 < xs.length) (e q : Nat) : ((filtO (padO xs e q) (weightsL k) D).take (e + xs.length)).drop e = filtO xs (weightsL k) D := by
  rw [filt_pad_get xs k D h0, filt_get]
  apply List.ext_getElem
  · simp
  · intro i h1 h2
    simp only [List.length_map, List.length_range] at h2
    simp only [List.getElem_drop, List.getElem_take, List.getElem_map, List.getElem_range]
    congr 2; omega
theorem gW_far {xs k : List Int} (_hk : KerOk k) (z : Int) (hz : z ≤ -((k.length : Int) - 1)) : gW xs k z = xs.getD 0 0 * (sumI k * sumI k) := by
  rw [gW, ← dd_const]
  refine dd_congr fun i j hi hj => ?_
  rw [cl, clamp_lo (by omega)]; rfl
theorem inB_late {xs k : List Int} (hk : KerOk k) (h0 : 0 < xs.length) (hx : In16 xs) (t q : Nat) :
    inB (filtO (padO xs (k.length - 1 + t) q) (weightsL k) (sumI k * sumI k)) = inB (filtO (padO xs (k.length - 1) q) (weightsL k) (sumI k * sumI k)) := by
  have hl := filt_late xs k (sumI k * sumI k) h0 (k.length - 1) t q
  have hD := (ker_D hk).2.2.1
  have hkl := hk.1
  rw [Bool.eq_iff_iff, in_iff, in_iff]
  constructor
  · intro h n hn
    rw [← hl] at hn
    exact h n (List.mem_of_mem_drop hn)
  · intro h n hn
    rw [← List.take_append_drop t (filtO (padO xs (k.length - 1 + t) q) (weightsL k) (sumI k * sumI k))] at hn
    rcases List.mem_append.1 hn with hm | hm
    · rw [filt_pad_get xs k _ h0] at hm
      obtain ⟨i, hi, rfl⟩ := List.getElem_of_mem hm
      simp only [List.length_take, List.length_map, List.length_range] at hi
      simp only [List.getElem_take, List.getElem_map, List.getElem_range]
      rw [gW_far hk _ (by omega), near_mul _ hD]
      have hm0 : xs.getD 0 0 ∈ xs := by
        rw [List.getD_eq_getElem?_getD, List.getElem?_eq_getElem h0]; exact List.getElem_mem h0
      exact hx _ hm0
    · rw [hl] at hm
      exact h n hm
end Fw
end

section
/- Lists of integers turned around, and padded; filters of integers. -/
set_option maxHeartbeats 8000000
namespace Fw
open Go
attribute [local irreducible] evCode evOps evOpsD evOper evOperD evOp evFn loopN T.All T.bind callPure callOp opsK opsDK restK seqK blockK loopS setK setQ giveK scalK gcK finish finS rfunK yldK yldB loopK

theorem turned87 {n : Nat} (hn : 1 ≤ n) (l : List Int) (hl : l.length < 1000000) : RUN n 87 [isl l] = .ret (.own (pI l.reverse) l.length 1) := by
  obtain ⟨d, rfl⟩ : ∃ d, n = d + 1 := ⟨n - 1, by omega⟩
  rw [RUN, call_eq fe87 _ rfl]
  let inv : Nat → St := fun i => ⟨[(0, isl l), (3, .sl 0 i 0 i), (6, iv l.length), (7, iv i)], [(0, .arr (pI (l.reverse.take i)) i 1)]⟩
  have htl : l.reverse.take l.length = l.reverse := List.take_of_length_le (by simp)
  simp -implicitDefEqProofs [c87]
  rw [loop_run' inv l.length (e := .exit 0) (st' := ⟨(inv l.length).env ++ [(8, .p (.bool false))], (inv l.length).sto⟩) (by simp)]
  · simp -implicitDefEqProofs [inv, htl]
  · rfl
  · intro i hi
    have hlim : i + 1 ≤ lim := by simp only [lim]; omega
    have wi := wrap_succ (i := i) (by omega)
    have w1 := wrap64 (n := (l.length : Int) - 1) (by omega) (by omega)
    have w2 := wrap64 (n := (l.length : Int) - 1 - i) (by omega) (by omega)
    have t1 : ((l.length : Int) - 1 - i).toNat = l.length - 1 - i := by omega
    have b1 : (i : Int) ≤ (l.length : Int) - 1 := by omega
    have b1' : (l.length : Int) - 1 - i < l.length := by omega
    have b2 : l.length - 1 - i < l.length := by omega
    have hr : l.reverse.take (i + 1) = l.reverse.take i ++ [l[l.length - 1 - i]] := by
      rw [List.take_add_one, List.getElem?_reverse hi, List.getElem?_eq_getElem b2]; rfl
    have hti : (l.reverse.take i).length = i := by simp; omega
    have hpl := pI_length l
    simp only [inv, hr]
    generalize l.reverse.take i = R at *
    generalize hv : l[l.length - 1 - i] = v at *
    generalize hm : l.length - 1 - i = m at *
    refine ⟨?_, ?h1, ?h2⟩
    case h1 =>
      simp -implicitDefEqProofs [loopS_eq, c87L0, hi, hpl, wi, w1, w2, t1, b1, b1', b2, hv, hlim, hti]
      exact rfl
    case h2 => simp -implicitDefEqProofs [pI_snoc]
  · simp -implicitDefEqProofs [inv, loopS_eq, c87L0]
  · simp [loopFuel]; omega

theorem padded89 {n : Nat} (hn : 1 ≤ n) (l : List Int) (h0 : 0 < l.length) (hl : l.length < 100000) (p q : Nat) (hp : p < 100000) (hq : q < 100000) : RUN n 89 [isl l, iv p, iv q] = .ret (.own (pI (padO l p q)) (p + l.length + q) 1) := by
  obtain ⟨d, rfl⟩ : ∃ d, n = d + 1 := ⟨n - 1, by omega⟩
  rw [RUN, call_eq fe89 _ rfl]
  have hg0 : l.getD 0 0 = l[0] := by simp [List.getD_eq_getElem?_getD, List.getElem?_eq_getElem h0]
  have hg1 : l.getD (l.length - 1) 0 = l[l.length - 1] := by simp [List.getD_eq_getElem?_getD, List.getElem?_eq_getElem (show l.length - 1 < l.length by omega)]
  unfold padO
  rw [hg0, hg1]
  generalize hv0 : l[0] = x0
  generalize hv1 : l[l.length - 1] = x1
  let inv : Nat → St := fun i => ⟨[(0, isl l), (2, iv q), (7, .sl 0 i 0 i), (8, iv p), (9, iv i)], [(0, .arr (pI (List.replicate i x0)) i 1)]⟩
  let inv2 : Nat → St := fun i => ⟨[(0, isl l), (7, .sl 0 (p + 1 + i) 0 (p + l.length + i)), (21, iv q), (22, iv i)], [(0, .arr (pI (List.replicate p x0 ++ l ++ List.replicate i x1)) (p + 1 + i) 1)]⟩
  simp -implicitDefEqProofs [c89]
  rw [loop_run' inv p (e := .exit 0) (st' := ⟨(inv p).env ++ [(10, .p (.bool false))], (inv p).sto⟩) (by simp) (by rfl) (by
    intro i hi
    have hlim : i + 1 ≤ lim := by simp only [lim]; omega
    have wi := wrap_succ (i := i) (by omega)
    have hr : List.replicate (i + 1) x0 = List.replicate i x0 ++ [x0] := List.replicate_succ' ..
    simp only [inv, hr]
    generalize hR : List.replicate i x0 = R at *
    have hRl : R.length = i := by rw [← hR]; simp
    refine ⟨?_, ?h1, ?h2⟩
    case h1 =>
      simp -implicitDefEqProofs [loopS_eq, c89L0, hi, wi, hv0, h0, hlim, hRl]
      exact rfl
    case h2 => simp -implicitDefEqProofs [pI_snoc]) (by simp -implicitDefEqProofs [inv, loopS_eq, c89L0]) (by simp [loopFuel]; omega)]
  have hlm : p + l.length ≤ lim := by simp only [lim]; omega
  have hap : pI (List.replicate p x0) ++ pI l = pI (List.replicate p x0 ++ l) := by simp [pI]
  have hn0 : ¬ l.length = 0 := by omega
  have hne : ¬ l = [] := fun e => by subst e; simp at h0
  simp -implicitDefEqProofs [inv, hlm, hn0, hap]
  rw [loop_run' inv2 q (e := .exit 2) (st' := ⟨(inv2 q).env ++ [(23, .p (.bool false))], (inv2 q).sto⟩) (by simp) (by
    simp only [inv2, List.replicate_zero, List.append_nil]; rfl) (by
    intro i hi
    have hlim : p + l.length + i + 1 ≤ lim := by simp only [lim]; omega
    have wi := wrap_succ (i := i) (by omega)
    have w1 := wrap64 (n := (l.length : Int) - 1) (by omega) (by omega)
    have t1 : ((l.length : Int) - 1).toNat = l.length - 1 := by omega
    have b1 : (1 : Int) ≤ (l.length : Int) := by omega
    have b1' : (l.length : Int) - 1 < l.length := by omega
    have b2 : l.length - 1 < l.length := by omega
    have hr : List.replicate p x0 ++ l ++ List.replicate (i + 1) x1 = (List.replicate p x0 ++ l ++ List.replicate i x1) ++ [x1] := by rw [List.replicate_succ']; simp
    simp only [inv2, hr]
    generalize hR : List.replicate p x0 ++ l ++ List.replicate i x1 = R at *
    have hRl : R.length = p + l.length + i := by rw [← hR]; simp; omega
    refine ⟨?_, ?h1, ?h2⟩
    case h1 =>
      simp -implicitDefEqProofs [loopS_eq, c89L1, hi, wi, w1, t1, b1, b1', b2, hv1, hlim, hRl]
      exact rfl
    case h2 => simp -implicitDefEqProofs [pI_snoc, Nat.add_assoc]) (by simp -implicitDefEqProofs [inv2, loopS_eq, c89L1]) (by simp [loopFuel]; omega)]
  simp -implicitDefEqProofs [inv2, Nat.add_assoc]

theorem filt40 {n : Nat} (hn : 6 ≤ n) {xs : List Int} (h : In16 xs) (hl : xs.length ≤ 4096) {k : List Int} (hk : KerOk k) :
    RUN n 40 [.p (.sl (pF (xs.map smpF)) xs.length), .p (.sl (pI k) k.length)] = .ret (filtR (filtO xs (weightsL k) (sumI k * sumI k))) := by
  obtain ⟨m1, m2⟩ := made_ok h
  have hz : krE (xs.map smpF) k = 0 := kr_iff.2 ⟨⟨by simpa using hl, m1⟩, hk⟩
  have := filtered40 hn (xs.map smpF) (by simp; omega) k (by have := hk.2.1; omega)
  rw [if_pos hz, m2] at this
  simp only [fsl, isl, List.length_map] at this
  exact this
theorem pass38 {n : Nat} (hn : 6 ≤ n) {xs : List Int} (h : In16 xs) (hl : xs.length ≤ 4096) {k : List Int} (hk : KerOk k) :
    RUN n 38 [.p (.sl (pF (xs.map smpF)) xs.length), .p (.sl (pI k) k.length)] = .ret (filtR (filtO xs (pE k k.length) (sumI k))) := by
  obtain ⟨m1, m2⟩ := made_ok h
  have hz : krE (xs.map smpF) k = 0 := kr_iff.2 ⟨⟨by simpa using hl, m1⟩, hk⟩
  have := passed38 hn (xs.map smpF) (by simp; omega) k (by have := hk.2.1; omega)
  rw [if_pos hz, m2] at this
  simp only [fsl, isl, List.length_map] at this
  exact this
theorem ints88 {n : Nat} (hn : 2 ≤ n) {o : List Int} (h : In16 o) (hl : o.length < 1000000) : RUN n 88 [.p (.sl (pF (o.map smpF)) o.length)] = .ret (.own (pI o) o.length 1) := by
  obtain ⟨m1, m2⟩ := made_ok h
  have := integers88 hn m1 (by simpa using hl)
  rw [m2] at this
  simp only [fsl, List.length_map] at this
  exact this
theorem eq48 {n : Nat} (hn : 1 ≤ n) {o : List Int} (h : In16 o) (hl : o.length < 1000000) : RUN n 48 [.p (.sl (pF (o.map smpF)) o.length), .p (.sl (pF (o.map smpF)) o.length)] = .ret (.p (.bool true)) := by
  have := same48 hn (made_ok h).1 (by simpa using hl)
  simp only [fsl, List.length_map] at this
  exact this
end Fw
end

section
/- What stays: the loops of the law. -/
set_option maxHeartbeats 8000000
namespace Fw
open Go
attribute [local irreducible] evCode evOps evOpsD evOper evOperD evOp evFn loopN T.All T.bind callPure callOp opsK opsDK restK seqK blockK loopS setK setQ giveK scalK gcK finish finS rfunK yldK yldB loopK

def p8 (l : List Int) : List PVal := l.map (.int .i8)
@[simp] theorem p8_length (l : List Int) : (p8 l).length = l.length := by simp [p8]
@[simp] theorem p8_get (l : List Int) (i : Nat) : (p8 l)[i]? = (l[i]?).map (.int .i8) := by simp [p8]
@[simp] theorem p8_getElem (l : List Int) (i : Nat) (h : i < (p8 l).length) : (p8 l)[i] = .int .i8 (l[i]'(by simpa using h)) := by simp [p8]
abbrev l8 (l : List Int) : AVal := .p (.sl (p8 l) l.length)
/-- the samples of the pulse -/
def wavO (l : List Int) : List Int := l.map fun n => n.tmod 31
@[simp] theorem wavO_length (l : List Int) : (wavO l).length = l.length := by simp [wavO]
theorem tmod_in (n m : Int) (hm : 0 < m) : -m < n.tmod m ∧ n.tmod m < m := by
  have h1 := Int.tmod_lt_of_pos n hm
  have h2 := Int.tmod_lt_of_pos (-n) hm
  rw [Int.neg_tmod] at h2
  omega
theorem wavO_in (l : List Int) : ∀ x ∈ wavO l, -31 < x ∧ x < 31 := by
  intro x hx
  obtain ⟨n, _, rfl⟩ := List.mem_map.1 hx
  exact tmod_in n 31 (by decide)
section
variable {d : Nat}
theorem loop11a (k l : List Int) (hl : l.length ≤ 10) (c : Int) (o0 : Obj) :
    loopN (loopS (evFn F C0 G0 (d + 1)) C0 G0 0 false [0, 1, 5, 7, 8, 9, 69, 70] c11L0) loopFuel ⟨[(0, isl k), (1, l8 l), (5, .ptr 0 0 0), (7, iv c), (8, .sl 1 0 0 0), (9, .sl 2 0 0 0), (69, iv l.length), (70, iv 0)], [(2, .arr [] 0 1), (1, .arr [] 0 1), (0, o0)]⟩ =
    .ret (.exit 0, ⟨[(0, isl k), (1, l8 l), (5, .ptr 0 0 0), (7, iv c), (8, .sl 1 l.length 0 l.length), (9, .sl 2 0 0 0), (69, iv l.length), (70, iv l.length), (71, .p (.bool false))], [(2, .arr [] 0 1), (1, .arr (pI (List.replicate l.length c)) l.length 1), (0, o0)]⟩) := by
  let inv : Nat → St := fun i => ⟨[(0, isl k), (1, l8 l), (5, .ptr 0 0 0), (7, iv c), (8, .sl 1 i 0 i), (9, .sl 2 0 0 0), (69, iv l.length), (70, iv i)], [(2, .arr [] 0 1), (1, .arr (pI (List.replicate i c)) i 1), (0, o0)]⟩
  refine loop_run inv l.length (by simp) (by rfl) ?_ ?_ (by simp [loopFuel]; omega)
  · intro i hi
    have w := wrap_succ (i := i) (by omega)
    have hlim : i + 1 ≤ lim := by simp only [lim]; omega
    have hr : List.replicate (i + 1) c = List.replicate i c ++ [c] := List.replicate_succ' ..
    have hRl : (List.replicate i c).length = i := by simp
    simp only [inv, hr]
    generalize List.replicate i c = R at *
    generalize pI k = K at *
    generalize p8 l = L at *
    simp -implicitDefEqProofs [loopS_eq, c11L0, hi, w, hlim, hRl, ← pI_snoc]
  · simp only [inv]
    generalize pI k = K at *
    generalize p8 l = L at *
    simp -implicitDefEqProofs [loopS_eq, c11L0]

theorem loop11b (k l : List Int) (hl : l.length ≤ 10) (hb : ∀ n ∈ l, -128 ≤ n ∧ n ≤ 127) (t8 : AVal) (o1 o0 : Obj) :
    loopN (loopS (evFn F C0 G0 (d + 1)) C0 G0 0 false [0, 5, 8, 9, 77, 78, 79] c11L1) loopFuel ⟨[(0, isl k), (5, .ptr 0 0 0), (8, t8), (9, .sl 2 0 0 0), (77, l8 l), (78, iv l.length), (79, iv 0)], [(2, .arr [] 0 1), (1, o1), (0, o0)]⟩ =
    .ret (.exit 2, ⟨[(0, isl k), (5, .ptr 0 0 0), (8, t8), (9, .sl 2 l.length 0 l.length), (77, l8 l), (78, iv l.length), (79, iv l.length), (80, .p (.bool false))], [(2, .arr (pI (wavO l)) l.length 1), (1, o1), (0, o0)]⟩) := by
  let inv : Nat → St := fun i => ⟨[(0, isl k), (5, .ptr 0 0 0), (8, t8), (9, .sl 2 i 0 i), (77, l8 l), (78, iv l.length), (79, iv i)], [(2, .arr (pI ((wavO l).take i)) i 1), (1, o1), (0, o0)]⟩
  have htake : (wavO l).take l.length = wavO l := List.take_of_length_le (by simp)
  refine loop_run inv l.length (by simp) (by rfl) ?_ ?_ (by simp [loopFuel]; omega)
  · intro i hi
    have w := wrap_succ (i := i) (by omega)
    have hlim : i + 1 ≤ lim := by simp only [lim]; omega
    have hb' := hb l[i] (List.getElem_mem hi)
    have w1 := wrap64 (n := l[i]) (by omega) (by omega)
    have hm := tmod_in l[i] 31 (by decide)
    have w2 := wrap64 (n := l[i].tmod 31) (by omega) (by omega)
    have hr : (wavO l).take (i + 1) = (wavO l).take i ++ [l[i].tmod 31] := by
      rw [List.take_add_one]
      have : (wavO l)[i]? = some (l[i].tmod 31) := by simp [wavO, hi]
      rw [this]; rfl
    have hti : ((wavO l).take i).length = i := by simp; omega
    simp only [inv, hr]
    generalize (wavO l).take i = R at *
    generalize hx : l[i] = x at *
    generalize hy : x.tmod 31 = y at *
    generalize pI k = K at *
    simp -implicitDefEqProofs [loopS_eq, c11L1, hi, hx, hy, w, w1, hlim, hti, ← pI_snoc]
  · simp only [inv, htake]
    generalize pI k = K at *
    simp -implicitDefEqProofs [loopS_eq, c11L1]

/-- the weights are symmetrical; their sum -/
theorem loop11c (k W : List Int) (hW : W.length < 100) (hb : ∀ i, i ≤ W.length → -10000000 ≤ sumN (fun m => W.getD m 0) i ∧ sumN (fun m => W.getD m 0) i ≤ 10000000) (hs : ∀ i, i < W.length → W.getD i 0 = W.getD (W.length - 1 - i) 0) (t9 t17 : AVal) (S : Sto) (e : Env) (he : restrict e [0, 5, 9, 16, 17, 19, 146, 147, 148] = [(0, isl k), (5, .ptr 0 0 0), (9, t9), (16, isl W), (17, t17), (19, iv 0), (146, isl W), (147, iv W.length), (148, iv 0)]) :
    loopN (loopS (evFn F C0 G0 (d + 1)) C0 G0 0 false [0, 5, 9, 16, 17, 19, 146, 147, 148] c11L2) loopFuel ⟨e, S⟩ =
    .ret (.exit 4, ⟨[(0, isl k), (5, .ptr 0 0 0), (9, t9), (16, isl W), (17, t17), (19, iv (sumN (fun m => W.getD m 0) W.length)), (146, isl W), (147, iv W.length), (148, iv W.length), (149, .p (.bool false))], S⟩) := by
  let inv : Nat → St := fun i => ⟨[(0, isl k), (5, .ptr 0 0 0), (9, t9), (16, isl W), (17, t17), (19, iv (sumN (fun m => W.getD m 0) i)), (146, isl W), (147, iv W.length), (148, iv i)], S⟩
  have h0 : loopS (evFn F C0 G0 (d + 1)) C0 G0 0 false [0, 5, 9, 16, 17, 19, 146, 147, 148] c11L2 ⟨e, S⟩ = loopS (evFn F C0 G0 (d + 1)) C0 G0 0 false [0, 5, 9, 16, 17, 19, 146, 147, 148] c11L2 (inv 0) := by
    simp only [loopS_eq, he]; rfl
  refine loop_run inv W.length (by simp) h0 ?_ ?_ (by simp [loopFuel]; omega)
  · intro i hi
    have w := wrap_succ (i := i) (by omega)
    have hb' := hb (i + 1) (by omega)
    have hs' := hs i hi
    have w1 := wrap64 (n := sumN (fun m => W.getD m 0) i + W.getD i 0) (by simp only [sumN] at hb'; omega) (by simp only [sumN] at hb'; omega)
    have w2 := wrap64 (n := (W.length : Int) - 1) (by omega) (by omega)
    have w3 := wrap64 (n := (W.length : Int) - 1 - i) (by omega) (by omega)
    have t1 : ((W.length : Int) - 1 - i).toNat = W.length - 1 - i := by omega
    have b1 : (i : Int) ≤ (W.length : Int) - 1 := by omega
    have b1' : (W.length : Int) - 1 - i < W.length := by omega
    have b2 : W.length - 1 - i < W.length := by omega
    have g1 : W[i] = W.getD i 0 := by simp [List.getD_eq_getElem?_getD, List.getElem?_eq_getElem hi]
    have g2 : W[W.length - 1 - i] = W.getD i 0 := by rw [hs']; simp [List.getD_eq_getElem?_getD, List.getElem?_eq_getElem b2]
    simp only [inv, sumN]
    generalize W.getD i 0 = v at *
    generalize sumN (fun m => W.getD m 0) i = s at *
    generalize hm : W.length - 1 - i = m at *
    generalize pI k = K at *
    simp -implicitDefEqProofs [loopS_eq, c11L2, hi, g1, g2, w, w1, w2, w3, t1, b1, b1', b2]
  · simp only [inv]
    generalize pI k = K at *
    generalize pI W = A at *
    simp -implicitDefEqProofs [loopS_eq, c11L2]
end
end Fw
end

section
/- What stays: the law's first part. -/
set_option maxHeartbeats 16000000
namespace Fw
open Go
attribute [local irreducible] evCode evOps evOpsD evOper evOperD evOp evFn loopN T.All T.bind callPure callOp opsK opsDK restK seqK blockK loopS setK setQ giveK scalK gcK finish finS rfunK yldK yldB loopK

def hdS : ACode → ACode
  | .seq a _ => a
  | c => c
def tlS : ACode → ACode
  | .seq _ b => b
  | c => c
@[irreducible] def t11a : ACode := tlS (tlS (tlS (tlS (tlS (tlS c11.body)))))
theorem c11_a : c11.body = .seq (hdS c11.body) (.seq (hdS (tlS c11.body)) (.seq (hdS (tlS (tlS c11.body))) (.seq (hdS (tlS (tlS (tlS c11.body)))) (.seq (hdS (tlS (tlS (tlS (tlS c11.body))))) (.seq (hdS (tlS (tlS (tlS (tlS (tlS c11.body)))))) t11a))))) := by unfold t11a; rfl
abbrev u8 (x : Int) : AVal := .p (.int .u8 x)
/-- the store after the first loops -/
def S11 (l Z : List Int) (n0 n1 : Int) : Sto := [(2, .arr (pI (wavO l)) l.length 1), (1, .arr (pI Z) l.length 1), (0, .arr [.int .u8 n0, .int .u8 n1] 0 1)]
def e11 (k l : List Int) : Env := [(0, isl k), (5, .ptr 0 0 0), (8, .sl 1 l.length 0 l.length), (9, .sl 2 l.length 0 l.length), (77, l8 l), (78, iv l.length), (79, iv l.length), (80, .p (.bool false))]
theorem stay1 (ka : RUN 60 15 [] = .ret (.p (.bool true))) (k l : List Int) (hb : ∀ n ∈ l, -128 ≤ n ∧ n ≤ 127) (n0 n1 : Int) (b0 : 0 ≤ n0 ∧ n0 ≤ 255) :
    RUN 61 11 [isl k, l8 l, .agg [u8 n0, u8 n1]] = .ret (.p (.bool true)) ∨ (KerOk k ∧ 1 ≤ l.length ∧ l.length ≤ 10 ∧ RUN 61 11 [isl k, l8 l, .agg [u8 n0, u8 n1]] = (evCode (evFn F C0 G0 60) C0 G0 0 t11a ⟨e11 k l, S11 l (List.replicate l.length (n0 - 128)) n0 n1⟩).bind (finish [.tmp 6])) := by
  rw [RUN, call_eq (d := 60) fe11 _ rfl, c11_a]
  have s2 := short37 (n := 60) (by omega) k
  by_cases c2 : k.length ≤ 8
  · have s3 := ker42 (n := 60) (by omega) k (by omega)
    by_cases z : kerE k = 0
    · have hk := ker_iff.1 z
      by_cases c4 : (l.length : Int) < 1
      · refine .inl ?_
        rw [z] at s3
        simp -implicitDefEqProofs [hdS, tlS, c11, ka, s2, s3, c2, c4]
      · by_cases c5 : (10 : Int) < l.length
        · refine .inl ?_
          rw [z] at s3
          simp -implicitDefEqProofs [hdS, tlS, c11, ka, s2, s3, c2, c4, c5]
        · refine .inr ⟨hk, by omega, by omega, ?_⟩
          have w1 := wrap64 (n := n0) (by omega) (by omega)
          have w2 := wrap64 (n := n0 - 128) (by omega) (by omega)
          have l1 := loop11a (d := 59) k l (by omega) (n0 - 128) (.arr [.int .u8 n0, .int .u8 n1] 0 1)
          have l2 := loop11b (d := 59) k l (by omega) hb (.sl 1 l.length 0 l.length) (.arr (pI (List.replicate l.length (n0 - 128))) l.length 1) (.arr [.int .u8 n0, .int .u8 n1] 0 1)
          rw [z] at s3
          simp -implicitDefEqProofs [hdS, tlS, c11, s2, s3, c2, c4, c5, w1, w2]
          rw [l1]
          simp -implicitDefEqProofs []
          rw [l2]
          simp -implicitDefEqProofs [e11, S11]
    · refine .inl ?_
      have zb : (kerE k != 0) = true := by simpa using z
      simp -implicitDefEqProofs [hdS, tlS, c11, ka, s2, s3, c2, zb]
  · refine .inl ?_
    simp -implicitDefEqProofs [hdS, tlS, c11, ka, s2, c2]
end Fw
end

section
/- What stays: a constant record, and the weights. -/
set_option maxHeartbeats 16000000
namespace Fw
open Go
attribute [local irreducible] evCode evOps evOpsD evOper evOperD evOp evFn loopN T.All T.bind callPure callOp opsK opsDK restK seqK blockK loopS setK setQ giveK scalK gcK finish finS rfunK yldK yldB loopK

@[irreducible] def t11b : ACode := tlS (tlS (tlS (tlS (tlS (tlS (tlS t11a))))))
theorem t11_b : t11a = .seq (hdS t11a) (.seq (hdS (tlS t11a)) (.seq (hdS (tlS (tlS t11a))) (.seq (hdS (tlS (tlS (tlS t11a)))) (.seq (hdS (tlS (tlS (tlS (tlS t11a))))) (.seq (hdS (tlS (tlS (tlS (tlS (tlS t11a)))))) (.seq (hdS (tlS (tlS (tlS (tlS (tlS (tlS t11a))))))) t11b)))))) := by unfold t11b t11a; rfl
def S12 (l Z : List Int) (n0 n1 : Int) : Sto := [(2, .arr (pI (wavO l)) l.length 1), (1, .frz (pI Z) l.length 1), (0, .arr [.int .u8 n0, .int .u8 n1] 0 1)]
def e12 (k l : List Int) : Env := [(0, isl k), (5, .ptr 0 0 0), (9, .sl 2 l.length 0 l.length), (173, .p (.bool false))]
theorem stay2 {k : List Int} (hk : KerOk k) (l Z : List Int) (hl : l.length ≤ 10) (hZ : In16 Z) (hZl : Z.length = l.length) (hf : filtO Z (weightsL k) (sumI k * sumI k) = Z) (hp : filtO Z (pE k k.length) (sumI k) = Z) (n0 n1 : Int) :
    (evCode (evFn F C0 G0 60) C0 G0 0 t11a ⟨e11 k l, S11 l Z n0 n1⟩).bind (finish [.tmp 6]) = (evCode (evFn F C0 G0 60) C0 G0 0 t11b ⟨e12 k l, S12 l Z n0 n1⟩).bind (finish [.tmp 6]) := by
  rw [t11_b]
  have k86 := made86 (n := 60) (by omega) hZ (by omega)
  have k39 := ints39 (n := 60) (by omega) k (by have := hk.2.1; omega)
  have k40 := filt40 (n := 60) (by omega) hZ (by omega) hk
  have k38 := pass38 (n := 60) (by omega) hZ (by omega) hk
  have k41 := weights41 (n := 60) (by omega) k (by have := hk.2.1; omega)
  have k48 := eq48 (n := 60) (by omega) hZ (by omega)
  rw [if_pos (ker_iff.2 hk)] at k41
  have hin : inB Z = true := in_iff.2 hZ
  rw [hf, filtR, if_pos hin] at k40
  rw [hp, filtR, if_pos hin] at k38
  have hWl : (refW k).length = 2 * k.length - 1 := rI_length k k.length
  have hsum := refW_sum k
  have hk1 := hk.1
  have hk2 := hk.2.1
  have hpart : ∀ i, i ≤ (refW k).length → -10000000 ≤ sumN (fun m => (refW k).getD m 0) i ∧ sumN (fun m => (refW k).getD m 0) i ≤ 10000000 := by
    intro i hi
    have hb := rI_bnd hk.2.2.1 hk.2.1 k.length (Nat.le_refl _)
    have := sumN_bound (f := fun m => (refW k).getD m 0) (B := 490000) i (fun m _ => by
      have := hb m
      show ((((rI k k.length).getD m 0).natAbs : Nat) : Int) ≤ 490000
      omega)
    omega
  have hc := loop11c (d := 59) k (refW k) (by omega) hpart (fun i hi => by
    rw [hWl] at hi ⊢
    exact refW_sym hi)
  obtain ⟨_, _, hD0, hD1⟩ := ker_D hk
  obtain ⟨m, hm⟩ : ∃ m, 2 * k.length - 1 = m := ⟨_, rfl⟩
  have hmi : (m : Int) = 2 * (k.length : Int) - 1 := by omega
  rw [hm] at hWl k41
  generalize refW k = W at *
  simp only [isl, hWl, hmi] at hc
  rw [hWl] at hsum
  rw [hsum] at hc
  generalize sumI k * sumI k = D at *
  have w1 := wrap64 (n := 2 * (k.length : Int)) (by omega) (by omega)
  have w2 := wrap64 (n := 2 * (k.length : Int) - 1) (by omega) (by omega)
  have d1 : ¬ D < 1 := by omega
  simp only [fsl, isl, List.length_map, hZl] at k86 k39 k40 k38 k41 k48
  generalize pF (Z.map smpF) = PZ at *
  simp only [e11, S11, e12, S12, isl]
  generalize pI k = K at *
  have hZp : (pI Z).length = l.length := by simp [hZl]
  generalize pI Z = QZ at *
  simp -implicitDefEqProofs [hdS, tlS, t11a, c11, k86, k39, k40, k38, k41, k48, w1, w2, hmi, hZp]
  rw [hc _ _ _ _ rfl]
  simp -implicitDefEqProofs [d1]
end Fw
end

section
/- What stays: a record that is turned around. -/
set_option maxHeartbeats 16000000
namespace Fw
open Go
attribute [local irreducible] evCode evOps evOpsD evOper evOperD evOp evFn loopN T.All T.bind callPure callOp opsK opsDK restK seqK blockK loopS setK setQ giveK scalK gcK finish finS rfunK yldK yldB loopK

@[irreducible] def t11c : ACode := tlS (tlS (tlS (tlS t11b)))
theorem t11_c : t11b = .seq (hdS t11b) (.seq (hdS (tlS t11b)) (.seq (hdS (tlS (tlS t11b))) (.seq (hdS (tlS (tlS (tlS t11b)))) t11c))) := by unfold t11c t11b t11a; rfl
def S13 (V QZ : List PVal) (n : Nat) (n0 n1 : Int) : Sto := [(2, .frz V n 1), (1, .frz QZ n 1), (0, .arr [.int .u8 n0, .int .u8 n1] 0 1)]
def e13 (k : List Int) (O : List Nat) (n : Nat) : Env := [(0, isl k), (5, .ptr 0 0 0), (9, .sl 2 n 0 n), (22, .p (.sl (pF O) n)), (217, .p (.bool false))]
theorem stay3 (ka : RUN 60 15 [] = .ret (.p (.bool true))) {k : List Int} (hk : KerOk k) (V : List Int) (QZ : List PVal) (n : Nat) (hV : In16 V) (hVl : V.length = n) (hn : n ≤ 10) (n0 n1 : Int) :
    (evCode (evFn F C0 G0 60) C0 G0 0 t11b ⟨[(0, isl k), (5, .ptr 0 0 0), (9, .sl 2 n 0 n), (173, .p (.bool false))], [(2, .arr (pI V) n 1), (1, .frz QZ n 1), (0, .arr [.int .u8 n0, .int .u8 n1] 0 1)]⟩).bind (finish [.tmp 6]) = .ret (.p (.bool true)) ∨
    (In16 (filtO V (weightsL k) (sumI k * sumI k)) ∧ (evCode (evFn F C0 G0 60) C0 G0 0 t11b ⟨[(0, isl k), (5, .ptr 0 0 0), (9, .sl 2 n 0 n), (173, .p (.bool false))], [(2, .arr (pI V) n 1), (1, .frz QZ n 1), (0, .arr [.int .u8 n0, .int .u8 n1] 0 1)]⟩).bind (finish [.tmp 6]) = (evCode (evFn F C0 G0 60) C0 G0 0 t11c ⟨e13 k ((filtO V (weightsL k) (sumI k * sumI k)).map smpF) n, S13 (pI V) QZ n n0 n1⟩).bind (finish [.tmp 6])) := by
  rw [t11_c]
  have hR : In16 V.reverse := fun x hx => hV x (by simpa using hx)
  have hRl : V.reverse.length = n := by simp [hVl]
  have k39 := ints39 (n := 60) (by omega) k (by have := hk.2.1; omega)
  have k86 := made86 (n := 60) (by omega) hV (by omega)
  have k86r := made86 (n := 60) (by omega) hR (by omega)
  have k87 := turned87 (n := 60) (by omega) V (by omega)
  have k40 := filt40 (n := 60) (by omega) hV (by omega) hk
  have k40r := filt40 (n := 60) (by omega) hR (by omega) hk
  have hO := filt_rev V k (sumI k * sumI k)
  have hOl := filtO_length V (weightsL k) (sumI k * sumI k)
  rw [hO, filtR, inB_rev] at k40r
  rw [filtR] at k40
  generalize filtO V (weightsL k) (sumI k * sumI k) = O at *
  have hVp : (pI V).length = n := by simp [hVl]
  by_cases hin : inB O = true
  · have hI := in_iff.1 hin
    have hIr : In16 O.reverse := fun x hx => hI x (by simpa using hx)
    have hOn : O.length = n := by omega
    have hOr : O.reverse.length = n := by simp [hOn]
    have k88 := ints88 (n := 60) (by omega) hI (by omega)
    have k88r := ints88 (n := 60) (by omega) hIr (by omega)
    have k87o := turned87 (n := 60) (by omega) O (by omega)
    have k49 := same49 (n := 60) (by omega) O.reverse O.reverse (by omega)
    rw [if_pos hin] at k40 k40r
    refine .inr ⟨hI, ?_⟩
    generalize O.reverse = O' at *
    generalize V.reverse = V' at *
    simp only [fsl, isl, List.length_map, hVl, hRl, hOn, hOr] at k39 k86 k86r k87 k40 k40r k88 k88r k87o k49
    simp only [e13, S13, isl]
    generalize pF (O'.map smpF) = PO' at *
    generalize pF (O.map smpF) = PO at *
    generalize pF (V'.map smpF) = PV' at *
    generalize pF (V.map smpF) = PV at *
    generalize pI O' = QO' at *
    generalize pI O = QO at *
    generalize pI V' = QV' at *
    generalize pI V = QV at *
    generalize pI k = K at *
    simp -implicitDefEqProofs [hdS, tlS, t11b, t11a, c11, k39, k86, k86r, k87, k40, k40r, k88, k88r, k87o, k49, hVp]
  · refine .inl ?_
    rw [if_neg hin] at k40 k40r
    generalize V.reverse = V' at *
    simp only [isl, hVl, hRl] at k39 k86 k86r k87 k40 k40r
    simp only [isl]
    generalize pF (V'.map smpF) = PV' at *
    generalize pF (V.map smpF) = PV at *
    generalize pI V' = QV' at *
    generalize pI V = QV at *
    generalize pI k = K at *
    simp -implicitDefEqProofs [hdS, tlS, t11b, t11a, c11, k39, k86, k86r, k87, k40, k40r, hVp, ka]
end Fw
end

section
/- What stays: opposite samples. -/
set_option maxHeartbeats 16000000
namespace Fw
open Go
attribute [local irreducible] evCode evOps evOpsD evOper evOperD evOp evFn loopN T.All T.bind callPure callOp opsK opsDK restK seqK blockK loopS setK setQ giveK scalK gcK finish finS rfunK yldK yldB loopK

section
variable {d : Nat}
theorem loop11d (V : List Int) (n : Nat) (hVl : V.length = n) (hn : n ≤ 10) (hb : ∀ x ∈ V, -31 < x ∧ x < 31) (a0 a5 a22 a27 a28 : AVal) (R : Sto) (hR : get R 2 = some (.frz (pI V) n 1)) :
    loopN (loopS (evFn F C0 G0 (d + 1)) C0 G0 0 false [0, 5, 9, 22, 27, 28, 29, 235, 236, 237] c11L3) loopFuel ⟨[(0, a0), (5, a5), (9, .sl 2 n 0 n), (22, a22), (27, a27), (28, a28), (29, .sl 4 0 0 n), (235, .sl 2 n 0 n), (236, iv n), (237, iv 0)], (4, .arr (List.replicate n (.int .i64 0)) 0 1) :: R⟩ =
    .ret (.exit 6, ⟨[(0, a0), (5, a5), (9, .sl 2 n 0 n), (22, a22), (27, a27), (28, a28), (29, .sl 4 0 0 n), (235, .sl 2 n 0 n), (236, iv n), (237, iv n), (238, .p (.bool false))], (4, .arr (pI (V.map fun x => -x)) 0 1) :: R⟩) := by
  let W := V.map fun x => -x
  have hW : W.length = n := by simp [W, hVl]
  let inv : Nat → St := fun i => ⟨[(0, a0), (5, a5), (9, .sl 2 n 0 n), (22, a22), (27, a27), (28, a28), (29, .sl 4 0 0 n), (235, .sl 2 n 0 n), (236, iv n), (237, iv i)], (4, .arr (pI (W.take i ++ List.replicate (n - i) 0)) 0 1) :: R⟩
  have htake : W.take n = W := List.take_of_length_le (by omega)
  refine loop_run inv n (by simp) ?_ ?_ ?_ (by simp [loopFuel]; omega)
  · have : pI (List.replicate n 0) = List.replicate n (.int .i64 0) := by simp [pI]
    simp only [inv, List.take_zero, List.nil_append, Nat.sub_zero, this]; rfl
  · intro i hi
    have wi := wrap_succ (i := i) (by omega)
    have hiV : i < V.length := by omega
    have hbi := hb V[i] (List.getElem_mem hiV)
    have w1 := wrap64 (n := -V[i]) (by omega) (by omega)
    have hset := pI_put W n i hW hi
    have hg : W.getD i 0 = -V[i] := by simp [W, List.getD_eq_getElem?_getD, hiV]
    rw [hg] at hset
    have hlen : (W.take i ++ List.replicate (n - i) 0).length = n := by simp; omega
    have hi1 : i + 1 ≤ n := by omega
    have hpl : (pI V).length = n := by simp [hVl]
    simp only [inv]
    rw [← hset]
    generalize W.take i ++ List.replicate (n - i) 0 = A at *
    generalize hv : V[i] = v at *
    simp -implicitDefEqProofs [loopS_eq, c11L3, hR, hi, hi1, wi, w1, hv, hVl, hlen]
  · simp only [inv, htake, Nat.sub_self, List.replicate_zero, List.append_nil]
    simp -implicitDefEqProofs [loopS_eq, c11L3]
    rfl

theorem loop11e (O N : List Int) (n : Nat) (hOl : O.length = n) (hNl : N.length = n) (hn : n ≤ 10) (hO : In16 O) (hN : In16 N) (h : ∀ i, i < n → N.getD i 0 + O.getD i 0 = 0 ∨ N.getD i 0 + O.getD i 0 = 1) (a0 a5 a9 : AVal) (S : Sto) (e : Env) (he : restrict e [0, 5, 9, 22, 279, 280, 281] = [(0, a0), (5, a5), (9, a9), (22, .p (.sl (pF (O.map smpF)) n)), (279, .p (.sl (pI N) n)), (280, iv n), (281, iv 0)]) :
    loopN (loopS (evFn F C0 G0 (d + 1)) C0 G0 0 false [0, 5, 9, 22, 279, 280, 281] c11L4) loopFuel ⟨e, S⟩ =
    .ret (.exit 8, ⟨[(0, a0), (5, a5), (9, a9), (22, .p (.sl (pF (O.map smpF)) n)), (279, .p (.sl (pI N) n)), (280, iv n), (281, iv n), (282, .p (.bool false))], S⟩) := by
  let inv : Nat → St := fun i => ⟨[(0, a0), (5, a5), (9, a9), (22, .p (.sl (pF (O.map smpF)) n)), (279, .p (.sl (pI N) n)), (280, iv n), (281, iv i)], S⟩
  have h0 : loopS (evFn F C0 G0 (d + 1)) C0 G0 0 false [0, 5, 9, 22, 279, 280, 281] c11L4 ⟨e, S⟩ = loopS (evFn F C0 G0 (d + 1)) C0 G0 0 false [0, 5, 9, 22, 279, 280, 281] c11L4 (inv 0) := by
    simp only [loopS_eq, he]; rfl
  refine loop_run inv n (by simp) h0 ?_ ?_ (by simp [loopFuel]; omega)
  · intro i hi
    have w := wrap_succ (i := i) (by omega)
    have hiO : i < O.length := by omega
    have hiN : i < N.length := by omega
    have hs := h i hi
    have g1 : N.getD i 0 = N[i] := by simp [List.getD_eq_getElem?_getD, List.getElem?_eq_getElem hiN]
    have g2 : O.getD i 0 = O[i] := by simp [List.getD_eq_getElem?_getD, List.getElem?_eq_getElem hiO]
    rw [g1, g2] at hs
    have hOi := hO O[i] (List.getElem_mem hiO)
    have hNi := hN N[i] (List.getElem_mem hiN)
    obtain ⟨_, e1, e2⟩ := smpF_of hOi.1 hOi.2
    have k85 := sixteen85 (n := d + 1) (by omega) e1
    rw [e2] at k85
    have w1 := wrap64 (n := N[i] + O[i]) (by omega) (by omega)
    have hpf : (pF (O.map smpF)).length = n := by simp [hOl]
    have q2 : ∀ q, (pF (O.map smpF))[i]'q = .flt .f32 (smpF O[i]) := fun q => by simp
    simp only [inv]
    generalize pF (O.map smpF) = A at *
    generalize smpF O[i] = f at *
    generalize hv : N[i] = v at *
    generalize O[i] = u at *
    rcases hs with hs | hs <;> rw [hs] at w1
    · simp -implicitDefEqProofs [loopS_eq, c11L4, hi, hv, hNl, hpf, q2, k85, w, w1, hs]
    · simp -implicitDefEqProofs [loopS_eq, c11L4, hi, hv, hNl, hpf, q2, k85, w, w1, hs]
  · simp only [inv]
    generalize pF (O.map smpF) = A at *
    simp -implicitDefEqProofs [loopS_eq, c11L4]
end
end Fw
end

section
/- What stays: a pulse and its mirror image, and the opposite record. -/
set_option maxHeartbeats 16000000
namespace Fw
open Go
attribute [local irreducible] evCode evOps evOpsD evOper evOperD evOp evFn loopN T.All T.bind callPure callOp opsK opsDK restK seqK blockK loopS setK setQ giveK scalK gcK finish finS rfunK yldK yldB loopK

@[irreducible] def t11d : ACode := tlS (tlS (tlS (tlS (tlS (tlS (tlS (tlS t11c)))))))
theorem t11_d : t11c = .seq (hdS t11c) (.seq (hdS (tlS t11c)) (.seq (hdS (tlS (tlS t11c))) (.seq (hdS (tlS (tlS (tlS t11c)))) (.seq (hdS (tlS (tlS (tlS (tlS t11c))))) (.seq (hdS (tlS (tlS (tlS (tlS (tlS t11c)))))) (.seq (hdS (tlS (tlS (tlS (tlS (tlS (tlS t11c))))))) (.seq (hdS (tlS (tlS (tlS (tlS (tlS (tlS (tlS t11c)))))))) t11d))))))) := by unfold t11d t11c t11b t11a; rfl
theorem pulse_rev (V : List Int) : (V ++ V.reverse).reverse = V ++ V.reverse := by simp
theorem stay4 (ka : RUN 60 15 [] = .ret (.p (.bool true))) {k : List Int} (hk : KerOk k) (V : List Int) (QZ : List PVal) (n : Nat) (hVb : ∀ x ∈ V, -31 < x ∧ x < 31) (hVl : V.length = n) (hn0 : 0 < n) (hn : n ≤ 10) (hI : In16 (filtO V (weightsL k) (sumI k * sumI k))) (n0 n1 : Int) :
    (evCode (evFn F C0 G0 60) C0 G0 0 t11c ⟨e13 k ((filtO V (weightsL k) (sumI k * sumI k)).map smpF) n, S13 (pI V) QZ n n0 n1⟩).bind (finish [.tmp 6]) = .ret (.p (.bool true)) ∨
    ∃ A B tl, (evCode (evFn F C0 G0 60) C0 G0 0 t11c ⟨e13 k ((filtO V (weightsL k) (sumI k * sumI k)).map smpF) n, S13 (pI V) QZ n n0 n1⟩).bind (finish [.tmp 6]) = (evCode (evFn F C0 G0 60) C0 G0 0 t11d ⟨(0, isl k) :: (5, .ptr 0 0 0) :: (9, .sl 2 n 0 n) :: (22, .p (.sl (pF ((filtO V (weightsL k) (sumI k * sumI k)).map smpF)) n)) :: tl, [(4, .frz A 0 1), (3, .frz B 2 1), (2, .frz (pI V) n 1), (1, .frz QZ n 1), (0, .arr [.int .u8 n0, .int .u8 n1] 0 1)]⟩).bind (finish [.tmp 6]) := by
  rw [t11_d]
  have hV : In16 V := fun x hx => by have := hVb x hx; omega
  have hR : In16 V.reverse := fun x hx => hV x (by simpa using hx)
  have hRl : V.reverse.length = n := by simp [hVl]
  have hP : In16 (V ++ V.reverse) := fun x hx => by
    rcases List.mem_append.1 hx with h | h
    · exact hV x h
    · exact hR x h
  have hPl : (V ++ V.reverse).length = n + n := by simp [hVl]
  have hN : In16 (V.map fun x => -x) := fun x hx => by
    obtain ⟨y, hy, rfl⟩ := List.mem_map.1 hx
    have := hV y hy; omega
  have hNl : (V.map fun x => -x).length = n := by simp [hVl]
  have k39 := ints39 (n := 60) (by omega) k (by have := hk.2.1; omega)
  have k87 := turned87 (n := 60) (by omega) V (by omega)
  have k86p := made86 (n := 60) (by omega) hP (by omega)
  have k86n := made86 (n := 60) (by omega) hN (by omega)
  have k40p := filt40 (n := 60) (by omega) hP (by omega) hk
  have k40n := filt40 (n := 60) (by omega) hN (by omega) hk
  have hB := filt_rev (V ++ V.reverse) k (sumI k * sumI k)
  rw [pulse_rev] at hB
  have hBl := filtO_length (V ++ V.reverse) (weightsL k) (sumI k * sumI k)
  have hMl := filtO_length (V.map fun x => -x) (weightsL k) (sumI k * sumI k)
  have hOl := filtO_length V (weightsL k) (sumI k * sumI k)
  have hsum := filt_neg V hk
  have l3 := loop11d (d := 59) V n hVl hn hVb
  have hap : pI V ++ pI V.reverse = pI (V ++ V.reverse) := by simp [pI]
  have hVp : (pI V).length = n := by simp [hVl]
  have hNp : (pI (V.map fun x => -x)).length = n := by simp [hVl]
  have hPp : (pI (V ++ V.reverse)).length = n + n := by simp [hVl]
  have hRp : (pI V.reverse).length = n := by simp [hVl]
  have hlm : n ≤ lim := by simp only [lim]; omega
  have hlm2 : n + n ≤ lim := by simp only [lim]; omega
  have hnz : ¬ n = 0 := by omega
  rw [filtR] at k40p k40n
  rw [hPl] at hBl
  rw [hNl] at hMl
  rw [hVl] at hOl
  generalize filtO (V ++ V.reverse) (weightsL k) (sumI k * sumI k) = B at *
  generalize filtO (V.map fun x => -x) (weightsL k) (sumI k * sumI k) = M at *
  generalize filtO V (weightsL k) (sumI k * sumI k) = O at *
  generalize V.map (fun x => -x) = V2 at *
  generalize V.reverse = V' at *
  generalize V ++ V' = P at *
  have k85 := fun S e he hM => loop11e (d := 59) O M n hOl hMl hn hI hM (fun i hi => hsum i (by omega)) (isl k) (.ptr 0 0 0) (.sl 2 n 0 n) S e he
  simp only [fsl, isl, List.length_map, hVl, hPl, hNl, hBl, hMl] at k39 k87 k86p k86n k40p k40n k85
  simp only [e13, S13, isl]
  have hVq : pI V = pI V := rfl
  generalize pI V = QV at *
  generalize pI V2 = QV2 at *
  generalize pI V' = QV' at *
  generalize pI P = QP at *
  generalize pI k = K at *
  generalize pF (P.map smpF) = PP at *
  generalize pF (V2.map smpF) = PV2 at *
  generalize hPO : pF (O.map smpF) = PO at *
  by_cases hinB : inB B = true
  · by_cases hinM : inB M = true
    · have hIB := in_iff.1 hinB
      have hIM := in_iff.1 hinM
      rw [if_pos hinB] at k40p
      rw [if_pos hinM] at k40n
      have k88b := ints88 (n := 60) (by omega) hIB (by omega)
      have k87b := turned87 (n := 60) (by omega) B (by omega)
      rw [← hB] at k87b
      have k49 := same49 (n := 60) (by omega) B B (by omega)
      have k88m := ints88 (n := 60) (by omega) hIM (by omega)
      have k85 := fun S e he => k85 S e he hIM
      simp only [isl, hBl, hMl] at k88b k87b k49 k88m
      have hMp : (pI M).length = n := by simp [hMl]
      generalize pF (B.map smpF) = PB at *
      generalize pF (M.map smpF) = PM at *
      generalize pI B = QB at *
      generalize pI M = QM at *
      simp -implicitDefEqProofs [hdS, tlS, t11c, t11b, t11a, c11, k39, k87, k86p, k40p, hVp, hRp, hPp, hap, hlm, hlm2, hnz]
      rw [l3 _ _ _ _ _ _ (by simp)]
      simp -implicitDefEqProofs [k39, k86n, k40n, k88b, k87b, k49, k88m, hNp]
      rw [k85 _ _ rfl]
      simp -implicitDefEqProofs []
      exact .inr ⟨_, _, _, rfl⟩
    · rw [if_neg hinM] at k40n
      refine .inl ?_
      by_cases hb : inB B = true
      · rw [if_pos hinB] at k40p
        simp -implicitDefEqProofs [hdS, tlS, t11c, t11b, t11a, c11, k39, k87, k86p, k40p, hVp, hRp, hPp, hap, hlm, hlm2, hnz]
        rw [l3 _ _ _ _ _ _ (by simp)]
        simp -implicitDefEqProofs [k39, k86n, k40n, hNp, ka]
      · exact absurd hinB hb
  · rw [if_neg hinB] at k40p
    refine .inl ?_
    by_cases hinM : inB M = true
    · rw [if_pos hinM] at k40n
      simp -implicitDefEqProofs [hdS, tlS, t11c, t11b, t11a, c11, k39, k87, k86p, k40p, hVp, hRp, hPp, hap, hlm, hlm2, hnz]
      rw [l3 _ _ _ _ _ _ (by simp)]
      simp -implicitDefEqProofs [k39, k86n, k40n, hNp, ka]
    · rw [if_neg hinM] at k40n
      simp -implicitDefEqProofs [hdS, tlS, t11c, t11b, t11a, c11, k39, k87, k86p, k40p, hVp, hRp, hPp, hap, hlm, hlm2, hnz]
      rw [l3 _ _ _ _ _ _ (by simp)]
      simp -implicitDefEqProofs [k39, k86n, k40n, hNp, ka]
end Fw
end

section
/- What stays: a record that is later. -/
set_option maxHeartbeats 16000000
namespace Fw
open Go
attribute [local irreducible] evCode evOps evOpsD evOper evOperD evOp evFn loopN T.All T.bind callPure callOp opsK opsDK restK seqK blockK loopS setK setQ giveK scalK gcK finish finS rfunK yldK yldB loopK

theorem padO_in {V : List Int} (hV : In16 V) (h0 : 0 < V.length) (p q : Nat) : In16 (padO V p q) := fun x hx => by
  have g : ∀ i, i < V.length → V.getD i 0 ∈ V := fun i hi => by
    rw [List.getD_eq_getElem?_getD, List.getElem?_eq_getElem hi]; exact List.getElem_mem hi
  unfold padO at hx
  rcases List.mem_append.1 hx with h | h
  · rcases List.mem_append.1 h with h | h
    · rw [List.eq_of_mem_replicate h]; exact hV _ (g 0 h0)
    · exact hV x h
  · rw [List.eq_of_mem_replicate h]; exact hV _ (g _ (by omega))
theorem pF_takeM (l : List Nat) (k : Nat) : (pF l).take k = pF (l.take k) := by simp [pF, List.map_take]
theorem pF_dropM (l : List Nat) (k : Nat) : (pF l).drop k = pF (l.drop k) := by simp [pF, List.map_drop]
theorem stay5 (ka : RUN 60 15 [] = .ret (.p (.bool true))) {k : List Int} (hk : KerOk k) (V : List Int) (A B QZ : List PVal) (tl : Env) (n : Nat) (hVb : ∀ x ∈ V, -31 < x ∧ x < 31) (hVl : V.length = n) (hn0 : 0 < n) (hn : n ≤ 10) (hI : In16 (filtO V (weightsL k) (sumI k * sumI k))) (n0 n1 : Int) (b1 : 0 ≤ n1 ∧ n1 ≤ 255) :
    (evCode (evFn F C0 G0 60) C0 G0 0 t11d ⟨(0, isl k) :: (5, .ptr 0 0 0) :: (9, .sl 2 n 0 n) :: (22, .p (.sl (pF ((filtO V (weightsL k) (sumI k * sumI k)).map smpF)) n)) :: tl, [(4, .frz A 0 1), (3, .frz B 2 1), (2, .frz (pI V) n 1), (1, .frz QZ n 1), (0, .arr [.int .u8 n0, .int .u8 n1] 0 1)]⟩).bind (finish [.tmp 6]) = .ret (.p (.bool true)) := by
  have hV : In16 V := fun x hx => by have := hVb x hx; omega
  have h0V : 0 < V.length := by omega
  have hk0 := hk.1
  have hk7 := hk.2.1
  have hm := tmod_in n1 6 (by decide)
  have hm0 := Int.tmod_nonneg 6 b1.1
  obtain ⟨t, ht⟩ : ∃ t : Nat, n1.tmod 6 = t := ⟨(n1.tmod 6).toNat, by omega⟩
  obtain ⟨e, he⟩ : ∃ e : Nat, k.length - 1 = e := ⟨_, rfl⟩
  have hke : (k.length : Int) - 1 = e := by omega
  have hL := padO_in hV h0V e e
  have hL2 := padO_in hV h0V (e + t) e
  have hLl : (padO V e e).length = e + n + e := by rw [padO_length, hVl]
  have hL2l : (padO V (e + t) e).length = e + t + n + e := by rw [padO_length, hVl]
  have k39 := ints39 (n := 60) (by omega) k (by omega)
  have k89a := padded89 (n := 60) (by omega) V h0V (by omega) e e (by omega) (by omega)
  have k89b := padded89 (n := 60) (by omega) V h0V (by omega) (e + t) e (by omega) (by omega)
  have k86a := made86 (n := 60) (by omega) hL (by omega)
  have k86b := made86 (n := 60) (by omega) hL2 (by omega)
  have k40a := filt40 (n := 60) (by omega) hL (by omega) hk
  have k40b := filt40 (n := 60) (by omega) hL2 (by omega) hk
  have hb := inB_late hk h0V hV t e
  have hd := filt_late V k (sumI k * sumI k) h0V e t e
  have hmid := filt_mid V k (sumI k * sumI k) h0V e e
  rw [he] at hb
  have hXl := filtO_length (padO V e e) (weightsL k) (sumI k * sumI k)
  have hYl := filtO_length (padO V (e + t) e) (weightsL k) (sumI k * sumI k)
  have hOl := filtO_length V (weightsL k) (sumI k * sumI k)
  rw [hLl] at hXl
  rw [hL2l] at hYl
  rw [hVl] at hOl hmid
  rw [filtR] at k40a k40b
  rw [hb] at k40b
  generalize filtO (padO V e e) (weightsL k) (sumI k * sumI k) = X at *
  generalize filtO (padO V (e + t) e) (weightsL k) (sumI k * sumI k) = Y at *
  generalize filtO V (weightsL k) (sumI k * sumI k) = O at *
  have w1 := wrap64 (n := n1) (by omega) (by omega)
  have w2 := wrap64 (n := (e : Int)) (by omega) (by omega)
  have w3 := wrap64 (n := (e : Int) + t) (by omega) (by omega)
  have w4 := wrap64 (n := (e : Int) + n) (by omega) (by omega)
  have w5 := wrap64 (n := ((e : Int) + n + e) + t) (by omega) (by omega)
  have hpd : (pF (Y.map smpF)).drop t = pF (X.map smpF) := by rw [pF_dropM, ← List.map_drop, hd]
  have hpm : ((pF (X.map smpF)).take (e + n)).drop e = pF (O.map smpF) := by rw [pF_takeM, pF_dropM, ← List.map_take, ← List.map_drop, hmid]
  have hPX : (pF (X.map smpF)).length = e + n + e := by simp [hXl]
  have hPY : (pF (Y.map smpF)).length = e + t + n + e := by simp [hYl]
  have hVp : (pI V).length = n := by simp [hVl]
  have hPYt : (pF (Y.map smpF)).take (e + t + n + e) = pF (Y.map smpF) := List.take_of_length_le (by omega)
  have q7 : (e : Int) ≤ (e : Int) + n := by omega
  have q8 : (e : Int) + n ≤ (e : Int) + n + e := by omega
  have q9 : ((e : Int) + n).toNat = e + n := by omega
  have qa : (0 : Int) ≤ (e : Int) + n := by omega
  have qb : e ≤ e + n := by omega
  have qc : e ≤ e + n + e := by omega
  have q1 : ((e : Int) + t + n + e == (e : Int) + n + e + t) = true := by rw [beq_iff_eq]; omega
  have q2 : (t : Int) ≤ (e : Int) + t + n + e := by omega
  have q3 : e + t + n + e - t = e + n + e := by omega
  have q4 : e + n - e = n := by omega
  have q5 : t ≤ e + t + n + e := by omega
  have q6 : e + n ≤ e + n + e := by omega
  simp only [fsl, isl, List.length_map, hVl, hLl, hL2l, hXl, hYl, Int.natCast_add] at k39 k89a k89b k86a k86b k40a k40b
  simp only [isl]
  by_cases hin : inB X = true
  · have hIX := in_iff.1 hin
    have k48a := eq48 (n := 60) (by omega) hIX (by omega)
    have k48b := eq48 (n := 60) (by omega) hI (by omega)
    rw [if_pos hin] at k40a k40b
    simp only [hXl, hOl] at k48a k48b
    generalize pF (X.map smpF) = PX at *
    generalize pF (Y.map smpF) = PY at *
    generalize pF (O.map smpF) = PO at *
    generalize pF ((padO V e e).map smpF) = PL at *
    generalize pF ((padO V (e + t) e).map smpF) = PL2 at *
    generalize pI (padO V e e) = QL at *
    generalize pI (padO V (e + t) e) = QL2 at *
    generalize pI V = QV at *
    generalize pI k = K at *
    simp -implicitDefEqProofs [tlS, t11d, t11c, t11b, t11a, c11, ka, k39, k89a, k89b, k86a, k86b, k40a, k40b, k48a, k48b, hVp, hPX, hPY, hpd, hpm, ht, hke, w1, w2, w3, w4, w5, hPYt, q1, q2, q3, q4, q5, q7, q8, q9, qa, qc]
  · rw [if_neg hin] at k40a k40b
    generalize pF ((padO V e e).map smpF) = PL at *
    generalize pF ((padO V (e + t) e).map smpF) = PL2 at *
    generalize pI (padO V e e) = QL at *
    generalize pI (padO V (e + t) e) = QL2 at *
    generalize pI V = QV at *
    generalize pI k = K at *
    simp -implicitDefEqProofs [tlS, t11d, t11c, t11b, t11a, c11, ka, k39, k89a, k89b, k86a, k86b, k40a, k40b, hVp, ht, hke, w1, w2, w3]

theorem stay_at (ka : RUN 60 15 [] = .ret (.p (.bool true))) (k l : List Int) (hb : ∀ n ∈ l, -128 ≤ n ∧ n ≤ 127) (n0 n1 : Int) (b0 : 0 ≤ n0 ∧ n0 ≤ 255) (b1 : 0 ≤ n1 ∧ n1 ≤ 255) : RUN 61 11 [isl k, l8 l, .agg [u8 n0, u8 n1]] = .ret (.p (.bool true)) := by
  rcases stay1 ka k l hb n0 n1 b0 with h | ⟨hk, h1, h2, h⟩
  · exact h
  · rw [h, stay2 hk l _ h2 (fun x hx => by rw [List.eq_of_mem_replicate hx]; omega) (by simp) (filt_const hk _ _) (pass_const hk _ _)]
    have hVl := wavO_length l
    have hVb := wavO_in l
    unfold e12 S12
    generalize pI (List.replicate l.length (n0 - 128)) = QZ
    rcases stay3 ka hk (wavO l) QZ l.length (fun x hx => by have := hVb x hx; omega) hVl h2 n0 n1 with h3 | ⟨hI, h3⟩
    · exact h3
    · rw [h3]
      rcases stay4 ka hk (wavO l) QZ l.length hVb hVl (by omega) h2 hI n0 n1 with h4 | ⟨A, B, tl, h4⟩
      · exact h4
      · rw [h4]
        exact stay5 ka hk (wavO l) A B QZ tl l.length hVb hVl (by omega) h2 hI n0 n1 b1
end Fw
end

