/- Several texts in one: each is told at its head. -/
import Derived.Test.YtbaedpfgjpkabaaGreatDoorChSy3
import Derived.Test.YtbaedpfgjpkabaaGreatDoorChEnc
import Derived.Test.YtbaedpfgjpkabaaGreatDoorChFi7
import Derived.Test.YtbaedpfgjpkabaaGreatDoorChWi2
import Derived.Test.YtbaedpfgjpkabaaGreatDoorChSu2
section
/- What is within: the plain facts. -/
set_option maxHeartbeats 4000000
namespace Fw
open Go

theorem dot_tot (h : Nat → Int) (c : Int → Int) (n : Nat) : ∀ es : List (Int × Int), (∀ e ∈ es, 0 ≤ c e.1 ∧ c e.1 < n) → dot (fun d => h (c d).toNat) es = sumN (fun i => h i * dot (fun d => ind i (c d)) es) n := by
  intro es
  induction es with
  | nil => intro _; simp only [dot]; exact (sumN_zero n fun i _ => by simp).symm
  | cons e r ih =>
    intro hc
    obtain ⟨c0, c1⟩ := hc e (by simp)
    have hi := ih fun x hx => hc x (by simp [hx])
    have hs : sumN (fun i => h i * dot (fun d => ind i (c d)) (e :: r)) n = sumN (fun i => h i * (ind i (c e.1) * e.2)) n + sumN (fun i => h i * dot (fun d => ind i (c d)) r) n := by
      rw [← sumN_add]
      refine sumN_congr _ fun i _ => ?_
      simp only [dot, Int.mul_add]
    obtain ⟨m, hm⟩ : ∃ m : Nat, c e.1 = m := ⟨(c e.1).toNat, by omega⟩
    have h1 : sumN (fun i => h i * (ind i (c e.1) * e.2)) n = h m * e.2 := by
      rw [sumN_one (g := fun _ => 0) n m (by omega) (fun i _ hne => by
        have : ind (i : Int) (c e.1) = 0 := by simp only [ind, hm]; rw [if_neg (by omega)]
        rw [this]; simp) rfl, sumN_zero n fun _ _ => rfl]
      have : ind (m : Int) (c e.1) = 1 := by simp only [ind, hm, if_true]
      rw [this]; simp
    rw [hs, h1, ← hi]
    simp only [dot, hm, Int.toNat_natCast]
theorem clamp_rng (a d : Int) {n : Nat} (hn : 0 < n) : 0 ≤ clampI a d n ∧ clampI a d n < n := by
  unfold clampI; simp only; split <;> split <;> omega
theorem wsum_tot (xs : List Int) (a : Nat) (es : List (Int × Int)) (hn : 0 < xs.length) : wsum xs a es = sumN (fun i => xs.getD i 0 * totW es a xs.length i) xs.length := by
  rw [wsum_dot]
  exact dot_tot (fun i => xs.getD i 0) (fun d => clampI a d xs.length) xs.length es fun e _ => clamp_rng a e.1 hn

theorem sumN_le {f g : Nat → Int} : ∀ n, (∀ i, i < n → f i ≤ g i) → sumN f n ≤ sumN g n := by
  intro n
  induction n with
  | zero => intro _; exact Int.le_refl _
  | succ n ih => intro h; simp only [sumN]; have := ih fun i hi => h i (by omega); have := h n (by omega); omega
theorem mul_between {lo m hi v : Int} (h1 : lo ≤ m) (h2 : m ≤ hi) : min (lo * v) (hi * v) ≤ m * v ∧ m * v ≤ max (lo * v) (hi * v) := by
  rcases Int.le_total 0 v with h | h
  · have a := Int.mul_le_mul_of_nonneg_right h1 h
    have b := Int.mul_le_mul_of_nonneg_right h2 h
    omega
  · have a := Int.mul_le_mul_of_nonpos_right h1 h
    have b := Int.mul_le_mul_of_nonpos_right h2 h
    omega
/-- the sum lies between those of the ends -/
theorem lo_hi_sum (xs : List Int) (l : List (Int × Int)) (hl : l.length = xs.length) (hn : 0 < xs.length) (h : ∀ i, i < xs.length → (l.getD i (0, 0)).1 ≤ xs.getD i 0 ∧ xs.getD i 0 ≤ (l.getD i (0, 0)).2) (es : List (Int × Int)) (a : Nat) : loS l es a ≤ wsum xs a es ∧ wsum xs a es ≤ hiS l es a := by
  rw [wsum_tot xs a es hn]
  unfold loS hiS
  rw [hl]
  constructor
  · refine sumN_le _ fun i hi => ?_
    simp only [fLo, Int.toNat_natCast]
    exact (mul_between (h i hi).1 (h i hi).2).1
  · refine sumN_le _ fun i hi => ?_
    simp only [fHi, Int.toNat_natCast]
    exact (mul_between (h i hi).1 (h i hi).2).2
theorem nar_sum (xs : List Int) (hn : 0 < xs.length) (es : List (Int × Int)) (a : Nat) : loS (xs.map fun m => (m, m)) es a = wsum xs a es ∧ hiS (xs.map fun m => (m, m)) es a = wsum xs a es := by
  rw [wsum_tot xs a es hn]
  unfold loS hiS
  have hg : ∀ i, i < xs.length → (xs.map fun m => (m, m)).getD i (0, 0) = (xs.getD i 0, xs.getD i 0) := by
    intro i hi
    simp only [List.getD_eq_getElem?_getD, List.getElem?_map, List.getElem?_eq_getElem hi, Option.map_some, Option.getD_some]
  rw [List.length_map]
  constructor
  · refine sumN_congr _ fun i hi => ?_
    simp only [fLo, Int.toNat_natCast, hg i hi]; omega
  · refine sumN_congr _ fun i hi => ?_
    simp only [fHi, Int.toNat_natCast, hg i hi]; omega

theorem div_mono {a b D : Int} (hD : 0 < D) (h : a ≤ b) : a / D ≤ b / D := Int.ediv_le_ediv hD h
theorem up_mono {a b D : Int} (hD : 0 < D) (h : a ≤ b) : upQ a D ≤ upQ b D := by
  unfold upQ
  have := div_mono hD (show -b ≤ -a by omega)
  omega
theorem up_near (w : Int) {D : Int} (hD : 0 < D) : w / D ≤ nearI w D ∧ nearI w D ≤ upQ w D ∧ w / D ≤ upQ w D ∧ upQ w D - w / D ≤ 1 := by
  unfold nearI upQ
  have e0 := Int.mul_ediv_add_emod w D
  have e1 := Int.mul_ediv_add_emod (-w) D
  have e2 := Int.mul_ediv_add_emod (2 * w + D) (2 * D)
  have a1 := Int.emod_nonneg w (show D ≠ 0 by omega)
  have a2 := Int.emod_lt_of_pos w hD
  have b1 := Int.emod_nonneg (-w) (show D ≠ 0 by omega)
  have b2 := Int.emod_lt_of_pos (-w) hD
  have c1 := Int.emod_nonneg (2 * w + D) (show 2 * D ≠ 0 by omega)
  have c2 := Int.emod_lt_of_pos (2 * w + D) (show 0 < 2 * D by omega)
  generalize w / D = p at *
  generalize w % D = r at *
  generalize (-w) / D = q at *
  generalize (-w) % D = s at *
  generalize (2 * w + D) / (2 * D) = t at *
  generalize (2 * w + D) % (2 * D) = u at *
  have k1 : D * (q + p) = -(r + s) := by rw [Int.mul_add]; omega
  have k2 : q + p < 1 := by
    apply Int.lt_of_mul_lt_mul_left (a := D) _ (by omega)
    omega
  have k3 : -2 < q + p := by
    apply Int.lt_of_mul_lt_mul_left (a := D) _ (by omega)
    omega
  have k4 : 2 * D * (t - p) = 2 * r + D - u := by rw [Int.mul_sub, Int.mul_assoc 2 D p]; omega
  have k5 : -1 < t - p := by
    apply Int.lt_of_mul_lt_mul_left (a := 2 * D) _ (by omega)
    omega
  have k6 : 2 * D * (t + q) = D - 2 * s - u := by rw [Int.mul_add, Int.mul_assoc 2 D q]; omega
  have k7 : t + q < 1 := by
    apply Int.lt_of_mul_lt_mul_left (a := 2 * D) _ (by omega)
    omega
  omega

/-- what the enclosed intervals of samples and of wider ones are, at a place -/
theorem enc_within {k : List Int} (hk : KerOk k) (xs : List Int) (hn : 0 < xs.length) (l : List (Int × Int)) (hl : l.length = xs.length) (h : ∀ i, i < xs.length → (l.getD i (0, 0)).1 ≤ xs.getD i 0 ∧ xs.getD i 0 ≤ (l.getD i (0, 0)).2) (a : Nat) :
    let A := encO (xs.map fun m => (m, m)) (weightsL k) (sumI k * sumI k) a
    let B := encO l (weightsL k) (sumI k * sumI k) a
    B.1 ≤ A.1 ∧ A.2 ≤ B.2 ∧ A.2 - A.1 ≤ 1 ∧ A.1 ≤ A.2 ∧ A.1 ≤ nearI (wsum xs a (weightsL k)) (sumI k * sumI k) ∧ nearI (wsum xs a (weightsL k)) (sumI k * sumI k) ≤ A.2 := by
  obtain ⟨n1, n2⟩ := nar_sum xs hn (weightsL k) a
  obtain ⟨w1, w2⟩ := lo_hi_sum xs l hl hn h (weightsL k) a
  have hD := (ker_D hk).2.2.1
  simp only [encO, n1, n2]
  obtain ⟨u1, u2, u3, u4⟩ := up_near (wsum xs a (weightsL k)) hD
  exact ⟨div_mono hD w1, up_mono hD w2, u4, u3, u1, u2⟩

/-! what is filled -/
theorem steps_far {xs : List Int} {r : Int} (h : ∀ i, i + 1 < xs.length → xs.getD (i + 1) 0 - xs.getD i 0 ≤ r ∧ xs.getD i 0 - xs.getD (i + 1) 0 ≤ r) : ∀ d i : Nat, i + d < xs.length → xs.getD (i + d) 0 - xs.getD i 0 ≤ r * (d : Int) ∧ xs.getD i 0 - xs.getD (i + d) 0 ≤ r * (d : Int) := by
  intro d
  induction d with
  | zero => intro i _; simp
  | succ d ih =>
    intro i hi
    have h1 := ih i (by omega)
    have h2 := h (i + d) (by omega)
    have e : r * ((d + 1 : Nat) : Int) = r * (d : Int) + r := by rw [Int.natCast_add, Int.mul_add]; simp
    rw [e, show i + (d + 1) = i + d + 1 by omega]
    omega
theorem nar_in {xs : List Int} {r : Int} (hs : ∀ i, i + 1 < xs.length → xs.getD (i + 1) 0 - xs.getD i 0 ≤ r ∧ xs.getD i 0 - xs.getD (i + 1) 0 ≤ r) (i : Nat) (hi : i < xs.length) (y : Int × Int) (hy : y.1 ≤ xs.getD i 0 ∧ xs.getD i 0 ≤ y.2) (k : Int) (hk : k < xs.length) : (nar xs r i y k).1 ≤ xs.getD i 0 ∧ xs.getD i 0 ≤ (nar xs r i y k).2 := by
  unfold nar
  by_cases h0 : 0 ≤ k
  · obtain ⟨j, rfl⟩ : ∃ j : Nat, k = j := ⟨k.toNat, by omega⟩
    have hj : j < xs.length := by omega
    rcases Nat.le_total i j with hij | hij
    · obtain ⟨d, rfl⟩ : ∃ d, j = i + d := ⟨j - i, by omega⟩
      have h1 := steps_far hs d i hj
      have e : max ((i : Int) - ((i + d : Nat) : Int)) (((i + d : Nat) : Int) - i) = d := by omega
      simp only [h0, if_true, Int.toNat_natCast, e]
      generalize r * (d : Int) = q at *
      omega
    · obtain ⟨d, rfl⟩ : ∃ d, i = j + d := ⟨i - j, by omega⟩
      have h1 := steps_far hs d j hi
      have e : max (((j + d : Nat) : Int) - (j : Int)) ((j : Int) - ((j + d : Nat) : Int)) = d := by omega
      simp only [h0, if_true, Int.toNat_natCast, e]
      generalize r * (d : Int) = q at *
      omega
  · simp only [h0, if_false]
    exact hy
end Fw
end

section
/- What is within: the law's numbers, and its first loop. -/
set_option maxHeartbeats 16000000
namespace Fw
open Go
attribute [local irreducible] evCode evOps evOpsD evOper evOperD evOp evFn loopN T.All T.bind callPure callOp opsK opsDK restK seqK blockK loopS setK setQ giveK scalK gcK finish finS rfunK yldK yldB loopK

theorem to90 {n : Nat} (hn : 1 ≤ n) (a b : Int) : RUN n 90 [iv a, iv b] = .ret (.agg [iv a, iv b]) := by
  obtain ⟨d, rfl⟩ : ∃ d, n = d + 1 := ⟨n - 1, by omega⟩
  rw [RUN, call_eq fe90 _ rfl]
  simp -implicitDefEqProofs [c90]
theorem max3 (a b c : Int) : maxInt a [iv b, iv c] = some (max (max a b) c) := by
  simp only [maxInt]; congr 1; split <;> split <;> omega
def wvO (l : List Int) : List Int := l.map fun x => 2 * x
@[simp] theorem wvO_length (l : List Int) : (wvO l).length = l.length := by simp [wvO]
def duI (n0 : Int) (i : Nat) : Int := (n0 + i).tmod 5
def ovB (n1 : Int) (i : Nat) : Bool := (n1 + i).tmod 4 == 0
def widI (l : List Int) (n0 : Int) (i : Nat) : Int × Int := ((wvO l).getD i 0 - duI n0 i, (wvO l).getD i 0 + duI n0 i)
def valI (l : List Int) (n0 n1 : Int) (i : Nat) : ValI := if ovB n1 i = true then ⟨(wvO l).getD i 0 - 1 - duI n0 i, (wvO l).getD i 0 - 1, false, true⟩ else ⟨(wvO l).getD i 0 - duI n0 i, (wvO l).getD i 0 + duI n0 i, false, false⟩
def widL (l : List Int) (n0 : Int) : List (Int × Int) := (List.range l.length).map (widI l n0)
def valL (l : List Int) (n0 n1 : Int) : List ValI := (List.range l.length).map (valI l n0 n1)
def narL (l : List Int) : List (Int × Int) := (wvO l).map fun m => (m, m)
def rtI (l : List Int) : Nat → Int
  | 0 => 0
  | 1 => 0
  | i + 2 => max (max (rtI l (i + 1)) ((wvO l).getD (i + 1) 0 - (wvO l).getD i 0)) ((wvO l).getD i 0 - (wvO l).getD (i + 1) 0)
def msI (l : List Int) : Nat → Int
  | 0 => -1000
  | i + 1 => max (msI l i) ((wvO l).getD i 0)
@[simp] theorem widL_length (l : List Int) (n0 : Int) : (widL l n0).length = l.length := by simp [widL]
@[simp] theorem valL_length (l : List Int) (n0 n1 : Int) : (valL l n0 n1).length = l.length := by simp [valL]
@[simp] theorem narL_length (l : List Int) : (narL l).length = l.length := by simp [narL]
theorem wvO_get (l : List Int) (i : Nat) (hi : i < l.length) : (wvO l).getD i 0 = 2 * l[i] := by simp [wvO, List.getD_eq_getElem?_getD, hi]
theorem duI_in {n0 : Int} (h : 0 ≤ n0) (i : Nat) : 0 ≤ duI n0 i ∧ duI n0 i ≤ 4 := by
  have h1 := tmod_in (n0 + i) 5 (by decide)
  have h2 := Int.tmod_nonneg 5 (show 0 ≤ n0 + i by omega)
  unfold duI; omega
theorem take_range {α : Type} (f : Nat → α) (n i : Nat) (hi : i < n) : ((List.range n).map f).take (i + 1) = ((List.range n).map f).take i ++ [f i] := by
  rw [List.take_add_one]; simp [hi]

section
variable {d : Nat}
def eA (k l : List Int) (i : Nat) : Env := [(0, isl k), (1, l8 l), (5, .ptr 0 0 0), (7, .sl 1 i 0 i), (8, .sl 2 i 0 i), (9, .sl 3 i 0 i), (10, .sl 4 i 0 i), (11, iv (rtI l i)), (12, iv (msI l i)), (63, l8 l), (64, iv l.length), (65, iv i)]
def sA (l : List Int) (n0 n1 n2 n3 : Int) (i : Nat) : Sto := [(4, .arr (pI ((wvO l).take i)) i 1), (3, .arr (rowC vc ((valL l n0 n1).take i)) i 4), (2, .arr (cI ((narL l).take i)) i 2), (1, .arr (cI ((widL l n0).take i)) i 2), (0, .arr [.int .u8 n0, .int .u8 n1, .int .u8 n2, .int .u8 n3] 0 1)]
theorem round12 (k l : List Int) (hl : l.length ≤ 16) (hb : ∀ n ∈ l, -128 ≤ n ∧ n ≤ 127) (n0 n1 n2 n3 : Int) (b0 : 0 ≤ n0 ∧ n0 ≤ 255) (b1 : 0 ≤ n1 ∧ n1 ≤ 255) (i : Nat) (hi : i < l.length) :
    ∃ st1, loopS (evFn F C0 G0 (d + 2)) C0 G0 0 true [0, 1, 5, 7, 8, 9, 10, 11, 12, 63, 64, 65] c12L0 ⟨eA k l i, sA l n0 n1 n2 n3 i⟩ = .ret (.normal, st1) ∧ loopS (evFn F C0 G0 (d + 2)) C0 G0 0 true [0, 1, 5, 7, 8, 9, 10, 11, 12, 63, 64, 65] c12L0 st1 = loopS (evFn F C0 G0 (d + 2)) C0 G0 0 true [0, 1, 5, 7, 8, 9, 10, 11, 12, 63, 64, 65] c12L0 ⟨eA k l (i + 1), sA l n0 n1 n2 n3 (i + 1)⟩ := by
  have hbi := hb l[i] (List.getElem_mem hi)
  have wi := wrap_succ (i := i) (by omega)
  have hlim : i + 1 ≤ lim := by simp only [lim]; omega
  have hm := wvO_get l i hi
  have hd := duI_in b0.1 i
  have w1 := wrap64 (n := l[i]) (by omega) (by omega)
  have w2 := wrap64 (n := 2 * l[i]) (by omega) (by omega)
  have w3 := wrap64 (n := n0) (by omega) (by omega)
  have w4 := wrap64 (n := n0 + i) (by omega) (by omega)
  have w5 := wrap64 (n := n1) (by omega) (by omega)
  have w6 := wrap64 (n := n1 + i) (by omega) (by omega)
  have w7 := wrap64 (n := 2 * l[i] - duI n0 i) (by omega) (by omega)
  have w8 := wrap64 (n := 2 * l[i] + duI n0 i) (by omega) (by omega)
  have w9 := wrap64 (n := 2 * l[i] - 1) (by omega) (by omega)
  have w10 := wrap64 (n := 2 * l[i] - 1 - duI n0 i) (by omega) (by omega)
  have k90 := fun a b => to90 (n := d + 2) (by omega) a b
  have rW : (wvO l).take (i + 1) = (wvO l).take i ++ [2 * l[i]] := by
    rw [List.take_add_one]; simp [wvO, hi]
  have rN : (narL l).take (i + 1) = (narL l).take i ++ [(2 * l[i], 2 * l[i])] := by
    rw [List.take_add_one]; simp [narL, wvO, hi]
  have rD : (widL l n0).take (i + 1) = (widL l n0).take i ++ [(2 * l[i] - duI n0 i, 2 * l[i] + duI n0 i)] := by
    unfold widL; rw [take_range _ _ _ hi]; simp only [widI, hm]
  have rV : (valL l n0 n1).take (i + 1) = (valL l n0 n1).take i ++ [valI l n0 n1 i] := take_range _ _ _ hi
  have cW : ((wvO l).take i).length = i := by simp; omega
  have cN : (cI ((narL l).take i)).length = i * 2 := by rw [cI_length]; simp; omega
  have cD : (cI ((widL l n0).take i)).length = i * 2 := by rw [cI_length]; simp; omega
  have cV : (rowC vc ((valL l n0 n1).take i)).length = i * 4 := by rw [vR_len]; simp; omega
  have aN : ∀ a b : Int, cI ((narL l).take i ++ [(a, b)]) = cI ((narL l).take i) ++ [.int .i64 a, .int .i64 b] := fun a b => by rw [cI_append]; rfl
  have aD : ∀ a b : Int, cI ((widL l n0).take i ++ [(a, b)]) = cI ((widL l n0).take i) ++ [.int .i64 a, .int .i64 b] := fun a b => by rw [cI_append]; rfl
  have aV : ∀ v : ValI, rowC vc ((valL l n0 n1).take i ++ [v]) = rowC vc ((valL l n0 n1).take i) ++ vc v := fun v => rowC_snoc ..
  have hov : ((n1 + i).tmod 4 == 0) = ovB n1 i := rfl
  have hdu : (n0 + i).tmod 5 = duI n0 i := rfl
  have hms : msI l (i + 1) = max (msI l i) (2 * l[i]) := by simp only [msI, hm]
  have v1 : IntKind.i64.wrap 1 = 1 := by decide
  have hsame : ∀ (e1 e2 : Env) (s1 s2 : Sto), restrict e1 [0, 1, 5, 7, 8, 9, 10, 11, 12, 63, 64, 65] = restrict e2 [0, 1, 5, 7, 8, 9, 10, 11, 12, 63, 64, 65] → gc 0 (restrict e1 [0, 1, 5, 7, 8, 9, 10, 11, 12, 63, 64, 65]) s1 = gc 0 (restrict e2 [0, 1, 5, 7, 8, 9, 10, 11, 12, 63, 64, 65]) s2 → loopS (evFn F C0 G0 (d + 2)) C0 G0 0 true [0, 1, 5, 7, 8, 9, 10, 11, 12, 63, 64, 65] c12L0 ⟨e1, s1⟩ = loopS (evFn F C0 G0 (d + 2)) C0 G0 0 true [0, 1, 5, 7, 8, 9, 10, 11, 12, 63, 64, 65] c12L0 ⟨e2, s2⟩ := fun e1 e2 s1 s2 h1 h2 => loopS_same h1 h2
  simp only [eA, sA, rW, rN, rD, rV, aN, aD, aV, hms]
  unfold valI
  rw [hm]
  have mx2 := fun a b => max2 a b
  generalize duI n0 i = du at *
  rcases Nat.eq_zero_or_pos i with h0 | hpos
  · subst h0
    have hr0 : rtI l (0 + 1) = 0 := rfl
    have hr1 : rtI l 0 = 0 := rfl
    rw [hr0, hr1]
    have z : (wvO l).take 0 = [] ∧ cI ((narL l).take 0) = [] ∧ cI ((widL l n0).take 0) = [] ∧ rowC vc ((valL l n0 n1).take 0) = [] := ⟨rfl, rfl, rfl, rfl⟩
    obtain ⟨z1, z2, z3, z4⟩ := z
    simp only [z1, z2, z3, z4] at *
    simp only [Int.natCast_zero, Int.add_zero] at hov hdu
    generalize hL : l[0] = x at *
    generalize pI k = K at *
    cases hv : ovB n1 0 with
    | true =>
      rw [hv] at hov
      have hov := beq_iff_eq.1 hov
      refine ⟨?_, ?h1, ?h2⟩
      case h1 =>
        simp -implicitDefEqProofs [loopS_eq, c12L0, hi, hL, w1, w2, w3, w5, w7, w8, w9, w10, k90, hdu, hov, mx2, hlim]
        exact rfl
      case h2 => exact hsame _ _ _ _ (by simp [v1]) (by simp [vc, pI])
    | false =>
      rw [hv] at hov
      have hov := beq_eq_false_iff_ne.1 hov
      refine ⟨?_, ?h3, ?h4⟩
      case h3 =>
        simp -implicitDefEqProofs [loopS_eq, c12L0, hi, hL, w1, w2, w3, w5, w7, w8, k90, hdu, hov, mx2, hlim]
        exact rfl
      case h4 => exact hsame _ _ _ _ (by simp [v1]) (by simp [vc, pI, hov])
  · obtain ⟨j, rfl⟩ : ∃ j, i = j + 1 := ⟨i - 1, by omega⟩
    have hj : j < l.length := by omega
    have hmj := wvO_get l j hj
    have hbj := hb l[j] (List.getElem_mem hj)
    have hr : rtI l (j + 1 + 1) = max (max (rtI l (j + 1)) (2 * l[j + 1] - 2 * l[j])) (2 * l[j] - 2 * l[j + 1]) := by simp only [rtI, hm, hmj]
    have wj := wrap64 (n := (j : Int)) (by omega) (by omega)
    have wa := wrap64 (n := 2 * l[j + 1] - 2 * l[j]) (by omega) (by omega)
    have wb := wrap64 (n := 2 * l[j] - 2 * l[j + 1]) (by omega) (by omega)
    have hget : (pI ((wvO l).take (j + 1)) ++ [PVal.int .i64 (2 * l[j + 1])])[j]? = some (.int .i64 (2 * l[j])) := by
      rw [List.getElem?_append_left (by simp; omega)]
      simp [wvO, hj]
    have wjj := wrap64 (n := (j : Int) + 1 + 1) (by omega) (by omega)
    have q2 : (0 : Int) ≤ (j : Int) + 1 := by omega
    have q3 : (j : Int) + 1 < l.length := by omega
    have q4 : (j : Int) < (j : Int) + 1 + 1 := by omega
    have q5 : ((j : Int) + 1).toNat = j + 1 := by omega
    rw [hr]
    have mx3 := fun a b c => max3 a b c
    have q1 : (0 : Int) < (j : Int) + 1 := by omega
    have cW' : (pI ((wvO l).take (j + 1))).length = j + 1 := by simp; omega
    have aW : pI ((wvO l).take (j + 1) ++ [2 * l[j + 1]]) = pI ((wvO l).take (j + 1)) ++ [.int .i64 (2 * l[j + 1])] := (pI_snoc ..).symm
    simp only [aW]
    generalize pI ((wvO l).take (j + 1)) = AW at *
    generalize cI ((narL l).take (j + 1)) = AN at *
    generalize cI ((widL l n0).take (j + 1)) = AD at *
    generalize rowC vc ((valL l n0 n1).take (j + 1)) = AV at *
    generalize rtI l (j + 1) = rt at *
    generalize msI l (j + 1) = ms at *
    generalize hL : l[j + 1] = x at *
    generalize l[j] = y at *
    generalize pI k = K at *
    simp only [Int.natCast_add, Int.natCast_one] at hov hdu w4 w6
    cases hv : ovB n1 (j + 1) with
    | true =>
      rw [hv] at hov
      have hov := beq_iff_eq.1 hov
      refine ⟨?_, ?h5, ?h6⟩
      case h5 =>
        simp -implicitDefEqProofs [loopS_eq, c12L0, hi, hL, wj, wa, wb, w1, w2, w3, w4, w5, w6, w7, w8, w9, w10, k90, hdu, hov, mx2, mx3, hlim, cW', cN, cD, cV, hget, q1, q2, q3, q4, q5]
        exact rfl
      case h6 => exact hsame _ _ _ _ (by simp [wjj]) (by simp [vc])
    | false =>
      rw [hv] at hov
      have hov := beq_eq_false_iff_ne.1 hov
      refine ⟨?_, ?h7, ?h8⟩
      case h7 =>
        simp -implicitDefEqProofs [loopS_eq, c12L0, hi, hL, wj, wa, wb, w1, w2, w3, w4, w5, w6, w7, w8, k90, hdu, hov, mx2, mx3, hlim, cW', cN, cD, cV, hget, q1, q2, q3, q4, q5]
        exact rfl
      case h8 => exact hsame _ _ _ _ (by simp [wjj]) (by simp [vc, hov])
theorem loop12a (k l : List Int) (hl : l.length ≤ 16) (hb : ∀ n ∈ l, -128 ≤ n ∧ n ≤ 127) (n0 n1 n2 n3 : Int) (b0 : 0 ≤ n0 ∧ n0 ≤ 255) (b1 : 0 ≤ n1 ∧ n1 ≤ 255) :
    loopN (loopS (evFn F C0 G0 (d + 2)) C0 G0 0 true [0, 1, 5, 7, 8, 9, 10, 11, 12, 63, 64, 65] c12L0) loopFuel ⟨eA k l 0, sA l n0 n1 n2 n3 0⟩ = .ret (.exit 0, ⟨eA k l l.length ++ [(66, .p (.bool false))], sA l n0 n1 n2 n3 l.length⟩) := by
  refine loop_run' (fun i => ⟨eA k l i, sA l n0 n1 n2 n3 i⟩) l.length (by simp) rfl (fun i hi => round12 k l hl hb n0 n1 n2 n3 b0 b1 i hi) ?_ (by simp [loopFuel]; omega)
  simp only [eA, sA]
  generalize pI k = K at *
  simp -implicitDefEqProofs [loopS_eq, c12L0]
end
end Fw
end

section
/- What is within: the law's beginning, and the loop over what is enclosed. -/
set_option maxHeartbeats 16000000
namespace Fw
open Go
attribute [local irreducible] evCode evOps evOpsD evOper evOperD evOp evFn loopN T.All T.bind callPure callOp opsK opsDK restK seqK blockK loopS setK setQ giveK scalK gcK finish finS rfunK yldK yldB loopK

def hdW : ACode → ACode
  | .seq a _ => a
  | c => c
def tlW : ACode → ACode
  | .seq _ b => b
  | c => c
@[irreducible] def t12a : ACode := tlW (tlW (tlW (tlW (tlW (tlW (tlW c12.body))))))
theorem c12_a : c12.body = .seq (hdW c12.body) (.seq (hdW (tlW c12.body)) (.seq (hdW (tlW (tlW c12.body))) (.seq (hdW (tlW (tlW (tlW c12.body)))) (.seq (hdW (tlW (tlW (tlW (tlW c12.body))))) (.seq (hdW (tlW (tlW (tlW (tlW (tlW c12.body)))))) (.seq (hdW (tlW (tlW (tlW (tlW (tlW (tlW c12.body))))))) t12a)))))) := by unfold t12a; rfl
abbrev n8 (n0 n1 n2 n3 : Int) : AVal := .agg [.p (.int .u8 n0), .p (.int .u8 n1), .p (.int .u8 n2), .p (.int .u8 n3)]
theorem wi1 (ka : RUN 60 15 [] = .ret (.p (.bool true))) (k l : List Int) (hb : ∀ n ∈ l, -128 ≤ n ∧ n ≤ 127) (n0 n1 n2 n3 : Int) (b0 : 0 ≤ n0 ∧ n0 ≤ 255) (b1 : 0 ≤ n1 ∧ n1 ≤ 255) :
    RUN 61 12 [isl k, l8 l, n8 n0 n1 n2 n3] = .ret (.p (.bool true)) ∨ (KerOk k ∧ 1 ≤ l.length ∧ l.length ≤ 16 ∧ RUN 61 12 [isl k, l8 l, n8 n0 n1 n2 n3] = (evCode (evFn F C0 G0 60) C0 G0 0 t12a ⟨eA k l l.length ++ [(66, .p (.bool false))], sA l n0 n1 n2 n3 l.length⟩).bind (finish [.tmp 6])) := by
  rw [RUN, call_eq (d := 60) fe12 _ rfl, c12_a]
  have s2 := short37 (n := 60) (by omega) k
  by_cases c2 : k.length ≤ 8
  · have s3 := ker42 (n := 60) (by omega) k (by omega)
    by_cases z : kerE k = 0
    · have hk := ker_iff.1 z
      rw [z] at s3
      by_cases c4 : (l.length : Int) < 1
      · refine .inl ?_
        simp -implicitDefEqProofs [hdW, tlW, c12, ka, s2, s3, c2, c4]
      · by_cases c5 : (16 : Int) < l.length
        · refine .inl ?_
          simp -implicitDefEqProofs [hdW, tlW, c12, ka, s2, s3, c2, c4, c5]
        · refine .inr ⟨hk, by omega, by omega, ?_⟩
          have l1 := loop12a (d := 58) k l (by omega) hb n0 n1 n2 n3 b0 b1
          have he0 : eA k l 0 = [(0, isl k), (1, l8 l), (5, .ptr 0 0 0), (7, .sl 1 0 0 0), (8, .sl 2 0 0 0), (9, .sl 3 0 0 0), (10, .sl 4 0 0 0), (11, iv 0), (12, iv (-1000)), (63, l8 l), (64, iv l.length), (65, iv 0)] := rfl
          have hs0 : sA l n0 n1 n2 n3 0 = [(4, .arr [] 0 1), (3, .arr [] 0 4), (2, .arr [] 0 2), (1, .arr [] 0 2), (0, .arr [.int .u8 n0, .int .u8 n1, .int .u8 n2, .int .u8 n3] 0 1)] := rfl
          rw [he0, hs0] at l1
          simp -implicitDefEqProofs [hdW, tlW, c12, s2, s3, c2, c4, c5]
          rw [l1]
          simp -implicitDefEqProofs []
    · refine .inl ?_
      have zb : (kerE k != 0) = true := by simpa using z
      simp -implicitDefEqProofs [hdW, tlW, c12, ka, s2, s3, c2, zb]
  · refine .inl ?_
    simp -implicitDefEqProofs [hdW, tlW, c12, ka, s2, c2]

theorem cI_drop1 (l : List (Int × Int)) (i : Nat) (h : i < l.length) : (cI l).drop (i * 2 + 1) = .int .i64 l[i].2 :: cI (l.drop (i + 1)) := by
  rw [← List.drop_drop, cI_drop l i h]; rfl

/-- what the loop over the intervals wants to be so -/
structure EncW (A B : List (Int × Int)) (n : Nat) : Prop where
  la : A.length = n
  lb : B.length = n
  h : ∀ i (ha : i < A.length) (hb : i < B.length), -200000 ≤ A[i].1 ∧ A[i].2 ≤ 200000 ∧ B[i].1 ≤ A[i].1 ∧ A[i].2 ≤ B[i].2 ∧ A[i].2 - A[i].1 ≤ 1 ∧ A[i].1 ≤ A[i].2
section
variable {d : Nat}
theorem loop12b {A B : List (Int × Int)} {n : Nat} (hn : n ≤ 16) (h : EncW A B n) (c : AVal) (e3 : Int) (hc : (e3 = 0 ∧ ∃ O : List Int, c = .p (.sl (pF (O.map smpF)) n) ∧ O.length = n ∧ In16 O ∧ ∀ i (hi : i < O.length) (ha : i < A.length), A[i].1 ≤ O[i] ∧ O[i] ≤ A[i].2) ∨ e3 = 4) (a1 a5 a9 a10 a11 a12 : AVal) (S : Sto) (e : Env)
    (he : restrict e [1, 5, 9, 10, 11, 12, 19, 21, 23, 24, 224, 225] = [(1, a1), (5, a5), (9, a9), (10, a10), (11, a11), (12, a12), (19, .p (.sl (cI A) n)), (21, .p (.sl (cI B) n)), (23, c), (24, iv e3), (224, iv n), (225, iv 0)]) :
    loopN (loopS (evFn F C0 G0 (d + 2)) C0 G0 0 false [1, 5, 9, 10, 11, 12, 19, 21, 23, 24, 224, 225] c12L1) loopFuel ⟨e, S⟩ = .ret (.exit 2, ⟨[(1, a1), (5, a5), (9, a9), (10, a10), (11, a11), (12, a12), (19, .p (.sl (cI A) n)), (21, .p (.sl (cI B) n)), (23, c), (24, iv e3), (224, iv n), (225, iv n), (226, .p (.bool false))], S⟩) := by
  let inv : Nat → St := fun i => ⟨[(1, a1), (5, a5), (9, a9), (10, a10), (11, a11), (12, a12), (19, .p (.sl (cI A) n)), (21, .p (.sl (cI B) n)), (23, c), (24, iv e3), (224, iv n), (225, iv i)], S⟩
  have h0 : loopS (evFn F C0 G0 (d + 2)) C0 G0 0 false [1, 5, 9, 10, 11, 12, 19, 21, 23, 24, 224, 225] c12L1 ⟨e, S⟩ = loopS (evFn F C0 G0 (d + 2)) C0 G0 0 false [1, 5, 9, 10, 11, 12, 19, 21, 23, 24, 224, 225] c12L1 (inv 0) := by
    simp only [loopS_eq, he]; rfl
  obtain ⟨hA, hB, h⟩ := h
  refine loop_run inv n (by simp) h0 ?_ ?_ (by simp [loopFuel]; omega)
  · intro i hi
    have w := wrap_succ (i := i) (by omega)
    have ha : i < A.length := by omega
    have hb : i < B.length := by omega
    have dA := cI_drop A i ha
    have dA1 := cI_drop1 A i ha
    have dB := cI_drop B i hb
    have dB1 := cI_drop1 B i hb
    have lA : (cI A).length = n * 2 := by rw [cI_length, hA]
    have lB : (cI B).length = n * 2 := by rw [cI_length, hB]
    have hlt : i * 2 < n * 2 := by omega
    have hlt1 : i * 2 + 1 < n * 2 := by omega
    obtain ⟨q1, q2, q3, q4, q5, q6⟩ := h i ha hb
    have wd := wrap64 (n := A[i].2 - A[i].1) (by omega) (by omega)
    simp only [inv]
    rcases hc with ⟨rfl, O, rfl, hO, hI, hO2⟩ | rfl
    · have hi2 : i < O.length := by omega
      obtain ⟨r1, r2⟩ := hO2 i hi2 ha
      have hOi := hI O[i] (List.getElem_mem hi2)
      obtain ⟨_, f1, f2⟩ := smpF_of hOi.1 hOi.2
      have k85 := sixteen85 (n := d + 2) (by omega) f1
      rw [f2] at k85
      have hpf : (pF (O.map smpF)).length = n := by simp [hO]
      have g : ∀ q, (pF (O.map smpF))[i]'q = .flt .f32 (smpF O[i]) := fun q => by simp
      generalize pF (O.map smpF) = PO at *
      generalize smpF O[i] = f at *
      generalize O[i] = o at *
      generalize cI (A.drop (i + 1)) = RA at *
      generalize cI (B.drop (i + 1)) = RB at *
      generalize cI A = CA at *
      generalize cI B = CB at *
      generalize A[i] = x at *
      generalize B[i] = y at *
      obtain ⟨x1, x2⟩ := x
      obtain ⟨y1, y2⟩ := y
      simp only at dA dA1 dB dB1 q1 q2 q3 q4 q5 q6 wd r1 r2
      have m1 : ¬ x1 < y1 := by omega
      have m2 : ¬ y2 < x2 := by omega
      have m3 : ¬ 1 < x2 - x1 := by omega
      have m4 : ¬ x2 < x1 := by omega
      have m5 : ¬ o < x1 := by omega
      have m6 : ¬ x2 < o := by omega
      simp -implicitDefEqProofs [loopS_eq, c12L1, hi, w, dA, dB, lA, lB, hlt, wd, k85, hpf, g, m1, m2, m3, m4, m5, m6]
    · generalize cI (A.drop (i + 1)) = RA at *
      generalize cI (B.drop (i + 1)) = RB at *
      generalize cI A = CA at *
      generalize cI B = CB at *
      generalize A[i] = x at *
      generalize B[i] = y at *
      obtain ⟨x1, x2⟩ := x
      obtain ⟨y1, y2⟩ := y
      simp only at dA dA1 dB dB1 q1 q2 q3 q4 q5 q6 wd
      have m1 : ¬ x1 < y1 := by omega
      have m2 : ¬ y2 < x2 := by omega
      have m3 : ¬ 1 < x2 - x1 := by omega
      have m4 : ¬ x2 < x1 := by omega
      simp -implicitDefEqProofs [loopS_eq, c12L1, hi, w, dA, dB, lA, lB, hlt, wd, m1, m2, m3, m4]
  · simp only [inv]
    simp -implicitDefEqProofs [loopS_eq, c12L1]
end
end Fw
end

section
/- What is within: the enclosed intervals. -/
set_option maxHeartbeats 16000000
namespace Fw
open Go
attribute [local irreducible] evCode evOps evOpsD evOper evOperD evOp evFn loopN T.All T.bind callPure callOp opsK opsDK restK seqK blockK loopS setK setQ giveK scalK gcK finish finS rfunK yldK yldB loopK

@[irreducible] def t12b : ACode := tlW (tlW (tlW (tlW (tlW t12a))))
theorem t12_b : t12a = .seq (hdW t12a) (.seq (hdW (tlW t12a)) (.seq (hdW (tlW (tlW t12a))) (.seq (hdW (tlW (tlW (tlW t12a)))) (.seq (hdW (tlW (tlW (tlW (tlW t12a))))) t12b)))) := by unfold t12b t12a; rfl
theorem encAll_length (l : List (Int × Int)) (k : List Int) : (encAll l k).length = l.length := by simp [encAll]
theorem encAll_get (l : List (Int × Int)) (k : List Int) (i : Nat) (h : i < (encAll l k).length) : (encAll l k)[i] = encO l (weightsL k) (sumI k * sumI k) i := by simp [encAll]
theorem filtO_get {xs : List Int} {es : List (Int × Int)} {D : Int} (i : Nat) (h : i < (filtO xs es D).length) : (filtO xs es D)[i] = nearI (wsum xs i es) D := by simp [filtO]
theorem not_encB {L : List (Int × Int)} (h : ¬ L.any encB = true) (i : Nat) (hi : i < L.length) : -200000 ≤ L[i].1 ∧ L[i].2 ≤ 200000 := by
  have h1 : encB L[i] = false := by
    cases hb : encB L[i] with
    | false => rfl
    | true => exact absurd (List.any_eq_true.2 ⟨_, List.getElem_mem hi, hb⟩) h
  simp only [encB, Bool.or_eq_false_iff, decide_eq_false_iff_not] at h1
  omega
theorem wi2 {k : List Int} (hk : KerOk k) (l8v : AVal) (V : List Int) (WL : List (Int × Int)) (VC : List PVal) (n : Nat) (hVl : V.length = n) (hn0 : 0 < n) (hn : n ≤ 16) (hl8 : ∀ _ρ : Opd → AVal, l8v = l8v) (p8v : List PVal) (hp8 : l8v = .p (.sl p8v n)) (hp8l : p8v.length = n) (hV : ∀ x ∈ V, -256 ≤ x ∧ x ≤ 256) (hWl : WL.length = n) (hW : ∀ i (h1 : i < WL.length) (h2 : i < V.length), -1000 ≤ WL[i].1 ∧ WL[i].1 ≤ V[i] ∧ V[i] ≤ WL[i].2 ∧ WL[i].2 ≤ 1000) (rt ms : Int) (o0 : Obj) (t63 t64 t65 : AVal) :
    ∃ tl, (evCode (evFn F C0 G0 60) C0 G0 0 t12a ⟨[(0, isl k), (1, l8v), (5, .ptr 0 0 0), (7, .sl 1 n 0 n), (8, .sl 2 n 0 n), (9, .sl 3 n 0 n), (10, .sl 4 n 0 n), (11, iv rt), (12, iv ms), (63, t63), (64, t64), (65, t65), (66, .p (.bool false))], [(4, .arr (pI V) n 1), (3, .arr VC n 4), (2, .arr (cI (V.map fun m => (m, m))) n 2), (1, .arr (cI WL) n 2), (0, o0)]⟩).bind (finish [.tmp 6]) =
    (evCode (evFn F C0 G0 60) C0 G0 0 t12b ⟨(1, l8v) :: (5, .ptr 0 0 0) :: (9, .sl 3 n 0 n) :: (10, .sl 4 n 0 n) :: (11, iv rt) :: (12, iv ms) :: tl, [(4, .frz (pI V) n 1), (3, .arr VC n 4), (2, .frz (cI (V.map fun m => (m, m))) n 2), (1, .frz (cI WL) n 2), (0, o0)]⟩).bind (finish [.tmp 6]) := by
  subst hp8
  rw [t12_b]
  have hNl : (V.map fun m => (m, m)).length = n := by simp [hVl]
  have hV16 : In16 V := fun x hx => by have := hV x hx; omega
  have hIN : IvOk (V.map fun m => (m, m)) := fun x hx => by
    obtain ⟨m, hm, rfl⟩ := List.mem_map.1 hx
    have := hV m hm
    simp only; omega
  have hIW : IvOk WL := fun x hx => by
    obtain ⟨i, hi, rfl⟩ := List.getElem_of_mem hx
    have := hW i hi (by omega)
    omega
  have zN : encE3 (V.map fun m => (m, m)) k = 0 := enc_iff.2 ⟨⟨by omega, by omega, hIN⟩, hk⟩
  have zW : encE3 WL k = 0 := enc_iff.2 ⟨⟨by omega, by omega, hIW⟩, hk⟩
  have k39 := ints39 (n := 60) (by omega) k (by have := hk.2.1; omega)
  have k52N := intervals52 (n := 60) (by omega) (V.map fun m => (m, m)) (by omega)
  have k52W := intervals52 (n := 60) (by omega) WL (by omega)
  have k51N := enclosed51 (n := 60) (by omega) (V.map fun m => (m, m)) (by omega) k (by have := hk.2.1; omega)
  have k51W := enclosed51 (n := 60) (by omega) WL (by omega) k (by have := hk.2.1; omega)
  rw [if_pos zN] at k51N
  rw [if_pos zW] at k51W
  have k86 := made86 (n := 60) (by omega) hV16 (by omega)
  have k40 := filt40 (n := 60) (by omega) hV16 (by omega) hk
  have hEN := encAll_length (V.map fun m => (m, m)) k
  have hEW := encAll_length WL k
  have hOl := filtO_length V (weightsL k) (sumI k * sumI k)
  have hb : ∀ i, i < V.length → (WL.getD i (0, 0)).1 ≤ V.getD i 0 ∧ V.getD i 0 ≤ (WL.getD i (0, 0)).2 := fun i hi => by
    have := hW i (by omega) hi
    simp only [List.getD_eq_getElem?_getD, List.getElem?_eq_getElem hi, List.getElem?_eq_getElem (show i < WL.length by omega), Option.getD_some]
    omega
  have hwit := fun a => enc_within hk V (by omega) WL (by omega) hb a
  have hgN := fun i h => encAll_get (V.map fun m => (m, m)) k i h
  have hgW := fun i h => encAll_get WL k i h
  have hgO := fun i h => filtO_get (xs := V) (es := weightsL k) (D := sumI k * sumI k) i h
  have hEncW : ¬ (encAll (V.map fun m => (m, m)) k).any encB = true → ¬ (encAll WL k).any encB = true → EncW (encAll (V.map fun m => (m, m)) k) (encAll WL k) n := fun hbN hbW => ⟨by omega, by omega, fun i ha hbb => by
    have q1 := not_encB hbN i ha
    obtain ⟨q2, q3, q4, q5, _, _⟩ := hwit i
    rw [← hgN i ha] at q2 q3 q4 q5
    rw [← hgW i hbb] at q2 q3
    exact ⟨q1.1, q1.2, q2, q3, q4, q5⟩⟩
  have hO2 : ∀ i (hi : i < (filtO V (weightsL k) (sumI k * sumI k)).length) (ha : i < (encAll (V.map fun m => (m, m)) k).length), (encAll (V.map fun m => (m, m)) k)[i].1 ≤ (filtO V (weightsL k) (sumI k * sumI k))[i] ∧ (filtO V (weightsL k) (sumI k * sumI k))[i] ≤ (encAll (V.map fun m => (m, m)) k)[i].2 := fun i hi ha => by
    obtain ⟨_, _, _, _, q5, q6⟩ := hwit i
    rw [hgN i ha, hgO i hi]
    exact ⟨q5, q6⟩
  clear hgN hgW hgO hwit
  rw [filtR] at k40
  rw [hNl] at hEN
  rw [hWl] at hEW
  rw [hVl] at hOl
  generalize V.map (fun m => (m, m)) = NL at *
  generalize encAll NL k = EN at *
  generalize encAll WL k = EW at *
  generalize filtO V (weightsL k) (sumI k * sumI k) = O at *
  simp only [fsl, isl, csl, List.length_map, hVl, hNl, hWl, hOl] at k39 k52N k52W k51N k51W k86 k40
  have hcN : (cI NL).length = n * 2 := by rw [cI_length, hNl]
  have hcW : (cI WL).length = n * 2 := by rw [cI_length, hWl]
  have hcV : (pI V).length = n := by simp [hVl]
  simp only [isl]
  generalize pI V = QV at *
  generalize cI NL = QN at *
  generalize cI WL = QW at *
  generalize pI k = K at *
  generalize pF (V.map smpF) = PV at *
  by_cases bN : EN.any encB = true
  · rw [if_pos bN] at k51N
    by_cases bW : EW.any encB = true
    · rw [if_pos bW] at k51W
      by_cases hin : inB O = true
      · rw [if_pos hin] at k40
        simp -implicitDefEqProofs [hdW, tlW, t12a, c12, k39, k52N, k52W, k51N, k51W, k86, k40, hcN, hcW, hcV]
        exact ⟨_, rfl⟩
      · rw [if_neg hin] at k40
        simp -implicitDefEqProofs [hdW, tlW, t12a, c12, k39, k52N, k52W, k51N, k51W, k86, k40, hcN, hcW, hcV]
        exact ⟨_, rfl⟩
    · rw [if_neg bW] at k51W
      by_cases hin : inB O = true
      · rw [if_pos hin] at k40
        simp -implicitDefEqProofs [hdW, tlW, t12a, c12, k39, k52N, k52W, k51N, k51W, k86, k40, hcN, hcW, hcV]
        exact ⟨_, rfl⟩
      · rw [if_neg hin] at k40
        simp -implicitDefEqProofs [hdW, tlW, t12a, c12, k39, k52N, k52W, k51N, k51W, k86, k40, hcN, hcW, hcV]
        exact ⟨_, rfl⟩
  · rw [if_neg bN] at k51N
    by_cases bW : EW.any encB = true
    · rw [if_pos bW] at k51W
      by_cases hin : inB O = true
      · rw [if_pos hin] at k40
        simp -implicitDefEqProofs [hdW, tlW, t12a, c12, k39, k52N, k52W, k51N, k51W, k86, k40, hcN, hcW, hcV]
        exact ⟨_, rfl⟩
      · rw [if_neg hin] at k40
        simp -implicitDefEqProofs [hdW, tlW, t12a, c12, k39, k52N, k52W, k51N, k51W, k86, k40, hcN, hcW, hcV]
        exact ⟨_, rfl⟩
    · rw [if_neg bW] at k51W
      have hE := hEncW bN bW
      by_cases hin : inB O = true
      · have hI := in_iff.1 hin
        rw [if_pos hin] at k40
        have l1 := fun S e he => loop12b (d := 58) hn hE (.p (.sl (pF (O.map smpF)) n)) 0 (.inl ⟨rfl, O, rfl, hOl, hI, hO2⟩) (.p (.sl p8v n)) (.ptr 0 0 0) (.sl 3 n 0 n) (.sl 4 n 0 n) (iv rt) (iv ms) S e he
        simp -implicitDefEqProofs [hdW, tlW, t12a, c12, k39, k52N, k52W, k51N, k51W, k86, k40, hcN, hcW, hcV]
        rw [l1 _ _ rfl]
        simp -implicitDefEqProofs []
        exact ⟨_, rfl⟩
      · rw [if_neg hin] at k40
        have l1 := fun S e he => loop12b (d := 58) hn hE (.p (.sl [] 0)) 4 (.inr rfl) (.p (.sl p8v n)) (.ptr 0 0 0) (.sl 3 n 0 n) (.sl 4 n 0 n) (iv rt) (iv ms) S e he
        simp -implicitDefEqProofs [hdW, tlW, t12a, c12, k39, k52N, k52W, k51N, k51W, k86, k40, hcN, hcW, hcV]
        rw [l1 _ _ rfl]
        simp -implicitDefEqProofs []
        exact ⟨_, rfl⟩
end Fw
end

section
/- What is within: the peak, and what is filled: the plain facts. -/
set_option maxHeartbeats 16000000
namespace Fw
open Go
attribute [local irreducible] evCode evOps evOpsD evOper evOperD evOp evFn loopN T.All T.bind callPure callOp opsK opsDK restK seqK blockK loopS setK setQ giveK scalK gcK finish finS rfunK yldK yldB loopK

theorem msI_in (l : List Int) : ∀ i, (∃ j < i, msI l i = (wvO l).getD j 0) ∨ msI l i = -1000 := by
  intro i
  induction i with
  | zero => exact .inr rfl
  | succ i ih =>
    simp only [msI]
    by_cases h : msI l i ≤ (wvO l).getD i 0
    · exact .inl ⟨i, by omega, by omega⟩
    · rcases ih with ⟨j, h1, h2⟩ | h2
      · exact .inl ⟨j, by omega, by omega⟩
      · exact .inr (by omega)
theorem msI_max (l : List Int) : ∀ i j, j < i → (wvO l).getD j 0 ≤ msI l i := by
  intro i
  induction i with
  | zero => intro j h; omega
  | succ i ih =>
    intro j h
    simp only [msI]
    by_cases e : j = i
    · subst e; omega
    · have := ih j (by omega); omega
theorem wvO_in {l : List Int} (hb : ∀ n ∈ l, -128 ≤ n ∧ n ≤ 127) : ∀ x ∈ wvO l, -256 ≤ x ∧ x ≤ 256 := by
  intro x hx
  obtain ⟨n, hn, rfl⟩ := List.mem_map.1 hx
  have := hb n hn; omega
theorem wvO_gin {l : List Int} (hb : ∀ n ∈ l, -128 ≤ n ∧ n ≤ 127) (i : Nat) (hi : i < l.length) : -256 ≤ (wvO l).getD i 0 ∧ (wvO l).getD i 0 ≤ 256 := by
  rw [List.getD_eq_getElem?_getD, List.getElem?_eq_getElem (by simpa using hi)]
  exact wvO_in hb _ (List.getElem_mem _)
theorem rtI_in {l : List Int} (hb : ∀ n ∈ l, -128 ≤ n ∧ n ≤ 127) : ∀ i, i ≤ l.length → 0 ≤ rtI l i ∧ rtI l i ≤ 1024 := by
  intro i
  induction i with
  | zero => intro _; simp [rtI]
  | succ i ih =>
    intro h
    have h1 := ih (by omega)
    cases i with
    | zero => simp [rtI]
    | succ j =>
      have a := wvO_gin hb (j + 1) (by omega)
      have b := wvO_gin hb j (by omega)
      simp only [rtI]; omega
theorem rtI_step (l : List Int) : ∀ n i, i + 2 ≤ n → (wvO l).getD (i + 1) 0 - (wvO l).getD i 0 ≤ rtI l n ∧ (wvO l).getD i 0 - (wvO l).getD (i + 1) 0 ≤ rtI l n := by
  intro n
  induction n with
  | zero => intro i h; omega
  | succ n ih =>
    intro i h
    cases n with
    | zero => omega
    | succ m =>
      simp only [rtI]
      by_cases e : i = m
      · subst e; omega
      · have := ih i (by omega); omega

theorem valL_get (l : List Int) (n0 n1 : Int) (i : Nat) (hi : i < l.length) : (valL l n0 n1).getD i ⟨0, 0, false, false⟩ = valI l n0 n1 i := by
  simp [valL, List.getD_eq_getElem?_getD, hi]
theorem valL_ok {l : List Int} (hb : ∀ n ∈ l, -128 ≤ n ∧ n ≤ 127) {n0 n1 : Int} (h0 : 0 ≤ n0) (hn : 0 < l.length) (hl : l.length ≤ 16) : valsE (valL l n0 n1) = 0 ∧ ∀ v ∈ valL l n0 n1, v.under = false := by
  constructor
  · rw [valsE, firstE_zero]
    intro e he
    simp only [List.mem_cons, List.not_mem_nil, or_false] at he
    rcases he with rfl | rfl
    · rw [valL_length]
      have a : ((l.length : Int) == 0) = false := by rw [beq_eq_false_iff_ne]; omega
      have b : decide ((4096 : Int) < l.length) = false := by simp; omega
      simp only [manyE, whenE, a, b]; rfl
    · rw [firstE_zero]
      intro e he
      obtain ⟨v, hv, rfl⟩ := List.mem_map.1 he
      obtain ⟨i, hi, rfl⟩ := List.mem_map.1 hv
      have hi := List.mem_range.1 hi
      have hm := wvO_gin hb i hi
      have hd := duI_in h0 i
      refine ivX_zero.2 ?_
      unfold valI
      split <;> simp only <;> omega
  · intro v hv
    obtain ⟨i, hi, rfl⟩ := List.mem_map.1 hv
    unfold valI
    split <;> rfl
/-- the greatest number lies in the peak -/
theorem peak_in {l : List Int} (hb : ∀ n ∈ l, -128 ≤ n ∧ n ≤ 127) {n0 n1 : Int} (h0 : 0 ≤ n0) (hn : 0 < l.length) :
    (curV (valL l n0 n1) (·.low) (l.length - 1)).low ≤ msI l l.length ∧ ((valL l n0 n1).any (·.over) = false → msI l l.length ≤ (curV (valL l n0 n1) (·.high) (l.length - 1)).high) := by
  constructor
  · obtain ⟨j, h1, h2⟩ := curV_in (valL l n0 n1) (·.low) (l.length - 1)
    rw [h2, valL_get l n0 n1 j (by omega)]
    have := msI_max l l.length j (by omega)
    have hd := duI_in h0 j
    unfold valI
    split <;> simp only <;> omega
  · intro ho
    rcases msI_in l l.length with ⟨j, h1, h2⟩ | h2
    · rw [h2]
      have h3 := curV_max (valL l n0 n1) (·.high) (l.length - 1) j (by omega)
      rw [valL_get l n0 n1 j h1] at h3
      have hd := duI_in h0 j
      have hv : (valI l n0 n1 j).over = false := by
        have := List.any_eq_false.1 ho (valI l n0 n1 j) (List.mem_map.2 ⟨j, List.mem_range.2 h1, rfl⟩)
        simpa using this
      unfold valI at h3 hv
      split at hv
      · cases hv
      · rename_i hc
        rw [if_neg hc] at h3
        simp only at h3
        omega
    · have := msI_max l l.length 0 hn
      have := wvO_gin hb 0 hn
      omega

/-! what is filled -/
theorem one_gap {f t : Int} {n : Nat} (h0 : 0 ≤ f) (h1 : f < t) (h2 : t ≤ n) : gapE [(f, t)] n = 0 := by
  simp only [gapE, gapL, List.length_cons, List.length_nil]
  rw [if_neg (by omega), firstE_zero]
  intro e he
  simp only [List.mem_map, List.mem_range] at he
  obtain ⟨i, hi, rfl⟩ := he
  have : i = 0 := by omega
  subst this
  have hg : gbad n (f, t) = false := by simp [gbad]; omega
  have hd : decide (f ≤ -1) = false := by simp; omega
  simp [gap1, endB, hg, hd, firstE, whenE]
theorem fill_one {V : List Int} {r f t : Int} (hV : ∀ x ∈ V, -256 ≤ x ∧ x ≤ 256) (hs : ∀ i, i + 1 < V.length → V.getD (i + 1) 0 - V.getD i 0 ≤ r ∧ V.getD i 0 - V.getD (i + 1) 0 ≤ r) (i : Nat) (hi : i < V.length) :
    (fiY (mL [(f, t)] V.length) V r i).1 ≤ V.getD i 0 ∧ V.getD i 0 ≤ (fiY (mL [(f, t)] V.length) V r i).2 ∧ ((i : Int) < f ∨ t ≤ i → (fiY (mL [(f, t)] V.length) V r i).1 = (fiY (mL [(f, t)] V.length) V r i).2) := by
  have hg : -256 ≤ V.getD i 0 ∧ V.getD i 0 ≤ 256 := by
    rw [List.getD_eq_getElem?_getD, List.getElem?_eq_getElem hi]; exact hV _ (List.getElem_mem hi)
  have hmL : (mL [(f, t)] V.length).length = V.length := by simp [mL]
  have hlt : lft (mL [(f, t)] V.length) i < V.length := by
    rcases lft_spec (mL [(f, t)] V.length) i (by omega) with ⟨h, _⟩ | ⟨k, h, hk, _⟩ <;> omega
  have hrt : rgt (mL [(f, t)] V.length) i < V.length := by
    rcases rgt_spec (mL [(f, t)] V.length) i (by omega) with ⟨h, _⟩ | ⟨k, h, _, hk, _⟩ <;> omega
  have a := nar_in hs i hi (-16384, 16384) (by simp only; omega) _ hlt
  have b := nar_in hs i hi _ a _ hrt
  refine ⟨b.1, b.2, fun h => ?_⟩
  have hm : mis [(f, t)] (i : Int) = false := by
    simp only [mis, List.any_cons, List.any_nil, Bool.or_false, Bool.and_eq_false_iff, decide_eq_false_iff_not]
    omega
  rw [fiY_known [(f, t)] V r i V.length hi hm (by omega)]
theorem fill_all {f t : Int} {n : Nat} (h : f = 0 ∧ t = n) : (mL [(f, t)] n).any (!·) = false := by
  rw [List.any_eq_false]
  intro b hb
  obtain ⟨j, hj, rfl⟩ := List.mem_map.1 hb
  have := List.mem_range.1 hj
  have h1 : decide (f ≤ (j : Int)) = true := by simp; omega
  have h2 : decide ((j : Int) < t) = true := by simp; omega
  simp [mis, h1, h2]
theorem fill_some {f t : Int} {n : Nat} (h0 : 0 ≤ f) (h1 : f < t) (h2 : t ≤ n) (h : ¬ (f = 0 ∧ t = n)) : (mL [(f, t)] n).any (!·) = true := by
  rw [List.any_eq_true]
  by_cases hf : f = 0
  · refine ⟨mis [(f, t)] ((n - 1 : Nat) : Int), List.mem_map.2 ⟨n - 1, List.mem_range.2 (by omega), rfl⟩, ?_⟩
    have : decide (((n - 1 : Nat) : Int) < t) = false := by simp; omega
    simp [mis, this]
  · refine ⟨mis [(f, t)] ((0 : Nat) : Int), List.mem_map.2 ⟨0, List.mem_range.2 (by omega), rfl⟩, ?_⟩
    have : decide (f ≤ 0) = false := by simp; omega
    simp [mis, this]
end Fw
end

section
/- What is within: the peak, and what is filled. -/
set_option maxHeartbeats 16000000
namespace Fw
open Go
attribute [local irreducible] evCode evOps evOpsD evOper evOperD evOp evFn loopN T.All T.bind callPure callOp opsK opsDK restK seqK blockK loopS setK setQ giveK scalK gcK finish finS rfunK yldK yldB loopK

theorem hid30 : hidT 1073741824 = [30] := by decide
@[irreducible] def t12c : ACode := tlW (tlW (tlW (tlW (tlW (tlW t12b)))))
theorem t12_c : t12b = .seq (hdW t12b) (.seq (hdW (tlW t12b)) (.seq (hdW (tlW (tlW t12b))) (.seq (hdW (tlW (tlW (tlW t12b)))) (.seq (hdW (tlW (tlW (tlW (tlW t12b))))) (.seq (hdW (tlW (tlW (tlW (tlW (tlW t12b)))))) t12c))))) := by unfold t12c t12b t12a; rfl
theorem wi3 (l : List Int) (hb : ∀ n ∈ l, -128 ≤ n ∧ n ≤ 127) (hn0 : 0 < l.length) (hn : l.length ≤ 16) (n0 n1 n2 n3 : Int) (b0 : 0 ≤ n0 ∧ n0 ≤ 255) (b2 : 0 ≤ n2 ∧ n2 ≤ 255) (b3 : 0 ≤ n3 ∧ n3 ≤ 255) (QN QW : List PVal) (tl : Env) :
    ∃ (FL : List (Int × Int)) (f t : Int) (tl2 : Env) (o5 o6 : Obj), (FL = [] ∨ FL.length = l.length) ∧ (∀ i (h1 : i < FL.length), FL[i].1 ≤ (wvO l).getD i 0 ∧ (wvO l).getD i 0 ≤ FL[i].2 ∧ ((i : Int) < f ∨ t ≤ i → FL[i].1 = FL[i].2)) ∧
    (evCode (evFn F C0 G0 60) C0 G0 0 t12b ⟨(1, l8 l) :: (5, .ptr 0 0 0) :: (9, .sl 3 l.length 0 l.length) :: (10, .sl 4 l.length 0 l.length) :: (11, iv (rtI l l.length)) :: (12, iv (msI l l.length)) :: tl, [(4, .frz (pI (wvO l)) l.length 1), (3, .arr (rowC vc (valL l n0 n1)) l.length 4), (2, .frz QN l.length 2), (1, .frz QW l.length 2), (0, .arr [.int .u8 n0, .int .u8 n1, .int .u8 n2, .int .u8 n3] 0 1)]⟩).bind (finish [.tmp 6]) =
    (evCode (evFn F C0 G0 60) C0 G0 0 t12c ⟨(1, l8 l) :: (5, .ptr 0 0 0) :: (10, .sl 4 l.length 0 l.length) :: (30, .ptr 7 0 0) :: (31, .p (.sl (cI FL) FL.length)) :: tl2, [(7, .arr [.int .i64 f, .int .i64 t] 0 1), (6, o6), (5, o5), (4, .frz (pI (wvO l)) l.length 1), (3, .arr (rowC vc (valL l n0 n1)) l.length 4), (2, .frz QN l.length 2), (1, .frz QW l.length 2), (0, .arr [.int .u8 n0, .int .u8 n1, .int .u8 n2, .int .u8 n3] 0 1)]⟩).bind (finish [.tmp 6]) := by
  rw [t12_c]
  have hV := wvO_in hb
  have hVl := wvO_length l
  have hV16 : In16 (wvO l) := fun x hx => by have := hV x hx; omega
  obtain ⟨hz, hu⟩ := valL_ok (n0 := n0) (n1 := n1) hb b0.1 hn0 hn
  have hVLl := valL_length l n0 n1
  have k57 := peak57 (n := 60) (by omega) (valL l n0 n1) (by omega) (by omega) hz hu
  have hpk := peak_in (n0 := n0) (n1 := n1) hb b0.1 hn0
  rw [hVLl] at k57
  have k86 := made86 (n := 60) (by omega) hV16 (by omega)
  have hmd := made_ok hV16
  have hrt := rtI_in hb l.length (Nat.le_refl _)
  have hst : ∀ i, i + 1 < (wvO l).length → (wvO l).getD (i + 1) 0 - (wvO l).getD i 0 ≤ rtI l l.length ∧ (wvO l).getD i 0 - (wvO l).getD (i + 1) 0 ≤ rtI l l.length := fun i hi => rtI_step l l.length i (by omega)
  have hm := tmod_in n2 l.length (by omega)
  have hm0 := Int.tmod_nonneg (l.length : Int) b2.1
  have hm3 := tmod_in n3 4 (by decide)
  have hm30 := Int.tmod_nonneg 4 b3.1
  generalize hf : n2.tmod l.length = f at *
  generalize hq : n3.tmod 4 = q at *
  obtain ⟨t, ht⟩ : ∃ t, t = min (l.length : Int) (f + 1 + q) := ⟨_, rfl⟩
  have ht1 : f < t := by omega
  have ht2 : t ≤ l.length := by omega
  have hfill := fun i hi => fill_one (V := wvO l) (r := rtI l l.length) (f := f) (t := t) hV hst i hi
  have k65 := filled65 (n := 60) (by omega) ((wvO l).map smpF) (by simp; omega) [(f, t)] (by simp) (rtI l l.length)
  have hfi : fiE ((wvO l).map smpF) [(f, t)] (rtI l l.length) = 0 := by
    unfold fiE
    rw [List.length_map, hVl, one_gap hm0 ht1 ht2, smps_iff.2 ⟨by simp; omega, hmd.1⟩]
    have : rangeE 0 16384 (rtI l l.length) = 0 := by unfold rangeE; rw [if_neg (by omega)]
    rw [this]; rfl
  rw [if_pos hfi] at k65
  have hE2 : fiE2 ((wvO l).map smpF) [(f, t)] (rtI l l.length) = if f = 0 ∧ t = l.length then 12 else 0 := by
    unfold fiE2
    rw [List.length_map, hVl]
    by_cases hall : f = 0 ∧ t = l.length
    · rw [fill_all hall, if_pos hall]; simp
    · rw [fill_some hm0 ht1 ht2 hall, if_neg hall]
      simp only [if_true]
      rw [firstE_zero]
      intro e he
      obtain ⟨y, hy, rfl⟩ := List.mem_map.1 he
      obtain ⟨i, hi, rfl⟩ := List.mem_map.1 hy
      have hi := List.mem_range.1 hi
      rw [List.length_map] at hi
      have := hfill i hi
      rw [hmd.2, List.length_map]
      rw [if_neg (by omega)]
  have hFl : (fiYs ((wvO l).map smpF) [(f, t)] (rtI l l.length)).length = l.length := by simp [fiYs]
  have hFg : ∀ i (h1 : i < (fiYs ((wvO l).map smpF) [(f, t)] (rtI l l.length)).length), (fiYs ((wvO l).map smpF) [(f, t)] (rtI l l.length))[i].1 ≤ (wvO l).getD i 0 ∧ (wvO l).getD i 0 ≤ (fiYs ((wvO l).map smpF) [(f, t)] (rtI l l.length))[i].2 ∧ ((i : Int) < f ∨ t ≤ i → (fiYs ((wvO l).map smpF) [(f, t)] (rtI l l.length))[i].1 = (fiYs ((wvO l).map smpF) [(f, t)] (rtI l l.length))[i].2) := fun i h1 => by
    have := hfill i (by omega)
    simp only [fiYs, List.getElem_map, List.getElem_range, hmd.2, List.length_map]
    exact this
  rw [hE2] at k65
  clear hE2 hfi hfill
  generalize fiYs ((wvO l).map smpF) [(f, t)] (rtI l l.length) = FI at *
  have hc1 : cI [(f, t)] = [.int .i64 f, .int .i64 t] := rfl
  simp only [fsl, isl, csl, List.length_map, hVl, hc1, List.length_cons, List.length_nil, Nat.zero_add] at k86 k65
  simp only [vsl, hVLl] at k57
  have w1 := wrap64 (n := n2) (by omega) (by omega)
  have w2 := wrap64 (n := f) (by omega) (by omega)
  have w3 := wrap64 (n := f + 1) (by omega) (by omega)
  have w4 := wrap64 (n := n3) (by omega) (by omega)
  have w5 := wrap64 (n := f + 1 + q) (by omega) (by omega)
  have hmn : minInt (l.length : Int) [iv (f + 1 + q)] = some t := by rw [ht]; exact min2 _ _
  have hn00 : ¬ l.length = 0 := by omega
  have hn01 : ¬ (l.length : Int) = 0 := by omega
  have hne : ¬ l = [] := fun e => by subst e; simp at hn0
  have hlm : l.length ≤ lim := by simp only [lim]; omega
  have hcV : (rowC vc (valL l n0 n1)).length = l.length * 4 := by rw [vR_len, hVLl]
  have hcW : (pI (wvO l)).length = l.length := by simp
  generalize hms : msI l l.length = ms at *
  generalize rtI l l.length = rt at *
  generalize (curV (valL l n0 n1) (·.low) (l.length - 1)).low = pl at *
  generalize (curV (valL l n0 n1) (·.high) (l.length - 1)).high = ph at *
  generalize (valL l n0 n1).any (·.over) = op at *
  generalize rowC vc (valL l n0 n1) = VC at *
  generalize pF ((wvO l).map smpF) = PV at *
  have hcI0 : cI [] = [] := rfl
  generalize pI (wvO l) = QV at *
  have p1 : ¬ ms < pl := by omega
  have p3 : ph < ms → op = true := fun h => by
    cases op with
    | true => rfl
    | false => have := hpk.2 rfl; omega
  clear hpk
  by_cases hall : f = 0 ∧ t = l.length
  · rw [if_pos hall, if_neg (by decide)] at k65
    obtain ⟨h1, h2⟩ := hall
    have h1b : (f == 0) = true := by simpa using h1
    have h2b : (t == (l.length : Int)) = true := by simpa using h2
    refine ⟨[], f, t, ?_⟩
    by_cases p2 : ph < ms
    · have p3 := p3 p2
      subst p3
      simp -implicitDefEqProofs [hdW, tlW, t12b, t12a, c12, k57, k86, k65, hcV, hcW, hn00, hlm, p1, p2, w1, w3, w4, w5, hf, hq, hmn, h1b, h2b, hidI, hid30, refsL, keptB, sameO, samePs, sameP]
      exact ⟨_, _, _, rfl⟩
    · simp -implicitDefEqProofs [hdW, tlW, t12b, t12a, c12, k57, k86, k65, hcV, hcW, hn00, hlm, p1, p2, w1, w3, w4, w5, hf, hq, hmn, h1b, h2b, hidI, hid30, refsL, keptB, sameO, samePs, sameP]
      exact ⟨_, _, _, rfl⟩
  · rw [if_neg hall, if_pos rfl] at k65
    refine ⟨FI, f, t, ?_⟩
    by_cases h1 : f = 0
    · have h1b : (f == 0) = true := by simpa using h1
      have h2b : (t == (l.length : Int)) = false := by
        rw [beq_eq_false_iff_ne]; exact fun e => hall ⟨h1, e⟩
      by_cases p2 : ph < ms
      · have p3 := p3 p2
        subst p3
        simp -implicitDefEqProofs [hdW, tlW, t12b, t12a, c12, k57, k86, k65, hcV, hcW, hn00, hlm, p1, p2, w1, w3, w4, w5, hf, hq, hmn, h1b, h2b, hFl, hidI, hid30, refsL, keptB, sameO, samePs, sameP]
        exact ⟨fun i h1 => hFg i (by omega), _, _, _, rfl⟩
      · simp -implicitDefEqProofs [hdW, tlW, t12b, t12a, c12, k57, k86, k65, hcV, hcW, hn00, hlm, p1, p2, w1, w3, w4, w5, hf, hq, hmn, h1b, h2b, hFl, hidI, hid30, refsL, keptB, sameO, samePs, sameP]
        exact ⟨fun i h1 => hFg i (by omega), _, _, _, rfl⟩
    · have h1b : (f == 0) = false := by simpa using h1
      by_cases p2 : ph < ms
      · have p3 := p3 p2
        subst p3
        simp -implicitDefEqProofs [hdW, tlW, t12b, t12a, c12, k57, k86, k65, hcV, hcW, hn00, hlm, p1, p2, w1, w3, w4, w5, hf, hq, hmn, h1b, hFl, hidI, hid30, refsL, keptB, sameO, samePs, sameP]
        exact ⟨fun i h1 => hFg i (by omega), _, _, _, rfl⟩
      · simp -implicitDefEqProofs [hdW, tlW, t12b, t12a, c12, k57, k86, k65, hcV, hcW, hn00, hlm, p1, p2, w1, w3, w4, w5, hf, hq, hmn, h1b, hFl, hidI, hid30, refsL, keptB, sameO, samePs, sameP]
        exact ⟨fun i h1 => hFg i (by omega), _, _, _, rfl⟩
end Fw
end

section
/- What is within: the loops over what is filled, the sum, and the ways. -/
set_option maxHeartbeats 16000000
namespace Fw
open Go
attribute [local irreducible] evCode evOps evOpsD evOper evOperD evOp evFn loopN T.All T.bind callPure callOp opsK opsDK restK seqK blockK loopS setK setQ giveK scalK gcK finish finS rfunK yldK yldB loopK

section
variable {d : Nat}
theorem loop12c (V : List Int) (FL : List (Int × Int)) (n : Nat) (hVl : V.length = n) (hn : n ≤ 16) (f t : Int) (hFL : FL = [] ∨ FL.length = n) (hg : ∀ i (h1 : i < FL.length), FL[i].1 ≤ V.getD i 0 ∧ V.getD i 0 ≤ FL[i].2 ∧ ((i : Int) < f ∨ t ≤ i → FL[i].1 = FL[i].2)) (x1 : List PVal) (o6 o5 o3 o2 o1 : Obj) (cs0 : List PVal) (e : Env)
    (he : restrict e [1, 5, 10, 30, 382, 383, 384] = [(1, .p (.sl x1 n)), (5, .ptr 0 0 0), (10, .sl 4 n 0 n), (30, .ptr 7 0 0), (382, .p (.sl (cI FL) FL.length)), (383, iv FL.length), (384, iv 0)]) :
    loopN (loopS (evFn F C0 G0 (d + 2)) C0 G0 0 true [1, 5, 10, 30, 382, 383, 384] c12L2) loopFuel ⟨e, [(7, .arr [.int .i64 f, .int .i64 t] 0 1), (6, o6), (5, o5), (4, .frz (pI V) n 1), (3, o3), (2, o2), (1, o1), (0, .arr cs0 0 1)]⟩ =
    .ret (.exit 4, ⟨[(1, .p (.sl x1 n)), (5, .ptr 0 0 0), (10, .sl 4 n 0 n), (30, .ptr 7 0 0), (382, .p (.sl (cI FL) FL.length)), (383, iv FL.length), (384, iv FL.length), (385, .p (.bool false))], [(7, .arr [.int .i64 f, .int .i64 t] 0 1), (4, .frz (pI V) n 1), (0, .arr cs0 0 1)]⟩) := by
  let inv : Nat → St := fun i => ⟨[(1, .p (.sl x1 n)), (5, .ptr 0 0 0), (10, .sl 4 n 0 n), (30, .ptr 7 0 0), (382, .p (.sl (cI FL) FL.length)), (383, iv FL.length), (384, iv i)], [(7, .arr [.int .i64 f, .int .i64 t] 0 1), (4, .frz (pI V) n 1), (0, .arr cs0 0 1)]⟩
  have hm : FL.length ≤ 16 := by
    rcases hFL with h | h
    · subst h; simp
    · omega
  refine loop_run' inv FL.length (by simp) (loopS_same (by rw [he]; rfl) (by simp only [he, inv]; simp)) ?_ ?_ (by simp [loopFuel]; omega)
  · intro i hi
    have hFn : FL.length = n := by
      rcases hFL with h | h
      · subst h; simp at hi
      · exact h
    have hin : i < V.length := by omega
    have w := wrap_succ (i := i) (by omega)
    obtain ⟨g1, g2, g3⟩ := hg i hi
    have hgv : V.getD i 0 = V[i] := by simp [List.getD_eq_getElem?_getD, List.getElem?_eq_getElem hin]
    rw [hgv] at g1 g2
    have dA := cI_drop FL i hi
    have lA : (cI FL).length = n * 2 := by rw [cI_length, hFn]
    have hlt : i * 2 < n * 2 := by omega
    have hi' : i < n := by omega
    have hq : ∀ q, (pI V)[i]'q = .int .i64 V[i] := fun q => by simp
    have hql : (pI V).length = n := by simp [hVl]
    simp only [inv, hFn]
    generalize cI (FL.drop (i + 1)) = RA at *
    generalize cI FL = CA at *
    generalize pI V = QV at *
    generalize V[i] = v at *
    generalize FL[i] = x at *
    obtain ⟨p, q⟩ := x
    simp only at dA g1 g2 g3
    have m1 : ¬ v < p := by omega
    have m2 : ¬ q < v := by omega
    by_cases c1 : (i : Int) < f
    · have hpq := g3 (.inl c1)
      subst hpq
      refine ⟨?_, ?h1, ?h2⟩
      case h1 =>
        simp -implicitDefEqProofs [loopS_eq, c12L2, hi', w, dA, lA, hlt, hq, hql, m1, m2, c1]
        exact rfl
      case h2 => exact loopS_same rfl (by simp)
    · by_cases c2 : t ≤ (i : Int)
      · have hpq := g3 (.inr c2)
        subst hpq
        refine ⟨?_, ?h3, ?h4⟩
        case h3 =>
          simp -implicitDefEqProofs [loopS_eq, c12L2, hi', w, dA, lA, hlt, hq, hql, m1, m2, c1, c2]
          exact rfl
        case h4 => exact loopS_same rfl (by simp)
      · refine ⟨?_, ?h5, ?h6⟩
        case h5 =>
          simp -implicitDefEqProofs [loopS_eq, c12L2, hi', w, dA, lA, hlt, hq, hql, m1, m2, c1, c2]
          exact rfl
        case h6 => exact loopS_same rfl (by simp)
  · simp only [inv]
    generalize cI FL = CA at *
    simp -implicitDefEqProofs [loopS_eq, c12L2]

theorem loop12d (V : List Int) (n : Nat) (hVl : V.length = n) (hn : n ≤ 16) (hV : ∀ x ∈ V, -256 ≤ x ∧ x ≤ 256) (a1 a35 a36 a37 a38 a39 : AVal) (S : Sto) (hS : get S 4 = some (.frz (pI V) n 1)) (e : Env)
    (he : restrict e [1, 35, 36, 37, 38, 39, 40, 443, 444, 445] = [(1, a1), (35, a35), (36, a36), (37, a37), (38, a38), (39, a39), (40, iv 0), (443, .sl 4 n 0 n), (444, iv n), (445, iv 0)]) :
    loopN (loopS (evFn F C0 G0 (d + 2)) C0 G0 0 false [1, 35, 36, 37, 38, 39, 40, 443, 444, 445] c12L3) loopFuel ⟨e, S⟩ = .ret (.exit 6, ⟨[(1, a1), (35, a35), (36, a36), (37, a37), (38, a38), (39, a39), (40, iv (pre V n)), (443, .sl 4 n 0 n), (444, iv n), (445, iv n), (446, .p (.bool false))], S⟩) := by
  let inv : Nat → St := fun i => ⟨[(1, a1), (35, a35), (36, a36), (37, a37), (38, a38), (39, a39), (40, iv (pre V i)), (443, .sl 4 n 0 n), (444, iv n), (445, iv i)], S⟩
  have h0 : loopS (evFn F C0 G0 (d + 2)) C0 G0 0 false [1, 35, 36, 37, 38, 39, 40, 443, 444, 445] c12L3 ⟨e, S⟩ = loopS (evFn F C0 G0 (d + 2)) C0 G0 0 false [1, 35, 36, 37, 38, 39, 40, 443, 444, 445] c12L3 (inv 0) := by
    simp only [loopS_eq, he]; rfl
  refine loop_run inv n (by simp) h0 ?_ ?_ (by simp [loopFuel]; omega)
  · intro i hi
    have hin : i < V.length := by omega
    have w := wrap_succ (i := i) (by omega)
    have hb : ∀ y ∈ V, (y.natAbs : Int) ≤ 256 := fun y hy => by have := hV y hy; omega
    have hp := pre_bound hb (i + 1) (by omega)
    have hpe : pre V (i + 1) = pre V i + V[i] := by simp [pre, sumN, List.getD_eq_getElem?_getD, hin]
    rw [hpe] at hp
    have w1 := wrap64 (n := pre V i + V[i]) (by omega) (by omega)
    have hq : ∀ q, (pI V)[i]'q = .int .i64 V[i] := fun q => by simp
    have hql : (pI V).length = n := by simp [hVl]
    simp only [inv, hpe]
    generalize pI V = QV at *
    generalize pre V i = s at *
    generalize V[i] = v at *
    simp -implicitDefEqProofs [loopS_eq, c12L3, hS, hi, w, w1, hq, hql]
  · simp only [inv]
    simp -implicitDefEqProofs [loopS_eq, c12L3]

theorem loop12e (SP WA : List Int) (n : Nat) (hS : SP.length = n) (hW : WA.length = n) (hn0 : 0 < n) (hn : n ≤ 16) (hb : ∀ i (h : i < WA.length), -100000000000 ≤ WA[i] ∧ WA[i] ≤ 100000000000) (hd : ∀ i (h1 : i + 1 < WA.length) (h2 : i + 1 < SP.length), WA[i + 1] - WA[i] = SP[i + 1]) (x1 : List PVal) (S : Sto) (e : Env)
    (he : restrict e [1, 36, 38, 43] = [(1, .p (.sl x1 n)), (36, .p (.sl (pI SP) n)), (38, .p (.sl (pI WA) n)), (43, iv 1)]) :
    loopN (loopS (evFn F C0 G0 (d + 2)) C0 G0 0 false [1, 36, 38, 43] c12L4) loopFuel ⟨e, S⟩ = .ret (.exit 8, ⟨[(1, .p (.sl x1 n)), (36, .p (.sl (pI SP) n)), (38, .p (.sl (pI WA) n)), (43, iv n), (488, .p (.bool false))], S⟩) := by
  obtain ⟨m, rfl⟩ : ∃ m, n = m + 1 := ⟨n - 1, by omega⟩
  let inv : Nat → St := fun i => ⟨[(1, .p (.sl x1 (m + 1))), (36, .p (.sl (pI SP) (m + 1))), (38, .p (.sl (pI WA) (m + 1))), (43, iv ((i : Int) + 1))], S⟩
  have h0 : loopS (evFn F C0 G0 (d + 2)) C0 G0 0 false [1, 36, 38, 43] c12L4 ⟨e, S⟩ = loopS (evFn F C0 G0 (d + 2)) C0 G0 0 false [1, 36, 38, 43] c12L4 (inv 0) := by
    simp only [loopS_eq, he]; rfl
  refine loop_run inv m (by simp) h0 ?_ ?_ (by simp [loopFuel]; omega)
  · intro i hi
    have hi1 : i + 1 < WA.length := by omega
    have hi2 : i + 1 < SP.length := by omega
    have h1 := hd i hi1 hi2
    have b1 := hb (i + 1) hi1
    have b2 := hb i (by omega)
    have w := wrap64 (n := (i : Int) + 1 + 1) (by omega) (by omega)
    have w1 := wrap64 (n := WA[i + 1] - WA[i]) (by omega) (by omega)
    have w2 := wrap64 (n := (i : Int)) (by omega) (by omega)
    rw [h1] at w1
    have q1 : ∀ q, (pI WA)[i + 1]'q = .int .i64 WA[i + 1] := fun q => by simp
    have q2 : ∀ q, (pI WA)[i]'q = .int .i64 WA[i] := fun q => by simp
    have q3 : ∀ q, (pI SP)[i + 1]'q = .int .i64 SP[i + 1] := fun q => by simp
    have l1 : (pI WA).length = m + 1 := by simp [hW]
    have l2 : (pI SP).length = m + 1 := by simp [hS]
    have t1 : ((i : Int) + 1).toNat = i + 1 := by omega
    have c1 : (i : Int) + 1 < (m : Int) + 1 := by omega
    have c2 : (0 : Int) ≤ (i : Int) + 1 := by omega
    have c3 : (i : Int) < (m : Int) + 1 := by omega
    have c4 : i < m + 1 := by omega
    simp only [inv]
    generalize pI WA = QW at *
    generalize pI SP = QS at *
    generalize SP[i + 1] = s at *
    generalize WA[i + 1] = u at *
    generalize WA[i] = v at *
    simp -implicitDefEqProofs [loopS_eq, c12L4, hi, w, w1, w2, q1, q2, q3, l1, l2, t1, c1, c2, c3, c4, h1]
  · simp only [inv]
    simp -implicitDefEqProofs [loopS_eq, c12L4]
end
end Fw
end

section
/- What is within: the law, at any input. -/
set_option maxHeartbeats 16000000
namespace Fw
open Go
attribute [local irreducible] evCode evOps evOpsD evOper evOperD evOp evFn loopN T.All T.bind callPure callOp opsK opsDK restK seqK blockK loopS setK setQ giveK scalK gcK finish finS rfunK yldK yldB loopK

theorem sums_get (x : List Int) (s : Int) (i : Nat) (hi : i < (sumsL x s).length) : (sumsL x s)[i] = s + pre x (i + 1) := by simp [sumsL]
@[simp] theorem sums_len (x : List Int) (s : Int) : (sumsL x s).length = x.length := by simp [sumsL]
theorem wi4 (ka : RUN 60 15 [] = .ret (.p (.bool true))) (V : List Int) (n : Nat) (hVl : V.length = n) (hn0 : 0 < n) (hn : n ≤ 16) (hV : ∀ x ∈ V, -256 ≤ x ∧ x ≤ 256) (p8v : List PVal) (hp8l : p8v.length = n) (FL : List (Int × Int)) (f t : Int) (hFL : FL = [] ∨ FL.length = n) (hg : ∀ i (h1 : i < FL.length), FL[i].1 ≤ V.getD i 0 ∧ V.getD i 0 ≤ FL[i].2 ∧ ((i : Int) < f ∨ t ≤ i → FL[i].1 = FL[i].2)) (tl2 : Env) (o6 o5 o3 o2 o1 : Obj) (n0 n1 n2 n3 : Int) (b0 : 0 ≤ n0 ∧ n0 ≤ 255) :
    (evCode (evFn F C0 G0 60) C0 G0 0 t12c ⟨(1, .p (.sl p8v n)) :: (5, .ptr 0 0 0) :: (10, .sl 4 n 0 n) :: (30, .ptr 7 0 0) :: (31, .p (.sl (cI FL) FL.length)) :: tl2, [(7, .arr [.int .i64 f, .int .i64 t] 0 1), (6, o6), (5, o5), (4, .frz (pI V) n 1), (3, o3), (2, o2), (1, o1), (0, .arr [.int .u8 n0, .int .u8 n1, .int .u8 n2, .int .u8 n3] 0 1)]⟩).bind (finish [.tmp 6]) = .ret (.p (.bool true)) := by
  have hV16 : In16 V := fun x hx => by have := hV x hx; omega
  have hmd := made_ok hV16
  have l2 := fun e he => loop12c (d := 58) V FL n hVl hn f t hFL hg p8v o6 o5 o3 o2 o1 [.int .u8 n0, .int .u8 n1, .int .u8 n2, .int .u8 n3] e he
  have l3 := fun a35 a36 a37 a38 a39 S hS e he => loop12d (d := 58) V n hVl hn hV (.p (.sl p8v n)) a35 a36 a37 a38 a39 S hS e he
  have k86 := made86 (n := 60) (by omega) hV16 (by omega)
  have hLl : (V.map smpF).length = n := by simp [hVl]
  have k72 := speeds72 (n := 60) (by omega) (V.map smpF) (by omega) (n0 - 128)
  have k73 := ways73 (n := 60) (by omega) (V.map smpF) (by omega) (n0 - 128)
  have hz : stE (V.map smpF) (n0 - 128) = 0 := by
    unfold stE
    rw [smps_iff.2 ⟨by omega, hmd.1⟩]
    have : rangeE (-999999999) 999999999 (n0 - 128) = 0 := by unfold rangeE; rw [if_neg (by omega)]
    rw [this]; rfl
  rw [if_pos hz] at k72 k73
  have hsp : spdL (V.map smpF) (n0 - 128) = sumsL V (n0 - 128) := by unfold spdL; rw [hmd.2]
  have hwy : wayL (V.map smpF) (n0 - 128) = sumsL (sumsL V (n0 - 128)) 0 := by unfold wayL; rw [hsp]
  rw [hsp] at k72
  rw [hwy] at k73
  have hb : ∀ y ∈ V, (y.natAbs : Int) ≤ 256 := fun y hy => by have := hV y hy; omega
  have hSl : (sumsL V (n0 - 128)).length = n := by simp [hVl]
  have hSb : ∀ y ∈ sumsL V (n0 - 128), (y.natAbs : Int) ≤ 100000 := fun y hy => by
    obtain ⟨i, hi, rfl⟩ := List.getElem_of_mem hy
    rw [sums_get]
    rw [sums_len] at hi
    have := pre_bound hb (i + 1) (by omega)
    omega
  have hlast : ∀ q, (pI (sumsL V (n0 - 128)))[n - 1]'q = .int .i64 (n0 - 128 + pre V n) := fun q => by
    rw [pI_getElem, sums_get]
    have : n - 1 + 1 = n := by omega
    rw [this]
  have hpn := pre_bound hb n (by omega)
  have hfst : ∀ q, (pI (sumsL V (n0 - 128)))[0]'q = .int .i64 (n0 - 128 + pre V 1) := fun q => by
    rw [pI_getElem, sums_get]
  have hfst2 : ∀ q, (pI (sumsL (sumsL V (n0 - 128)) 0))[0]'q = .int .i64 (n0 - 128 + pre V 1) := fun q => by
    rw [pI_getElem, sums_get]
    have h1 : pre (sumsL V (n0 - 128)) 1 = n0 - 128 + pre V 1 := by
      have h0 : 0 < (sumsL V (n0 - 128)).length := by omega
      have := sums_get V (n0 - 128) 0 h0
      simp only [pre, sumN, List.getD_eq_getElem?_getD, List.getElem?_eq_getElem h0, Option.getD_some, this]
      omega
    rw [show 0 + 1 = 1 from rfl, h1]
    simp
  generalize hSP : sumsL V (n0 - 128) = SP at *
  have hWl : (sumsL SP 0).length = n := by simp [hSl]
  have hWb : ∀ i (h : i < (sumsL SP 0).length), -100000000000 ≤ (sumsL SP 0)[i] ∧ (sumsL SP 0)[i] ≤ 100000000000 := fun i h => by
    rw [sums_get]
    rw [sums_len] at h
    have := pre_bound hSb (i + 1) (by omega)
    omega
  have hWd : ∀ i (h1 : i + 1 < (sumsL SP 0).length) (h2 : i + 1 < SP.length), (sumsL SP 0)[i + 1]'h1 - (sumsL SP 0)[i]'(Nat.lt_of_succ_lt h1) = SP[i + 1]'h2 := fun i h1 h2 => by
    rw [sums_get, sums_get]
    have : pre SP (i + 1 + 1) = pre SP (i + 1) + SP[i + 1] := by simp only [pre, sumN, List.getD_eq_getElem?_getD, List.getElem?_eq_getElem h2, Option.getD_some]
    omega
  have l4 := fun S e he => loop12e (d := 58) SP (sumsL SP 0) n hSl hWl hn0 hn hWb hWd p8v S e he
  generalize hWA : sumsL SP 0 = WA at *
  simp only [fsl, isl, hVl, hLl] at k86 k72 k73
  have w1 := wrap64 (n := n0) (by omega) (by omega)
  have w2 := wrap64 (n := n0 - 128) (by omega) (by omega)
  have w3 := wrap64 (n := (n : Int) - 1) (by omega) (by omega)
  have w4 : IntKind.i64.wrap (n0 - 128 + pre V n - (n0 - 128)) = pre V n := by
    rw [show n0 - 128 + pre V n - (n0 - 128) = pre V n by omega]
    exact wrap64 (by omega) (by omega)
  have t1 : ((n : Int) - 1).toNat = n - 1 := by omega
  have c1 : (1 : Int) ≤ (n : Int) := by omega
  have c2 : (n : Int) - 1 < n := by omega
  have c3 : n - 1 < n := by omega
  have c4 : 0 < n := hn0
  have c5 : (0 : Int) < (n : Int) := by omega
  have cV : (pI V).length = n := by simp [hVl]
  have cS : (pI SP).length = n := by simp [hSl]
  have cW : (pI WA).length = n := by simp [hWl]
  generalize pF (V.map smpF) = PV at *
  generalize hQ : pI V = QV at *
  generalize pI SP = QS at *
  generalize pI WA = QW at *
  generalize pre V n = pn at *
  generalize n0 - 128 + pre V 1 = p1 at *
  simp -implicitDefEqProofs [tlW, t12c, t12b, t12a, c12]
  rw [l2 _ rfl]
  simp -implicitDefEqProofs [k86, k72, k73, w1, w2, cV]
  rw [l3 _ _ _ _ _ _ (by simp) _ rfl]
  simp -implicitDefEqProofs [hlast, w3, w4, t1, c1, c2, c3, cS]
  rw [l4 _ _ rfl]
  simp -implicitDefEqProofs [hfst, hfst2, c4, cS, cW, ka]

theorem wit_at (ka : RUN 60 15 [] = .ret (.p (.bool true))) (k l : List Int) (hb : ∀ n ∈ l, -128 ≤ n ∧ n ≤ 127) (n0 n1 n2 n3 : Int) (b0 : 0 ≤ n0 ∧ n0 ≤ 255) (b1 : 0 ≤ n1 ∧ n1 ≤ 255) (b2 : 0 ≤ n2 ∧ n2 ≤ 255) (b3 : 0 ≤ n3 ∧ n3 ≤ 255) : RUN 61 12 [isl k, l8 l, n8 n0 n1 n2 n3] = .ret (.p (.bool true)) := by
  rcases wi1 ka k l hb n0 n1 n2 n3 b0 b1 with h | ⟨hk, h1, h2, h⟩
  · exact h
  · rw [h]
    have hW : (wvO l).take l.length = wvO l := List.take_of_length_le (by simp)
    have hN : (narL l).take l.length = (wvO l).map fun m => (m, m) := List.take_of_length_le (by simp)
    have hD : (widL l n0).take l.length = widL l n0 := List.take_of_length_le (by simp)
    have hVv : (valL l n0 n1).take l.length = valL l n0 n1 := List.take_of_length_le (by simp)
    have hV := wvO_in hb
    have hwid : ∀ i (h1 : i < (widL l n0).length) (h2 : i < (wvO l).length), -1000 ≤ (widL l n0)[i].1 ∧ (widL l n0)[i].1 ≤ (wvO l)[i] ∧ (wvO l)[i] ≤ (widL l n0)[i].2 ∧ (widL l n0)[i].2 ≤ 1000 := fun i h1 h2 => by
      have hd := duI_in b0.1 i
      have hm := hV _ (List.getElem_mem h2)
      have hg : (wvO l).getD i 0 = (wvO l)[i] := by simp [List.getD_eq_getElem?_getD, List.getElem?_eq_getElem h2]
      simp only [widL, List.getElem_map, List.getElem_range, widI, hg]
      omega
    simp only [eA, sA, hW, hN, hD, hVv, List.cons_append, List.nil_append]
    obtain ⟨tl, h3⟩ := wi2 hk (l8 l) (wvO l) (widL l n0) (rowC vc (valL l n0 n1)) l.length (wvO_length l) (by omega) h2 (fun _ => rfl) (p8 l) rfl (by simp) hV (widL_length l n0) hwid (rtI l l.length) (msI l l.length) (.arr [.int .u8 n0, .int .u8 n1, .int .u8 n2, .int .u8 n3] 0 1) (l8 l) (iv l.length) (iv l.length)
    rw [h3]
    obtain ⟨FL, f, t, tl2, o5, o6, f1, f2, h4⟩ := wi3 l hb (by omega) h2 n0 n1 n2 n3 b0 b2 b3 (cI ((wvO l).map fun m => (m, m))) (cI (widL l n0)) tl
    rw [h4]
    exact wi4 ka (wvO l) l.length (wvO_length l) (by omega) h2 hV (p8 l) (by simp) FL f t f1 f2 tl2 o6 o5 _ _ _ n0 n1 n2 n3 b0
end Fw
end

