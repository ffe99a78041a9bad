/- Records with weights: the program's run, in plain words. -/
import Derived.Test.YtbaedpfgjpkabaaGreatDoorChS1
import Derived.Test.YtbaedpfgjpkabaaGreatDoorChN2
set_option maxHeartbeats 8000000
namespace Fw
open Go
attribute [local irreducible] evCode evOps evOpsD evOper evOperD evOp evFn loopN T.All T.bind callPure callOp opsK opsDK restK seqK blockK loopS setK setQ giveK scalK gcK finish finS rfunK yldK yldB loopK

theorem wsum_dot (xs : List Int) (a : Nat) (es : List (Int × Int)) : wsum xs a es = dot (fun d => xs.getD (clampI a d xs.length).toNat 0) es := by
  induction es with
  | nil => rfl
  | cons e r ih => simp only [wsum, dot, ih, Int.mul_comm]
theorem dot_bound {h : Int → Int} {B : Int} (hh : ∀ d, ((h d).natAbs : Int) ≤ B) (es : List (Int × Int)) : ((dot h es).natAbs : Int) ≤ B * asum es := by
  induction es with
  | nil => simp [dot, asum]
  | cons e r ih =>
    have := mul_abs (hh e.1) (Int.le_refl (e.2.natAbs : Int))
    simp only [dot, asum, Int.mul_add]; omega
theorem smpN_getD {l : List Nat} (h : SmpOk l) (i : Nat) : (((l.map smpN).getD i 0).natAbs : Int) ≤ 16384 := by
  rw [List.getD_eq_getElem?_getD]
  cases hi : (l.map smpN)[i]? with
  | none => simp
  | some x =>
    obtain ⟨b, hb, rfl⟩ := List.mem_map.1 (List.mem_of_getElem? hi)
    have := smpN_bound (h b hb)
    simp only [Option.getD_some]; omega
theorem wsum_bound {l : List Nat} (h : SmpOk l) (a : Nat) (es : List (Int × Int)) : ((wsum (l.map smpN) a es).natAbs : Int) ≤ 16384 * asum es := by
  rw [wsum_dot]
  exact dot_bound (fun d => smpN_getD h _) es

/-- what a record becomes -/
def filtO (xs : List Int) (es : List (Int × Int)) (D : Int) : List Int := (List.range xs.length).map fun (a : Nat) => nearI (wsum xs a es) D
@[simp] theorem filtO_length (xs : List Int) (es : List (Int × Int)) (D : Int) : (filtO xs es D).length = xs.length := by simp [filtO]
def inB (o : List Int) : Bool := o.all fun n => decide (-16384 ≤ n) && decide (n ≤ 16384)
theorem in_iff {o : List Int} : inB o = true ↔ In16 o := by
  simp only [inB, In16, List.all_eq_true, Bool.and_eq_true, decide_eq_true_eq]
theorem entO_k {es : List (Int × Int)} (h : ∀ e ∈ es, -1000000 ≤ e.1 ∧ e.1 ≤ 1000000) : entO (kA es) (kB es) = some es := by
  induction es with
  | nil => rfl
  | cons e r ih =>
    have hr := ih fun x hx => h x (List.mem_cons_of_mem _ hx)
    have he := h e List.mem_cons_self
    simp only [kA, kB, pI, List.map_cons] at hr ⊢
    simp only [entO, hr, he, and_self, if_true]
theorem samplesO_in {o : List Int} (h : In16 o) : samplesO o = some (o.map smpF) := by
  induction o with
  | nil => rfl
  | cons x r ih =>
    have hr := ih fun y hy => h y (List.mem_cons_of_mem _ hy)
    have hx := smpF_of (h x List.mem_cons_self).1 (h x List.mem_cons_self).2
    simp only [samplesO, hx.1, hr, List.map_cons]

def filtR (o : List Int) : AVal := if inB o = true then .tup [fsl (o.map smpF), iv 0] else .tup [.p (.sl [] 0), iv 4]
theorem run123 {n : Nat} {l : List Nat} (h : SmpOk l) (hl : l.length ≤ 4096) {es : List (Int × Int)} (hes : ∀ e ∈ es, -1000000 ≤ e.1 ∧ e.1 ≤ 1000000) (hel : es.length < 1000000) (ha : asum es ≤ 490000) {D : Int} (hD : 0 < D) (hD2 : D ≤ 1000000) :
    RUN n 123 [fsl l, .p (.map (kA es) (kB es)), iv D] = .ret (filtR (filtO (l.map smpN) es D)) := by
  have hw : (List.range (l.map smpN).length).map (fun (a : Nat) => IntKind.i64.wrap (wsum (l.map smpN) a es)) = (List.range (l.map smpN).length).map fun (a : Nat) => wsum (l.map smpN) a es := List.map_congr_left fun a _ => by
    have := wsum_bound h a es
    exact wrap64 (by omega) (by omega)
  have hb : (((List.range (l.map smpN).length).map fun (a : Nat) => wsum (l.map smpN) a es).all fun s => decide (-1099511627776 ≤ s) && decide (s ≤ 1099511627776)) = true := by
    simp only [List.all_eq_true, Bool.and_eq_true, decide_eq_true_eq, List.mem_map]
    rintro s ⟨a, _, rfl⟩
    have := wsum_bound h a es
    omega
  have ho : ((List.range (l.map smpN).length).map fun (a : Nat) => wsum (l.map smpN) a es).map (fun s => nearI s D) = filtO (l.map smpN) es D := by simp [filtO]
  have hc : C0 123 [fsl l, .p (.map (kA es) (kB es)), iv D] = some (.ret (filtR (filtO (l.map smpN) es D))) := by
    simp only [C0, tabC]
    simp only [Nat.reduceEqDiff, if_false, if_true, runC, unitsO_pF h, entO_k hes, hw, hb, ho]
    have hl1 : l.length < 1000000 := by omega
    have hd : D ≤ 1099511627776 := by omega
    simp only [pF_length, hl1, hel, hD, hd, and_self, if_true]
    by_cases c : inB (filtO (l.map smpN) es D) = true
    · have c' := c
      unfold inB at c'
      rw [c']
      simp only [if_true, samplesO_in (in_iff.1 c), filtR, c, fsl, List.length_map, filtO_length]
    · have c' := c
      unfold inB at c'
      simp only [c', if_false, filtR, c, Bool.false_eq_true]
  simp only [RUN, callPure, hc]

/-! passed by a kernel -/
def pE (k : List Int) : Nat → List (Int × Int)
  | 0 => []
  | i + 1 => pE k i ++ [(-(i : Int), k.getD i 0)]
theorem ker_D {k : List Int} (h : KerOk k) : 0 < sumI k ∧ sumI k ≤ 700 ∧ 0 < sumI k * sumI k ∧ sumI k * sumI k ≤ 490000 := by
  have hs := sumI_part h.2.2.1 k.length
  have hs0 := h.2.2.2
  have h7 := h.2.1
  have hs1 : sumI k ≤ 700 := by simp only [sumI] at *; omega
  have hD : 0 < sumI k * sumI k := Int.mul_pos hs0 hs0
  have hD2 := mul_abs (a := sumI k) (b := sumI k) (A := 700) (B := 700) (by omega) (by omega)
  exact ⟨hs0, hs1, hD, by omega⟩
theorem sum124k {n : Nat} (hn : 1 ≤ n) {k : List Int} (hk : KerOk k) : RUN n 124 [isl k] = .ret (iv (sumI k)) := by
  have h := sum124w hn k (by have := hk.2.1; omega)
  rw [ker_sum hk] at h; exact h
theorem weights125k {n : Nat} (hn : 1 ≤ n) {k : List Int} (hk : KerOk k) : RUN n 125 [isl k] = .ret (.p (.map (kA (weightsL k)) (kB (weightsL k)))) := by
  obtain ⟨d, rfl⟩ : ∃ d, n = d + 1 := ⟨n - 1, by omega⟩
  exact weights125 (fun _ => rfl) hk.2.2.1 hk.2.1

def krE (l : List Nat) (k : List Int) : Int := firstE [smpsE l, kerE k]
theorem kr_iff {l : List Nat} {k : List Int} : krE l k = 0 ↔ (l.length ≤ 4096 ∧ SmpOk l) ∧ KerOk k := by
  rw [krE, firstE_zero, ← smps_iff, ← ker_iff]
  simp
theorem filtered40 {n : Nat} (hn : 6 ≤ n) (l : List Nat) (hl : l.length < 1000000) (k : List Int) (hkl : k.length < 1000000) :
    RUN n 40 [fsl l, isl k] = .ret (if krE l k = 0 then filtR (filtO (l.map smpN) (weightsL k) (sumI k * sumI k)) else .tup [.p (.sl [] 0), iv (krE l k)]) := by
  obtain ⟨d, rfl⟩ : ∃ d, n = d + 6 := ⟨n - 6, by omega⟩
  rw [RUN, call_eq fe40 _ rfl]
  have k1 := samples122 (n := d + 5) (by omega) l hl
  have k2 := ker47 (n := d + 5) (by omega) k hkl
  have k3 := first103_2 (n := d + 5) (by omega) (smpsE l) (kerE k)
  have he : firstE [smpsE l, kerE k] = krE l k := rfl
  rw [he] at k3
  by_cases z : krE l k = 0
  · obtain ⟨⟨a, b⟩, hk⟩ := kr_iff.1 z
    have k4 := sum124k (n := d + 5) (by omega) hk
    have k6 := weights125k (n := d + 5) (by omega) hk
    obtain ⟨d1, d2, d3, d4⟩ := ker_D hk
    obtain ⟨w1, w2, w3⟩ := weights_spec hk.2.2.1 hk.2.1
    have wD := wrap64 (n := sumI k * sumI k) (by omega) (by omega)
    have k5 := run123 (n := d + 5) b a (es := weightsL k) (fun e he => by have := w3 e.1 (List.mem_map.2 ⟨e, he, rfl⟩); omega) (by omega) w1 d3 (by omega)
    rw [if_pos z]
    generalize filtO (l.map smpN) (weightsL k) (sumI k * sumI k) = o at *
    by_cases c : inB o = true
    · simp only [filtR, c, if_true] at k5 ⊢
      simp -implicitDefEqProofs [c40, k1, k2, k3, z, k4, k6, wD, k5]
    · simp only [filtR, c] at k5 ⊢
      simp -implicitDefEqProofs [c40, k1, k2, k3, z, k4, k6, wD, k5]
  · rw [if_neg z]
    generalize krE l k = E at *
    simp -implicitDefEqProofs [c40, k1, k2, k3, z]
end Fw
