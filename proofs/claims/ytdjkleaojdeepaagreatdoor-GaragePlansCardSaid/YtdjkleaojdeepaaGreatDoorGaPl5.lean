/- The chapter's search for the best order: all rounds. -/
import Derived.Test.YtdjkleaojdeepaaGreatDoorGaPl4
set_option maxHeartbeats 16000000
set_option maxRecDepth 8000
namespace Fw
open Go
attribute [local irreducible] evCode evOps evOpsD evOper evOperD evOp evFn loopN T.All T.bind callPure callOp opsK opsDK restK seqK blockK loopS setK setQ giveK scalK gcK finish finS rfunK yldK yldB loopK

def prK (l : List JobI) (k : Nat) : List Int := (prm l.length).getD k []
/-- which of the first orders is the best one -/
def bI (l : List JobI) : Nat → Nat
  | 0 => 0
  | k + 1 => if valO l (prK l (k + 1)) < valO l (prK l (bI l k)) then k + 1 else bI l k
theorem bI_le (l : List JobI) : ∀ k, bI l k ≤ k := by
  intro k
  induction k with
  | zero => exact Nat.le_refl _
  | succ k ih => simp only [bI]; split <;> omega
theorem end59 {d : Nat} (l : List JobI) (u : Option Nat) (hu : ∀ r, u = some r → 3 ≤ r) (best now : List Int) (hn : now.length = l.length) (hb : best.length = l.length) (h0 : 0 < l.length) (h8 : l.length ≤ 8) (hnx : nextP now = none) (e : Int) :
    loopS (evFn F C0 G0 (d + 4)) C0 G0 0 true [0, 6, 8, 9] c59L1 (P59 l u best e now) = .ret (.exit 2, ⟨(P59 l u best e now).env ++ [(39, .p (.bool false))], (P59 l u best e now).sto⟩) := by
  match u, hu with
  | none, _ =>
    have k119 := next119 (d := d + 2) 2 1 (.box [.sl 1 1 0 best.length, iv e]) (.arr (pI best) 1 1) (by omega) (by omega) now (by omega) (by omega)
    rw [hnx] at k119
    simp only [Option.isSome_none, Option.getD_none] at k119
    simp only [P59, Bs, Nx] at *
    simp -implicitDefEqProofs [loopS_eq, c59L1, k119]
  | some r, hu =>
    have hr := hu r rfl
    have k119 := next119 (d := d + 2) r 2 (.arr (pI best) 0 1) (.box [.sl r 0 0 best.length, iv e]) (by omega) (by omega) now (by omega) (by omega)
    rw [hnx] at k119
    simp only [Option.isSome_none, Option.getD_none] at k119
    have r0 : ¬ r = 0 := by omega
    have r2 : ¬ r = 2 := by omega
    have z1 : ¬ 2 = r := by omega
    have z2 : ¬ 0 = r := by omega
    have l1 : 2 < r + 1 := by omega
    have x5 : 1 < r := by omega
    simp only [P59, Bs, Nx] at *
    simp -implicitDefEqProofs [loopS_eq, c59L1, k119, r0, r2, z1, z2, l1]
theorem loop59 {d : Nat} (l : List JobI) (hl : JobsOk l) (h0 : 0 < l.length) (h5 : l.length ≤ 5) : ∀ (j k fuel : Nat) (u : Option Nat), (∀ r, u = some r → 3 ≤ r) → k + j + 1 = (prm l.length).length → j + 1 < fuel →
    ∃ u', (∀ r, u' = some r → 3 ≤ r) ∧ ∀ st0, loopS (evFn F C0 G0 (d + 4)) C0 G0 0 true [0, 6, 8, 9] c59L1 st0 = loopS (evFn F C0 G0 (d + 4)) C0 G0 0 true [0, 6, 8, 9] c59L1 (P59 l u (prK l (bI l k)) (valO l (prK l (bI l k))) (prK l k)) →
      loopN (loopS (evFn F C0 G0 (d + 4)) C0 G0 0 true [0, 6, 8, 9] c59L1) fuel st0 = .ret (.exit 2, ⟨(P59 l u' (prK l (bI l (k + j))) (valO l (prK l (bI l (k + j)))) (prK l (k + j))).env ++ [(39, .p (.bool false))], (P59 l u' (prK l (bI l (k + j))) (valO l (prK l (bI l (k + j)))) (prK l (k + j))).sto⟩) := by
  have hok : ∀ k, k < (prm l.length).length → OrdOk l.length (prK l k) := fun k hk => ord_ok (prm_at h0 h5 hk).2.1
  intro j
  induction j with
  | zero =>
    intro k fuel u hu hk hf
    refine ⟨u, hu, fun st0 hst => ?_⟩
    have hkl : k < (prm l.length).length := by omega
    have hnx := (prm_at h0 h5 hkl).1
    rw [List.getElem?_eq_none (by omega)] at hnx
    have hb := hok (bI l k) (by have := bI_le l k; omega)
    have he := end59 (d := d) l u hu (prK l (bI l k)) (prK l k) (hok k hkl).1 hb.1 h0 (by omega) hnx (valO l (prK l (bI l k)))
    rw [loopN_end (e := .exit 2) (by rw [hst]; exact he) (by simp) (by omega)]
    simp only [Nat.add_zero]
  | succ j ih =>
    intro k fuel u hu hk hf
    have hkl : k < (prm l.length).length := by omega
    have hkl1 : k + 1 < (prm l.length).length := by omega
    have hnx := (prm_at h0 h5 hkl).1
    rw [List.getElem?_eq_getElem hkl1] at hnx
    have hp : (prm l.length)[k + 1] = prK l (k + 1) := by simp [prK, List.getD_eq_getElem?_getD, hkl1]
    rw [hp] at hnx
    have hble := bI_le l k
    have hb := hok (bI l k) (by omega)
    have hlx := (prm_at h0 h5 hkl1).2.2 (bI l k) (by omega)
    obtain ⟨st1, u1, hu1, h1, h2⟩ := round59 (d := d) l hl u hu (prK l (bI l k)) (prK l k) (prK l (k + 1)) (hok k hkl) h0 hb.1 (hok _ hkl1) hnx hlx (valO l (prK l (bI l k)))
    by_cases hV : valO l (prK l (k + 1)) < valO l (prK l (bI l k))
    · have e1 : bI l (k + 1) = k + 1 := by simp only [bI, if_pos hV]
      rw [if_pos hV] at h2
      obtain ⟨u2, hu2, h3⟩ := ih (k + 1) (fuel - 1) u1 hu1 (by omega) (by omega)
      refine ⟨u2, hu2, fun st0 hst => ?_⟩
      rw [loopN_on (st1 := st1) (by rw [hst]; exact h1) (by omega)]
      rw [h3 st1 (by rw [h2, e1])]
      rw [show k + 1 + j = k + (j + 1) by omega]
    · have e1 : bI l (k + 1) = bI l k := by simp only [bI, if_neg hV]
      rw [if_neg hV] at h2
      obtain ⟨u2, hu2, h3⟩ := ih (k + 1) (fuel - 1) u hu (by omega) (by omega)
      refine ⟨u2, hu2, fun st0 hst => ?_⟩
      rw [loopN_on (st1 := st1) (by rw [hst]; exact h1) (by omega)]
      rw [h3 st1 (by rw [h2, e1])]
      rw [show k + 1 + j = k + (j + 1) by omega]
/-- the numbers below n, as they are filled in -/
def filF (n : Nat) (i : Nat) : List Int := (List.range n).map fun (k : Nat) => if k < i then Int.ofNat k else 0
theorem filF_len (n i : Nat) : (filF n i).length = n := by simp [filF]
theorem filF_set (n i : Nat) (hi : i < n) : (filF n i).set i (i : Int) = filF n (i + 1) := by
  apply List.ext_getElem?
  intro j
  rw [List.getElem?_set]
  simp only [filF, List.length_map, List.length_range, List.getElem?_map]
  by_cases hij : i = j
  · subst hij
    simp [hi]
  · simp only [hij, if_false]
    by_cases hj : j < n
    · simp only [List.getElem?_range hj, Option.map_some]
      by_cases h1 : j < i
      · have : j < i + 1 := by omega
        simp [h1, this]
      · have : ¬ j < i + 1 := by omega
        simp [h1, this]
    · simp [hj]
theorem fill59 {d : Nat} (l : List JobI) (h8 : l.length ≤ 8) :
    loopN (loopS (evFn F C0 G0 d) C0 G0 0 false [0, 6, 20, 21] c59L0) loopFuel ⟨[(0, jsl l), (6, .sl 0 0 0 l.length), (20, iv l.length), (21, iv 0)], [(0, .arr (pI (filF l.length 0)) 0 1)]⟩ = .ret (.exit 0, ⟨[(0, jsl l), (6, .sl 0 0 0 l.length), (20, iv l.length), (21, iv l.length), (22, .p (.bool false))], [(0, .arr (pI (filF l.length l.length)) 0 1)]⟩) := by
  rw [loop_run' (fun i => ⟨[(0, jsl l), (6, .sl 0 0 0 l.length), (20, iv l.length), (21, iv i)], [(0, .arr (pI (filF l.length i)) 0 1)]⟩) l.length (e := .exit 0) (st' := ⟨[(0, jsl l), (6, .sl 0 0 0 l.length), (20, iv l.length), (21, iv l.length), (22, .p (.bool false))], [(0, .arr (pI (filF l.length l.length)) 0 1)]⟩) (by simp)]
  · rfl
  · intro i hi
    have wi := wrap_succ (i := i) (by omega)
    have hP : (pI (filF l.length i)).length = l.length := by rw [pI_len, filF_len]
    have hs := pset (filF l.length i) i (i : Int)
    rw [filF_set _ _ hi] at hs
    have hi1 : i + 1 ≤ l.length := by omega
    generalize pI (filF l.length i) = A1 at *
    generalize pI (filF l.length (i + 1)) = A2 at *
    refine ⟨?_, ?h1, ?h2⟩
    case h1 =>
      simp -implicitDefEqProofs [loopS_eq, c59L0, hi, hi1, hP, hs, wi]
      exact rfl
    case h2 => rfl
  · simp -implicitDefEqProofs [loopS_eq, c59L0]
  · simp [loopFuel]; omega
theorem fil_prm {l : List JobI} (h0 : 0 < l.length) (h5 : l.length ≤ 5) : filF l.length l.length = prK l 0 := by
  have h := (prm_len h0 h5).2.2
  have e : prK l 0 = (List.range l.length).map fun (i : Nat) => Int.ofNat i := by
    unfold prK
    rw [List.getD_eq_getElem?_getD, h]
    rfl
  rw [e]
  unfold filF
  apply List.map_congr_left
  intro k hk
  rw [if_pos (List.mem_range.1 hk)]
end Fw
