/- Sensors: the values enclose; plain facts. -/
import Derived.Test.YtbaedpfgjpkabaaGreatDoorChSen
set_option maxHeartbeats 8000000
namespace Fw
open Go

theorem box_min {p1 p p2 a1 a a2 : Int} (h1 : p1 ≤ p) (h2 : p ≤ p2) (h3 : 0 ≤ a1) (h4 : a1 ≤ a) (h5 : a ≤ a2) : min4 p1 p2 a1 a2 ≤ p * a ∧ p * a ≤ max4 p1 p2 a1 a2 := by
  unfold min4 max4
  by_cases hp : 0 ≤ p
  · have b1 : p1 * a1 ≤ p * a1 := Int.mul_le_mul_of_nonneg_right h1 h3
    have b2 : p * a1 ≤ p * a := Int.mul_le_mul_of_nonneg_left h4 hp
    have b3 : p * a ≤ p * a2 := Int.mul_le_mul_of_nonneg_left h5 hp
    have b4 : p * a2 ≤ p2 * a2 := Int.mul_le_mul_of_nonneg_right h2 (by omega)
    omega
  · have b1 : p1 * a2 ≤ p * a2 := Int.mul_le_mul_of_nonneg_right h1 (by omega)
    have b2 : p * a2 ≤ p * a := Int.mul_le_mul_of_nonpos_left (by omega) h5
    have b3 : p * a ≤ p * a1 := Int.mul_le_mul_of_nonpos_left (by omega) h4
    have b4 : p * a1 ≤ p2 * a1 := Int.mul_le_mul_of_nonneg_right h2 h3
    omega
theorem upQ_ge (x : Int) : x ≤ 1000 * upQ x 1000 := by unfold upQ; omega
theorem dn_le (x : Int) : 1000 * (x / 1000) ≤ x := by omega
theorem val_in {s : SenI} (hs : SenOk s) {oL oH o a x : Int} (h1 : oL ≤ o) (h2 : o ≤ oH) (h3 : s.lo ≤ a) (h4 : a ≤ s.hi) : 1000 * (valO s oL oH x).low ≤ (x - o) * a ∧ (x - o) * a ≤ 1000 * (valO s oL oH x).high := by
  have l0 := hs.l0
  obtain ⟨b1, b2⟩ := box_min (p1 := x - oH) (p := x - o) (p2 := x - oL) (a1 := s.lo) (a := a) (a2 := s.hi) (by omega) (by omega) (by omega) h3 h4
  have d1 := dn_le (min4 (x - oH) (x - oL) s.lo s.hi)
  have d2 := upQ_ge (max4 (x - oH) (x - oL) s.lo s.hi)
  simp only [valO]
  omega
theorem sh_true {s : SenI} {e m a : Int} (h3 : s.lo ≤ a) (h4 : a ≤ s.hi) (hm : 0 ≤ m) (he : e = m * a / 1000) : shB s e m = true := by
  have b1 : m * s.lo ≤ m * a := Int.mul_le_mul_of_nonneg_left h3 hm
  have b2 : m * a ≤ m * s.hi := Int.mul_le_mul_of_nonneg_left h4 hm
  have d2 := upQ_ge (m * s.hi)
  simp only [shB, Bool.and_eq_true, decide_eq_true_eq]
  generalize m * s.lo = u at *
  generalize m * a = v at *
  generalize m * s.hi = w at *
  generalize upQ w 1000 = q at *
  omega
theorem lohi_at (X : List Int) : ∀ n i, i ≤ n → loF X n ≤ X.getD i 0 ∧ X.getD i 0 ≤ hiF X n := by
  intro n
  induction n with
  | zero => intro i hi; obtain rfl : i = 0 := by omega
            simp [loF, hiF]
  | succ n ih =>
    intro i hi
    simp only [loF, hiF]
    by_cases e : i = n + 1
    · subst e; omega
    · have := ih i (by omega); omega
theorem off_at {l : List Nat} {z : Int} (h : zeE l z = 0) (i : Nat) (hi : (i : Int) < z) (hil : i < l.length) : offL l z ≤ smpN l[i] ∧ smpN l[i] ≤ offH l z := by
  obtain ⟨_, z0, z1, z2⟩ := ze_of h
  have hlen : (offX l z).length = z.toNat := by simp [offX]; omega
  have := lohi_at (offX l z) ((offX l z).length - 1) i (by omega)
  have hg : (offX l z).getD i 0 = smpN l[i] := by
    have : i < z.toNat := by omega
    simp [offX, List.getD_eq_getElem?_getD, this, hil]
  rw [hg] at this
  exact this
end Fw
