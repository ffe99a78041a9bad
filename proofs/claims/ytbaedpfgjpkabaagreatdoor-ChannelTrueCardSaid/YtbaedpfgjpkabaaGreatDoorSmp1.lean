/- Samples: what is one, and its integer. -/
import Derived.Test.YtbaedpfgjpkabaaGreatDoorFlo
import Derived.Test.YtbaedpfgjpkabaaGreatDoorChRun4
set_option maxHeartbeats 8000000
namespace Fw
open Go Ieee

def smpE (b : Nat) : Int := match single.read b with
  | .number _ m p => if 1024 * 2 ^ 2000 < V m p ∨ (16 * V m p) % 2 ^ 2000 ≠ 0 then 3 else 0
  | _ => 1
def smpN (b : Nat) : Int := match single.read b with
  | .number s m p => if s then -((16 * V m p / 2 ^ 2000 : Nat) : Int) else ((16 * V m p / 2 ^ 2000 : Nat) : Int)
  | _ => 0

theorem r16_32 : single.read 1098907648 = .number false 8388608 (-19) := by decide +kernel
theorem r16_64 : double.read 4625196817309499392 = .number false 4503599627370496 (-48) := by decide +kernel
theorem r1024 : single.read 1149239296 = .number false 8388608 (-13) := by decide +kernel
theorem r1024n : single.read 3296722944 = .number true 8388608 (-13) := by decide +kernel
theorem rmax64 : double.read 9218868437227405311 = .number false 9007199254740991 971 := by decide +kernel
theorem r16384 : double.read 4670232813583204352 = .number false 4503599627370496 (-38) := by decide +kernel
theorem r16384n : double.read 13893604850437980160 = .number true 4503599627370496 (-38) := by decide +kernel

theorem V_mul (c m : Nat) (p : Int) : V (c * m) p = c * V m p := by unfold V; rw [Nat.mul_assoc]
theorem V_scale (t : Nat) (m : Nat) (p : Int) (hp : -2000 ≤ p) (hpt : -2000 ≤ p - t) (c : Nat) : V (2 ^ (t + c) * m) (p - t) = 2 ^ c * V m p := by
  rw [Nat.mul_comm, V_shift _ _ _ hpt]
  rw [show p - t + (t + c : Nat) = p + c by omega, ← V_shift m c p hp, Nat.mul_comm m, V_mul]

theorem fitsG (v Q c : Nat) (t : Nat) (hQ : Q = 2 ^ t) (hv : v ≤ 1024 * Q) (hc : 16384 < 2 ^ c) : 16 * v < 2 ^ (c + t) := by
  rw [Nat.pow_add, ← hQ]
  have h0 : 0 < Q := by rw [hQ]; exact Nat.two_pow_pos t
  have : 16384 * Q < 2 ^ c * Q := Nat.mul_lt_mul_of_pos_right hc h0
  omega
theorem fits16 {v : Nat} (hv : v ≤ 1024 * 2 ^ 2000) : 16 * v < 2 ^ (15 + 2000) := fitsG v _ 15 2000 rfl hv (by decide)
/-- 16 times a number of the smaller format -/
theorem mul16_32 {b : Nat} {s : Bool} {m : Nat} {p : Int} (h : single.read b = .number s m p) (hv : V m p ≤ 1024 * 2 ^ 2000) : ∃ r k q, single.mul 1098907648 b = some r ∧ single.read r = .number s k q ∧ V k q = 16 * V m p ∧ k < 2 ^ 24 ∧ -149 ≤ q := by
  obtain ⟨h1, h2, h3⟩ := read32 b h
  have hV : V (8388608 * m) (-19 + p) = 16 * V m p := by
    have := V_scale 19 m p (by omega) (by omega) 4
    rw [show -19 + p = p - (19 : Nat) by omega]
    exact this
  have hV2 : V m (p + 4) = 16 * V m p := by
    have := V_shift m 4 p (by omega)
    rw [Nat.mul_comm, V_mul] at this
    exact this.symm
  obtain ⟨k, q, e1, e2, e3, e4⟩ := exact32 s (8388608 * m) (-19 + p) (by omega) h1 (q := p + 4) (by omega) (by rw [hV, hV2]) (T := 15 + 2000) (by decide) (by rw [hV]; exact fits16 hv)
  refine ⟨_, k, q, ?_, e1, by rw [e2, hV], e3, e4⟩
  unfold Format.mul
  rw [r16_32, h]
  simp only [Datum.product, Bool.false_xor, Option.map_some, Format.write]

theorem two_pos : 0 < 2 ^ 2000 := Nat.two_pow_pos 2000

theorem to_int {k : Nat} {q : Int} (hq : -2000 ≤ q) (s : Bool) : (Datum.number s k q).toInt .zero = some (if s then -((V k q / 2 ^ 2000 : Nat) : Int) else ((V k q / 2 ^ 2000 : Nat) : Int)) := by
  simp only [Datum.toInt, Datum.integral, cut_zero, (V_cut k q hq).1, signed, Nat.shiftLeft_zero]

theorem smp_ok {b : Nat} (h : smpE b = 0) : ∃ s m p, single.read b = .number s m p ∧ V m p ≤ 1024 * 2 ^ 2000 ∧ (16 * V m p) % 2 ^ 2000 = 0 := by
  unfold smpE at h
  split at h
  · rename_i s m p hr
    split at h
    · cases h
    · rename_i hc
      rw [not_or] at hc
      exact ⟨s, m, p, hr, Nat.le_of_not_lt hc.1, Classical.not_not.1 hc.2⟩
  · cases h

theorem smpN_bound {b : Nat} (h : smpE b = 0) : -16384 ≤ smpN b ∧ smpN b ≤ 16384 := by
  obtain ⟨s, m, p, hr, hv, _⟩ := smp_ok h
  have hd : 16 * V m p / 2 ^ 2000 ≤ 16384 := by
    have := two_pos
    generalize 2 ^ 2000 = Q at *
    rw [Nat.div_le_iff_le_mul_add_pred this]; omega
  unfold smpN
  rw [hr]
  simp only
  generalize 16 * V m p / 2 ^ 2000 = n at *
  split <;> omega

theorem unitO_of {b : Nat} (h : smpE b = 0) : unitO b = some (smpN b) := by
  have hb := smpN_bound h
  obtain ⟨s, m, p, hr, hv, _⟩ := smp_ok h
  obtain ⟨r, k, q, e1, e2, e3, e4, e5⟩ := mul16_32 hr hv
  have e1' : FloatKind.f32.format.mul 1098907648 b = some r := e1
  have e2' : FloatKind.f32.decode r = .number s k q := e2
  unfold unitO
  rw [e1']
  simp only [e2', to_int (k := k) (q := q) (by omega) s, e3]
  have hn : smpN b = if s then -((16 * V m p / 2 ^ 2000 : Nat) : Int) else ((16 * V m p / 2 ^ 2000 : Nat) : Int) := by unfold smpN; rw [hr]
  rw [← hn]
  rw [if_pos]
  have h0 : IntKind.i64.min = -9223372036854775808 := by decide
  have h1 : IntKind.i64.max = 9223372036854775807 := by decide
  rw [h0, h1]; omega
end Fw
