/- The law of sensors, at any input. -/
import Derived.Test.YtbaedpfgjpkabaaGreatDoorChSe2
set_option maxHeartbeats 16000000
namespace Fw
open Go
attribute [local irreducible] evCode evOps evOpsD evOper evOperD evOp evFn loopN T.All T.bind callPure callOp opsK opsDK restK seqK blockK loopS setK setQ giveK scalK gcK finish finS rfunK yldK yldB loopK

/-- the next number of a loop from a least to a greatest one, by their difference -/
def nxE (lo hi : Int) : Int := if lo < hi then hi + (hi - lo) else lo + 1

def S32 (s : SenI) (oL oH : Int) (outs : List PVal) (v : Nat) : Sto := [(2, .arr outs v 4), (1, .arr [.int .i64 oL, .int .i64 oH] 0 1), (0, .arr [.str s.name, .int .i64 s.scale, .int .i64 s.lo, .int .i64 s.hi] 0 1)]
def E32 (l : List Nat) (v i : Nat) (x lo hi a : Int) : Env := [(1, fsl l), (3, .ptr 0 0 0), (7, .ptr 1 0 0), (8, .sl 2 v 0 v), (9, iv i), (10, iv x), (11, iv lo), (12, iv hi), (13, iv a)]

section
variable {d : Nat}
def lo4 (low x oL oH a b : Int) : Int := min (min (min (min low ((x - oL) * a)) ((x - oL) * b)) ((x - oH) * a)) ((x - oH) * b)
def hi4 (high x oL oH a b : Int) : Int := max (max (max (max high ((x - oL) * a)) ((x - oL) * b)) ((x - oH) * a)) ((x - oH) * b)

end

/-! the shunt check -/
def shE (s : SenI) (e m : Int) : Int := firstE [senE s, rangeE 1 16384 e, rangeE 1 16384 m]
def shB (s : SenI) (e m : Int) : Bool := decide (m * s.lo / 1000 ≤ e) && decide (e ≤ upQ (m * s.hi) 1000)
theorem sh_of {s : SenI} {e m : Int} (h : shE s e m = 0) : SenOk s ∧ (1 ≤ e ∧ e ≤ 16384) ∧ 1 ≤ m ∧ m ≤ 16384 := by
  have h' := firstE_zero.1 h
  have a := h' (senE s) (by simp)
  have b := h' (rangeE 1 16384 e) (by simp)
  have c := h' (rangeE 1 16384 m) (by simp)
  refine ⟨sen_of a, ?_, ?_⟩
  · simp only [rangeE] at b; split at b
    · cases b
    · omega
  · simp only [rangeE] at c; split at c
    · cases c
    · omega
theorem shunted26 {n : Nat} (hn : 5 ≤ n) (s : SenI) (hnl : s.name.length ≤ 9223372036854775807) (e m : Int) : RUN n 26 [sea s, iv e, iv m] = .ret (if shE s e m = 0 then .tup [.p (.bool (shB s e m)), iv 0] else .tup [.p (.bool false), iv (shE s e m)]) := by
  obtain ⟨d, rfl⟩ : ∃ d, n = d + 5 := ⟨n - 5, by omega⟩
  rw [RUN, call_eq fe26 _ rfl]
  have k1 := sensor34 (n := d + 4) (by omega) s hnl
  have k2 := within111 (n := d + 4) (by omega) e 1 16384
  have k3 := within111 (n := d + 4) (by omega) m 1 16384
  have k4 := first103_3 (n := d + 4) (by omega) (senE s) (rangeE 1 16384 e) (rangeE 1 16384 m)
  have he : firstE [senE s, rangeE 1 16384 e, rangeE 1 16384 m] = shE s e m := rfl
  rw [he] at k4
  generalize senE s = E1 at *
  generalize rangeE 1 16384 e = E2 at *
  generalize rangeE 1 16384 m = E3 at *
  by_cases z : shE s e m = 0
  · obtain ⟨hs, he', hm⟩ := sh_of z
    have l0 := hs.l0
    have l1 := hs.l1
    have l2 := hs.l2
    rw [if_pos z]
    rw [z] at k4
    unfold shB
    obtain ⟨nm, sc, sl, sh⟩ := s
    simp only at l0 l1 l2
    have b1 : ((m * sl).natAbs : Int) ≤ 16384 * 4000 := mul_abs (by omega) (by omega)
    have b2 : ((m * sh).natAbs : Int) ≤ 16384 * 4000 := mul_abs (by omega) (by omega)
    have w1 := wrap64 (n := m * sl) (by omega) (by omega)
    have w2 := wrap64 (n := m * sh) (by omega) (by omega)
    simp only
    generalize hP : m * sl = P at *
    generalize hQ : m * sh = Q at *
    have kd := down268 (n := d + 4) (by omega) P (by omega) (by omega)
    have ku := up269r (n := d + 4) (by omega) Q (by omega) (by omega)
    generalize P / 1000 = p at *
    generalize upQ Q 1000 = q at *
    by_cases c : p ≤ e
    · simp -implicitDefEqProofs [c26, G0, g2, g3, k1, k2, k3, k4, hP, hQ, w1, w2, kd, ku, c]
    · simp -implicitDefEqProofs [c26, G0, g2, k1, k2, k3, k4, hP, w1, kd, c]
  · rw [if_neg z]
    generalize shE s e m = E at *
    obtain ⟨nm, sc, sl, sh⟩ := s
    simp -implicitDefEqProofs [c26, k1, k2, k3, k4, z]
/-! lists of values -/
end Fw
