/- The law on speeds and overlaps: what it returns at any input. -/
import Derived.Test.YtfkacogfieiccaaGreatDoorBaL7
import Derived.Test.YtfkacogfieiccaaGreatDoorBaTab
set_option maxHeartbeats 16000000
namespace Fw
open Go
attribute [local irreducible] evCode evOps evOpsD evOper evOperD evOp evFn loopN T.All T.bind callPure callOp opsK opsDK restK seqK blockK loopS setK setQ giveK scalK gcK finish finS rfunK yldK yldB loopK

theorem spd_at (l : List GateI) (a b c e : Int) : RUN 61 3 [gsl l, .agg [iv a, iv b, iv c, iv e]] = .ret (.p (.bool true)) := by
  rw [RUN, call_eq (d := 60) fe3 _ rfl]
  have ka := awake13
  by_cases h9 : (9 : Int) < l.length
  · simp -implicitDefEqProofs [c3, ka, h9]
  · have hl : l.length < 1000000 := by omega
    have k15 := gates15 (n := 60) (by omega) l hl
    have k14 := speeds14 (n := 60) (by omega) l hl
    have k16 := speed16 (n := 60) (by omega) l hl
    have k17 := overlap17 (n := 60) (by omega) a b c e
    have k18 := check18 (n := 60) (by omega) l hl
    have k24 := check24 (n := 60) (by omega) l hl
    have k20 := fun a b => span20 (n := 60) (by omega) a b
    have k19 := first19_2 (n := 60) (by omega) (spanE a b) (spanE c e)
    rw [show firstE [spanE a b, spanE c e] = twoE a b c e from rfl] at k19
    have k25n := same25 (n := 60) (by omega) [] [] (by simp)
    simp only [csl, cI, List.length_nil] at k25n
    by_cases z0 : gatesE l = 0
    · rw [if_pos z0] at k14
      have hg := gates_of z0
      have k21 := speeds21 (n := 60) (by omega) hg
      have k22 := speed22 (n := 60) (by omega) z0
      have k25 := same25 (n := 60) (by omega) (spL l) (spL l) (by have := hg.len; simp; omega)
      simp only [csl, spL_length] at k25 k14
      by_cases z1 : twoE a b c e = 0
      · have k23 := overlap23 (n := 60) (by omega) z1
        simp -implicitDefEqProofs [c3, ka, h9, k15, k14, k16, k17, k18, k24, k20, k19, k21, k22, k23, k25, z0, z1]
      · have q1 : (twoE a b c e == 0) = false := by simpa using z1
        have o1 : ovA a b c e = (0, 0) := by simp [ovA, z1]
        have o2 : ovE a b c e = twoE a b c e := by simp [ovE, z1]
        rw [o1, o2] at k17
        simp -implicitDefEqProofs [c3, ka, h9, k15, k14, k16, k17, k18, k24, k20, k19, k21, k22, k25, z0, q1]
    · rw [if_neg z0] at k14
      have q0 : (gatesE l == 0) = false := by simpa using z0
      have s1 : spdA l = (0, 0) := by simp [spdA, z0]
      have s2 : spdE l = gatesE l := by simp [spdE, z0]
      rw [s1, s2] at k16
      by_cases z1 : twoE a b c e = 0
      · have k23 := overlap23 (n := 60) (by omega) z1
        simp -implicitDefEqProofs [c3, ka, h9, k15, k14, k16, k17, k18, k24, k20, k19, k23, k25n, q0, z1]
      · have q1 : (twoE a b c e == 0) = false := by simpa using z1
        have o1 : ovA a b c e = (0, 0) := by simp [ovA, z1]
        have o2 : ovE a b c e = twoE a b c e := by simp [ovE, z1]
        rw [o1, o2] at k17
        simp -implicitDefEqProofs [c3, ka, h9, k15, k14, k16, k17, k18, k24, k20, k19, k25n, q0, q1]
end Fw
