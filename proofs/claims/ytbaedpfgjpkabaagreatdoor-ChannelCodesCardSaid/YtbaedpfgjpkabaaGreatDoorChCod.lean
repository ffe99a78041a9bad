/- The law of codes; awake is handed in until it is shown. -/
import Derived.Test.YtbaedpfgjpkabaaGreatDoorChC4
set_option maxHeartbeats 16000000
namespace Fw
open Go
attribute [local irreducible] evCode evOps evOpsD evOper evOperD evOp evFn loopN T.All T.bind callPure callOp opsK opsDK restK seqK blockK loopS setK setQ giveK scalK gcK finish finS rfunK yldK yldB loopK

theorem codes_of (ka : RUN 60 15 [] = .ret (.p (.bool true))) (c : CodeI) (s : List UInt8) : RUN 61 3 [cda c, sv s] = .ret (.p (.bool true)) := by
  rw [RUN, call_eq (d := 60) fe3 _ rfl]
  by_cases c1 : (40 : Int) < c.place.length
  · simp -implicitDefEqProofs [c3, ka, c1]
  · by_cases c2 : (40 : Int) < s.length
    · simp -implicitDefEqProofs [c3, ka, c1, c2]
    · have k16 := coded16 (n := 60) (by omega) c (by omega)
      have k17 := decoded17 (n := 60) (by omega) s
      have k18 := code18 (n := 60) (by omega) c
      have k20 := decoded20 (n := 60) (by omega) s
      have k21 := code21 (n := 60) (by omega) c (by omega)
      generalize decB s = R at *
      obtain ⟨⟨q1, q2, q3⟩, q4⟩ := R
      by_cases z : codeE c = 0
      · have k19 := coded19 (n := 60) (by omega) (code_of z)
        rw [if_pos z, z] at k16
        rw [z] at k18 k21
        generalize codS c = W at *
        obtain ⟨p, a, g⟩ := c
        simp only at c1
        simp -implicitDefEqProofs [c3, ka, c1, c2, k16, k17, k18, k19, k20, k21, strBin, eqK, keyOk, eqP]
      · rw [if_neg z] at k16
        have zb : (codeE c == 0) = false := by simpa using z
        generalize codeE c = E at *
        obtain ⟨p, a, g⟩ := c
        simp only at c1
        simp -implicitDefEqProofs [c3, ka, c1, c2, k16, k17, k18, k20, k21, zb, strBin, eqK, keyOk, eqP]
end Fw
