/- The law on values: what it returns at any input. -/
import Derived.Test.YtbaedpfgjpkabaaGreatDoorChVa4
set_option maxHeartbeats 16000000
namespace Fw
open Go
attribute [local irreducible] evCode evOps evOpsD evOper evOperD evOp evFn loopN T.All T.bind callPure callOp opsK opsDK restK seqK blockK loopS setK setQ giveK scalK gcK finish finS rfunK yldK yldB loopK

theorem val_at (ka : RUN 60 15 [] = .ret (.p (.bool true))) (l : List ValI) : RUN 61 7 [vsl l] = .ret (.p (.bool true)) := by
  rw [RUN, call_eq fe7 _ rfl]
  have k56 := short56 (n := 60) (by omega) l
  by_cases hs : (decide (l.length ≤ 40) || decide (l.length = 4097)) = true
  · rw [hs] at k56
    have hl : l.length ≤ 5000 := by
      simp only [Bool.or_eq_true, decide_eq_true_eq] at hs; omega
    have hR := vR_len l
    have k58 := given58 (n := 60) (by omega) l (by omega)
    have k57 := peak57 (n := 60) (by omega) l hl
    have k59 := clipped59 (n := 60) (by omega) l hl
    have k60 := check60 (n := 60) (by omega) l (by omega)
    have k61 := peak61 (n := 60) (by omega) l hl
    have k62 := clipped62 (n := 60) (by omega) l hl
    have hps := @peak_same l
    by_cases hz : valsE l = 0
    · have hcL := clO_len l l.length
      have k63 := same63 (n := 60) (by omega) (clO l l.length) (clO l l.length) (by omega)
      rw [hps hz] at k61
      rw [if_pos hz] at k57 k59
      rw [hz] at k60
      have hc : (cI (clO l l.length)).length = (clO l l.length).length * 2 := cI_length _
      have hd : decide (clO l l.length = clO l l.length) = true := by simp
      rw [hd] at k63
      simp only [vsl, csl] at k56 k57 k58 k59 k60 k61 k62 k63
      generalize clO l l.length = O at *
      generalize cI O = CO at *
      generalize hA : rowC vc l = A at *
      unfold peakR at k57 k61
      split at k57
      · rename_i h
        rw [if_pos h] at k61
        simp -implicitDefEqProofs [c7, ka, k56, k57, k58, k59, k60, k61, k62, k63, hA]
      · rename_i h
        rw [if_neg h] at k61
        generalize l.any (·.over) = b at *
        generalize pkL l = pl at *
        generalize pkH l = ph at *
        simp -implicitDefEqProofs [c7, ka, k56, k57, k58, k59, k60, k61, k62, k63, hA]
    · rw [if_neg hz] at k57 k59
      have k63 := same63 (n := 60) (by omega) [] [] (by simp)
      have hd : decide (([] : List (Int × Int)) = []) = true := by simp
      have e3 : cI ([] : List (Int × Int)) = [] := rfl
      rw [hd] at k63
      simp only [vsl, csl, e3, List.length_nil] at k56 k57 k58 k59 k60 k63
      generalize valsE l = E at *
      generalize hA : rowC vc l = A at *
      simp -implicitDefEqProofs [c7, ka, k56, k57, k58, k59, k60, k63, hA, hz]
  · rw [Bool.not_eq_true] at hs
    rw [hs] at k56
    simp only [vsl] at k56
    generalize hA : rowC vc l = A at *
    simp -implicitDefEqProofs [c7, ka, k56, hA]
end Fw
