/- The law on strings: what it returns at any input. -/
import Derived.Test.YtombnimlolbekaaGreatDoorPuT6
set_option maxHeartbeats 16000000
namespace Fw
open Go
attribute [local irreducible] evCode evOps evOpsD evOper evOperD evOp evFn loopN T.All T.bind callPure callOp opsK opsDK restK seqK blockK loopS setK setQ giveK scalK gcK finish finS rfunK yldK yldB loopK

@[irreducible] def c7r : ACode := tlS (tlS c7.body)
theorem c7_body : c7.body = .seq (hdS c7.body) (.seq (hdS (tlS c7.body)) c7r) := by unfold c7r; rfl

theorem parseL_length (s : List UInt8) (h : (parseL s).2.2 = 0) : (parseL s).1.length < 1000000 := by
  unfold parseL at h ⊢
  split at h
  · rename_i h1
    rw [if_pos h1]
    split at h
    · rename_i h2
      rw [if_pos h2]
      have := (valid_of h2).small
      simp only; omega
    · rename_i h2
      exact absurd h h2
  · simp at h

theorem str_rest (l : List (Int × Int)) (s : List UInt8) (hl : l.length < 1000000) (tl : Env) :
    (evCode (evFn F C0 G0 60) C0 G0 0 c7r ⟨(0, csl l) :: (1, sv s) :: tl, []⟩).bind (finish [.tmp 4]) = .ret (.p (.bool true)) := by
  have ka := awake12
  have k14 := steps14 (n := 60) (by omega) l hl
  have k69 := print69 (n := 60) (by omega) l hl
  have k70 := parse70 (n := 60) (by omega) s
  have k72 := parse72 (n := 60) (by omega) s
  have k19 := setting19 (n := 60) (by omega) l hl
  have k52n := told52 (n := 60) (by omega) [] (by simp)
  have k51n := same51 (n := 60) (by omega) [] [] (by simp)
  simp only [csl, cI, List.length_nil] at k52n k51n
  unfold c7r
  by_cases hz : settingE l = 0
  · have k71 := print71 (n := 60) (by omega) (valid_of hz)
    rw [if_pos hz, hz] at k69
    rw [hz] at k19
    by_cases h4 : 4096 < s.length
    · rw [if_pos h4] at k70 k72
      simp -implicitDefEqProofs [tlS, c7, ka, k14, k69, k70, k72, k19, k71, k52n, k51n, strBin]
    · rw [if_neg h4] at k70 k72
      by_cases hp : (parseL s).2.2 = 0
      · rw [if_pos hp, hp] at k70 k72
        have k52 := told52 (n := 60) (by omega) (parseL s).1 (parseL_length s hp)
        have k51 := same51 (n := 60) (by omega) (parseL s).1 (parseL s).1 (parseL_length s hp)
        simp only [csl] at k52 k51
        simp -implicitDefEqProofs [tlS, c7, ka, k14, k69, k70, k72, k19, k71, k52, k51, strBin]
      · rw [if_neg hp] at k70 k72
        simp -implicitDefEqProofs [tlS, c7, ka, k14, k69, k70, k72, k19, k71, k52n, k51n, strBin]
  · rw [if_neg hz] at k69
    by_cases h4 : 4096 < s.length
    · rw [if_pos h4] at k70 k72
      simp -implicitDefEqProofs [tlS, c7, ka, k14, k69, k70, k72, k19, hz, k52n, k51n, strBin]
    · rw [if_neg h4] at k70 k72
      by_cases hp : (parseL s).2.2 = 0
      · rw [if_pos hp, hp] at k70 k72
        have k52 := told52 (n := 60) (by omega) (parseL s).1 (parseL_length s hp)
        have k51 := same51 (n := 60) (by omega) (parseL s).1 (parseL s).1 (parseL_length s hp)
        simp only [csl] at k52 k51
        simp -implicitDefEqProofs [tlS, c7, ka, k14, k69, k70, k72, k19, hz, k52, k51, strBin]
      · rw [if_neg hp] at k70 k72
        simp -implicitDefEqProofs [tlS, c7, ka, k14, k69, k70, k72, k19, hz, k52n, k51n, strBin]

theorem str_at (l : List (Int × Int)) (s : List UInt8) : RUN 61 7 [csl l, sv s] = .ret (.p (.bool true)) := by
  rw [RUN, call_eq (d := 60) fe7 _ rfl]
  have ka := awake12
  have hk := str_rest l s
  rw [c7_body]
  cases h2 : ((s.length : Int) != 4097) <;> by_cases h0 : (13 : Int) < l.length <;> by_cases h1 : (300 : Int) < s.length
  all_goals first
    | (simp -implicitDefEqProofs [hdS, tlS, c7, h0, h1, h2, ka]; done)
    | (have hk := hk (by omega)
       simp -implicitDefEqProofs [hdS, tlS, c7, h0, h1, h2, hk])
end Fw
