/- The law on strings of sensors: what it returns at any input. -/
import Derived.Test.YtbaedpfgjpkabaaGreatDoorChSt14
import Derived.Test.YtbaedpfgjpkabaaGreatDoorChSt6
import Derived.Test.YtbaedpfgjpkabaaGreatDoorChSt7
set_option maxHeartbeats 16000000
namespace Fw
open Go
attribute [local irreducible] evCode evOps evOpsD evOper evOperD evOp evFn loopN T.All T.bind callPure callOp opsK opsDK restK seqK blockK loopS setK setQ giveK scalK gcK finish finS rfunK yldK yldB loopK

def hdS : ACode → ACode
  | .seq a _ => a
  | c => c
def tlS : ACode → ACode
  | .seq _ b => b
  | c => c
theorem short_of {l : List SenI} (h : (decide (firstE (l.map lnE) = 0) && (decide (l.length ≤ 4) || decide (l.length = 17))) = true) : l.length ≤ 17 ∧ ∀ s ∈ l, s.name.length ≤ 40 := by
  simp only [Bool.and_eq_true, Bool.or_eq_true, decide_eq_true_eq] at h
  refine ⟨by omega, fun s hs => ?_⟩
  have := firstE_zero.1 h.1 (lnE s) (List.mem_map.2 ⟨s, hs, rfl⟩)
  unfold lnE at this
  split at this
  · cases this
  · omega
theorem parseL_length (s : List UInt8) (h : (parseL s).2.2 = 0) : (parseL s).1.length < 1000000 := by
  unfold parseL at h ⊢
  split at h
  · rename_i h1
    rw [if_pos h1]
    split at h
    · rename_i h2
      rw [if_pos h2]
      have := (sens_of h2).1
      simp only; omega
    · rename_i h2
      exact absurd h h2
  · cases h

@[irreducible] def c13r : ACode := tlS (tlS c13.body)
theorem c13_body : c13.body = .seq (hdS c13.body) (.seq (hdS (tlS c13.body)) c13r) := by unfold c13r; rfl

theorem str_rest (ka : RUN 60 15 [] = .ret (.p (.bool true))) (l : List SenI) (s : List UInt8) (hl : l.length < 1000000) (hnl : ∀ s ∈ l, s.name.length ≤ 9223372036854775807) (tl : Env) :
    (evCode (evFn F C0 G0 60) C0 G0 0 c13r ⟨(0, ssl l) :: (1, sv s) :: tl, []⟩).bind (finish [.tmp 4]) = .ret (.p (.bool true)) := by
  have k93 := gauges93 (n := 60) (by omega) l hl
  have k92 := print92 (n := 60) (by omega) l hl hnl
  have k94 := parse94 (n := 60) (by omega) s
  have k97 := parse97 (n := 60) (by omega) s
  have k95 := check95 (n := 60) (by omega) l hl
  have k99n := sensors99 (n := 60) (by omega) [] (by simp)
  have k98n := sameS98 (n := 60) (by omega) [] (by simp)
  have hr0 : rowC sc [] = [] := rfl
  simp only [ssl, hr0, List.length_nil] at k99n k98n
  unfold c13r
  by_cases hz : sensE l = 0
  · have k96 := print96 (n := 60) (by omega) l hz
    rw [if_pos hz, hz] at k92
    rw [hz] at k95
    by_cases h4 : 4096 < s.length
    · rw [if_pos h4] at k94 k97
      simp -implicitDefEqProofs [tlS, c13, ka, k93, k92, k94, k97, k95, k96, k99n, k98n, strBin]
    · rw [if_neg h4] at k94 k97
      by_cases hp : (parseL s).2.2 = 0
      · rw [if_pos hp, hp] at k94 k97
        have k99 := sensors99 (n := 60) (by omega) (parseL s).1 (parseL_length s hp)
        have k98 := sameS98 (n := 60) (by omega) (parseL s).1 (parseL_length s hp)
        simp only [ssl] at k99 k98
        simp -implicitDefEqProofs [tlS, c13, ka, k93, k92, k94, k97, k95, k96, k99, k98, strBin]
      · rw [if_neg hp] at k94 k97
        simp -implicitDefEqProofs [tlS, c13, ka, k93, k92, k94, k97, k95, k96, k99n, k98n, strBin]
  · rw [if_neg hz] at k92
    by_cases h4 : 4096 < s.length
    · rw [if_pos h4] at k94 k97
      simp -implicitDefEqProofs [tlS, c13, ka, k93, k92, k94, k97, k95, hz, k99n, k98n, strBin]
    · rw [if_neg h4] at k94 k97
      by_cases hp : (parseL s).2.2 = 0
      · rw [if_pos hp, hp] at k94 k97
        have k99 := sensors99 (n := 60) (by omega) (parseL s).1 (parseL_length s hp)
        have k98 := sameS98 (n := 60) (by omega) (parseL s).1 (parseL_length s hp)
        simp only [ssl] at k99 k98
        simp -implicitDefEqProofs [tlS, c13, ka, k93, k92, k94, k97, k95, hz, k99, k98, strBin]
      · rw [if_neg hp] at k94 k97
        simp -implicitDefEqProofs [tlS, c13, ka, k93, k92, k94, k97, k95, hz, k99n, k98n, strBin]

theorem str_at (ka : RUN 60 15 [] = .ret (.p (.bool true))) (l : List SenI) (hl : l.length ≤ 9223372036854775807) (s : List UInt8) : RUN 61 13 [ssl l, sv s] = .ret (.p (.bool true)) := by
  rw [RUN, call_eq (d := 60) fe13 _ rfl]
  have k91 := short91 (n := 60) (by omega) l hl
  have hk := str_rest ka l s
  rw [c13_body]
  by_cases hsh : (decide (firstE (l.map lnE) = 0) && (decide (l.length ≤ 4) || decide (l.length = 17))) = true
  · obtain ⟨g1, g2⟩ := short_of hsh
    have hk := hk (by omega) (fun s hs => by have := g2 s hs; omega)
    rw [hsh] at k91
    cases h2 : ((s.length : Int) != 4097) <;> by_cases h1 : (300 : Int) < s.length
    all_goals first
      | (simp -implicitDefEqProofs [hdS, tlS, c13, h1, h2, ka, k91]; done)
      | (simp -implicitDefEqProofs [hdS, tlS, c13, h1, h2, k91, hk])
  · rw [Bool.not_eq_true] at hsh
    rw [hsh] at k91
    simp -implicitDefEqProofs [hdS, tlS, c13, ka, k91]
end Fw
