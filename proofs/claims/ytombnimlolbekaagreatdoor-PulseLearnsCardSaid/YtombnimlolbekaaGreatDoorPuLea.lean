/- The law on learning: what it returns at any input. -/
import Derived.Test.YtombnimlolbekaaGreatDoorPuQ6
set_option maxHeartbeats 16000000
namespace Fw
open Go
attribute [local irreducible] evCode evOps evOpsD evOper evOperD evOp evFn loopN T.All T.bind callPure callOp opsK opsDK restK seqK blockK loopS setK setQ giveK scalK gcK finish finS rfunK yldK yldB loopK

@[irreducible] def c5r : ACode := tlS (tlS c5.body)
theorem c5_body : c5.body = .seq (hdS c5.body) (.seq (hdS (tlS c5.body)) c5r) := by unfold c5r; rfl

theorem lea_rest (s : SledI) (l c : List (Int × Int)) (p : List Int) (step gain rounds : Int) (hl : l.length < 1000000) (hc : c.length < 1000000) (hp : p.length < 1000000) (tl : Env) :
    (evCode (evFn F C0 G0 60) C0 G0 0 c5r ⟨(1, csl l) :: (3, .ptr 0 0 0) :: (5, .ptr 1 0 0) :: tl, [(1, .box [csl c, isl p, iv step, iv gain, iv rounds]), (0, .arr (slc s) 0 1)]⟩).bind (finish [.tmp 6]) = .ret (.p (.bool true)) := by
  have ka := awake12
  have k14 := steps14 (n := 60) (by omega) l hl
  have k32 := spans32 (n := 60) (by omega) c hc
  have k33 := (ints33 (n := 60) (by omega) p hp).choose_spec.1
  have k44 := learned44 (n := 60) (by omega) s l c p step hl hc hp
  have k45 := learning45 (n := 60) (by omega) s l c gain rounds step hl hc
  have k21 := sled21 (n := 60) (by omega) s
  have k19 := setting19 (n := 60) (by omega) l hl
  have k37 := corr37 (n := 60) (by omega) c hc
  have k18a := first18_3 (n := 60) (by omega) (sledE s) (settingE l) (corrE c)
  have k38 := fit38 (n := 60) (by omega) c p hp
  have k47 := step47 (n := 60) (by omega) step
  have k18b := first18_3 (n := 60) (by omega) (safeE s l c) (fitE c p) (rangeE 1 100 step)
  have k22 := gain22 (n := 60) (by omega) s gain
  have k48 := rounds48 (n := 60) (by omega) rounds
  have k18c := first18_4 (n := 60) (by omega) (safeE s l c) (rangeE s.low s.high gain) (rangeE 0 8 rounds) (rangeE 1 100 step)
  have e1 : firstE [sledE s, settingE l, corrE c] = bad3 s l c := rfl
  have e2 : firstE [safeE s l c, fitE c p, rangeE 1 100 step] = badL s l c p step := rfl
  have e3 : firstE [safeE s l c, rangeE s.low s.high gain, rangeE 0 8 rounds, rangeE 1 100 step] = badG s l c gain rounds step := rfl
  rw [e1] at k18a
  rw [e2] at k18b
  rw [e3] at k18c
  have k52n := told52 (n := 60) (by omega) [] (by simp)
  have k51n := same51 (n := 60) (by omega) [] [] (by simp)
  have k54n := back54 (n := 60) (by omega) [] (by simp) (by simp)
  have k53n := sames53 (n := 60) (by omega) [] [] (by simp) (by simp)
  simp only [csl, ssl, cI, pS, List.map_nil, List.length_nil] at k52n k51n k54n k53n
  unfold c5r
  by_cases h3 : bad3 s l c = 0
  · obtain ⟨q1, q2, q3, q4, q5⟩ := bad3_zero h3
    have k26 := safe26 (n := 60) (by omega) q1 q2 c.length (by omega)
    have k46 := when46 (n := 60) (by omega) (!safeB s l c.length) 21
    have hse : whenE (!safeB s l c.length) 21 = safeE s l c := by rw [safeE, if_pos h3]
    rw [hse] at k46
    by_cases hL : badL s l c p step = 0
    · have hz1 := firstE_zero.1 hL
      have hf : Fit c p := fit_of (firstE_zero.2 (fun e he => by
        simp at he
        rcases he with rfl | rfl
        · exact firstE_zero.1 h3 (corrE c) (by simp)
        · exact hz1 (fitE c p) (by simp)))
      have hst := rangeE_zero.1 (hz1 (rangeE 1 100 step) (by simp))
      have k49 := learned49 (n := 60) (by omega) q1 q2 hf q3 hst
      have hLL := (learnedL_keep (s := s) (c := c) (p := p) (step := step) q2).len
      have k52 := told52 (n := 60) (by omega) (learnedL s l c p step) (by omega)
      have k51 := same51 (n := 60) (by omega) (learnedL s l c p step) (learnedL s l c p step) (by omega)
      simp only [csl, hLL] at k52 k51
      rw [if_pos hL] at k44
      by_cases hG : badG s l c gain rounds step = 0
      · have hz2 := firstE_zero.1 hG
        have hgn := rangeE_zero.1 (hz2 (rangeE s.low s.high gain) (by simp))
        have hrd := rangeE_zero.1 (hz2 (rangeE 0 8 rounds) (by simp))
        have hlo := q1.low
        have hhi := q1.high
        obtain ⟨m, hm⟩ : ∃ m : Nat, rounds = m := ⟨rounds.toNat, by omega⟩
        subst hm
        have k50 := learning50 (n := 60) (by omega) q1 q2 q3 q4 q5 (gain := gain) (step := step) (by omega) (by omega) hst m (by omega)
        have hhl := histL_length s l c gain step m
        have hhm : ∀ x ∈ histL s l c gain step m, x.length < 1000000 := fun x hx => by
          obtain ⟨k, _, rfl⟩ := List.mem_map.1 hx
          have := (learnF_valid (s := s) (c := c) (gain := gain) (step := step) q2 k).2
          omega
        have k54 := back54 (n := 60) (by omega) (histL s l c gain step m) (by omega) hhm
        have k53 := sames53 (n := 60) (by omega) (histL s l c gain step m) (histL s l c gain step m) (by omega) hhm
        simp only [ssl, hhl] at k54 k53
        rw [if_pos hG] at k45
        simp -implicitDefEqProofs [tlS, c5, ka, k14, k32, k33, k44, k45, k21, k19, k37, k18a, k38, k47, k18b, k22, k48, k18c, h3, k26, k46, hL, k49, k52, k51, hG, k50, k54, k53]
      · rw [if_neg hG] at k45
        simp -implicitDefEqProofs [tlS, c5, ka, k14, k32, k33, k44, k45, k21, k19, k37, k18a, k38, k47, k18b, k22, k48, k18c, h3, k26, k46, hL, k49, k52, k51, hG, k54n, k53n]
    · rw [if_neg hL] at k44
      by_cases hG : badG s l c gain rounds step = 0
      · have hz2 := firstE_zero.1 hG
        have hst := rangeE_zero.1 (hz2 (rangeE 1 100 step) (by simp))
        have hgn := rangeE_zero.1 (hz2 (rangeE s.low s.high gain) (by simp))
        have hrd := rangeE_zero.1 (hz2 (rangeE 0 8 rounds) (by simp))
        have hlo := q1.low
        have hhi := q1.high
        obtain ⟨m, hm⟩ : ∃ m : Nat, rounds = m := ⟨rounds.toNat, by omega⟩
        subst hm
        have k50 := learning50 (n := 60) (by omega) q1 q2 q3 q4 q5 (gain := gain) (step := step) (by omega) (by omega) hst m (by omega)
        have hhl := histL_length s l c gain step m
        have hhm : ∀ x ∈ histL s l c gain step m, x.length < 1000000 := fun x hx => by
          obtain ⟨k, _, rfl⟩ := List.mem_map.1 hx
          have := (learnF_valid (s := s) (c := c) (gain := gain) (step := step) q2 k).2
          omega
        have k54 := back54 (n := 60) (by omega) (histL s l c gain step m) (by omega) hhm
        have k53 := sames53 (n := 60) (by omega) (histL s l c gain step m) (histL s l c gain step m) (by omega) hhm
        simp only [ssl, hhl] at k54 k53
        rw [if_pos hG] at k45
        simp -implicitDefEqProofs [tlS, c5, ka, k14, k32, k33, k44, k45, k21, k19, k37, k18a, k38, k47, k18b, k22, k48, k18c, h3, k26, k46, hL, k52n, k51n, hG, k50, k54, k53]
      · rw [if_neg hG] at k45
        simp -implicitDefEqProofs [tlS, c5, ka, k14, k32, k33, k44, k45, k21, k19, k37, k18a, k38, k47, k18b, k22, k48, k18c, h3, k26, k46, hL, k52n, k51n, hG, k54n, k53n]
  · have hse : bad3 s l c = safeE s l c := by rw [safeE, if_neg h3]
    have hL : ¬ badL s l c p step = 0 := fun h => h3 (safeE_zero (firstE_zero.1 h (safeE s l c) (by simp))).1
    have hG : ¬ badG s l c gain rounds step = 0 := fun h => h3 (safeE_zero (firstE_zero.1 h (safeE s l c) (by simp))).1
    rw [hse] at k18a h3
    rw [if_neg hL] at k44
    rw [if_neg hG] at k45
    simp -implicitDefEqProofs [tlS, c5, ka, k14, k32, k33, k44, k45, k21, k19, k37, k18a, k38, k47, k18b, k22, k48, k18c, h3, hL, k52n, k51n, hG, k54n, k53n]

theorem lea_at (s : SledI) (l c : List (Int × Int)) (p : List Int) (step gain rounds : Int) : RUN 61 5 [sla s, csl l, .agg [csl c, isl p, iv step, iv gain, iv rounds]] = .ret (.p (.bool true)) := by
  rw [RUN, call_eq (d := 60) fe5 _ rfl]
  have ka := awake12
  have hk := lea_rest s l c p step gain rounds
  simp only [slc] at hk
  rw [c5_body]
  cases h2 : ((c.length : Int) != 65) <;> cases h4 : ((p.length : Int) != 65) <;> by_cases h0 : (13 : Int) < l.length <;> by_cases h1 : (20 : Int) < c.length <;> by_cases h3 : (20 : Int) < p.length
  all_goals first
    | (simp -implicitDefEqProofs [hdS, tlS, c5, h0, h1, h2, h3, h4, ka]; done)
    | (have hk := hk (by omega) (by first | omega | (have : (c.length : Int) = 65 := by simpa using h2
                                                     omega)) (by first | omega | (have : (p.length : Int) = 65 := by simpa using h4
                                                                                  omega))
       simp -implicitDefEqProofs [hdS, tlS, c5, h0, h1, h2, h3, h4, hk])
end Fw
