/- The law on spreads: what it returns at any input. -/
import Derived.Test.YtombnimlolbekaaGreatDoorPuPh
import Derived.Test.YtombnimlolbekaaGreatDoorPuRuns
set_option maxHeartbeats 16000000
namespace Fw
open Go
attribute [local irreducible] evCode evOps evOpsD evOper evOperD evOp evFn loopN T.All T.bind callPure callOp opsK opsDK restK seqK blockK loopS setK setQ giveK scalK gcK finish finS rfunK yldK yldB loopK

/-- the first run, or none -/
def oneL (ls : List (List Int)) : List Int := ls.getD 0 []

theorem short_len {ls : List (List Int)} (h : shortB ls = true) : ls.length ≤ 9 ∧ ∀ l ∈ ls, l.length ≤ 65 := by
  simp only [shortB, Bool.and_eq_true, decide_eq_true_eq] at h
  refine ⟨h.2, fun l hl => ?_⟩
  have := firstE_zero.1 h.1 (longE l) (List.mem_map.2 ⟨l, hl, rfl⟩)
  unfold longE at this
  split at this <;> omega

@[irreducible] def c6r : ACode := tlS (tlS (tlS (tlS c6.body)))
theorem c6_body : c6.body = .seq (hdS c6.body) (.seq (hdS (tlS c6.body)) (.seq (hdS (tlS (tlS c6.body))) (.seq (hdS (tlS (tlS (tlS c6.body)))) c6r))) := by unfold c6r; rfl

theorem spr_rest (s : SlopeI) (ls : List (List Int)) (t : Int) (v : PVal) (hv : nrm v = .sl (pI (oneL ls)) (oneL ls).length) (hl : ls.length < 1000000) (hi : ∀ l ∈ ls, l.length < 1000000) (tl : Env) :
    (evCode (evFn F C0 G0 60) C0 G0 0 c6r ⟨(0, llsl ls) :: (1, iv t) :: (5, .ptr 0 0 0) :: (7, .p v) :: tl, [(0, .arr (spc s) 0 1)]⟩).bind (finish [.tmp 6]) = .ret (.p (.bool true)) := by
  have ka := awake12
  have ho : (oneL ls).length < 1000000 := by
    cases ls with
    | nil => simp [oneL]
    | cons x r => exact hi x (by simp)
  have k57 := runs57 (n := 60) (by omega) ls hl hi
  have k56 := spread56 (n := 60) (by omega) ls hl hi
  have k58 := mean58 (n := 60) (by omega) ls hl hi
  have k59 := alike59 (n := 60) (by omega) ls t hl hi
  have k33 := (ints33 (n := 60) (by omega) (oneL ls) ho).choose_spec.1
  have k60 := split60 (n := 60) (by omega) s (oneL ls) ho
  have k61 := runs61 (n := 60) (by omega) ls hl hi
  have k62 := tol62 (n := 60) (by omega) t
  have k63 := slope63 (n := 60) (by omega) s
  have k68 := slope68 (n := 60) (by omega) s
  have k39 := pulse39 (n := 60) (by omega) (oneL ls) ho
  have k18a := first18_2 (n := 60) (by omega) (runsE ls) (rangeE 0 100000 t)
  have k18b := first18_2 (n := 60) (by omega) (slopeE s) (pulseE (oneL ls))
  have e1 : firstE [runsE ls, rangeE 0 100000 t] = badA ls t := rfl
  have e2 : firstE [slopeE s, pulseE (oneL ls)] = badS s (oneL ls) := rfl
  rw [e1] at k18a
  rw [e2] at k18b
  have k29n := same29 (n := 60) (by omega) [] [] (by simp)
  have k30n := same30 (n := 60) (by omega) [] [] (by simp)
  simp only [isl, csl, pI_nil, cI, List.length_nil] at k29n k30n
  unfold c6r
  have hA : badA ls t = 0 → runsE ls = 0 := fun h => firstE_zero.1 h (runsE ls) (by simp)
  by_cases h4 : badS s (oneL ls) = 0
  · have hs := slope_of (firstE_zero.1 h4 (slopeE s) (by simp))
    obtain ⟨_, q1, q⟩ := pulse_of (firstE_zero.1 h4 (pulseE (oneL ls)) (by simp))
    have k67 := split67 (n := 60) (by omega) hs q1 q
    have k30a := same30 (n := 60) (by omega) ((oneL ls).map fun a => partF s.whole a s.along) ((oneL ls).map fun a => partF s.whole a s.along) (by simpa using ho)
    have k30b := same30 (n := 60) (by omega) ((oneL ls).map fun a => partF s.whole a s.across) ((oneL ls).map fun a => partF s.whole a s.across) (by simpa using ho)
    simp only [csl, List.length_map] at k30a k30b
    rw [if_pos h4] at k60
    by_cases h1 : runsE ls = 0
    · have h : RunsOk ls (m0 ls) := runs_of h1
      have k64 := spread64 (n := 60) (by omega) ls (m0 ls) h.pos hl h.len (by have := h.small; omega)
      have k65 := mean65 (n := 60) (by omega) h
      have k66 := alike66 (n := 60) (by omega) h t
      have k30s := same30 (n := 60) (by omega) (spreadL ls (m0 ls)) (spreadL ls (m0 ls)) (by rw [spreadL_length]; have := h.small; omega)
      have k29m := same29 (n := 60) (by omega) (meanL ls (m0 ls)) (meanL ls (m0 ls)) (by rw [meanL_length]; have := h.small; omega)
      simp only [csl, isl, spreadL_length, meanL_length] at k30s k29m
      rw [if_pos h1] at k56 k58
      rw [h1] at k18a
      by_cases h3 : badA ls t = 0
      · simp -implicitDefEqProofs [tlS, c6, hv, ka, k57, k56, k58, k59, k33, k60, k61, k62, k63, k68, k39, k18a, k18b, k67, k30a, k30b, k64, k65, k66, k30s, k29m, h1, h3, h4]
      · simp -implicitDefEqProofs [tlS, c6, hv, ka, k57, k56, k58, k59, k33, k60, k61, k62, k63, k68, k39, k18a, k18b, k67, k30a, k30b, k64, k65, k30s, k29m, h1, h3, h4]
    · have h3 : ¬ badA ls t = 0 := fun h => h1 (hA h)
      rw [if_neg h1] at k56 k58
      simp -implicitDefEqProofs [tlS, c6, hv, ka, k57, k56, k58, k59, k33, k60, k61, k62, k63, k68, k39, k18a, k18b, k67, k30a, k30b, k29n, k30n, h1, h3, h4]
  · rw [if_neg h4] at k60
    by_cases h1 : runsE ls = 0
    · have h : RunsOk ls (m0 ls) := runs_of h1
      have k64 := spread64 (n := 60) (by omega) ls (m0 ls) h.pos hl h.len (by have := h.small; omega)
      have k65 := mean65 (n := 60) (by omega) h
      have k66 := alike66 (n := 60) (by omega) h t
      have k30s := same30 (n := 60) (by omega) (spreadL ls (m0 ls)) (spreadL ls (m0 ls)) (by rw [spreadL_length]; have := h.small; omega)
      have k29m := same29 (n := 60) (by omega) (meanL ls (m0 ls)) (meanL ls (m0 ls)) (by rw [meanL_length]; have := h.small; omega)
      simp only [csl, isl, spreadL_length, meanL_length] at k30s k29m
      rw [if_pos h1] at k56 k58
      rw [h1] at k18a
      by_cases h3 : badA ls t = 0
      · simp -implicitDefEqProofs [tlS, c6, hv, ka, k57, k56, k58, k59, k33, k60, k61, k62, k63, k68, k39, k18a, k18b, k64, k65, k66, k30s, k29m, k30n, h1, h3, h4]
      · simp -implicitDefEqProofs [tlS, c6, hv, ka, k57, k56, k58, k59, k33, k60, k61, k62, k63, k68, k39, k18a, k18b, k64, k65, k30s, k29m, k30n, h1, h3, h4]
    · have h3 : ¬ badA ls t = 0 := fun h => h1 (hA h)
      rw [if_neg h1] at k56 k58
      simp -implicitDefEqProofs [tlS, c6, hv, ka, k57, k56, k58, k59, k33, k60, k61, k62, k63, k68, k39, k18a, k18b, k29n, k30n, h1, h3, h4]

theorem spr_at (ls : List (List Int)) (t : Int) (s : SlopeI) (hl : ls.length ≤ 9223372036854775807) : RUN 61 6 [llsl ls, iv t, spa s] = .ret (.p (.bool true)) := by
  rw [RUN, call_eq (d := 60) fe6 _ rfl]
  have ka := awake12
  have k55 := short55 (n := 60) (by omega) ls hl
  rw [c6_body]
  cases hB : shortB ls with
  | false =>
    rw [hB] at k55
    simp -implicitDefEqProofs [hdS, tlS, c6, k55, ka]
  | true =>
    rw [hB] at k55
    obtain ⟨q1, q2⟩ := short_len hB
    have hk := fun v hv => spr_rest s ls t v hv (by omega) (fun l h => by have := q2 l h; omega) 
    simp only [spc] at hk
    cases ls with
    | nil =>
      have hk := hk .nils rfl
      simp only [llsl, pL, List.map_nil, List.length_nil] at hk k55 ⊢
      simp -implicitDefEqProofs [hdS, tlS, c6, k55, hk]
    | cons x r =>
      have hk := hk (lsl x) rfl
      have h0 : (0 : Int) < (x :: r).length := by simp
      have h0n : 0 < (x :: r).length := by simp
      have hp : pL (x :: r) = lsl x :: pL r := rfl
      generalize hL : (x :: r).length = L at *
      simp only [llsl, hp, hL] at hk k55 ⊢
      simp -implicitDefEqProofs [hdS, tlS, c6, k55, h0n, hk]
end Fw
