/- Learning: the chapter and its reference. -/
import Derived.Test.YtombnimlolbekaaGreatDoorPuQ5
set_option maxHeartbeats 8000000
namespace Fw
open Go
attribute [local irreducible] evCode evOps evOpsD evOper evOperD evOp evFn loopN T.All T.bind callPure callOp opsK opsDK restK seqK blockK loopS setK setQ giveK scalK gcK finish finS rfunK yldK yldB loopK

theorem clone118 {n : Nat} (hn : 1 ≤ n) (l : List (Int × Int)) (h0 : 0 < l.length) (hl : l.length < 1000000) : RUN n 118 [csl l] = .ret (.own (cI l) l.length 2) := by
 obtain ⟨d, rfl⟩ : ∃ d, n = d + 1 := ⟨n - 1, by omega⟩
 rw [RUN, call_eq fe118 _ rfl]
 have hlim : l.length ≤ lim := by simp only [lim]; omega
 have hne : ¬ l.length = 0 := by omega
 simp -implicitDefEqProofs [c118, hlim, hne]

def badL (s : SledI) (l c : List (Int × Int)) (p : List Int) (step : Int) : Int := firstE [safeE s l c, fitE c p, rangeE 1 100 step]
def badG (s : SledI) (l c : List (Int × Int)) (gain rounds step : Int) : Int := firstE [safeE s l c, rangeE s.low s.high gain, rangeE 0 8 rounds, rangeE 1 100 step]

theorem safeE_zero {s : SledI} {l c : List (Int × Int)} (h : safeE s l c = 0) : bad3 s l c = 0 ∧ safeB s l c.length = true := by
 unfold safeE at h
 split at h
 ·rename_i h3
  refine ⟨h3, ?_⟩
  have := (whenE_zero (by decide)).1 h
  simpa using this
 ·rename_i h3; exact absurd h h3

theorem learned44 {n : Nat} (hn : 8 ≤ n) (s : SledI) (l c : List (Int × Int)) (p : List Int) (step : Int) (hl : l.length < 1000000) (hc : c.length < 1000000) (hp : p.length < 1000000) :
  RUN n 44 [sla s, csl l, csl c, isl p, iv step] = .ret (if badL s l c p step = 0 then .tup [.p (.sl (cI (learnedL s l c p step)) l.length), iv 0] else .tup [.p (.sl [] 0), iv (badL s l c p step)]) := by
 obtain ⟨d, rfl⟩ : ∃ d, n = d + 8 := ⟨n - 8, by omega⟩
 rw [RUN, call_eq fe44 _ rfl]
 have h1 := checkSafe115 (n := d + 7) (by omega) s l c hl hc
 have h2 := fit108 (n := d + 7) (by omega) c p hp
 have h3 := step116 (n := d + 7) (by omega) step
 have h4 := first92_3 (n := d + 7) (by omega) (safeE s l c) (fitE c p) (rangeE 1 100 step)
 have e : firstE [safeE s l c, fitE c p, rangeE 1 100 step] = badL s l c p step := rfl
 rw [e] at h4
 by_cases hz : badL s l c p step = 0
 ·have hz1 := firstE_zero.1 hz
  obtain ⟨b1, b2⟩ := safeE_zero (hz1 (safeE s l c) (by simp))
  obtain ⟨q1, q2, q3, q4, q5⟩ := bad3_zero b1
  have hf : Fit c p := fit_of (firstE_zero.2 (fun e he => by
   simp at he
   rcases he with rfl | rfl
   ·exact firstE_zero.1 b1 (corrE c) (by simp)
   ·exact hz1 (fitE c p) (by simp)))
  have hst := rangeE_zero.1 (hz1 (rangeE 1 100 step) (by simp))
  have h5 := learned117 (n := d + 7) (by omega) q1 q2 hf q3 hst
  rw [if_pos hz]
  simp -implicitDefEqProofs [c44, h1, h2, h3, h4, hz, h5]
 ·rw [if_neg hz]
  simp -implicitDefEqProofs [c44, h1, h2, h3, h4, hz]

def learnF (s : SledI) (l c : List (Int × Int)) (gain step : Int) : Nat → List (Int × Int)
 | 0 => l
 | k + 1 => learnedL s (learnF s l c gain step k) c (runL s (learnF s l c gain step k) gain c.length) step
def histL (s : SledI) (l c : List (Int × Int)) (gain step : Int) (k : Nat) : List (List (Int × Int)) := (List.range (k + 1)).map (learnF s l c gain step)

theorem learnedL_keep {s : SledI} {l c : List (Int × Int)} {p : List Int} {step : Int} (h : Valid l) : Keep l (learnedL s l c p step) := outF_keep h l.length (Nat.le_refl _)
theorem learnF_valid {s : SledI} {l c : List (Int × Int)} {gain step : Int} (h : Valid l) : ∀ k, Valid (learnF s l c gain step k) ∧ (learnF s l c gain step k).length = l.length := by
 intro k
 induction k with
 | zero => exact ⟨h, rfl⟩
 | succ k ih =>
  have := learnedL_keep (s := s) (c := c) (p := runL s (learnF s l c gain step k) gain c.length) (step := step) ih.1
  exact ⟨this.valid ih.1, by rw [learnF, this.len, ih.2]⟩

theorem run_fit {s : SledI} (hs : SledOk s) {l c : List (Int × Int)} (hl : Valid l) {gain : Int} (hg : 0 ≤ gain) (hg2 : gain ≤ 10000) (hc : c.length ≤ 64) (hc2 : ∀ x ∈ c, 0 ≤ x.1 ∧ x.1 ≤ 10000 ∧ 0 ≤ x.2 ∧ x.2 ≤ 10000 ∧ x.1 ≤ x.2) : Fit c (runL s l gain c.length) := by
 refine ⟨runL_length s l gain c.length, hc, hc2, fun a ha => ?_⟩
 obtain ⟨i, hi, rfl⟩ := List.mem_map.1 ha
 have := runF_bound (s := s) hl hg hs.lag.1 (i + 1)
 omega

theorem histL_length (s : SledI) (l c : List (Int × Int)) (gain step : Int) (k : Nat) : (histL s l c gain step k).length = k + 1 := by simp [histL]
theorem histL_succ (s : SledI) (l c : List (Int × Int)) (gain step : Int) (k : Nat) : histL s l c gain step (k + 1) = histL s l c gain step k ++ [learnF s l c gain step (k + 1)] := by
 simp only [histL]
 rw [List.range_succ, List.map_append]
 rfl
theorem histL_at (s : SledI) (l c : List (Int × Int)) (gain step : Int) (k : Nat) (h : k < (histL s l c gain step k).length) : (histL s l c gain step k)[k] = learnF s l c gain step k := by simp [histL]
theorem learning45 {n : Nat} (hn : 9 ≤ n) (s : SledI) (l c : List (Int × Int)) (gain rounds step : Int) (hl : l.length < 1000000) (hc : c.length < 1000000) :
  RUN n 45 [sla s, csl l, csl c, iv gain, .agg [iv rounds, iv step]] = .ret (if badG s l c gain rounds step = 0 then .tup [.own (pS (histL s l c gain step rounds.toNat)) (rounds.toNat + 1) 1, iv 0] else .tup [.p (.sl [] 0), iv (badG s l c gain rounds step)]) := by
 obtain ⟨d, rfl⟩ : ∃ d, n = d + 9 := ⟨n - 9, by omega⟩
 rw [RUN, call_eq fe45 _ rfl]
 have h1 := checkSafe115 (n := d + 8) (by omega) s l c hl hc
 have h2 := within95 (n := d + 8) (by omega) gain s.low s.high
 have h2b := within95 (n := d + 8) (by omega) rounds 0 8
 have h3 := step116 (n := d + 8) (by omega) step
 have h4 := first92_4 (n := d + 8) (by omega) (safeE s l c) (rangeE s.low s.high gain) (rangeE 0 8 rounds) (rangeE 1 100 step)
 have e : firstE [safeE s l c, rangeE s.low s.high gain, rangeE 0 8 rounds, rangeE 1 100 step] = badG s l c gain rounds step := rfl
 rw [e] at h4
 by_cases hz : badG s l c gain rounds step = 0
 ·have hz1 := firstE_zero.1 hz
  obtain ⟨b1, b2⟩ := safeE_zero (hz1 (safeE s l c) (by simp))
  obtain ⟨q1, q2, q3, q4, q5⟩ := bad3_zero b1
  have hgn := rangeE_zero.1 (hz1 (rangeE s.low s.high gain) (by simp))
  have hrd := rangeE_zero.1 (hz1 (rangeE 0 8 rounds) (by simp))
  have hst := rangeE_zero.1 (hz1 (rangeE 1 100 step) (by simp))
  have hlo := q1.low
  have hhi := q1.high
  obtain ⟨m, hm⟩ : ∃ m : Nat, rounds = m := ⟨rounds.toNat, by omega⟩
  subst hm
  have h5 := clone118 (n := d + 8) (by omega) l q2.pos hl
  let so : Obj := .arr (slc s) 0 1
  let inv : Nat → St := fun i => ⟨[(2, csl c), (3, iv gain), (5, .ptr 0 0 0), (9, .ptr 1 0 0), (13, .sl 2 i 0 (i + 1)), (42, iv m), (43, iv i)], [(2, .arr (pS (histL s l c gain step i)) i 1), (1, .arr [.int .i64 m, .int .i64 step] 0 1), (0, so)]⟩
  have hhl := histL_length s l c gain step
  rw [if_pos hz]
  have h0 : pS (histL s l c gain step 0) = [.sl (cI l) l.length] := rfl
  simp -implicitDefEqProofs [c45, h1, h2, h2b, h3, h4, hz, h5]
  rw [loop_run inv m (e := .exit 0) (st' := ⟨(inv m).env ++ [(44, .p (.bool false))], (inv m).sto⟩) (by simp)]
  ·simp -implicitDefEqProofs [inv, so, hhl]
  ·rfl
  ·intro i hi
   have hlim : i + 1 + 1 ≤ lim := by simp only [lim]; omega
   obtain ⟨v1, v2⟩ := learnF_valid (s := s) (c := c) (gain := gain) (step := step) q2 i
   have hr := run96 (n := d + 8) (by omega) q1 v1 (g := gain) (by omega) (by omega) c.length (by omega)
   have hf := run_fit (c := c) q1 v1 (gain := gain) (by omega) (by omega) q4 q5
   have hle := learned117 (n := d + 8) (by omega) q1 v1 hf q3 hst
   have hrl := runL_length s (learnF s l c gain step i) gain c.length
   simp only [isl, hrl] at hle
   have hsu := histL_succ s l c gain step i
   have hge := histL_at s l c gain step i
   have hi2 : (i : Int) < (i : Int) + 1 := by omega
   have hfs : learnedL s (learnF s l c gain step i) c (runL s (learnF s l c gain step i) gain c.length) step = learnF s l c gain step (i + 1) := rfl
   have hll := (learnF_valid (s := s) (c := c) (gain := gain) (step := step) q2 (i + 1)).2
   have hp : pS (histL s l c gain step (i + 1)) = pS (histL s l c gain step i) ++ [.sl (cI (learnF s l c gain step (i + 1))) (learnF s l c gain step i).length] := by
    rw [hsu, pS_append, v2, ← hll]; rfl
   rw [hfs] at hle
   have hi' : (i : Int) < m := by omega
   have hii : i < i + 1 := by omega
   simp -implicitDefEqProofs [inv, so, loopS_eq, c45L0, hi, hlim, hhl, hge, hi2, hr, hle, csv, hp, wrap_succ (i := i) (by omega)]
  ·simp -implicitDefEqProofs [inv, so, loopS_eq, c45L0]
  ·simp [loopFuel]; omega
 ·rw [if_neg hz]
  simp -implicitDefEqProofs [c45, h1, h2, h2b, h3, h4, hz]

end Fw
