/- The law on halls: what it returns at any input. -/
import Derived.Test.YtdjkleaojdeepaaGreatDoorGaH9
set_option maxHeartbeats 16000000
namespace Fw
open Go
attribute [local irreducible] evCode evOps evOpsD evOper evOperD evOp evFn loopN T.All T.bind callPure callOp opsK opsDK restK seqK blockK loopS setK setQ giveK scalK gcK finish finS rfunK yldK yldB loopK

theorem short15 {n : Nat} (hn : 1 ≤ n) (h : HallI) : RUN n 15 [ha h] = .ret (.p (.bool (decide (h.t0.length ≤ 9) && (decide (h.t1.length ≤ 9) && decide (h.t2.length ≤ 9))))) := by
  obtain ⟨d, rfl⟩ : ∃ d, n = d + 1 := ⟨n - 1, by omega⟩
  rw [RUN, call_eq fe15 _ rfl]
  by_cases h0 : h.t0.length ≤ 9
  · have h0' : (h.t0.length : Int) ≤ 9 := by omega
    by_cases h1 : h.t1.length ≤ 9
    · have h1' : (h.t1.length : Int) ≤ 9 := by omega
      by_cases h2 : h.t2.length ≤ 9
      · have h2' : (h.t2.length : Int) ≤ 9 := by omega
        simp -implicitDefEqProofs [c15, h0, h1, h2, h0', h1', h2']
      · have h2' : ¬ (h.t2.length : Int) ≤ 9 := by omega
        simp -implicitDefEqProofs [c15, h0, h1, h2, h0', h1', h2']
    · have h1' : ¬ (h.t1.length : Int) ≤ 9 := by omega
      simp -implicitDefEqProofs [c15, h0, h1, h0', h1']
  · have h0' : ¬ (h.t0.length : Int) ≤ 9 := by omega
    simp -implicitDefEqProofs [c15, h0, h0']

theorem hal_at (ka : RUN 60 17 [] = .ret (.p (.bool true))) (h : HallI) (x : ActI) (a b c : Int) : RUN 61 14 [ha h, .agg [iv x.tick, sv x.kind, iv x.num, iv x.a, iv x.b, iv x.c, iv a, iv b, iv c]] = .ret (.p (.bool true)) := by
  rw [RUN, call_eq fe14 _ rfl]
  have k15 := short15 (n := 60) (by omega) h
  by_cases hs : (decide (h.t0.length ≤ 9) && (decide (h.t1.length ≤ 9) && decide (h.t2.length ≤ 9))) = true
  · rw [hs] at k15
    simp only [Bool.and_eq_true, decide_eq_true_eq] at hs
    obtain ⟨s0, s1, s2⟩ := hs
    by_cases h40 : 40 < x.kind.length
    · have h40' : (40 : Int) < x.kind.length := by omega
      obtain ⟨t, k, m, p, q, r⟩ := x
      simp only [ha, csl] at k15 ⊢
      generalize cI h.t0 = A0 at *
      generalize cI h.t1 = A1 at *
      generalize cI h.t2 = A2 at *
      simp -implicitDefEqProofs [c14, k15, ka, h40']
    · have h40' : ¬ (40 : Int) < x.kind.length := by omega
      have g0 : h.t0.length < 1000000 := by omega
      have g1 : h.t1.length < 1000000 := by omega
      have g2 : h.t2.length < 1000000 := by omega
      have k19 := own19 (n := 60) (by omega) h g0 g1 g2
      have k72 := wait72 (n := 60) (by omega) h g0 g1 g2 a b c
      have k65 := hall65 (n := 60) (by omega) h g0 g1 g2
      have k79 := values79 (n := 60) (by omega) a b c
      have k23 := first23_2 (n := 60) (by omega) (hallE h) (valE a b c)
      have k81 := hall81 (n := 60) (by omega) h g0 g1 g2
      have k80 := wait80 (n := 60) (by omega) h g0 g1 g2 a b c
      have k82 := check82 (n := 60) (by omega) h g0 g1 g2 x
      have k25 := fun hz : hallE h = 0 => check25 (n := 60) (by omega) h (doors_of hz).1 (doors_of hz).2 x
      have hw := fun hz => wait_same h hz a b c
      have hw0 : firstE [hallE h, valE a b c] = 0 → hallE h = 0 := fun hz => firstE_zero.1 hz _ (by simp)
      generalize waitP h a b c = W at *
      generalize waitR h a b c = W' at *
      generalize actE h x = E at *
      by_cases hz : hallE h = 0
      · have k25 := k25 hz
        have hw := hw hz
        subst hw
        rw [if_pos hz] at k82
        rw [hz] at k65 k81 k23 k72
        generalize firstE [0, valE a b c] = f at *
        generalize valE a b c = v at *
        obtain ⟨t, k, m, p, q, r⟩ := x
        simp only [ha, csl, aa] at *
        generalize cI h.t0 = A0 at *
        generalize cI h.t1 = A1 at *
        generalize cI h.t2 = A2 at *
        by_cases hf : f = 0
        · subst hf
          rw [if_pos rfl] at k72
          simp -implicitDefEqProofs [c14, k15, ka, h40', k19, k72, k65, k79, k23, k81, k80, k82, k25]
        · rw [if_neg hf] at k72
          simp -implicitDefEqProofs [c14, k15, ka, h40', k19, k72, k65, k79, k23, k81, k82, k25, hf]
      · have hf : ¬ firstE [hallE h, valE a b c] = 0 := fun h => hz (hw0 h)
        rw [if_neg hz] at k82
        rw [if_neg hf] at k72
        generalize firstE [hallE h, valE a b c] = f at *
        generalize valE a b c = v at *
        generalize hallE h = e at *
        obtain ⟨t, k, m, p, q, r⟩ := x
        simp only [ha, csl, aa] at *
        generalize cI h.t0 = A0 at *
        generalize cI h.t1 = A1 at *
        generalize cI h.t2 = A2 at *
        simp -implicitDefEqProofs [c14, k15, ka, h40', k19, k72, k65, k79, k23, k81, k82, hf, hz]
  · rw [Bool.not_eq_true] at hs
    rw [hs] at k15
    obtain ⟨t, k, m, p, q, r⟩ := x
    simp only [ha, csl] at k15 ⊢
    generalize cI h.t0 = A0 at *
    generalize cI h.t1 = A1 at *
    generalize cI h.t2 = A2 at *
    simp -implicitDefEqProofs [c14, k15, ka]
end Fw
