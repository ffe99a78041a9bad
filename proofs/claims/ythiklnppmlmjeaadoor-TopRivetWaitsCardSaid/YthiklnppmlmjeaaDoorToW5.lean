/- Several texts in one: steps of the proof, no condition of their own. -/
import Derived.Test.YthiklnppmlmjeaaDoorToW3
attribute [local irreducible] Fw.evCode Fw.evOps Fw.evOpsD Fw.evOper Fw.evOperD Fw.evOp Fw.evFn Fw.loopN Fw.T.All Fw.T.bind Fw.callPure Fw.callOp Fw.opsK Fw.opsDK Fw.restK Fw.seqK Fw.blockK Fw.loopS Fw.setK Fw.setQ Fw.giveK Fw.scalK Fw.gcK Fw.finish Fw.finS Fw.rfunK Fw.yldK Fw.yldB Fw.loopK
section
set_option maxHeartbeats 16000000
set_option maxRecDepth 8000
namespace Fw
open Go

theorem try_loop {h : HallI} (hz : hallE h = 0) (g0 : h.t0.length < 1000000) (g1 : h.t1.length < 1000000) (g2 : h.t2.length < 1000000) (X : List AVal) (sl : List PVal) {n a b c : Int} (hn : 1 ≤ n ∧ n ≤ 64) (hv : valE a b c = 0) {m : Int} (hm : m = max (5 + h.base) (5 + n + waitP h a b c)) (hmb : m ≤ 100000000) (la wa : Int) (G : AVal) (i : Nat) :
  loopN (loopS (evFn F C0 G0 60) C0 G0 0 false [2, 3, 5, 10, 11, 18, 22, 111, 112, 197, 198] c3L0) loopFuel ⟨W0 n la wa m G i 0, wO h X a b c sl⟩ = .ret (.exit 2, ⟨W0 n la wa m G i 2 ++ [(199, .p (.bool false))], wO h X a b c sl⟩) := by
 refine loop_run' (fun j => ⟨W0 n la wa m G i j, wO h X a b c sl⟩) 2 (by simp) rfl (fun j hj => try_round hz g0 g1 g2 X sl hn hv hm hmb la wa G i j hj) ?_ (by simp [loopFuel])
 simp -implicitDefEqProofs [W0, wO, loopS_eq, c3L0]

abbrev wX (s : SledI) (st : List (Int × Int)) (t u v : Int) : List AVal := [iv s.low, iv s.high, iv s.lag, iv s.delay, iv s.load, csl st, .p (.int .u8 t), .p (.int .u16 u), .p (.int .u16 v)]
def mL (s : SledI) (st : List (Int × Int)) (n : Nat) (G : Nat → Int) : Nat → Int
 | 0 => 0
 | i + 1 => mosF (runL s st (G i) n) n
def wL (h : HallI) (s : SledI) (st : List (Int × Int)) (n : Nat) (G : Nat → Int) : Nat → Int
 | 0 => 0
 | i + 1 => waitP h (mosF (runL s st (G i) n) n) (sumM (runL s st (G i) n)) n
def W1 (h : HallI) (s : SledI) (st : List (Int × Int)) (n : Nat) (G : Nat → Int) (i : Nat) : Env := [(2, .ptr 0 0 0), (3, .ptr 1 0 0), (5, iv n), (10, iv (mL s st n G i)), (11, iv (wL h s st n G i)), (111, .agg [iv (G 0), iv (G 1), iv (G 2), iv (G 3)]), (112, iv i)]

theorem gain_round {h : HallI} (hz : hallE h = 0) (g0 : h.t0.length < 1000000) (g1 : h.t1.length < 1000000) (g2 : h.t2.length < 1000000) {s : SledI} (hs : sledE s = 0) {st : List (Int × Int)} (hst : settingE st = 0) (t u v : Int) (n : Nat) (hn : 1 ≤ n ∧ n ≤ 64) (G : Nat → Int) (hG : ∀ i, i < 4 → s.low ≤ G i ∧ G i ≤ s.high) (hm : ∀ i, i + 1 < 4 → G i ≤ G (i + 1)) (i : Nat) (hi : i < 4) :
  ∃ st1, loopS (evFn F C0 G0 60) C0 G0 0 true [2, 3, 5, 10, 11, 111, 112] c3L1 ⟨W1 h s st n G i, [(1, .box (wX s st t u v)), (0, .box [iv h.doors, iv h.base, csl h.t0, csl h.t1, csl h.t2])]⟩ = .ret (.normal, st1) ∧ loopS (evFn F C0 G0 60) C0 G0 0 true [2, 3, 5, 10, 11, 111, 112] c3L1 st1 = loopS (evFn F C0 G0 60) C0 G0 0 true [2, 3, 5, 10, 11, 111, 112] c3L1 ⟨W1 h s st n G (i + 1), [(1, .box (wX s st t u v)), (0, .box [iv h.doors, iv h.base, csl h.t0, csl h.t1, csl h.t2])]⟩ := by
 have hso := sled_of hs
 have hvo := valid_of hst
 have hlo := hso.low
 have hhi := hso.high
 have hsm := hvo.small
 obtain ⟨_, _, _, hb0, hb1, hwt⟩ := hall_ok hz g0 g1 g2
 have hGi := hG i hi
 have hlt' : (i : Int) < 4 := by omega
 have hw := wrap_succ (i := i) (by omega)
 have hgq : ∀ q, ([iv (G 0), iv (G 1), iv (G 2), iv (G 3)] : List AVal)[i]'q = iv (G i) := by
  have : i = 0 ∨ i = 1 ∨ i = 2 ∨ i = 3 := by omega
  rcases this with rfl | rfl | rfl | rfl <;> exact fun _ => rfl
 have k12 := sled12 (n := 60) (by omega) s st (by omega)
 have k13 := run13 (n := 60) (by omega) s st (G i) n (by omega)
 have hbR : badR s st (G i) n = 0 := by
  refine firstE_zero.2 fun e he => ?_
  simp only [List.mem_cons, List.not_mem_nil, or_false] at he
  rcases he with rfl | rfl | rfl | rfl
  ·exact hs
  ·exact hst
  ·exact rangeE_zero.2 hGi
  ·exact rangeE_zero.2 (by omega)
 rw [if_pos hbR, Int.toNat_natCast] at k13
 have hlen := runL_length s st (G i) n
 obtain ⟨ma, mb, mc⟩ := meas_in hso hvo (g := G i) (by omega) (by omega) n hn.2
 have hsum : ∀ k, k ≤ (runL s st (G i) n).length → 0 ≤ sumF (runL s st (G i) n) k ∧ sumF (runL s st (G i) n) k ≤ 1000000 := fun k hk => by
  have := sumF_in (p := runL s st (G i) n) (b := 10000) (fun j hj => by
   rw [hlen] at hj
   rw [runL_getD _ _ _ _ hj]
   have := runF_bound hvo (show 0 ≤ G i by omega) hso.lag.1 (j + 1)
   omega) k hk
  omega
 have k14 := measured14 (n := 60) (by omega) (runL s st (G i) n) (by omega) hsum
 have k15 := values15 (n := 60) (by omega) (mosF (runL s st (G i) n) n) (sumM (runL s st (G i) n)) n
 have k16 := wait16 (n := 60) (by omega) h g0 g1 g2 (mosF (runL s st (G i) n) n) (sumM (runL s st (G i) n)) n
 have k17 := own17 (n := 60) (by omega) h g0 g1 g2
 have hv : valE (mosF (runL s st (G i) n) n) (sumM (runL s st (G i) n)) n = 0 := valE_ok (by omega) (by omega) (by omega)
 have k18 := shot18 (n := 60) (by omega) (5 + n) (mosF (runL s st (G i) n) n) (sumM (runL s st (G i) n)) n
 have k19 := admitted19 (n := 60) (by omega) h g0 g1 g2 (shotL (5 + n) (mosF (runL s st (G i) n) n) (sumM (runL s st (G i) n)) n) (by simp)
 obtain ⟨c5, l5⟩ := chkW hz (t := 5 + n) (a := mosF (runL s st (G i) n) n) (b := sumM (runL s st (G i) n)) (c := n) (by omega) hv
 rw [c5, if_pos rfl, l5] at k19
 have ef : firstE [(0 : Int), 0] = 0 := rfl
 rw [hz, hv, ef, if_pos rfl] at k16
 rw [hv] at k15
 rw [hlen] at k14
 have hwt := hwt (mosF (runL s st (G i) n) n) (sumM (runL s st (G i) n)) n
 have hmono : 0 < i → ¬ waitP h (mosF (runL s st (G i) n) n) (sumM (runL s st (G i) n)) n < wL h s st n G i ∧ ¬ mosF (runL s st (G i) n) n < mL s st n G i := fun h0 => by
  obtain ⟨j, rfl⟩ : ∃ j, i = j + 1 := ⟨i - 1, by omega⟩
  have hj := hG j (by omega)
  obtain ⟨q1, q2⟩ := meas_mono hso hvo (show 0 ≤ G j by omega) (hm j (by omega)) n
  have := waitP_mono h q1 q2 (Int.le_refl (n : Int))
  simp only [mL, wL]
  omega
 have e1 : mL s st n G (i + 1) = mosF (runL s st (G i) n) n := rfl
 have e2 : wL h s st n G (i + 1) = waitP h (mosF (runL s st (G i) n) n) (sumM (runL s st (G i) n)) n := rfl
 have kT := try_loop hz g0 g1 g2 (wX s st t u v) [.int .i64 s.low, .int .i64 s.high, .int .i64 s.lag, .int .i64 s.delay, .int .i64 s.load] (n := n) (a := mosF (runL s st (G i) n) n) (b := sumM (runL s st (G i) n)) (c := n) (by omega) hv (m := max (5 + h.base) (5 + n + waitP h (mosF (runL s st (G i) n) n) (sumM (runL s st (G i) n)) n)) rfl (by omega)
 have adm : (sSm (5 + n) (max (5 + h.base) (5 + n + waitP h (mosF (runL s st (G i) n) n) (sumM (runL s st (G i) n)) n))).adm = max (5 + h.base) (5 + n + waitP h (mosF (runL s st (G i) n) n) (sumM (runL s st (G i) n)) n) := rfl
 rw [adm] at k19
 have z00 : ((0 : Nat) : Int) = 0 := rfl
 have p1 := wrap64 (n := 5 + (n : Int)) (by omega) (by omega)
 have p2 := wrap64 (n := 5 + h.base) (by omega) (by omega)
 have p3 := wrap64 (n := 5 + (n : Int) + waitP h (mosF (runL s st (G i) n) n) (sumM (runL s st (G i) n)) n) (by omega) (by omega)
 have hPl : (pI (runL s st (G i) n)).length = n := by simp [pI, hlen]
 simp only [isl, hlen] at k14
 simp only [W0, wO, z00] at kT
 simp only [W1, e1, e2]
 generalize waitP h (mosF (runL s st (G i) n) n) (sumM (runL s st (G i) n)) n = w at *
 generalize mosF (runL s st (G i) n) n = a at *
 generalize sumM (runL s st (G i) n) = b at *
 generalize pI (runL s st (G i) n) = P at *
 generalize mL s st n G i = la at *
 generalize wL h s st n G i = wa at *
 have mx : maxInt (5 + h.base) [iv (5 + (n : Int) + w)] = some (max (5 + h.base) (5 + n + w)) := by simp only [maxInt]; congr 1; omega
 have hl5 : (shotL (5 + n) a b n).length = 5 := rfl
 simp only [wX, ha, csl, asl, hl5] at *
 generalize rowC ac (shotL (5 + n) a b n) = R5 at *
 generalize cI h.t0 = A0 at *
 generalize cI h.t1 = A1 at *
 generalize cI h.t2 = A2 at *
 generalize cI st = CS at *
 generalize max (5 + h.base) (5 + n + w) = m at *
 by_cases h0 : 0 < i
 ·obtain ⟨n1, n2⟩ := hmono h0
  have h0i : (0 : Int) < i := by omega
  refine ⟨?_, ?h1, ?h2⟩
  case h1 =>
   simp -implicitDefEqProofs [loopS_eq, c3L1, hlt', hi, hgq, k12, k13, k14, k15, k16, k17, k18, k19, p1, p2, p3, mx, h0, n1, n2]
   rw [kT]
   simp -implicitDefEqProofs [hw]
   exact rfl
  case h2 => exact loopS_same rfl (by simp)
 ·have h0i : ¬ (0 : Int) < i := by omega
  refine ⟨?_, ?h1, ?h2⟩
  case h1 =>
   simp -implicitDefEqProofs [loopS_eq, c3L1, hlt', hi, hgq, k12, k13, k14, k15, k16, k17, k18, k19, p1, p2, p3, mx, h0]
   rw [kT]
   simp -implicitDefEqProofs [hw]
   exact rfl
  case h2 => exact loopS_same rfl (by simp)
end Fw
end

section
set_option maxHeartbeats 16000000
set_option maxRecDepth 8000
namespace Fw
open Go

def gainF (lo a b hi : Int) : Nat → Int
 | 0 => lo
 | 1 => a
 | 2 => b
 | _ => hi
theorem gain_loop {h : HallI} (hz : hallE h = 0) (g0 : h.t0.length < 1000000) (g1 : h.t1.length < 1000000) (g2 : h.t2.length < 1000000) {s : SledI} (hs : sledE s = 0) {st : List (Int × Int)} (hst : settingE st = 0) (t u v : Int) (n : Nat) (hn : 1 ≤ n ∧ n ≤ 64) (G : Nat → Int) (hG : ∀ i, i < 4 → s.low ≤ G i ∧ G i ≤ s.high) (hm : ∀ i, i + 1 < 4 → G i ≤ G (i + 1)) (cs : List PVal) :
  loopN (loopS (evFn F C0 G0 60) C0 G0 0 true [2, 3, 5, 10, 11, 111, 112] c3L1) loopFuel ⟨W1 h s st n G 0, [(2, .arr cs 0 1), (1, .box (wX s st t u v)), (0, .box [iv h.doors, iv h.base, csl h.t0, csl h.t1, csl h.t2])]⟩ = .ret (.exit 0, ⟨W1 h s st n G 4 ++ [(113, .p (.bool false))], [(1, .box (wX s st t u v)), (0, .box [iv h.doors, iv h.base, csl h.t0, csl h.t1, csl h.t2])]⟩) := by
 refine loop_run' (fun i => ⟨W1 h s st n G i, [(1, .box (wX s st t u v)), (0, .box [iv h.doors, iv h.base, csl h.t0, csl h.t1, csl h.t2])]⟩) 4 (e := .exit 0) (by simp) ?_ (fun i hi => gain_round hz g0 g1 g2 hs hst t u v n hn G hG hm i hi) ?_ (by simp [loopFuel])
 ·exact loopS_same rfl (by simp [W1])
 simp -implicitDefEqProofs [W1, loopS_eq, c3L1]

theorem waits_at (ka : RUN 60 11 [] = .ret (.p (.bool true))) (h : HallI) (s : SledI) (st : List (Int × Int)) (t u v : Nat) (ht : t ≤ 255) (hu : u ≤ 65535) (hv : v ≤ 65535) :
  RUN 61 3 [ha h, .agg (wX s st t u v)] = .ret (.p (.bool true)) := by
 rw [RUN, call_eq (d := 60) fe3 _ rfl]
 have k7 := short7 (n := 60) (by omega) h
 have k9 := sled9 (n := 60) (by omega) s
 have k10 := setting10a (n := 60) (by omega) st
 cases hB : (decide (h.t0.length ≤ 9) && (decide (h.t1.length ≤ 9) && decide (h.t2.length ≤ 9))) with
 | false =>
  rw [hB] at k7
  simp only [wX, ha, csl] at *
  generalize cI h.t0 = A0 at *
  generalize cI h.t1 = A1 at *
  generalize cI h.t2 = A2 at *
  simp -implicitDefEqProofs [c3, k7, ka]
 | true =>
  rw [hB] at k7
  simp only [Bool.and_eq_true, decide_eq_true_eq] at hB
  obtain ⟨b0, b1, b2⟩ := hB
  have k8 := hall8 (n := 60) (by omega) h (by omega) (by omega) (by omega)
  by_cases hz : hallE h = 0
  ·by_cases hs : sledE s = 0
   ·by_cases h12 : (12 : Int) < st.length
    ·rw [hz] at k8
     rw [hs] at k9
     simp only [wX, ha, csl] at *
     generalize cI h.t0 = A0 at *
     generalize cI h.t1 = A1 at *
     generalize cI h.t2 = A2 at *
     simp -implicitDefEqProofs [c3, k7, k8, k9, h12, ka]
    ·by_cases hst : settingE st = 0
     ·have hso := sled_of hs
      have hlo := hso.low
      have hhi := hso.high
      have hle := hso.le
      obtain ⟨n, hn⟩ : ∃ n : Nat, n = 1 + t % 64 := ⟨_, rfl⟩
      have hn1 : 1 ≤ n ∧ n ≤ 64 := by omega
      have q0 := wrap64 (n := (t : Int)) (by omega) (by omega)
      have q1 := wrap64 (n := (u : Int)) (by omega) (by omega)
      have q2 := wrap64 (n := (v : Int)) (by omega) (by omega)
      have t0 : (t : Int).tmod 64 = (t : Int) % 64 := Int.tmod_eq_emod_of_nonneg (by omega)
      have q3 := wrap64 (n := (t : Int) % 64) (by omega) (by omega)
      have q4 := wrap64 (n := (n : Int)) (by omega) (by omega)
      have hn2 : 1 + (t : Int) % 64 = n := by omega
      have q5 := wrap64 (n := s.high - s.low) (by omega) (by omega)
      have q6 := wrap64 (n := s.high - s.low + 1) (by omega) (by omega)
      have q7 : ¬ s.high - s.low + 1 = 0 := by omega
      have e1 := Int.emod_nonneg (u : Int) q7
      have e2 := Int.emod_lt_of_pos (u : Int) (show 0 < s.high - s.low + 1 by omega)
      have e3 := Int.emod_nonneg (v : Int) q7
      have e4 := Int.emod_lt_of_pos (v : Int) (show 0 < s.high - s.low + 1 by omega)
      have t1 : (u : Int).tmod (s.high - s.low + 1) = (u : Int) % (s.high - s.low + 1) := Int.tmod_eq_emod_of_nonneg (by omega)
      have t2 : (v : Int).tmod (s.high - s.low + 1) = (v : Int) % (s.high - s.low + 1) := Int.tmod_eq_emod_of_nonneg (by omega)
      obtain ⟨a, ha'⟩ : ∃ a, a = s.low + (u : Int) % (s.high - s.low + 1) := ⟨_, rfl⟩
      obtain ⟨b, hb'⟩ : ∃ b, b = s.low + (v : Int) % (s.high - s.low + 1) := ⟨_, rfl⟩
      have q8 := wrap64 (n := (u : Int) % (s.high - s.low + 1)) (by omega) (by omega)
      have q9 := wrap64 (n := (v : Int) % (s.high - s.low + 1)) (by omega) (by omega)
      have qa := wrap64 (n := a) (by omega) (by omega)
      have qb := wrap64 (n := b) (by omega) (by omega)
      have mn := minP2 a b
      have mx : maxInt a [iv b] = some (max a b) := by simp only [maxInt]; congr 1; omega
      have kL := gain_loop hz (by omega) (by omega) (by omega) hs hst t u v n hn1 (gainF s.low (min a b) (max a b) s.high) (fun i hi => by
       have : i = 0 ∨ i = 1 ∨ i = 2 ∨ i = 3 := by omega
       rcases this with rfl | rfl | rfl | rfl <;> simp only [gainF] <;> omega) (fun i hi => by
       have : i = 0 ∨ i = 1 ∨ i = 2 := by omega
       rcases this with rfl | rfl | rfl <;> simp only [gainF] <;> omega) [.int .i64 s.low, .int .i64 (min a b), .int .i64 (max a b), .int .i64 s.high]
      rw [hz] at k8
      rw [hs] at k9
      rw [hst] at k10
      have z00 : ((0 : Nat) : Int) = 0 := rfl
      have z1 : mL s st n (gainF s.low (min a b) (max a b) s.high) 0 = 0 := rfl
      have z2 : wL h s st n (gainF s.low (min a b) (max a b) s.high) 0 = 0 := rfl
      simp only [W1, z00, z1, z2, gainF] at kL
      simp only [wX, ha, csl] at *
      generalize cI h.t0 = A0 at *
      generalize cI h.t1 = A1 at *
      generalize cI h.t2 = A2 at *
      generalize cI st = CS at *
      simp -implicitDefEqProofs [c3, k7, k8, k9, h12, k10, q0, q1, q2, t0, q4, hn2, q5, q6, q7, t1, t2, ← ha', ← hb', qa, qb, mn, mx]
      rw [show loopN _ _ _ = _ from kL]
      simp -implicitDefEqProofs [ka]
     ·have hb : (settingE st != 0) = true := by simpa using hst
      rw [hz] at k8
      rw [hs] at k9
      simp only [wX, ha, csl] at *
      generalize cI h.t0 = A0 at *
      generalize cI h.t1 = A1 at *
      generalize cI h.t2 = A2 at *
      simp -implicitDefEqProofs [c3, k7, k8, k9, h12, k10, hb, ka]
   ·have hb : (sledE s != 0) = true := by simpa using hs
    rw [hz] at k8
    simp only [wX, ha, csl] at *
    generalize cI h.t0 = A0 at *
    generalize cI h.t1 = A1 at *
    generalize cI h.t2 = A2 at *
    simp -implicitDefEqProofs [c3, k7, k8, k9, hb, ka]
  ·have hb : (hallE h != 0) = true := by simpa using hz
   simp only [wX, ha, csl] at *
   generalize cI h.t0 = A0 at *
   generalize cI h.t1 = A1 at *
   generalize cI h.t2 = A2 at *
   simp -implicitDefEqProofs [c3, k7, k8, hb, ka]
end Fw
end

