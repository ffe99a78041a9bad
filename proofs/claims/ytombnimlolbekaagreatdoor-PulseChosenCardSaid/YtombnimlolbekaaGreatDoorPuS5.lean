/- Several texts in one: steps of the proof, no condition of their own. -/
import Derived.Test.YtombnimlolbekaaGreatDoorPuL5
attribute [local irreducible] Fw.evCode Fw.evOps Fw.evOpsD Fw.evOper Fw.evOperD Fw.evOp Fw.evFn Fw.loopN Fw.T.All Fw.T.bind Fw.callPure Fw.callOp Fw.opsK Fw.opsDK Fw.restK Fw.seqK Fw.blockK Fw.loopS Fw.setK Fw.setQ Fw.giveK Fw.scalK Fw.gcK Fw.finish Fw.finS Fw.rfunK Fw.yldK Fw.yldB Fw.loopK
section
set_option maxHeartbeats 8000000
namespace Fw
open Go

def apartB (l : List (Int × Int)) (i : Nat) : Bool := if i = 0 then (l.getD 0 (0, 0)).1 != 0 else decide ((l.getD i (0, 0)).1 ≤ (l.getD (i - 1) (0, 0)).1)
def stepE (l : List (Int × Int)) (i : Nat) : Int := firstE [rangeE 0 64 (l.getD i (0, 0)).1, rangeE 0 100 (l.getD i (0, 0)).2, whenE (apartB l i) 11]
def stepsE (l : List (Int × Int)) : Int := firstE ((List.range l.length).map (stepE l))
def settingE (l : List (Int × Int)) : Int := if sizedE l.length 12 = 0 then stepsE l else sizedE l.length 12

theorem setting28 {n : Nat} (hn : 3 ≤ n) (l : List (Int × Int)) (hl : l.length < 1000000) : RUN n 28 [csl l] = .ret (iv (settingE l)) := by
 obtain ⟨d, rfl⟩ : ∃ d, n = d + 3 := ⟨n - 3, by omega⟩
 rw [RUN, call_eq fe28 _ rfl]
 let inv : Nat → St := fun i => ⟨[(0, csl l), (14, csl l), (15, iv l.length), (16, iv i)], []⟩
 let sto : Nat → Sto := fun i => [(0, .arr [.int .i64 (l.getD i (0, 0)).1, .int .i64 (l.getD i (0, 0)).2] 0 1)]
 have hs := sized106 (n := d + 2) (by omega) l.length 12
 have hc : settingE l = if sizedE l.length 12 = 0 then stepsE l else sizedE l.length 12 := rfl
 rw [hc]
 by_cases hz : sizedE l.length 12 = 0
 ·rw [if_pos hz]
  simp -implicitDefEqProofs [c28, hs, hz]
  have key := loop_first (step := loopS (evFn F C0 G0 (d + 2)) C0 G0 0 true [0, 14, 15, 16] c28L0) inv (stepE l) l.length (.exit 0, ⟨(inv l.length).env ++ [(17, .p (.bool false))], []⟩) (fun i => (.ret, ⟨[(2, iv (stepE l i))], sto i⟩))
   (st0 := ⟨[(0, csl l), (14, csl l), (15, iv l.length), (16, iv 0)], []⟩) rfl ?_ (fun i => by simp) (by simp [inv, loopS_eq, c28L0]) (by simp) (fuel := loopFuel) (by simp [loopFuel]; omega)
  ·rcases key with ⟨k1, k2⟩ | ⟨j, hj, k1, k2, k3, _⟩
   ·rw [k1, stepsE, k2]
    simp -implicitDefEqProofs [inv]
   ·rw [k1, stepsE, k2]
    simp -implicitDefEqProofs [sto]
  ·intro i hi
   have hx := cI_drop l i hi
   have hlt : i * 2 < l.length * 2 := by omega
   have hlt' : (i : Int) < l.length := by omega
   have hgi : l.getD i (0, 0) = l[i] := by simp [List.getD_eq_getElem?_getD, List.getElem?_eq_getElem hi]
   have h1 := within95 (n := d + 2) (by omega) l[i].1 0 64
   have h2 := within95 (n := d + 2) (by omega) l[i].2 0 100
   have h3 := when107 (n := d + 2) (by omega) (apartB l i) 11
   have h4 := first92_3 (n := d + 2) (by omega) (rangeE 0 64 l[i].1) (rangeE 0 100 l[i].2) (whenE (apartB l i) 11)
   have he : stepE l i = firstE [rangeE 0 64 l[i].1, rangeE 0 100 l[i].2, whenE (apartB l i) 11] := by rw [stepE, hgi]
   rw [← he] at h4
   by_cases hi0 : i = 0
   ·subst hi0
    have ha : apartB l 0 = (l[0].1 != 0) := by simp only [apartB, hgi, if_true]
    have w1 : IntKind.i64.wrap 1 = 1 := rfl
    generalize hap : (l[0].1 != 0) = b at *
    rw [ha] at h3 h4
    refine ⟨fun hz => ⟨⟨(inv 1).env, sto 0⟩, ?_, loopS_same rfl (by simp [inv, sto])⟩, fun hz => ?_⟩
    ·cases b <;> simp -implicitDefEqProofs [inv, sto, loopS_eq, c28L0, hi, hx, hlt, hap, h1, h2, h3, h4, hz, w1]
    ·cases b <;> simp -implicitDefEqProofs [inv, sto, loopS_eq, c28L0, hi, hx, hlt, hap, h1, h2, h3, h4, hz]
   ·have hj : i - 1 < l.length := by omega
    have hxj := cI_drop l (i - 1) hj
    have hgj : l.getD (i - 1) (0, 0) = l[i - 1] := by simp [List.getD_eq_getElem?_getD, List.getElem?_eq_getElem hj]
    have ha : apartB l i = decide (l[i].1 ≤ l[i - 1].1) := by simp only [apartB, hgi, hgj, hi0, if_false]
    have hi1 : 0 < i := by omega
    have hz0 : ((i : Int) == 0) = false := by simp; omega
    have hmx : maxInt 1 [iv i] = some (i : Int) := by
     simp only [maxInt]
     congr 1
     split <;> omega
    have w1 := wrap64 (n := (i : Int) - 1) (by omega) (by omega)
    have t1 : ((i : Int) - 1).toNat = i - 1 := by omega
    have hl1 : (i - 1) * 2 < l.length * 2 := by omega
    have b1 : (1 : Int) ≤ (i : Int) := by omega
    have b2 : (i : Int) - 1 < l.length := by omega
    generalize hap : decide (l[i].1 ≤ l[i - 1].1) = b at *
    rw [ha] at h3 h4
    refine ⟨fun hz => ⟨⟨(inv (i + 1)).env, sto i⟩, ?_, loopS_same rfl (by simp [inv, sto])⟩, fun hz => ?_⟩
    ·cases b <;> simp -implicitDefEqProofs [inv, sto, loopS_eq, c28L0, hi, hx, hxj, hlt, hlt', hap, h1, h2, h3, h4, hz, hz0, hi1, hmx, w1, t1, hl1, b1, b2, wrap_succ (i := i) (by omega)]
    ·cases b <;> simp -implicitDefEqProofs [inv, sto, loopS_eq, c28L0, hi, hx, hxj, hlt, hlt', hap, h1, h2, h3, h4, hz, hz0, hi1, hmx, w1, t1, hl1, b1, b2]
 ·rw [if_neg hz]
  simp -implicitDefEqProofs [c28, hs, hz]

/-! the reference -/

theorem setting19 {n : Nat} (hn : 3 ≤ n) (l : List (Int × Int)) (hl : l.length < 1000000) : RUN n 19 [csl l] = .ret (iv (settingE l)) := by
 obtain ⟨d, rfl⟩ : ∃ d, n = d + 3 := ⟨n - 3, by omega⟩
 rw [RUN, call_eq fe19 _ rfl]
 let inv : Nat → St := fun i => ⟨[(0, csl l), (4, iv i)], []⟩
 have hs : firstE [whenE ((l.length : Int) == 0) 12, whenE (decide ((12 : Int) < l.length)) 5] = sizedE l.length 12 := rfl
 have hc : settingE l = if sizedE l.length 12 = 0 then stepsE l else sizedE l.length 12 := rfl
 rw [hc]
 by_cases hz : sizedE l.length 12 = 0
 ·rw [if_pos hz]
  simp -implicitDefEqProofs [c19, when46 (n := d + 2), first100_2 (n := d + 2), hs, hz]
  have key := loop_first (step := loopS (evFn F C0 G0 (d + 2)) C0 G0 0 false [0, 4] c19L0) inv (stepE l) l.length (.exit 0, ⟨(inv l.length).env ++ [(22, .p (.bool false))], []⟩) (fun i => (.ret, ⟨[(2, iv (stepE l i))], []⟩))
   (st0 := ⟨[(0, csl l), (4, iv 0)], []⟩) rfl ?_ (fun i => by simp) (by simp [inv, loopS_eq, c19L0]) (by simp) (fuel := loopFuel) (by simp [loopFuel]; omega)
  ·rcases key with ⟨k1, k2⟩ | ⟨j, hj, k1, k2, k3, _⟩
   ·rw [k1, stepsE, k2]
    simp -implicitDefEqProofs [inv]
   ·rw [k1, stepsE, k2]
    simp -implicitDefEqProofs
  ·intro i hi
   have hx := cI_drop l i hi
   have hlt : i * 2 < l.length * 2 := by omega
   have hlt' : (i : Int) < l.length := by omega
   have hgi : l.getD i (0, 0) = l[i] := by simp [List.getD_eq_getElem?_getD, List.getElem?_eq_getElem hi]
   have h1 := range101 (n := d + 2) (by omega) l[i].1 0 64
   have h2 := range101 (n := d + 2) (by omega) l[i].2 0 100
   have h3 := when46 (n := d + 2) (by omega) (apartB l i) 11
   have h4 := first100_3 (n := d + 2) (by omega) (rangeE 0 64 l[i].1) (rangeE 0 100 l[i].2) (whenE (apartB l i) 11)
   have he : stepE l i = firstE [rangeE 0 64 l[i].1, rangeE 0 100 l[i].2, whenE (apartB l i) 11] := by rw [stepE, hgi]
   rw [← he] at h4
   by_cases hi0 : i = 0
   ·subst hi0
    have ha : apartB l 0 = (l[0].1 != 0) := by simp only [apartB, hgi, if_true]
    have w1 : IntKind.i64.wrap 1 = 1 := rfl
    generalize hap : (l[0].1 != 0) = b at *
    rw [ha] at h3 h4
    refine ⟨fun hz => ⟨inv 1, ?_, rfl⟩, fun hz => ?_⟩
    ·cases b <;> simp -implicitDefEqProofs [inv, loopS_eq, c19L0, hi, hx, hlt, hap, h1, h2, h3, h4, hz, w1]
    ·cases b <;> simp -implicitDefEqProofs [inv, loopS_eq, c19L0, hi, hx, hlt, hap, h1, h2, h3, h4, hz]
   ·have hj : i - 1 < l.length := by omega
    have hxj := cI_drop l (i - 1) hj
    have hgj : l.getD (i - 1) (0, 0) = l[i - 1] := by simp [List.getD_eq_getElem?_getD, List.getElem?_eq_getElem hj]
    have ha : apartB l i = decide (l[i].1 ≤ l[i - 1].1) := by simp only [apartB, hgi, hgj, hi0, if_false]
    have hi1 : 0 < i := by omega
    have hz0 : ((i : Int) == 0) = false := by simp; omega
    have hmx : maxInt 0 [iv ((i : Int) - 1)] = some ((i : Int) - 1) := by
     simp only [maxInt]
     congr 1
     split <;> omega
    have w1 := wrap64 (n := (i : Int) - 1) (by omega) (by omega)
    have t1 : ((i : Int) - 1).toNat = i - 1 := by omega
    have hl1 : (i - 1) * 2 < l.length * 2 := by omega
    have b1 : (1 : Int) ≤ (i : Int) := by omega
    have b2 : (i : Int) - 1 < l.length := by omega
    generalize hap : decide (l[i].1 ≤ l[i - 1].1) = b at *
    rw [ha] at h3 h4
    refine ⟨fun hz => ⟨inv (i + 1), ?_, rfl⟩, fun hz => ?_⟩
    ·cases b <;> simp -implicitDefEqProofs [inv, loopS_eq, c19L0, hx, hxj, hlt, hlt', hap, h1, h2, h3, h4, hz, hz0, hi1, hmx, w1, t1, hl1, b1, b2, wrap_succ (i := i) (by omega)]
    ·cases b <;> simp -implicitDefEqProofs [inv, loopS_eq, c19L0, hx, hxj, hlt, hlt', hap, h1, h2, h3, h4, hz, hz0, hi1, hmx, w1, t1, hl1, b1, b2]
 ·rw [if_neg hz]
  simp -implicitDefEqProofs [c19, when46 (n := d + 2), first100_2 (n := d + 2), hs, hz]

/-! sleds: the interval of gains, the lag, the delay, the load -/

structure SledI where
 low : Int
 high : Int
 lag : Int
 delay : Int
 load : Int

abbrev sla (s : SledI) : AVal := .agg [iv s.low, iv s.high, iv s.lag, iv s.delay, iv s.load]
end Fw
end

section
set_option maxHeartbeats 8000000
namespace Fw
open Go

def accF (l : List (Int × Int)) (i : Nat) : Int := if i = 0 then 0 else (l.getD (i - 1) (0, 0)).2
def valveP (l : List (Int × Int)) (tick : Int) : Int := accF l (l.takeWhile fun x => decide (x.1 ≤ tick)).length

structure Valid (l : List (Int × Int)) : Prop where
 pos : 0 < l.length
 small : l.length ≤ 12
 zero : (l.getD 0 (0, 0)).1 = 0
 val : ∀ i, i < l.length → 0 ≤ (l.getD i (0, 0)).2 ∧ (l.getD i (0, 0)).2 ≤ 100 ∧ 0 ≤ (l.getD i (0, 0)).1 ∧ (l.getD i (0, 0)).1 ≤ 64
 inc : ∀ i, 0 < i → i < l.length → (l.getD (i - 1) (0, 0)).1 < (l.getD i (0, 0)).1

theorem valid_of {l : List (Int × Int)} (h : settingE l = 0) : Valid l := by
 unfold settingE at h
 split at h
 ·rename_i hs
  obtain ⟨h1, h2⟩ := sizedE_zero.1 hs
  have hx : ∀ i, i < l.length → rangeE 0 64 (l.getD i (0, 0)).1 = 0 ∧ rangeE 0 100 (l.getD i (0, 0)).2 = 0 ∧ whenE (apartB l i) 11 = 0 := fun i hi => by
   have := firstE_zero.1 h (stepE l i) (List.mem_map.2 ⟨i, by simpa using hi, rfl⟩)
   have h3 := firstE_zero.1 this
   exact ⟨h3 _ (by simp), h3 _ (by simp), h3 _ (by simp)⟩
  have hp : 0 < l.length := by omega
  refine ⟨hp, by omega, ?_, fun i hi => ?_, fun i h0 hi => ?_⟩
  ·have := (whenE_zero (by decide)).1 (hx 0 hp).2.2
   simpa [apartB] using this
  ·obtain ⟨a, b, _⟩ := hx i hi
   have := rangeE_zero.1 a
   have := rangeE_zero.1 b
   omega
  ·have := (whenE_zero (by decide)).1 (hx i hi).2.2
   simp only [apartB, if_neg (show ¬ i = 0 by omega), decide_eq_false_iff_not] at this
   omega
 ·rename_i hs; exact absurd h hs

theorem Valid.mono {l : List (Int × Int)} (h : Valid l) : ∀ (j i : Nat), i ≤ j → j < l.length → (l.getD i (0, 0)).1 ≤ (l.getD j (0, 0)).1 := by
 intro j
 induction j with
 | zero => intro i hi _; rw [show i = 0 by omega]; exact Int.le_refl _
 | succ j ih =>
  intro i hi hj
  by_cases he : i = j + 1
  ·subst he; exact Int.le_refl _
  ·have h1 := ih i (by omega) (by omega)
   have h2 := h.inc (j + 1) (by omega) hj
   rw [Nat.add_sub_cancel] at h2
   omega

theorem cI_append (a b : List (Int × Int)) : cI (a ++ b) = cI a ++ cI b := by
 induction a with
 | nil => rfl
 | cons x r ih => simp [cI, ih]
theorem cI_snoc (l : List (Int × Int)) (x : Int × Int) : cI l ++ [.int .i64 x.1, .int .i64 x.2] = cI (l ++ [x]) := by rw [cI_append]; rfl

end Fw
end

section
set_option maxHeartbeats 8000000
namespace Fw
open Go

/-! quotients, rounded down -/

theorem tdiv_down (n den : Int) (hd : 0 < den) : n / den = if n < n.tdiv den * den then n.tdiv den - 1 else n.tdiv den := by
 have h1 := Int.mul_tdiv_add_tmod n den
 have h2 : n.tmod den < den := Int.tmod_lt_of_pos n hd
 have h3 : -den < n.tmod den := Int.lt_tmod_of_pos n hd
 rw [Int.mul_comm] at h1
 split
 ·have : n / den = n.tdiv den - 1 ∧ n % den = n.tmod den + den := by
   rw [Int.ediv_emod_unique hd]
   refine ⟨?_, by omega, by omega⟩
   rw [Int.mul_sub, Int.mul_comm]; omega
  exact this.1
 ·have : n / den = n.tdiv den ∧ n % den = n.tmod den := by
   rw [Int.ediv_emod_unique hd]
   refine ⟨?_, by omega, h2⟩
   rw [Int.mul_comm]; omega
  exact this.1

theorem tdiv_small (n den : Int) (_hd : 0 < den) (b : Int) (h1 : -b ≤ n) (h2 : n ≤ b) : -b ≤ n.tdiv den ∧ n.tdiv den ≤ b ∧ -(2 * b) ≤ n.tdiv den * den ∧ n.tdiv den * den ≤ 2 * b := by
 have h := Int.natAbs_tdiv_le_natAbs n den
 have h3 := Int.mul_tdiv_add_tmod n den
 have h4 : (n.tmod den).natAbs ≤ n.natAbs := by
  rw [Int.natAbs_tmod]
  exact Nat.mod_le _ _
 rw [Int.mul_comm] at h3
 omega

theorem floor122 {n : Nat} (hn : 1 ≤ n) (x den : Int) (hd : 0 < den) (h1 : -1000000000000 ≤ x) (h2 : x ≤ 1000000000000) : RUN n 122 [iv x, iv den] = .ret (iv (x / den)) := by
 obtain ⟨d, rfl⟩ : ∃ d, n = d + 1 := ⟨n - 1, by omega⟩
 rw [RUN, call_eq fe122 _ rfl, tdiv_down x den hd]
 obtain ⟨b1, b2, b3, b4⟩ := tdiv_small x den hd _ h1 h2
 have w1 := wrap64 (n := x.tdiv den) (by omega) (by omega)
 have w2 := wrap64 (n := x.tdiv den - 1) (by omega) (by omega)
 have w3 := wrap64 (n := x.tdiv den * den) (by omega) (by omega)
 have hz : den ≠ 0 := by omega
 by_cases h : x < x.tdiv den * den <;> simp -implicitDefEqProofs [c122, hz, h, w1, w2, w3]
/-! runs -/

def wishF (s : SledI) (l : List (Int × Int)) (g : Int) (i : Nat) : Int := (g * valveP l (max 0 ((i : Int) - s.delay))) / 100
def runF (s : SledI) (l : List (Int × Int)) (g : Int) : Nat → Int
 | 0 => 0
 | i + 1 => runF s l g i + (wishF s l g i - runF s l g i) / s.lag
theorem div_between {x d : Int} (hd : 1 ≤ d) : (0 ≤ x → 0 ≤ x / d ∧ x / d ≤ x) ∧ (x ≤ 0 → x ≤ x / d ∧ x / d ≤ 0) := by
 have h1 := Int.mul_ediv_add_emod x d
 have h2 := Int.emod_nonneg x (show d ≠ 0 by omega)
 have h3 := Int.emod_lt_of_pos x (show 0 < d by omega)
 constructor
 ·intro hx
  have h4 : 0 ≤ x / d := Int.ediv_nonneg hx (by omega)
  refine ⟨h4, ?_⟩
  have : x / d ≤ d * (x / d) := by
   have := Int.mul_le_mul_of_nonneg_right hd h4
   rwa [Int.one_mul] at this
  omega
 ·intro hx
  have h4 : x / d ≤ 0 := by
   refine Classical.byContradiction (fun hc => ?_)
   have : d * 1 ≤ d * (x / d) := Int.mul_le_mul_of_nonneg_left (by omega) (by omega)
   omega
  refine ⟨?_, h4⟩
  refine Classical.byContradiction (fun hc => ?_)
  have h5 : x / d ≤ x - 1 := by omega
  have h6 : d * (x / d) ≤ d * (x - 1) := Int.mul_le_mul_of_nonneg_left h5 (by omega)
  have h7 : d * x ≤ 1 * x := Int.mul_le_mul_of_nonpos_right hd hx
  rw [Int.mul_sub, Int.mul_one] at h6
  omega

end Fw
end

section
set_option maxHeartbeats 8000000
namespace Fw
open Go

structure SledOk (s : SledI) : Prop where
 low : 1 ≤ s.low ∧ s.low ≤ 10000
 high : 1 ≤ s.high ∧ s.high ≤ 10000
 le : s.low ≤ s.high
 lag : 1 ≤ s.lag ∧ s.lag ≤ 16
 delay : 0 ≤ s.delay ∧ s.delay ≤ 8
 load : 1 ≤ s.load ∧ s.load ≤ 10000

structure RunFacts (s : SledI) (l : List (Int × Int)) (g : Int) (i : Nat) : Prop where
 w1 : IntKind.i64.wrap ((i : Int) - s.delay) = (i : Int) - s.delay
 mx : maxInt 0 [iv ((i : Int) - s.delay)] = some (max 0 ((i : Int) - s.delay))
 w2 : IntKind.i64.wrap (g * valveP l (max 0 ((i : Int) - s.delay))) = g * valveP l (max 0 ((i : Int) - s.delay))
 q : (g * valveP l (max 0 ((i : Int) - s.delay))).tdiv 100 = wishF s l g i
 w3 : IntKind.i64.wrap (wishF s l g i) = wishF s l g i
 w4 : IntKind.i64.wrap (wishF s l g i - runF s l g i) = wishF s l g i - runF s l g i
 b1 : -1000000000000 ≤ wishF s l g i - runF s l g i
 b2 : wishF s l g i - runF s l g i ≤ 1000000000000
 r : runF s l g i + (wishF s l g i - runF s l g i) / s.lag = runF s l g (i + 1)
 w5 : IntKind.i64.wrap (runF s l g (i + 1)) = runF s l g (i + 1)

end Fw
end

section
set_option maxHeartbeats 8000000
namespace Fw
open Go


/-! is there one of which something holds? -/

theorem index150 {d : Nat} (c : List (Int × Int)) (f : Nat) (caps : List PVal) (g : Int × Int → Bool) (hn : ∀ p ∈ caps, nrm p = p) (hl : c.length < 1000000) (hf : ∀ x ∈ c, RUN d f (.agg [iv x.1, iv x.2] :: caps.map .p) = .ret (.p (.bool (g x)))) :
  ∃ r : Int, RUN (d + 1) 150 [csl c, .p (.clo f [] caps)] = .ret (iv r) ∧ (0 ≤ r ↔ c.any g = true) := by
 rw [RUN, call_eq fe150 _ rfl]
 generalize hB : c.any g = B
 let inv : Nat → St := fun i => ⟨[(0, csl c), (1, .p (.clo f [] caps)), (7, iv c.length), (8, iv i)], []⟩
 let e : Nat → Int := fun i => if g (c.getD i (0, 0)) then 1 else 0
 simp -implicitDefEqProofs [c150]
 have key := loop_first (step := loopS (evFn F C0 G0 d) C0 G0 0 true [0, 1, 7, 8] c150L0) inv e c.length (.exit 0, ⟨(inv c.length).env ++ [(9, .p (.bool false))], []⟩) (fun i => (.ret, ⟨[(4, iv i)], []⟩))
  (st0 := ⟨[(0, csl c), (1, .p (.clo f [] caps)), (7, iv c.length), (8, iv 0)], []⟩) rfl ?_ (fun i => by simp) (by simp [inv, loopS_eq, c150L0]) (by simp) (fuel := loopFuel) (by simp [loopFuel]; omega)
 ·rcases key with ⟨k1, k2⟩ | ⟨j, hj, k1, k2, k3, k4⟩
  ·refine ⟨-1, ?_, ?_⟩
   ·rw [k1]
    simp -implicitDefEqProofs [inv]
   ·have : c.any g = false := by
     rw [List.any_eq_false]
     intro x hx
     obtain ⟨i, hi, rfl⟩ := List.getElem_of_mem hx
     have h1 := firstE_zero.1 k2 (e i) (List.mem_map.2 ⟨i, by simpa using hi, rfl⟩)
     have h2 : c.getD i (0, 0) = c[i] := by simp [List.getD_eq_getElem?_getD, List.getElem?_eq_getElem hi]
     simp only [e, h2] at h1
     intro hg
     rw [if_pos hg] at h1
     omega
    rw [hB] at this; subst this; simp
  ·refine ⟨j, ?_, ?_⟩
   ·rw [k1]
    simp -implicitDefEqProofs
   ·have h2 : c.getD j (0, 0) = c[j] := by simp [List.getD_eq_getElem?_getD, List.getElem?_eq_getElem hj]
    have : c.any g = true := by
     rw [List.any_eq_true]
     refine ⟨c[j], List.getElem_mem hj, ?_⟩
     refine Classical.byContradiction (fun hc => k3 ?_)
     simp only [e, h2]
     rw [if_neg hc]
    rw [hB] at this; subst this; simp
 ·intro i hi
  have hx := cI_drop c i hi
  have hlt : i * 2 < c.length * 2 := by omega
  have hlt' : (i : Int) < c.length := by omega
  have hgi : c.getD i (0, 0) = c[i] := by simp [List.getD_eq_getElem?_getD, List.getElem?_eq_getElem hi]
  have h1 := hf c[i] (List.getElem_mem hi)
  refine ⟨fun hz => ⟨inv (i + 1), ?_, rfl⟩, fun hz => ?_⟩
  ·have hg : g c[i] = false := by
    refine Bool.eq_false_iff.2 (fun hc => ?_)
    simp only [e, hgi, hc, if_true] at hz
    omega
   rw [hg] at h1
   simp -implicitDefEqProofs [inv, loopS_eq, c150L0, hx, hlt, hlt', h1, Function.comp_def, nrm_list hn, wrap_succ (i := i) (by omega)]
  ·have hg : g c[i] = true := by
    refine Classical.byContradiction (fun hc => hz ?_)
    simp only [e, hgi]
    rw [if_neg hc]
   rw [hg] at h1
   simp -implicitDefEqProofs [inv, loopS_eq, c150L0, hx, hlt, hlt', h1, Function.comp_def, nrm_list hn]

theorem contains98 {d : Nat} (c : List (Int × Int)) (f : Nat) (caps : List PVal) (g : Int × Int → Bool) (hn : ∀ p ∈ caps, nrm p = p) (hl : c.length < 1000000) (hf : ∀ x ∈ c, RUN d f (.agg [iv x.1, iv x.2] :: caps.map .p) = .ret (.p (.bool (g x)))) :
  RUN (d + 2) 98 [csl c, .p (.clo f [] caps)] = .ret (.p (.bool (c.any g))) := by
 obtain ⟨r, h1, h2⟩ := index150 c f caps g hn hl hf
 rw [RUN, call_eq fe98 _ rfl]
 have h3 : decide (0 ≤ r) = c.any g := by rw [Bool.eq_iff_iff]; simpa using h2
 simp -implicitDefEqProofs [c98, h1, h3]

abbrev slc (s : SledI) : List PVal := [.int .i64 s.low, .int .i64 s.high, .int .i64 s.lag, .int .i64 s.delay, .int .i64 s.load]

end Fw
end

