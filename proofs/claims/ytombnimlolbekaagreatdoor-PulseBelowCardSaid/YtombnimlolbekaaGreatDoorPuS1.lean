/- Settings and sleds, checked: the pulse chapter and its reference. -/
import Derived.Test.YtombnimlolbekaaGreatDoorPuL5
set_option maxHeartbeats 8000000
namespace Fw
open Go
attribute [local irreducible] evCode evOps evOpsD evOper evOperD evOp evFn loopN T.All T.bind callPure callOp opsK opsDK restK seqK blockK loopS setK setQ giveK scalK gcK finish finS rfunK yldK yldB loopK

def apartB (l : List (Int × Int)) (i : Nat) : Bool := if i = 0 then (l.getD 0 (0, 0)).1 != 0 else decide ((l.getD i (0, 0)).1 ≤ (l.getD (i - 1) (0, 0)).1)
def stepE (l : List (Int × Int)) (i : Nat) : Int := firstE [rangeE 0 64 (l.getD i (0, 0)).1, rangeE 0 100 (l.getD i (0, 0)).2, whenE (apartB l i) 11]
def stepsE (l : List (Int × Int)) : Int := firstE ((List.range l.length).map (stepE l))
def settingE (l : List (Int × Int)) : Int := if sizedE l.length 12 = 0 then stepsE l else sizedE l.length 12

theorem setting28 {n : Nat} (hn : 3 ≤ n) (l : List (Int × Int)) (hl : l.length < 1000000) : RUN n 28 [csl l] = .ret (iv (settingE l)) := by
 obtain ⟨d, rfl⟩ : ∃ d, n = d + 3 := ⟨n - 3, by omega⟩
 rw [RUN, call_eq fe28 _ rfl]
 let inv : Nat → St := fun i => ⟨[(0, csl l), (14, csl l), (15, iv l.length), (16, iv i)], []⟩
 let sto : Nat → Sto := fun i => [(0, .arr [.int .i64 (l.getD i (0, 0)).1, .int .i64 (l.getD i (0, 0)).2] 0 1)]
 have hs := sized106 (n := d + 2) (by omega) l.length 12
 have hc : settingE l = if sizedE l.length 12 = 0 then stepsE l else sizedE l.length 12 := rfl
 rw [hc]
 by_cases hz : sizedE l.length 12 = 0
 ·rw [if_pos hz]
  simp -implicitDefEqProofs [c28, hs, hz]
  have key := loop_first (step := loopS (evFn F C0 G0 (d + 2)) C0 G0 0 true [0, 14, 15, 16] c28L0) inv (stepE l) l.length (.exit 0, ⟨(inv l.length).env ++ [(17, .p (.bool false))], []⟩) (fun i => (.ret, ⟨[(2, iv (stepE l i))], sto i⟩))
   (st0 := ⟨[(0, csl l), (14, csl l), (15, iv l.length), (16, iv 0)], []⟩) rfl ?_ (fun i => by simp) (by simp [inv, loopS_eq, c28L0]) (by simp) (fuel := loopFuel) (by simp [loopFuel]; omega)
  ·rcases key with ⟨k1, k2⟩ | ⟨j, hj, k1, k2, k3, _⟩
   ·rw [k1, stepsE, k2]
    simp -implicitDefEqProofs [inv]
   ·rw [k1, stepsE, k2]
    simp -implicitDefEqProofs [sto]
  ·intro i hi
   have hx := cI_drop l i hi
   have hlt : i * 2 < l.length * 2 := by omega
   have hlt' : (i : Int) < l.length := by omega
   have hgi : l.getD i (0, 0) = l[i] := by simp [List.getD_eq_getElem?_getD, List.getElem?_eq_getElem hi]
   have h1 := within95 (n := d + 2) (by omega) l[i].1 0 64
   have h2 := within95 (n := d + 2) (by omega) l[i].2 0 100
   have h3 := when107 (n := d + 2) (by omega) (apartB l i) 11
   have h4 := first92_3 (n := d + 2) (by omega) (rangeE 0 64 l[i].1) (rangeE 0 100 l[i].2) (whenE (apartB l i) 11)
   have he : stepE l i = firstE [rangeE 0 64 l[i].1, rangeE 0 100 l[i].2, whenE (apartB l i) 11] := by rw [stepE, hgi]
   rw [← he] at h4
   by_cases hi0 : i = 0
   ·subst hi0
    have ha : apartB l 0 = (l[0].1 != 0) := by simp only [apartB, hgi, if_true]
    have w1 : IntKind.i64.wrap 1 = 1 := rfl
    generalize hap : (l[0].1 != 0) = b at *
    rw [ha] at h3 h4
    refine ⟨fun hz => ⟨⟨(inv 1).env, sto 0⟩, ?_, loopS_same rfl (by simp [inv, sto])⟩, fun hz => ?_⟩
    ·cases b <;> simp -implicitDefEqProofs [inv, sto, loopS_eq, c28L0, hi, hx, hlt, hap, h1, h2, h3, h4, hz, w1]
    ·cases b <;> simp -implicitDefEqProofs [inv, sto, loopS_eq, c28L0, hi, hx, hlt, hap, h1, h2, h3, h4, hz]
   ·have hj : i - 1 < l.length := by omega
    have hxj := cI_drop l (i - 1) hj
    have hgj : l.getD (i - 1) (0, 0) = l[i - 1] := by simp [List.getD_eq_getElem?_getD, List.getElem?_eq_getElem hj]
    have ha : apartB l i = decide (l[i].1 ≤ l[i - 1].1) := by simp only [apartB, hgi, hgj, hi0, if_false]
    have hi1 : 0 < i := by omega
    have hz0 : ((i : Int) == 0) = false := by simp; omega
    have hmx : maxInt 1 [iv i] = some (i : Int) := by
     simp only [maxInt]
     congr 1
     split <;> omega
    have w1 := wrap64 (n := (i : Int) - 1) (by omega) (by omega)
    have t1 : ((i : Int) - 1).toNat = i - 1 := by omega
    have hl1 : (i - 1) * 2 < l.length * 2 := by omega
    have b1 : (1 : Int) ≤ (i : Int) := by omega
    have b2 : (i : Int) - 1 < l.length := by omega
    generalize hap : decide (l[i].1 ≤ l[i - 1].1) = b at *
    rw [ha] at h3 h4
    refine ⟨fun hz => ⟨⟨(inv (i + 1)).env, sto i⟩, ?_, loopS_same rfl (by simp [inv, sto])⟩, fun hz => ?_⟩
    ·cases b <;> simp -implicitDefEqProofs [inv, sto, loopS_eq, c28L0, hi, hx, hxj, hlt, hlt', hap, h1, h2, h3, h4, hz, hz0, hi1, hmx, w1, t1, hl1, b1, b2, wrap_succ (i := i) (by omega)]
    ·cases b <;> simp -implicitDefEqProofs [inv, sto, loopS_eq, c28L0, hi, hx, hxj, hlt, hlt', hap, h1, h2, h3, h4, hz, hz0, hi1, hmx, w1, t1, hl1, b1, b2]
 ·rw [if_neg hz]
  simp -implicitDefEqProofs [c28, hs, hz]

/-! the reference -/

theorem setting19 {n : Nat} (hn : 3 ≤ n) (l : List (Int × Int)) (hl : l.length < 1000000) : RUN n 19 [csl l] = .ret (iv (settingE l)) := by
 obtain ⟨d, rfl⟩ : ∃ d, n = d + 3 := ⟨n - 3, by omega⟩
 rw [RUN, call_eq fe19 _ rfl]
 let inv : Nat → St := fun i => ⟨[(0, csl l), (4, iv i)], []⟩
 have hs : firstE [whenE ((l.length : Int) == 0) 12, whenE (decide ((12 : Int) < l.length)) 5] = sizedE l.length 12 := rfl
 have hc : settingE l = if sizedE l.length 12 = 0 then stepsE l else sizedE l.length 12 := rfl
 rw [hc]
 by_cases hz : sizedE l.length 12 = 0
 ·rw [if_pos hz]
  simp -implicitDefEqProofs [c19, when46 (n := d + 2), first100_2 (n := d + 2), hs, hz]
  have key := loop_first (step := loopS (evFn F C0 G0 (d + 2)) C0 G0 0 false [0, 4] c19L0) inv (stepE l) l.length (.exit 0, ⟨(inv l.length).env ++ [(22, .p (.bool false))], []⟩) (fun i => (.ret, ⟨[(2, iv (stepE l i))], []⟩))
   (st0 := ⟨[(0, csl l), (4, iv 0)], []⟩) rfl ?_ (fun i => by simp) (by simp [inv, loopS_eq, c19L0]) (by simp) (fuel := loopFuel) (by simp [loopFuel]; omega)
  ·rcases key with ⟨k1, k2⟩ | ⟨j, hj, k1, k2, k3, _⟩
   ·rw [k1, stepsE, k2]
    simp -implicitDefEqProofs [inv]
   ·rw [k1, stepsE, k2]
    simp -implicitDefEqProofs
  ·intro i hi
   have hx := cI_drop l i hi
   have hlt : i * 2 < l.length * 2 := by omega
   have hlt' : (i : Int) < l.length := by omega
   have hgi : l.getD i (0, 0) = l[i] := by simp [List.getD_eq_getElem?_getD, List.getElem?_eq_getElem hi]
   have h1 := range101 (n := d + 2) (by omega) l[i].1 0 64
   have h2 := range101 (n := d + 2) (by omega) l[i].2 0 100
   have h3 := when46 (n := d + 2) (by omega) (apartB l i) 11
   have h4 := first100_3 (n := d + 2) (by omega) (rangeE 0 64 l[i].1) (rangeE 0 100 l[i].2) (whenE (apartB l i) 11)
   have he : stepE l i = firstE [rangeE 0 64 l[i].1, rangeE 0 100 l[i].2, whenE (apartB l i) 11] := by rw [stepE, hgi]
   rw [← he] at h4
   by_cases hi0 : i = 0
   ·subst hi0
    have ha : apartB l 0 = (l[0].1 != 0) := by simp only [apartB, hgi, if_true]
    have w1 : IntKind.i64.wrap 1 = 1 := rfl
    generalize hap : (l[0].1 != 0) = b at *
    rw [ha] at h3 h4
    refine ⟨fun hz => ⟨inv 1, ?_, rfl⟩, fun hz => ?_⟩
    ·cases b <;> simp -implicitDefEqProofs [inv, loopS_eq, c19L0, hi, hx, hlt, hap, h1, h2, h3, h4, hz, w1]
    ·cases b <;> simp -implicitDefEqProofs [inv, loopS_eq, c19L0, hi, hx, hlt, hap, h1, h2, h3, h4, hz]
   ·have hj : i - 1 < l.length := by omega
    have hxj := cI_drop l (i - 1) hj
    have hgj : l.getD (i - 1) (0, 0) = l[i - 1] := by simp [List.getD_eq_getElem?_getD, List.getElem?_eq_getElem hj]
    have ha : apartB l i = decide (l[i].1 ≤ l[i - 1].1) := by simp only [apartB, hgi, hgj, hi0, if_false]
    have hi1 : 0 < i := by omega
    have hz0 : ((i : Int) == 0) = false := by simp; omega
    have hmx : maxInt 0 [iv ((i : Int) - 1)] = some ((i : Int) - 1) := by
     simp only [maxInt]
     congr 1
     split <;> omega
    have w1 := wrap64 (n := (i : Int) - 1) (by omega) (by omega)
    have t1 : ((i : Int) - 1).toNat = i - 1 := by omega
    have hl1 : (i - 1) * 2 < l.length * 2 := by omega
    have b1 : (1 : Int) ≤ (i : Int) := by omega
    have b2 : (i : Int) - 1 < l.length := by omega
    generalize hap : decide (l[i].1 ≤ l[i - 1].1) = b at *
    rw [ha] at h3 h4
    refine ⟨fun hz => ⟨inv (i + 1), ?_, rfl⟩, fun hz => ?_⟩
    ·cases b <;> simp -implicitDefEqProofs [inv, loopS_eq, c19L0, hx, hxj, hlt, hlt', hap, h1, h2, h3, h4, hz, hz0, hi1, hmx, w1, t1, hl1, b1, b2, wrap_succ (i := i) (by omega)]
    ·cases b <;> simp -implicitDefEqProofs [inv, loopS_eq, c19L0, hx, hxj, hlt, hlt', hap, h1, h2, h3, h4, hz, hz0, hi1, hmx, w1, t1, hl1, b1, b2]
 ·rw [if_neg hz]
  simp -implicitDefEqProofs [c19, when46 (n := d + 2), first100_2 (n := d + 2), hs, hz]

/-! sleds: the interval of gains, the lag, the delay, the load -/

structure SledI where
 low : Int
 high : Int
 lag : Int
 delay : Int
 load : Int

abbrev sla (s : SledI) : AVal := .agg [iv s.low, iv s.high, iv s.lag, iv s.delay, iv s.load]
def sledE (s : SledI) : Int := firstE [ivE 1 10000 (s.low, s.high), rangeE 1 16 s.lag, rangeE 0 8 s.delay, rangeE 1 10000 s.load]

theorem sled27 {n : Nat} (hn : 4 ≤ n) (s : SledI) : RUN n 27 [sla s] = .ret (iv (sledE s)) := by
 obtain ⟨d, rfl⟩ : ∃ d, n = d + 4 := ⟨n - 4, by omega⟩
 rw [RUN, call_eq fe27 _ rfl]
 have h1 := interval105 (n := d + 3) (by omega) (s.low, s.high) 1 10000
 simp -implicitDefEqProofs [c27, h1, within95 (n := d + 3), first92_4 (n := d + 3), sledE]

theorem sled21 {n : Nat} (hn : 4 ≤ n) (s : SledI) : RUN n 21 [sla s] = .ret (iv (sledE s)) := by
 obtain ⟨d, rfl⟩ : ∃ d, n = d + 4 := ⟨n - 4, by omega⟩
 rw [RUN, call_eq fe21 _ rfl]
 have h1 := ends102 (n := d + 3) (by omega) (s.low, s.high) 1 10000
 simp -implicitDefEqProofs [c21, h1, range101 (n := d + 3), first100_4 (n := d + 3), sledE]

theorem ticks93 {n : Nat} (hn : 3 ≤ n) (k : Int) : RUN n 93 [iv k] = .ret (iv (rangeE 1 64 k)) := by
 obtain ⟨d, rfl⟩ : ∃ d, n = d + 3 := ⟨n - 3, by omega⟩
 rw [RUN, call_eq fe93 _ rfl]
 simp -implicitDefEqProofs [c93, within95 (n := d + 2)]
end Fw
