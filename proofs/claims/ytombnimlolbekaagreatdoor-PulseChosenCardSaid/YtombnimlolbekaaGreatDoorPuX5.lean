/- Several texts in one: steps of the proof, no condition of their own. -/
import Derived.Test.YtombnimlolbekaaGreatDoorPuAp4
attribute [local irreducible] Fw.evCode Fw.evOps Fw.evOpsD Fw.evOper Fw.evOperD Fw.evOp Fw.evFn Fw.loopN Fw.T.All Fw.T.bind Fw.callPure Fw.callOp Fw.opsK Fw.opsDK Fw.restK Fw.seqK Fw.blockK Fw.loopS Fw.setK Fw.setQ Fw.giveK Fw.scalK Fw.gcK Fw.finish Fw.finS Fw.rfunK Fw.yldK Fw.yldB Fw.loopK
section
set_option maxHeartbeats 8000000
namespace Fw
open Go

def letB (b : Nat) : Bool := (decide (97 ≤ b) && decide (b ≤ 122)) || (decide (65 ≤ b) && decide (b ≤ 90))
def tailB (b : Nat) : Bool := (decide (48 ≤ b) && decide (b ≤ 57)) || decide (b = 95)
def nameE (l : List UInt8) (i : Nat) : Int := if (letB (l.getD i 0).toNat || (decide (0 < i) && tailB (l.getD i 0).toNat)) = true then 0 else 1
def nameB (l : List UInt8) : Bool := decide (l ≠ []) && decide (l.length ≤ 24) && decide (firstE ((List.range l.length).map (nameE l)) = 0)

theorem name149 {n : Nat} (hn : 1 ≤ n) (l : List UInt8) (hl : l.length ≤ 9223372036854775807) : RUN n 149 [sv l] = .ret (.p (.bool (nameB l))) := by
 obtain ⟨d, rfl⟩ : ∃ d, n = d + 1 := ⟨n - 1, by omega⟩
 rw [RUN, call_eq fe149 _ rfl]
 let inv : Nat → St := fun i => ⟨[(0, sv l), (7, .it 0)], [(0, .siter l i)]⟩
 have key := loop_first (step := loopS (evFn F C0 G0 d) C0 G0 0 false [0, 7] c149L0) inv (nameE l) l.length (.exit 0, ⟨[(0, sv l), (7, .it 0), (8, .tup [.p (.bool false)]), (9, .p (.bool false))], [(0, .siter l l.length)]⟩) (fun i => (.ret, ⟨[(2, .p (.bool false))], [(0, .siter l (i + (Utf8.decode ⟨l.toArray⟩ i).2))]⟩))
     (st0 := ⟨[(0, sv l), (7, .it 0)], [(0, .siter l 0)]⟩) rfl (fun i hi => by
      have hgi : l.getD i 0 = l[i] := by simp [List.getD_eq_getElem?_getD, List.getElem?_eq_getElem hi]
      have he : nameE l i = if (letB l[i].toNat || (decide (0 < i) && tailB l[i].toNat)) = true then 0 else 1 := by simp only [nameE, hgi]
      rw [he]
      by_cases ha : l[i].toNat < 128
      ·have hdc := decode_lo l i hi ha
       generalize l[i].toNat = b at *
       by_cases h1 : letB b = true
       ·refine ⟨fun _ => ⟨⟨(inv (i + 1)).env ++ [(43, .p (.bool false))], (inv (i + 1)).sto⟩, ?_, by simp -implicitDefEqProofs [inv, loopS_eq]⟩, fun h => absurd (by simp [h1]) h⟩
        have h1' : (97 ≤ b ∧ b ≤ 122) ∨ (65 ≤ b ∧ b ≤ 90) := by simpa [letB] using h1
        rcases h1' with ⟨q1, q2⟩ | ⟨q1, q2⟩
        ·have r1 : (97 : Int) ≤ (b : Int) := by omega
         have r2 : (b : Int) ≤ 122 := by omega
         simp -implicitDefEqProofs [inv, loopS_eq, c149L0, hi, hdc, r1, r2]
        ·have r1 : ¬ (97 : Int) ≤ (b : Int) := by omega
         have r3 : (65 : Int) ≤ (b : Int) := by omega
         have r4 : (b : Int) ≤ 90 := by omega
         have n1 : ¬ 97 ≤ b := by omega
         simp -implicitDefEqProofs [inv, loopS_eq, c149L0, hi, hdc, r1, r3, r4]
       ·have h1' : ¬ ((97 ≤ b ∧ b ≤ 122) ∨ (65 ≤ b ∧ b ≤ 90)) := by simpa [letB] using h1
        have cases4 : ((¬ (97 : Int) ≤ (b : Int) ∧ ¬ 97 ≤ b) ∨ (((97 : Int) ≤ (b : Int) ∧ 97 ≤ b) ∧ (¬ (b : Int) ≤ 122 ∧ ¬ b ≤ 122))) ∧ ((¬ (65 : Int) ≤ (b : Int) ∧ ¬ 65 ≤ b) ∨ (((65 : Int) ≤ (b : Int) ∧ 65 ≤ b) ∧ (¬ (b : Int) ≤ 90 ∧ ¬ b ≤ 90))) := by omega
        by_cases h0 : i = 0
        ·subst h0
         refine ⟨fun h => absurd h (by simp [h1]), fun _ => ?_⟩
         rcases cases4 with ⟨⟨r1, n1⟩ | ⟨⟨r1, n1⟩, r2, n2⟩, ⟨r3, n3⟩ | ⟨⟨r3, n3⟩, r4, n4⟩⟩ <;> clear h1' <;> simp -implicitDefEqProofs [inv, loopS_eq, c149L0, *]
        ·have hz0 : ((i : Int) == 0) = false := by simp; omega
         have hpos : 0 < i := by omega
         by_cases h2 : tailB b = true
         ·refine ⟨fun _ => ⟨⟨(inv (i + 1)).env ++ [(43, .p (.bool false))], (inv (i + 1)).sto⟩, ?_, by simp -implicitDefEqProofs [inv, loopS_eq]⟩, fun h => absurd (by simp [h2, hpos]) h⟩
          have h2' : (48 ≤ b ∧ b ≤ 57) ∨ b = 95 := by simpa [tailB] using h2
          rcases h2' with ⟨q1, q2⟩ | q1
          ·have r5 : ((b : Int) != 95) = true := by simp; omega
           have r6 : ¬ (b : Int) < 48 := by omega
           have r7 : ¬ (57 : Int) < (b : Int) := by omega
           have n6 : ¬ b < 48 := by omega
           have n7 : ¬ 57 < b := by omega
           rcases cases4 with ⟨⟨r1, n1⟩ | ⟨⟨r1, n1⟩, r2, n2⟩, ⟨r3, n3⟩ | ⟨⟨r3, n3⟩, r4, n4⟩⟩ <;> clear h1' <;> simp -implicitDefEqProofs [inv, loopS_eq, c149L0, *]
          ·have r5 : ((b : Int) != 95) = false := by simp; omega
           rcases cases4 with ⟨⟨r1, n1⟩ | ⟨⟨r1, n1⟩, r2, n2⟩, ⟨r3, n3⟩ | ⟨⟨r3, n3⟩, r4, n4⟩⟩ <;> clear h1' <;> simp -implicitDefEqProofs [inv, loopS_eq, c149L0, *]
         ·refine ⟨fun h => absurd h (by simp [h1, h2]), fun _ => ?_⟩
          have h2' : ¬ ((48 ≤ b ∧ b ≤ 57) ∨ b = 95) := by simpa [tailB] using h2
          have r5 : ((b : Int) != 95) = true := by simp; omega
          have c5 : ((b : Int) < 48 ∧ b < 48) ∨ ((¬ (b : Int) < 48 ∧ ¬ b < 48) ∧ ((57 : Int) < (b : Int) ∧ 57 < b)) := by omega
          clear h2'
          rcases c5 with ⟨r6, n6⟩ | ⟨⟨r6, n6⟩, r7, n7⟩ <;> rcases cases4 with ⟨⟨r1, n1⟩ | ⟨⟨r1, n1⟩, r2, n2⟩, ⟨r3, n3⟩ | ⟨⟨r3, n3⟩, r4, n4⟩⟩ <;> clear h1' <;> simp -implicitDefEqProofs [inv, loopS_eq, c149L0, *]
      ·have hdc := decode_hi l i hi (by omega)
       have h1 : letB l[i].toNat = false := by simp [letB]; omega
       have h2 : tailB l[i].toNat = false := by simp [tailB]; omega
       refine ⟨fun h => absurd h (by simp [h1, h2]), fun _ => ?_⟩
       generalize hdq : Utf8.decode ⟨l.toArray⟩ i = dc at *
       have r1 : (97 : Int) ≤ (dc.1 : Int) := by omega
       have r2 : ¬ (dc.1 : Int) ≤ 122 := by omega
       have r3 : (65 : Int) ≤ (dc.1 : Int) := by omega
       have r4 : ¬ (dc.1 : Int) ≤ 90 := by omega
       have r5 : ((dc.1 : Int) != 95) = true := by simp; omega
       have r6 : ¬ (dc.1 : Int) < 48 := by omega
       have r7 : (57 : Int) < (dc.1 : Int) := by omega
       cases hz0 : ((i : Int) == 0) <;> simp -implicitDefEqProofs [inv, loopS_eq, c149L0, hi, hdq, r1, r2, r3, r4, r5, r6, r7, hz0]) (fun i => by simp) (by simp -implicitDefEqProofs [inv, loopS_eq, c149L0]) (by simp) (fuel := loopFuel) (by simp [loopFuel]; omega)
 simp -implicitDefEqProofs [c149]
 rcases key with ⟨k1, k2⟩ | ⟨j, hj, k1, k2, k3, _⟩
 ·rw [k1]
  by_cases h0 : l = []
  ·subst h0
   have : nameB [] = false := rfl
   simp -implicitDefEqProofs [strBin, this]
  ·have hb0 : (l == []) = false := by simpa using h0
   have hN : nameB l = decide (l.length ≤ 24) := by simp [nameB, h0, k2]
   have h24 : decide ((l.length : Int) ≤ 24) = decide (l.length ≤ 24) := by rw [Bool.eq_iff_iff]; simp; omega
   simp -implicitDefEqProofs [strBin, hb0, hN, h24]
 ·have hN : nameB l = false := by
   have : firstE ((List.range l.length).map (nameE l)) ≠ 0 := by rw [k2]; exact k3
   simp [nameB, this]
  rw [k1]
  simp -implicitDefEqProofs [hN]

theorem name177 {n : Nat} (hn : 1 ≤ n) (l : List UInt8) : RUN n 177 [sv l] = .ret (.p (.bool (nameB l))) := by
 obtain ⟨d, rfl⟩ : ∃ d, n = d + 1 := ⟨n - 1, by omega⟩
 rw [RUN, call_eq fe177 _ rfl]
 by_cases h0 : l = []
 ·subst h0
  have : nameB [] = false := rfl
  simp -implicitDefEqProofs [c177, this]
 ·have hpos : 0 < l.length := List.length_pos_iff.2 h0
  have hz : ((l.length : Int) == 0) = false := by simp; omega
  by_cases h24 : (24 : Int) < l.length
  ·have hN : nameB l = false := by simp [nameB]; omega
   simp -implicitDefEqProofs [c177, hz, h24, hN]
  ·let inv : Nat → St := fun i => ⟨[(0, sv l), (3, iv i)], []⟩
   have key := loop_first (step := loopS (evFn F C0 G0 d) C0 G0 0 false [0, 3] c177L0) inv (nameE l) l.length (.exit 0, ⟨(inv l.length).env ++ [(17, .p (.bool false))], []⟩) (fun i => (.ret, ⟨[(2, .p (.bool false))], []⟩))
     (st0 := ⟨[(0, sv l), (3, iv 0)], []⟩) rfl (fun i hi => by
      have hgi : l.getD i 0 = l[i] := by simp [List.getD_eq_getElem?_getD, List.getElem?_eq_getElem hi]
      have hgo : l[i]? = some l[i] := List.getElem?_eq_getElem hi
      have hlt : (i : Int) < l.length := by omega
      have he : nameE l i = if (letB l[i].toNat || (decide (0 < i) && tailB l[i].toNat)) = true then 0 else 1 := by simp only [nameE, hgi]
      rw [he]
      generalize hbq : l[i].toNat = b at *
      by_cases h1 : letB b = true
      ·refine ⟨fun _ => ⟨inv (i + 1), ?_, rfl⟩, fun h => absurd (by simp [h1]) h⟩
       have h1' : (97 ≤ b ∧ b ≤ 122) ∨ (65 ≤ b ∧ b ≤ 90) := by simpa [letB] using h1
       rcases h1' with ⟨q1, q2⟩ | ⟨q1, q2⟩
       ·have r1 : (97 : Int) ≤ (b : Int) := by omega
        have r2 : (b : Int) ≤ 122 := by omega
        have r3 : (65 : Int) ≤ (b : Int) := by omega
        have r4 : ¬ (b : Int) ≤ 90 := by omega
        have s1 : (48 : Int) ≤ (b : Int) := by omega
        have s2 : ¬ (b : Int) ≤ 57 := by omega
        cases r5 : ((b : Int) == 95) <;> simp -implicitDefEqProofs [inv, loopS_eq, c177L0, hlt, hgo, hbq, r1, r2, r3, r4, s1, s2, r5, wrap_succ (i := i) (by omega)]
       ·have r1 : (65 : Int) ≤ (b : Int) := by omega
        have r2 : (b : Int) ≤ 90 := by omega
        have s1 : (48 : Int) ≤ (b : Int) := by omega
        have s2 : ¬ (b : Int) ≤ 57 := by omega
        cases r5 : ((b : Int) == 95) <;> simp -implicitDefEqProofs [inv, loopS_eq, c177L0, hlt, hgo, hbq, r1, r2, s1, s2, r5, wrap_succ (i := i) (by omega)]
      ·have h1' : ¬ ((97 ≤ b ∧ b ≤ 122) ∨ (65 ≤ b ∧ b ≤ 90)) := by simpa [letB] using h1
       have cases4 : ((¬ (97 : Int) ≤ (b : Int)) ∨ ((97 : Int) ≤ (b : Int) ∧ ¬ (b : Int) ≤ 122)) ∧ ((¬ (65 : Int) ≤ (b : Int)) ∨ ((65 : Int) ≤ (b : Int) ∧ ¬ (b : Int) ≤ 90)) := by omega
       have casesT : (tailB b = true ∧ ((48 : Int) ≤ (b : Int) ∧ (b : Int) ≤ 57)) ∨ (tailB b = true ∧ ((48 : Int) ≤ (b : Int) ∧ ¬ (b : Int) ≤ 57 ∧ ((b : Int) == 95) = true)) ∨ (tailB b = false ∧ ((¬ (48 : Int) ≤ (b : Int) ∧ ((b : Int) == 95) = false))) ∨ (tailB b = false ∧ ((48 : Int) ≤ (b : Int) ∧ ¬ (b : Int) ≤ 57 ∧ ((b : Int) == 95) = false)) := by
        simp only [tailB, Bool.or_eq_true, Bool.and_eq_true, decide_eq_true_eq, Bool.or_eq_false_iff, Bool.and_eq_false_iff, decide_eq_false_iff_not, beq_iff_eq, beq_eq_false_iff_ne]
        omega
       by_cases h0 : i = 0
       ·subst h0
        refine ⟨fun h => absurd h (by simp [h1]), fun _ => ?_⟩
        rcases casesT with ⟨_, s1, s2⟩ | ⟨_, s1, s2, s3⟩ | ⟨_, s1, s3⟩ | ⟨_, s1, s2, s3⟩ <;> rcases cases4 with ⟨r1 | ⟨r1, r2⟩, r3 | ⟨r3, r4⟩⟩ <;> simp -implicitDefEqProofs [inv, loopS_eq, c177L0, *]
       ·have hz0 : ((i : Int) == 0) = false := by simp; omega
        have hpos : 0 < i := by omega
        have hw := wrap_succ (i := i) (by omega)
        rcases casesT with ⟨t, s1, s2⟩ | ⟨t, s1, s2, s3⟩ | ⟨t, s1, s3⟩ | ⟨t, s1, s2, s3⟩
        ·refine ⟨fun _ => ⟨inv (i + 1), ?_, rfl⟩, fun h => absurd (by simp [t, hpos]) h⟩
         rcases cases4 with ⟨r1 | ⟨r1, r2⟩, r3 | ⟨r3, r4⟩⟩ <;> simp -implicitDefEqProofs [inv, loopS_eq, c177L0, *]
        ·refine ⟨fun _ => ⟨inv (i + 1), ?_, rfl⟩, fun h => absurd (by simp [t, hpos]) h⟩
         rcases cases4 with ⟨r1 | ⟨r1, r2⟩, r3 | ⟨r3, r4⟩⟩ <;> simp -implicitDefEqProofs [inv, loopS_eq, c177L0, *]
        ·refine ⟨fun h => absurd h (by simp [h1, t]), fun _ => ?_⟩
         rcases cases4 with ⟨r1 | ⟨r1, r2⟩, r3 | ⟨r3, r4⟩⟩ <;> simp -implicitDefEqProofs [inv, loopS_eq, c177L0, *]
        ·refine ⟨fun h => absurd h (by simp [h1, t]), fun _ => ?_⟩
         rcases cases4 with ⟨r1 | ⟨r1, r2⟩, r3 | ⟨r3, r4⟩⟩ <;> simp -implicitDefEqProofs [inv, loopS_eq, c177L0, *]) (fun i => by simp) (by simp -implicitDefEqProofs [inv, loopS_eq, c177L0]) (by simp) (fuel := loopFuel) (by simp [loopFuel]; omega)
   simp -implicitDefEqProofs [c177, hz, h24]
   rcases key with ⟨k1, k2⟩ | ⟨j, hj, k1, k2, k3, _⟩
   ·have hN : nameB l = true := by simp [nameB, h0, k2]; omega
    rw [k1]
    simp -implicitDefEqProofs [inv, hN]
   ·have hN : nameB l = false := by
     have : firstE ((List.range l.length).map (nameE l)) ≠ 0 := by rw [k2]; exact k3
     simp [nameB, this]
    rw [k1]
    simp -implicitDefEqProofs [hN]
end Fw
end

section
set_option maxHeartbeats 8000000
namespace Fw
open Go

structure PackI where
 name : List UInt8
 force : Int
 time : Int
 cost : Int
 deriving Inhabited, DecidableEq

abbrev pkc (x : PackI) : List PVal := [.str x.name, .int .i64 x.force, .int .i64 x.time, .int .i64 x.cost]
def cP : List PackI → List PVal
 | [] => []
 | x :: r => .str x.name :: .int .i64 x.force :: .int .i64 x.time :: .int .i64 x.cost :: cP r
@[simp] theorem cP_length (l : List PackI) : (cP l).length = l.length * 4 := by
 induction l with
 | nil => rfl
 | cons x r ih => simp [cP, ih]; omega
theorem cP_drop (l : List PackI) (i : Nat) (h : i < l.length) : (cP l).drop (i * 4) = .str l[i].name :: .int .i64 l[i].force :: .int .i64 l[i].time :: .int .i64 l[i].cost :: cP (l.drop (i + 1)) := by
 induction l generalizing i with
 | nil => cases h
 | cons x r ih =>
  cases i with
  | zero => simp [cP]
  | succ i =>
   have := ih i (by simpa using h)
   rw [show (i + 1) * 4 = i * 4 + 4 by omega]
   simpa [cP] using this
theorem cP_append (a b : List PackI) : cP (a ++ b) = cP a ++ cP b := by
 induction a with
 | nil => rfl
 | cons x r ih => simp [cP, ih]
abbrev psl (l : List PackI) : AVal := .p (.sl (cP l) l.length)
abbrev pka (x : PackI) : AVal := .agg [.p (.str x.name), iv x.force, iv x.time, iv x.cost]

instance : Inhabited PackI := ⟨⟨[], 0, 0, 0⟩⟩
abbrev pk0 : PackI := ⟨[], 0, 0, 0⟩
theorem getD_at {l : List PackI} {i : Nat} (h : i < l.length) : l.getD i pk0 = l[i] := by simp [List.getD_eq_getElem?_getD, List.getElem?_eq_getElem h]

def shortPE (x : PackI) : Int := if 40 < x.name.length then 1 else 0
def shortPB (l : List PackI) : Bool := decide (firstE (l.map shortPE) = 0) && (decide (l.length ≤ 6) || decide (l.length = 9))

theorem short75 {n : Nat} (hn : 1 ≤ n) (l : List PackI) (hl : l.length ≤ 9223372036854775807) : RUN n 75 [psl l] = .ret (.p (.bool (shortPB l))) := by
 obtain ⟨d, rfl⟩ : ∃ d, n = d + 1 := ⟨n - 1, by omega⟩
 rw [RUN, call_eq fe75 _ rfl]
 let inv : Nat → St := fun i => ⟨[(0, psl l), (3, iv i)], []⟩
 let e : Nat → Int := fun i => shortPE (l.getD i pk0)
 have hm : l.map shortPE = (List.range l.length).map e := by
  refine List.ext_getElem (by simp) (fun i h1 h2 => ?_)
  have : i < l.length := by simpa using h1
  simp only [List.getElem_map, List.getElem_range, e, getD_at this]
 have key := loop_first (step := loopS (evFn F C0 G0 d) C0 G0 0 false [0, 3] c75L0) inv e l.length (.exit 0, ⟨(inv l.length).env ++ [(7, .p (.bool false))], []⟩) (fun _ => (.ret, ⟨[(2, .p (.bool false))], []⟩))
  (st0 := ⟨[(0, psl l), (3, iv 0)], []⟩) rfl (fun i hi => by
   have hx := cP_drop l i hi
   have hlt : i * 4 < l.length * 4 := by omega
   have hlt' : (i : Int) < l.length := by omega
   have hei : e i = shortPE l[i] := by simp only [e, getD_at hi]
   rw [hei]
   generalize l[i] = x at *
   refine ⟨fun hz => ⟨inv (i + 1), ?_, rfl⟩, fun hz => ?_⟩
   ·have h1 : ¬ (40 : Int) < x.name.length := by
     intro hc
     have : 40 < x.name.length := by omega
     simp [shortPE, this] at hz
    simp -implicitDefEqProofs [inv, loopS_eq, c75L0, hx, hlt, hlt', h1, wrap_succ (i := i) (by omega)]
   ·have h1 : (40 : Int) < x.name.length := by
     refine Classical.byContradiction (fun hc => hz ?_)
     have : ¬ 40 < x.name.length := by omega
     simp [shortPE, this]
    simp -implicitDefEqProofs [inv, loopS_eq, c75L0, hx, hlt, hlt', h1]) (fun i => by simp) (by simp -implicitDefEqProofs [inv, loopS_eq, c75L0]) (by simp) (fuel := loopFuel) (by simp [loopFuel]; omega)
 simp -implicitDefEqProofs [c75]
 rcases key with ⟨k1, k2⟩ | ⟨j, hj, k1, k2, k3, _⟩
 ·rw [k1]
  have hB : shortPB l = (decide (l.length ≤ 6) || decide (l.length = 9)) := by simp [shortPB, hm, k2]
  rw [hB]
  by_cases h6 : (l.length : Int) ≤ 6
  ·have h6n : l.length ≤ 6 := by omega
   simp -implicitDefEqProofs [inv, h6, h6n]
  ·have h6n : ¬ l.length ≤ 6 := by omega
   have h9 : ((l.length : Int) == 9) = decide (l.length = 9) := by rw [Bool.eq_iff_iff]; simp; omega
   simp -implicitDefEqProofs [inv, h6, h6n, h9]
 ·have hB : shortPB l = false := by
   have : firstE (l.map shortPE) ≠ 0 := by rw [hm, k2]; exact k3
   simp [shortPB, this]
  rw [k1]
  simp -implicitDefEqProofs [hB]

theorem bags77 {n : Nat} (hn : 1 ≤ n) (l : List PackI) (hl : l.length < 1000000) : RUN n 77 [psl l] = .ret (.own (cP l) l.length 4) := by
 obtain ⟨d, rfl⟩ : ∃ d, n = d + 1 := ⟨n - 1, by omega⟩
 rw [RUN, call_eq fe77 _ rfl]
 let inv : Nat → St := fun i => ⟨[(3, .sl 1 i 0 i), (6, psl l), (7, iv l.length), (8, iv i)], [(1, .arr (cP (l.take i)) i 4)]⟩
 have htl : l.take l.length = l := List.take_of_length_le (by omega)
 simp -implicitDefEqProofs [c77]
 rw [loop_run' inv l.length (e := .exit 0) (st' := ⟨(inv l.length).env ++ [(9, .p (.bool false))], (inv l.length).sto⟩) (by simp)]
 ·simp -implicitDefEqProofs [inv, htl]
 ·exact loopS_same rfl (by simp [inv, cP])
 ·intro i hi
  have hx := cP_drop l i hi
  have hlt : i * 4 < l.length * 4 := by omega
  have hlt' : (i : Int) < l.length := by omega
  have hlim : i + 1 ≤ lim := by simp only [lim]; omega
  have hto : (l.take i).length = i := by simp; omega
  have ht : cP (l.take (i + 1)) = cP (l.take i) ++ pkc l[i] := by
   rw [← List.take_append_getElem hi, cP_append]; rfl
  refine ⟨⟨(inv (i + 1)).env, (2, .arr (pkc l[i]) 0 1) :: (inv (i + 1)).sto⟩, ?_, loopS_same rfl (by simp [inv])⟩
  simp -implicitDefEqProofs [inv, loopS_eq, c77L0, hx, hlt, hlt', hlim, hto, wrap_succ (i := i) (by omega), ht]
 ·simp -implicitDefEqProofs [inv, loopS_eq, c77L0]
 ·simp [loopFuel]; omega

theorem first92_5 {n : Nat} (hn : 1 ≤ n) (a b c e f : Int) : RUN n 92 [.p (.sl [.int .i64 a, .int .i64 b, .int .i64 c, .int .i64 e, .int .i64 f] 5)] = .ret (iv (firstE [a, b, c, e, f])) := first92 hn [a, b, c, e, f] (by simp)
theorem first100_5 {n : Nat} (hn : 1 ≤ n) (a b c e f : Int) : RUN n 100 [.p (.sl [.int .i64 a, .int .i64 b, .int .i64 c, .int .i64 e, .int .i64 f] 5)] = .ret (iv (firstE [a, b, c, e, f])) := first100 hn [a, b, c, e, f] (by simp)

theorem cname145 {n : Nat} (hn : 2 ≤ n) (l : List UInt8) : RUN n 145 [sv l] = .ret (iv (whenE (!nameB l) 8)) := by
 obtain ⟨d, rfl⟩ : ∃ d, n = d + 2 := ⟨n - 2, by omega⟩
 rw [RUN, call_eq fe145 _ rfl]
 simp -implicitDefEqProofs [c145, name177 (n := d + 1), when46 (n := d + 1)]

theorem word146 {n : Nat} (hn : 1 ≤ n) (ws : List (List UInt8)) (w : List UInt8) (hl : ws.length < 1000000) : RUN n 146 [.p (.sl (pStr ws) ws.length), sv w] = .ret (.p (.bool (decide (w ∈ ws)))) := by
 obtain ⟨d, rfl⟩ : ∃ d, n = d + 1 := ⟨n - 1, by omega⟩
 rw [RUN, call_eq fe146 _ rfl]
 let inv : Nat → St := fun i => ⟨[(0, .p (.sl (pStr ws) ws.length)), (1, sv w), (5, iv i)], []⟩
 let e : Nat → Int := fun i => if ws.getD i [] = w then 1 else 0
 have key := loop_first (step := loopS (evFn F C0 G0 d) C0 G0 0 false [0, 1, 5] c146L0) inv e ws.length (.exit 0, ⟨(inv ws.length).env ++ [(9, .p (.bool false))], []⟩) (fun _ => (.ret, ⟨[(4, .p (.bool true))], []⟩))
  (st0 := ⟨[(0, .p (.sl (pStr ws) ws.length)), (1, sv w), (5, iv 0)], []⟩) rfl (fun i hi => by
   have hx := pStr_drop ws i hi
   have hlt' : (i : Int) < ws.length := by omega
   have hg : ws.getD i [] = ws[i] := by simp [List.getD_eq_getElem?_getD, List.getElem?_eq_getElem hi]
   have hei : e i = if ws[i] = w then 1 else 0 := by simp only [e, hg]
   rw [hei]
   by_cases h : ws[i] = w
   ·have hb : (ws[i] == w) = true := by simpa using h
    refine ⟨fun hz => absurd hz (by simp [h]), fun _ => ?_⟩
    simp -implicitDefEqProofs [inv, loopS_eq, c146L0, hi, hx, hlt', hb, strBin]
   ·have hb : (ws[i] == w) = false := by simpa using h
    refine ⟨fun _ => ⟨inv (i + 1), ?_, rfl⟩, fun hz => absurd (by simp [h]) hz⟩
    simp -implicitDefEqProofs [inv, loopS_eq, c146L0, hi, hx, hlt', hb, strBin, wrap_succ (i := i) (by omega)]) (fun i => by simp) (by simp -implicitDefEqProofs [inv, loopS_eq, c146L0]) (by simp) (fuel := loopFuel) (by simp [loopFuel]; omega)
 simp -implicitDefEqProofs [c146]
 rcases key with ⟨k1, k2⟩ | ⟨j, hj, k1, k2, k3, _⟩
 ·have hB : ¬ w ∈ ws := by
   intro hm
   obtain ⟨i, hi, rfl⟩ := List.getElem_of_mem hm
   have := firstE_zero.1 k2 (e i) (List.mem_map.2 ⟨i, by simpa using hi, rfl⟩)
   have hg : ws.getD i [] = ws[i] := by simp [List.getD_eq_getElem?_getD, List.getElem?_eq_getElem hi]
   have h1 : e i = 1 := by simp only [e, hg, if_true]
   omega
  rw [k1]
  simp -implicitDefEqProofs [inv, hB]
 ·have hB : w ∈ ws := by
   have hg : ws.getD j [] = ws[j] := by simp [List.getD_eq_getElem?_getD, List.getElem?_eq_getElem hj]
   simp only [e, hg] at k3
   split at k3
   ·rename_i h; rw [← h]; exact List.getElem_mem hj
   ·exact absurd rfl k3
  rw [k1]
  simp -implicitDefEqProofs [hB]

def packE (l : List PackI) (i : Nat) : Int := firstE [whenE (!nameB (l.getD i pk0).name) 8, whenE (decide ((l.getD i pk0).name ∈ (l.take i).map (·.name))) 9, rangeE 0 10000 (l.getD i pk0).force, rangeE 1 64 (l.getD i pk0).time, rangeE 0 1000000 (l.getD i pk0).cost]
def packsE (l : List PackI) : Int := if 8 < l.length then 5 else firstE ((List.range l.length).map (packE l))

theorem packs80 {n : Nat} (hn : 4 ≤ n) (l : List PackI) : RUN n 80 [psl l] = .ret (iv (packsE l)) := by
 obtain ⟨d, rfl⟩ : ∃ d, n = d + 4 := ⟨n - 4, by omega⟩
 rw [RUN, call_eq fe80 _ rfl]
 by_cases h8 : (8 : Int) < l.length
 ·have : packsE l = 5 := by rw [packsE, if_pos (by omega)]
  simp -implicitDefEqProofs [c80, h8, this]
 ·have hP : packsE l = firstE ((List.range l.length).map (packE l)) := by rw [packsE, if_neg (by omega)]
  let inv : Nat → St := fun i => ⟨[(0, psl l), (3, .sl 0 i 0 i), (4, iv i)], [(0, .arr (pStr ((l.take i).map (·.name))) i 1)]⟩
  have key := loop_first (step := loopS (evFn F C0 G0 (d + 3)) C0 G0 0 true [0, 3, 4] c80L0) inv (packE l) l.length (.exit 0, ⟨(inv l.length).env ++ [(13, .p (.bool false))], (inv l.length).sto⟩) (fun i => (.ret, ⟨[(2, iv (packE l i))], (1, .arr (pkc (l.getD i pk0)) 0 1) :: (inv i).sto⟩))
   (st0 := ⟨[(0, psl l), (3, .sl 0 0 0 0), (4, iv 0)], [(0, .arr [] 0 1)]⟩) rfl (fun i hi => by
    have hx := cP_drop l i hi
    have hlt : i * 4 < l.length * 4 := by omega
    have hlt' : (i : Int) < l.length := by omega
    have hgi := getD_at hi
    have hgo : l[i]? = some l[i] := List.getElem?_eq_getElem hi
    have h1 := cname145 (n := d + 3) (by omega) l[i].name
    have h2 := word146 (n := d + 3) (by omega) ((l.take i).map (·.name)) l[i].name (by simp; omega)
    have hnl : ((l.take i).map (·.name)).length = i := by simp; omega
    simp only [hnl] at h2
    have h3 := when46 (n := d + 3) (by omega) (decide (l[i].name ∈ (l.take i).map (·.name))) 9
    have h4 := range101 (n := d + 3) (by omega) l[i].force 0 10000
    have h5 := range101 (n := d + 3) (by omega) l[i].time 1 64
    have h6 := range101 (n := d + 3) (by omega) l[i].cost 0 1000000
    have h7 := first100_5 (n := d + 3) (by omega) (whenE (!nameB l[i].name) 8) (whenE (decide (l[i].name ∈ (l.take i).map (·.name))) 9) (rangeE 0 10000 l[i].force) (rangeE 1 64 l[i].time) (rangeE 0 1000000 l[i].cost)
    have he : packE l i = firstE [whenE (!nameB l[i].name) 8, whenE (decide (l[i].name ∈ (l.take i).map (·.name))) 9, rangeE 0 10000 l[i].force, rangeE 1 64 l[i].time, rangeE 0 1000000 l[i].cost] := by simp only [packE, hgi]
    rw [← he] at h7
    have hlim : i + 1 ≤ lim := by simp only [lim]; omega
    have ht : pStr ((l.take (i + 1)).map (·.name)) = pStr ((l.take i).map (·.name)) ++ [.str l[i].name] := by
     rw [← List.take_append_getElem hi, List.map_append, pStr_append]; rfl
    generalize hD : decide (l[i].name ∈ (l.take i).map (·.name)) = D at *
    generalize hN : (l.take i).map (·.name) = N at *
    refine ⟨fun hz => ⟨⟨(inv (i + 1)).env, (1, .arr (pkc l[i]) 0 1) :: (inv (i + 1)).sto⟩, ?_, loopS_same rfl (by simp [inv])⟩, fun hz => ?_⟩
    ·simp -implicitDefEqProofs [inv, loopS_eq, c80L0, hx, hlt, hlt', hN, h1, h2, h3, h4, h5, h6, h7, hz, hlim, hnl, ht, wrap_succ (i := i) (by omega), -List.map_take]
    ·simp -implicitDefEqProofs [inv, loopS_eq, c80L0, hx, hlt, hlt', hN, h1, h2, h3, h4, h5, h6, h7, hz, hgo, hnl, -List.map_take]) (fun i => by simp) (by simp -implicitDefEqProofs [inv, loopS_eq, c80L0, -List.map_take]) (by simp) (fuel := loopFuel) (by simp [loopFuel]; omega)
  rw [hP]
  simp -implicitDefEqProofs [c80, h8]
  rcases key with ⟨k1, k2⟩ | ⟨j, hj, k1, k2, k3, _⟩
  ·rw [k1, k2]
   simp -implicitDefEqProofs [inv]
  ·rw [k1, k2]
   simp -implicitDefEqProofs [inv]

theorem find_strs (k : List UInt8) : ∀ ns : List (List UInt8), mapFind (.str k) (pStr ns) (List.replicate ns.length (.bool true)) = if k ∈ ns then some (some (.bool true)) else some none := by
 intro ns
 induction ns with
 | nil => rfl
 | cons x r ih =>
  by_cases h : k = x
  ·subst h
   simp [pStr, mapFind, keyEq, List.replicate_succ]
  ·have hb : (k == x) = false := by simpa using h
   simp only [pStr] at ih
   simp only [pStr, List.map_cons, List.length_cons, List.replicate_succ, mapFind, keyEq, eqP, hb, ih]
   simp [h]

theorem packs87 {n : Nat} (hn : 4 ≤ n) (l : List PackI) (hs : ∀ x ∈ l, x.name.length ≤ 9223372036854775807) : RUN n 87 [psl l] = .ret (iv (packsE l)) := by
 obtain ⟨d, rfl⟩ : ∃ d, n = d + 4 := ⟨n - 4, by omega⟩
 rw [RUN, call_eq fe87 _ rfl]
 by_cases h8 : (8 : Int) < l.length
 ·have : packsE l = 5 := by rw [packsE, if_pos (by omega)]
  simp -implicitDefEqProofs [c87, h8, this]
 ·have hP : packsE l = firstE ((List.range l.length).map (packE l)) := by rw [packsE, if_neg (by omega)]
  let inv : Nat → St := fun i => ⟨[(3, .mp 0), (11, psl l), (12, iv l.length), (13, iv i)], [(0, .map (pStr ((l.take i).map (·.name))) (List.replicate i (.bool true)))]⟩
  have key := loop_first (step := loopS (evFn F C0 G0 (d + 3)) C0 G0 0 true [3, 11, 12, 13] c87L0) inv (packE l) l.length (.exit 0, ⟨(inv l.length).env ++ [(14, .p (.bool false))], (inv l.length).sto⟩) (fun i => (.ret, ⟨[(2, iv (packE l i))], (1, .arr (pkc (l.getD i pk0)) 0 1) :: (inv i).sto⟩))
   (st0 := ⟨[(3, .mp 0), (11, psl l), (12, iv l.length), (13, iv 0)], [(0, .map [] [])]⟩) rfl (fun i hi => by
    have hx := cP_drop l i hi
    have hlt : i * 4 < l.length * 4 := by omega
    have hlt' : (i : Int) < l.length := by omega
    have hgi := getD_at hi
    have hgo : l[i]? = some l[i] := List.getElem?_eq_getElem hi
    have h1 := name149 (n := d + 3) (by omega) l[i].name (hs _ (List.getElem_mem hi))
    have h1b := when107 (n := d + 3) (by omega) (!nameB l[i].name) 8
    have hnl : ((l.take i).map (·.name)).length = i := by simp; omega
    have hf := find_strs l[i].name ((l.take i).map (·.name))
    rw [hnl] at hf
    have h3 := fun b => when107 (n := d + 3) (by omega) b 9
    have h4 := within95 (n := d + 3) (by omega) l[i].force 0 10000
    have h5 := within95 (n := d + 3) (by omega) l[i].time 1 64
    have h6 := within95 (n := d + 3) (by omega) l[i].cost 0 1000000
    have h7 := first92_5 (n := d + 3) (by omega) (whenE (!nameB l[i].name) 8) (whenE (decide (l[i].name ∈ (l.take i).map (·.name))) 9) (rangeE 0 10000 l[i].force) (rangeE 1 64 l[i].time) (rangeE 0 1000000 l[i].cost)
    have he : packE l i = firstE [whenE (!nameB l[i].name) 8, whenE (decide (l[i].name ∈ (l.take i).map (·.name))) 9, rangeE 0 10000 l[i].force, rangeE 1 64 l[i].time, rangeE 0 1000000 l[i].cost] := by simp only [packE, hgi]
    rw [← he] at h7
    have ht : pStr ((l.take (i + 1)).map (·.name)) = pStr ((l.take i).map (·.name)) ++ [.str l[i].name] := by
     rw [← List.take_append_getElem hi, List.map_append, pStr_append]; rfl
    have hrep : List.replicate (i + 1) (PVal.bool true) = List.replicate i (.bool true) ++ [.bool true] := List.replicate_succ'
    by_cases hD : l[i].name ∈ (l.take i).map (·.name)
    ·have hne : packE l i ≠ 0 := by
      intro h0
      rw [he] at h0
      have := firstE_zero.1 h0 (whenE (decide (l[i].name ∈ (l.take i).map (·.name))) 9) (by simp)
      rw [decide_eq_true hD] at this
      simp [whenE] at this
     rw [if_pos hD] at hf
     rw [decide_eq_true hD] at h7
     refine ⟨fun hz => absurd hz hne, fun hz => ?_⟩
     generalize hN : (l.take i).map (·.name) = N at *
     simp -implicitDefEqProofs [inv, loopS_eq, c87L0, hx, hlt, hlt', hN, hf, h1, h1b, h3, h4, h5, h6, h7, hz, hgo, -List.map_take]
    ·rw [if_neg hD] at hf
     rw [decide_eq_false hD] at h7
     generalize hN : (l.take i).map (·.name) = N at *
     refine ⟨fun hz => ⟨⟨(inv (i + 1)).env, (1, .arr (pkc l[i]) 0 1) :: (inv (i + 1)).sto⟩, ?_, loopS_same rfl (by simp [inv])⟩, fun hz => ?_⟩
     ·simp -implicitDefEqProofs [inv, loopS_eq, c87L0, hx, hlt, hlt', hN, hf, h1, h1b, h3, h4, h5, h6, h7, hz, ht, hrep, wrap_succ (i := i) (by omega), -List.map_take]
     ·simp -implicitDefEqProofs [inv, loopS_eq, c87L0, hx, hlt, hlt', hN, hf, h1, h1b, h3, h4, h5, h6, h7, hz, hgo, -List.map_take]) (fun i => by simp) (by simp -implicitDefEqProofs [inv, loopS_eq, c87L0, -List.map_take]) (by simp) (fuel := loopFuel) (by simp [loopFuel]; omega)
  rw [hP]
  simp -implicitDefEqProofs [c87, h8]
  rcases key with ⟨k1, k2⟩ | ⟨j, hj, k1, k2, k3, _⟩
  ·rw [k1, k2]
   simp -implicitDefEqProofs [inv]
  ·rw [k1, k2]
   simp -implicitDefEqProofs [inv]
end Fw
end

section
set_option maxHeartbeats 8000000
namespace Fw
open Go

def targE (x : Int × Int) : Int := ivE 0 10000000 x
theorem target141 {n : Nat} (hn : 4 ≤ n) (x : Int × Int) : RUN n 141 [.agg [iv x.1, iv x.2]] = .ret (iv (targE x)) := by
 obtain ⟨d, rfl⟩ : ∃ d, n = d + 4 := ⟨n - 4, by omega⟩
 rw [RUN, call_eq fe141 _ rfl]
 simp -implicitDefEqProofs [c141, interval105 (n := d + 3) (by omega) x, targE]
theorem target81 {n : Nat} (hn : 4 ≤ n) (x : Int × Int) : RUN n 81 [.agg [iv x.1, iv x.2]] = .ret (iv (targE x)) := by
 obtain ⟨d, rfl⟩ : ∃ d, n = d + 4 := ⟨n - 4, by omega⟩
 rw [RUN, call_eq fe81 _ rfl]
 simp -implicitDefEqProofs [c81, ends102 (n := d + 3) (by omega) x, targE]
structure PkOk (x : PackI) : Prop where
 force : 0 ≤ x.force ∧ x.force ≤ 10000
 time : 1 ≤ x.time ∧ x.time ≤ 64
 cost : 0 ≤ x.cost ∧ x.cost ≤ 1000000
structure PksOk (l : List PackI) : Prop where
 few : l.length ≤ 8
 all : ∀ x ∈ l, PkOk x
theorem packs_of {l : List PackI} (h : packsE l = 0) : PksOk l := by
 unfold packsE at h
 split at h
 ·omega
 ·rename_i h8
  refine ⟨by omega, fun x hx => ?_⟩
  obtain ⟨i, hi, rfl⟩ := List.getElem_of_mem hx
  have h1 := firstE_zero.1 h (packE l i) (List.mem_map.2 ⟨i, by simpa using hi, rfl⟩)
  have h2 := firstE_zero.1 h1
  rw [getD_at hi] at h2
  exact ⟨rangeE_zero.1 (h2 (rangeE 0 10000 l[i].force) (by simp)), rangeE_zero.1 (h2 (rangeE 1 64 l[i].time) (by simp)), rangeE_zero.1 (h2 (rangeE 0 1000000 l[i].cost) (by simp))⟩

def impI (x : PackI) : Int := x.force * x.time
theorem imp_in {x : PackI} (h : PkOk x) : 0 ≤ impI x ∧ impI x ≤ 640000 := by
 have h1 : 0 ≤ x.force * x.time := Int.mul_nonneg h.force.1 (by have := h.time; omega)
 have h2 : x.force * x.time ≤ 10000 * x.time := Int.mul_le_mul_of_nonneg_right h.force.2 (by have := h.time; omega)
 have h3 := h.time
 unfold impI
 omega

theorem impulse142 {n : Nat} (hn : 1 ≤ n) {x : PackI} (h : PkOk x) : RUN n 142 [pka x] = .ret (iv (impI x)) := by
 obtain ⟨d, rfl⟩ : ∃ d, n = d + 1 := ⟨n - 1, by omega⟩
 rw [RUN, call_eq fe142 _ rfl]
 have h1 := imp_in h
 have w : IntKind.i64.wrap (x.force * x.time) = impI x := wrap64 (by unfold impI at h1; omega) (by unfold impI at h1; omega)
 simp -implicitDefEqProofs [c142, w]

/-! sets -/

def outB (n : Nat) (i : Int) : Bool := decide (i < 0) || decide ((n : Int) ≤ i)
def ordE (set : List Int) (k : Nat) : Int := if set.getD (k + 1) 0 ≤ set.getD k 0 then 11 else 0
def setEr (n : Nat) (set : List Int) : Int := if set.any (outB n) = true then 10 else firstE ((List.range (set.length - 1)).map (ordE set))

theorem out172 {n : Nat} (hn : 1 ≤ n) (l : List PackI) (i : Int) : RUN n 172 [iv i, .p (.pp [.sl (cP l) l.length])] = .ret (.p (.bool (outB l.length i))) := by
 obtain ⟨d, rfl⟩ : ∃ d, n = d + 1 := ⟨n - 1, by omega⟩
 rw [RUN, call_eq fe172 _ rfl]
 by_cases h : i < 0 <;> simp -implicitDefEqProofs [c172, h, outB]

theorem index190 {d : Nat} (c : List Int) (f : Nat) (caps : List PVal) (g : Int → Bool) (hn : ∀ p ∈ caps, nrm p = p) (hl : c.length < 1000000) (hf : ∀ x ∈ c, RUN d f (iv x :: caps.map .p) = .ret (.p (.bool (g x)))) :
  ∃ r : Int, RUN (d + 1) 190 [isl c, .p (.clo f [] caps)] = .ret (iv r) ∧ ((0 : Int) ≤ r ↔ c.any g = true) := by
 rw [RUN, call_eq fe190 _ rfl]
 let inv : Nat → St := fun i => ⟨[(0, isl c), (1, .p (.clo f [] caps)), (7, iv c.length), (8, iv i)], []⟩
 let e : Nat → Int := fun i => if g (c.getD i 0) = true then 1 else 0
 have key := loop_first (step := loopS (evFn F C0 G0 d) C0 G0 0 true [0, 1, 7, 8] c190L0) inv e c.length (.exit 0, ⟨(inv c.length).env ++ [(9, .p (.bool false))], []⟩) (fun i => (.ret, ⟨[(4, iv i)], []⟩))
  (st0 := ⟨[(0, isl c), (1, .p (.clo f [] caps)), (7, iv c.length), (8, iv 0)], []⟩) rfl (fun i hi => by
   have hlt' : (i : Int) < c.length := by omega
   have hgi : c.getD i 0 = c[i] := by simp [List.getD_eq_getElem?_getD, List.getElem?_eq_getElem hi]
   have hei : e i = if g c[i] = true then 1 else 0 := by simp only [e, hgi]
   have h1 := hf c[i] (List.getElem_mem hi)
   rw [hei]
   cases hg : g c[i] with
   | false =>
    rw [hg] at h1
    refine ⟨fun _ => ⟨inv (i + 1), ?_, rfl⟩, fun hz => absurd (by simp) hz⟩
    simp -implicitDefEqProofs [inv, loopS_eq, c190L0, hi, hlt', h1, Function.comp_def, nrm_list hn, wrap_succ (i := i) (by omega)]
   | true =>
    rw [hg] at h1
    refine ⟨fun hz => absurd hz (by simp), fun _ => ?_⟩
    simp -implicitDefEqProofs [inv, loopS_eq, c190L0, hi, hlt', h1, Function.comp_def, nrm_list hn]) (fun i => by simp) (by simp -implicitDefEqProofs [inv, loopS_eq, c190L0]) (by simp) (fuel := loopFuel) (by simp [loopFuel]; omega)
 generalize hB : c.any g = B
 simp -implicitDefEqProofs [c190]
 rcases key with ⟨k1, k2⟩ | ⟨j, hj, k1, k2, k3, _⟩
 ·refine ⟨-1, ?_, ?_⟩
  ·rw [k1]
   simp -implicitDefEqProofs [inv]
  ·have : c.any g = false := by
    rw [List.any_eq_false]
    intro x hx
    obtain ⟨i, hi, rfl⟩ := List.getElem_of_mem hx
    have h1 := firstE_zero.1 k2 (e i) (List.mem_map.2 ⟨i, by simpa using hi, rfl⟩)
    have hgi : c.getD i 0 = c[i] := by simp [List.getD_eq_getElem?_getD, List.getElem?_eq_getElem hi]
    intro hc
    simp only [e, hgi, hc, if_true] at h1
    omega
   rw [hB] at this; subst this; simp
 ·refine ⟨j, ?_, ?_⟩
  ·rw [k1]
   simp -implicitDefEqProofs
  ·have hgi : c.getD j 0 = c[j] := by simp [List.getD_eq_getElem?_getD, List.getElem?_eq_getElem hj]
   have : c.any g = true := by
    rw [List.any_eq_true]
    refine ⟨c[j], List.getElem_mem hj, ?_⟩
    refine Classical.byContradiction (fun hc => k3 ?_)
    simp only [e, hgi, if_neg hc]
   rw [hB] at this; subst this; simp

theorem contains171 {d : Nat} (c : List Int) (f : Nat) (caps : List PVal) (g : Int → Bool) (hn : ∀ p ∈ caps, nrm p = p) (hl : c.length < 1000000) (hf : ∀ x ∈ c, RUN d f (iv x :: caps.map .p) = .ret (.p (.bool (g x)))) :
  RUN (d + 2) 171 [isl c, .p (.clo f [] caps)] = .ret (.p (.bool (c.any g))) := by
 obtain ⟨r, h1, h2⟩ := index190 c f caps g hn hl hf
 rw [RUN, call_eq fe171 _ rfl]
 have h3 : decide (0 ≤ r) = c.any g := by rw [Bool.eq_iff_iff]; simpa using h2
 simp -implicitDefEqProofs [c171, h1, h3]

theorem order_loop {d : Nat} {live : List Nat} {body : ACode} (c : List Int) (J : Nat → St) (bad : Ex × St) (okx : Ex × St) (hb : bad.1 ≠ .normal) (ho : okx.1 ≠ .normal) (hl : c.length < 1000000)
  (hstep : ∀ k, (h : k + 1 < c.length) → (¬ c[k + 1] ≤ c[k] → loopS (evFn F C0 G0 d) C0 G0 0 false live body (J (k + 1)) = .ret (.normal, J (k + 2))) ∧ (c[k + 1] ≤ c[k] → loopS (evFn F C0 G0 d) C0 G0 0 false live body (J (k + 1)) = .ret bad))
  (hend : loopS (evFn F C0 G0 d) C0 G0 0 false live body (J (c.length - 1 + 1)) = .ret okx) :
  loopN (loopS (evFn F C0 G0 d) C0 G0 0 false live body) loopFuel (J 1) = .ret (if firstE ((List.range (c.length - 1)).map (ordE c)) = 0 then okx else bad) ∧ (firstE ((List.range (c.length - 1)).map (ordE c)) = 0 ∨ firstE ((List.range (c.length - 1)).map (ordE c)) = 11) := by
 have key := loop_first (step := loopS (evFn F C0 G0 d) C0 G0 0 false live body) (fun k => J (k + 1)) (ordE c) (c.length - 1) okx (fun _ => bad) (st0 := J 1) rfl (fun k hk => by
  have h1 : k + 1 < c.length := by omega
  have g1 : c.getD (k + 1) 0 = c[k + 1] := by simp [List.getD_eq_getElem?_getD, List.getElem?_eq_getElem h1]
  have g2 : c.getD k 0 = c[k] := by simp [List.getD_eq_getElem?_getD, List.getElem?_eq_getElem (show k < c.length by omega)]
  obtain ⟨s1, s2⟩ := hstep k h1
  refine ⟨fun hz => ⟨J (k + 2), s1 (fun hc => ?_), rfl⟩, fun hz => s2 ?_⟩
  ·simp only [ordE, g1, g2, if_pos hc] at hz
   omega
  ·refine Classical.byContradiction (fun hc => hz ?_)
   simp only [ordE, g1, g2, if_neg hc]) (fun _ => hb) hend ho (fuel := loopFuel) (by simp [loopFuel]; omega)
 rcases key with ⟨k1, k2⟩ | ⟨j, hj, k1, k2, k3, _⟩
 ·rw [k1, k2]; exact ⟨rfl, .inl rfl⟩
 ·rw [k1, k2, if_neg k3]
  refine ⟨rfl, .inr ?_⟩
  unfold ordE at k3 ⊢
  split
  ·rfl
  ·rename_i hc; rw [if_neg hc] at k3; exact absurd rfl k3

theorem set140 {n : Nat} (hn : 4 ≤ n) (l : List PackI) (set : List Int) (hl : set.length < 1000000) : RUN n 140 [psl l, isl set] = .ret (iv (setEr l.length set)) := by
 obtain ⟨d, rfl⟩ : ∃ d, n = d + 4 := ⟨n - 4, by omega⟩
 rw [RUN, call_eq fe140 _ rfl]
 have h1 := contains171 (d := d + 1) set 172 [.pp [.sl (cP l) l.length]] (outB l.length) (by simp) hl (fun x _ => out172 (n := d + 1) (by omega) l x)
 have hs : setEr l.length set = if set.any (outB l.length) = true then 10 else firstE ((List.range (set.length - 1)).map (ordE set)) := rfl
 rw [hs]
 cases ha : set.any (outB l.length) with
 | true =>
  rw [ha] at h1
  simp -implicitDefEqProofs [c140, h1]
 | false =>
  rw [ha] at h1
  let S : Sto := [(0, .box [psl l])]
  let J : Nat → St := fun i => ⟨[(1, isl set), (5, iv i)], S⟩
  obtain ⟨k1, k2⟩ := order_loop (d := d + 3) (live := [1, 5]) (body := c140L0) set J (.ret, ⟨[(4, iv 11)], S⟩) (.exit 0, ⟨[(1, isl set), (5, iv (set.length - 1 + 1 : Nat)), (12, .p (.bool false))], S⟩) (by simp) (by simp) hl (fun k hk => by
   have b1 : (k : Int) + 1 < set.length := by omega
   have b2 : (k : Int) < set.length := by omega
   have b3 : (0 : Int) ≤ (k : Int) + 1 := by omega
   have t1 : ((k : Int) + 1).toNat = k + 1 := by omega
   have e1 : (k : Int) + 1 - 1 = k := by omega
   have w1 := wrap64 (n := (k : Int)) (by omega) (by omega)
   have w2 := wrap64 (n := (k : Int) + 1 + 1) (by omega) (by omega)
   have hk2 : k < set.length := by omega
   refine ⟨fun hc => ?_, fun hc => ?_⟩
   ·simp -implicitDefEqProofs [J, S, loopS_eq, c140L0, b1, b2, b3, t1, e1, w1, w2, hk, hk2, hc]
    omega
   ·simp -implicitDefEqProofs [J, S, loopS_eq, c140L0, b1, b2, b3, t1, e1, w1, hk, hk2, hc]) (by
    have : ¬ ((set.length - 1 + 1 : Nat) : Int) < set.length := by omega
    generalize set.length - 1 + 1 = m at *
    simp -implicitDefEqProofs [J, S, loopS_eq, c140L0, this])
  simp only [J, S] at k1
  have k1' : loopN (loopS (evFn F C0 G0 (d + 3)) C0 G0 0 false [1, 5] c140L0) loopFuel ⟨[(1, isl set), (5, iv 1)], [(0, .box [psl l])]⟩ = _ := k1
  simp -implicitDefEqProofs [c140, h1]
  rw [k1']
  rcases k2 with k2 | k2
  ·rw [k2]
   simp -implicitDefEqProofs
  ·rw [k2]
   simp -implicitDefEqProofs

theorem set83 {n : Nat} (hn : 1 ≤ n) (l : List PackI) (set : List Int) (hl : set.length < 1000000) : RUN n 83 [psl l, isl set] = .ret (iv (setEr l.length set)) := by
 obtain ⟨d, rfl⟩ : ∃ d, n = d + 1 := ⟨n - 1, by omega⟩
 rw [RUN, call_eq fe83 _ rfl]
 have hs : setEr l.length set = if set.any (outB l.length) = true then 10 else firstE ((List.range (set.length - 1)).map (ordE set)) := rfl
 rw [hs]
 let inv : Nat → St := fun i => ⟨[(0, psl l), (1, isl set), (5, iv i)], []⟩
 let e : Nat → Int := fun i => if outB l.length (set.getD i 0) = true then 1 else 0
 have key := loop_first (step := loopS (evFn F C0 G0 d) C0 G0 0 false [0, 1, 5] c83L0) inv e set.length (.exit 0, ⟨(inv set.length).env ++ [(10, .p (.bool false))], []⟩) (fun i => (.ret, ⟨[(4, iv 10)], []⟩))
  (st0 := ⟨[(0, psl l), (1, isl set), (5, iv 0)], []⟩) rfl (fun i hi => by
   have hlt' : (i : Int) < set.length := by omega
   have hgi : set.getD i 0 = set[i] := by simp [List.getD_eq_getElem?_getD, List.getElem?_eq_getElem hi]
   have hei : e i = if outB l.length set[i] = true then 1 else 0 := by simp only [e, hgi]
   rw [hei]
   by_cases h1 : set[i] < 0
   ·have ho : outB l.length set[i] = true := by simp [outB, h1]
    refine ⟨fun hz => absurd hz (by simp [ho]), fun _ => ?_⟩
    simp -implicitDefEqProofs [inv, loopS_eq, c83L0, hi, hlt', h1]
   ·by_cases h2 : (l.length : Int) ≤ set[i]
    ·have ho : outB l.length set[i] = true := by simp [outB, h2]
     refine ⟨fun hz => absurd hz (by simp [ho]), fun _ => ?_⟩
     simp -implicitDefEqProofs [inv, loopS_eq, c83L0, hi, hlt', h1, h2]
    ·have ho : outB l.length set[i] = false := by simp only [outB, Bool.or_eq_false_iff, decide_eq_false_iff_not]; exact ⟨h1, h2⟩
     refine ⟨fun _ => ⟨inv (i + 1), ?_, rfl⟩, fun hz => absurd (by simp [ho]) hz⟩
     simp -implicitDefEqProofs [inv, loopS_eq, c83L0, hi, hlt', h1, h2, wrap_succ (i := i) (by omega)]) (fun i => by simp) (by simp -implicitDefEqProofs [inv, loopS_eq, c83L0]) (by simp) (fuel := loopFuel) (by simp [loopFuel]; omega)
 rcases key with ⟨k1, k2⟩ | ⟨j, hj, k1, k2, k3, _⟩
 ·have ha : set.any (outB l.length) = false := by
   rw [List.any_eq_false]
   intro x hx
   obtain ⟨i, hi, rfl⟩ := List.getElem_of_mem hx
   have h1 := firstE_zero.1 k2 (e i) (List.mem_map.2 ⟨i, by simpa using hi, rfl⟩)
   have hgi : set.getD i 0 = set[i] := by simp [List.getD_eq_getElem?_getD, List.getElem?_eq_getElem hi]
   intro hc
   simp only [e, hgi, hc, if_true] at h1
   omega
  rw [ha]
  let J : Nat → St := fun i => ⟨[(1, isl set), (6, iv i)], []⟩
  obtain ⟨q1, q2⟩ := order_loop (d := d) (live := [1, 6]) (body := c83L1) set J (.ret, ⟨[(4, iv 11)], []⟩) (.exit 2, ⟨[(1, isl set), (6, iv (set.length - 1 + 1 : Nat)), (30, .p (.bool false))], []⟩) (by simp) (by simp) hl (fun k hk => by
   have b1 : (k : Int) + 1 < set.length := by omega
   have b2 : (k : Int) < set.length := by omega
   have b3 : (0 : Int) ≤ (k : Int) + 1 := by omega
   have t1 : ((k : Int) + 1).toNat = k + 1 := by omega
   have e1 : (k : Int) + 1 - 1 = k := by omega
   have w1 := wrap64 (n := (k : Int)) (by omega) (by omega)
   have w2 := wrap64 (n := (k : Int) + 1 + 1) (by omega) (by omega)
   have hk2 : k < set.length := by omega
   refine ⟨fun hc => ?_, fun hc => ?_⟩
   ·simp -implicitDefEqProofs [J, loopS_eq, c83L1, b1, b2, b3, t1, e1, w1, w2, hk, hk2, hc]
    omega
   ·simp -implicitDefEqProofs [J, loopS_eq, c83L1, b1, b2, b3, t1, e1, w1, hk, hk2, hc]) (by
    have : ¬ ((set.length - 1 + 1 : Nat) : Int) < set.length := by omega
    generalize set.length - 1 + 1 = m at *
    simp -implicitDefEqProofs [J, loopS_eq, c83L1, this])
  simp only [J] at q1
  have q1' : loopN (loopS (evFn F C0 G0 d) C0 G0 0 false [1, 6] c83L1) loopFuel ⟨[(1, isl set), (6, iv 1)], []⟩ = _ := q1
  simp -implicitDefEqProofs [c83]
  rw [k1]
  simp -implicitDefEqProofs [inv]
  rw [q1']
  rcases q2 with q2 | q2
  ·rw [q2]
   simp -implicitDefEqProofs
  ·rw [q2]
   simp -implicitDefEqProofs
 ·have ha : set.any (outB l.length) = true := by
   have hgi : set.getD j 0 = set[j] := by simp [List.getD_eq_getElem?_getD, List.getElem?_eq_getElem hj]
   rw [List.any_eq_true]
   refine ⟨set[j], List.getElem_mem hj, ?_⟩
   refine Classical.byContradiction (fun hc => k3 ?_)
   simp only [e, hgi, if_neg hc]
  rw [ha]
  simp -implicitDefEqProofs [c83]
  rw [k1]
  simp -implicitDefEqProofs
end Fw
end

section
set_option maxHeartbeats 8000000
namespace Fw
open Go

def atI (l : List PackI) (set : List Int) (k : Nat) : PackI := l.getD (set.getD k 0).toNat pk0
def impF (l : List PackI) (set : List Int) : Nat → Int
 | 0 => 0
 | k + 1 => impF l set k + impI (atI l set k)
def cstF (l : List PackI) (set : List Int) : Nat → Int
 | 0 => 0
 | k + 1 => cstF l set k + (atI l set k).cost

def InR (n : Nat) (set : List Int) : Prop := ∀ i ∈ set, 0 ≤ i ∧ i < n
theorem set_of {n : Nat} {set : List Int} (h : setEr n set = 0) : InR n set := by
 unfold setEr at h
 split at h
 ·omega
 ·rename_i ha
  intro i hi
  refine Classical.byContradiction (fun hc => ha ?_)
  rw [List.any_eq_true]
  exact ⟨i, hi, by simp only [outB, Bool.or_eq_true, decide_eq_true_eq]; omega⟩

theorem InR.at {l : List PackI} {set : List Int} (h : InR l.length set) {k : Nat} (hk : k < set.length) : set[k].toNat < l.length ∧ set[k] = ((set[k].toNat : Nat) : Int) ∧ atI l set k = l.getD set[k].toNat pk0 := by
 have h1 := h set[k] (List.getElem_mem hk)
 have hg : set.getD k 0 = set[k] := by simp [List.getD_eq_getElem?_getD, List.getElem?_eq_getElem hk]
 exact ⟨by omega, by omega, by rw [atI, hg]⟩

theorem sums_in {l : List PackI} (hp : PksOk l) {set : List Int} (h : InR l.length set) : ∀ k, k ≤ set.length → (0 ≤ impF l set k ∧ impF l set k ≤ 640000 * (k : Int)) ∧ (0 ≤ cstF l set k ∧ cstF l set k ≤ 1000000 * (k : Int)) := by
 intro k
 induction k with
 | zero => intro _; simp [impF, cstF]
 | succ k ih =>
  intro hk
  have h1 := ih (by omega)
  obtain ⟨a1, a2, a3⟩ := h.at (show k < set.length by omega)
  have h2 : atI l set k ∈ l := by rw [a3, getD_at a1]; exact List.getElem_mem a1
  have h3 := hp.all _ h2
  have h4 := imp_in h3
  have h5 := h3.cost
  simp only [impF, cstF]
  omega

def fitB (l : List PackI) (set : List Int) (x : Int × Int) : Bool := decide (x.1 ≤ impF l set set.length) && decide (impF l set set.length ≤ x.2)
def badF (l : List PackI) (set : List Int) (x : Int × Int) : Int := firstE [packsE l, setEr l.length set, targE x]

theorem fits76 {n : Nat} (hn : 5 ≤ n) (l : List PackI) (set : List Int) (x : Int × Int) (hs : ∀ y ∈ l, y.name.length ≤ 9223372036854775807) (hl : set.length < 1000000) : RUN n 76 [psl l, isl set, .agg [iv x.1, iv x.2]] = .ret (.tup [.p (.bool (if badF l set x = 0 then fitB l set x else false)), iv (badF l set x)]) := by
 obtain ⟨d, rfl⟩ : ∃ d, n = d + 5 := ⟨n - 5, by omega⟩
 rw [RUN, call_eq fe76 _ rfl]
 have h1 := packs87 (n := d + 4) (by omega) l hs
 have h2 := set140 (n := d + 4) (by omega) l set hl
 have h3 := target141 (n := d + 4) (by omega) x
 have h4 := first92_3 (n := d + 4) (by omega) (packsE l) (setEr l.length set) (targE x)
 have e : firstE [packsE l, setEr l.length set, targE x] = badF l set x := rfl
 rw [e] at h4
 by_cases hz : badF l set x = 0
 ·have hz1 := firstE_zero.1 hz
  have hp := packs_of (hz1 (packsE l) (by simp))
  have hr := set_of (hz1 (setEr l.length set) (by simp))
  have hsm := sums_in hp hr
  let so : Obj := .arr [.int .i64 x.1, .int .i64 x.2] 0 1
  let inv : Nat → St := fun i => ⟨[(0, psl l), (5, .ptr 0 0 0), (9, iv (impF l set i)), (24, isl set), (25, iv set.length), (26, iv i)], [(0, so)]⟩
  rw [if_pos hz]
  simp -implicitDefEqProofs [c76, h1, h2, h3, h4, hz]
  rw [loop_run inv set.length (e := .exit 0) (st' := ⟨(inv set.length).env ++ [(27, .p (.bool false))], (inv set.length).sto⟩) (by simp)]
  ·have hf : fitB l set x = (decide (x.1 ≤ impF l set set.length) && decide (impF l set set.length ≤ x.2)) := rfl
   rw [hf]
   by_cases c1 : x.1 ≤ impF l set set.length <;> simp -implicitDefEqProofs [inv, so, c1]
  ·rfl
  ·intro i hi
   have hlt' : (i : Int) < set.length := by omega
   obtain ⟨a1, a2, a3⟩ := hr.at hi
   have hb := hsm (i + 1) (by omega)
   have hi1 : impF l set (i + 1) = impF l set i + impI (atI l set i) := rfl
   have hpk := hp.all _ (List.getElem_mem a1)
   have h5 := impulse142 (n := d + 4) (by omega) hpk
   rw [a3, getD_at a1] at hi1
   rw [hi1] at hb
   have w := wrap64 (n := impF l set i + impI l[set[i].toNat]) (by omega) (by omega)
   have hx := cP_drop l set[i].toNat a1
   generalize hT : set[i].toNat = t at *
   have b1 : (0 : Int) ≤ set[i] := by omega
   have b2 : set[i] < l.length := by omega
   have b3 : t * 4 < l.length * 4 := by omega
   have b4 : t * 4 + 4 ≤ l.length * 4 := by omega
   simp -implicitDefEqProofs [inv, so, loopS_eq, c76L0, hi, hlt', hT, hx, b1, b2, b3, h5, w, hi1, wrap_succ (i := i) (by omega)]
  ·simp -implicitDefEqProofs [inv, so, loopS_eq, c76L0]
  ·simp [loopFuel]; omega
 ·rw [if_neg hz]
  simp -implicitDefEqProofs [c76, h1, h2, h3, h4, hz]

/-! bounds -/

def bndF (l : List PackI) (price n0 : Int) : Nat → Int
 | 0 => n0
 | k + 1 => bndF l price n0 k + min 0 ((l.getD k pk0).cost - price * impI (l.getD k pk0))
def bnd0 (x : Int × Int) (price : Int) : Int := if price < 0 then price * x.2 else price * x.1
def badB (l : List PackI) (x : Int × Int) (price : Int) : Int := firstE [packsE l, targE x, rangeE (-1000) 1000 price]

theorem prod_price {p a b : Int} (hp : -1000 ≤ p ∧ p ≤ 1000) (ha : 0 ≤ a ∧ a ≤ b) : -(1000 * b) ≤ p * a ∧ p * a ≤ 1000 * b := by
 have h1 : p * a ≤ 1000 * a := Int.mul_le_mul_of_nonneg_right hp.2 ha.1
 have h2 : -1000 * a ≤ p * a := Int.mul_le_mul_of_nonneg_right hp.1 ha.1
 omega

theorem bnd_in {l : List PackI} (hp : PksOk l) {price n0 : Int} (hpr : -1000 ≤ price ∧ price ≤ 1000) : ∀ k, k ≤ l.length → n0 - 700000000 * (k : Int) ≤ bndF l price n0 k ∧ bndF l price n0 k ≤ n0 := by
 intro k
 induction k with
 | zero => intro _; simp [bndF]
 | succ k ih =>
  intro hk
  have h1 := ih (by omega)
  have h2 := hp.all _ (List.getElem_mem (show k < l.length by omega))
  have h3 := imp_in h2
  have h4 := prod_price hpr h3
  have h5 := h2.cost
  simp only [bndF, getD_at (show k < l.length by omega)]
  omega

theorem bound79 {n : Nat} (hn : 5 ≤ n) (l : List PackI) (x : Int × Int) (price : Int) (hs : ∀ y ∈ l, y.name.length ≤ 9223372036854775807) : RUN n 79 [psl l, .agg [iv x.1, iv x.2], iv price] = .ret (.tup [iv (if badB l x price = 0 then bndF l price (bnd0 x price) l.length else 0), iv (badB l x price)]) := by
 obtain ⟨d, rfl⟩ : ∃ d, n = d + 5 := ⟨n - 5, by omega⟩
 rw [RUN, call_eq fe79 _ rfl]
 have h1 := packs87 (n := d + 4) (by omega) l hs
 have h3 := target141 (n := d + 4) (by omega) x
 have h2 := within95 (n := d + 4) (by omega) price (-1000) 1000
 have h4 := first92_3 (n := d + 4) (by omega) (packsE l) (targE x) (rangeE (-1000) 1000 price)
 have e : firstE [packsE l, targE x, rangeE (-1000) 1000 price] = badB l x price := rfl
 rw [e] at h4
 by_cases hz : badB l x price = 0
 ·have hz1 := firstE_zero.1 hz
  have hp := packs_of (hz1 (packsE l) (by simp))
  have ht := ivE_zero.1 (show ivE 0 10000000 x = 0 from hz1 (targE x) (by simp))
  have hpr := rangeE_zero.1 (hz1 (rangeE (-1000) 1000 price) (by simp))
  have hfew := hp.few
  have q1 := prod_price hpr (a := x.1) (b := 10000000) (by omega)
  have q2 := prod_price hpr (a := x.2) (b := 10000000) (by omega)
  have w1 := wrap64 (n := price * x.1) (by omega) (by omega)
  have w2 := wrap64 (n := price * x.2) (by omega) (by omega)
  have h0 : -10000000000 ≤ bnd0 x price ∧ bnd0 x price ≤ 10000000000 := by unfold bnd0; split <;> omega
  have hin := bnd_in hp (n0 := bnd0 x price) hpr
  let inv : Nat → St := fun i => ⟨[(2, iv price), (9, iv (bndF l price (bnd0 x price) i)), (33, psl l), (34, iv l.length), (35, iv i)], [(0, .arr [.int .i64 x.1, .int .i64 x.2] 0 1)]⟩
  let inv2 : Nat → St := fun i => ⟨[(2, iv price), (9, iv (bndF l price (bnd0 x price) i)), (33, psl l), (34, iv l.length), (35, iv i)], []⟩
  have key : ∀ S : Sto, S = [(0, .arr [.int .i64 x.1, .int .i64 x.2] 0 1)] → loopN (loopS (evFn F C0 G0 (d + 4)) C0 G0 0 true [2, 9, 33, 34, 35] c79L0) loopFuel ⟨[(2, iv price), (9, iv (bnd0 x price)), (33, psl l), (34, iv l.length), (35, iv 0)], S⟩ = .ret (.exit 0, ⟨(inv2 l.length).env ++ [(36, .p (.bool false))], []⟩) := by
   rintro S rfl
   refine loop_run' inv2 l.length (e := .exit 0) (by simp) ?_ (fun i hi => ?_) ?_ (by simp [loopFuel]; omega)
   ·exact loopS_same rfl (by simp [inv2, bndF])
   ·have hlt' : (i : Int) < l.length := by omega
    have hx := cP_drop l i hi
    have hpk := hp.all _ (List.getElem_mem hi)
    have him := imp_in hpk
    have h5 := impulse142 (n := d + 4) (by omega) hpk
    have hb := hin (i + 1) (by omega)
    have hc := hpk.cost
    have q3 := prod_price hpr him
    have hs1 : bndF l price (bnd0 x price) (i + 1) = bndF l price (bnd0 x price) i + min 0 (l[i].cost - price * impI l[i]) := by simp only [bndF, getD_at hi]
    rw [hs1] at hb
    have w3 := wrap64 (n := price * impI l[i]) (by omega) (by omega)
    have w4 := wrap64 (n := l[i].cost - price * impI l[i]) (by omega) (by omega)
    have w5 := wrap64 (n := bndF l price (bnd0 x price) i + min 0 (l[i].cost - price * impI l[i])) (by omega) (by omega)
    have m1 := min2 0 (l[i].cost - price * impI l[i])
    have b3 : i * 4 < l.length * 4 := by omega
    have b4 : i * 4 + 4 ≤ l.length * 4 := by omega
    refine ⟨⟨(inv2 (i + 1)).env, [(0, .arr (pkc l[i]) 0 1)]⟩, ?_, loopS_same rfl (by simp [inv2])⟩
    simp -implicitDefEqProofs [inv2, loopS_eq, c79L0, hlt', hx, b3, h5, w3, w4, w5, m1, hs1, wrap_succ (i := i) (by omega)]
   ·simp -implicitDefEqProofs [inv2, loopS_eq, c79L0]
  have key := key _ rfl
  rw [if_pos hz]
  by_cases hneg : price < 0
  ·have hb0 : bnd0 x price = price * x.2 := by rw [bnd0, if_pos hneg]
   rw [hb0] at key
   simp -implicitDefEqProofs [c79, h1, h2, h3, h4, hz, w1, w2, hneg]
   rw [key]
   simp -implicitDefEqProofs [inv2, hb0]
  ·have hb0 : bnd0 x price = price * x.1 := by rw [bnd0, if_neg hneg]
   rw [hb0] at key
   simp -implicitDefEqProofs [c79, h1, h2, h3, h4, hz, w1, hneg]
   rw [key]
   simp -implicitDefEqProofs [inv2, hb0]
 ·rw [if_neg hz]
  simp -implicitDefEqProofs [c79, h1, h2, h3, h4, hz]

end Fw
end

section
set_option maxHeartbeats 8000000
namespace Fw
open Go

def cmpI (a b : Int) : Int := if a < b then -1 else if b < a then 1 else 0

theorem nan191 {n : Nat} (hn : 1 ≤ n) (a : Int) : RUN n 191 [iv a] = .ret (.p (.bool false)) := by
 obtain ⟨d, rfl⟩ : ∃ d, n = d + 1 := ⟨n - 1, by omega⟩
 rw [RUN, call_eq fe191 _ rfl]
 simp -implicitDefEqProofs [c191]
theorem cmp174 {n : Nat} (hn : 2 ≤ n) (a b : Int) : RUN n 174 [iv a, iv b] = .ret (iv (cmpI a b)) := by
 obtain ⟨d, rfl⟩ : ∃ d, n = d + 2 := ⟨n - 2, by omega⟩
 rw [RUN, call_eq fe174 _ rfl]
 have h1 := nan191 (n := d + 1) (by omega) a
 have h2 := nan191 (n := d + 1) (by omega) b
 unfold cmpI
 by_cases c1 : a < b
 ·simp -implicitDefEqProofs [c174, h1, h2, c1]
 ·by_cases c2 : b < a <;> simp -implicitDefEqProofs [c174, h1, h2, c1, c2]

theorem or173 {n : Nat} (hn : 1 ≤ n) (l : List Int) (hl : l.length < 1000000) : RUN n 173 [isl l] = .ret (iv (firstE l)) := by
 obtain ⟨d, rfl⟩ : ∃ d, n = d + 1 := ⟨n - 1, by omega⟩
 rw [RUN, call_eq fe173 _ rfl]
 let inv : Nat → St := fun i => ⟨[(3, iv 0), (6, isl l), (7, iv l.length), (8, iv i)], []⟩
 have hm : firstE l = firstE ((List.range l.length).map fun i => l.getD i 0) := by
  congr 1
  refine List.ext_getElem (by simp) (fun i h1 h2 => ?_)
  have : i < l.length := h1
  simp [List.getElem?_eq_getElem this]
 have key := loop_first (step := loopS (evFn F C0 G0 d) C0 G0 0 false [3, 6, 7, 8] c173L0) inv (fun i => l.getD i 0) l.length (.exit 0, ⟨(inv l.length).env ++ [(9, .p (.bool false))], []⟩) (fun i => (.ret, ⟨[(2, iv (l.getD i 0))], []⟩))
  (st0 := ⟨[(3, iv 0), (6, isl l), (7, iv l.length), (8, iv 0)], []⟩) rfl (fun i hi => by
   have hlt' : (i : Int) < l.length := by omega
   have hgo : l[i]? = some l[i] := List.getElem?_eq_getElem hi
   have hgi : l.getD i 0 = l[i] := by simp [List.getD_eq_getElem?_getD, hgo]
   rw [hgi]
   refine ⟨fun hz => ⟨inv (i + 1), ?_, rfl⟩, fun hz => ?_⟩
   ·simp -implicitDefEqProofs [inv, loopS_eq, c173L0, hi, hlt', hz, wrap_succ (i := i) (by omega)]
   ·simp -implicitDefEqProofs [inv, loopS_eq, c173L0, hi, hlt', hz]) (fun i => by simp) (by simp -implicitDefEqProofs [inv, loopS_eq, c173L0]) (by simp) (fuel := loopFuel) (by simp [loopFuel]; omega)
 simp -implicitDefEqProofs [c173]
 rw [hm]
 rcases key with ⟨k1, k2⟩ | ⟨j, hj, k1, k2, k3, _⟩
 ·rw [k1, k2]
  simp -implicitDefEqProofs [inv]
 ·rw [k1, k2]
  simp -implicitDefEqProofs
theorem or173_3 {n : Nat} (hn : 1 ≤ n) (a b c : Int) : RUN n 173 [.p (.sl [.int .i64 a, .int .i64 b, .int .i64 c] 3)] = .ret (iv (firstE [a, b, c])) := or173 hn [a, b, c] (by simp)

def lexE (a b : List Int) (k : Nat) : Int := cmpI (a.getD k 0) (b.getD k 0)
def lexI (a b : List Int) : Int := firstE ((List.range a.length).map (lexE a b))
def beforeB (a b : List Int) : Bool := if a.length = b.length then decide (lexI a b < 0) else decide (a.length < b.length)
end Fw
end

