/- Names: the record chapter and its reference. -/
import Derived.Test.YtombnimlolbekaaGreatDoorPuT1
set_option maxHeartbeats 8000000
namespace Fw
open Go
attribute [local irreducible] evCode evOps evOpsD evOper evOperD evOp evFn loopN T.All T.bind callPure callOp opsK opsDK restK seqK blockK loopS setK setQ giveK scalK gcK finish finS rfunK yldK yldB loopK

def letB (b : Nat) : Bool := (decide (97 ≤ b) && decide (b ≤ 122)) || (decide (65 ≤ b) && decide (b ≤ 90))
def tailB (b : Nat) : Bool := (decide (48 ≤ b) && decide (b ≤ 57)) || decide (b = 95)
def nameE (l : List UInt8) (i : Nat) : Int := if (letB (l.getD i 0).toNat || (decide (0 < i) && tailB (l.getD i 0).toNat)) = true then 0 else 1
def nameB (l : List UInt8) : Bool := decide (l ≠ []) && decide (l.length ≤ 24) && decide (firstE ((List.range l.length).map (nameE l)) = 0)

theorem name149 {n : Nat} (hn : 1 ≤ n) (l : List UInt8) (hl : l.length ≤ 9223372036854775807) : RUN n 149 [sv l] = .ret (.p (.bool (nameB l))) := by
  obtain ⟨d, rfl⟩ : ∃ d, n = d + 1 := ⟨n - 1, by omega⟩
  rw [RUN, call_eq fe149 _ rfl]
  let inv : Nat → St := fun i => ⟨[(0, sv l), (7, .it 0)], [(0, .siter l i)]⟩
  have key := loop_first (step := loopS (evFn F C0 G0 d) C0 G0 0 false [0, 7] c149L0) inv (nameE l) l.length (.exit 0, ⟨[(0, sv l), (7, .it 0), (8, .tup [.p (.bool false)]), (9, .p (.bool false))], [(0, .siter l l.length)]⟩) (fun i => (.ret, ⟨[(2, .p (.bool false))], [(0, .siter l (i + (Utf8.decode ⟨l.toArray⟩ i).2))]⟩))
          (st0 := ⟨[(0, sv l), (7, .it 0)], [(0, .siter l 0)]⟩) rfl (fun i hi => by
            have hgi : l.getD i 0 = l[i] := by simp [List.getD_eq_getElem?_getD, List.getElem?_eq_getElem hi]
            have he : nameE l i = if (letB l[i].toNat || (decide (0 < i) && tailB l[i].toNat)) = true then 0 else 1 := by simp only [nameE, hgi]
            rw [he]
            by_cases ha : l[i].toNat < 128
            · have hdc := decode_lo l i hi ha
              generalize l[i].toNat = b at *
              by_cases h1 : letB b = true
              · refine ⟨fun _ => ⟨⟨(inv (i + 1)).env ++ [(43, .p (.bool false))], (inv (i + 1)).sto⟩, ?_, by simp -implicitDefEqProofs [inv, loopS_eq]⟩, fun h => absurd (by simp [h1]) h⟩
                have h1' : (97 ≤ b ∧ b ≤ 122) ∨ (65 ≤ b ∧ b ≤ 90) := by simpa [letB] using h1
                rcases h1' with ⟨q1, q2⟩ | ⟨q1, q2⟩
                · have r1 : (97 : Int) ≤ (b : Int) := by omega
                  have r2 : (b : Int) ≤ 122 := by omega
                  simp -implicitDefEqProofs [inv, loopS_eq, c149L0, hi, hdc, r1, r2]
                · have r1 : ¬ (97 : Int) ≤ (b : Int) := by omega
                  have r3 : (65 : Int) ≤ (b : Int) := by omega
                  have r4 : (b : Int) ≤ 90 := by omega
                  have n1 : ¬ 97 ≤ b := by omega
                  simp -implicitDefEqProofs [inv, loopS_eq, c149L0, hi, hdc, r1, r3, r4]
              · have h1' : ¬ ((97 ≤ b ∧ b ≤ 122) ∨ (65 ≤ b ∧ b ≤ 90)) := by simpa [letB] using h1
                have cases4 : ((¬ (97 : Int) ≤ (b : Int) ∧ ¬ 97 ≤ b) ∨ (((97 : Int) ≤ (b : Int) ∧ 97 ≤ b) ∧ (¬ (b : Int) ≤ 122 ∧ ¬ b ≤ 122))) ∧ ((¬ (65 : Int) ≤ (b : Int) ∧ ¬ 65 ≤ b) ∨ (((65 : Int) ≤ (b : Int) ∧ 65 ≤ b) ∧ (¬ (b : Int) ≤ 90 ∧ ¬ b ≤ 90))) := by omega
                by_cases h0 : i = 0
                · subst h0
                  refine ⟨fun h => absurd h (by simp [h1]), fun _ => ?_⟩
                  rcases cases4 with ⟨⟨r1, n1⟩ | ⟨⟨r1, n1⟩, r2, n2⟩, ⟨r3, n3⟩ | ⟨⟨r3, n3⟩, r4, n4⟩⟩ <;> clear h1' <;> simp -implicitDefEqProofs [inv, loopS_eq, c149L0, *]
                · have hz0 : ((i : Int) == 0) = false := by simp; omega
                  have hpos : 0 < i := by omega
                  by_cases h2 : tailB b = true
                  · refine ⟨fun _ => ⟨⟨(inv (i + 1)).env ++ [(43, .p (.bool false))], (inv (i + 1)).sto⟩, ?_, by simp -implicitDefEqProofs [inv, loopS_eq]⟩, fun h => absurd (by simp [h2, hpos]) h⟩
                    have h2' : (48 ≤ b ∧ b ≤ 57) ∨ b = 95 := by simpa [tailB] using h2
                    rcases h2' with ⟨q1, q2⟩ | q1
                    · have r5 : ((b : Int) != 95) = true := by simp; omega
                      have r6 : ¬ (b : Int) < 48 := by omega
                      have r7 : ¬ (57 : Int) < (b : Int) := by omega
                      have n6 : ¬ b < 48 := by omega
                      have n7 : ¬ 57 < b := by omega
                      rcases cases4 with ⟨⟨r1, n1⟩ | ⟨⟨r1, n1⟩, r2, n2⟩, ⟨r3, n3⟩ | ⟨⟨r3, n3⟩, r4, n4⟩⟩ <;> clear h1' <;> simp -implicitDefEqProofs [inv, loopS_eq, c149L0, *]
                    · have r5 : ((b : Int) != 95) = false := by simp; omega
                      rcases cases4 with ⟨⟨r1, n1⟩ | ⟨⟨r1, n1⟩, r2, n2⟩, ⟨r3, n3⟩ | ⟨⟨r3, n3⟩, r4, n4⟩⟩ <;> clear h1' <;> simp -implicitDefEqProofs [inv, loopS_eq, c149L0, *]
                  · refine ⟨fun h => absurd h (by simp [h1, h2]), fun _ => ?_⟩
                    have h2' : ¬ ((48 ≤ b ∧ b ≤ 57) ∨ b = 95) := by simpa [tailB] using h2
                    have r5 : ((b : Int) != 95) = true := by simp; omega
                    have c5 : ((b : Int) < 48 ∧ b < 48) ∨ ((¬ (b : Int) < 48 ∧ ¬ b < 48) ∧ ((57 : Int) < (b : Int) ∧ 57 < b)) := by omega
                    clear h2'
                    rcases c5 with ⟨r6, n6⟩ | ⟨⟨r6, n6⟩, r7, n7⟩ <;> rcases cases4 with ⟨⟨r1, n1⟩ | ⟨⟨r1, n1⟩, r2, n2⟩, ⟨r3, n3⟩ | ⟨⟨r3, n3⟩, r4, n4⟩⟩ <;> clear h1' <;> simp -implicitDefEqProofs [inv, loopS_eq, c149L0, *]
            · have hdc := decode_hi l i hi (by omega)
              have h1 : letB l[i].toNat = false := by simp [letB]; omega
              have h2 : tailB l[i].toNat = false := by simp [tailB]; omega
              refine ⟨fun h => absurd h (by simp [h1, h2]), fun _ => ?_⟩
              generalize hdq : Utf8.decode ⟨l.toArray⟩ i = dc at *
              have r1 : (97 : Int) ≤ (dc.1 : Int) := by omega
              have r2 : ¬ (dc.1 : Int) ≤ 122 := by omega
              have r3 : (65 : Int) ≤ (dc.1 : Int) := by omega
              have r4 : ¬ (dc.1 : Int) ≤ 90 := by omega
              have r5 : ((dc.1 : Int) != 95) = true := by simp; omega
              have r6 : ¬ (dc.1 : Int) < 48 := by omega
              have r7 : (57 : Int) < (dc.1 : Int) := by omega
              cases hz0 : ((i : Int) == 0) <;> simp -implicitDefEqProofs [inv, loopS_eq, c149L0, hi, hdq, r1, r2, r3, r4, r5, r6, r7, hz0]) (fun i => by simp) (by simp -implicitDefEqProofs [inv, loopS_eq, c149L0]) (by simp) (fuel := loopFuel) (by simp [loopFuel]; omega)
  simp -implicitDefEqProofs [c149]
  rcases key with ⟨k1, k2⟩ | ⟨j, hj, k1, k2, k3, _⟩
  · rw [k1]
    by_cases h0 : l = []
    · subst h0
      have : nameB [] = false := rfl
      simp -implicitDefEqProofs [strBin, this]
    · have hb0 : (l == []) = false := by simpa using h0
      have hN : nameB l = decide (l.length ≤ 24) := by simp [nameB, h0, k2]
      have h24 : decide ((l.length : Int) ≤ 24) = decide (l.length ≤ 24) := by rw [Bool.eq_iff_iff]; simp; omega
      simp -implicitDefEqProofs [strBin, hb0, hN, h24]
  · have hN : nameB l = false := by
      have : firstE ((List.range l.length).map (nameE l)) ≠ 0 := by rw [k2]; exact k3
      simp [nameB, this]
    rw [k1]
    simp -implicitDefEqProofs [hN]

theorem name177 {n : Nat} (hn : 1 ≤ n) (l : List UInt8) : RUN n 177 [sv l] = .ret (.p (.bool (nameB l))) := by
  obtain ⟨d, rfl⟩ : ∃ d, n = d + 1 := ⟨n - 1, by omega⟩
  rw [RUN, call_eq fe177 _ rfl]
  by_cases h0 : l = []
  · subst h0
    have : nameB [] = false := rfl
    simp -implicitDefEqProofs [c177, this]
  · have hpos : 0 < l.length := List.length_pos_iff.2 h0
    have hz : ((l.length : Int) == 0) = false := by simp; omega
    by_cases h24 : (24 : Int) < l.length
    · have hN : nameB l = false := by simp [nameB]; omega
      simp -implicitDefEqProofs [c177, hz, h24, hN]
    · let inv : Nat → St := fun i => ⟨[(0, sv l), (3, iv i)], []⟩
      have key := loop_first (step := loopS (evFn F C0 G0 d) C0 G0 0 false [0, 3] c177L0) inv (nameE l) l.length (.exit 0, ⟨(inv l.length).env ++ [(17, .p (.bool false))], []⟩) (fun i => (.ret, ⟨[(2, .p (.bool false))], []⟩))
          (st0 := ⟨[(0, sv l), (3, iv 0)], []⟩) rfl (fun i hi => by
            have hgi : l.getD i 0 = l[i] := by simp [List.getD_eq_getElem?_getD, List.getElem?_eq_getElem hi]
            have hgo : l[i]? = some l[i] := List.getElem?_eq_getElem hi
            have hlt : (i : Int) < l.length := by omega
            have he : nameE l i = if (letB l[i].toNat || (decide (0 < i) && tailB l[i].toNat)) = true then 0 else 1 := by simp only [nameE, hgi]
            rw [he]
            generalize hbq : l[i].toNat = b at *
            by_cases h1 : letB b = true
            · refine ⟨fun _ => ⟨inv (i + 1), ?_, rfl⟩, fun h => absurd (by simp [h1]) h⟩
              have h1' : (97 ≤ b ∧ b ≤ 122) ∨ (65 ≤ b ∧ b ≤ 90) := by simpa [letB] using h1
              rcases h1' with ⟨q1, q2⟩ | ⟨q1, q2⟩
              · have r1 : (97 : Int) ≤ (b : Int) := by omega
                have r2 : (b : Int) ≤ 122 := by omega
                have r3 : (65 : Int) ≤ (b : Int) := by omega
                have r4 : ¬ (b : Int) ≤ 90 := by omega
                have s1 : (48 : Int) ≤ (b : Int) := by omega
                have s2 : ¬ (b : Int) ≤ 57 := by omega
                cases r5 : ((b : Int) == 95) <;> simp -implicitDefEqProofs [inv, loopS_eq, c177L0, hlt, hgo, hbq, r1, r2, r3, r4, s1, s2, r5, wrap_succ (i := i) (by omega)]
              · have r1 : (65 : Int) ≤ (b : Int) := by omega
                have r2 : (b : Int) ≤ 90 := by omega
                have s1 : (48 : Int) ≤ (b : Int) := by omega
                have s2 : ¬ (b : Int) ≤ 57 := by omega
                cases r5 : ((b : Int) == 95) <;> simp -implicitDefEqProofs [inv, loopS_eq, c177L0, hlt, hgo, hbq, r1, r2, s1, s2, r5, wrap_succ (i := i) (by omega)]
            · have h1' : ¬ ((97 ≤ b ∧ b ≤ 122) ∨ (65 ≤ b ∧ b ≤ 90)) := by simpa [letB] using h1
              have cases4 : ((¬ (97 : Int) ≤ (b : Int)) ∨ ((97 : Int) ≤ (b : Int) ∧ ¬ (b : Int) ≤ 122)) ∧ ((¬ (65 : Int) ≤ (b : Int)) ∨ ((65 : Int) ≤ (b : Int) ∧ ¬ (b : Int) ≤ 90)) := by omega
              have casesT : (tailB b = true ∧ ((48 : Int) ≤ (b : Int) ∧ (b : Int) ≤ 57)) ∨ (tailB b = true ∧ ((48 : Int) ≤ (b : Int) ∧ ¬ (b : Int) ≤ 57 ∧ ((b : Int) == 95) = true)) ∨ (tailB b = false ∧ ((¬ (48 : Int) ≤ (b : Int) ∧ ((b : Int) == 95) = false))) ∨ (tailB b = false ∧ ((48 : Int) ≤ (b : Int) ∧ ¬ (b : Int) ≤ 57 ∧ ((b : Int) == 95) = false)) := by
                simp only [tailB, Bool.or_eq_true, Bool.and_eq_true, decide_eq_true_eq, Bool.or_eq_false_iff, Bool.and_eq_false_iff, decide_eq_false_iff_not, beq_iff_eq, beq_eq_false_iff_ne]
                omega
              by_cases h0 : i = 0
              · subst h0
                refine ⟨fun h => absurd h (by simp [h1]), fun _ => ?_⟩
                rcases casesT with ⟨_, s1, s2⟩ | ⟨_, s1, s2, s3⟩ | ⟨_, s1, s3⟩ | ⟨_, s1, s2, s3⟩ <;> rcases cases4 with ⟨r1 | ⟨r1, r2⟩, r3 | ⟨r3, r4⟩⟩ <;> simp -implicitDefEqProofs [inv, loopS_eq, c177L0, *]
              · have hz0 : ((i : Int) == 0) = false := by simp; omega
                have hpos : 0 < i := by omega
                have hw := wrap_succ (i := i) (by omega)
                rcases casesT with ⟨t, s1, s2⟩ | ⟨t, s1, s2, s3⟩ | ⟨t, s1, s3⟩ | ⟨t, s1, s2, s3⟩
                · refine ⟨fun _ => ⟨inv (i + 1), ?_, rfl⟩, fun h => absurd (by simp [t, hpos]) h⟩
                  rcases cases4 with ⟨r1 | ⟨r1, r2⟩, r3 | ⟨r3, r4⟩⟩ <;> simp -implicitDefEqProofs [inv, loopS_eq, c177L0, *]
                · refine ⟨fun _ => ⟨inv (i + 1), ?_, rfl⟩, fun h => absurd (by simp [t, hpos]) h⟩
                  rcases cases4 with ⟨r1 | ⟨r1, r2⟩, r3 | ⟨r3, r4⟩⟩ <;> simp -implicitDefEqProofs [inv, loopS_eq, c177L0, *]
                · refine ⟨fun h => absurd h (by simp [h1, t]), fun _ => ?_⟩
                  rcases cases4 with ⟨r1 | ⟨r1, r2⟩, r3 | ⟨r3, r4⟩⟩ <;> simp -implicitDefEqProofs [inv, loopS_eq, c177L0, *]
                · refine ⟨fun h => absurd h (by simp [h1, t]), fun _ => ?_⟩
                  rcases cases4 with ⟨r1 | ⟨r1, r2⟩, r3 | ⟨r3, r4⟩⟩ <;> simp -implicitDefEqProofs [inv, loopS_eq, c177L0, *]) (fun i => by simp) (by simp -implicitDefEqProofs [inv, loopS_eq, c177L0]) (by simp) (fuel := loopFuel) (by simp [loopFuel]; omega)
      simp -implicitDefEqProofs [c177, hz, h24]
      rcases key with ⟨k1, k2⟩ | ⟨j, hj, k1, k2, k3, _⟩
      · have hN : nameB l = true := by simp [nameB, h0, k2]; omega
        rw [k1]
        simp -implicitDefEqProofs [inv, hN]
      · have hN : nameB l = false := by
          have : firstE ((List.range l.length).map (nameE l)) ≠ 0 := by rw [k2]; exact k3
          simp [nameB, this]
        rw [k1]
        simp -implicitDefEqProofs [hN]
end Fw
