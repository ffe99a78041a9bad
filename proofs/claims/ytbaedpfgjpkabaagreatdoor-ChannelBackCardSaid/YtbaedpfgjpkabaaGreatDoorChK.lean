/- What is alike in several chapters: errors, ranges, names, strings. -/
import Derived.Test.YtbaedpfgjpkabaaGreatDoorChC
import Derived.Test.YtbaedpfgjpkabaaGreatDoorFwC
set_option maxHeartbeats 8000000
namespace Fw
open Go
attribute [local irreducible] evCode evOps evOpsD evOper evOperD evOp evFn loopN T.All T.bind callPure callOp opsK opsDK restK seqK blockK loopS setK setQ giveK scalK gcK finish finS rfunK yldK yldB loopK

abbrev iv (n : Int) : AVal := .p (.int .i64 n)
abbrev RUN (n f : Nat) (args : List AVal) : T AVal := callPure (evFn F C0 G0 n) C0 (.fn f) args

def whenE (b : Bool) (e : Int) : Int := if b then e else 0
def rangeE (lo hi n : Int) : Int := if n < lo ∨ hi < n then 3 else 0

theorem when104 {n : Nat} (hn : 1 ≤ n) (b : Bool) (e : Int) : RUN n 104 [.p (.bool b), iv e] = .ret (iv (whenE b e)) := by
  obtain ⟨d, rfl⟩ : ∃ d, n = d + 1 := ⟨n - 1, by omega⟩
  rw [RUN, call_eq fe104 _ rfl]
  cases b <;> simp [c104, whenE]
theorem when109 {n : Nat} (hn : 1 ≤ n) (b : Bool) (e : Int) : RUN n 109 [.p (.bool b), iv e] = .ret (iv (whenE b e)) := by
  obtain ⟨d, rfl⟩ : ∃ d, n = d + 1 := ⟨n - 1, by omega⟩
  rw [RUN, call_eq fe109 _ rfl]
  cases b <;> simp [c109, whenE]

theorem within111 {n : Nat} (hn : 2 ≤ n) (x lo hi : Int) : RUN n 111 [iv x, iv lo, iv hi] = .ret (iv (rangeE lo hi x)) := by
  obtain ⟨d, rfl⟩ : ∃ d, n = d + 2 := ⟨n - 2, by omega⟩
  rw [RUN, call_eq fe111 _ rfl]
  have hw := fun b e => when104 (n := d + 1) (by omega) b e
  by_cases h1 : x < lo <;> by_cases h2 : hi < x <;> simp [c111, h1, h2, hw, whenE, rangeE]
theorem range108 {n : Nat} (hn : 2 ≤ n) (x lo hi : Int) : RUN n 108 [iv x, iv lo, iv hi] = .ret (iv (rangeE lo hi x)) := by
  obtain ⟨d, rfl⟩ : ∃ d, n = d + 2 := ⟨n - 2, by omega⟩
  rw [RUN, call_eq fe108 _ rfl]
  have hw := fun b e => when109 (n := d + 1) (by omega) b e
  by_cases h1 : x < lo <;> by_cases h2 : hi < x <;> simp [c108, h1, h2, hw, whenE, rangeE]

theorem first103 {n : Nat} (hn : 1 ≤ n) (l : List Int) (hl : l.length < 1000000) : RUN n 103 [.p (.sl (pI l) l.length)] = .ret (iv (firstE l)) := by
  obtain ⟨d, rfl⟩ : ∃ d, n = d + 1 := ⟨n - 1, by omega⟩
  exact first_ok (m103 ▸ fe103) (fun _ => rfl) l hl

theorem first29 {n : Nat} (hn : 1 ≤ n) (l : List Int) (hl : l.length < 1000000) : RUN n 29 [.p (.sl (pI l) l.length)] = .ret (iv (firstE l)) := by
  obtain ⟨d, rfl⟩ : ∃ d, n = d + 1 := ⟨n - 1, by omega⟩
  rw [RUN, call_eq fe29 _ rfl]
  let inv : Nat → St := fun i => ⟨[(0, .p (.sl (pI l) l.length)), (3, iv i)], []⟩
  let out : Nat → Ex × St := fun i => if firstE (l.drop i) = 0 then (.exit 0, ⟨[(0, .p (.sl (pI l) l.length)), (3, iv l.length), (7, .p (.bool false))], []⟩) else (.ret, ⟨[(2, iv (firstE (l.drop i)))], []⟩)
  simp [c29]
  rw [loop_rec inv out l.length (by rfl)]
  · by_cases h : firstE l = 0 <;> simp [out, h]
  · intro i hi
    have hx : l[i]? = some l[i] := List.getElem?_eq_getElem hi
    have hd : firstE (l.drop i) = if l[i] = 0 then firstE (l.drop (i + 1)) else l[i] := by rw [List.drop_eq_getElem_cons hi]; rfl
    by_cases h : l[i] = 0
    · refine .inl ⟨?_, ?_⟩
      · simp [inv, loopS_eq, c29L0, hi, h, wrap_succ (i := i) (by omega)]
      · simp [out, hd, h]
    · refine .inr ⟨?_, ?_⟩
      · simp [inv, loopS_eq, c29L0, hi, h, out, hd]
      · simp [out, hd, h]
  · simp [inv, loopS_eq, c29L0, out, firstE]
  · simp [loopFuel]; omega

/-- a list that is written out -/
theorem first103_2 {n : Nat} (hn : 1 ≤ n) (a b : Int) : RUN n 103 [.p (.sl [.int .i64 a, .int .i64 b] 2)] = .ret (iv (firstE [a, b])) := first103 hn [a, b] (by simp)
theorem first103_3 {n : Nat} (hn : 1 ≤ n) (a b c : Int) : RUN n 103 [.p (.sl [.int .i64 a, .int .i64 b, .int .i64 c] 3)] = .ret (iv (firstE [a, b, c])) := first103 hn [a, b, c] (by simp)
theorem first29_3 {n : Nat} (hn : 1 ≤ n) (a b c : Int) : RUN n 29 [.p (.sl [.int .i64 a, .int .i64 b, .int .i64 c] 3)] = .ret (iv (firstE [a, b, c])) := first29 hn [a, b, c] (by simp)
/-- the error of an interval -/
def ivE (lo hi : Int) (x : Int × Int) : Int := firstE [rangeE lo hi x.1, rangeE lo hi x.2, whenE (decide (x.2 < x.1)) 11]

theorem interval121 {n : Nat} (hn : 3 ≤ n) (x : Int × Int) (lo hi : Int) : RUN n 121 [.agg [iv x.1, iv x.2], iv lo, iv hi] = .ret (iv (ivE lo hi x)) := by
  obtain ⟨d, rfl⟩ : ∃ d, n = d + 3 := ⟨n - 3, by omega⟩
  rw [RUN, call_eq fe121 _ rfl]
  simp [c121, within111 (n := d + 2), when104 (n := d + 2), first103_3 (n := d + 2), ivE]

theorem ends84 {n : Nat} (hn : 3 ≤ n) (x : Int × Int) (lo hi : Int) : RUN n 84 [.agg [iv x.1, iv x.2], iv lo, iv hi] = .ret (iv (ivE lo hi x)) := by
  obtain ⟨d, rfl⟩ : ∃ d, n = d + 3 := ⟨n - 3, by omega⟩
  rw [RUN, call_eq fe84 _ rfl]
  simp [c84, range108 (n := d + 2), when109 (n := d + 2), first29_3 (n := d + 2), ivE]
abbrev isl (l : List Int) : AVal := .p (.sl (pI l) l.length)
abbrev csl (c : List (Int × Int)) : AVal := .p (.sl (cI c) c.length)

theorem firstE_cons (e : Int) (r : List Int) : firstE (e :: r) = if e = 0 then firstE r else e := rfl

theorem firstE_zero {l : List Int} : firstE l = 0 ↔ ∀ e ∈ l, e = 0 := by
  induction l with
  | nil => simp [firstE]
  | cons e r ih =>
    rw [firstE_cons]
    by_cases h : e = 0 <;> simp [h, ih]

/-- the least and the greatest of the first numbers but one -/
def loF (l : List Int) : Nat → Int
  | 0 => l.getD 0 0
  | k + 1 => min (loF l k) (l.getD (k + 1) 0)
def hiF (l : List Int) : Nat → Int
  | 0 => l.getD 0 0
  | k + 1 => max (hiF l k) (l.getD (k + 1) 0)

theorem max2 (a b : Int) : maxInt a [iv b] = some (max a b) := by
  simp only [maxInt]; congr 1; split <;> omega
abbrev sv (l : List UInt8) : AVal := .p (.str l)
def letB (b : Nat) : Bool := (decide (97 ≤ b) && decide (b ≤ 122)) || (decide (65 ≤ b) && decide (b ≤ 90))
def tailB (b : Nat) : Bool := (decide (48 ≤ b) && decide (b ≤ 57)) || decide (b = 95)
def nameE (l : List UInt8) (i : Nat) : Int := if (letB (l.getD i 0).toNat || (decide (0 < i) && tailB (l.getD i 0).toNat)) = true then 0 else 1
def nameB (l : List UInt8) : Bool := decide (l ≠ []) && decide (l.length ≤ 24) && decide (firstE ((List.range l.length).map (nameE l)) = 0)

theorem name106 {n : Nat} (hn : 1 ≤ n) (l : List UInt8) (hl : l.length ≤ 9223372036854775807) : RUN n 106 [sv l] = .ret (.p (.bool (nameB l))) := by
  obtain ⟨d, rfl⟩ : ∃ d, n = d + 1 := ⟨n - 1, by omega⟩
  rw [RUN, call_eq fe106 _ rfl]
  let inv : Nat → St := fun i => ⟨[(0, sv l), (7, .it 0)], [(0, .siter l i)]⟩
  have key := loop_first (step := loopS (evFn F C0 G0 d) C0 G0 0 false [0, 7] c106L0) inv (nameE l) l.length (.exit 0, ⟨[(0, sv l), (7, .it 0), (8, .tup [.p (.bool false)]), (9, .p (.bool false))], [(0, .siter l l.length)]⟩) (fun i => (.ret, ⟨[(2, .p (.bool false))], [(0, .siter l (i + (Utf8.decode ⟨l.toArray⟩ i).2))]⟩))
          (st0 := ⟨[(0, sv l), (7, .it 0)], [(0, .siter l 0)]⟩) rfl (fun i hi => by
            have hgi : l.getD i 0 = l[i] := by simp [List.getD_eq_getElem?_getD, List.getElem?_eq_getElem hi]
            have he : nameE l i = if (letB l[i].toNat || (decide (0 < i) && tailB l[i].toNat)) = true then 0 else 1 := by simp only [nameE, hgi]
            rw [he]
            by_cases ha : l[i].toNat < 128
            · have hdc := decode_lo l i hi ha
              generalize l[i].toNat = b at *
              by_cases h1 : letB b = true
              · refine ⟨fun _ => ⟨⟨(inv (i + 1)).env ++ [(43, .p (.bool false))], (inv (i + 1)).sto⟩, ?_, by simp -implicitDefEqProofs [inv, loopS_eq]⟩, fun h => absurd (by simp [h1]) h⟩
                have h1' : (97 ≤ b ∧ b ≤ 122) ∨ (65 ≤ b ∧ b ≤ 90) := by simpa [letB] using h1
                rcases h1' with ⟨q1, q2⟩ | ⟨q1, q2⟩
                · have r1 : (97 : Int) ≤ (b : Int) := by omega
                  have r2 : (b : Int) ≤ 122 := by omega
                  simp -implicitDefEqProofs [inv, loopS_eq, c106L0, hi, hdc, r1, r2]
                · have r1 : ¬ (97 : Int) ≤ (b : Int) := by omega
                  have r3 : (65 : Int) ≤ (b : Int) := by omega
                  have r4 : (b : Int) ≤ 90 := by omega
                  have n1 : ¬ 97 ≤ b := by omega
                  simp -implicitDefEqProofs [inv, loopS_eq, c106L0, hi, hdc, r1, r3, r4]
              · have h1' : ¬ ((97 ≤ b ∧ b ≤ 122) ∨ (65 ≤ b ∧ b ≤ 90)) := by simpa [letB] using h1
                have cases4 : ((¬ (97 : Int) ≤ (b : Int) ∧ ¬ 97 ≤ b) ∨ (((97 : Int) ≤ (b : Int) ∧ 97 ≤ b) ∧ (¬ (b : Int) ≤ 122 ∧ ¬ b ≤ 122))) ∧ ((¬ (65 : Int) ≤ (b : Int) ∧ ¬ 65 ≤ b) ∨ (((65 : Int) ≤ (b : Int) ∧ 65 ≤ b) ∧ (¬ (b : Int) ≤ 90 ∧ ¬ b ≤ 90))) := by omega
                by_cases h0 : i = 0
                · subst h0
                  refine ⟨fun h => absurd h (by simp [h1]), fun _ => ?_⟩
                  rcases cases4 with ⟨⟨r1, n1⟩ | ⟨⟨r1, n1⟩, r2, n2⟩, ⟨r3, n3⟩ | ⟨⟨r3, n3⟩, r4, n4⟩⟩ <;> clear h1' <;> simp -implicitDefEqProofs [inv, loopS_eq, c106L0, *]
                · have hz0 : ((i : Int) == 0) = false := by simp; omega
                  have hpos : 0 < i := by omega
                  by_cases h2 : tailB b = true
                  · refine ⟨fun _ => ⟨⟨(inv (i + 1)).env ++ [(43, .p (.bool false))], (inv (i + 1)).sto⟩, ?_, by simp -implicitDefEqProofs [inv, loopS_eq]⟩, fun h => absurd (by simp [h2, hpos]) h⟩
                    have h2' : (48 ≤ b ∧ b ≤ 57) ∨ b = 95 := by simpa [tailB] using h2
                    rcases h2' with ⟨q1, q2⟩ | q1
                    · have r5 : ((b : Int) != 95) = true := by simp; omega
                      have r6 : ¬ (b : Int) < 48 := by omega
                      have r7 : ¬ (57 : Int) < (b : Int) := by omega
                      have n6 : ¬ b < 48 := by omega
                      have n7 : ¬ 57 < b := by omega
                      rcases cases4 with ⟨⟨r1, n1⟩ | ⟨⟨r1, n1⟩, r2, n2⟩, ⟨r3, n3⟩ | ⟨⟨r3, n3⟩, r4, n4⟩⟩ <;> clear h1' <;> simp -implicitDefEqProofs [inv, loopS_eq, c106L0, *]
                    · have r5 : ((b : Int) != 95) = false := by simp; omega
                      rcases cases4 with ⟨⟨r1, n1⟩ | ⟨⟨r1, n1⟩, r2, n2⟩, ⟨r3, n3⟩ | ⟨⟨r3, n3⟩, r4, n4⟩⟩ <;> clear h1' <;> simp -implicitDefEqProofs [inv, loopS_eq, c106L0, *]
                  · refine ⟨fun h => absurd h (by simp [h1, h2]), fun _ => ?_⟩
                    have h2' : ¬ ((48 ≤ b ∧ b ≤ 57) ∨ b = 95) := by simpa [tailB] using h2
                    have r5 : ((b : Int) != 95) = true := by simp; omega
                    have c5 : ((b : Int) < 48 ∧ b < 48) ∨ ((¬ (b : Int) < 48 ∧ ¬ b < 48) ∧ ((57 : Int) < (b : Int) ∧ 57 < b)) := by omega
                    clear h2'
                    rcases c5 with ⟨r6, n6⟩ | ⟨⟨r6, n6⟩, r7, n7⟩ <;> rcases cases4 with ⟨⟨r1, n1⟩ | ⟨⟨r1, n1⟩, r2, n2⟩, ⟨r3, n3⟩ | ⟨⟨r3, n3⟩, r4, n4⟩⟩ <;> clear h1' <;> simp -implicitDefEqProofs [inv, loopS_eq, c106L0, *]
            · have hdc := decode_hi l i hi (by omega)
              have h1 : letB l[i].toNat = false := by simp [letB]; omega
              have h2 : tailB l[i].toNat = false := by simp [tailB]; omega
              refine ⟨fun h => absurd h (by simp [h1, h2]), fun _ => ?_⟩
              generalize hdq : Utf8.decode ⟨l.toArray⟩ i = dc at *
              have r1 : (97 : Int) ≤ (dc.1 : Int) := by omega
              have r2 : ¬ (dc.1 : Int) ≤ 122 := by omega
              have r3 : (65 : Int) ≤ (dc.1 : Int) := by omega
              have r4 : ¬ (dc.1 : Int) ≤ 90 := by omega
              have r5 : ((dc.1 : Int) != 95) = true := by simp; omega
              have r6 : ¬ (dc.1 : Int) < 48 := by omega
              have r7 : (57 : Int) < (dc.1 : Int) := by omega
              cases hz0 : ((i : Int) == 0) <;> simp -implicitDefEqProofs [inv, loopS_eq, c106L0, hi, hdq, r1, r2, r3, r4, r5, r6, r7, hz0]) (fun i => by simp) (by simp -implicitDefEqProofs [inv, loopS_eq, c106L0]) (by simp) (fuel := loopFuel) (by simp [loopFuel]; omega)
  simp -implicitDefEqProofs [c106]
  rcases key with ⟨k1, k2⟩ | ⟨j, hj, k1, k2, k3, _⟩
  · rw [k1]
    by_cases h0 : l = []
    · subst h0
      have : nameB [] = false := rfl
      simp -implicitDefEqProofs [strBin, this]
    · have hb0 : (l == []) = false := by simpa using h0
      have hN : nameB l = decide (l.length ≤ 24) := by simp [nameB, h0, k2]
      have h24 : decide ((l.length : Int) ≤ 24) = decide (l.length ≤ 24) := by rw [Bool.eq_iff_iff]; simp; omega
      simp -implicitDefEqProofs [strBin, hb0, hN, h24]
  · have hN : nameB l = false := by
      have : firstE ((List.range l.length).map (nameE l)) ≠ 0 := by rw [k2]; exact k3
      simp [nameB, this]
    rw [k1]
    simp -implicitDefEqProofs [hN]

theorem name172 {n : Nat} (hn : 1 ≤ n) (l : List UInt8) : RUN n 172 [sv l] = .ret (.p (.bool (nameB l))) := by
  obtain ⟨d, rfl⟩ : ∃ d, n = d + 1 := ⟨n - 1, by omega⟩
  rw [RUN, call_eq fe172 _ rfl]
  by_cases h0 : l = []
  · subst h0
    have : nameB [] = false := rfl
    simp -implicitDefEqProofs [c172, this]
  · have hpos : 0 < l.length := List.length_pos_iff.2 h0
    have hz : ((l.length : Int) == 0) = false := by simp; omega
    by_cases h24 : (24 : Int) < l.length
    · have hN : nameB l = false := by simp [nameB]; omega
      simp -implicitDefEqProofs [c172, hz, h24, hN]
    · let inv : Nat → St := fun i => ⟨[(0, sv l), (3, iv i)], []⟩
      have key := loop_first (step := loopS (evFn F C0 G0 d) C0 G0 0 false [0, 3] c172L0) inv (nameE l) l.length (.exit 0, ⟨(inv l.length).env ++ [(17, .p (.bool false))], []⟩) (fun i => (.ret, ⟨[(2, .p (.bool false))], []⟩))
          (st0 := ⟨[(0, sv l), (3, iv 0)], []⟩) rfl (fun i hi => by
            have hgi : l.getD i 0 = l[i] := by simp [List.getD_eq_getElem?_getD, List.getElem?_eq_getElem hi]
            have hgo : l[i]? = some l[i] := List.getElem?_eq_getElem hi
            have hlt : (i : Int) < l.length := by omega
            have he : nameE l i = if (letB l[i].toNat || (decide (0 < i) && tailB l[i].toNat)) = true then 0 else 1 := by simp only [nameE, hgi]
            rw [he]
            generalize hbq : l[i].toNat = b at *
            by_cases h1 : letB b = true
            · refine ⟨fun _ => ⟨inv (i + 1), ?_, rfl⟩, fun h => absurd (by simp [h1]) h⟩
              have h1' : (97 ≤ b ∧ b ≤ 122) ∨ (65 ≤ b ∧ b ≤ 90) := by simpa [letB] using h1
              rcases h1' with ⟨q1, q2⟩ | ⟨q1, q2⟩
              · have r1 : (97 : Int) ≤ (b : Int) := by omega
                have r2 : (b : Int) ≤ 122 := by omega
                have r3 : (65 : Int) ≤ (b : Int) := by omega
                have r4 : ¬ (b : Int) ≤ 90 := by omega
                have s1 : (48 : Int) ≤ (b : Int) := by omega
                have s2 : ¬ (b : Int) ≤ 57 := by omega
                cases r5 : ((b : Int) == 95) <;> simp -implicitDefEqProofs [inv, loopS_eq, c172L0, hlt, hgo, hbq, r1, r2, r3, r4, s1, s2, r5, wrap_succ (i := i) (by omega)]
              · have r1 : (65 : Int) ≤ (b : Int) := by omega
                have r2 : (b : Int) ≤ 90 := by omega
                have s1 : (48 : Int) ≤ (b : Int) := by omega
                have s2 : ¬ (b : Int) ≤ 57 := by omega
                cases r5 : ((b : Int) == 95) <;> simp -implicitDefEqProofs [inv, loopS_eq, c172L0, hlt, hgo, hbq, r1, r2, s1, s2, r5, wrap_succ (i := i) (by omega)]
            · have h1' : ¬ ((97 ≤ b ∧ b ≤ 122) ∨ (65 ≤ b ∧ b ≤ 90)) := by simpa [letB] using h1
              have cases4 : ((¬ (97 : Int) ≤ (b : Int)) ∨ ((97 : Int) ≤ (b : Int) ∧ ¬ (b : Int) ≤ 122)) ∧ ((¬ (65 : Int) ≤ (b : Int)) ∨ ((65 : Int) ≤ (b : Int) ∧ ¬ (b : Int) ≤ 90)) := by omega
              have casesT : (tailB b = true ∧ ((48 : Int) ≤ (b : Int) ∧ (b : Int) ≤ 57)) ∨ (tailB b = true ∧ ((48 : Int) ≤ (b : Int) ∧ ¬ (b : Int) ≤ 57 ∧ ((b : Int) == 95) = true)) ∨ (tailB b = false ∧ ((¬ (48 : Int) ≤ (b : Int) ∧ ((b : Int) == 95) = false))) ∨ (tailB b = false ∧ ((48 : Int) ≤ (b : Int) ∧ ¬ (b : Int) ≤ 57 ∧ ((b : Int) == 95) = false)) := by
                simp only [tailB, Bool.or_eq_true, Bool.and_eq_true, decide_eq_true_eq, Bool.or_eq_false_iff, Bool.and_eq_false_iff, decide_eq_false_iff_not, beq_iff_eq, beq_eq_false_iff_ne]
                omega
              by_cases h0 : i = 0
              · subst h0
                refine ⟨fun h => absurd h (by simp [h1]), fun _ => ?_⟩
                rcases casesT with ⟨_, s1, s2⟩ | ⟨_, s1, s2, s3⟩ | ⟨_, s1, s3⟩ | ⟨_, s1, s2, s3⟩ <;> rcases cases4 with ⟨r1 | ⟨r1, r2⟩, r3 | ⟨r3, r4⟩⟩ <;> simp -implicitDefEqProofs [inv, loopS_eq, c172L0, *]
              · have hz0 : ((i : Int) == 0) = false := by simp; omega
                have hpos : 0 < i := by omega
                have hw := wrap_succ (i := i) (by omega)
                rcases casesT with ⟨t, s1, s2⟩ | ⟨t, s1, s2, s3⟩ | ⟨t, s1, s3⟩ | ⟨t, s1, s2, s3⟩
                · refine ⟨fun _ => ⟨inv (i + 1), ?_, rfl⟩, fun h => absurd (by simp [t, hpos]) h⟩
                  rcases cases4 with ⟨r1 | ⟨r1, r2⟩, r3 | ⟨r3, r4⟩⟩ <;> simp -implicitDefEqProofs [inv, loopS_eq, c172L0, *]
                · refine ⟨fun _ => ⟨inv (i + 1), ?_, rfl⟩, fun h => absurd (by simp [t, hpos]) h⟩
                  rcases cases4 with ⟨r1 | ⟨r1, r2⟩, r3 | ⟨r3, r4⟩⟩ <;> simp -implicitDefEqProofs [inv, loopS_eq, c172L0, *]
                · refine ⟨fun h => absurd h (by simp [h1, t]), fun _ => ?_⟩
                  rcases cases4 with ⟨r1 | ⟨r1, r2⟩, r3 | ⟨r3, r4⟩⟩ <;> simp -implicitDefEqProofs [inv, loopS_eq, c172L0, *]
                · refine ⟨fun h => absurd h (by simp [h1, t]), fun _ => ?_⟩
                  rcases cases4 with ⟨r1 | ⟨r1, r2⟩, r3 | ⟨r3, r4⟩⟩ <;> simp -implicitDefEqProofs [inv, loopS_eq, c172L0, *]) (fun i => by simp) (by simp -implicitDefEqProofs [inv, loopS_eq, c172L0]) (by simp) (fuel := loopFuel) (by simp [loopFuel]; omega)
      simp -implicitDefEqProofs [c172, hz, h24]
      rcases key with ⟨k1, k2⟩ | ⟨j, hj, k1, k2, k3, _⟩
      · have hN : nameB l = true := by simp [nameB, h0, k2]; omega
        rw [k1]
        simp -implicitDefEqProofs [inv, hN]
      · have hN : nameB l = false := by
          have : firstE ((List.range l.length).map (nameE l)) ≠ 0 := by rw [k2]; exact k3
          simp [nameB, this]
        rw [k1]
        simp -implicitDefEqProofs [hN]
theorem cname107 {n : Nat} (hn : 2 ≤ n) (l : List UInt8) : RUN n 107 [sv l] = .ret (iv (whenE (!nameB l) 8)) := by
  obtain ⟨d, rfl⟩ : ∃ d, n = d + 2 := ⟨n - 2, by omega⟩
  rw [RUN, call_eq fe107 _ rfl]
  simp -implicitDefEqProofs [c107, name172 (n := d + 1), when109 (n := d + 1)]

theorem itoa194 {n : Nat} (x : Int) (h1 : -9223372036854775808 ≤ x) (h2 : x ≤ 9223372036854775807) : RUN n 194 [iv x] = .ret (.p (.str (itoaS x))) := by
  have : C0 194 [iv x] = some (.ret (.p (.str (itoaS x)))) := by simp [C0, tabC, cItoa, h1, h2]
  simp only [RUN, callPure, this]
theorem join162 {n : Nat} (ls : List (List UInt8)) (sep : List UInt8) (h1 : ls.length ≤ lim) (h2 : (Lib.join ls sep).length ≤ lim) : RUN n 162 [.p (.sl (pStr ls) ls.length), .p (.str sep)] = .ret (.p (.str (Lib.join ls sep))) := by
  have : C0 162 [.p (.sl (pStr ls) ls.length), .p (.str sep)] = some (.ret (.p (.str (Lib.join ls sep)))) := by simp [C0, tabC, cJoin, strs_pStr, h1, h2]
  simp only [RUN, callPure, this]
theorem index217 {n : Nat} (l : List UInt8) (c : UInt8) : RUN n 217 [.p (.str l), .p (.int .u8 (c.toNat : Int))] = .ret (iv (Lib.indexByte l c)) := by
  have : C0 217 [.p (.str l), .p (.int .u8 (c.toNat : Int))] = some (.ret (iv (Lib.indexByte l c))) := by simp [C0, tabC, cIndexByte]
  simp only [RUN, callPure, this]
theorem count220 {n : Nat} (l : List UInt8) (c : UInt8) : RUN n 220 [.p (.str l), .p (.int .u8 (c.toNat : Int))] = .ret (iv (l.count c)) := by
  have : C0 220 [.p (.str l), .p (.int .u8 (c.toNat : Int))] = some (.ret (iv (l.count c))) := by simp [C0, tabC, cCount, Lib.countByte]
  simp only [RUN, callPure, this]

def tJ (x v : Int) (acc : List UInt8) : St := ⟨[(0, iv x), (3, sv acc), (4, iv v)], []⟩

def digB (b : UInt8) : Bool := decide (48 ≤ b.toNat) && decide (b.toNat ≤ 57)
/-- the number of the first digits -/
def valF (l : List UInt8) : Nat → Int
  | 0 => 0
  | k + 1 => 10 * valF l k + ((l.getD k 0).toNat - 48)
def leadB (l : List UInt8) : Bool := decide (l.length = 1) || (l.getD 0 0 != 48)
def digOk (l : List UInt8) : Bool := decide (l ≠ []) && decide (l.length ≤ 9) && l.all digB && leadB l
def digV (l : List UInt8) : Int := valF l l.length

theorem pow_le9 {k : Nat} (h : k ≤ 9) : (10 : Int) ^ k ≤ 1000000000 := by
  have : ∀ k, k ≤ 9 → (10 : Int) ^ k ≤ 1000000000 := by decide
  exact this k h

theorem valF_take {l : List UInt8} {i : Nat} (h : ∀ k, k < i → digB (l.getD k 0) = true) (_hi : i ≤ l.length) (h9 : i ≤ 9) : 0 ≤ valF l i ∧ valF l i ≤ 999999999 := by
  have : ∀ k, k ≤ i → 0 ≤ valF l k ∧ valF l k < (10 : Int) ^ k := by
    intro k
    induction k with
    | zero => intro _; simp [valF]
    | succ k ih =>
      intro hk
      have h1 := ih (by omega)
      have h2 := h k (by omega)
      simp only [digB, Bool.and_eq_true, decide_eq_true_eq] at h2
      have h3 : (10 : Int) ^ (k + 1) = 10 * 10 ^ k := by rw [Int.pow_succ, Int.mul_comm]
      simp only [valF]
      omega
  have h1 := this i (Nat.le_refl _)
  have h2 := pow_le9 h9
  omega

theorem all_getD {l : List UInt8} (p : UInt8 → Bool) : l.all p = true ↔ ∀ k, k < l.length → p (l.getD k 0) = true := by
  rw [List.all_eq_true]
  constructor
  · intro h k hk
    have : l.getD k 0 = l[k] := by simp [List.getD_eq_getElem?_getD, List.getElem?_eq_getElem hk]
    rw [this]; exact h _ (List.getElem_mem hk)
  · intro h x hx
    obtain ⟨k, hk, rfl⟩ := List.getElem_of_mem hx
    have : l.getD k 0 = l[k] := by simp [List.getD_eq_getElem?_getD, List.getElem?_eq_getElem hk]
    rw [← this]; exact h k hk

/-- an error at the first byte that is no digit -/
def digE (l : List UInt8) (k : Nat) : Int := if digB (l.getD k 0) = true then 0 else 1
theorem digE_all {l : List UInt8} (h : firstE ((List.range l.length).map (digE l)) = 0) : l.all digB = true := by
  rw [all_getD]
  intro k hk
  have := firstE_zero.1 h (digE l k) (List.mem_map.2 ⟨k, by simpa using hk, rfl⟩)
  unfold digE at this
  split at this
  · assumption
  · omega
theorem digE_not {l : List UInt8} {j : Nat} (hj : j < l.length) (h : digE l j ≠ 0) : l.all digB = false := by
  rw [Bool.eq_false_iff]
  intro hc
  apply h
  unfold digE
  rw [if_pos ((all_getD digB).1 hc j hj)]

/-- the number of the first digits, as the machine reckons -/
def valW (l : List UInt8) : Nat → Int
  | 0 => 0
  | k + 1 => IntKind.i64.wrap (IntKind.i64.wrap (10 * valW l k) + ((l.getD k 0).toNat - 48))
theorem valW_eq {l : List UInt8} (h : l.all digB = true) (h9 : l.length ≤ 9) : ∀ i, i ≤ l.length → valW l i = valF l i := by
  intro i
  induction i with
  | zero => intro _; rfl
  | succ i ih =>
    intro hi
    have h1 := ih (by omega)
    have hd := (all_getD digB).1 h
    have h2 := valF_take (l := l) (i := i) (fun k hk => hd k (by omega)) (by omega) (by omega)
    have h3 := valF_take (l := l) (i := i + 1) (fun k hk => hd k (by omega)) (by omega) (by omega)
    have h4 := hd i (by omega)
    simp only [digB, Bool.and_eq_true, decide_eq_true_eq] at h4
    simp only [valF] at h3
    simp only [valW, valF, h1]
    rw [wrap64 (n := 10 * valF l i) (by omega) (by omega), wrap64 (by omega) (by omega)]

theorem digE_zero {l : List UInt8} {i : Nat} (hi : i < l.length) (h : digE l i = 0) : 48 ≤ l[i].toNat ∧ l[i].toNat ≤ 57 := by
  have hgi : l.getD i 0 = l[i] := by simp [List.getD_eq_getElem?_getD, List.getElem?_eq_getElem hi]
  unfold digE at h
  split at h
  · rename_i hc
    rw [hgi] at hc
    simpa only [digB, Bool.and_eq_true, decide_eq_true_eq] using hc
  · omega
theorem digE_one {l : List UInt8} {i : Nat} (hi : i < l.length) (h : digE l i ≠ 0) : l[i].toNat < 48 ∨ 57 < l[i].toNat := by
  have hgi : l.getD i 0 = l[i] := by simp [List.getD_eq_getElem?_getD, List.getElem?_eq_getElem hi]
  unfold digE at h
  split at h
  · exact absurd rfl h
  · rename_i hc
    rw [hgi] at hc
    simp only [digB, Bool.and_eq_true, decide_eq_true_eq] at hc
    omega

abbrev bv (c : UInt8) : AVal := .p (.int .u8 (c.toNat : Int))

theorem ib206 {n : Nat} (hn : 1 ≤ n) (l : List UInt8) (c : UInt8) : RUN n 206 [sv l, bv c] = .ret (iv (Lib.indexByte l c)) := by
  obtain ⟨d, rfl⟩ : ∃ d, n = d + 1 := ⟨n - 1, by omega⟩
  rw [RUN, call_eq fe206 _ rfl]
  simp -implicitDefEqProofs [c206, index217 (n := d)]
theorem ib196 {n : Nat} (hn : 2 ≤ n) (l : List UInt8) (c : UInt8) : RUN n 196 [sv l, bv c] = .ret (iv (Lib.indexByte l c)) := by
  obtain ⟨d, rfl⟩ : ∃ d, n = d + 2 := ⟨n - 2, by omega⟩
  rw [RUN, call_eq fe196 _ rfl]
  simp -implicitDefEqProofs [c196, ib206 (n := d + 1)]
theorem suffix207 {n : Nat} (hn : 1 ≤ n) (l : List UInt8) (c : UInt8) (hl : l.length ≤ 9223372036854775807) : RUN n 207 [sv l, sv [c]] = .ret (.p (.bool (decide (l.drop (l.length - 1) = [c])))) := by
  obtain ⟨d, rfl⟩ : ∃ d, n = d + 1 := ⟨n - 1, by omega⟩
  rw [RUN, call_eq fe207 _ rfl]
  by_cases h0 : l = []
  · subst h0
    simp -implicitDefEqProofs [c207]
  · have hpos : 0 < l.length := List.length_pos_iff.2 h0
    have b1 : (1 : Int) ≤ l.length := by omega
    have w1 := wrap64 (n := (l.length : Int) - 1) (by omega) (by omega)
    have t1 : ((l.length : Int) - 1).toNat = l.length - 1 := by omega
    have b2 : (0 : Int) ≤ (l.length : Int) - 1 := by omega
    have b3 : (l.length : Int) - 1 ≤ l.length := by omega
    have hbq : (l.drop (l.length - 1) == [c]) = decide (l.drop (l.length - 1) = [c]) := by rw [Bool.eq_iff_iff]; simp
    simp -implicitDefEqProofs [c207, strBin, b1, w1, t1, b3, hbq]

theorem cut197 {n : Nat} (hn : 2 ≤ n) (l : List UInt8) (c : UInt8) (hl : l.length ≤ 9223372036854775807) : RUN n 197 [sv l, sv [c]] = .ret (if l.drop (l.length - 1) = [c] then .tup [sv (l.take (l.length - 1)), .p (.bool true)] else .tup [sv l, .p (.bool false)]) := by
  obtain ⟨d, rfl⟩ : ∃ d, n = d + 2 := ⟨n - 2, by omega⟩
  rw [RUN, call_eq fe197 _ rfl]
  have h1 := suffix207 (n := d + 1) (by omega) l c hl
  by_cases hs : l.drop (l.length - 1) = [c]
  · have h0 : l ≠ [] := fun e => by subst e; simp at hs
    have hpos : 0 < l.length := List.length_pos_iff.2 h0
    have w1 := wrap64 (n := (l.length : Int) - 1) (by omega) (by omega)
    have t1 : ((l.length : Int) - 1).toNat = l.length - 1 := by omega
    have b1 : (1 : Int) ≤ l.length := by omega
    have b2 : (0 : Int) ≤ (l.length : Int) - 1 := by omega
    have b3 : (l.length : Int) - 1 ≤ l.length := by omega
    rw [if_pos hs]
    rw [decide_eq_true hs] at h1
    simp -implicitDefEqProofs [c197, h1, w1, t1, b1, b3]
  · rw [if_neg hs]
    rw [decide_eq_false hs] at h1
    simp -implicitDefEqProofs [c197, h1]

theorem cut166 {n : Nat} (hn : 3 ≤ n) (l : List UInt8) (c : UInt8) (hl : l.length ≤ 9223372036854775807) : RUN n 166 [sv l, sv [c]] = .ret (if l.drop (l.length - 1) = [c] then .tup [sv (l.take (l.length - 1)), .p (.bool true)] else .tup [sv l, .p (.bool false)]) := by
  obtain ⟨d, rfl⟩ : ∃ d, n = d + 3 := ⟨n - 3, by omega⟩
  rw [RUN, call_eq fe166 _ rfl]
  have h1 := cut197 (n := d + 2) (by omega) l c hl
  by_cases hs : l.drop (l.length - 1) = [c]
  · rw [if_pos hs] at h1 ⊢
    simp -implicitDefEqProofs [c166, h1]
  · rw [if_neg hs] at h1 ⊢
    simp -implicitDefEqProofs [c166, h1]

/-- the words that are finished, where the last one begins -/
def doneS (c : UInt8) (l : List UInt8) : Nat → List (List UInt8) × Nat
  | 0 => ([], 0)
  | i + 1 => if l.getD i 0 = c then ((doneS c l i).1 ++ [(l.take i).drop (doneS c l i).2], i + 1) else doneS c l i

theorem doneS_le (c : UInt8) (l : List UInt8) : ∀ i, (doneS c l i).2 ≤ i ∧ (doneS c l i).1.length ≤ i := by
  intro i
  induction i with
  | zero => simp [doneS]
  | succ i ih =>
    simp only [doneS]
    split
    · simp; omega
    · omega

theorem splitS_snoc (c b : UInt8) (x : List UInt8) : splitS c (x ++ [b]) = if b = c then splitS c x ++ [[]] else (splitS c x).dropLast ++ [(splitS c x).getLastD [] ++ [b]] := by
  induction x with
  | nil => by_cases h : b = c <;> simp [splitS, h]
  | cons y r ih =>
    rw [List.cons_append]
    simp only [splitS, ih]
    by_cases hy : y = c
    · simp only [hy, if_true]
      by_cases h : b = c
      · simp [h]
      · simp only [h, if_false]
        cases hq : splitS c r with
        | nil => exact absurd hq (splitS_ne c r)
        | cons w q => simp
    · simp only [hy, if_false]
      cases hq : splitS c r with
      | nil => exact absurd hq (splitS_ne c r)
      | cons w q =>
        by_cases h : b = c
        · simp [h]
        · simp only [h, if_false]
          cases q with
          | nil => simp
          | cons w2 q2 => simp

theorem doneS_spec (c : UInt8) (l : List UInt8) : ∀ i, i ≤ l.length → splitS c (l.take i) = (doneS c l i).1 ++ [(l.take i).drop (doneS c l i).2] := by
  intro i
  induction i with
  | zero => intro _; simp [doneS, splitS]
  | succ i ih =>
    intro hi
    have h1 := ih (by omega)
    have hg : l.getD i 0 = l[i] := by simp [List.getD_eq_getElem?_getD, List.getElem?_eq_getElem (show i < l.length by omega)]
    have ht : l.take (i + 1) = l.take i ++ [l[i]] := by rw [List.take_append_getElem]
    have hle := (doneS_le c l i).1
    rw [ht, splitS_snoc, h1]
    simp only [doneS, hg]
    by_cases hc : l[i] = c
    · simp only [hc, if_true]
      have : (l.take i ++ [c]).drop (i + 1) = [] := List.drop_of_length_le (by simp; omega)
      rw [this]
    · simp only [hc, if_false]
      rw [List.drop_append_of_le_length (by simp; omega)]
      simp

theorem splitR100 {n : Nat} (hn : 1 ≤ n) (l : List UInt8) (c : UInt8) (hl : l.length < 1000000) : RUN n 100 [sv l, bv c] = .ret (.own (pStr (splitS c l)) (splitS c l).length 1) := by
  obtain ⟨d, rfl⟩ : ∃ d, n = d + 1 := ⟨n - 1, by omega⟩
  rw [RUN, call_eq fe100 _ rfl]
  let inv : Nat → St := fun i => ⟨[(0, sv l), (1, bv c), (5, .sl 0 (doneS c l i).1.length 0 (doneS c l i).1.length), (6, iv (doneS c l i).2), (7, iv i)], [(0, .arr (pStr (doneS c l i).1) (doneS c l i).1.length 1)]⟩
  have hspec := doneS_spec c l l.length (Nat.le_refl _)
  rw [List.take_length] at hspec
  have hle := doneS_le c l l.length
  simp -implicitDefEqProofs [c100]
  rw [loop_run inv l.length (e := .exit 0) (st' := ⟨(inv l.length).env ++ [(11, .p (.bool false))], (inv l.length).sto⟩) (by simp)]
  · have hb : ((doneS c l l.length).2 : Int) ≤ l.length := by omega
    have hlim : (doneS c l l.length).1.length + 1 ≤ lim := by simp only [lim]; omega
    rw [hspec]
    simp -implicitDefEqProofs [inv, hb, hlim, pStr]
  · rfl
  · intro i hi
    have hle := doneS_le c l i
    have hb : ((doneS c l i).2 : Int) ≤ i := by omega
    have hlim : (doneS c l i).1.length + 1 ≤ lim := by simp only [lim]; omega
    have hlt : (i : Int) < l.length := by omega
    have hile : (i : Int) ≤ l.length := by omega
    have hgo : l[i]? = some l[i] := List.getElem?_eq_getElem hi
    have hg : l.getD i 0 = l[i] := by simp [List.getD_eq_getElem?_getD, hgo]
    have hd : doneS c l (i + 1) = if l[i] = c then ((doneS c l i).1 ++ [(l.take i).drop (doneS c l i).2], i + 1) else doneS c l i := by simp only [doneS, hg]
    by_cases hc : l[i] = c
    · have hbq : ((l[i].toNat : Int) == (c.toNat : Int)) = true := by rw [hc]; simp
      rw [if_pos hc] at hd
      simp -implicitDefEqProofs [inv, loopS_eq, c100L0, hlt, hgo, hbq, hb, hile, hlim, hd, pStr, wrap_succ (i := i) (by omega)]
    · have hbq : ((l[i].toNat : Int) == (c.toNat : Int)) = false := by
        rw [beq_eq_false_iff_ne]
        intro e
        exact hc (UInt8.toNat_inj.1 (by omega))
      rw [if_neg hc] at hd
      simp -implicitDefEqProofs [inv, loopS_eq, c100L0, hlt, hgo, hbq, hd, wrap_succ (i := i) (by omega)]
  · simp -implicitDefEqProofs [inv, loopS_eq, c100L0]
  · simp [loopFuel]; omega
theorem interval109' {n : Nat} (hn : 3 ≤ n) (a b lo hi : Int) : RUN n 121 [.agg [iv a, iv b], iv lo, iv hi] = .ret (iv (ivE lo hi (a, b))) := interval121 hn (a, b) lo hi
theorem ends103' {n : Nat} (hn : 3 ≤ n) (a b lo hi : Int) : RUN n 84 [.agg [iv a, iv b], iv lo, iv hi] = .ret (iv (ivE lo hi (a, b))) := ends84 hn (a, b) lo hi

structure TowI where
  pull : List Int
  fl : Int
  fh : Int
  bl : Int
  bh : Int
  wall : Int
def runF (t : TowI) (f : Int) : Nat → Int
  | 0 => 0
  | i + 1 => max 0 (runF t f i + t.pull.getD i 0 - f)
def runL (t : TowI) (f : Int) : List Int := (List.range (t.pull.length + 1)).map (runF t f)
@[simp] theorem runL_length (t : TowI) (f : Int) : (runL t f).length = t.pull.length + 1 := by simp [runL]
def bad2 (t : TowI) (tab : List Int) (i : Nat) : Bool := decide ((t.wall - i) * (t.bl + t.fl) < tab.getD i 0)
def e2 (t : TowI) (tab : List Int) (k : Nat) : Int := if bad2 t tab k = true then 1 else 0
def reL (t : TowI) : List (Int × Int) := (List.range (t.pull.length + 1)).map fun i => (runF t t.fh i, runF t t.fl i)
@[simp] theorem reL_length (t : TowI) : (reL t).length = t.pull.length + 1 := by simp [reL]
def upI (x den : Int) : Int := -((-x) / den)
end Fw
