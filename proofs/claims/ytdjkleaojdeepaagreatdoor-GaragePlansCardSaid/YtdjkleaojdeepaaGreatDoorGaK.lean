/- What is alike in several chapters: errors, ranges, names, strings. -/
import Derived.Test.YtdjkleaojdeepaaGreatDoorGaK0
set_option maxHeartbeats 8000000
namespace Fw
open Go
attribute [local irreducible] evCode evOps evOpsD evOper evOperD evOp evFn loopN T.All T.bind callPure callOp opsK opsDK restK seqK blockK loopS setK setQ giveK scalK gcK finish finS rfunK yldK yldB loopK

abbrev iv (n : Int) : AVal := .p (.int .i64 n)
abbrev RUN (n f : Nat) (args : List AVal) : T AVal := callPure (evFn F C0 G0 n) C0 (.fn f) args

def whenE (b : Bool) (e : Int) : Int := if b then e else 0
def rangeE (lo hi n : Int) : Int := if n < lo ∨ hi < n then 3 else 0

theorem when104 {n : Nat} (hn : 1 ≤ n) (b : Bool) (e : Int) : RUN n 104 [.p (.bool b), iv e] = .ret (iv (whenE b e)) := by
  obtain ⟨d, rfl⟩ : ∃ d, n = d + 1 := ⟨n - 1, by omega⟩
  rw [RUN, call_eq fe104 _ rfl]
  cases b <;> simp [c104, whenE]
theorem when94 {n : Nat} (hn : 1 ≤ n) (b : Bool) (e : Int) : RUN n 94 [.p (.bool b), iv e] = .ret (iv (whenE b e)) := by
  obtain ⟨d, rfl⟩ : ∃ d, n = d + 1 := ⟨n - 1, by omega⟩
  rw [RUN, call_eq fe94 _ rfl]
  cases b <;> simp [c94, whenE]

theorem within92 {n : Nat} (hn : 2 ≤ n) (x lo hi : Int) : RUN n 92 [iv x, iv lo, iv hi] = .ret (iv (rangeE lo hi x)) := by
  obtain ⟨d, rfl⟩ : ∃ d, n = d + 2 := ⟨n - 2, by omega⟩
  rw [RUN, call_eq fe92 _ rfl]
  have hw := fun b e => when104 (n := d + 1) (by omega) b e
  by_cases h1 : x < lo <;> by_cases h2 : hi < x <;> simp [c92, h1, h2, hw, whenE, rangeE]
theorem range24 {n : Nat} (hn : 2 ≤ n) (x lo hi : Int) : RUN n 24 [iv x, iv lo, iv hi] = .ret (iv (rangeE lo hi x)) := by
  obtain ⟨d, rfl⟩ : ∃ d, n = d + 2 := ⟨n - 2, by omega⟩
  rw [RUN, call_eq fe24 _ rfl]
  have hw := fun b e => when94 (n := d + 1) (by omega) b e
  by_cases h1 : x < lo <;> by_cases h2 : hi < x <;> simp [c24, h1, h2, hw, whenE, rangeE]

theorem first91 {n : Nat} (hn : 1 ≤ n) (l : List Int) (hl : l.length < 1000000) : RUN n 91 [.p (.sl (pI l) l.length)] = .ret (iv (firstE l)) := by
  obtain ⟨d, rfl⟩ : ∃ d, n = d + 1 := ⟨n - 1, by omega⟩
  exact first_ok (a91 ▸ fe91) (fun _ => rfl) l hl

theorem first23 {n : Nat} (hn : 1 ≤ n) (l : List Int) (hl : l.length < 1000000) : RUN n 23 [.p (.sl (pI l) l.length)] = .ret (iv (firstE l)) := by
  obtain ⟨d, rfl⟩ : ∃ d, n = d + 1 := ⟨n - 1, by omega⟩
  rw [RUN, call_eq fe23 _ rfl]
  let inv : Nat → St := fun i => ⟨[(0, .p (.sl (pI l) l.length)), (3, iv i)], []⟩
  let out : Nat → Ex × St := fun i => if firstE (l.drop i) = 0 then (.exit 0, ⟨[(0, .p (.sl (pI l) l.length)), (3, iv l.length), (7, .p (.bool false))], []⟩) else (.ret, ⟨[(2, iv (firstE (l.drop i)))], []⟩)
  simp [c23]
  rw [loop_rec inv out l.length (by rfl)]
  · by_cases h : firstE l = 0 <;> simp [out, h]
  · intro i hi
    have hx : l[i]? = some l[i] := List.getElem?_eq_getElem hi
    have hd : firstE (l.drop i) = if l[i] = 0 then firstE (l.drop (i + 1)) else l[i] := by rw [List.drop_eq_getElem_cons hi]; rfl
    by_cases h : l[i] = 0
    · refine .inl ⟨?_, ?_⟩
      · simp [inv, loopS_eq, c23L0, hi, h, wrap_succ (i := i) (by omega)]
      · simp [out, hd, h]
    · refine .inr ⟨?_, ?_⟩
      · simp [inv, loopS_eq, c23L0, hi, h, out, hd]
      · simp [out, hd, h]
  · simp [inv, loopS_eq, c23L0, out, firstE]
  · simp [loopFuel]; omega

theorem first91_3 {n : Nat} (hn : 1 ≤ n) (a b c : Int) : RUN n 91 [.p (.sl [.int .i64 a, .int .i64 b, .int .i64 c] 3)] = .ret (iv (firstE [a, b, c])) := first91 hn [a, b, c] (by simp)
abbrev isl (l : List Int) : AVal := .p (.sl (pI l) l.length)
abbrev csl (c : List (Int × Int)) : AVal := .p (.sl (cI c) c.length)

theorem firstE_cons (e : Int) (r : List Int) : firstE (e :: r) = if e = 0 then firstE r else e := rfl

theorem firstE_zero {l : List Int} : firstE l = 0 ↔ ∀ e ∈ l, e = 0 := by
  induction l with
  | nil => simp [firstE]
  | cons e r ih =>
    rw [firstE_cons]
    by_cases h : e = 0 <;> simp [h, ih]

theorem same38 {n : Nat} (hn : 1 ≤ n) (a b : List Int) (ha : a.length < 1000000) : RUN n 38 [isl a, isl b] = .ret (.p (.bool (decide (a = b)))) := by
  obtain ⟨d, rfl⟩ : ∃ d, n = d + 1 := ⟨n - 1, by omega⟩
  rw [RUN, call_eq fe38 _ rfl]
  by_cases hl : a.length = b.length
  · let inv : Nat → St := fun i => ⟨[(0, isl a), (1, isl b), (5, iv i)], []⟩
    let out : Nat → Ex × St := fun i => if a.drop i = b.drop i then (.exit 0, ⟨(inv a.length).env ++ [(14, .p (.bool false))], []⟩) else (.ret, ⟨[(4, .p (.bool false))], []⟩)
    simp -implicitDefEqProofs [c38, hl]
    rw [loop_rec inv out a.length (by simp [inv])]
    · by_cases hq : a = b <;> simp [out, inv, hq]
    · intro i hi
      have hi' : i < b.length := by omega
      have hia : (i : Int) < a.length := by omega
      have hx : a[i]? = some a[i] := List.getElem?_eq_getElem hi
      have hy : b[i]? = some b[i] := List.getElem?_eq_getElem hi'
      have hd : (a.drop i = b.drop i) ↔ a[i] = b[i] ∧ a.drop (i + 1) = b.drop (i + 1) := by
        rw [List.drop_eq_getElem_cons hi, List.drop_eq_getElem_cons hi', List.cons.injEq]
      by_cases h : a[i] = b[i]
      · refine .inl ⟨?_, ?_⟩
        · simp -implicitDefEqProofs [inv, loopS_eq, c38L0, hi', hl, h, wrap_succ (i := i) (by omega)]
        · simp [out, hd, h]
      · refine .inr ⟨?_, ?_⟩
        · simp -implicitDefEqProofs [inv, loopS_eq, c38L0, hi', hl, h, out, hd]
        · simp [out, hd, h]
    · have h1 : a.drop a.length = [] := List.drop_of_length_le (by omega)
      have h2 : b.drop a.length = [] := List.drop_of_length_le (by omega)
      simp [inv, loopS_eq, c38L0, out, hl]
    · simp [loopFuel]; omega
  · have : ¬ a = b := fun h => hl (by rw [h])
    have hl' : ¬ (a.length : Int) = b.length := by omega
    simp -implicitDefEqProofs [c38, hl', this]
theorem max2 (a b : Int) : maxInt a [iv b] = some (max a b) := by
  simp only [maxInt]; congr 1; split <;> omega
abbrev sv (l : List UInt8) : AVal := .p (.str l)
def letB (b : Nat) : Bool := (decide (97 ≤ b) && decide (b ≤ 122)) || (decide (65 ≤ b) && decide (b ≤ 90))
def tailB (b : Nat) : Bool := (decide (48 ≤ b) && decide (b ≤ 57)) || decide (b = 95)
def nameE (l : List UInt8) (i : Nat) : Int := if (letB (l.getD i 0).toNat || (decide (0 < i) && tailB (l.getD i 0).toNat)) = true then 0 else 1
def nameB (l : List UInt8) : Bool := decide (l ≠ []) && decide (l.length ≤ 24) && decide (firstE ((List.range l.length).map (nameE l)) = 0)

theorem name143 {n : Nat} (hn : 1 ≤ n) (l : List UInt8) (hl : l.length ≤ 9223372036854775807) : RUN n 143 [sv l] = .ret (.p (.bool (nameB l))) := by
  obtain ⟨d, rfl⟩ : ∃ d, n = d + 1 := ⟨n - 1, by omega⟩
  rw [RUN, call_eq fe143 _ rfl]
  let inv : Nat → St := fun i => ⟨[(0, sv l), (7, .it 0)], [(0, .siter l i)]⟩
  have key := loop_first (step := loopS (evFn F C0 G0 d) C0 G0 0 false [0, 7] c143L0) inv (nameE l) l.length (.exit 0, ⟨[(0, sv l), (7, .it 0), (8, .tup [.p (.bool false)]), (9, .p (.bool false))], [(0, .siter l l.length)]⟩) (fun i => (.ret, ⟨[(2, .p (.bool false))], [(0, .siter l (i + (Utf8.decode ⟨l.toArray⟩ i).2))]⟩))
          (st0 := ⟨[(0, sv l), (7, .it 0)], [(0, .siter l 0)]⟩) rfl (fun i hi => by
            have hgi : l.getD i 0 = l[i] := by simp [List.getD_eq_getElem?_getD, List.getElem?_eq_getElem hi]
            have he : nameE l i = if (letB l[i].toNat || (decide (0 < i) && tailB l[i].toNat)) = true then 0 else 1 := by simp only [nameE, hgi]
            rw [he]
            by_cases ha : l[i].toNat < 128
            · have hdc := decode_lo l i hi ha
              generalize l[i].toNat = b at *
              by_cases h1 : letB b = true
              · refine ⟨fun _ => ⟨⟨(inv (i + 1)).env ++ [(43, .p (.bool false))], (inv (i + 1)).sto⟩, ?_, by simp -implicitDefEqProofs [inv, loopS_eq]⟩, fun h => absurd (by simp [h1]) h⟩
                have h1' : (97 ≤ b ∧ b ≤ 122) ∨ (65 ≤ b ∧ b ≤ 90) := by simpa [letB] using h1
                rcases h1' with ⟨q1, q2⟩ | ⟨q1, q2⟩
                · have r1 : (97 : Int) ≤ (b : Int) := by omega
                  have r2 : (b : Int) ≤ 122 := by omega
                  simp -implicitDefEqProofs [inv, loopS_eq, c143L0, hi, hdc, r1, r2]
                · have r1 : ¬ (97 : Int) ≤ (b : Int) := by omega
                  have r3 : (65 : Int) ≤ (b : Int) := by omega
                  have r4 : (b : Int) ≤ 90 := by omega
                  have n1 : ¬ 97 ≤ b := by omega
                  simp -implicitDefEqProofs [inv, loopS_eq, c143L0, hi, hdc, r1, r3, r4]
              · have h1' : ¬ ((97 ≤ b ∧ b ≤ 122) ∨ (65 ≤ b ∧ b ≤ 90)) := by simpa [letB] using h1
                have cases4 : ((¬ (97 : Int) ≤ (b : Int) ∧ ¬ 97 ≤ b) ∨ (((97 : Int) ≤ (b : Int) ∧ 97 ≤ b) ∧ (¬ (b : Int) ≤ 122 ∧ ¬ b ≤ 122))) ∧ ((¬ (65 : Int) ≤ (b : Int) ∧ ¬ 65 ≤ b) ∨ (((65 : Int) ≤ (b : Int) ∧ 65 ≤ b) ∧ (¬ (b : Int) ≤ 90 ∧ ¬ b ≤ 90))) := by omega
                by_cases h0 : i = 0
                · subst h0
                  refine ⟨fun h => absurd h (by simp [h1]), fun _ => ?_⟩
                  rcases cases4 with ⟨⟨r1, n1⟩ | ⟨⟨r1, n1⟩, r2, n2⟩, ⟨r3, n3⟩ | ⟨⟨r3, n3⟩, r4, n4⟩⟩ <;> clear h1' <;> simp -implicitDefEqProofs [inv, loopS_eq, c143L0, *]
                · have hz0 : ((i : Int) == 0) = false := by simp; omega
                  have hpos : 0 < i := by omega
                  by_cases h2 : tailB b = true
                  · refine ⟨fun _ => ⟨⟨(inv (i + 1)).env ++ [(43, .p (.bool false))], (inv (i + 1)).sto⟩, ?_, by simp -implicitDefEqProofs [inv, loopS_eq]⟩, fun h => absurd (by simp [h2, hpos]) h⟩
                    have h2' : (48 ≤ b ∧ b ≤ 57) ∨ b = 95 := by simpa [tailB] using h2
                    rcases h2' with ⟨q1, q2⟩ | q1
                    · have r5 : ((b : Int) != 95) = true := by simp; omega
                      have r6 : ¬ (b : Int) < 48 := by omega
                      have r7 : ¬ (57 : Int) < (b : Int) := by omega
                      have n6 : ¬ b < 48 := by omega
                      have n7 : ¬ 57 < b := by omega
                      rcases cases4 with ⟨⟨r1, n1⟩ | ⟨⟨r1, n1⟩, r2, n2⟩, ⟨r3, n3⟩ | ⟨⟨r3, n3⟩, r4, n4⟩⟩ <;> clear h1' <;> simp -implicitDefEqProofs [inv, loopS_eq, c143L0, *]
                    · have r5 : ((b : Int) != 95) = false := by simp; omega
                      rcases cases4 with ⟨⟨r1, n1⟩ | ⟨⟨r1, n1⟩, r2, n2⟩, ⟨r3, n3⟩ | ⟨⟨r3, n3⟩, r4, n4⟩⟩ <;> clear h1' <;> simp -implicitDefEqProofs [inv, loopS_eq, c143L0, *]
                  · refine ⟨fun h => absurd h (by simp [h1, h2]), fun _ => ?_⟩
                    have h2' : ¬ ((48 ≤ b ∧ b ≤ 57) ∨ b = 95) := by simpa [tailB] using h2
                    have r5 : ((b : Int) != 95) = true := by simp; omega
                    have c5 : ((b : Int) < 48 ∧ b < 48) ∨ ((¬ (b : Int) < 48 ∧ ¬ b < 48) ∧ ((57 : Int) < (b : Int) ∧ 57 < b)) := by omega
                    clear h2'
                    rcases c5 with ⟨r6, n6⟩ | ⟨⟨r6, n6⟩, r7, n7⟩ <;> rcases cases4 with ⟨⟨r1, n1⟩ | ⟨⟨r1, n1⟩, r2, n2⟩, ⟨r3, n3⟩ | ⟨⟨r3, n3⟩, r4, n4⟩⟩ <;> clear h1' <;> simp -implicitDefEqProofs [inv, loopS_eq, c143L0, *]
            · have hdc := decode_hi l i hi (by omega)
              have h1 : letB l[i].toNat = false := by simp [letB]; omega
              have h2 : tailB l[i].toNat = false := by simp [tailB]; omega
              refine ⟨fun h => absurd h (by simp [h1, h2]), fun _ => ?_⟩
              generalize hdq : Utf8.decode ⟨l.toArray⟩ i = dc at *
              have r1 : (97 : Int) ≤ (dc.1 : Int) := by omega
              have r2 : ¬ (dc.1 : Int) ≤ 122 := by omega
              have r3 : (65 : Int) ≤ (dc.1 : Int) := by omega
              have r4 : ¬ (dc.1 : Int) ≤ 90 := by omega
              have r5 : ((dc.1 : Int) != 95) = true := by simp; omega
              have r6 : ¬ (dc.1 : Int) < 48 := by omega
              have r7 : (57 : Int) < (dc.1 : Int) := by omega
              cases hz0 : ((i : Int) == 0) <;> simp -implicitDefEqProofs [inv, loopS_eq, c143L0, hi, hdq, r1, r2, r3, r4, r5, r6, r7, hz0]) (fun i => by simp) (by simp -implicitDefEqProofs [inv, loopS_eq, c143L0]) (by simp) (fuel := loopFuel) (by simp [loopFuel]; omega)
  simp -implicitDefEqProofs [c143]
  rcases key with ⟨k1, k2⟩ | ⟨j, hj, k1, k2, k3, _⟩
  · rw [k1]
    by_cases h0 : l = []
    · subst h0
      have : nameB [] = false := rfl
      simp -implicitDefEqProofs [strBin, this]
    · have hb0 : (l == []) = false := by simpa using h0
      have hN : nameB l = decide (l.length ≤ 24) := by simp [nameB, h0, k2]
      have h24 : decide ((l.length : Int) ≤ 24) = decide (l.length ≤ 24) := by rw [Bool.eq_iff_iff]; simp; omega
      simp -implicitDefEqProofs [strBin, hb0, hN, h24]
  · have hN : nameB l = false := by
      have : firstE ((List.range l.length).map (nameE l)) ≠ 0 := by rw [k2]; exact k3
      simp [nameB, this]
    rw [k1]
    simp -implicitDefEqProofs [hN]

theorem name142 {n : Nat} (hn : 1 ≤ n) (l : List UInt8) : RUN n 142 [sv l] = .ret (.p (.bool (nameB l))) := by
  obtain ⟨d, rfl⟩ : ∃ d, n = d + 1 := ⟨n - 1, by omega⟩
  rw [RUN, call_eq fe142 _ rfl]
  by_cases h0 : l = []
  · subst h0
    have : nameB [] = false := rfl
    simp -implicitDefEqProofs [c142, this]
  · have hpos : 0 < l.length := List.length_pos_iff.2 h0
    have hz : ((l.length : Int) == 0) = false := by simp; omega
    by_cases h24 : (24 : Int) < l.length
    · have hN : nameB l = false := by simp [nameB]; omega
      simp -implicitDefEqProofs [c142, hz, h24, hN]
    · let inv : Nat → St := fun i => ⟨[(0, sv l), (3, iv i)], []⟩
      have key := loop_first (step := loopS (evFn F C0 G0 d) C0 G0 0 false [0, 3] c142L0) inv (nameE l) l.length (.exit 0, ⟨(inv l.length).env ++ [(17, .p (.bool false))], []⟩) (fun i => (.ret, ⟨[(2, .p (.bool false))], []⟩))
          (st0 := ⟨[(0, sv l), (3, iv 0)], []⟩) rfl (fun i hi => by
            have hgi : l.getD i 0 = l[i] := by simp [List.getD_eq_getElem?_getD, List.getElem?_eq_getElem hi]
            have hgo : l[i]? = some l[i] := List.getElem?_eq_getElem hi
            have hlt : (i : Int) < l.length := by omega
            have he : nameE l i = if (letB l[i].toNat || (decide (0 < i) && tailB l[i].toNat)) = true then 0 else 1 := by simp only [nameE, hgi]
            rw [he]
            generalize hbq : l[i].toNat = b at *
            by_cases h1 : letB b = true
            · refine ⟨fun _ => ⟨inv (i + 1), ?_, rfl⟩, fun h => absurd (by simp [h1]) h⟩
              have h1' : (97 ≤ b ∧ b ≤ 122) ∨ (65 ≤ b ∧ b ≤ 90) := by simpa [letB] using h1
              rcases h1' with ⟨q1, q2⟩ | ⟨q1, q2⟩
              · have r1 : (97 : Int) ≤ (b : Int) := by omega
                have r2 : (b : Int) ≤ 122 := by omega
                have r3 : (65 : Int) ≤ (b : Int) := by omega
                have r4 : ¬ (b : Int) ≤ 90 := by omega
                have s1 : (48 : Int) ≤ (b : Int) := by omega
                have s2 : ¬ (b : Int) ≤ 57 := by omega
                cases r5 : ((b : Int) == 95) <;> simp -implicitDefEqProofs [inv, loopS_eq, c142L0, hlt, hgo, hbq, r1, r2, r3, r4, s1, s2, r5, wrap_succ (i := i) (by omega)]
              · have r1 : (65 : Int) ≤ (b : Int) := by omega
                have r2 : (b : Int) ≤ 90 := by omega
                have s1 : (48 : Int) ≤ (b : Int) := by omega
                have s2 : ¬ (b : Int) ≤ 57 := by omega
                cases r5 : ((b : Int) == 95) <;> simp -implicitDefEqProofs [inv, loopS_eq, c142L0, hlt, hgo, hbq, r1, r2, s1, s2, r5, wrap_succ (i := i) (by omega)]
            · have h1' : ¬ ((97 ≤ b ∧ b ≤ 122) ∨ (65 ≤ b ∧ b ≤ 90)) := by simpa [letB] using h1
              have cases4 : ((¬ (97 : Int) ≤ (b : Int)) ∨ ((97 : Int) ≤ (b : Int) ∧ ¬ (b : Int) ≤ 122)) ∧ ((¬ (65 : Int) ≤ (b : Int)) ∨ ((65 : Int) ≤ (b : Int) ∧ ¬ (b : Int) ≤ 90)) := by omega
              have casesT : (tailB b = true ∧ ((48 : Int) ≤ (b : Int) ∧ (b : Int) ≤ 57)) ∨ (tailB b = true ∧ ((48 : Int) ≤ (b : Int) ∧ ¬ (b : Int) ≤ 57 ∧ ((b : Int) == 95) = true)) ∨ (tailB b = false ∧ ((¬ (48 : Int) ≤ (b : Int) ∧ ((b : Int) == 95) = false))) ∨ (tailB b = false ∧ ((48 : Int) ≤ (b : Int) ∧ ¬ (b : Int) ≤ 57 ∧ ((b : Int) == 95) = false)) := by
                simp only [tailB, Bool.or_eq_true, Bool.and_eq_true, decide_eq_true_eq, Bool.or_eq_false_iff, Bool.and_eq_false_iff, decide_eq_false_iff_not, beq_iff_eq, beq_eq_false_iff_ne]
                omega
              by_cases h0 : i = 0
              · subst h0
                refine ⟨fun h => absurd h (by simp [h1]), fun _ => ?_⟩
                rcases casesT with ⟨_, s1, s2⟩ | ⟨_, s1, s2, s3⟩ | ⟨_, s1, s3⟩ | ⟨_, s1, s2, s3⟩ <;> rcases cases4 with ⟨r1 | ⟨r1, r2⟩, r3 | ⟨r3, r4⟩⟩ <;> simp -implicitDefEqProofs [inv, loopS_eq, c142L0, *]
              · have hz0 : ((i : Int) == 0) = false := by simp; omega
                have hpos : 0 < i := by omega
                have hw := wrap_succ (i := i) (by omega)
                rcases casesT with ⟨t, s1, s2⟩ | ⟨t, s1, s2, s3⟩ | ⟨t, s1, s3⟩ | ⟨t, s1, s2, s3⟩
                · refine ⟨fun _ => ⟨inv (i + 1), ?_, rfl⟩, fun h => absurd (by simp [t, hpos]) h⟩
                  rcases cases4 with ⟨r1 | ⟨r1, r2⟩, r3 | ⟨r3, r4⟩⟩ <;> simp -implicitDefEqProofs [inv, loopS_eq, c142L0, *]
                · refine ⟨fun _ => ⟨inv (i + 1), ?_, rfl⟩, fun h => absurd (by simp [t, hpos]) h⟩
                  rcases cases4 with ⟨r1 | ⟨r1, r2⟩, r3 | ⟨r3, r4⟩⟩ <;> simp -implicitDefEqProofs [inv, loopS_eq, c142L0, *]
                · refine ⟨fun h => absurd h (by simp [h1, t]), fun _ => ?_⟩
                  rcases cases4 with ⟨r1 | ⟨r1, r2⟩, r3 | ⟨r3, r4⟩⟩ <;> simp -implicitDefEqProofs [inv, loopS_eq, c142L0, *]
                · refine ⟨fun h => absurd h (by simp [h1, t]), fun _ => ?_⟩
                  rcases cases4 with ⟨r1 | ⟨r1, r2⟩, r3 | ⟨r3, r4⟩⟩ <;> simp -implicitDefEqProofs [inv, loopS_eq, c142L0, *]) (fun i => by simp) (by simp -implicitDefEqProofs [inv, loopS_eq, c142L0]) (by simp) (fuel := loopFuel) (by simp [loopFuel]; omega)
      simp -implicitDefEqProofs [c142, hz, h24]
      rcases key with ⟨k1, k2⟩ | ⟨j, hj, k1, k2, k3, _⟩
      · have hN : nameB l = true := by simp [nameB, h0, k2]; omega
        rw [k1]
        simp -implicitDefEqProofs [inv, hN]
      · have hN : nameB l = false := by
          have : firstE ((List.range l.length).map (nameE l)) ≠ 0 := by rw [k2]; exact k3
          simp [nameB, this]
        rw [k1]
        simp -implicitDefEqProofs [hN]
theorem first91_5 {n : Nat} (hn : 1 ≤ n) (a b c e f : Int) : RUN n 91 [.p (.sl [.int .i64 a, .int .i64 b, .int .i64 c, .int .i64 e, .int .i64 f] 5)] = .ret (iv (firstE [a, b, c, e, f])) := first91 hn [a, b, c, e, f] (by simp)
theorem first23_5 {n : Nat} (hn : 1 ≤ n) (a b c e f : Int) : RUN n 23 [.p (.sl [.int .i64 a, .int .i64 b, .int .i64 c, .int .i64 e, .int .i64 f] 5)] = .ret (iv (firstE [a, b, c, e, f])) := first23 hn [a, b, c, e, f] (by simp)

theorem cname112 {n : Nat} (hn : 2 ≤ n) (l : List UInt8) : RUN n 112 [sv l] = .ret (iv (whenE (!nameB l) 8)) := by
  obtain ⟨d, rfl⟩ : ∃ d, n = d + 2 := ⟨n - 2, by omega⟩
  rw [RUN, call_eq fe112 _ rfl]
  simp -implicitDefEqProofs [c112, name142 (n := d + 1), when94 (n := d + 1)]

theorem nan165 {n : Nat} (hn : 1 ≤ n) (a : Int) : RUN n 165 [iv a] = .ret (.p (.bool false)) := by
  obtain ⟨d, rfl⟩ : ∃ d, n = d + 1 := ⟨n - 1, by omega⟩
  rw [RUN, call_eq fe165 _ rfl]
  simp -implicitDefEqProofs [c165]
def tJ (x v : Int) (acc : List UInt8) : St := ⟨[(0, iv x), (3, sv acc), (4, iv v)], []⟩

def digB (b : UInt8) : Bool := decide (48 ≤ b.toNat) && decide (b.toNat ≤ 57)
/-- the number of the first digits -/
def valF (l : List UInt8) : Nat → Int
  | 0 => 0
  | k + 1 => 10 * valF l k + ((l.getD k 0).toNat - 48)
def leadB (l : List UInt8) : Bool := decide (l.length = 1) || (l.getD 0 0 != 48)
def digOk (l : List UInt8) : Bool := decide (l ≠ []) && decide (l.length ≤ 9) && l.all digB && leadB l
def digV (l : List UInt8) : Int := valF l l.length

/-- an error at the first byte that is no digit -/
def digE (l : List UInt8) (k : Nat) : Int := if digB (l.getD k 0) = true then 0 else 1
/-- the number of the first digits, as the machine reckons -/
def valW (l : List UInt8) : Nat → Int
  | 0 => 0
  | k + 1 => IntKind.i64.wrap (IntKind.i64.wrap (10 * valW l k) + ((l.getD k 0).toNat - 48))
abbrev bv (c : UInt8) : AVal := .p (.int .u8 (c.toNat : Int))

/-- the words that are finished, where the last one begins -/
def doneS (c : UInt8) (l : List UInt8) : Nat → List (List UInt8) × Nat
  | 0 => ([], 0)
  | i + 1 => if l.getD i 0 = c then ((doneS c l i).1 ++ [(l.take i).drop (doneS c l i).2], i + 1) else doneS c l i

def pB (l : List UInt8) : List PVal := l.map fun b => .int .u8 (b.toNat : Int)
@[simp] theorem pB_length (l : List UInt8) : (pB l).length = l.length := by simp [pB]
def eqE (l : List UInt8) (v : UInt8) (i : Nat) : Int := if v = l.getD i 0 then 1 else 0
def idxB (l : List UInt8) (v : UInt8) : Int := if firstE ((List.range l.length).map (eqE l v)) = 0 then -1 else (l.idxOf v : Int)

theorem idxOf_at (v : UInt8) : ∀ (l : List UInt8) (j : Nat), l[j]? = some v → (∀ q, q < j → l[q]? ≠ some v) → l.idxOf v = j
  | [], j, h, _ => by simp at h
  | b :: r, 0, h, _ => by
    have : b = v := by simpa using h
    subst this; simp
  | b :: r, j + 1, h, hq => by
    have hb : ¬ b = v := fun e => hq 0 (by omega) (by simp [e])
    have ih := idxOf_at v r j (by simpa using h) (fun q hq2 => by have := hq (q + 1) (by omega); simpa using this)
    rw [List.idxOf_cons, ih]
    have : (b == v) = false := by simpa using hb
    simp [this]
end Fw
