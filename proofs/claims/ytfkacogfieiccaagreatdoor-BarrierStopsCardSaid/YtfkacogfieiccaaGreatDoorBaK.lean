/- What is alike in several chapters: errors, ranges, names, strings. -/
import Derived.Test.YtfkacogfieiccaaGreatDoorBaFe
import Derived.Test.YtfkacogfieiccaaGreatDoorFwC
set_option maxHeartbeats 8000000
namespace Fw
open Go
attribute [local irreducible] evCode evOps evOpsD evOper evOperD evOp evFn loopN T.All T.bind callPure callOp opsK opsDK restK seqK blockK loopS setK setQ giveK scalK gcK finish finS rfunK yldK yldB loopK

abbrev iv (n : Int) : AVal := .p (.int .i64 n)
abbrev RUN (n f : Nat) (args : List AVal) : T AVal := callPure (evFn F C0 G0 n) C0 (.fn f) args

def whenE (b : Bool) (e : Int) : Int := if b then e else 0
def rangeE (lo hi n : Int) : Int := if n < lo ∨ hi < n then 3 else 0

/-- a list of pairs, as the cells of a list of intervals -/
def cI : List (Int × Int) → List PVal
  | [] => []
  | x :: r => .int .i64 x.1 :: .int .i64 x.2 :: cI r

@[simp] theorem cI_length (l : List (Int × Int)) : (cI l).length = l.length * 2 := by
  induction l with
  | nil => rfl
  | cons x r ih => simp [cI, ih]; omega

theorem cI_drop (l : List (Int × Int)) (i : Nat) (h : i < l.length) : (cI l).drop (i * 2) = .int .i64 l[i].1 :: .int .i64 l[i].2 :: cI (l.drop (i + 1)) := by
  induction l generalizing i with
  | nil => cases h
  | cons x r ih =>
    cases i with
    | zero => simp [cI]
    | succ i =>
      have := ih i (by simpa using h)
      rw [show (i + 1) * 2 = i * 2 + 2 by omega]
      simpa [cI] using this

theorem when107 {n : Nat} (hn : 1 ≤ n) (b : Bool) (e : Int) : RUN n 107 [.p (.bool b), iv e] = .ret (iv (whenE b e)) := by
  obtain ⟨d, rfl⟩ : ∃ d, n = d + 1 := ⟨n - 1, by omega⟩
  rw [RUN, call_eq fe107 _ rfl]
  cases b <;> simp [c107, whenE]
theorem when55 {n : Nat} (hn : 1 ≤ n) (b : Bool) (e : Int) : RUN n 55 [.p (.bool b), iv e] = .ret (iv (whenE b e)) := by
  obtain ⟨d, rfl⟩ : ∃ d, n = d + 1 := ⟨n - 1, by omega⟩
  rw [RUN, call_eq fe55 _ rfl]
  cases b <;> simp [c55, whenE]

theorem within108 {n : Nat} (hn : 2 ≤ n) (x lo hi : Int) : RUN n 108 [iv x, iv lo, iv hi] = .ret (iv (rangeE lo hi x)) := by
  obtain ⟨d, rfl⟩ : ∃ d, n = d + 2 := ⟨n - 2, by omega⟩
  rw [RUN, call_eq fe108 _ rfl]
  have hw := fun b e => when107 (n := d + 1) (by omega) b e
  by_cases h1 : x < lo <;> by_cases h2 : hi < x <;> simp [c108, h1, h2, hw, whenE, rangeE]
theorem range102 {n : Nat} (hn : 2 ≤ n) (x lo hi : Int) : RUN n 102 [iv x, iv lo, iv hi] = .ret (iv (rangeE lo hi x)) := by
  obtain ⟨d, rfl⟩ : ∃ d, n = d + 2 := ⟨n - 2, by omega⟩
  rw [RUN, call_eq fe102 _ rfl]
  have hw := fun b e => when55 (n := d + 1) (by omega) b e
  by_cases h1 : x < lo <;> by_cases h2 : hi < x <;> simp [c102, h1, h2, hw, whenE, rangeE]

theorem m98 : c98 = firstC := rfl
theorem first98 {n : Nat} (hn : 1 ≤ n) (l : List Int) (hl : l.length < 1000000) : RUN n 98 [.p (.sl (pI l) l.length)] = .ret (iv (firstE l)) := by
  obtain ⟨d, rfl⟩ : ∃ d, n = d + 1 := ⟨n - 1, by omega⟩
  exact first_ok (m98 ▸ fe98) (fun _ => rfl) l hl

theorem first101 {n : Nat} (hn : 1 ≤ n) (l : List Int) (hl : l.length < 1000000) : RUN n 101 [.p (.sl (pI l) l.length)] = .ret (iv (firstE l)) := by
  obtain ⟨d, rfl⟩ : ∃ d, n = d + 1 := ⟨n - 1, by omega⟩
  rw [RUN, call_eq fe101 _ rfl]
  let inv : Nat → St := fun i => ⟨[(0, .p (.sl (pI l) l.length)), (3, iv i)], []⟩
  let out : Nat → Ex × St := fun i => if firstE (l.drop i) = 0 then (.exit 0, ⟨[(0, .p (.sl (pI l) l.length)), (3, iv l.length), (7, .p (.bool false))], []⟩) else (.ret, ⟨[(2, iv (firstE (l.drop i)))], []⟩)
  simp [c101]
  rw [loop_rec inv out l.length (by rfl)]
  · by_cases h : firstE l = 0 <;> simp [out, h]
  · intro i hi
    have hx : l[i]? = some l[i] := List.getElem?_eq_getElem hi
    have hd : firstE (l.drop i) = if l[i] = 0 then firstE (l.drop (i + 1)) else l[i] := by rw [List.drop_eq_getElem_cons hi]; rfl
    by_cases h : l[i] = 0
    · refine .inl ⟨?_, ?_⟩
      · simp [inv, loopS_eq, c101L0, hi, h, wrap_succ (i := i) (by omega)]
      · simp [out, hd, h]
    · refine .inr ⟨?_, ?_⟩
      · simp [inv, loopS_eq, c101L0, hi, h, out, hd]
      · simp [out, hd, h]
  · simp [inv, loopS_eq, c101L0, out, firstE]
  · simp [loopFuel]; omega

theorem first19 {n : Nat} (hn : 2 ≤ n) (l : List Int) (hl : l.length < 1000000) : RUN n 19 [.p (.sl (pI l) l.length)] = .ret (iv (firstE l)) := by
  obtain ⟨d, rfl⟩ : ∃ d, n = d + 2 := ⟨n - 2, by omega⟩
  rw [RUN, call_eq fe19 _ rfl]
  simp [c19, first101 (n := d + 1) (by omega) l hl]

/-- a list that is written out -/
theorem first98_2 {n : Nat} (hn : 1 ≤ n) (a b : Int) : RUN n 98 [.p (.sl [.int .i64 a, .int .i64 b] 2)] = .ret (iv (firstE [a, b])) := first98 hn [a, b] (by simp)
theorem first98_3 {n : Nat} (hn : 1 ≤ n) (a b c : Int) : RUN n 98 [.p (.sl [.int .i64 a, .int .i64 b, .int .i64 c] 3)] = .ret (iv (firstE [a, b, c])) := first98 hn [a, b, c] (by simp)
theorem first98_4 {n : Nat} (hn : 1 ≤ n) (a b c e : Int) : RUN n 98 [.p (.sl [.int .i64 a, .int .i64 b, .int .i64 c, .int .i64 e] 4)] = .ret (iv (firstE [a, b, c, e])) := first98 hn [a, b, c, e] (by simp)
theorem first101_2 {n : Nat} (hn : 1 ≤ n) (a b : Int) : RUN n 101 [.p (.sl [.int .i64 a, .int .i64 b] 2)] = .ret (iv (firstE [a, b])) := first101 hn [a, b] (by simp)
theorem first101_3 {n : Nat} (hn : 1 ≤ n) (a b c : Int) : RUN n 101 [.p (.sl [.int .i64 a, .int .i64 b, .int .i64 c] 3)] = .ret (iv (firstE [a, b, c])) := first101 hn [a, b, c] (by simp)
theorem first101_4 {n : Nat} (hn : 1 ≤ n) (a b c e : Int) : RUN n 101 [.p (.sl [.int .i64 a, .int .i64 b, .int .i64 c, .int .i64 e] 4)] = .ret (iv (firstE [a, b, c, e])) := first101 hn [a, b, c, e] (by simp)
theorem first19_2 {n : Nat} (hn : 2 ≤ n) (a b : Int) : RUN n 19 [.p (.sl [.int .i64 a, .int .i64 b] 2)] = .ret (iv (firstE [a, b])) := first19 hn [a, b] (by simp)
theorem first19_3 {n : Nat} (hn : 2 ≤ n) (a b c : Int) : RUN n 19 [.p (.sl [.int .i64 a, .int .i64 b, .int .i64 c] 3)] = .ret (iv (firstE [a, b, c])) := first19 hn [a, b, c] (by simp)
theorem first19_4 {n : Nat} (hn : 2 ≤ n) (a b c e : Int) : RUN n 19 [.p (.sl [.int .i64 a, .int .i64 b, .int .i64 c, .int .i64 e] 4)] = .ret (iv (firstE [a, b, c, e])) := first19 hn [a, b, c, e] (by simp)

/-- the error of an interval -/
def ivE (lo hi : Int) (x : Int × Int) : Int := firstE [rangeE lo hi x.1, rangeE lo hi x.2, whenE (decide (x.2 < x.1)) 11]

theorem interval109 {n : Nat} (hn : 3 ≤ n) (x : Int × Int) (lo hi : Int) : RUN n 109 [.agg [iv x.1, iv x.2], iv lo, iv hi] = .ret (iv (ivE lo hi x)) := by
  obtain ⟨d, rfl⟩ : ∃ d, n = d + 3 := ⟨n - 3, by omega⟩
  rw [RUN, call_eq fe109 _ rfl]
  simp [c109, within108 (n := d + 2), when107 (n := d + 2), first98_3 (n := d + 2), ivE]

theorem ends103 {n : Nat} (hn : 3 ≤ n) (x : Int × Int) (lo hi : Int) : RUN n 103 [.agg [iv x.1, iv x.2], iv lo, iv hi] = .ret (iv (ivE lo hi x)) := by
  obtain ⟨d, rfl⟩ : ∃ d, n = d + 3 := ⟨n - 3, by omega⟩
  rw [RUN, call_eq fe103 _ rfl]
  simp [c103, range102 (n := d + 2), when55 (n := d + 2), first101_3 (n := d + 2), ivE]
abbrev isl (l : List Int) : AVal := .p (.sl (pI l) l.length)
abbrev csl (c : List (Int × Int)) : AVal := .p (.sl (cI c) c.length)

theorem m161 : c161 = mapC (.p (.int .i64 0)) 8 := rfl

theorem fc161 : F 161 = some (mapC (.p (.int .i64 0)) 8) := m161 ▸ fe161

theorem firstE_cons (e : Int) (r : List Int) : firstE (e :: r) = if e = 0 then firstE r else e := rfl

theorem firstE_zero {l : List Int} : firstE l = 0 ↔ ∀ e ∈ l, e = 0 := by
  induction l with
  | nil => simp [firstE]
  | cons e r ih =>
    rw [firstE_cons]
    by_cases h : e = 0 <;> simp [h, ih]

theorem same49 {n : Nat} (hn : 1 ≤ n) (a b : List Int) (ha : a.length < 1000000) : RUN n 49 [isl a, isl b] = .ret (.p (.bool (decide (a = b)))) := by
  obtain ⟨d, rfl⟩ : ∃ d, n = d + 1 := ⟨n - 1, by omega⟩
  rw [RUN, call_eq fe49 _ rfl]
  by_cases hl : a.length = b.length
  · let inv : Nat → St := fun i => ⟨[(0, isl a), (1, isl b), (5, iv i)], []⟩
    let out : Nat → Ex × St := fun i => if a.drop i = b.drop i then (.exit 0, ⟨(inv a.length).env ++ [(14, .p (.bool false))], []⟩) else (.ret, ⟨[(4, .p (.bool false))], []⟩)
    simp -implicitDefEqProofs [c49, hl]
    rw [loop_rec inv out a.length (by simp [inv])]
    · by_cases hq : a = b <;> simp [out, inv, hq]
    · intro i hi
      have hi' : i < b.length := by omega
      have hia : (i : Int) < a.length := by omega
      have hx : a[i]? = some a[i] := List.getElem?_eq_getElem hi
      have hy : b[i]? = some b[i] := List.getElem?_eq_getElem hi'
      have hd : (a.drop i = b.drop i) ↔ a[i] = b[i] ∧ a.drop (i + 1) = b.drop (i + 1) := by
        rw [List.drop_eq_getElem_cons hi, List.drop_eq_getElem_cons hi', List.cons.injEq]
      by_cases h : a[i] = b[i]
      · refine .inl ⟨?_, ?_⟩
        · simp -implicitDefEqProofs [inv, loopS_eq, c49L0, hi', hl, h, wrap_succ (i := i) (by omega)]
        · simp [out, hd, h]
      · refine .inr ⟨?_, ?_⟩
        · simp -implicitDefEqProofs [inv, loopS_eq, c49L0, hi', hl, h, out, hd]
        · simp [out, hd, h]
    · have h1 : a.drop a.length = [] := List.drop_of_length_le (by omega)
      have h2 : b.drop a.length = [] := List.drop_of_length_le (by omega)
      simp [inv, loopS_eq, c49L0, out, hl]
    · simp [loopFuel]; omega
  · have : ¬ a = b := fun h => hl (by rw [h])
    have hl' : ¬ (a.length : Int) = b.length := by omega
    simp -implicitDefEqProofs [c49, hl', this]
theorem tdiv_down (n den : Int) (hd : 0 < den) : n / den = if n < n.tdiv den * den then n.tdiv den - 1 else n.tdiv den := by
  have h1 := Int.mul_tdiv_add_tmod n den
  have h2 : n.tmod den < den := Int.tmod_lt_of_pos n hd
  have h3 : -den < n.tmod den := Int.lt_tmod_of_pos n hd
  rw [Int.mul_comm] at h1
  split
  · have : n / den = n.tdiv den - 1 ∧ n % den = n.tmod den + den := by
      rw [Int.ediv_emod_unique hd]
      refine ⟨?_, by omega, by omega⟩
      rw [Int.mul_sub, Int.mul_comm]; omega
    exact this.1
  · have : n / den = n.tdiv den ∧ n % den = n.tmod den := by
      rw [Int.ediv_emod_unique hd]
      refine ⟨?_, by omega, h2⟩
      rw [Int.mul_comm]; omega
    exact this.1

theorem tdiv_small (n den : Int) (_hd : 0 < den) (b : Int) (h1 : -b ≤ n) (h2 : n ≤ b) : -b ≤ n.tdiv den ∧ n.tdiv den ≤ b ∧ -(2 * b) ≤ n.tdiv den * den ∧ n.tdiv den * den ≤ 2 * b := by
  have h := Int.natAbs_tdiv_le_natAbs n den
  have h3 := Int.mul_tdiv_add_tmod n den
  have h4 : (n.tmod den).natAbs ≤ n.natAbs := by
    rw [Int.natAbs_tmod]
    exact Nat.mod_le _ _
  rw [Int.mul_comm] at h3
  omega

theorem floor104 {n : Nat} (hn : 1 ≤ n) (x den : Int) (hd : 0 < den) (h1 : -1000000000000 ≤ x) (h2 : x ≤ 1000000000000) : RUN n 104 [iv x, iv den] = .ret (iv (x / den)) := by
  obtain ⟨d, rfl⟩ : ∃ d, n = d + 1 := ⟨n - 1, by omega⟩
  rw [RUN, call_eq fe104 _ rfl, tdiv_down x den hd]
  obtain ⟨b1, b2, b3, b4⟩ := tdiv_small x den hd _ h1 h2
  have w1 := wrap64 (n := x.tdiv den) (by omega) (by omega)
  have w2 := wrap64 (n := x.tdiv den - 1) (by omega) (by omega)
  have w3 := wrap64 (n := x.tdiv den * den) (by omega) (by omega)
  have hz : den ≠ 0 := by omega
  by_cases h : x < x.tdiv den * den <;> simp -implicitDefEqProofs [c104, hz, h, w1, w2, w3]
theorem floor104x {n : Nat} (hn : 1 ≤ n) (x den : Int) (hd : 0 < den) (h1 : -1000000000000 ≤ x) (h2 : x ≤ 1000000000000) : RUN n 104 [iv x, iv den] = .ret (iv (x / den)) := by
  obtain ⟨d, rfl⟩ : ∃ d, n = d + 1 := ⟨n - 1, by omega⟩
  rw [RUN, call_eq fe104 _ rfl, tdiv_down x den hd]
  obtain ⟨b1, b2, b3, b4⟩ := tdiv_small x den hd _ h1 h2
  have w1 := wrap64 (n := x.tdiv den) (by omega) (by omega)
  have w2 := wrap64 (n := x.tdiv den - 1) (by omega) (by omega)
  have w3 := wrap64 (n := x.tdiv den * den) (by omega) (by omega)
  have hz : den ≠ 0 := by omega
  by_cases h : x < x.tdiv den * den <;> simp -implicitDefEqProofs [c104, hz, h, w1, w2, w3]

theorem m161x : c161 = mapC (.p (.int .i64 0)) 8 := rfl
theorem fc161x : F 161 = some (mapC (.p (.int .i64 0)) 8) := m161x ▸ fe161

/-- the least and the greatest of the first numbers but one -/
def loF (l : List Int) : Nat → Int
  | 0 => l.getD 0 0
  | k + 1 => min (loF l k) (l.getD (k + 1) 0)
def hiF (l : List Int) : Nat → Int
  | 0 => l.getD 0 0
  | k + 1 => max (hiF l k) (l.getD (k + 1) 0)

theorem min186 {n : Nat} (hn : 1 ≤ n) (l : List Int) (h0 : 0 < l.length) (hl : l.length < 1000000) : RUN n 186 [isl l] = .ret (iv (loF l (l.length - 1))) := by
  obtain ⟨d, rfl⟩ : ∃ d, n = d + 1 := ⟨n - 1, by omega⟩
  rw [RUN, call_eq fe186 _ rfl]
  obtain ⟨m, hm⟩ : ∃ m, l.length = m + 1 := ⟨l.length - 1, by omega⟩
  have hg0 : l.getD 0 0 = l[0] := by simp [List.getD_eq_getElem?_getD, List.getElem?_eq_getElem h0]
  let inv : Nat → St := fun k => ⟨[(0, isl l), (3, iv (loF l k)), (4, iv (k + 1))], []⟩
  have hlt : ¬ (l.length : Int) < 1 := by omega
  have hx0 : ∃ r, pI l = .int .i64 l[0] :: r := by
    cases l with
    | nil => simp at h0
    | cons x r => exact ⟨pI r, rfl⟩
  obtain ⟨r, hr⟩ := hx0
  have hm1 : l.length - 1 = m := by omega
  have hcast : (l.length : Int) = m + 1 := by omega
  rw [hm1]
  simp -implicitDefEqProofs [c186, hlt, h0, hr]
  rw [loop_run inv m (e := .exit 0) (st' := ⟨(inv m).env ++ [(15, .p (.bool false))], (inv m).sto⟩) (by simp)]
  · simp -implicitDefEqProofs [inv]
  · simp only [inv, loF, hg0]; rfl
  · intro k hk
    have hi : k + 1 < l.length := by omega
    have hgi : l.getD (k + 1) 0 = l[k + 1] := by simp [List.getD_eq_getElem?_getD, List.getElem?_eq_getElem hi]
    have hlo : loF l (k + 1) = min (loF l k) l[k + 1] := by simp only [loF, hgi]
    have hmn : minInt (loF l k) [iv l[k + 1]] = some (min (loF l k) l[k + 1]) := by
      simp only [minInt]
      congr 1
      split <;> omega
    have hb : (k : Int) + 1 < l.length := by omega
    have hbp : (0 : Int) ≤ (k : Int) + 1 := by omega
    have ht : ((k : Int) + 1).toNat = k + 1 := by omega
    have w := wrap64 (n := (k : Int) + 1 + 1) (by omega) (by omega)
    simp -implicitDefEqProofs [inv, loopS_eq, c186L0, hi, hb, hbp, ht, hmn, hlo, w]
  · have hb : ¬ (m : Int) + 1 < l.length := by omega
    simp -implicitDefEqProofs [inv, loopS_eq, c186L0, hb]
  · simp [loopFuel]; omega
theorem max135 {n : Nat} (hn : 1 ≤ n) (l : List Int) (h0 : 0 < l.length) (hl : l.length < 1000000) : RUN n 135 [isl l] = .ret (iv (hiF l (l.length - 1))) := by
  obtain ⟨d, rfl⟩ : ∃ d, n = d + 1 := ⟨n - 1, by omega⟩
  rw [RUN, call_eq fe135 _ rfl]
  obtain ⟨m, hm⟩ : ∃ m, l.length = m + 1 := ⟨l.length - 1, by omega⟩
  have hg0 : l.getD 0 0 = l[0] := by simp [List.getD_eq_getElem?_getD, List.getElem?_eq_getElem h0]
  let inv : Nat → St := fun k => ⟨[(0, isl l), (3, iv (hiF l k)), (4, iv (k + 1))], []⟩
  have hlt : ¬ (l.length : Int) < 1 := by omega
  have hx0 : ∃ r, pI l = .int .i64 l[0] :: r := by
    cases l with
    | nil => simp at h0
    | cons x r => exact ⟨pI r, rfl⟩
  obtain ⟨r, hr⟩ := hx0
  have hm1 : l.length - 1 = m := by omega
  have hcast : (l.length : Int) = m + 1 := by omega
  rw [hm1]
  simp -implicitDefEqProofs [c135, hlt, h0, hr]
  rw [loop_run inv m (e := .exit 0) (st' := ⟨(inv m).env ++ [(15, .p (.bool false))], (inv m).sto⟩) (by simp)]
  · simp -implicitDefEqProofs [inv]
  · simp only [inv, hiF, hg0]; rfl
  · intro k hk
    have hi : k + 1 < l.length := by omega
    have hgi : l.getD (k + 1) 0 = l[k + 1] := by simp [List.getD_eq_getElem?_getD, List.getElem?_eq_getElem hi]
    have hhi : hiF l (k + 1) = max (hiF l k) l[k + 1] := by simp only [hiF, hgi]
    have hmx : maxInt (hiF l k) [iv l[k + 1]] = some (max (hiF l k) l[k + 1]) := by
      simp only [maxInt]
      congr 1
      split <;> omega
    have hb : (k : Int) + 1 < l.length := by omega
    have hbp : (0 : Int) ≤ (k : Int) + 1 := by omega
    have ht : ((k : Int) + 1).toNat = k + 1 := by omega
    have w := wrap64 (n := (k : Int) + 1 + 1) (by omega) (by omega)
    simp -implicitDefEqProofs [inv, loopS_eq, c135L0, hi, hb, hbp, ht, hmx, hhi, w]
  · have hb : ¬ (m : Int) + 1 < l.length := by omega
    simp -implicitDefEqProofs [inv, loopS_eq, c135L0, hb]
  · simp [loopFuel]; omega

theorem m161xx : c161 = mapC (.p (.int .i64 0)) 8 := rfl
theorem fc161xx : F 161 = some (mapC (.p (.int .i64 0)) 8) := m161xx ▸ fe161

theorem same25 {n : Nat} (hn : 1 ≤ n) (a b : List (Int × Int)) (ha : a.length < 1000000) : RUN n 25 [csl a, csl b] = .ret (.p (.bool (decide (a = b)))) := by
  obtain ⟨d, rfl⟩ : ∃ d, n = d + 1 := ⟨n - 1, by omega⟩
  rw [RUN, call_eq fe25 _ rfl]
  by_cases hl : a.length = b.length
  · let inv : Nat → St := fun i => ⟨[(0, csl a), (1, csl b), (5, iv i)], []⟩
    let out : Nat → Ex × St := fun i => if a.drop i = b.drop i then (.exit 0, ⟨(inv a.length).env ++ [(14, .p (.bool false))], []⟩) else (.ret, ⟨[(4, .p (.bool false))], []⟩)
    simp -implicitDefEqProofs [c25, hl]
    rw [loop_rec inv out a.length (by simp [inv])]
    · by_cases hq : a = b <;> simp [out, inv, hq]
    · intro i hi
      have hi' : i < b.length := by omega
      have hx := cI_drop a i hi
      have hy := cI_drop b i hi'
      have hlt : i * 2 < a.length * 2 := by omega
      have hlt' : i * 2 < b.length * 2 := by omega
      have hd : (a.drop i = b.drop i) ↔ a[i] = b[i] ∧ a.drop (i + 1) = b.drop (i + 1) := by
        rw [List.drop_eq_getElem_cons hi, List.drop_eq_getElem_cons hi', List.cons.injEq]
      have hp : (a[i] = b[i]) ↔ (a[i].1 = b[i].1 ∧ a[i].2 = b[i].2) := Prod.ext_iff
      by_cases h : a[i].1 = b[i].1 ∧ a[i].2 = b[i].2
      · refine .inl ⟨?_, ?_⟩
        · simp -implicitDefEqProofs [inv, loopS_eq, c25L0, hi', hx, hy, hlt', hl, h.1, h.2, eqK, keyOk, eqP, wrap_succ (i := i) (by omega)]
        · simp [out, hd, hp, h]
      · have hb : ((a[i].1 == b[i].1) && (a[i].2 == b[i].2)) = false := by rw [Bool.eq_false_iff]; simpa using h
        refine .inr ⟨?_, ?_⟩
        · simp -implicitDefEqProofs [inv, loopS_eq, c25L0, hi', hx, hy, hlt', hl, hb, eqK, keyOk, eqP, out, hd, hp, h]
        · simp [out, hd, hp, h]
    · have h1 : a.drop a.length = [] := List.drop_of_length_le (by omega)
      have h2 : b.drop a.length = [] := List.drop_of_length_le (by omega)
      simp [inv, loopS_eq, c25L0, out, hl]
    · simp [loopFuel]; omega
  · have : ¬ a = b := fun h => hl (by rw [h])
    have hl' : ¬ (a.length : Int) = b.length := by omega
    simp -implicitDefEqProofs [c25, hl', this]

theorem max2 (a b : Int) : maxInt a [iv b] = some (max a b) := by
  simp only [maxInt]; congr 1; split <;> omega
abbrev sv (l : List UInt8) : AVal := .p (.str l)
def letB (b : Nat) : Bool := (decide (97 ≤ b) && decide (b ≤ 122)) || (decide (65 ≤ b) && decide (b ≤ 90))
def tailB (b : Nat) : Bool := (decide (48 ≤ b) && decide (b ≤ 57)) || decide (b = 95)
def nameE (l : List UInt8) (i : Nat) : Int := if (letB (l.getD i 0).toNat || (decide (0 < i) && tailB (l.getD i 0).toNat)) = true then 0 else 1
def nameB (l : List UInt8) : Bool := decide (l ≠ []) && decide (l.length ≤ 24) && decide (firstE ((List.range l.length).map (nameE l)) = 0)

theorem name155 {n : Nat} (hn : 1 ≤ n) (l : List UInt8) (hl : l.length ≤ 9223372036854775807) : RUN n 155 [sv l] = .ret (.p (.bool (nameB l))) := by
  obtain ⟨d, rfl⟩ : ∃ d, n = d + 1 := ⟨n - 1, by omega⟩
  rw [RUN, call_eq fe155 _ rfl]
  let inv : Nat → St := fun i => ⟨[(0, sv l), (7, .it 0)], [(0, .siter l i)]⟩
  have key := loop_first (step := loopS (evFn F C0 G0 d) C0 G0 0 false [0, 7] c155L0) inv (nameE l) l.length (.exit 0, ⟨[(0, sv l), (7, .it 0), (8, .tup [.p (.bool false)]), (9, .p (.bool false))], [(0, .siter l l.length)]⟩) (fun i => (.ret, ⟨[(2, .p (.bool false))], [(0, .siter l (i + (Utf8.decode ⟨l.toArray⟩ i).2))]⟩))
          (st0 := ⟨[(0, sv l), (7, .it 0)], [(0, .siter l 0)]⟩) rfl (fun i hi => by
            have hgi : l.getD i 0 = l[i] := by simp [List.getD_eq_getElem?_getD, List.getElem?_eq_getElem hi]
            have he : nameE l i = if (letB l[i].toNat || (decide (0 < i) && tailB l[i].toNat)) = true then 0 else 1 := by simp only [nameE, hgi]
            rw [he]
            by_cases ha : l[i].toNat < 128
            · have hdc := decode_lo l i hi ha
              generalize l[i].toNat = b at *
              by_cases h1 : letB b = true
              · refine ⟨fun _ => ⟨⟨(inv (i + 1)).env ++ [(43, .p (.bool false))], (inv (i + 1)).sto⟩, ?_, by simp -implicitDefEqProofs [inv, loopS_eq]⟩, fun h => absurd (by simp [h1]) h⟩
                have h1' : (97 ≤ b ∧ b ≤ 122) ∨ (65 ≤ b ∧ b ≤ 90) := by simpa [letB] using h1
                rcases h1' with ⟨q1, q2⟩ | ⟨q1, q2⟩
                · have r1 : (97 : Int) ≤ (b : Int) := by omega
                  have r2 : (b : Int) ≤ 122 := by omega
                  simp -implicitDefEqProofs [inv, loopS_eq, c155L0, hi, hdc, r1, r2]
                · have r1 : ¬ (97 : Int) ≤ (b : Int) := by omega
                  have r3 : (65 : Int) ≤ (b : Int) := by omega
                  have r4 : (b : Int) ≤ 90 := by omega
                  have n1 : ¬ 97 ≤ b := by omega
                  simp -implicitDefEqProofs [inv, loopS_eq, c155L0, hi, hdc, r1, r3, r4]
              · have h1' : ¬ ((97 ≤ b ∧ b ≤ 122) ∨ (65 ≤ b ∧ b ≤ 90)) := by simpa [letB] using h1
                have cases4 : ((¬ (97 : Int) ≤ (b : Int) ∧ ¬ 97 ≤ b) ∨ (((97 : Int) ≤ (b : Int) ∧ 97 ≤ b) ∧ (¬ (b : Int) ≤ 122 ∧ ¬ b ≤ 122))) ∧ ((¬ (65 : Int) ≤ (b : Int) ∧ ¬ 65 ≤ b) ∨ (((65 : Int) ≤ (b : Int) ∧ 65 ≤ b) ∧ (¬ (b : Int) ≤ 90 ∧ ¬ b ≤ 90))) := by omega
                by_cases h0 : i = 0
                · subst h0
                  refine ⟨fun h => absurd h (by simp [h1]), fun _ => ?_⟩
                  rcases cases4 with ⟨⟨r1, n1⟩ | ⟨⟨r1, n1⟩, r2, n2⟩, ⟨r3, n3⟩ | ⟨⟨r3, n3⟩, r4, n4⟩⟩ <;> clear h1' <;> simp -implicitDefEqProofs [inv, loopS_eq, c155L0, *]
                · have hz0 : ((i : Int) == 0) = false := by simp; omega
                  have hpos : 0 < i := by omega
                  by_cases h2 : tailB b = true
                  · refine ⟨fun _ => ⟨⟨(inv (i + 1)).env ++ [(43, .p (.bool false))], (inv (i + 1)).sto⟩, ?_, by simp -implicitDefEqProofs [inv, loopS_eq]⟩, fun h => absurd (by simp [h2, hpos]) h⟩
                    have h2' : (48 ≤ b ∧ b ≤ 57) ∨ b = 95 := by simpa [tailB] using h2
                    rcases h2' with ⟨q1, q2⟩ | q1
                    · have r5 : ((b : Int) != 95) = true := by simp; omega
                      have r6 : ¬ (b : Int) < 48 := by omega
                      have r7 : ¬ (57 : Int) < (b : Int) := by omega
                      have n6 : ¬ b < 48 := by omega
                      have n7 : ¬ 57 < b := by omega
                      rcases cases4 with ⟨⟨r1, n1⟩ | ⟨⟨r1, n1⟩, r2, n2⟩, ⟨r3, n3⟩ | ⟨⟨r3, n3⟩, r4, n4⟩⟩ <;> clear h1' <;> simp -implicitDefEqProofs [inv, loopS_eq, c155L0, *]
                    · have r5 : ((b : Int) != 95) = false := by simp; omega
                      rcases cases4 with ⟨⟨r1, n1⟩ | ⟨⟨r1, n1⟩, r2, n2⟩, ⟨r3, n3⟩ | ⟨⟨r3, n3⟩, r4, n4⟩⟩ <;> clear h1' <;> simp -implicitDefEqProofs [inv, loopS_eq, c155L0, *]
                  · refine ⟨fun h => absurd h (by simp [h1, h2]), fun _ => ?_⟩
                    have h2' : ¬ ((48 ≤ b ∧ b ≤ 57) ∨ b = 95) := by simpa [tailB] using h2
                    have r5 : ((b : Int) != 95) = true := by simp; omega
                    have c5 : ((b : Int) < 48 ∧ b < 48) ∨ ((¬ (b : Int) < 48 ∧ ¬ b < 48) ∧ ((57 : Int) < (b : Int) ∧ 57 < b)) := by omega
                    clear h2'
                    rcases c5 with ⟨r6, n6⟩ | ⟨⟨r6, n6⟩, r7, n7⟩ <;> rcases cases4 with ⟨⟨r1, n1⟩ | ⟨⟨r1, n1⟩, r2, n2⟩, ⟨r3, n3⟩ | ⟨⟨r3, n3⟩, r4, n4⟩⟩ <;> clear h1' <;> simp -implicitDefEqProofs [inv, loopS_eq, c155L0, *]
            · have hdc := decode_hi l i hi (by omega)
              have h1 : letB l[i].toNat = false := by simp [letB]; omega
              have h2 : tailB l[i].toNat = false := by simp [tailB]; omega
              refine ⟨fun h => absurd h (by simp [h1, h2]), fun _ => ?_⟩
              generalize hdq : Utf8.decode ⟨l.toArray⟩ i = dc at *
              have r1 : (97 : Int) ≤ (dc.1 : Int) := by omega
              have r2 : ¬ (dc.1 : Int) ≤ 122 := by omega
              have r3 : (65 : Int) ≤ (dc.1 : Int) := by omega
              have r4 : ¬ (dc.1 : Int) ≤ 90 := by omega
              have r5 : ((dc.1 : Int) != 95) = true := by simp; omega
              have r6 : ¬ (dc.1 : Int) < 48 := by omega
              have r7 : (57 : Int) < (dc.1 : Int) := by omega
              cases hz0 : ((i : Int) == 0) <;> simp -implicitDefEqProofs [inv, loopS_eq, c155L0, hi, hdq, r1, r2, r3, r4, r5, r6, r7, hz0]) (fun i => by simp) (by simp -implicitDefEqProofs [inv, loopS_eq, c155L0]) (by simp) (fuel := loopFuel) (by simp [loopFuel]; omega)
  simp -implicitDefEqProofs [c155]
  rcases key with ⟨k1, k2⟩ | ⟨j, hj, k1, k2, k3, _⟩
  · rw [k1]
    by_cases h0 : l = []
    · subst h0
      have : nameB [] = false := rfl
      simp -implicitDefEqProofs [strBin, this]
    · have hb0 : (l == []) = false := by simpa using h0
      have hN : nameB l = decide (l.length ≤ 24) := by simp [nameB, h0, k2]
      have h24 : decide ((l.length : Int) ≤ 24) = decide (l.length ≤ 24) := by rw [Bool.eq_iff_iff]; simp; omega
      simp -implicitDefEqProofs [strBin, hb0, hN, h24]
  · have hN : nameB l = false := by
      have : firstE ((List.range l.length).map (nameE l)) ≠ 0 := by rw [k2]; exact k3
      simp [nameB, this]
    rw [k1]
    simp -implicitDefEqProofs [hN]

theorem name159 {n : Nat} (hn : 1 ≤ n) (l : List UInt8) : RUN n 159 [sv l] = .ret (.p (.bool (nameB l))) := by
  obtain ⟨d, rfl⟩ : ∃ d, n = d + 1 := ⟨n - 1, by omega⟩
  rw [RUN, call_eq fe159 _ rfl]
  by_cases h0 : l = []
  · subst h0
    have : nameB [] = false := rfl
    simp -implicitDefEqProofs [c159, this]
  · have hpos : 0 < l.length := List.length_pos_iff.2 h0
    have hz : ((l.length : Int) == 0) = false := by simp; omega
    by_cases h24 : (24 : Int) < l.length
    · have hN : nameB l = false := by simp [nameB]; omega
      simp -implicitDefEqProofs [c159, hz, h24, hN]
    · let inv : Nat → St := fun i => ⟨[(0, sv l), (3, iv i)], []⟩
      have key := loop_first (step := loopS (evFn F C0 G0 d) C0 G0 0 false [0, 3] c159L0) inv (nameE l) l.length (.exit 0, ⟨(inv l.length).env ++ [(17, .p (.bool false))], []⟩) (fun i => (.ret, ⟨[(2, .p (.bool false))], []⟩))
          (st0 := ⟨[(0, sv l), (3, iv 0)], []⟩) rfl (fun i hi => by
            have hgi : l.getD i 0 = l[i] := by simp [List.getD_eq_getElem?_getD, List.getElem?_eq_getElem hi]
            have hgo : l[i]? = some l[i] := List.getElem?_eq_getElem hi
            have hlt : (i : Int) < l.length := by omega
            have he : nameE l i = if (letB l[i].toNat || (decide (0 < i) && tailB l[i].toNat)) = true then 0 else 1 := by simp only [nameE, hgi]
            rw [he]
            generalize hbq : l[i].toNat = b at *
            by_cases h1 : letB b = true
            · refine ⟨fun _ => ⟨inv (i + 1), ?_, rfl⟩, fun h => absurd (by simp [h1]) h⟩
              have h1' : (97 ≤ b ∧ b ≤ 122) ∨ (65 ≤ b ∧ b ≤ 90) := by simpa [letB] using h1
              rcases h1' with ⟨q1, q2⟩ | ⟨q1, q2⟩
              · have r1 : (97 : Int) ≤ (b : Int) := by omega
                have r2 : (b : Int) ≤ 122 := by omega
                have r3 : (65 : Int) ≤ (b : Int) := by omega
                have r4 : ¬ (b : Int) ≤ 90 := by omega
                have s1 : (48 : Int) ≤ (b : Int) := by omega
                have s2 : ¬ (b : Int) ≤ 57 := by omega
                cases r5 : ((b : Int) == 95) <;> simp -implicitDefEqProofs [inv, loopS_eq, c159L0, hlt, hgo, hbq, r1, r2, r3, r4, s1, s2, r5, wrap_succ (i := i) (by omega)]
              · have r1 : (65 : Int) ≤ (b : Int) := by omega
                have r2 : (b : Int) ≤ 90 := by omega
                have s1 : (48 : Int) ≤ (b : Int) := by omega
                have s2 : ¬ (b : Int) ≤ 57 := by omega
                cases r5 : ((b : Int) == 95) <;> simp -implicitDefEqProofs [inv, loopS_eq, c159L0, hlt, hgo, hbq, r1, r2, s1, s2, r5, wrap_succ (i := i) (by omega)]
            · have h1' : ¬ ((97 ≤ b ∧ b ≤ 122) ∨ (65 ≤ b ∧ b ≤ 90)) := by simpa [letB] using h1
              have cases4 : ((¬ (97 : Int) ≤ (b : Int)) ∨ ((97 : Int) ≤ (b : Int) ∧ ¬ (b : Int) ≤ 122)) ∧ ((¬ (65 : Int) ≤ (b : Int)) ∨ ((65 : Int) ≤ (b : Int) ∧ ¬ (b : Int) ≤ 90)) := by omega
              have casesT : (tailB b = true ∧ ((48 : Int) ≤ (b : Int) ∧ (b : Int) ≤ 57)) ∨ (tailB b = true ∧ ((48 : Int) ≤ (b : Int) ∧ ¬ (b : Int) ≤ 57 ∧ ((b : Int) == 95) = true)) ∨ (tailB b = false ∧ ((¬ (48 : Int) ≤ (b : Int) ∧ ((b : Int) == 95) = false))) ∨ (tailB b = false ∧ ((48 : Int) ≤ (b : Int) ∧ ¬ (b : Int) ≤ 57 ∧ ((b : Int) == 95) = false)) := by
                simp only [tailB, Bool.or_eq_true, Bool.and_eq_true, decide_eq_true_eq, Bool.or_eq_false_iff, Bool.and_eq_false_iff, decide_eq_false_iff_not, beq_iff_eq, beq_eq_false_iff_ne]
                omega
              by_cases h0 : i = 0
              · subst h0
                refine ⟨fun h => absurd h (by simp [h1]), fun _ => ?_⟩
                rcases casesT with ⟨_, s1, s2⟩ | ⟨_, s1, s2, s3⟩ | ⟨_, s1, s3⟩ | ⟨_, s1, s2, s3⟩ <;> rcases cases4 with ⟨r1 | ⟨r1, r2⟩, r3 | ⟨r3, r4⟩⟩ <;> simp -implicitDefEqProofs [inv, loopS_eq, c159L0, *]
              · have hz0 : ((i : Int) == 0) = false := by simp; omega
                have hpos : 0 < i := by omega
                have hw := wrap_succ (i := i) (by omega)
                rcases casesT with ⟨t, s1, s2⟩ | ⟨t, s1, s2, s3⟩ | ⟨t, s1, s3⟩ | ⟨t, s1, s2, s3⟩
                · refine ⟨fun _ => ⟨inv (i + 1), ?_, rfl⟩, fun h => absurd (by simp [t, hpos]) h⟩
                  rcases cases4 with ⟨r1 | ⟨r1, r2⟩, r3 | ⟨r3, r4⟩⟩ <;> simp -implicitDefEqProofs [inv, loopS_eq, c159L0, *]
                · refine ⟨fun _ => ⟨inv (i + 1), ?_, rfl⟩, fun h => absurd (by simp [t, hpos]) h⟩
                  rcases cases4 with ⟨r1 | ⟨r1, r2⟩, r3 | ⟨r3, r4⟩⟩ <;> simp -implicitDefEqProofs [inv, loopS_eq, c159L0, *]
                · refine ⟨fun h => absurd h (by simp [h1, t]), fun _ => ?_⟩
                  rcases cases4 with ⟨r1 | ⟨r1, r2⟩, r3 | ⟨r3, r4⟩⟩ <;> simp -implicitDefEqProofs [inv, loopS_eq, c159L0, *]
                · refine ⟨fun h => absurd h (by simp [h1, t]), fun _ => ?_⟩
                  rcases cases4 with ⟨r1 | ⟨r1, r2⟩, r3 | ⟨r3, r4⟩⟩ <;> simp -implicitDefEqProofs [inv, loopS_eq, c159L0, *]) (fun i => by simp) (by simp -implicitDefEqProofs [inv, loopS_eq, c159L0]) (by simp) (fuel := loopFuel) (by simp [loopFuel]; omega)
      simp -implicitDefEqProofs [c159, hz, h24]
      rcases key with ⟨k1, k2⟩ | ⟨j, hj, k1, k2, k3, _⟩
      · have hN : nameB l = true := by simp [nameB, h0, k2]; omega
        rw [k1]
        simp -implicitDefEqProofs [inv, hN]
      · have hN : nameB l = false := by
          have : firstE ((List.range l.length).map (nameE l)) ≠ 0 := by rw [k2]; exact k3
          simp [nameB, this]
        rw [k1]
        simp -implicitDefEqProofs [hN]
theorem first98_5 {n : Nat} (hn : 1 ≤ n) (a b c e f : Int) : RUN n 98 [.p (.sl [.int .i64 a, .int .i64 b, .int .i64 c, .int .i64 e, .int .i64 f] 5)] = .ret (iv (firstE [a, b, c, e, f])) := first98 hn [a, b, c, e, f] (by simp)
theorem first101_5 {n : Nat} (hn : 1 ≤ n) (a b c e f : Int) : RUN n 101 [.p (.sl [.int .i64 a, .int .i64 b, .int .i64 c, .int .i64 e, .int .i64 f] 5)] = .ret (iv (firstE [a, b, c, e, f])) := first101 hn [a, b, c, e, f] (by simp)

theorem cname113 {n : Nat} (hn : 2 ≤ n) (l : List UInt8) : RUN n 113 [sv l] = .ret (iv (whenE (!nameB l) 8)) := by
  obtain ⟨d, rfl⟩ : ∃ d, n = d + 2 := ⟨n - 2, by omega⟩
  rw [RUN, call_eq fe113 _ rfl]
  simp -implicitDefEqProofs [c113, name159 (n := d + 1), when55 (n := d + 1)]

theorem word93 {n : Nat} (hn : 1 ≤ n) (ws : List (List UInt8)) (w : List UInt8) (hl : ws.length < 1000000) : RUN n 93 [.p (.sl (pStr ws) ws.length), sv w] = .ret (.p (.bool (decide (w ∈ ws)))) := by
  obtain ⟨d, rfl⟩ : ∃ d, n = d + 1 := ⟨n - 1, by omega⟩
  rw [RUN, call_eq fe93 _ rfl]
  let inv : Nat → St := fun i => ⟨[(0, .p (.sl (pStr ws) ws.length)), (1, sv w), (5, iv i)], []⟩
  let e : Nat → Int := fun i => if ws.getD i [] = w then 1 else 0
  have key := loop_first (step := loopS (evFn F C0 G0 d) C0 G0 0 false [0, 1, 5] c93L0) inv e ws.length (.exit 0, ⟨(inv ws.length).env ++ [(9, .p (.bool false))], []⟩) (fun _ => (.ret, ⟨[(4, .p (.bool true))], []⟩))
    (st0 := ⟨[(0, .p (.sl (pStr ws) ws.length)), (1, sv w), (5, iv 0)], []⟩) rfl (fun i hi => by
      have hx := pStr_drop ws i hi
      have hlt' : (i : Int) < ws.length := by omega
      have hg : ws.getD i [] = ws[i] := by simp [List.getD_eq_getElem?_getD, List.getElem?_eq_getElem hi]
      have hei : e i = if ws[i] = w then 1 else 0 := by simp only [e, hg]
      rw [hei]
      by_cases h : ws[i] = w
      · have hb : (ws[i] == w) = true := by simpa using h
        refine ⟨fun hz => absurd hz (by simp [h]), fun _ => ?_⟩
        simp -implicitDefEqProofs [inv, loopS_eq, c93L0, hi, hx, hlt', hb, strBin]
      · have hb : (ws[i] == w) = false := by simpa using h
        refine ⟨fun _ => ⟨inv (i + 1), ?_, rfl⟩, fun hz => absurd (by simp [h]) hz⟩
        simp -implicitDefEqProofs [inv, loopS_eq, c93L0, hi, hx, hlt', hb, strBin, wrap_succ (i := i) (by omega)]) (fun i => by simp) (by simp -implicitDefEqProofs [inv, loopS_eq, c93L0]) (by simp) (fuel := loopFuel) (by simp [loopFuel]; omega)
  simp -implicitDefEqProofs [c93]
  rcases key with ⟨k1, k2⟩ | ⟨j, hj, k1, k2, k3, _⟩
  · have hB : ¬ w ∈ ws := by
      intro hm
      obtain ⟨i, hi, rfl⟩ := List.getElem_of_mem hm
      have := firstE_zero.1 k2 (e i) (List.mem_map.2 ⟨i, by simpa using hi, rfl⟩)
      have hg : ws.getD i [] = ws[i] := by simp [List.getD_eq_getElem?_getD, List.getElem?_eq_getElem hi]
      have h1 : e i = 1 := by simp only [e, hg, if_true]
      omega
    rw [k1]
    simp -implicitDefEqProofs [inv, hB]
  · have hB : w ∈ ws := by
      have hg : ws.getD j [] = ws[j] := by simp [List.getD_eq_getElem?_getD, List.getElem?_eq_getElem hj]
      simp only [e, hg] at k3
      split at k3
      · rename_i h; rw [← h]; exact List.getElem_mem hj
      · exact absurd rfl k3
    rw [k1]
    simp -implicitDefEqProofs [hB]

theorem nan179 {n : Nat} (hn : 1 ≤ n) (a : Int) : RUN n 179 [iv a] = .ret (.p (.bool false)) := by
  obtain ⟨d, rfl⟩ : ∃ d, n = d + 1 := ⟨n - 1, by omega⟩
  rw [RUN, call_eq fe179 _ rfl]
  simp -implicitDefEqProofs [c179]
end Fw
