/- What is alike in several chapters: errors, ranges, names, strings. -/
import Derived.Test.YtdjkleaojdeepaaGreatDoorGaK0
set_option maxHeartbeats 8000000
namespace Fw
open Go
attribute [local irreducible] evCode evOps evOpsD evOper evOperD evOp evFn loopN T.All T.bind callPure callOp opsK opsDK restK seqK blockK loopS setK setQ giveK scalK gcK finish finS rfunK yldK yldB loopK

abbrev iv (n : Int) : AVal := .p (.int .i64 n)
abbrev RUN (n f : Nat) (args : List AVal) : T AVal := callPure (evFn F C0 G0 n) C0 (.fn f) args

def whenE (b : Bool) (e : Int) : Int := if b then e else 0
def rangeE (lo hi n : Int) : Int := if n < lo ∨ hi < n then 3 else 0

theorem when104 {n : Nat} (hn : 1 ≤ n) (b : Bool) (e : Int) : RUN n 104 [.p (.bool b), iv e] = .ret (iv (whenE b e)) := by
 obtain ⟨d, rfl⟩ : ∃ d, n = d + 1 := ⟨n - 1, by omega⟩
 rw [RUN, call_eq fe104 _ rfl]
 cases b <;> simp [c104, whenE]
theorem when94 {n : Nat} (hn : 1 ≤ n) (b : Bool) (e : Int) : RUN n 94 [.p (.bool b), iv e] = .ret (iv (whenE b e)) := by
 obtain ⟨d, rfl⟩ : ∃ d, n = d + 1 := ⟨n - 1, by omega⟩
 rw [RUN, call_eq fe94 _ rfl]
 cases b <;> simp [c94, whenE]

theorem within92 {n : Nat} (hn : 2 ≤ n) (x lo hi : Int) : RUN n 92 [iv x, iv lo, iv hi] = .ret (iv (rangeE lo hi x)) := by
 obtain ⟨d, rfl⟩ : ∃ d, n = d + 2 := ⟨n - 2, by omega⟩
 rw [RUN, call_eq fe92 _ rfl]
 have hw := fun b e => when104 (n := d + 1) (by omega) b e
 by_cases h1 : x < lo <;> by_cases h2 : hi < x <;> simp [c92, h1, h2, hw, whenE, rangeE]
theorem range24 {n : Nat} (hn : 2 ≤ n) (x lo hi : Int) : RUN n 24 [iv x, iv lo, iv hi] = .ret (iv (rangeE lo hi x)) := by
 obtain ⟨d, rfl⟩ : ∃ d, n = d + 2 := ⟨n - 2, by omega⟩
 rw [RUN, call_eq fe24 _ rfl]
 have hw := fun b e => when94 (n := d + 1) (by omega) b e
 by_cases h1 : x < lo <;> by_cases h2 : hi < x <;> simp [c24, h1, h2, hw, whenE, rangeE]

theorem first91 {n : Nat} (hn : 1 ≤ n) (l : List Int) (hl : l.length < 1000000) : RUN n 91 [.p (.sl (pI l) l.length)] = .ret (iv (firstE l)) := by
 obtain ⟨d, rfl⟩ : ∃ d, n = d + 1 := ⟨n - 1, by omega⟩
 exact first_ok (a91 ▸ fe91) (fun _ => rfl) l hl

theorem first23 {n : Nat} (hn : 1 ≤ n) (l : List Int) (hl : l.length < 1000000) : RUN n 23 [.p (.sl (pI l) l.length)] = .ret (iv (firstE l)) := by
 obtain ⟨d, rfl⟩ : ∃ d, n = d + 1 := ⟨n - 1, by omega⟩
 rw [RUN, call_eq fe23 _ rfl]
 let inv : Nat → St := fun i => ⟨[(0, .p (.sl (pI l) l.length)), (3, iv i)], []⟩
 let out : Nat → Ex × St := fun i => if firstE (l.drop i) = 0 then (.exit 0, ⟨[(0, .p (.sl (pI l) l.length)), (3, iv l.length), (7, .p (.bool false))], []⟩) else (.ret, ⟨[(2, iv (firstE (l.drop i)))], []⟩)
 simp [c23]
 rw [loop_rec inv out l.length (by rfl)]
 ·by_cases h : firstE l = 0 <;> simp [out, h]
 ·intro i hi
  have hx : l[i]? = some l[i] := List.getElem?_eq_getElem hi
  have hd : firstE (l.drop i) = if l[i] = 0 then firstE (l.drop (i + 1)) else l[i] := by rw [List.drop_eq_getElem_cons hi]; rfl
  by_cases h : l[i] = 0
  ·refine .inl ⟨?_, ?_⟩
   ·simp [inv, loopS_eq, c23L0, hi, h, wrap_succ (i := i) (by omega)]
   ·simp [out, hd, h]
  ·refine .inr ⟨?_, ?_⟩
   ·simp [inv, loopS_eq, c23L0, hi, h, out, hd]
   ·simp [out, hd, h]
 ·simp [inv, loopS_eq, c23L0, out, firstE]
 ·simp [loopFuel]; omega

theorem first91_2 {n : Nat} (hn : 1 ≤ n) (a b : Int) : RUN n 91 [.p (.sl [.int .i64 a, .int .i64 b] 2)] = .ret (iv (firstE [a, b])) := first91 hn [a, b] (by simp)
theorem first91_3 {n : Nat} (hn : 1 ≤ n) (a b c : Int) : RUN n 91 [.p (.sl [.int .i64 a, .int .i64 b, .int .i64 c] 3)] = .ret (iv (firstE [a, b, c])) := first91 hn [a, b, c] (by simp)
theorem first23_2 {n : Nat} (hn : 1 ≤ n) (a b : Int) : RUN n 23 [.p (.sl [.int .i64 a, .int .i64 b] 2)] = .ret (iv (firstE [a, b])) := first23 hn [a, b] (by simp)
theorem first23_3 {n : Nat} (hn : 1 ≤ n) (a b c : Int) : RUN n 23 [.p (.sl [.int .i64 a, .int .i64 b, .int .i64 c] 3)] = .ret (iv (firstE [a, b, c])) := first23 hn [a, b, c] (by simp)
abbrev isl (l : List Int) : AVal := .p (.sl (pI l) l.length)
abbrev csl (c : List (Int × Int)) : AVal := .p (.sl (cI c) c.length)

theorem fc105 : F 105 = some (mapC (.p (.int .i64 0)) 8) := a105 ▸ fe105

theorem firstE_cons (e : Int) (r : List Int) : firstE (e :: r) = if e = 0 then firstE r else e := rfl

theorem firstE_zero {l : List Int} : firstE l = 0 ↔ ∀ e ∈ l, e = 0 := by
 induction l with
 | nil => simp [firstE]
 | cons e r ih =>
  rw [firstE_cons]
  by_cases h : e = 0 <;> simp [h, ih]

theorem max2 (a b : Int) : maxInt a [iv b] = some (max a b) := by
 simp only [maxInt]; congr 1; split <;> omega
abbrev sv (l : List UInt8) : AVal := .p (.str l)
def letB (b : Nat) : Bool := (decide (97 ≤ b) && decide (b ≤ 122)) || (decide (65 ≤ b) && decide (b ≤ 90))
def tailB (b : Nat) : Bool := (decide (48 ≤ b) && decide (b ≤ 57)) || decide (b = 95)
def nameE (l : List UInt8) (i : Nat) : Int := if (letB (l.getD i 0).toNat || (decide (0 < i) && tailB (l.getD i 0).toNat)) = true then 0 else 1
def nameB (l : List UInt8) : Bool := decide (l ≠ []) && decide (l.length ≤ 24) && decide (firstE ((List.range l.length).map (nameE l)) = 0)

theorem itoa124 {n : Nat} (x : Int) (h1 : -9223372036854775808 ≤ x) (h2 : x ≤ 9223372036854775807) : RUN n 124 [iv x] = .ret (.p (.str (itoaS x))) := by
 have : C0 124 [iv x] = some (.ret (.p (.str (itoaS x)))) := by simp [C0, tabC, cItoa, h1, h2]
 simp only [RUN, callPure, this]
theorem join121 {n : Nat} (ls : List (List UInt8)) (sep : List UInt8) (h1 : ls.length ≤ lim) (h2 : (Lib.join ls sep).length ≤ lim) : RUN n 121 [.p (.sl (pStr ls) ls.length), .p (.str sep)] = .ret (.p (.str (Lib.join ls sep))) := by
 have : C0 121 [.p (.sl (pStr ls) ls.length), .p (.str sep)] = some (.ret (.p (.str (Lib.join ls sep)))) := by simp [C0, tabC, cJoin, strs_pStr, h1, h2]
 simp only [RUN, callPure, this]
theorem index179 {n : Nat} (l : List UInt8) (c : UInt8) : RUN n 179 [.p (.str l), .p (.int .u8 (c.toNat : Int))] = .ret (iv (Lib.indexByte l c)) := by
 have : C0 179 [.p (.str l), .p (.int .u8 (c.toNat : Int))] = some (.ret (iv (Lib.indexByte l c))) := by simp [C0, tabC, cIndexByte]
 simp only [RUN, callPure, this]
theorem count190 {n : Nat} (l : List UInt8) (c : UInt8) : RUN n 190 [.p (.str l), .p (.int .u8 (c.toNat : Int))] = .ret (iv (l.count c)) := by
 have : C0 190 [.p (.str l), .p (.int .u8 (c.toNat : Int))] = some (.ret (iv (l.count c))) := by simp [C0, tabC, cCount, Lib.countByte]
 simp only [RUN, callPure, this]

def tJ (x v : Int) (acc : List UInt8) : St := ⟨[(0, iv x), (3, sv acc), (4, iv v)], []⟩

def digB (b : UInt8) : Bool := decide (48 ≤ b.toNat) && decide (b.toNat ≤ 57)
def valF (l : List UInt8) : Nat → Int
 | 0 => 0
 | k + 1 => 10 * valF l k + ((l.getD k 0).toNat - 48)
def leadB (l : List UInt8) : Bool := decide (l.length = 1) || (l.getD 0 0 != 48)
def digOk (l : List UInt8) : Bool := decide (l ≠ []) && decide (l.length ≤ 9) && l.all digB && leadB l
def digV (l : List UInt8) : Int := valF l l.length

theorem pow_le9 {k : Nat} (h : k ≤ 9) : (10 : Int) ^ k ≤ 1000000000 := by
 have : ∀ k, k ≤ 9 → (10 : Int) ^ k ≤ 1000000000 := by decide
 exact this k h

theorem valF_take {l : List UInt8} {i : Nat} (h : ∀ k, k < i → digB (l.getD k 0) = true) (_hi : i ≤ l.length) (h9 : i ≤ 9) : 0 ≤ valF l i ∧ valF l i ≤ 999999999 := by
 have : ∀ k, k ≤ i → 0 ≤ valF l k ∧ valF l k < (10 : Int) ^ k := by
  intro k
  induction k with
  | zero => intro _; simp [valF]
  | succ k ih =>
   intro hk
   have h1 := ih (by omega)
   have h2 := h k (by omega)
   simp only [digB, Bool.and_eq_true, decide_eq_true_eq] at h2
   have h3 : (10 : Int) ^ (k + 1) = 10 * 10 ^ k := by rw [Int.pow_succ, Int.mul_comm]
   simp only [valF]
   omega
 have h1 := this i (Nat.le_refl _)
 have h2 := pow_le9 h9
 omega

theorem all_getD {l : List UInt8} (p : UInt8 → Bool) : l.all p = true ↔ ∀ k, k < l.length → p (l.getD k 0) = true := by
 rw [List.all_eq_true]
 constructor
 ·intro h k hk
  have : l.getD k 0 = l[k] := by simp [List.getD_eq_getElem?_getD, List.getElem?_eq_getElem hk]
  rw [this]; exact h _ (List.getElem_mem hk)
 ·intro h x hx
  obtain ⟨k, hk, rfl⟩ := List.getElem_of_mem hx
  have : l.getD k 0 = l[k] := by simp [List.getD_eq_getElem?_getD, List.getElem?_eq_getElem hk]
  rw [← this]; exact h k hk

def digE (l : List UInt8) (k : Nat) : Int := if digB (l.getD k 0) = true then 0 else 1
theorem digE_all {l : List UInt8} (h : firstE ((List.range l.length).map (digE l)) = 0) : l.all digB = true := by
 rw [all_getD]
 intro k hk
 have := firstE_zero.1 h (digE l k) (List.mem_map.2 ⟨k, by simpa using hk, rfl⟩)
 unfold digE at this
 split at this
 ·assumption
 ·omega
theorem digE_not {l : List UInt8} {j : Nat} (hj : j < l.length) (h : digE l j ≠ 0) : l.all digB = false := by
 rw [Bool.eq_false_iff]
 intro hc
 apply h
 unfold digE
 rw [if_pos ((all_getD digB).1 hc j hj)]

def valW (l : List UInt8) : Nat → Int
 | 0 => 0
 | k + 1 => IntKind.i64.wrap (IntKind.i64.wrap (10 * valW l k) + ((l.getD k 0).toNat - 48))
theorem valW_eq {l : List UInt8} (h : l.all digB = true) (h9 : l.length ≤ 9) : ∀ i, i ≤ l.length → valW l i = valF l i := by
 intro i
 induction i with
 | zero => intro _; rfl
 | succ i ih =>
  intro hi
  have h1 := ih (by omega)
  have hd := (all_getD digB).1 h
  have h2 := valF_take (l := l) (i := i) (fun k hk => hd k (by omega)) (by omega) (by omega)
  have h3 := valF_take (l := l) (i := i + 1) (fun k hk => hd k (by omega)) (by omega) (by omega)
  have h4 := hd i (by omega)
  simp only [digB, Bool.and_eq_true, decide_eq_true_eq] at h4
  simp only [valF] at h3
  simp only [valW, valF, h1]
  rw [wrap64 (n := 10 * valF l i) (by omega) (by omega), wrap64 (by omega) (by omega)]

theorem digE_zero {l : List UInt8} {i : Nat} (hi : i < l.length) (h : digE l i = 0) : 48 ≤ l[i].toNat ∧ l[i].toNat ≤ 57 := by
 have hgi : l.getD i 0 = l[i] := by simp [List.getD_eq_getElem?_getD, List.getElem?_eq_getElem hi]
 unfold digE at h
 split at h
 ·rename_i hc
  rw [hgi] at hc
  simpa only [digB, Bool.and_eq_true, decide_eq_true_eq] using hc
 ·omega
theorem digE_one {l : List UInt8} {i : Nat} (hi : i < l.length) (h : digE l i ≠ 0) : l[i].toNat < 48 ∨ 57 < l[i].toNat := by
 have hgi : l.getD i 0 = l[i] := by simp [List.getD_eq_getElem?_getD, List.getElem?_eq_getElem hi]
 unfold digE at h
 split at h
 ·exact absurd rfl h
 ·rename_i hc
  rw [hgi] at hc
  simp only [digB, Bool.and_eq_true, decide_eq_true_eq] at hc
  omega

abbrev bv (c : UInt8) : AVal := .p (.int .u8 (c.toNat : Int))

theorem ib169 {n : Nat} (hn : 1 ≤ n) (l : List UInt8) (c : UInt8) : RUN n 169 [sv l, bv c] = .ret (iv (Lib.indexByte l c)) := by
 obtain ⟨d, rfl⟩ : ∃ d, n = d + 1 := ⟨n - 1, by omega⟩
 rw [RUN, call_eq fe169 _ rfl]
 simp -implicitDefEqProofs [c169, index179 (n := d)]
theorem ib154 {n : Nat} (hn : 2 ≤ n) (l : List UInt8) (c : UInt8) : RUN n 154 [sv l, bv c] = .ret (iv (Lib.indexByte l c)) := by
 obtain ⟨d, rfl⟩ : ∃ d, n = d + 2 := ⟨n - 2, by omega⟩
 rw [RUN, call_eq fe154 _ rfl]
 simp -implicitDefEqProofs [c154, ib169 (n := d + 1)]
theorem suffix170 {n : Nat} (hn : 1 ≤ n) (l : List UInt8) (c : UInt8) (hl : l.length ≤ 9223372036854775807) : RUN n 170 [sv l, sv [c]] = .ret (.p (.bool (decide (l.drop (l.length - 1) = [c])))) := by
 obtain ⟨d, rfl⟩ : ∃ d, n = d + 1 := ⟨n - 1, by omega⟩
 rw [RUN, call_eq fe170 _ rfl]
 by_cases h0 : l = []
 ·subst h0
  simp -implicitDefEqProofs [c170]
 ·have hpos : 0 < l.length := List.length_pos_iff.2 h0
  have b1 : (1 : Int) ≤ l.length := by omega
  have w1 := wrap64 (n := (l.length : Int) - 1) (by omega) (by omega)
  have t1 : ((l.length : Int) - 1).toNat = l.length - 1 := by omega
  have b2 : (0 : Int) ≤ (l.length : Int) - 1 := by omega
  have b3 : (l.length : Int) - 1 ≤ l.length := by omega
  have hbq : (l.drop (l.length - 1) == [c]) = decide (l.drop (l.length - 1) = [c]) := by rw [Bool.eq_iff_iff]; simp
  simp -implicitDefEqProofs [c170, strBin, b1, w1, t1, b3, hbq]

theorem cut155 {n : Nat} (hn : 2 ≤ n) (l : List UInt8) (c : UInt8) (hl : l.length ≤ 9223372036854775807) : RUN n 155 [sv l, sv [c]] = .ret (if l.drop (l.length - 1) = [c] then .tup [sv (l.take (l.length - 1)), .p (.bool true)] else .tup [sv l, .p (.bool false)]) := by
 obtain ⟨d, rfl⟩ : ∃ d, n = d + 2 := ⟨n - 2, by omega⟩
 rw [RUN, call_eq fe155 _ rfl]
 have h1 := suffix170 (n := d + 1) (by omega) l c hl
 by_cases hs : l.drop (l.length - 1) = [c]
 ·have h0 : l ≠ [] := fun e => by subst e; simp at hs
  have hpos : 0 < l.length := List.length_pos_iff.2 h0
  have w1 := wrap64 (n := (l.length : Int) - 1) (by omega) (by omega)
  have t1 : ((l.length : Int) - 1).toNat = l.length - 1 := by omega
  have b1 : (1 : Int) ≤ l.length := by omega
  have b2 : (0 : Int) ≤ (l.length : Int) - 1 := by omega
  have b3 : (l.length : Int) - 1 ≤ l.length := by omega
  rw [if_pos hs]
  rw [decide_eq_true hs] at h1
  simp -implicitDefEqProofs [c155, h1, w1, t1, b1, b3]
 ·rw [if_neg hs]
  rw [decide_eq_false hs] at h1
  simp -implicitDefEqProofs [c155, h1]

theorem cut126 {n : Nat} (hn : 3 ≤ n) (l : List UInt8) (c : UInt8) (hl : l.length ≤ 9223372036854775807) : RUN n 126 [sv l, sv [c]] = .ret (if l.drop (l.length - 1) = [c] then .tup [sv (l.take (l.length - 1)), .p (.bool true)] else .tup [sv l, .p (.bool false)]) := by
 obtain ⟨d, rfl⟩ : ∃ d, n = d + 3 := ⟨n - 3, by omega⟩
 rw [RUN, call_eq fe126 _ rfl]
 have h1 := cut155 (n := d + 2) (by omega) l c hl
 by_cases hs : l.drop (l.length - 1) = [c]
 ·rw [if_pos hs] at h1 ⊢
  simp -implicitDefEqProofs [c126, h1]
 ·rw [if_neg hs] at h1 ⊢
  simp -implicitDefEqProofs [c126, h1]

def doneS (c : UInt8) (l : List UInt8) : Nat → List (List UInt8) × Nat
 | 0 => ([], 0)
 | i + 1 => if l.getD i 0 = c then ((doneS c l i).1 ++ [(l.take i).drop (doneS c l i).2], i + 1) else doneS c l i

theorem doneS_le (c : UInt8) (l : List UInt8) : ∀ i, (doneS c l i).2 ≤ i ∧ (doneS c l i).1.length ≤ i := by
 intro i
 induction i with
 | zero => simp [doneS]
 | succ i ih =>
  simp only [doneS]
  split
  ·simp; omega
  ·omega

theorem splitS_snoc (c b : UInt8) (x : List UInt8) : splitS c (x ++ [b]) = if b = c then splitS c x ++ [[]] else (splitS c x).dropLast ++ [(splitS c x).getLastD [] ++ [b]] := by
 induction x with
 | nil => by_cases h : b = c <;> simp [splitS, h]
 | cons y r ih =>
  rw [List.cons_append]
  simp only [splitS, ih]
  by_cases hy : y = c
  ·simp only [hy, if_true]
   by_cases h : b = c
   ·simp [h]
   ·simp only [h, if_false]
    cases hq : splitS c r with
    | nil => exact absurd hq (splitS_ne c r)
    | cons w q => simp
  ·simp only [hy, if_false]
   cases hq : splitS c r with
   | nil => exact absurd hq (splitS_ne c r)
   | cons w q =>
    by_cases h : b = c
    ·simp [h]
    ·simp only [h, if_false]
     cases q with
     | nil => simp
     | cons w2 q2 => simp

theorem doneS_spec (c : UInt8) (l : List UInt8) : ∀ i, i ≤ l.length → splitS c (l.take i) = (doneS c l i).1 ++ [(l.take i).drop (doneS c l i).2] := by
 intro i
 induction i with
 | zero => intro _; simp [doneS, splitS]
 | succ i ih =>
  intro hi
  have h1 := ih (by omega)
  have hg : l.getD i 0 = l[i] := by simp [List.getD_eq_getElem?_getD, List.getElem?_eq_getElem (show i < l.length by omega)]
  have ht : l.take (i + 1) = l.take i ++ [l[i]] := by rw [List.take_append_getElem]
  have hle := (doneS_le c l i).1
  rw [ht, splitS_snoc, h1]
  simp only [doneS, hg]
  by_cases hc : l[i] = c
  ·simp only [hc, if_true]
   have : (l.take i ++ [c]).drop (i + 1) = [] := List.drop_of_length_le (by simp; omega)
   rw [this]
  ·simp only [hc, if_false]
   rw [List.drop_append_of_le_length (by simp; omega)]
   simp

theorem splitR74 {n : Nat} (hn : 1 ≤ n) (l : List UInt8) (c : UInt8) (hl : l.length < 1000000) : RUN n 74 [sv l, bv c] = .ret (.own (pStr (splitS c l)) (splitS c l).length 1) := by
 obtain ⟨d, rfl⟩ : ∃ d, n = d + 1 := ⟨n - 1, by omega⟩
 rw [RUN, call_eq fe74 _ rfl]
 let inv : Nat → St := fun i => ⟨[(0, sv l), (1, bv c), (5, .sl 0 (doneS c l i).1.length 0 (doneS c l i).1.length), (6, iv (doneS c l i).2), (7, iv i)], [(0, .arr (pStr (doneS c l i).1) (doneS c l i).1.length 1)]⟩
 have hspec := doneS_spec c l l.length (Nat.le_refl _)
 rw [List.take_length] at hspec
 have hle := doneS_le c l l.length
 simp -implicitDefEqProofs [c74]
 rw [loop_run inv l.length (e := .exit 0) (st' := ⟨(inv l.length).env ++ [(11, .p (.bool false))], (inv l.length).sto⟩) (by simp)]
 ·have hb : ((doneS c l l.length).2 : Int) ≤ l.length := by omega
  have hlim : (doneS c l l.length).1.length + 1 ≤ lim := by simp only [lim]; omega
  rw [hspec]
  simp -implicitDefEqProofs [inv, hb, hlim, pStr]
 ·rfl
 ·intro i hi
  have hle := doneS_le c l i
  have hb : ((doneS c l i).2 : Int) ≤ i := by omega
  have hlim : (doneS c l i).1.length + 1 ≤ lim := by simp only [lim]; omega
  have hlt : (i : Int) < l.length := by omega
  have hile : (i : Int) ≤ l.length := by omega
  have hgo : l[i]? = some l[i] := List.getElem?_eq_getElem hi
  have hg : l.getD i 0 = l[i] := by simp [List.getD_eq_getElem?_getD, hgo]
  have hd : doneS c l (i + 1) = if l[i] = c then ((doneS c l i).1 ++ [(l.take i).drop (doneS c l i).2], i + 1) else doneS c l i := by simp only [doneS, hg]
  by_cases hc : l[i] = c
  ·have hbq : ((l[i].toNat : Int) == (c.toNat : Int)) = true := by rw [hc]; simp
   rw [if_pos hc] at hd
   simp -implicitDefEqProofs [inv, loopS_eq, c74L0, hlt, hgo, hbq, hb, hile, hlim, hd, pStr, wrap_succ (i := i) (by omega)]
  ·have hbq : ((l[i].toNat : Int) == (c.toNat : Int)) = false := by
    rw [beq_eq_false_iff_ne]
    intro e
    exact hc (UInt8.toNat_inj.1 (by omega))
   rw [if_neg hc] at hd
   simp -implicitDefEqProofs [inv, loopS_eq, c74L0, hlt, hgo, hbq, hd, wrap_succ (i := i) (by omega)]
 ·simp -implicitDefEqProofs [inv, loopS_eq, c74L0]
 ·simp [loopFuel]; omega
theorem index191 {n : Nat} (hn : 2 ≤ n) (l : List UInt8) (c : UInt8) : RUN n 191 [sv l, sv [c]] = .ret (iv (Lib.indexByte l c)) := by
 obtain ⟨d, rfl⟩ : ∃ d, n = d + 2 := ⟨n - 2, by omega⟩
 rw [RUN, call_eq fe191 _ rfl]
 have h1 := ib169 (n := d + 1) (by omega) l c
 cases he : ([c] == l) with
 | true =>
  have : l = [c] := by simpa using (beq_iff_eq.1 he).symm
  subst this
  have hz : Lib.indexByte [c] c = 0 := by simp [Lib.indexByte]
  simp -implicitDefEqProofs [c191, strBin, hz]
 | false => simp -implicitDefEqProofs [c191, strBin, he, h1]
theorem index182 {n : Nat} (hn : 3 ≤ n) (l : List UInt8) (c : UInt8) : RUN n 182 [sv l, sv [c]] = .ret (iv (Lib.indexByte l c)) := by
 obtain ⟨d, rfl⟩ : ∃ d, n = d + 3 := ⟨n - 3, by omega⟩
 rw [RUN, call_eq fe182 _ rfl]
 simp -implicitDefEqProofs [c182, index191 (n := d + 2)]
theorem count181 {n : Nat} (hn : 1 ≤ n) (l : List UInt8) (c : UInt8) : RUN n 181 [sv l, sv [c]] = .ret (iv (l.count c)) := by
 obtain ⟨d, rfl⟩ : ∃ d, n = d + 1 := ⟨n - 1, by omega⟩
 rw [RUN, call_eq fe181 _ rfl]
 simp -implicitDefEqProofs [c181, count190 (n := d)]

theorem mi2 (a b : Int) : minInt a [iv b] = some (min a b) := by
 simp only [minInt]; congr 1; split <;> omega

theorem genSplit171 {n : Nat} (hn : 4 ≤ n) (l : List UInt8) (c : UInt8) (hl : l.length < 1000000) : RUN n 171 [sv l, sv [c], iv 0, iv (-1)] = .ret (.own (pStr (splitS c l)) (splitS c l).length 1) := by
 obtain ⟨d, rfl⟩ : ∃ d, n = d + 4 := ⟨n - 4, by omega⟩
 rw [RUN, call_eq fe171 _ rfl]
 have hcnt := count181 (n := d + 3) (by omega) l c
 have hwl := splitS_length c l
 have hcl : l.count c ≤ l.length := List.count_le_length
 generalize hm : l.count c = m at *
 have w1 := wrap64 (n := (m : Int) + 1) (by omega) (by omega)
 have w2 := wrap64 (n := (l.length : Int) + 1) (by omega) (by omega)
 have w3 := wrap64 (n := (m : Int) + 1 - 1) (by omega) (by omega)
 have e3 : (m : Int) + 1 - 1 = m := by omega
 rw [e3] at w3
 have m1 := mi2 ((m : Int) + 1) ((l.length : Int) + 1)
 have e1 : min ((m : Int) + 1) ((l.length : Int) + 1) = (m : Int) + 1 := by omega
 rw [e1] at m1
 have hlim : (m : Int) + 1 ≤ (lim : Int) := by simp only [lim]; omega
 have t1 : ((m : Int) + 1).toNat = m + 1 := by omega
 have hz := fillW_zero (m + 1) (splitS c l) hwl
 have p1 : (0 : Int) ≤ (m : Int) + 1 := by omega
 let J : Nat → St := fun i => ⟨[(0, sv (restF c l i)), (1, sv [c]), (2, iv 0), (3, iv m), (9, .sl 0 0 0 (m + 1)), (10, iv i)], [(0, .arr (fillW (splitS c l) i) 0 1)]⟩
 have key : ∀ st0 : St, st0 = ⟨[(0, sv l), (1, sv [c]), (2, iv 0), (3, iv m), (9, .sl 0 0 0 (m + 1)), (10, iv 0)], [(0, .arr (fillW (splitS c l) 0) 0 1)]⟩ → loopN (loopS (evFn F C0 G0 (d + 3)) C0 G0 0 false [0, 1, 2, 3, 9, 10] c171L0) loopFuel st0 = .ret (.exit 0, ⟨(J m).env ++ [(36, .p (.bool false))], (J m).sto⟩) := by
  rintro st0 rfl
  refine loop_run J m (by simp) rfl (fun i hi => ?_) ?_ (by simp [loopFuel]; omega)
  ·obtain ⟨r1, r2, r3⟩ := restF_spec c l i (by omega)
   obtain ⟨q1, q2⟩ := restF_at (c := c) (l := l) (i := i) (by omega)
   obtain ⟨q3, q4, q5⟩ := ahead_split q1
   have hidx := index182 (n := d + 3) (by omega) (restF c l i) c
   rw [indexByte_ahead, if_pos q1] at hidx
   have hnx : restF c l (i + 1) = (restF c l i).drop ((ahead c (restF c l i)).length + 1) := rfl
   have htk : (restF c l i).take (ahead c (restF c l i)).length = ahead c (restF c l i) := by
    have h := congrArg (List.take (ahead c (restF c l i)).length) q3
    rw [List.take_left] at h
    exact h
   have hset := fillW_set (by rw [hwl]; omega) q2
   generalize hR : restF c l i = R at *
   generalize hA : ahead c R = A at *
   have w4 := wrap64 (n := (A.length : Int)) (by omega) (by omega)
   have w5 := wrap64 (n := (A.length : Int) + 1) (by omega) (by omega)
   have b1 : (A.length : Int) ≤ R.length := by omega
   have b2 : (A.length : Int) + 1 ≤ R.length := by omega
   have b3 : ¬ (A.length : Int) < 0 := by omega
   have b4 : (0 : Int) ≤ (A.length : Int) + 1 := by omega
   have t5 : ((A.length : Int) + 1).toNat = A.length + 1 := by omega
   have b5 : (i : Int) < m := by omega
   have b6 : (i : Int) < (m : Int) + 1 := by omega
   have b7 : i + 1 ≤ m + 1 := by omega
   have hfl := fillW_length (splitS c l) i (by rw [hwl]; omega)
   simp -implicitDefEqProofs [J, hR, loopS_eq, c171L0, hidx, htk, hnx, hset, w4, w5, b1, b2, b3, b4, b5, b6, b7, t5, hfl, hwl, wrap_succ (i := i) (by omega)]
  ·simp -implicitDefEqProofs [J, loopS_eq, c171L0]
 have key := key _ rfl
 obtain ⟨q1, q2⟩ := restF_end c l
 rw [hm] at q1 q2
 have hset := fillW_set (i := m) (by rw [hwl]; omega) q2
 rw [← hwl, fillW_all] at hset
 have hfl := fillW_length (splitS c l) m (by rw [hwl]; omega)
 have b6 : (m : Int) < (m : Int) + 1 := by omega
 simp -implicitDefEqProofs [c171, strBin, hcnt, w1, w2, w3, m1, hlim, t1, hz, p1]
 rw [key]
 simp -implicitDefEqProofs [J, hset, hfl, hwl, w1, b6, t1, p1]

theorem split156 {n : Nat} (hn : 5 ≤ n) (l : List UInt8) (c : UInt8) (hl : l.length < 1000000) : RUN n 156 [sv l, sv [c]] = .ret (.p (.sl (pStr (splitS c l)) (splitS c l).length)) := by
 obtain ⟨d, rfl⟩ : ∃ d, n = d + 5 := ⟨n - 5, by omega⟩
 rw [RUN, call_eq fe156 _ rfl]
 simp -implicitDefEqProofs [c156, genSplit171 (n := d + 4) (by omega) l c hl]
def pB (l : List UInt8) : List PVal := l.map fun b => .int .u8 (b.toNat : Int)
@[simp] theorem pB_length (l : List UInt8) : (pB l).length = l.length := by simp [pB]
def eqE (l : List UInt8) (v : UInt8) (i : Nat) : Int := if v = l.getD i 0 then 1 else 0
def idxB (l : List UInt8) (v : UInt8) : Int := if firstE ((List.range l.length).map (eqE l v)) = 0 then -1 else (l.idxOf v : Int)

theorem idxOf_at (v : UInt8) : ∀ (l : List UInt8) (j : Nat), l[j]? = some v → (∀ q, q < j → l[q]? ≠ some v) → l.idxOf v = j
 | [], j, h, _ => by simp at h
 | b :: r, 0, h, _ => by
  have : b = v := by simpa using h
  subst this; simp
 | b :: r, j + 1, h, hq => by
  have hb : ¬ b = v := fun e => hq 0 (by omega) (by simp [e])
  have ih := idxOf_at v r j (by simpa using h) (fun q hq2 => by have := hq (q + 1) (by omega); simpa using this)
  rw [List.idxOf_cons, ih]
  have : (b == v) = false := by simpa using hb
  simp [this]
end Fw
