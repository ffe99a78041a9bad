/- Several texts in one: steps of the proof, no condition of their own. -/
import Derived.Test.YtombnimlolbekaaGreatDoorPuLanes
import Derived.Test.YtombnimlolbekaaGreatDoorFwC
import Derived.Test.YtombnimlolbekaaGreatDoorPuS5
attribute [local irreducible] Fw.evCode Fw.evOps Fw.evOpsD Fw.evOper Fw.evOperD Fw.evOp Fw.evFn Fw.loopN Fw.T.All Fw.T.bind Fw.callPure Fw.callOp Fw.opsK Fw.opsDK Fw.restK Fw.seqK Fw.blockK Fw.loopS Fw.setK Fw.setQ Fw.giveK Fw.scalK Fw.gcK Fw.finish Fw.finS Fw.rfunK Fw.yldK Fw.yldB Fw.loopK
section
namespace Fw
open Go
theorem max2 (a b : Int) : maxInt a [iv b] = some (max a b) := by
 simp only [maxInt]; congr 1; split <;> omega
theorem min2 (a b : Int) : minInt a [iv b] = some (min a b) := by
 simp only [minInt]; congr 1; split <;> omega
theorem itoa133 {n : Nat} (x : Int) (h1 : -9223372036854775808 ≤ x) (h2 : x ≤ 9223372036854775807) : RUN n 133 [iv x] = .ret (.p (.str (itoaS x))) := by
 have : C0 133 [iv x] = some (.ret (.p (.str (itoaS x)))) := by simp [C0, tabC, cItoa, h1, h2]
 simp only [RUN, callPure, this]
theorem join130 {n : Nat} (ls : List (List UInt8)) (sep : List UInt8) (h1 : ls.length ≤ lim) (h2 : (Lib.join ls sep).length ≤ lim) : RUN n 130 [.p (.sl (pStr ls) ls.length), .p (.str sep)] = .ret (.p (.str (Lib.join ls sep))) := by
 have : C0 130 [.p (.sl (pStr ls) ls.length), .p (.str sep)] = some (.ret (.p (.str (Lib.join ls sep)))) := by simp [C0, tabC, cJoin, strs_pStr, h1, h2]
 simp only [RUN, callPure, this]
theorem index198 {n : Nat} (l : List UInt8) (c : UInt8) : RUN n 198 [.p (.str l), .p (.int .u8 (c.toNat : Int))] = .ret (iv (Lib.indexByte l c)) := by
 have : C0 198 [.p (.str l), .p (.int .u8 (c.toNat : Int))] = some (.ret (iv (Lib.indexByte l c))) := by simp [C0, tabC, cIndexByte]
 simp only [RUN, callPure, this]
theorem count201 {n : Nat} (l : List UInt8) (c : UInt8) : RUN n 201 [.p (.str l), .p (.int .u8 (c.toNat : Int))] = .ret (iv (l.count c)) := by
 have : C0 201 [.p (.str l), .p (.int .u8 (c.toNat : Int))] = some (.ret (iv (l.count c))) := by simp [C0, tabC, cCount, Lib.countByte]
 simp only [RUN, callPure, this]
end Fw
end

section
set_option maxHeartbeats 8000000
namespace Fw
open Go

abbrev sv (l : List UInt8) : AVal := .p (.str l)

/-! a numeral, written -/

/-! a numeral, read -/

def digB (b : UInt8) : Bool := decide (48 ≤ b.toNat) && decide (b.toNat ≤ 57)
def valF (l : List UInt8) : Nat → Int
 | 0 => 0
 | k + 1 => 10 * valF l k + ((l.getD k 0).toNat - 48)
def leadB (l : List UInt8) : Bool := decide (l.length = 1) || (l.getD 0 0 != 48)
def digOk (l : List UInt8) : Bool := decide (l ≠ []) && decide (l.length ≤ 9) && l.all digB && leadB l
def digV (l : List UInt8) : Int := valF l l.length

theorem pow_le9 {k : Nat} (h : k ≤ 9) : (10 : Int) ^ k ≤ 1000000000 := by
 have : ∀ k, k ≤ 9 → (10 : Int) ^ k ≤ 1000000000 := by decide
 exact this k h

theorem valF_take {l : List UInt8} {i : Nat} (h : ∀ k, k < i → digB (l.getD k 0) = true) (_hi : i ≤ l.length) (h9 : i ≤ 9) : 0 ≤ valF l i ∧ valF l i ≤ 999999999 := by
 have : ∀ k, k ≤ i → 0 ≤ valF l k ∧ valF l k < (10 : Int) ^ k := by
  intro k
  induction k with
  | zero => intro _; simp [valF]
  | succ k ih =>
   intro hk
   have h1 := ih (by omega)
   have h2 := h k (by omega)
   simp only [digB, Bool.and_eq_true, decide_eq_true_eq] at h2
   have h3 : (10 : Int) ^ (k + 1) = 10 * 10 ^ k := by rw [Int.pow_succ, Int.mul_comm]
   simp only [valF]
   omega
 have h1 := this i (Nat.le_refl _)
 have h2 := pow_le9 h9
 omega

theorem all_getD {l : List UInt8} (p : UInt8 → Bool) : l.all p = true ↔ ∀ k, k < l.length → p (l.getD k 0) = true := by
 rw [List.all_eq_true]
 constructor
 ·intro h k hk
  have : l.getD k 0 = l[k] := by simp [List.getD_eq_getElem?_getD, List.getElem?_eq_getElem hk]
  rw [this]; exact h _ (List.getElem_mem hk)
 ·intro h x hx
  obtain ⟨k, hk, rfl⟩ := List.getElem_of_mem hx
  have : l.getD k 0 = l[k] := by simp [List.getD_eq_getElem?_getD, List.getElem?_eq_getElem hk]
  rw [← this]; exact h k hk

def digE (l : List UInt8) (k : Nat) : Int := if digB (l.getD k 0) = true then 0 else 1
theorem digE_all {l : List UInt8} (h : firstE ((List.range l.length).map (digE l)) = 0) : l.all digB = true := by
 rw [all_getD]
 intro k hk
 have := firstE_zero.1 h (digE l k) (List.mem_map.2 ⟨k, by simpa using hk, rfl⟩)
 unfold digE at this
 split at this
 ·assumption
 ·omega
theorem digE_not {l : List UInt8} {j : Nat} (hj : j < l.length) (h : digE l j ≠ 0) : l.all digB = false := by
 rw [Bool.eq_false_iff]
 intro hc
 apply h
 unfold digE
 rw [if_pos ((all_getD digB).1 hc j hj)]

def valW (l : List UInt8) : Nat → Int
 | 0 => 0
 | k + 1 => IntKind.i64.wrap (IntKind.i64.wrap (10 * valW l k) + ((l.getD k 0).toNat - 48))
theorem valW_eq {l : List UInt8} (h : l.all digB = true) (h9 : l.length ≤ 9) : ∀ i, i ≤ l.length → valW l i = valF l i := by
 intro i
 induction i with
 | zero => intro _; rfl
 | succ i ih =>
  intro hi
  have h1 := ih (by omega)
  have hd := (all_getD digB).1 h
  have h2 := valF_take (l := l) (i := i) (fun k hk => hd k (by omega)) (by omega) (by omega)
  have h3 := valF_take (l := l) (i := i + 1) (fun k hk => hd k (by omega)) (by omega) (by omega)
  have h4 := hd i (by omega)
  simp only [digB, Bool.and_eq_true, decide_eq_true_eq] at h4
  simp only [valF] at h3
  simp only [valW, valF, h1]
  rw [wrap64 (n := 10 * valF l i) (by omega) (by omega), wrap64 (by omega) (by omega)]

theorem digE_zero {l : List UInt8} {i : Nat} (hi : i < l.length) (h : digE l i = 0) : 48 ≤ l[i].toNat ∧ l[i].toNat ≤ 57 := by
 have hgi : l.getD i 0 = l[i] := by simp [List.getD_eq_getElem?_getD, List.getElem?_eq_getElem hi]
 unfold digE at h
 split at h
 ·rename_i hc
  rw [hgi] at hc
  simpa only [digB, Bool.and_eq_true, decide_eq_true_eq] using hc
 ·omega
theorem digE_one {l : List UInt8} {i : Nat} (hi : i < l.length) (h : digE l i ≠ 0) : l[i].toNat < 48 ∨ 57 < l[i].toNat := by
 have hgi : l.getD i 0 = l[i] := by simp [List.getD_eq_getElem?_getD, List.getElem?_eq_getElem hi]
 unfold digE at h
 split at h
 ·exact absurd rfl h
 ·rename_i hc
  rw [hgi] at hc
  simp only [digB, Bool.and_eq_true, decide_eq_true_eq] at hc
  omega

def intV (l : List UInt8) : Int := if l.all digB = true ∧ l.length ≤ 9 then digV l else 0
theorem intV_ok {l : List UInt8} (h : digOk l = true) : intV l = digV l := by
 simp only [digOk, Bool.and_eq_true, decide_eq_true_eq] at h
 rw [intV, if_pos ⟨h.1.2, h.1.1.2⟩]

theorem integer170 {n : Nat} (hn : 1 ≤ n) (l : List UInt8) (hl : l.length ≤ 9223372036854775807) : RUN n 170 [sv l] = .ret (.tup [iv (intV l), .p (.bool (digOk l))]) := by
 obtain ⟨d, rfl⟩ : ∃ d, n = d + 1 := ⟨n - 1, by omega⟩
 rw [RUN, call_eq fe170 _ rfl]
 by_cases h9 : (9 : Int) < l.length
 ·have hpos : 0 < l.length := by omega
  have hok : digOk l = false := by simp only [digOk, Bool.and_eq_false_iff]; refine .inl (.inl (.inr ?_)); simp; omega
  have hiv : intV l = 0 := by rw [intV, if_neg (fun h => by omega)]
  have r1 : loopN (loopS (evFn F C0 G0 d) C0 G0 0 false [0, 4, 8] c170L0) loopFuel ⟨[(0, sv l), (4, iv 0), (8, .it 0)], [(0, .siter l 0)]⟩ = .ret (.ret, ⟨[(2, iv 0), (3, .p (.bool false))], [(0, .siter l (0 + (Utf8.decode ⟨l.toArray⟩ 0).2))]⟩) := by
   refine loopN_end ?_ (by simp) (by simp [loopFuel])
   generalize hdq : Utf8.decode ⟨l.toArray⟩ 0 = dc
   by_cases c1 : (dc.1 : Int) < 48
   ·simp -implicitDefEqProofs [loopS_eq, c170L0, hpos, hdq, c1]
   ·by_cases c2 : (57 : Int) < dc.1 <;> simp -implicitDefEqProofs [loopS_eq, c170L0, hpos, hdq, h9, c1, c2]
  simp -implicitDefEqProofs [c170]
  rw [r1]
  simp -implicitDefEqProofs [hok, hiv]
 ·have h9n : l.length ≤ 9 := by omega
  let inv : Nat → St := fun i => ⟨[(0, sv l), (4, iv (valW l i)), (8, .it 0)], [(0, .siter l i)]⟩
  have key := loop_first (step := loopS (evFn F C0 G0 d) C0 G0 0 false [0, 4, 8] c170L0) inv (digE l) l.length (.exit 0, ⟨[(0, sv l), (4, iv (valW l l.length)), (8, .it 0), (9, .tup [.p (.bool false)]), (10, .p (.bool false))], [(0, .siter l l.length)]⟩) (fun i => (.ret, ⟨[(2, iv 0), (3, .p (.bool false))], [(0, .siter l (i + (Utf8.decode ⟨l.toArray⟩ i).2))]⟩))
     (st0 := ⟨[(0, sv l), (4, iv 0), (8, .it 0)], [(0, .siter l 0)]⟩) rfl (fun i hi => by
      have hgi : l.getD i 0 = l[i] := by simp [List.getD_eq_getElem?_getD, List.getElem?_eq_getElem hi]
      refine ⟨fun hz => ⟨inv (i + 1), ?_, rfl⟩, fun hz => ?_⟩
      ·obtain ⟨b1, b2⟩ := digE_zero hi hz
       have hdc := decode_lo l i hi (by omega)
       have c1 : ¬ (l[i].toNat : Int) < 48 := by omega
       have c2 : ¬ (57 : Int) < l[i].toNat := by omega
       have w8 : IntKind.i32.wrap ((l[i].toNat : Int) - 48) = (l[i].toNat : Int) - 48 := by rw [IntKind.wrap_i32]; omega
       have w6 : IntKind.i64.wrap ((l[i].toNat : Int) - 48) = (l[i].toNat : Int) - 48 := wrap64 (by omega) (by omega)
       have hv : valW l (i + 1) = IntKind.i64.wrap (IntKind.i64.wrap (10 * valW l i) + ((l[i].toNat : Int) - 48)) := by simp only [valW, hgi]
       simp -implicitDefEqProofs [inv, loopS_eq, c170L0, hi, hdc, h9, c1, c2, w8, w6, hv]
      ·by_cases ha : l[i].toNat < 128
       ·have hdc := decode_lo l i hi ha
        rcases digE_one hi hz with b | b
        ·have c1 : (l[i].toNat : Int) < 48 := by omega
         simp -implicitDefEqProofs [inv, loopS_eq, c170L0, hi, hdc, c1]
        ·have c1 : ¬ (l[i].toNat : Int) < 48 := by omega
         have c2 : (57 : Int) < l[i].toNat := by omega
         simp -implicitDefEqProofs [inv, loopS_eq, c170L0, hi, hdc, c1, c2]
       ·have hdc := decode_hi l i hi (by omega)
        generalize hdq : Utf8.decode ⟨l.toArray⟩ i = dc at *
        have c1 : ¬ (dc.1 : Int) < 48 := by omega
        have c2 : (57 : Int) < dc.1 := by omega
        simp -implicitDefEqProofs [inv, loopS_eq, c170L0, hi, hdq, c1, c2]) (fun i => by simp) (by simp -implicitDefEqProofs [inv, loopS_eq, c170L0]) (by simp) (fuel := loopFuel) (by simp [loopFuel]; omega)
  simp -implicitDefEqProofs [c170]
  rcases key with ⟨k1, k2⟩ | ⟨j, hj, k1, k2, k3, _⟩
  ·have hall := digE_all k2
   have hvw := valW_eq hall h9n l.length (Nat.le_refl _)
   have hiv : intV l = valF l l.length := by rw [intV, if_pos ⟨hall, h9n⟩]; rfl
   rw [k1]
   by_cases h0 : l = []
   ·subst h0
    have : digOk [] = false := rfl
    have h2 : intV [] = 0 := rfl
    simp -implicitDefEqProofs [strBin, this, h2, valW]
   ·have hb0 : (l != []) = true := by simpa using h0
    have hpos : 0 < l.length := List.length_pos_iff.2 h0
    have hg0 : l[0]? = some l[0] := List.getElem?_eq_getElem hpos
    have hgd : l.getD 0 0 = l[0] := by simp [List.getD_eq_getElem?_getD, hg0]
    have hok : digOk l = leadB l := by simp [digOk, h0, h9n, hall]
    have hbe : (l == []) = false := by simpa using h0
    by_cases h1 : l.length = 1
    ·have hl1 : leadB l = true := by simp [leadB, h1]
     have h1i : ((l.length : Int) == 1) = true := by simp; omega
     simp -implicitDefEqProofs [strBin, hbe, h1i, hiv, hvw, hok, hl1]
    ·have h1i : ((l.length : Int) == 1) = false := by simp; omega
     have hl1 : leadB l = ((l[0].toNat : Int) != 48) := by
      simp only [leadB, h1, decide_false, Bool.false_or, hgd]
      rw [Bool.eq_iff_iff]
      simp only [bne_iff_ne, ne_eq]
      constructor
      ·intro h e
       exact h (UInt8.toNat_inj.1 (by
        have : l[0].toNat = 48 := by omega
        simpa using this))
      ·intro h e
       rw [e] at h
       exact h rfl
     simp -implicitDefEqProofs [strBin, hbe, h1i, hg0, hiv, hvw, hok, hl1]
  ·have hall := digE_not hj k3
   have hok : digOk l = false := by simp [digOk, hall]
   have hiv : intV l = 0 := by rw [intV, if_neg (fun h => by rw [hall] at h; exact Bool.noConfusion h.1)]
   rw [k1]
   simp -implicitDefEqProofs [hok, hiv]
end Fw
end

section
set_option maxHeartbeats 8000000
namespace Fw
open Go

abbrev bv (c : UInt8) : AVal := .p (.int .u8 (c.toNat : Int))

theorem ib185 {n : Nat} (hn : 1 ≤ n) (l : List UInt8) (c : UInt8) : RUN n 185 [sv l, bv c] = .ret (iv (Lib.indexByte l c)) := by
 obtain ⟨d, rfl⟩ : ∃ d, n = d + 1 := ⟨n - 1, by omega⟩
 rw [RUN, call_eq fe185 _ rfl]
 simp -implicitDefEqProofs [c185, index198 (n := d)]
theorem ib167 {n : Nat} (hn : 2 ≤ n) (l : List UInt8) (c : UInt8) : RUN n 167 [sv l, bv c] = .ret (iv (Lib.indexByte l c)) := by
 obtain ⟨d, rfl⟩ : ∃ d, n = d + 2 := ⟨n - 2, by omega⟩
 rw [RUN, call_eq fe167 _ rfl]
 simp -implicitDefEqProofs [c167, ib185 (n := d + 1)]
theorem index202 {n : Nat} (hn : 2 ≤ n) (l : List UInt8) (c : UInt8) : RUN n 202 [sv l, sv [c]] = .ret (iv (Lib.indexByte l c)) := by
 obtain ⟨d, rfl⟩ : ∃ d, n = d + 2 := ⟨n - 2, by omega⟩
 rw [RUN, call_eq fe202 _ rfl]
 have h1 := ib185 (n := d + 1) (by omega) l c
 cases he : ([c] == l) with
 | true =>
  have : l = [c] := by simpa using (beq_iff_eq.1 he).symm
  subst this
  have hz : Lib.indexByte [c] c = 0 := by simp [Lib.indexByte]
  simp -implicitDefEqProofs [c202, strBin, hz]
 | false => simp -implicitDefEqProofs [c202, strBin, he, h1]
theorem index189 {n : Nat} (hn : 3 ≤ n) (l : List UInt8) (c : UInt8) : RUN n 189 [sv l, sv [c]] = .ret (iv (Lib.indexByte l c)) := by
 obtain ⟨d, rfl⟩ : ∃ d, n = d + 3 := ⟨n - 3, by omega⟩
 rw [RUN, call_eq fe189 _ rfl]
 simp -implicitDefEqProofs [c189, index202 (n := d + 2)]
theorem count188 {n : Nat} (hn : 1 ≤ n) (l : List UInt8) (c : UInt8) : RUN n 188 [sv l, sv [c]] = .ret (iv (l.count c)) := by
 obtain ⟨d, rfl⟩ : ∃ d, n = d + 1 := ⟨n - 1, by omega⟩
 rw [RUN, call_eq fe188 _ rfl]
 simp -implicitDefEqProofs [c188, count201 (n := d)]

theorem genSplit169 {n : Nat} (hn : 4 ≤ n) (l : List UInt8) (c : UInt8) (hl : l.length < 1000000) : RUN n 169 [sv l, sv [c], iv 0, iv (-1)] = .ret (.own (pStr (splitS c l)) (splitS c l).length 1) := by
 obtain ⟨d, rfl⟩ : ∃ d, n = d + 4 := ⟨n - 4, by omega⟩
 rw [RUN, call_eq fe169 _ rfl]
 have hcnt := count188 (n := d + 3) (by omega) l c
 have hwl := splitS_length c l
 have hcl : l.count c ≤ l.length := List.count_le_length
 generalize hm : l.count c = m at *
 have w1 := wrap64 (n := (m : Int) + 1) (by omega) (by omega)
 have w2 := wrap64 (n := (l.length : Int) + 1) (by omega) (by omega)
 have w3 := wrap64 (n := (m : Int) + 1 - 1) (by omega) (by omega)
 have e3 : (m : Int) + 1 - 1 = m := by omega
 rw [e3] at w3
 have m1 := min2 ((m : Int) + 1) ((l.length : Int) + 1)
 have e1 : min ((m : Int) + 1) ((l.length : Int) + 1) = (m : Int) + 1 := by omega
 rw [e1] at m1
 have hlim : (m : Int) + 1 ≤ (lim : Int) := by simp only [lim]; omega
 have t1 : ((m : Int) + 1).toNat = m + 1 := by omega
 have hz := fillW_zero (m + 1) (splitS c l) hwl
 have p1 : (0 : Int) ≤ (m : Int) + 1 := by omega
 let J : Nat → St := fun i => ⟨[(0, sv (restF c l i)), (1, sv [c]), (2, iv 0), (3, iv m), (9, .sl 0 0 0 (m + 1)), (10, iv i)], [(0, .arr (fillW (splitS c l) i) 0 1)]⟩
 have key : ∀ st0 : St, st0 = ⟨[(0, sv l), (1, sv [c]), (2, iv 0), (3, iv m), (9, .sl 0 0 0 (m + 1)), (10, iv 0)], [(0, .arr (fillW (splitS c l) 0) 0 1)]⟩ → loopN (loopS (evFn F C0 G0 (d + 3)) C0 G0 0 false [0, 1, 2, 3, 9, 10] c169L0) loopFuel st0 = .ret (.exit 0, ⟨(J m).env ++ [(36, .p (.bool false))], (J m).sto⟩) := by
  rintro st0 rfl
  refine loop_run J m (by simp) rfl (fun i hi => ?_) ?_ (by simp [loopFuel]; omega)
  ·obtain ⟨r1, r2, r3⟩ := restF_spec c l i (by omega)
   obtain ⟨q1, q2⟩ := restF_at (c := c) (l := l) (i := i) (by omega)
   obtain ⟨q3, q4, q5⟩ := ahead_split q1
   have hidx := index189 (n := d + 3) (by omega) (restF c l i) c
   rw [indexByte_ahead, if_pos q1] at hidx
   have hnx : restF c l (i + 1) = (restF c l i).drop ((ahead c (restF c l i)).length + 1) := rfl
   have htk : (restF c l i).take (ahead c (restF c l i)).length = ahead c (restF c l i) := by
    have h := congrArg (List.take (ahead c (restF c l i)).length) q3
    rw [List.take_left] at h
    exact h
   have hset := fillW_set (by rw [hwl]; omega) q2
   generalize hR : restF c l i = R at *
   generalize hA : ahead c R = A at *
   have w4 := wrap64 (n := (A.length : Int)) (by omega) (by omega)
   have w5 := wrap64 (n := (A.length : Int) + 1) (by omega) (by omega)
   have b1 : (A.length : Int) ≤ R.length := by omega
   have b2 : (A.length : Int) + 1 ≤ R.length := by omega
   have b3 : ¬ (A.length : Int) < 0 := by omega
   have b4 : (0 : Int) ≤ (A.length : Int) + 1 := by omega
   have t5 : ((A.length : Int) + 1).toNat = A.length + 1 := by omega
   have b5 : (i : Int) < m := by omega
   have b6 : (i : Int) < (m : Int) + 1 := by omega
   have b7 : i + 1 ≤ m + 1 := by omega
   have hfl := fillW_length (splitS c l) i (by rw [hwl]; omega)
   simp -implicitDefEqProofs [J, hR, loopS_eq, c169L0, hidx, htk, hnx, hset, w4, w5, b1, b2, b3, b4, b5, b6, b7, t5, hfl, hwl, wrap_succ (i := i) (by omega)]
  ·simp -implicitDefEqProofs [J, loopS_eq, c169L0]
 have key := key _ rfl
 obtain ⟨q1, q2⟩ := restF_end c l
 rw [hm] at q1 q2
 have hset := fillW_set (i := m) (by rw [hwl]; omega) q2
 rw [← hwl, fillW_all] at hset
 have hfl := fillW_length (splitS c l) m (by rw [hwl]; omega)
 have b6 : (m : Int) < (m : Int) + 1 := by omega
 simp -implicitDefEqProofs [c169, strBin, hcnt, w1, w2, w3, m1, hlim, t1, hz, p1]
 rw [key]
 simp -implicitDefEqProofs [J, hset, hfl, hwl, w1, b6, t1, p1]

theorem split136 {n : Nat} (hn : 5 ≤ n) (l : List UInt8) (c : UInt8) (hl : l.length < 1000000) : RUN n 136 [sv l, sv [c]] = .ret (.p (.sl (pStr (splitS c l)) (splitS c l).length)) := by
 obtain ⟨d, rfl⟩ : ∃ d, n = d + 5 := ⟨n - 5, by omega⟩
 rw [RUN, call_eq fe136 _ rfl]
 simp -implicitDefEqProofs [c136, genSplit169 (n := d + 4) (by omega) l c hl]

/-! a suffix, cut off -/

theorem suffix186 {n : Nat} (hn : 1 ≤ n) (l : List UInt8) (c : UInt8) (hl : l.length ≤ 9223372036854775807) : RUN n 186 [sv l, sv [c]] = .ret (.p (.bool (decide (l.drop (l.length - 1) = [c])))) := by
 obtain ⟨d, rfl⟩ : ∃ d, n = d + 1 := ⟨n - 1, by omega⟩
 rw [RUN, call_eq fe186 _ rfl]
 by_cases h0 : l = []
 ·subst h0
  simp -implicitDefEqProofs [c186]
 ·have hpos : 0 < l.length := List.length_pos_iff.2 h0
  have b1 : (1 : Int) ≤ l.length := by omega
  have w1 := wrap64 (n := (l.length : Int) - 1) (by omega) (by omega)
  have t1 : ((l.length : Int) - 1).toNat = l.length - 1 := by omega
  have b2 : (0 : Int) ≤ (l.length : Int) - 1 := by omega
  have b3 : (l.length : Int) - 1 ≤ l.length := by omega
  have hbq : (l.drop (l.length - 1) == [c]) = decide (l.drop (l.length - 1) = [c]) := by rw [Bool.eq_iff_iff]; simp
  simp -implicitDefEqProofs [c186, strBin, b1, w1, t1, b3, hbq]

theorem cut168 {n : Nat} (hn : 2 ≤ n) (l : List UInt8) (c : UInt8) (hl : l.length ≤ 9223372036854775807) : RUN n 168 [sv l, sv [c]] = .ret (if l.drop (l.length - 1) = [c] then .tup [sv (l.take (l.length - 1)), .p (.bool true)] else .tup [sv l, .p (.bool false)]) := by
 obtain ⟨d, rfl⟩ : ∃ d, n = d + 2 := ⟨n - 2, by omega⟩
 rw [RUN, call_eq fe168 _ rfl]
 have h1 := suffix186 (n := d + 1) (by omega) l c hl
 by_cases hs : l.drop (l.length - 1) = [c]
 ·have h0 : l ≠ [] := fun e => by subst e; simp at hs
  have hpos : 0 < l.length := List.length_pos_iff.2 h0
  have w1 := wrap64 (n := (l.length : Int) - 1) (by omega) (by omega)
  have t1 : ((l.length : Int) - 1).toNat = l.length - 1 := by omega
  have b1 : (1 : Int) ≤ l.length := by omega
  have b2 : (0 : Int) ≤ (l.length : Int) - 1 := by omega
  have b3 : (l.length : Int) - 1 ≤ l.length := by omega
  rw [if_pos hs]
  rw [decide_eq_true hs] at h1
  simp -implicitDefEqProofs [c168, h1, w1, t1, b1, b3]
 ·rw [if_neg hs]
  rw [decide_eq_false hs] at h1
  simp -implicitDefEqProofs [c168, h1]

theorem cut135 {n : Nat} (hn : 3 ≤ n) (l : List UInt8) (c : UInt8) (hl : l.length ≤ 9223372036854775807) : RUN n 135 [sv l, sv [c]] = .ret (if l.drop (l.length - 1) = [c] then .tup [sv (l.take (l.length - 1)), .p (.bool true)] else .tup [sv l, .p (.bool false)]) := by
 obtain ⟨d, rfl⟩ : ∃ d, n = d + 3 := ⟨n - 3, by omega⟩
 rw [RUN, call_eq fe135 _ rfl]
 have h1 := cut168 (n := d + 2) (by omega) l c hl
 by_cases hs : l.drop (l.length - 1) = [c]
 ·rw [if_pos hs] at h1 ⊢
  simp -implicitDefEqProofs [c135, h1]
 ·rw [if_neg hs] at h1 ⊢
  simp -implicitDefEqProofs [c135, h1]

/-! the reference's Split -/

def doneS (c : UInt8) (l : List UInt8) : Nat → List (List UInt8) × Nat
 | 0 => ([], 0)
 | i + 1 => if l.getD i 0 = c then ((doneS c l i).1 ++ [(l.take i).drop (doneS c l i).2], i + 1) else doneS c l i

theorem doneS_le (c : UInt8) (l : List UInt8) : ∀ i, (doneS c l i).2 ≤ i ∧ (doneS c l i).1.length ≤ i := by
 intro i
 induction i with
 | zero => simp [doneS]
 | succ i ih =>
  simp only [doneS]
  split
  ·simp; omega
  ·omega

theorem splitS_snoc (c b : UInt8) (x : List UInt8) : splitS c (x ++ [b]) = if b = c then splitS c x ++ [[]] else (splitS c x).dropLast ++ [(splitS c x).getLastD [] ++ [b]] := by
 induction x with
 | nil => by_cases h : b = c <;> simp [splitS, h]
 | cons y r ih =>
  rw [List.cons_append]
  simp only [splitS, ih]
  by_cases hy : y = c
  ·simp only [hy, if_true]
   by_cases h : b = c
   ·simp [h]
   ·simp only [h, if_false]
    cases hq : splitS c r with
    | nil => exact absurd hq (splitS_ne c r)
    | cons w q => simp
  ·simp only [hy, if_false]
   cases hq : splitS c r with
   | nil => exact absurd hq (splitS_ne c r)
   | cons w q =>
    by_cases h : b = c
    ·simp [h]
    ·simp only [h, if_false]
     cases q with
     | nil => simp
     | cons w2 q2 => simp

theorem doneS_spec (c : UInt8) (l : List UInt8) : ∀ i, i ≤ l.length → splitS c (l.take i) = (doneS c l i).1 ++ [(l.take i).drop (doneS c l i).2] := by
 intro i
 induction i with
 | zero => intro _; simp [doneS, splitS]
 | succ i ih =>
  intro hi
  have h1 := ih (by omega)
  have hg : l.getD i 0 = l[i] := by simp [List.getD_eq_getElem?_getD, List.getElem?_eq_getElem (show i < l.length by omega)]
  have ht : l.take (i + 1) = l.take i ++ [l[i]] := by rw [List.take_append_getElem]
  have hle := (doneS_le c l i).1
  rw [ht, splitS_snoc, h1]
  simp only [doneS, hg]
  by_cases hc : l[i] = c
  ·simp only [hc, if_true]
   have : (l.take i ++ [c]).drop (i + 1) = [] := List.drop_of_length_le (by simp; omega)
   rw [this]
  ·simp only [hc, if_false]
   rw [List.drop_append_of_le_length (by simp; omega)]
   simp

theorem splitR74 {n : Nat} (hn : 1 ≤ n) (l : List UInt8) (c : UInt8) (hl : l.length < 1000000) : RUN n 74 [sv l, bv c] = .ret (.own (pStr (splitS c l)) (splitS c l).length 1) := by
 obtain ⟨d, rfl⟩ : ∃ d, n = d + 1 := ⟨n - 1, by omega⟩
 rw [RUN, call_eq fe74 _ rfl]
 let inv : Nat → St := fun i => ⟨[(0, sv l), (1, bv c), (5, .sl 0 (doneS c l i).1.length 0 (doneS c l i).1.length), (6, iv (doneS c l i).2), (7, iv i)], [(0, .arr (pStr (doneS c l i).1) (doneS c l i).1.length 1)]⟩
 have hspec := doneS_spec c l l.length (Nat.le_refl _)
 rw [List.take_length] at hspec
 have hle := doneS_le c l l.length
 simp -implicitDefEqProofs [c74]
 rw [loop_run inv l.length (e := .exit 0) (st' := ⟨(inv l.length).env ++ [(11, .p (.bool false))], (inv l.length).sto⟩) (by simp)]
 ·have hb : ((doneS c l l.length).2 : Int) ≤ l.length := by omega
  have hlim : (doneS c l l.length).1.length + 1 ≤ lim := by simp only [lim]; omega
  rw [hspec]
  simp -implicitDefEqProofs [inv, hb, hlim, pStr]
 ·rfl
 ·intro i hi
  have hle := doneS_le c l i
  have hb : ((doneS c l i).2 : Int) ≤ i := by omega
  have hlim : (doneS c l i).1.length + 1 ≤ lim := by simp only [lim]; omega
  have hlt : (i : Int) < l.length := by omega
  have hile : (i : Int) ≤ l.length := by omega
  have hgo : l[i]? = some l[i] := List.getElem?_eq_getElem hi
  have hg : l.getD i 0 = l[i] := by simp [List.getD_eq_getElem?_getD, hgo]
  have hd : doneS c l (i + 1) = if l[i] = c then ((doneS c l i).1 ++ [(l.take i).drop (doneS c l i).2], i + 1) else doneS c l i := by simp only [doneS, hg]
  by_cases hc : l[i] = c
  ·have hbq : ((l[i].toNat : Int) == (c.toNat : Int)) = true := by rw [hc]; simp
   rw [if_pos hc] at hd
   simp -implicitDefEqProofs [inv, loopS_eq, c74L0, hlt, hgo, hbq, hb, hile, hlim, hd, pStr, wrap_succ (i := i) (by omega)]
  ·have hbq : ((l[i].toNat : Int) == (c.toNat : Int)) = false := by
    rw [beq_eq_false_iff_ne]
    intro e
    exact hc (UInt8.toNat_inj.1 (by omega))
   rw [if_neg hc] at hd
   simp -implicitDefEqProofs [inv, loopS_eq, c74L0, hlt, hgo, hbq, hd, wrap_succ (i := i) (by omega)]
 ·simp -implicitDefEqProofs [inv, loopS_eq, c74L0]
 ·simp [loopFuel]; omega
end Fw
end

section
set_option maxHeartbeats 8000000
namespace Fw
open Go

def lineS (x : Int × Int) : List UInt8 := [115, 116, 101, 112, 32] ++ itoaS x.1 ++ [32] ++ itoaS x.2 ++ [10]
theorem lineS_length (x : Int × Int) : (lineS x).length ≤ 49 := by
 have h1 := itoaS_length x.1
 have h2 := itoaS_length x.2
 simp [lineS]; omega

theorem line132 {n : Nat} (hn : 1 ≤ n) (x : Int × Int) (h1 : 0 ≤ x.1 ∧ x.1 ≤ 1000) (h2 : 0 ≤ x.2 ∧ x.2 ≤ 1000) : RUN n 132 [.agg [iv x.1, iv x.2]] = .ret (sv (lineS x)) := by
 obtain ⟨d, rfl⟩ : ∃ d, n = d + 1 := ⟨n - 1, by omega⟩
 rw [RUN, call_eq fe132 _ rfl]
 have i1 := itoa133 (n := d) x.1 (by omega) (by omega)
 have i2 := itoa133 (n := d) x.2 (by omega) (by omega)
 have l1 := itoaS_length x.1
 have l2 := itoaS_length x.2
 have g : G0 0 = some [.str [115, 116, 101, 112]] := rfl
 have hl : lineS x = [115, 116, 101, 112] ++ [32] ++ itoaS x.1 ++ [32] ++ itoaS x.2 ++ [10] := by simp [lineS]
 rw [hl]
 generalize itoaS x.1 = A at *
 generalize itoaS x.2 = B at *
 have q1 : 5 ≤ lim := by decide
 have q2 : 5 + A.length ≤ lim := by simp only [lim]; omega
 have q3 : A.length + 1 + 1 + 1 + 1 + 1 + 1 ≤ lim := by simp only [lim]; omega
 have q4 : A.length + 1 + 1 + 1 + 1 + 1 + 1 + B.length ≤ lim := by simp only [lim]; omega
 have q5 : A.length + (B.length + 1) + 1 + 1 + 1 + 1 + 1 + 1 ≤ lim := by simp only [lim]; omega
 simp -implicitDefEqProofs [c132, g, i1, i2, strBin, q1, q2, q3, q4, q5]

theorem lines131 {d : Nat} (l : List (Int × Int)) (hl : l.length < 1000000) (g : Int × Int → List UInt8) (hg : ∀ x ∈ l, RUN d 132 [.agg [iv x.1, iv x.2]] = .ret (sv (g x))) :
  RUN (d + 1) 131 [csl l, .p (.clo 132 [] [])] = .ret (.own (pStr (l.map g)) l.length 1) := by
 rw [RUN, call_eq fe131 _ rfl]
 let outs := l.map g
 let inv : Nat → St := fun i => ⟨[(1, .p (.clo 132 [] [])), (5, .sl 0 i 0 i), (8, csl l), (9, iv l.length), (10, iv i)], [(0, .arr (pStr (outs.take i)) i 1)]⟩
 have hol : outs.length = l.length := by simp [outs]
 have htl : outs.take l.length = outs := List.take_of_length_le (by omega)
 simp -implicitDefEqProofs [c131]
 rw [loop_run' inv l.length (e := .exit 0) (st' := ⟨(inv l.length).env ++ [(11, .p (.bool false))], (inv l.length).sto⟩) (by simp)]
 ·simp -implicitDefEqProofs [inv, htl, hol]
  rfl
 ·rfl
 ·intro i hi
  have hx := cI_drop l i hi
  have hlim : i + 1 ≤ lim := by simp only [lim]; omega
  have h1 := hg l[i] (List.getElem_mem hi)
  have hlt : i * 2 < l.length * 2 := by omega
  have hlt' : (i : Int) < l.length := by omega
  have ht : outs.take (i + 1) = outs.take i ++ [g l[i]] := by rw [List.take_add_one]; simp [outs, hi]
  have hto : (outs.take i).length = i := by simp [hol]; omega
  refine ⟨⟨(inv (i + 1)).env, (1, .arr [.int .i64 l[i].1, .int .i64 l[i].2] 0 1) :: (inv (i + 1)).sto⟩, ?_, loopS_same rfl (by simp [inv])⟩
  simp -implicitDefEqProofs [inv, loopS_eq, c131L0, hx, hlt, hlt', hlim, h1, hto, ht, ← pStr_snoc, wrap_succ (i := i) (by omega)]
 ·simp -implicitDefEqProofs [inv, loopS_eq, c131L0]
 ·simp [loopFuel]; omega

theorem join_nil (l : List (List UInt8)) : Lib.join l [] = l.flatten := by
 induction l with
 | nil => rfl
 | cons x r ih =>
  cases r with
  | nil => simp [Lib.join]
  | cons y q =>
   simp only [Lib.join, List.intercalate] at ih ⊢
   rw [List.intersperse_cons_cons, List.flatten_cons, List.flatten_cons, ih]; simp

def textS (l : List (Int × Int)) : List UInt8 := (l.map lineS).flatten
theorem textS_length (l : List (Int × Int)) : (textS l).length ≤ l.length * 49 := by
 induction l with
 | nil => simp [textS]
 | cons x r ih =>
  have := lineS_length x
  simp only [textS, List.map_cons, List.flatten_cons, List.length_append, List.length_cons] at ih ⊢
  omega

theorem Valid.step_in {l : List (Int × Int)} (h : Valid l) : ∀ x ∈ l, (0 ≤ x.1 ∧ x.1 ≤ 1000) ∧ (0 ≤ x.2 ∧ x.2 ≤ 1000) := by
 intro x hx
 obtain ⟨i, hi, rfl⟩ := List.getElem_of_mem hx
 have := h.val i hi
 have hg : l.getD i (0, 0) = l[i] := by simp [List.getD_eq_getElem?_getD, List.getElem?_eq_getElem hi]
 rw [hg] at this
 omega

theorem print69 {n : Nat} (hn : 4 ≤ n) (l : List (Int × Int)) (hl : l.length < 1000000) : RUN n 69 [csl l] = .ret (.tup [sv (if settingE l = 0 then textS l else []), iv (settingE l)]) := by
 obtain ⟨d, rfl⟩ : ∃ d, n = d + 4 := ⟨n - 4, by omega⟩
 rw [RUN, call_eq fe69 _ rfl]
 have h1 := setting28 (n := d + 3) (by omega) l hl
 by_cases hz : settingE l = 0
 ·have hv := valid_of hz
  have hsm := hv.small
  have h2 := lines131 (d := d + 2) l hl lineS (fun x hx => line132 (n := d + 2) (by omega) x (hv.step_in x hx).1 (hv.step_in x hx).2)
  have htl := textS_length l
  have hj : Lib.join (l.map lineS) [] = textS l := join_nil _
  have h3 := join130 (n := d + 3) (l.map lineS) [] (by simp [lim]; omega) (by rw [hj]; simp only [lim]; omega)
  rw [hj] at h3
  simp only [List.length_map] at h3
  rw [if_pos hz]
  simp -implicitDefEqProofs [c69, h1, hz, h2, h3]
 ·rw [if_neg hz]
  simp -implicitDefEqProofs [c69, h1, hz]

end Fw
end

section
set_option maxHeartbeats 8000000
namespace Fw
open Go

def takeN (ws : List (List UInt8)) (w : Bool) : Int × List (List UInt8) × Bool := match ws with
 | [] => (0, [], true)
 | x :: r => (intV x, r, w || !digOk x)

theorem number137 {d : Nat} (ws : List (List UInt8)) (w : Bool) (hw : ∀ x ∈ ws, x.length < 1000000) (k : Nat) (Z R : Sto) (hZ : ∀ o, get (Z ++ (k, o) :: R) k = some o) (hP : ∀ o o', put (Z ++ (k, o) :: R) k o' = Z ++ (k, o') :: R) :
  evFn F C0 G0 (d + 2) (.fn 137) [.ptr k 0 0] (Z ++ (k, .box [.p (.sl (pStr ws) ws.length), .p (.bool w)]) :: R) = .ret (iv (takeN ws w).1, Z ++ (k, .box [.p (.sl (pStr (takeN ws w).2.1) (takeN ws w).2.1.length), .p (.bool (takeN ws w).2.2)]) :: R) := by
 rw [evFn_fn fe137]
 cases ws with
 | nil =>
  simp -implicitDefEqProofs [c137, hZ, hP, takeN]
 | cons x r =>
  have hx := hw x (by simp)
  have hi := integer170 (n := d + 1) (by omega) x (by omega)
  have hp : pStr (x :: r) = .str x :: pStr r := rfl
  have b1 : ¬ ((r.length : Int) + 1 = 0) := by omega
  have b2 : (1 : Int) ≤ (r.length : Int) + 1 := by omega
  have htl : (pStr r).take r.length = pStr r := List.take_of_length_le (by simp)
  generalize hq : digOk x = q at *
  cases w <;> cases q
  all_goals simp -implicitDefEqProofs [c137, hZ, hP, takeN, hp, hi, hq, b1, b2, htl]

def lineP (w : List UInt8) : Option (Int × Int) := match splitS 32 w with
 | [w0, w1, w2] => if w0 = [115, 116, 101, 112] ∧ digOk w1 = true ∧ digOk w2 = true then some (digV w1, digV w2) else none
 | _ => none

def tookB (ws : List (List UInt8)) : Bool := (takeN (takeN (ws.drop 1) false).2.1 (takeN (ws.drop 1) false).2.2).2.2 || decide (0 < (takeN (takeN (ws.drop 1) false).2.1 (takeN (ws.drop 1) false).2.2).2.1.length)

theorem lineP_some {w : List UInt8} : (splitS 32 w).getD 0 [] = [115, 116, 101, 112] ∧ tookB (splitS 32 w) = false → lineP w = some ((takeN ((splitS 32 w).drop 1) false).1, (takeN (takeN ((splitS 32 w).drop 1) false).2.1 (takeN ((splitS 32 w).drop 1) false).2.2).1) := by
 rintro ⟨h1, h2⟩
 unfold lineP
 generalize splitS 32 w = ws at *
 match ws, h1, h2 with
 | [], h1, _ => simp at h1
 | [w0], _, h2 => simp [tookB, takeN] at h2
 | [w0, w1], _, h2 => simp [tookB, takeN] at h2
 | [w0, w1, w2], h1, h2 =>
  simp [tookB, takeN] at h1 h2
  simp [h1, h2, takeN, intV_ok]
 | w0 :: w1 :: w2 :: w3 :: r, _, h2 => simp [tookB, takeN] at h2
theorem lineP_inv {w : List UInt8} {x : Int × Int} (h : lineP w = some x) : ∃ w1 w2, splitS 32 w = [[115, 116, 101, 112], w1, w2] ∧ digOk w1 = true ∧ digOk w2 = true ∧ x = (digV w1, digV w2) := by
 unfold lineP at h
 split at h
 ·rename_i w0 w1 w2 e
  split at h
  ·rename_i hc
   cases h
   exact ⟨w1, w2, by rw [e, hc.1], hc.2.1, hc.2.2, rfl⟩
  ·cases h
 ·cases h

def pLoop (j : Option ACode) (e : Nat) : Obj := .loop [(2, .ptr 0 0 0), (3, .ptr 1 0 0), (4, .ptr 2 0 0), (5, .ptr 4 0 0), (18, .clo 166 [] [.ptr 5 0 0])] [19] c70A0 c70B0 j e
theorem pLoop_fold (j : Option ACode) (e : Nat) : Obj.loop [(2, .ptr 0 0 0), (3, .ptr 1 0 0), (4, .ptr 2 0 0), (5, .ptr 4 0 0), (18, .clo 166 [] [.ptr 5 0 0])] [19] c70A0 c70B0 j e = pLoop j e := rfl
def pS0 (out : List (Int × Int)) (n : Nat) (rest : List UInt8) : Sto := [(5, .arr [.str rest] 0 1), (4, .box [.sl 3 n 0 n]), (3, .arr (cI out) n 2), (2, .arr [.int .i64 0] 0 1), (1, .arr [.int .i64 0] 0 1), (0, .box [.p .nils])]
def pS9 (out : List (Int × Int)) (n : Nat) (rest : List UInt8) : Sto := [(5, .arr [.str rest] 0 1), (4, .box [.sl 3 n 0 n]), (3, .arr (cI out) n 2), (2, .arr [.int .i64 25] 0 1), (1, .arr [.int .i64 n] 0 1), (0, .box [.p .nils])]

theorem yield_ok {d : Nat} (line rest : List UInt8) (out : List (Int × Int)) (hl : line.length < 100000) (hn : out.length < 100000) (h : line.drop (line.length - 1) = [10]) (x : Int × Int) (hx : lineP (line.take (line.length - 1)) = some x) :
  evFn F C0 G0 (d + 8) (.yld 6) [sv line] ((6, pLoop none 0) :: pS0 out out.length rest) = .ret (.p (.bool true), [(8, .arr [.int .i64 x.1, .int .i64 x.2] 0 1), (7, .box [.p (.sl [] 0), .p (.bool false)]), (6, pLoop none 0)] ++ pS0 (out ++ [x]) (out.length + 1) rest) := by
 rw [evFn_yld (by rfl) (by rfl)]
 obtain ⟨w1, w2, e1, e2, e3, rfl⟩ := lineP_inv hx
 have h1 := cut135 (n := d + 7) (by omega) line 10 (by omega)
 rw [if_pos h] at h1
 have h2 := split136 (n := d + 7) (by omega) (line.take (line.length - 1)) 32 (by simp; omega)
 rw [e1] at h2
 have l1 : w1.length < 1000000 := by simp only [digOk, Bool.and_eq_true, decide_eq_true_eq] at e2; omega
 have l2 : w2.length < 1000000 := by simp only [digOk, Bool.and_eq_true, decide_eq_true_eq] at e3; omega
 have n1 := number137 (d := d + 5) [w1, w2] false (by simp [l1, l2]) 7 [] ((6, pLoop none 1) :: pS0 out out.length rest) (fun o => by simp) (fun o o' => by simp)
 have n2 := number137 (d := d + 5) [w2] false (by simp [l2]) 7 [(8, .arr [.int .i64 (digV w1), .int .i64 0] 0 1)] ((6, pLoop none 1) :: pS0 out out.length rest) (fun o => by simp) (fun o o' => by simp)
 simp -implicitDefEqProofs [takeN, e2, e3, intV_ok, pS0, pStr] at n1 n2
 have g : G0 0 = some [.str [115, 116, 101, 112]] := rfl
 have hlim : out.length + 1 ≤ lim := by simp only [lim]; omega
 simp -implicitDefEqProofs [c70A0]
 rw [yldK_eq (by rfl), pLoop_fold]
 simp -implicitDefEqProofs [c70B0, pS0, h1, h2, pStr, n1, n2, g, hlim, strBin, gc_all, -gc]
 rw [yldB_normal (by rfl), pLoop_fold, cI_append]
 simp -implicitDefEqProofs [cI]

theorem yldB_ret {call : CallF} {C : Nat → List AVal → Option (T AVal)} {G : Nat → Option (List PVal)} {id : Nat} {st : St} {e3 : Env} {p3 : List Nat} {a3 b3 : ACode} {j : Option ACode} {n : Nat} (h : get st.sto id = some (.loop e3 p3 a3 b3 j n)) : yldB call C G id (.ret, st) = .ret (.p (.bool false), put st.sto id (.loop e3 p3 a3 b3 (some .ret) 2)) := by
 unfold yldB
 simp [jumpOf, h]

theorem hidT4 : hidT 4 = [2] := by decide

theorem yield_bad {d : Nat} (line rest : List UInt8) (out : List (Int × Int)) (hl : line.length < 100000) (hn : out.length < 100000) (h : ¬ (line.drop (line.length - 1) = [10] ∧ (lineP (line.take (line.length - 1))).isSome = true)) :
  ∃ (a1 b1 : Int) (b2 : List (List UInt8)) (b3 : Bool), evFn F C0 G0 (d + 8) (.yld 6) [sv line] ((6, pLoop none 0) :: pS0 out out.length rest) = .ret (.p (.bool false), (8, .arr [.int .i64 a1, .int .i64 b1] 0 1) :: (7, .box [.p (.sl (pStr b2) b2.length), .p (.bool b3)]) :: (6, pLoop (some .ret) 2) :: pS9 out out.length rest) := by
 rw [evFn_yld (by rfl) (by rfl)]
 have h1 := cut135 (n := d + 7) (by omega) line 10 (by omega)
 have g : G0 0 = some [.str [115, 116, 101, 112]] := rfl
 obtain ⟨body, ended, hb, hcut, hbl⟩ : ∃ body ended, (ended = true → line.drop (line.length - 1) = [10] ∧ body = line.take (line.length - 1)) ∧ RUN (d + 7) 135 [sv line, sv [10]] = .ret (.tup [sv body, .p (.bool ended)]) ∧ body.length < 100000 := by
  by_cases hc : line.drop (line.length - 1) = [10]
  ·rw [if_pos hc] at h1
   exact ⟨line.take (line.length - 1), true, fun _ => ⟨hc, rfl⟩, h1, by simp; omega⟩
  ·rw [if_neg hc] at h1
   exact ⟨line, false, fun e => (by cases e), h1, hl⟩
 have h2 := split136 (n := d + 7) (by omega) body 32 (by omega)
 have hwlen : ∀ x ∈ splitS 32 body, x.length < 1000000 := by
  have : ∀ l : List UInt8, ∀ x ∈ splitS 32 l, x.length ≤ l.length := by
   intro l
   induction l with
   | nil => intro x hx; simp [splitS] at hx; subst hx; simp
   | cons b r ih =>
    intro x hx
    simp only [splitS] at hx
    split at hx
    ·rcases List.mem_cons.1 hx with e | e
     ·subst e; simp
     ·have := ih x e; simp; omega
    ·split at hx
     ·simp at hx; subst hx; simp
     ·rename_i w q e
      rcases List.mem_cons.1 hx with e2 | e2
      ·subst e2
       have := ih w (by rw [e]; simp)
       simp; omega
      ·have := ih x (by rw [e]; simp [e2])
       simp; omega
  intro x hx
  have := this body x hx
  omega
 obtain ⟨w0, r, hw⟩ : ∃ w0 r, splitS 32 body = w0 :: r := by
  cases hq : splitS 32 body with
  | nil => exact absurd hq (splitS_ne 32 body)
  | cons w q => exact ⟨w, q, rfl⟩
 have hbad : ended = false ∨ ¬ (w0 = [115, 116, 101, 112] ∧ tookB (w0 :: r) = false) := by
  cases he : ended with
  | false => exact .inl rfl
  | true =>
   refine .inr (fun hc => h ?_)
   obtain ⟨q1, q2⟩ := hb he
   refine ⟨q1, ?_⟩
   rw [← q2]
   rw [lineP_some (w := body) (by rw [hw]; exact hc)]
   rfl
 rw [hw] at h2 hwlen
 have htk : tookB (w0 :: r) = ((takeN (takeN r false).2.1 (takeN r false).2.2).2.2 || decide (0 < (takeN (takeN r false).2.1 (takeN r false).2.2).2.1.length)) := rfl
 rw [htk] at hbad
 have hr : ∀ x ∈ r, x.length < 1000000 := fun x hx => hwlen x (by simp [hx])
 have ha : ∀ x ∈ (takeN r false).2.1, x.length < 1000000 := by
  cases r with
  | nil => intro x hx; simp [takeN] at hx
  | cons y q => intro x hx; exact hr x (by simp [takeN] at hx; simp [hx])
 have n1 := number137 (d := d + 5) r false hr 7 [] ((6, pLoop none 1) :: pS0 out out.length rest) (fun o => by simp) (fun o o' => by simp)
 generalize hA : takeN r false = a at *
 obtain ⟨a1, a2, a3⟩ := a
 simp only at ha htk hbad n1
 have n2 := number137 (d := d + 5) a2 a3 ha 7 [(8, .arr [.int .i64 a1, .int .i64 0] 0 1)] ((6, pLoop none 1) :: pS0 out out.length rest) (fun o => by simp) (fun o o' => by simp)
 generalize hB : takeN a2 a3 = b at *
 obtain ⟨b1, b2, b3⟩ := b
 simp only at hbad n2
 simp only [pS0, List.nil_append, List.cons_append] at n1 n2
 have hp : pStr (w0 :: r) = .str w0 :: pStr r := rfl
 have hlim : out.length + 1 ≤ lim := by simp only [lim]; omega
 have z1 : (1 : Int) ≤ (r.length : Int) + 1 := by omega
 have htl : (pStr r).take r.length = pStr r := List.take_of_length_le (by simp)
 have z2 : (0 : Int) < (r.length : Int) + 1 := by omega
 simp only [hp, List.length_cons] at h2
 refine ⟨a1, b1, b2, b3, ?_⟩
 simp -implicitDefEqProofs [c70A0]
 rw [yldK_eq (by rfl), pLoop_fold]
 have goal : ∀ st : St, st = ⟨[], [(8, .arr [.int .i64 a1, .int .i64 b1] 0 1), (7, .box [.p (.sl (pStr b2) b2.length), .p (.bool b3)]), (6, pLoop none 1)] ++ pS9 out out.length rest⟩ → yldB (evFn F C0 G0 (d + 7)) C0 G0 6 (.ret, st) = .ret (.p (.bool false), [(8, .arr [.int .i64 a1, .int .i64 b1] 0 1), (7, .box [.p (.sl (pStr b2) b2.length), .p (.bool b3)])] ++ [(6, pLoop (some .ret) 2)] ++ pS9 out out.length rest) := by
  rintro st rfl
  rw [yldB_ret (by rfl), pLoop_fold]
  simp [pS9]
 have goal := goal _ rfl
 simp only [pS9, List.cons_append, List.nil_append] at goal
 cases ended with
 | false =>
  simp -implicitDefEqProofs [c70B0, pS0, pS9, hcut, h2, htl, n1, n2, z1, gc_all, hide, hidI, hidT4, stOp, plain, goal, -gc]
 | true =>
  cases hw0 : (w0 == [115, 116, 101, 112]) with
  | false =>
   simp -implicitDefEqProofs [c70B0, pS0, pS9, hcut, h2, htl, n1, n2, g, z1, z2, strBin, hw0, gc_all, hide, hidI, hidT4, stOp, plain, goal, -gc]
  | true =>
   cases b3 with
   | true => simp -implicitDefEqProofs [c70B0, pS0, pS9, hcut, h2, htl, n1, n2, g, z1, z2, strBin, hw0, gc_all, hide, hidI, hidT4, stOp, plain, goal, -gc]
   | false =>
    have hw0' : w0 = [115, 116, 101, 112] := by simpa using hw0
    have hgt : (0 : Int) < b2.length := by
     simp only [hw0', Bool.false_or, Bool.true_eq_false, false_or, true_and, decide_eq_false_iff_not, Classical.not_not] at hbad
     omega
    have hne : b2 ≠ [] := fun e => by subst e; simp at hgt
    simp -implicitDefEqProofs [c70B0, pS0, pS9, hcut, h2, htl, n1, n2, g, z1, z2, strBin, hw0, hne, gc_all, hide, hidI, hidT4, stOp, plain, goal, -gc]
end Fw
end

section
set_option maxHeartbeats 8000000
namespace Fw
open Go

def goL : List (List UInt8) → List (Int × Int) → Bool × List (Int × Int)
 | [], out => (true, out)
 | w :: q, out => match q with
  | [] => (decide (w = []), out)
  | _ :: _ => match lineP w with
   | some x => goL q (out ++ [x])
   | none => (false, out)

theorem goL_one (w : List UInt8) (out : List (Int × Int)) : goL [w] out = (decide (w = []), out) := rfl
theorem goL_more {w : List UInt8} {q : List (List UInt8)} (hq : q ≠ []) (out : List (Int × Int)) : goL (w :: q) out = match lineP w with
  | some x => goL q (out ++ [x])
  | none => (false, out) := by
 cases q with
 | nil => exact absurd rfl hq
 | cons y r => rfl

theorem goL_length : ∀ (ps : List (List UInt8)) (out : List (Int × Int)), (goL ps out).2.length ≤ out.length + ps.length := by
 intro ps
 induction ps with
 | nil => intro out; simp [goL]
 | cons w q ih =>
  intro out
  cases q with
  | nil => rw [goL_one]; simp
  | cons y r =>
   rw [goL_more (by simp)]
   cases lineP w with
   | none => simp
   | some x =>
    have := ih (out ++ [x])
    simp at this ⊢
    omega

def lE : Env := [(0, .yld 6), (1, .ptr 5 0 0)]

theorem lines_round {d : Nat} (rest : List UInt8) (out : List (Int × Int)) (hl : rest.length < 90000) (hn : out.length < 90000) (h0 : rest ≠ []) :
  (10 ∈ rest ∧ ∃ x, lineP (ahead 10 rest) = some x ∧ loopS (evFn F C0 G0 (d + 8)) C0 G0 7 true [0, 1] c166L0 ⟨lE, (6, pLoop none 0) :: pS0 out out.length rest⟩ = .ret (.normal, ⟨[(0, .yld 6), (1, .ptr 5 0 0), (24, .p (.bool false))], (6, pLoop none 0) :: pS0 (out ++ [x]) (out ++ [x]).length (rest.drop ((ahead 10 rest).length + 1))⟩)) ∨
  ((10 ∉ rest ∨ lineP (ahead 10 rest) = none) ∧ ∃ env r', loopS (evFn F C0 G0 (d + 8)) C0 G0 7 true [0, 1] c166L0 ⟨lE, (6, pLoop none 0) :: pS0 out out.length rest⟩ = .ret (.ret, ⟨env, (6, pLoop (some .ret) 2) :: pS9 out out.length r'⟩)) := by
 have hpos : 0 < rest.length := List.length_pos_iff.2 h0
 have z0 : (0 : Int) < rest.length := by omega
 have hix : RUN (d + 8) 167 [sv rest, .p (.int .u8 10)] = .ret (iv (Lib.indexByte rest 10)) := ib167 (n := d + 8) (by omega) rest 10
 rw [indexByte_ahead] at hix
 by_cases hm : (10 : UInt8) ∈ rest
 ·rw [if_pos hm] at hix
  obtain ⟨e1, e2, e3⟩ := ahead_split hm
  have w1 := wrap64 (n := ((ahead 10 rest).length : Int) + 1) (by omega) (by omega)
  have b1 : ((ahead 10 rest).length : Int) + 1 ≤ rest.length := by omega
  have b2 : (0 : Int) ≤ ((ahead 10 rest).length : Int) + 1 := by omega
  have b3 : (0 : Int) ≤ ((ahead 10 rest).length : Int) := by omega
  have t1 : (((ahead 10 rest).length : Int) + 1).toNat = (ahead 10 rest).length + 1 := by omega
  have htk : rest.take ((ahead 10 rest).length + 1) = ahead 10 rest ++ [10] := by
   have h := congrArg (List.take ((ahead 10 rest).length + 1)) e1
   rw [h, List.take_append]
   simp
   exact List.take_of_length_le (by omega)
  have hd : (ahead 10 rest ++ [10]).drop ((ahead 10 rest ++ [10]).length - 1) = [10] := by simp
  have hk : (ahead 10 rest ++ [10]).take ((ahead 10 rest ++ [10]).length - 1) = ahead 10 rest := by simp
  generalize hA : ahead 10 rest = A at *
  generalize hR : rest.drop (A.length + 1) = R at *
  cases hp : lineP A with
  | some x =>
   refine .inl ⟨hm, x, rfl, ?_⟩
   have hy := yield_ok (d := d) (A ++ [10]) R out (by simp; omega) (by omega) hd x (by rw [hk]; exact hp)
   simp only [pS0, List.cons_append, List.nil_append] at hy
   simp -implicitDefEqProofs [lE, pS0, loopS_eq, c166L0, gc_all, hpos, hix, w1, b1, b2, b3, t1, htk, hR, hy, -gc]
   simp -implicitDefEqProofs [pLoop]
  | none =>
   refine .inr ⟨.inr rfl, ?_⟩
   obtain ⟨a1, b1', b2', b3', hy⟩ := yield_bad (d := d) (A ++ [10]) R out (by simp; omega) (by omega) (by rw [hk, hp]; simp)
   simp only [pS0, pS9] at hy
   refine ⟨[(0, .yld 6), (1, .ptr 5 0 0), (24, .p (.bool true))], R, ?_⟩
   simp -implicitDefEqProofs [lE, pS0, pS9, loopS_eq, c166L0, gc_all, hpos, hix, w1, b1, b2, b3, t1, htk, hR, hy, -gc]
   simp -implicitDefEqProofs [pLoop]
 ·rw [if_neg hm] at hix
  refine .inr ⟨.inl hm, ?_⟩
  have hnd : ¬ (rest.drop (rest.length - 1) = [10] ∧ (lineP (rest.take (rest.length - 1))).isSome = true) := fun h => hm (by
   have : (10 : UInt8) ∈ rest.drop (rest.length - 1) := by rw [h.1]; simp
   exact List.mem_of_mem_drop this)
  obtain ⟨a1, b1', b2', b3', hy⟩ := yield_bad (d := d) rest [] out (by omega) (by omega) hnd
  simp only [pS0, pS9] at hy
  refine ⟨[(0, .yld 6), (1, .ptr 5 0 0), (24, .p (.bool true))], [], ?_⟩
  simp -implicitDefEqProofs [lE, pS0, pS9, loopS_eq, c166L0, gc_all, hpos, hix, hy, -gc]
  simp -implicitDefEqProofs [pLoop]

theorem lines_same {d : Nat} {env : Env} (he : restrict env [0, 1] = lE) (S : Sto) : loopS (evFn F C0 G0 (d + 8)) C0 G0 7 true [0, 1] c166L0 ⟨env, S⟩ = loopS (evFn F C0 G0 (d + 8)) C0 G0 7 true [0, 1] c166L0 ⟨lE, S⟩ := by
 have : restrict lE [0, 1] = lE := rfl
 simp only [loopS_eq, he, this]
theorem lines_end {d : Nat} (out : List (Int × Int)) (n : Nat) : loopS (evFn F C0 G0 (d + 8)) C0 G0 7 true [0, 1] c166L0 ⟨lE, (6, pLoop none 0) :: pS0 out n []⟩ = .ret (.exit 0, ⟨[(0, .yld 6), (1, .ptr 5 0 0), (7, .p (.bool false))], (6, pLoop none 0) :: pS0 out n []⟩) := by
 simp -implicitDefEqProofs [loopS_eq, lE, pS0, c166L0, gc_all, -gc]

theorem lines_loop {d : Nat} : ∀ (k : Nat) (rest : List UInt8) (out : List (Int × Int)) (env : Env) (fuel : Nat), rest.length ≤ k → k < 80000 → out.length + k < 90000 → k < fuel → restrict env [0, 1] = lE →
  ∃ e env' r', loopN (loopS (evFn F C0 G0 (d + 8)) C0 G0 7 true [0, 1] c166L0) fuel ⟨env, (6, pLoop none 0) :: pS0 out out.length rest⟩ = .ret (e, ⟨env', if (goL (splitS 10 rest) out).1 = true then (6, pLoop none 0) :: pS0 (goL (splitS 10 rest) out).2 (goL (splitS 10 rest) out).2.length r' else (6, pLoop (some .ret) 2) :: pS9 (goL (splitS 10 rest) out).2 (goL (splitS 10 rest) out).2.length r'⟩) ∧ (e = .exit 0 ∨ e = .ret) := by
 intro k
 induction k with
 | zero =>
  intro rest out env fuel hk _ _ hf he
  have : rest = [] := List.eq_nil_of_length_eq_zero (by omega)
  subst this
  refine ⟨.exit 0, [(0, .yld 6), (1, .ptr 5 0 0), (7, .p (.bool false))], [], ?_, .inl rfl⟩
  have hg : goL (splitS 10 []) out = (true, out) := rfl
  rw [hg]
  exact loopN_end (by rw [lines_same he, lines_end]; rfl) (by simp) (by omega)
 | succ k ih =>
  intro rest out env fuel hk hk2 hn hf he
  by_cases h0 : rest = []
  ·subst h0
   refine ⟨.exit 0, [(0, .yld 6), (1, .ptr 5 0 0), (7, .p (.bool false))], [], ?_, .inl rfl⟩
   have hg : goL (splitS 10 []) out = (true, out) := rfl
   rw [hg]
   exact loopN_end (by rw [lines_same he, lines_end]; rfl) (by simp) (by omega)
  ·have hst := lines_same (d := d) he ((6, pLoop none 0) :: pS0 out out.length rest)
   rcases lines_round (d := d) rest out (by omega) (by omega) h0 with ⟨hm, x, hx, hr⟩ | ⟨hb, env2, r', hr⟩
   ·rw [← hst] at hr
    rw [loopN_on hr (by omega)]
    obtain ⟨e1, e2, e3⟩ := ahead_split hm
    have hs : splitS 10 rest = ahead 10 rest :: splitS 10 (rest.drop ((ahead 10 rest).length + 1)) := by
     conv => lhs; rw [e1]
     exact splitS_at e2
    have hg : goL (splitS 10 rest) out = goL (splitS 10 (rest.drop ((ahead 10 rest).length + 1))) (out ++ [x]) := by
     rw [hs, goL_more (splitS_ne _ _), hx]
    rw [hg]
    exact ih (rest.drop ((ahead 10 rest).length + 1)) (out ++ [x]) _ (fuel - 1) (by rw [List.length_drop]; omega) (by omega) (by simp; omega) (by omega) rfl
   ·rw [← hst] at hr
    have hg : goL (splitS 10 rest) out = (false, out) := by
     by_cases hm : (10 : UInt8) ∈ rest
     ·have hl : lineP (ahead 10 rest) = none := by
       rcases hb with h | h
       ·exact absurd hm h
       ·exact h
      obtain ⟨e1, e2, e3⟩ := ahead_split hm
      have hs : splitS 10 rest = ahead 10 rest :: splitS 10 (rest.drop ((ahead 10 rest).length + 1)) := by
       conv => lhs; rw [e1]
       exact splitS_at e2
      rw [hs, goL_more (splitS_ne _ _), hl]
     ·rw [splitS_none hm, goL_one]
      simp [h0]
    rw [hg]
    exact ⟨.ret, env2, r', loopN_end hr (by simp) (by omega), .inr rfl⟩

theorem rfunK_ret {lo : Nat} {env : Env} {id : Nat} {a : AVal} {s : Sto} {e1 : Env} {p1 : List Nat} {a1 b1 : ACode} {n : Nat} (h : get s id = some (.loop e1 p1 a1 b1 (some .ret) n)) (hn : n ≠ 1) : rfunK lo env id (a, s) = .ret (.ret, ⟨env, gc lo env (put s id (.loop e1 p1 a1 b1 (some .ret) 3))⟩) := by
 unfold rfunK
 simp [h, hn]

def parseL (s : List UInt8) : List (Int × Int) × Int × Int :=
 if (goL (splitS 10 s) []).1 = true then
  (if settingE (goL (splitS 10 s) []).2 = 0 then ((goL (splitS 10 s) []).2, 0, 0) else ([], (goL (splitS 10 s) []).2.length, settingE (goL (splitS 10 s) []).2))
 else ([], (goL (splitS 10 s) []).2.length, 25)

theorem parse70 {n : Nat} (hn : 12 ≤ n) (s : List UInt8) : RUN n 70 [sv s] = .ret (if 4096 < s.length then .tup [.p (.sl [] 0), iv 0, iv 26] else .tup [if (parseL s).2.2 = 0 then .own (cI (parseL s).1) (parseL s).1.length 2 else .p (.sl [] 0), iv (parseL s).2.1, iv (parseL s).2.2]) := by
 obtain ⟨d, rfl⟩ : ∃ d, n = d + 12 := ⟨n - 12, by omega⟩
 rw [RUN, call_eq fe70 _ rfl]
 by_cases h4 : (4096 : Int) < s.length
 ·have h4n : 4096 < s.length := by omega
  rw [if_pos h4n]
  simp -implicitDefEqProofs [c70, h4]
 ·have h4n : ¬ 4096 < s.length := by omega
  rw [if_neg h4n]
  obtain ⟨e, env', r', key, he⟩ := lines_loop (d := d + 2) s.length s [] lE loopFuel (Nat.le_refl _) (by omega) (by simp; omega) (by simp [loopFuel]; omega) rfl
  have f134 : ∀ S : Sto, nextId S = 5 → evFn F C0 G0 (d + 11) (.fn 134) [sv s] S = .ret (.clo 166 [] [.ptr 5 0 0], (5, .arr [.str s] 0 1) :: S) := fun S hS => by
   rw [evFn_fn fe134]
   simp -implicitDefEqProofs [c134, hS, -nextId]
  have hol : (goL (splitS 10 s) []).2.length < 1000000 := by
   have h := goL_length (splitS 10 s) []
   rw [splitS_length] at h
   have h2 : s.count 10 ≤ s.length := List.count_le_length
   simp at h
   omega
  have hpd : parseL s = if (goL (splitS 10 s) []).1 = true then (if settingE (goL (splitS 10 s) []).2 = 0 then ((goL (splitS 10 s) []).2, 0, 0) else ([], ((goL (splitS 10 s) []).2.length : Int), settingE (goL (splitS 10 s) []).2)) else ([], ((goL (splitS 10 s) []).2.length : Int), 25) := rfl
  generalize hG : goL (splitS 10 s) [] = G at *
  obtain ⟨g1, g2⟩ := G
  simp only at key hol hpd
  have h28 := setting28 (n := d + 11) (by omega) g2 hol
  have f166 : evFn F C0 G0 (d + 11) (.fn 166) [.yld 6, .ptr 5 0 0] ((6, pLoop none 0) :: pS0 [] 0 s) = .ret (.tup [], if g1 = true then (6, pLoop none 0) :: pS0 g2 g2.length r' else (6, pLoop (some .ret) 2) :: pS9 g2 g2.length r') := by
   rw [evFn_fn fe166]
   simp only [lE, pS0, List.length_nil] at key
   simp -implicitDefEqProofs [c166, pS0]
   rw [key]
   rcases he with rfl | rfl <;> simp -implicitDefEqProofs
  have f134 := f134 [(4, .box [.sl 3 0 0 0]), (3, .arr [] 0 2), (2, .arr [.int .i64 0] 0 1), (1, .arr [.int .i64 0] 0 1), (0, .box [.p .nils])] rfl
  let E : Env := [(2, .ptr 0 0 0), (3, .ptr 1 0 0), (4, .ptr 2 0 0), (5, .ptr 4 0 0), (18, .clo 166 [] [.ptr 5 0 0])]
  have hrf : evCode (evFn F C0 G0 (d + 11)) C0 G0 0 (.rfun (.t 18) [19] c70A0 c70B0) ⟨E, pS0 [] 0 s⟩ = .ret (if g1 = true then .normal else .ret, ⟨E, if g1 = true then pS0 g2 g2.length r' else pS9 g2 g2.length r'⟩) := by
   rw [ev_rfun]
   have h1 : callee (evOpd G0 E) (.val (.t 18)) = some (.fn 166, [], [.ptr 5 0 0]) := rfl
   have h2 : nextId (pS0 [] 0 s) = 6 := rfl
   simp only [h1, h2, List.nil_append]
   have h3 : (6, Obj.loop E [19] c70A0 c70B0 none 0) :: pS0 [] 0 s = (6, pLoop none 0) :: pS0 [] 0 s := rfl
   rw [h3]
   have h4 : [AVal.yld 6] ++ [AVal.ptr 5 0 0] = [.yld 6, .ptr 5 0 0] := rfl
   rw [h4, f166, bind_ret]
   cases g1 with
   | true =>
    simp only [if_true]
    rw [rfunK_none (by rfl) (by decide)]
    simp -implicitDefEqProofs [E, pS0]
   | false =>
    simp only [Bool.false_eq_true, if_false]
    rw [rfunK_ret (by rfl) (by decide)]
    simp -implicitDefEqProofs [E, pS9]
  simp only [E, pS0, pS9, cI] at hrf
  simp -implicitDefEqProofs [c70, h4, f134, hrf, -ev_rfun]
  cases g1 with
  | false =>
   simp -implicitDefEqProofs [hpd]
  | true =>
   by_cases hz : settingE g2 = 0
   ·simp -implicitDefEqProofs [hpd, h28, hz]
    done
   ·simp -implicitDefEqProofs [hpd, h28, hz, hide, hidI, hidT4, stOp, plain]
    done
end Fw
end

section
set_option maxHeartbeats 8000000
namespace Fw
open Go

end Fw
end

section
set_option maxHeartbeats 4000000
namespace Fw
open Go

theorem natS_dec {n : Nat} (h : n < 10000000000000000000) : natS n = Lib.decDigits n := by
 unfold natS
 have h20 : (10 : Nat) ^ 20 = 100000000000000000000 := by decide
 rw [digsF_eq 20 n [] (by omega) (by omega), List.append_nil]
theorem natS_lo {n : Nat} (h : n < 10) : natS n = [UInt8.ofNat (48 + n)] := by
 rw [natS_dec (by omega), Lib.decDigits]; simp [h]
theorem natS_hi {n : Nat} (h : 10 ≤ n) (h2 : n < 10000000000000000000) : natS n = natS (n / 10) ++ [UInt8.ofNat (48 + n % 10)] := by
 have h' : ¬ n < 10 := by omega
 rw [natS_dec h2, Lib.decDigits, dif_neg h', natS_dec (n := n / 10) (by omega)]

theorem valF_app (a : List UInt8) (c : UInt8) : ∀ k, k ≤ a.length → valF (a ++ [c]) k = valF a k := by
 intro k
 induction k with
 | zero => intro _; rfl
 | succ k ih =>
  intro hk
  have hg : (a ++ [c]).getD k 0 = a.getD k 0 := by
   simp only [List.getD_eq_getElem?_getD]
   rw [List.getElem?_append_left (by omega)]
  simp only [valF, hg, ih (by omega)]
theorem digV_snoc (a : List UInt8) (c : UInt8) : digV (a ++ [c]) = 10 * digV a + ((c.toNat : Int) - 48) := by
 have hg : (a ++ [c]).getD a.length 0 = c := by simp [List.getD_eq_getElem?_getD]
 simp only [digV, List.length_append, List.length_singleton, valF, valF_app a c a.length (Nat.le_refl _), hg]

theorem ofNat_dig {k : Nat} (h : k < 10) : (UInt8.ofNat (48 + k)).toNat = 48 + k := by
 have : ∀ k, k < 10 → (UInt8.ofNat (48 + k)).toNat = 48 + k := by decide
 exact this k h
theorem nat_dig : ∀ (f n : Nat), n < 10 ^ f → f ≤ 19 → (natS n).all digB = true ∧ natS n ≠ [] ∧ (1 ≤ n → (natS n).getD 0 0 ≠ 48) ∧ digV (natS n) = n ∧ (n < 10 → (natS n).length = 1) := by
 intro f
 induction f with
 | zero =>
  intro n h _
  have : n = 0 := by simpa using h
  subst this
  exact ⟨by decide, by decide, fun h => absurd h (by decide), by decide, fun _ => by decide⟩
 | succ f ih =>
  intro n h hf
  have hp : n < 10000000000000000000 := Nat.lt_of_lt_of_le h (by
   have : 10 ^ (f + 1) ≤ 10 ^ 19 := Nat.pow_le_pow_right (by decide) (by omega)
   exact this)
  by_cases h10 : n < 10
  ·have hs := natS_lo h10
   have ho := ofNat_dig h10
   rw [hs]
   refine ⟨?_, by simp, fun h1 => ?_, ?_, fun _ => rfl⟩
   ·simp only [List.all_cons, List.all_nil, Bool.and_true, digB, ho, Bool.and_eq_true, decide_eq_true_eq]; omega
   ·intro e
    have e' : UInt8.ofNat (48 + n) = 48 := e
    rw [e'] at ho
    have : (48 : UInt8).toNat = 48 := rfl
    omega
   ·show 10 * (0 : Int) + _ = _
    have hg : ([UInt8.ofNat (48 + n)] : List UInt8).getD 0 0 = UInt8.ofNat (48 + n) := rfl
    rw [hg, ho]; omega
  ·have hs := natS_hi (n := n) (by omega) hp
   have hq : n / 10 < 10 ^ f := by rw [Nat.pow_succ] at h; omega
   obtain ⟨i1, i2, i3, i4, _⟩ := ih (n / 10) hq (by omega)
   have ho := ofNat_dig (k := n % 10) (by omega)
   rw [hs]
   refine ⟨?_, by simp, fun _ => ?_, ?_, fun h => absurd h h10⟩
   ·rw [List.all_append, i1]
    simp only [List.all_cons, List.all_nil, Bool.and_true, Bool.true_and, digB, ho, Bool.and_eq_true, decide_eq_true_eq]; omega
   ·have := i3 (by omega)
    have hl : 0 < (natS (n / 10)).length := List.length_pos_iff.2 i2
    simp only [List.getD_eq_getElem?_getD] at this ⊢
    rwa [List.getElem?_append_left hl]
   ·rw [digV_snoc, i4, ho]; omega
theorem natS_len : ∀ (f n : Nat), 0 < f → n < 10 ^ f → f ≤ 19 → (natS n).length ≤ f := by
 intro f
 induction f with
 | zero => intro n h; omega
 | succ f ih =>
  intro n _ h hf
  by_cases h10 : n < 10
  ·rw [natS_lo h10]; simp
  ·have hp : n < 10000000000000000000 := Nat.lt_of_lt_of_le h (by
    have : 10 ^ (f + 1) ≤ 10 ^ 19 := Nat.pow_le_pow_right (by decide) (by omega)
    exact this)
   rw [natS_hi (n := n) (by omega) hp]
   have hf0 : 0 < f := by
    rcases Nat.eq_zero_or_pos f with e | e
    ·subst e; simp at h; omega
    ·exact e
   have := ih (n / 10) hf0 (by rw [Nat.pow_succ] at h; omega) (by omega)
   simp; omega
theorem itoaS_pos {n : Int} (h : 0 ≤ n) : itoaS n = natS n.toNat := by rw [itoaS, if_neg (by omega)]
theorem lt9 {n : Int} (h : n ≤ 999999999) : n.toNat < 10 ^ 9 := by
 have : (10 : Nat) ^ 9 = 1000000000 := by decide
 omega
theorem itoa_dig {n : Int} (h0 : 0 ≤ n) (h1 : n ≤ 999999999) : digOk (itoaS n) = true ∧ digV (itoaS n) = n := by
 rw [itoaS_pos h0]
 obtain ⟨a1, a2, a3, a4, a5⟩ := nat_dig 9 n.toNat (lt9 h1) (by decide)
 have hl := natS_len 9 n.toNat (by decide) (lt9 h1) (by decide)
 refine ⟨?_, by rw [a4]; omega⟩
 simp only [digOk, a1, a2, ne_eq, not_false_eq_true, decide_true, Bool.true_and, hl, leadB, Bool.and_true]
 by_cases h : 1 ≤ n.toNat
 ·have := a3 h
  simp only [Bool.or_eq_true, bne_iff_ne, ne_eq]
  exact .inr this
 ·rw [a5 (by omega)]; rfl

theorem dig_free {a : List UInt8} {c : UInt8} (h : a.all digB = true) (hc : digB c = false) : c ∉ a := fun hm => by
 rw [List.all_eq_true.1 h c hm] at hc; cases hc
theorem itoa_free {n : Int} (h0 : 0 ≤ n) (h1 : n ≤ 999999999) {c : UInt8} (hc : digB c = false) : c ∉ itoaS n := by
 have h := (itoa_dig h0 h1).1
 simp only [digOk, Bool.and_eq_true, decide_eq_true_eq] at h
 exact dig_free h.1.2 hc

def lnT (ls : List (List UInt8)) : List UInt8 := (ls.map fun l => l ++ [10]).flatten
theorem split_lines : ∀ (ls : List (List UInt8)) (last : List UInt8), (∀ l ∈ ls, (10 : UInt8) ∉ l) → (10 : UInt8) ∉ last → splitS 10 (lnT ls ++ last) = ls ++ [last]
 | [], last, _, h => by simp [lnT, splitS_none h]
 | l :: ls, last, h1, h2 => by
  have e : lnT (l :: ls) ++ last = l ++ 10 :: (lnT ls ++ last) := by simp [lnT]
  rw [e, splitS_at (h1 l (by simp)), split_lines ls last (fun q hq => h1 q (by simp [hq])) h2]
  rfl
end Fw
end

section
set_option maxHeartbeats 16000000
namespace Fw
open Go

def bodyS (x : Int × Int) : List UInt8 := [115, 116, 101, 112] ++ 32 :: (itoaS x.1 ++ 32 :: itoaS x.2)
theorem body_lineS (x : Int × Int) : bodyS x ++ [10] = lineS x := by simp [bodyS, lineS]
theorem text_linesS (l : List (Int × Int)) : textS l = lnT (l.map bodyS) := by
 unfold textS lnT
 rw [List.map_map]
 congr 1
 apply List.map_congr_left
 intro s _
 exact (body_lineS s).symm
theorem body_splitS {x : Int × Int} (h : (0 ≤ x.1 ∧ x.1 ≤ 999999999) ∧ 0 ≤ x.2 ∧ x.2 ≤ 999999999) : splitS 32 (bodyS x) = [[115, 116, 101, 112], itoaS x.1, itoaS x.2] := by
 unfold bodyS
 rw [splitS_at (by decide), splitS_at (itoa_free h.1.1 h.1.2 (by decide)), splitS_none (itoa_free h.2.1 h.2.2 (by decide))]
theorem body_freeS {x : Int × Int} (h : (0 ≤ x.1 ∧ x.1 ≤ 999999999) ∧ 0 ≤ x.2 ∧ x.2 ≤ 999999999) : (10 : UInt8) ∉ bodyS x := by
 have h1 := itoa_free (c := 10) h.1.1 h.1.2 (by decide)
 have h2 := itoa_free (c := 10) h.2.1 h.2.2 (by decide)
 simp [bodyS, h1, h2]
theorem body_readS {x : Int × Int} (h : (0 ≤ x.1 ∧ x.1 ≤ 999999999) ∧ 0 ≤ x.2 ∧ x.2 ≤ 999999999) : lineP (bodyS x) = some x := by
 obtain ⟨a1, a2⟩ := itoa_dig h.1.1 h.1.2
 obtain ⟨b1, b2⟩ := itoa_dig h.2.1 h.2.2
 unfold lineP
 rw [body_splitS h]
 simp [a1, a2, b1, b2]
theorem goL_readsS (last : List UInt8) : ∀ (xs out : List (Int × Int)), (∀ x ∈ xs, (0 ≤ x.1 ∧ x.1 ≤ 999999999) ∧ 0 ≤ x.2 ∧ x.2 ≤ 999999999) → goL (xs.map bodyS ++ [last]) out = (decide (last = []), out ++ xs)
 | [], out, _ => by simp [goL_one]
 | x :: xs, out, h => by
  have h3 := goL_readsS last xs (out ++ [x]) (fun y hy => h y (by simp [hy]))
  rw [List.map_cons, List.cons_append, goL_more (by simp), body_readS (h x (by simp))]
  simp only [h3, List.append_assoc, List.cons_append, List.nil_append]
theorem small_of_valid {l : List (Int × Int)} (h : Valid l) : ∀ x ∈ l, (0 ≤ x.1 ∧ x.1 ≤ 999999999) ∧ 0 ≤ x.2 ∧ x.2 ≤ 999999999 := by
 intro x hx
 obtain ⟨i, hi, rfl⟩ := List.getElem_of_mem hx
 have := h.val i hi
 rw [show l.getD i (0, 0) = l[i] by simp [List.getD_eq_getElem?_getD, List.getElem?_eq_getElem hi]] at this
 omega
theorem split_textS {l : List (Int × Int)} (h : Valid l) : splitS 10 (textS l) = l.map bodyS ++ [[]] := by
 have h2 := small_of_valid h
 have := split_lines (l.map bodyS) [] (fun w hw => by
  obtain ⟨s, hs, rfl⟩ := List.mem_map.1 hw
  exact body_freeS (h2 s hs)) (by simp)
 rw [List.append_nil] at this
 rw [text_linesS, this]
theorem parse_textS {l : List (Int × Int)} (h : Valid l) (he : settingE l = 0) : parseL (textS l) = (l, 0, 0) := by
 unfold parseL
 rw [split_textS h, goL_readsS [] l [] (small_of_valid h)]
 simp [he]
theorem parse_cutS {l : List (Int × Int)} (h : Valid l) : parseL ((textS l).take ((textS l).length - 1)) = ([], (l.length : Int) - 1, 25) ∧ 0 < (textS l).length := by
 have h2 := small_of_valid h
 have h0 : l ≠ [] := List.length_pos_iff.1 h.pos
 clear h
 obtain ⟨p, x, rfl⟩ : ∃ p x, l = p ++ [x] := ⟨l.dropLast, l.getLast h0, (List.dropLast_concat_getLast _).symm⟩
 have e3 : textS (p ++ [x]) = (lnT (p.map bodyS) ++ bodyS x) ++ [10] := by rw [text_linesS]; simp [lnT]
 have e4 : (textS (p ++ [x])).take ((textS (p ++ [x])).length - 1) = lnT (p.map bodyS) ++ bodyS x := by
  rw [e3]
  generalize lnT (p.map bodyS) ++ bodyS x = A
  rw [List.length_append, List.length_singleton, Nat.add_sub_cancel, List.take_left]
 refine ⟨?_, by rw [e3]; simp; omega⟩
 rw [e4]
 unfold parseL
 rw [split_lines _ _ (fun w hw => by
  obtain ⟨s, hs, rfl⟩ := List.mem_map.1 hw
  exact body_freeS (h2 s (by simp [hs]))) (body_freeS (h2 x (by simp))), goL_readsS _ p [] (fun s hs => h2 s (by simp [hs]))]
 have hne : decide (bodyS x = []) = false := decide_eq_false (by simp [bodyS])
 rw [hne]
 simp
end Fw
end

