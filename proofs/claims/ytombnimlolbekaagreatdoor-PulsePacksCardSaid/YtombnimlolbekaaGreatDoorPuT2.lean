/- Strings cut and split: the library and the reference. -/
import Derived.Test.YtombnimlolbekaaGreatDoorPuT1
set_option maxHeartbeats 8000000
namespace Fw
open Go
attribute [local irreducible] evCode evOps evOpsD evOper evOperD evOp evFn loopN T.All T.bind callPure callOp opsK opsDK restK seqK blockK loopS setK setQ giveK scalK gcK finish finS rfunK yldK yldB loopK

abbrev bv (c : UInt8) : AVal := .p (.int .u8 (c.toNat : Int))

theorem ib185 {n : Nat} (hn : 1 ≤ n) (l : List UInt8) (c : UInt8) : RUN n 185 [sv l, bv c] = .ret (iv (Lib.indexByte l c)) := by
  obtain ⟨d, rfl⟩ : ∃ d, n = d + 1 := ⟨n - 1, by omega⟩
  rw [RUN, call_eq fe185 _ rfl]
  simp -implicitDefEqProofs [c185, index198 (n := d)]
theorem ib167 {n : Nat} (hn : 2 ≤ n) (l : List UInt8) (c : UInt8) : RUN n 167 [sv l, bv c] = .ret (iv (Lib.indexByte l c)) := by
  obtain ⟨d, rfl⟩ : ∃ d, n = d + 2 := ⟨n - 2, by omega⟩
  rw [RUN, call_eq fe167 _ rfl]
  simp -implicitDefEqProofs [c167, ib185 (n := d + 1)]
theorem index202 {n : Nat} (hn : 2 ≤ n) (l : List UInt8) (c : UInt8) : RUN n 202 [sv l, sv [c]] = .ret (iv (Lib.indexByte l c)) := by
  obtain ⟨d, rfl⟩ : ∃ d, n = d + 2 := ⟨n - 2, by omega⟩
  rw [RUN, call_eq fe202 _ rfl]
  have h1 := ib185 (n := d + 1) (by omega) l c
  cases he : ([c] == l) with
  | true =>
    have : l = [c] := by simpa using (beq_iff_eq.1 he).symm
    subst this
    have hz : Lib.indexByte [c] c = 0 := by simp [Lib.indexByte]
    simp -implicitDefEqProofs [c202, strBin, hz]
  | false => simp -implicitDefEqProofs [c202, strBin, he, h1]
theorem index189 {n : Nat} (hn : 3 ≤ n) (l : List UInt8) (c : UInt8) : RUN n 189 [sv l, sv [c]] = .ret (iv (Lib.indexByte l c)) := by
  obtain ⟨d, rfl⟩ : ∃ d, n = d + 3 := ⟨n - 3, by omega⟩
  rw [RUN, call_eq fe189 _ rfl]
  simp -implicitDefEqProofs [c189, index202 (n := d + 2)]
theorem count188 {n : Nat} (hn : 1 ≤ n) (l : List UInt8) (c : UInt8) : RUN n 188 [sv l, sv [c]] = .ret (iv (l.count c)) := by
  obtain ⟨d, rfl⟩ : ∃ d, n = d + 1 := ⟨n - 1, by omega⟩
  rw [RUN, call_eq fe188 _ rfl]
  simp -implicitDefEqProofs [c188, count201 (n := d)]

theorem genSplit169 {n : Nat} (hn : 4 ≤ n) (l : List UInt8) (c : UInt8) (hl : l.length < 1000000) : RUN n 169 [sv l, sv [c], iv 0, iv (-1)] = .ret (.own (pStr (splitS c l)) (splitS c l).length 1) := by
  obtain ⟨d, rfl⟩ : ∃ d, n = d + 4 := ⟨n - 4, by omega⟩
  rw [RUN, call_eq fe169 _ rfl]
  have hcnt := count188 (n := d + 3) (by omega) l c
  have hwl := splitS_length c l
  have hcl : l.count c ≤ l.length := List.count_le_length
  generalize hm : l.count c = m at *
  have w1 := wrap64 (n := (m : Int) + 1) (by omega) (by omega)
  have w2 := wrap64 (n := (l.length : Int) + 1) (by omega) (by omega)
  have w3 := wrap64 (n := (m : Int) + 1 - 1) (by omega) (by omega)
  have e3 : (m : Int) + 1 - 1 = m := by omega
  rw [e3] at w3
  have m1 := min2 ((m : Int) + 1) ((l.length : Int) + 1)
  have e1 : min ((m : Int) + 1) ((l.length : Int) + 1) = (m : Int) + 1 := by omega
  rw [e1] at m1
  have hlim : (m : Int) + 1 ≤ (lim : Int) := by simp only [lim]; omega
  have t1 : ((m : Int) + 1).toNat = m + 1 := by omega
  have hz := fillW_zero (m + 1) (splitS c l) hwl
  have p1 : (0 : Int) ≤ (m : Int) + 1 := by omega
  let J : Nat → St := fun i => ⟨[(0, sv (restF c l i)), (1, sv [c]), (2, iv 0), (3, iv m), (9, .sl 0 0 0 (m + 1)), (10, iv i)], [(0, .arr (fillW (splitS c l) i) 0 1)]⟩
  have key : ∀ st0 : St, st0 = ⟨[(0, sv l), (1, sv [c]), (2, iv 0), (3, iv m), (9, .sl 0 0 0 (m + 1)), (10, iv 0)], [(0, .arr (fillW (splitS c l) 0) 0 1)]⟩ → loopN (loopS (evFn F C0 G0 (d + 3)) C0 G0 0 false [0, 1, 2, 3, 9, 10] c169L0) loopFuel st0 = .ret (.exit 0, ⟨(J m).env ++ [(36, .p (.bool false))], (J m).sto⟩) := by
    rintro st0 rfl
    refine loop_run J m (by simp) rfl (fun i hi => ?_) ?_ (by simp [loopFuel]; omega)
    · obtain ⟨r1, r2, r3⟩ := restF_spec c l i (by omega)
      obtain ⟨q1, q2⟩ := restF_at (c := c) (l := l) (i := i) (by omega)
      obtain ⟨q3, q4, q5⟩ := ahead_split q1
      have hidx := index189 (n := d + 3) (by omega) (restF c l i) c
      rw [indexByte_ahead, if_pos q1] at hidx
      have hnx : restF c l (i + 1) = (restF c l i).drop ((ahead c (restF c l i)).length + 1) := rfl
      have htk : (restF c l i).take (ahead c (restF c l i)).length = ahead c (restF c l i) := by
        have h := congrArg (List.take (ahead c (restF c l i)).length) q3
        rw [List.take_left] at h
        exact h
      have hset := fillW_set (by rw [hwl]; omega) q2
      generalize hR : restF c l i = R at *
      generalize hA : ahead c R = A at *
      have w4 := wrap64 (n := (A.length : Int)) (by omega) (by omega)
      have w5 := wrap64 (n := (A.length : Int) + 1) (by omega) (by omega)
      have b1 : (A.length : Int) ≤ R.length := by omega
      have b2 : (A.length : Int) + 1 ≤ R.length := by omega
      have b3 : ¬ (A.length : Int) < 0 := by omega
      have b4 : (0 : Int) ≤ (A.length : Int) + 1 := by omega
      have t5 : ((A.length : Int) + 1).toNat = A.length + 1 := by omega
      have b5 : (i : Int) < m := by omega
      have b6 : (i : Int) < (m : Int) + 1 := by omega
      have b7 : i + 1 ≤ m + 1 := by omega
      have hfl := fillW_length (splitS c l) i (by rw [hwl]; omega)
      simp -implicitDefEqProofs [J, hR, loopS_eq, c169L0, hidx, htk, hnx, hset, w4, w5, b1, b2, b3, b4, b5, b6, b7, t5, hfl, hwl, wrap_succ (i := i) (by omega)]
    · simp -implicitDefEqProofs [J, loopS_eq, c169L0]
  have key := key _ rfl
  obtain ⟨q1, q2⟩ := restF_end c l
  rw [hm] at q1 q2
  have hset := fillW_set (i := m) (by rw [hwl]; omega) q2
  rw [← hwl, fillW_all] at hset
  have hfl := fillW_length (splitS c l) m (by rw [hwl]; omega)
  have b6 : (m : Int) < (m : Int) + 1 := by omega
  simp -implicitDefEqProofs [c169, strBin, hcnt, w1, w2, w3, m1, hlim, t1, hz, p1]
  rw [key]
  simp -implicitDefEqProofs [J, hset, hfl, hwl, w1, b6, t1, p1]

theorem split136 {n : Nat} (hn : 5 ≤ n) (l : List UInt8) (c : UInt8) (hl : l.length < 1000000) : RUN n 136 [sv l, sv [c]] = .ret (.p (.sl (pStr (splitS c l)) (splitS c l).length)) := by
  obtain ⟨d, rfl⟩ : ∃ d, n = d + 5 := ⟨n - 5, by omega⟩
  rw [RUN, call_eq fe136 _ rfl]
  simp -implicitDefEqProofs [c136, genSplit169 (n := d + 4) (by omega) l c hl]

/-! a suffix, cut off -/

theorem suffix186 {n : Nat} (hn : 1 ≤ n) (l : List UInt8) (c : UInt8) (hl : l.length ≤ 9223372036854775807) : RUN n 186 [sv l, sv [c]] = .ret (.p (.bool (decide (l.drop (l.length - 1) = [c])))) := by
  obtain ⟨d, rfl⟩ : ∃ d, n = d + 1 := ⟨n - 1, by omega⟩
  rw [RUN, call_eq fe186 _ rfl]
  by_cases h0 : l = []
  · subst h0
    simp -implicitDefEqProofs [c186]
  · have hpos : 0 < l.length := List.length_pos_iff.2 h0
    have b1 : (1 : Int) ≤ l.length := by omega
    have w1 := wrap64 (n := (l.length : Int) - 1) (by omega) (by omega)
    have t1 : ((l.length : Int) - 1).toNat = l.length - 1 := by omega
    have b2 : (0 : Int) ≤ (l.length : Int) - 1 := by omega
    have b3 : (l.length : Int) - 1 ≤ l.length := by omega
    have hbq : (l.drop (l.length - 1) == [c]) = decide (l.drop (l.length - 1) = [c]) := by rw [Bool.eq_iff_iff]; simp
    simp -implicitDefEqProofs [c186, strBin, b1, w1, t1, b3, hbq]

theorem cut168 {n : Nat} (hn : 2 ≤ n) (l : List UInt8) (c : UInt8) (hl : l.length ≤ 9223372036854775807) : RUN n 168 [sv l, sv [c]] = .ret (if l.drop (l.length - 1) = [c] then .tup [sv (l.take (l.length - 1)), .p (.bool true)] else .tup [sv l, .p (.bool false)]) := by
  obtain ⟨d, rfl⟩ : ∃ d, n = d + 2 := ⟨n - 2, by omega⟩
  rw [RUN, call_eq fe168 _ rfl]
  have h1 := suffix186 (n := d + 1) (by omega) l c hl
  by_cases hs : l.drop (l.length - 1) = [c]
  · have h0 : l ≠ [] := fun e => by subst e; simp at hs
    have hpos : 0 < l.length := List.length_pos_iff.2 h0
    have w1 := wrap64 (n := (l.length : Int) - 1) (by omega) (by omega)
    have t1 : ((l.length : Int) - 1).toNat = l.length - 1 := by omega
    have b1 : (1 : Int) ≤ l.length := by omega
    have b2 : (0 : Int) ≤ (l.length : Int) - 1 := by omega
    have b3 : (l.length : Int) - 1 ≤ l.length := by omega
    rw [if_pos hs]
    rw [decide_eq_true hs] at h1
    simp -implicitDefEqProofs [c168, h1, w1, t1, b1, b3]
  · rw [if_neg hs]
    rw [decide_eq_false hs] at h1
    simp -implicitDefEqProofs [c168, h1]

theorem cut135 {n : Nat} (hn : 3 ≤ n) (l : List UInt8) (c : UInt8) (hl : l.length ≤ 9223372036854775807) : RUN n 135 [sv l, sv [c]] = .ret (if l.drop (l.length - 1) = [c] then .tup [sv (l.take (l.length - 1)), .p (.bool true)] else .tup [sv l, .p (.bool false)]) := by
  obtain ⟨d, rfl⟩ : ∃ d, n = d + 3 := ⟨n - 3, by omega⟩
  rw [RUN, call_eq fe135 _ rfl]
  have h1 := cut168 (n := d + 2) (by omega) l c hl
  by_cases hs : l.drop (l.length - 1) = [c]
  · rw [if_pos hs] at h1 ⊢
    simp -implicitDefEqProofs [c135, h1]
  · rw [if_neg hs] at h1 ⊢
    simp -implicitDefEqProofs [c135, h1]

/-! the reference's Split -/

/-- the words that are finished, where the last one begins -/
def doneS (c : UInt8) (l : List UInt8) : Nat → List (List UInt8) × Nat
  | 0 => ([], 0)
  | i + 1 => if l.getD i 0 = c then ((doneS c l i).1 ++ [(l.take i).drop (doneS c l i).2], i + 1) else doneS c l i

theorem doneS_le (c : UInt8) (l : List UInt8) : ∀ i, (doneS c l i).2 ≤ i ∧ (doneS c l i).1.length ≤ i := by
  intro i
  induction i with
  | zero => simp [doneS]
  | succ i ih =>
    simp only [doneS]
    split
    · simp; omega
    · omega

theorem splitS_snoc (c b : UInt8) (x : List UInt8) : splitS c (x ++ [b]) = if b = c then splitS c x ++ [[]] else (splitS c x).dropLast ++ [(splitS c x).getLastD [] ++ [b]] := by
  induction x with
  | nil => by_cases h : b = c <;> simp [splitS, h]
  | cons y r ih =>
    rw [List.cons_append]
    simp only [splitS, ih]
    by_cases hy : y = c
    · simp only [hy, if_true]
      by_cases h : b = c
      · simp [h]
      · simp only [h, if_false]
        cases hq : splitS c r with
        | nil => exact absurd hq (splitS_ne c r)
        | cons w q => simp
    · simp only [hy, if_false]
      cases hq : splitS c r with
      | nil => exact absurd hq (splitS_ne c r)
      | cons w q =>
        by_cases h : b = c
        · simp [h]
        · simp only [h, if_false]
          cases q with
          | nil => simp
          | cons w2 q2 => simp

theorem doneS_spec (c : UInt8) (l : List UInt8) : ∀ i, i ≤ l.length → splitS c (l.take i) = (doneS c l i).1 ++ [(l.take i).drop (doneS c l i).2] := by
  intro i
  induction i with
  | zero => intro _; simp [doneS, splitS]
  | succ i ih =>
    intro hi
    have h1 := ih (by omega)
    have hg : l.getD i 0 = l[i] := by simp [List.getD_eq_getElem?_getD, List.getElem?_eq_getElem (show i < l.length by omega)]
    have ht : l.take (i + 1) = l.take i ++ [l[i]] := by rw [List.take_append_getElem]
    have hle := (doneS_le c l i).1
    rw [ht, splitS_snoc, h1]
    simp only [doneS, hg]
    by_cases hc : l[i] = c
    · simp only [hc, if_true]
      have : (l.take i ++ [c]).drop (i + 1) = [] := List.drop_of_length_le (by simp; omega)
      rw [this]
    · simp only [hc, if_false]
      rw [List.drop_append_of_le_length (by simp; omega)]
      simp

theorem splitR74 {n : Nat} (hn : 1 ≤ n) (l : List UInt8) (c : UInt8) (hl : l.length < 1000000) : RUN n 74 [sv l, bv c] = .ret (.own (pStr (splitS c l)) (splitS c l).length 1) := by
  obtain ⟨d, rfl⟩ : ∃ d, n = d + 1 := ⟨n - 1, by omega⟩
  rw [RUN, call_eq fe74 _ rfl]
  let inv : Nat → St := fun i => ⟨[(0, sv l), (1, bv c), (5, .sl 0 (doneS c l i).1.length 0 (doneS c l i).1.length), (6, iv (doneS c l i).2), (7, iv i)], [(0, .arr (pStr (doneS c l i).1) (doneS c l i).1.length 1)]⟩
  have hspec := doneS_spec c l l.length (Nat.le_refl _)
  rw [List.take_length] at hspec
  have hle := doneS_le c l l.length
  simp -implicitDefEqProofs [c74]
  rw [loop_run inv l.length (e := .exit 0) (st' := ⟨(inv l.length).env ++ [(11, .p (.bool false))], (inv l.length).sto⟩) (by simp)]
  · have hb : ((doneS c l l.length).2 : Int) ≤ l.length := by omega
    have hlim : (doneS c l l.length).1.length + 1 ≤ lim := by simp only [lim]; omega
    rw [hspec]
    simp -implicitDefEqProofs [inv, hb, hlim, pStr]
  · rfl
  · intro i hi
    have hle := doneS_le c l i
    have hb : ((doneS c l i).2 : Int) ≤ i := by omega
    have hlim : (doneS c l i).1.length + 1 ≤ lim := by simp only [lim]; omega
    have hlt : (i : Int) < l.length := by omega
    have hile : (i : Int) ≤ l.length := by omega
    have hgo : l[i]? = some l[i] := List.getElem?_eq_getElem hi
    have hg : l.getD i 0 = l[i] := by simp [List.getD_eq_getElem?_getD, hgo]
    have hd : doneS c l (i + 1) = if l[i] = c then ((doneS c l i).1 ++ [(l.take i).drop (doneS c l i).2], i + 1) else doneS c l i := by simp only [doneS, hg]
    by_cases hc : l[i] = c
    · have hbq : ((l[i].toNat : Int) == (c.toNat : Int)) = true := by rw [hc]; simp
      rw [if_pos hc] at hd
      simp -implicitDefEqProofs [inv, loopS_eq, c74L0, hlt, hgo, hbq, hb, hile, hlim, hd, pStr, wrap_succ (i := i) (by omega)]
    · have hbq : ((l[i].toNat : Int) == (c.toNat : Int)) = false := by
        rw [beq_eq_false_iff_ne]
        intro e
        exact hc (UInt8.toNat_inj.1 (by omega))
      rw [if_neg hc] at hd
      simp -implicitDefEqProofs [inv, loopS_eq, c74L0, hlt, hgo, hbq, hd, wrap_succ (i := i) (by omega)]
  · simp -implicitDefEqProofs [inv, loopS_eq, c74L0]
  · simp [loopFuel]; omega
end Fw
