/- What is alike in several chapters: errors, ranges, names, strings. -/
import Derived.Test.YtbaedpfgjpkabaaGreatDoorChK
set_option maxHeartbeats 8000000
namespace Fw
open Go
attribute [local irreducible] evCode evOps evOpsD evOper evOperD evOp evFn loopN T.All T.bind callPure callOp opsK opsDK restK seqK blockK loopS setK setQ giveK scalK gcK finish finS rfunK yldK yldB loopK

theorem index221 {n : Nat} (hn : 2 ≤ n) (l : List UInt8) (c : UInt8) : RUN n 221 [sv l, sv [c]] = .ret (iv (Lib.indexByte l c)) := by
  obtain ⟨d, rfl⟩ : ∃ d, n = d + 2 := ⟨n - 2, by omega⟩
  rw [RUN, call_eq fe221 _ rfl]
  have h1 := ib206 (n := d + 1) (by omega) l c
  cases he : ([c] == l) with
  | true =>
    have : l = [c] := by simpa using (beq_iff_eq.1 he).symm
    subst this
    have hz : Lib.indexByte [c] c = 0 := by simp [Lib.indexByte]
    simp -implicitDefEqProofs [c221, strBin, hz]
  | false => simp -implicitDefEqProofs [c221, strBin, he, h1]
theorem index210 {n : Nat} (hn : 3 ≤ n) (l : List UInt8) (c : UInt8) : RUN n 210 [sv l, sv [c]] = .ret (iv (Lib.indexByte l c)) := by
  obtain ⟨d, rfl⟩ : ∃ d, n = d + 3 := ⟨n - 3, by omega⟩
  rw [RUN, call_eq fe210 _ rfl]
  simp -implicitDefEqProofs [c210, index221 (n := d + 2)]
theorem count209 {n : Nat} (hn : 1 ≤ n) (l : List UInt8) (c : UInt8) : RUN n 209 [sv l, sv [c]] = .ret (iv (l.count c)) := by
  obtain ⟨d, rfl⟩ : ∃ d, n = d + 1 := ⟨n - 1, by omega⟩
  rw [RUN, call_eq fe209 _ rfl]
  simp -implicitDefEqProofs [c209, count220 (n := d)]

theorem mi2 (a b : Int) : minInt a [iv b] = some (min a b) := by
  simp only [minInt]; congr 1; split <;> omega

theorem genSplit198 {n : Nat} (hn : 4 ≤ n) (l : List UInt8) (c : UInt8) (hl : l.length < 1000000) : RUN n 198 [sv l, sv [c], iv 0, iv (-1)] = .ret (.own (pStr (splitS c l)) (splitS c l).length 1) := by
  obtain ⟨d, rfl⟩ : ∃ d, n = d + 4 := ⟨n - 4, by omega⟩
  rw [RUN, call_eq fe198 _ rfl]
  have hcnt := count209 (n := d + 3) (by omega) l c
  have hwl := splitS_length c l
  have hcl : l.count c ≤ l.length := List.count_le_length
  generalize hm : l.count c = m at *
  have w1 := wrap64 (n := (m : Int) + 1) (by omega) (by omega)
  have w2 := wrap64 (n := (l.length : Int) + 1) (by omega) (by omega)
  have w3 := wrap64 (n := (m : Int) + 1 - 1) (by omega) (by omega)
  have e3 : (m : Int) + 1 - 1 = m := by omega
  rw [e3] at w3
  have m1 := mi2 ((m : Int) + 1) ((l.length : Int) + 1)
  have e1 : min ((m : Int) + 1) ((l.length : Int) + 1) = (m : Int) + 1 := by omega
  rw [e1] at m1
  have hlim : (m : Int) + 1 ≤ (lim : Int) := by simp only [lim]; omega
  have t1 : ((m : Int) + 1).toNat = m + 1 := by omega
  have hz := fillW_zero (m + 1) (splitS c l) hwl
  have p1 : (0 : Int) ≤ (m : Int) + 1 := by omega
  let J : Nat → St := fun i => ⟨[(0, sv (restF c l i)), (1, sv [c]), (2, iv 0), (3, iv m), (9, .sl 0 0 0 (m + 1)), (10, iv i)], [(0, .arr (fillW (splitS c l) i) 0 1)]⟩
  have key : ∀ st0 : St, st0 = ⟨[(0, sv l), (1, sv [c]), (2, iv 0), (3, iv m), (9, .sl 0 0 0 (m + 1)), (10, iv 0)], [(0, .arr (fillW (splitS c l) 0) 0 1)]⟩ → loopN (loopS (evFn F C0 G0 (d + 3)) C0 G0 0 false [0, 1, 2, 3, 9, 10] c198L0) loopFuel st0 = .ret (.exit 0, ⟨(J m).env ++ [(36, .p (.bool false))], (J m).sto⟩) := by
    rintro st0 rfl
    refine loop_run J m (by simp) rfl (fun i hi => ?_) ?_ (by simp [loopFuel]; omega)
    · obtain ⟨r1, r2, r3⟩ := restF_spec c l i (by omega)
      obtain ⟨q1, q2⟩ := restF_at (c := c) (l := l) (i := i) (by omega)
      obtain ⟨q3, q4, q5⟩ := ahead_split q1
      have hidx := index210 (n := d + 3) (by omega) (restF c l i) c
      rw [indexByte_ahead, if_pos q1] at hidx
      have hnx : restF c l (i + 1) = (restF c l i).drop ((ahead c (restF c l i)).length + 1) := rfl
      have htk : (restF c l i).take (ahead c (restF c l i)).length = ahead c (restF c l i) := by
        have h := congrArg (List.take (ahead c (restF c l i)).length) q3
        rw [List.take_left] at h
        exact h
      have hset := fillW_set (by rw [hwl]; omega) q2
      generalize hR : restF c l i = R at *
      generalize hA : ahead c R = A at *
      have w4 := wrap64 (n := (A.length : Int)) (by omega) (by omega)
      have w5 := wrap64 (n := (A.length : Int) + 1) (by omega) (by omega)
      have b1 : (A.length : Int) ≤ R.length := by omega
      have b2 : (A.length : Int) + 1 ≤ R.length := by omega
      have b3 : ¬ (A.length : Int) < 0 := by omega
      have b4 : (0 : Int) ≤ (A.length : Int) + 1 := by omega
      have t5 : ((A.length : Int) + 1).toNat = A.length + 1 := by omega
      have b5 : (i : Int) < m := by omega
      have b6 : (i : Int) < (m : Int) + 1 := by omega
      have b7 : i + 1 ≤ m + 1 := by omega
      have hfl := fillW_length (splitS c l) i (by rw [hwl]; omega)
      simp -implicitDefEqProofs [J, hR, loopS_eq, c198L0, hidx, htk, hnx, hset, w4, w5, b1, b2, b3, b4, b5, b6, b7, t5, hfl, hwl, wrap_succ (i := i) (by omega)]
    · simp -implicitDefEqProofs [J, loopS_eq, c198L0]
  have key := key _ rfl
  obtain ⟨q1, q2⟩ := restF_end c l
  rw [hm] at q1 q2
  have hset := fillW_set (i := m) (by rw [hwl]; omega) q2
  rw [← hwl, fillW_all] at hset
  have hfl := fillW_length (splitS c l) m (by rw [hwl]; omega)
  have b6 : (m : Int) < (m : Int) + 1 := by omega
  simp -implicitDefEqProofs [c198, strBin, hcnt, w1, w2, w3, m1, hlim, t1, hz, p1]
  rw [key]
  simp -implicitDefEqProofs [J, hset, hfl, hwl, w1, b6, t1, p1]

theorem split167 {n : Nat} (hn : 5 ≤ n) (l : List UInt8) (c : UInt8) (hl : l.length < 1000000) : RUN n 167 [sv l, sv [c]] = .ret (.p (.sl (pStr (splitS c l)) (splitS c l).length)) := by
  obtain ⟨d, rfl⟩ : ∃ d, n = d + 5 := ⟨n - 5, by omega⟩
  rw [RUN, call_eq fe167 _ rfl]
  simp -implicitDefEqProofs [c167, genSplit198 (n := d + 4) (by omega) l c hl]
end Fw
