/- Several texts in one: each is told at its head. -/
import Derived.Test.YtdjkleaojdeepaaGreatDoorGaRB
section
/- Acts printed: the integers of a line, their texts. -/
set_option maxHeartbeats 16000000
set_option maxRecDepth 8000
namespace Fw
open Go
attribute [local irreducible] evCode evOps evOpsD evOper evOperD evOp evFn loopN T.All T.bind callPure callOp opsK opsDK restK seqK blockK loopS setK setQ giveK scalK gcK finish finS rfunK yldK yldB loopK

def intA (x : ActI) : List Int := if x.kind = kMeasure then [x.tick, x.a, x.b, x.c] else if x.kind ∈ [kArm, kDisarm, kShoot] then [x.tick] else [x.tick, x.num]
theorem integers123 {n : Nat} (hn : 4 ≤ n) (x : ActI) : RUN n 123 [aa x] = .ret (if x.kind = kMeasure then .own (pI (intA x)) 4 1 else isl (intA x)) := by
 obtain ⟨d, rfl⟩ : ∃ d, n = d + 4 := ⟨n - 4, by omega⟩
 rw [RUN, call_eq fe123 _ rfl]
 have k1 : RUN (d + 3) 93 [aa x, .p (.sl [.str kMeasure] 1)] = .ret (bl (decide (x.kind ∈ [kMeasure]))) := is93 (by omega) x [kMeasure] (by simp)
 have k2 : RUN (d + 3) 93 [aa x, .p (.sl [.str kArm, .str kDisarm, .str kShoot] 3)] = .ret (bl (decide (x.kind ∈ [kArm, kDisarm, kShoot]))) := is93 (by omega) x [kArm, kDisarm, kShoot] (by simp)
 simp only [List.mem_singleton] at k1
 unfold intA
 have e1 : kMeasure = [109, 101, 97, 115, 117, 114, 101] := rfl
 have e2 : kArm = [97, 114, 109] := rfl
 have e3 : kDisarm = [100, 105, 115, 97, 114, 109] := rfl
 have e4 : kShoot = [115, 104, 111, 111, 116] := rfl
 have hlim : 4 ≤ lim := by decide
 obtain ⟨t, k, m, a, b, c⟩ := x
 simp only [e1, e2, e3, e4] at k1 k2 ⊢
 by_cases h1 : k = [109, 101, 97, 115, 117, 114, 101]
 ·simp only [h1, decide_true, if_true] at *
  simp -implicitDefEqProofs [c123, k1, pI, hlim]
 ·simp only [h1, decide_false, if_false] at k1 ⊢
  by_cases h2 : k ∈ [[97, 114, 109], [100, 105, 115, 97, 114, 109], [115, 104, 111, 111, 116]]
  ·rw [if_pos h2]
   rw [decide_eq_true h2] at k2
   simp -implicitDefEqProofs [c123, k1, k2, pI]
  ·rw [if_neg h2]
   rw [decide_eq_false h2] at k2
   simp -implicitDefEqProofs [c123, k1, k2, pI]
theorem pI_lenS (l : List Int) : (pI l).length = l.length := by simp [pI]
theorem pI_dropS (l : List Int) (k : Nat) (hk : k < l.length) : (pI l).drop k = .int .i64 l[k] :: (pI l).drop (k + 1) := by
 rw [List.drop_eq_getElem_cons (by simpa [pI] using hk)]
 simp [pI]
theorem mapped122 {n : Nat} (hn : 1 ≤ n) (l : List Int) (hl : l.length < 1000000) (hx : ∀ x ∈ l, -9223372036854775808 ≤ x ∧ x ≤ 9223372036854775807) : RUN n 122 [isl l, .p (.clo 124 [] [])] = .ret (.own (pStr (l.map itoaS)) l.length 1) := by
 obtain ⟨d, rfl⟩ : ∃ d, n = d + 1 := ⟨n - 1, by omega⟩
 rw [RUN, call_eq fe122 _ rfl]
 let inv : Nat → St := fun i => ⟨[(1, .p (.clo 124 [] [])), (5, .sl 0 i 0 i), (8, isl l), (9, iv l.length), (10, iv i)], [(0, .arr (pStr ((l.map itoaS).take i)) i 1)]⟩
 have htake : (l.map itoaS).take l.length = l.map itoaS := List.take_of_length_le (by simp)
 simp -implicitDefEqProofs [c122]
 rw [loop_run' inv l.length (e := .exit 0) (st' := ⟨(inv l.length).env ++ [(11, .p (.bool false))], (inv l.length).sto⟩) (by simp)]
 ·simp -implicitDefEqProofs [inv, htake]
 ·rfl
 ·intro i hi
  have hlim : i + 1 ≤ lim := by simp only [lim]; omega
  have wi := wrap_succ (i := i) (by omega)
  obtain ⟨a, b⟩ := hx l[i] (List.getElem_mem hi)
  have k := itoa124 (n := d) l[i] a b
  have hr : pStr ((l.map itoaS).take (i + 1)) = pStr ((l.map itoaS).take i) ++ [.str (itoaS l[i])] := by
   rw [List.take_add_one]; simp [hi, pStr]
  have hln : (pStr ((l.map itoaS).take i)).length = i := by simp [pStr]; omega
  have hR := pI_lenS l
  have hdr := pI_dropS l i hi
  clear a b
  simp only [inv, isl]
  generalize hA : pI l = A at *
  generalize pStr ((l.map itoaS).take i) = R' at *
  generalize A.drop (i + 1) = R2 at *
  generalize itoaS l[i] = w at *
  generalize l[i] = v at *
  refine ⟨?_, ?h1, ?h2⟩
  case h1 =>
   simp -implicitDefEqProofs [loopS_eq, c122L0, hi, hR, hdr, k, hlim, hln, wi]
   exact rfl
  case h2 => exact loopS_same rfl (by simp [hr])
 ·simp -implicitDefEqProofs [inv, loopS_eq, c122L0]
 ·simp [loopFuel]; omega
end Fw
end

section
/- Acts printed: a line by the reference. -/
set_option maxHeartbeats 16000000
set_option maxRecDepth 8000
namespace Fw
open Go
attribute [local irreducible] evCode evOps evOpsD evOper evOperD evOp evFn loopN T.All T.bind callPure callOp opsK opsDK restK seqK blockK loopS setK setQ giveK scalK gcK finish finS rfunK yldK yldB loopK

structure ActP (x : ActI) : Prop where
 k : x.kind ∈ kindL
 t : 0 ≤ x.tick ∧ x.tick ≤ 100000000
 n : 0 ≤ x.num ∧ x.num ≤ 8
 a : 0 ≤ x.a ∧ x.a ≤ 100000
 b : 0 ≤ x.b ∧ x.b ≤ 100000
 c : 0 ≤ x.c ∧ x.c ≤ 100000
theorem actP_of {h : HallI} (hd : h.doors ≤ 8) {x : ActI} (he : actE h x = 0) : ActP x := by
 unfold actE at he
 split at he
 ·omega
 ·rename_i h0
  split at he
  ·cases he
  ·rename_i h1
   split at he
   ·cases he
   ·rename_i h2
    have h0 : rangeE 0 100000000 x.tick = 0 := by simpa using h0
    unfold rangeE at h0
    have hn : numsE h x.kind ≤ 8 := by
     unfold numsE
     repeat' split
     all_goals omega
    have h3 : (0 ≤ x.a ∧ x.a ≤ 100000) ∧ (0 ≤ x.b ∧ x.b ≤ 100000) ∧ (0 ≤ x.c ∧ x.c ≤ 100000) := by
     split at he
     ·unfold valE at he
      have v1 := firstE_zero.1 he (rangeE 0 100000 x.a) (by simp)
      have v2 := firstE_zero.1 he (rangeE 0 100000 x.b) (by simp)
      have v3 := firstE_zero.1 he (rangeE 0 100000 x.c) (by simp)
      unfold rangeE at v1 v2 v3
      split at v1
      ·cases v1
      ·split at v2
       ·cases v2
       ·split at v3
        ·cases v3
        ·omega
     ·cases hz : zerB x.a x.b x.c with
      | false => rw [hz] at he; cases he
      | true =>
       simp only [zerB, Bool.and_eq_true, beq_iff_eq] at hz
       omega
    split at h0
    ·cases h0
    ·exact ⟨by simpa using h1, by omega, by omega, h3.1, h3.2.1, h3.2.2⟩
theorem kinds3 {k : List UInt8} (h : k ∈ kindL) : k.length ≤ 7 ∧ ((k = kMeasure ∧ doorB k = false ∧ keyB k = false) ∨ (¬ k = kMeasure ∧ k ∈ [kArm, kDisarm, kShoot] ∧ doorB k = false ∧ keyB k = false) ∨ (¬ k = kMeasure ∧ ¬ k ∈ [kArm, kDisarm, kShoot] ∧ (doorB k = true ∨ (doorB k = false ∧ keyB k = true)))) := by
 simp only [kindL, List.mem_cons, List.not_mem_nil, or_false] at h
 rcases h with h | h | h | h | h | h | h | h | h | h <;> subst h <;> decide
def lineA (x : ActI) : List UInt8 := Lib.join (x.kind :: (intA x).map itoaS) [32] ++ [10]
def textA (l : List ActI) : List UInt8 := (l.map lineA).flatten
theorem lineA_m {x : ActI} (h : x.kind = kMeasure) : lineA x = x.kind ++ [32] ++ itoaS x.tick ++ [32] ++ itoaS x.a ++ [32] ++ itoaS x.b ++ [32] ++ itoaS x.c ++ [10] := by
 simp [lineA, intA, h, Lib.join]
theorem lineA_1 {x : ActI} (h : ¬ x.kind = kMeasure) (h2 : x.kind ∈ [kArm, kDisarm, kShoot]) : lineA x = x.kind ++ [32] ++ itoaS x.tick ++ [10] := by
 simp only [lineA, intA, if_neg h, if_pos h2]
 simp [Lib.join]
theorem lineA_2 {x : ActI} (h : ¬ x.kind = kMeasure) (h2 : ¬ x.kind ∈ [kArm, kDisarm, kShoot]) : lineA x = x.kind ++ [32] ++ itoaS x.tick ++ [32] ++ itoaS x.num ++ [10] := by
 simp only [lineA, intA, if_neg h, if_neg h2]
 simp [Lib.join]
abbrev M129 (t m a b c : Int) (k : List UInt8) (S : List UInt8) (i : Nat) : St := ⟨[(1, .ptr 0 0 0), (3, sv S), (4, iv i)], [(0, .arr [.int .i64 t, .str k, .int .i64 m, .int .i64 a, .int .i64 b, .int .i64 c] 0 1)]⟩
theorem stop129 {d : Nat} (t m a b c : Int) (k S : List UInt8) (h : (k == [109, 101, 97, 115, 117, 114, 101]) = false) : loopN (loopS (evFn F C0 G0 d) C0 G0 0 false [1, 3, 4] c129L0) loopFuel (M129 t m a b c k S 0) = .ret (.exit 0, ⟨(M129 t m a b c k S 0).env ++ [(32, .p (.bool false))], (M129 t m a b c k S 0).sto⟩) := by
 rw [loop_run' (fun _ => M129 t m a b c k S 0) 0 (e := .exit 0) (st' := ⟨(M129 t m a b c k S 0).env ++ [(32, .p (.bool false))], (M129 t m a b c k S 0).sto⟩) (by simp)]
 ·rfl
 ·intro i hi; omega
 ·simp -implicitDefEqProofs [loopS_eq, c129L0, h, strBin]
 ·simp [loopFuel]
def acc129 (S2 S4 S6 S8 : List UInt8) : Nat → List UInt8
 | 0 => S2
 | 1 => S4
 | 2 => S6
 | _ => S8
theorem all129 {d : Nat} (t m a b c : Int) (k : List UInt8) (hq : (k == [109, 101, 97, 115, 117, 114, 101]) = true) (S2 S3 S4 S5 S6 S7 S8 T3 T4 T5 : List UInt8) (t3 : RUN d 159 [iv a] = .ret (sv T3)) (t4 : RUN d 159 [iv b] = .ret (sv T4)) (t5 : RUN d 159 [iv c] = .ret (sv T5))
  (a3 : S2.length + 1 ≤ lim) (h3 : S2 ++ [32] = S3) (a4 : S3.length + T3.length ≤ lim) (h4 : S3 ++ T3 = S4) (a5 : S4.length + 1 ≤ lim) (h5 : S4 ++ [32] = S5) (a6 : S5.length + T4.length ≤ lim) (h6 : S5 ++ T4 = S6) (a7 : S6.length + 1 ≤ lim) (h7 : S6 ++ [32] = S7) (a8 : S7.length + T5.length ≤ lim) (h8 : S7 ++ T5 = S8) :
  loopN (loopS (evFn F C0 G0 d) C0 G0 0 false [1, 3, 4] c129L0) loopFuel (M129 t m a b c k S2 0) = .ret (.exit 0, ⟨(M129 t m a b c k S8 3).env ++ [(32, .p (.bool false))], (M129 t m a b c k S8 3).sto⟩) := by
 rw [loop_run' (fun i => M129 t m a b c k (acc129 S2 S4 S6 S8 i) i) 3 (e := .exit 0) (st' := ⟨(M129 t m a b c k S8 3).env ++ [(32, .p (.bool false))], (M129 t m a b c k S8 3).sto⟩) (by simp)]
 ·rfl
 ·intro i hi
  have w1 := wrap_succ (i := 0) (by omega)
  have w2 := wrap_succ (i := 1) (by omega)
  have w3 := wrap_succ (i := 2) (by omega)
  have : i = 0 ∨ i = 1 ∨ i = 2 := by omega
  rcases this with rfl | rfl | rfl
  ·refine ⟨?_, ?h1, ?h2⟩
   case h1 =>
    simp -implicitDefEqProofs [loopS_eq, c129L0, hq, acc129, t3, a3, h3, a4, h4]
    exact rfl
   case h2 => rfl
  ·refine ⟨?_, ?h1, ?h2⟩
   case h1 =>
    simp -implicitDefEqProofs [loopS_eq, c129L0, hq, acc129, t4, a5, h5, a6, h6]
    exact rfl
   case h2 => rfl
  ·refine ⟨?_, ?h1, ?h2⟩
   case h1 =>
    simp -implicitDefEqProofs [loopS_eq, c129L0, hq, acc129, t5, a7, h7, a8, h8]
    exact rfl
   case h2 => rfl
 ·simp -implicitDefEqProofs [loopS_eq, c129L0, acc129]
 ·simp [loopFuel]
theorem line129 {n : Nat} (hn : 2 ≤ n) (x : ActI) (hx : ActP x) : RUN n 129 [aa x] = .ret (sv (lineA x)) := by
 obtain ⟨d, rfl⟩ : ∃ d, n = d + 2 := ⟨n - 2, by omega⟩
 rw [RUN, call_eq fe129 _ rfl]
 obtain ⟨hk, ht, hnn, ha, hb, hc⟩ := hx
 obtain ⟨hl, h3⟩ := kinds3 hk
 have t1 := text159 (n := d + 1) (by omega) x.tick (by omega) (by omega)
 have t2 := text159 (n := d + 1) (by omega) x.num (by omega) (by omega)
 have t3 := text159 (n := d + 1) (by omega) x.a (by omega) (by omega)
 have t4 := text159 (n := d + 1) (by omega) x.b (by omega) (by omega)
 have t5 := text159 (n := d + 1) (by omega) x.c (by omega) (by omega)
 have b1 := itoaS_length x.tick
 have b2 := itoaS_length x.num
 have b3 := itoaS_length x.a
 have b4 := itoaS_length x.b
 have b5 := itoaS_length x.c
 have kd := door96 (n := d + 1) (by omega) x.kind
 have kk := key97 (n := d + 1) (by omega) x.kind
 have e1 : kMeasure = [109, 101, 97, 115, 117, 114, 101] := rfl
 have r1 := fun h => lineA_m (x := x) h
 have r2 := fun h g => lineA_1 (x := x) h g
 have r3 := fun h g => lineA_2 (x := x) h g
 generalize lineA x = LX at *
 rw [e1] at h3 r1 r2 r3
 obtain ⟨t, k, m, a, b, c⟩ := x
 simp only at hl h3 t1 t2 t3 t4 t5 b1 b2 b3 b4 b5 kd kk r1 r2 r3 ⊢
 generalize itoaS t = T1 at *
 generalize itoaS m = T2 at *
 generalize itoaS a = T3 at *
 generalize itoaS b = T4 at *
 generalize itoaS c = T5 at *
 clear hk ht hnn ha hb hc
 have hlm : lim ≥ 100000 := by decide
 have a1 : k.length + 1 ≤ lim := by omega
 obtain ⟨S1, h1⟩ : ∃ S, k ++ [32] = S := ⟨_, rfl⟩
 have l1 : S1.length = k.length + 1 := by rw [← h1]; simp
 have a2 : S1.length + T1.length ≤ lim := by omega
 obtain ⟨S2, h2⟩ : ∃ S, S1 ++ T1 = S := ⟨_, rfl⟩
 have l2 : S2.length = S1.length + T1.length := by rw [← h2]; simp
 have a3 : S2.length + 1 ≤ lim := by omega
 have aN : S2.length + 1 ≤ lim := by omega
 obtain ⟨S3, h3'⟩ : ∃ S, S2 ++ [32] = S := ⟨_, rfl⟩
 obtain ⟨SN, hN'⟩ : ∃ S, S2 ++ [10] = S := ⟨_, rfl⟩
 have l3 : S3.length = S2.length + 1 := by rw [← h3']; simp
 rcases h3 with ⟨q1, q2, q3⟩ | ⟨q1, q2, q3, q4⟩ | ⟨q1, q2, q3⟩
 ·have a4 : S3.length + T3.length ≤ lim := by omega
  obtain ⟨S4, h4⟩ : ∃ S, S3 ++ T3 = S := ⟨_, rfl⟩
  have l4 : S4.length = S3.length + T3.length := by rw [← h4]; simp
  have a5 : S4.length + 1 ≤ lim := by omega
  obtain ⟨S5, h5⟩ : ∃ S, S4 ++ [32] = S := ⟨_, rfl⟩
  have l5 : S5.length = S4.length + 1 := by rw [← h5]; simp
  have a6 : S5.length + T4.length ≤ lim := by omega
  obtain ⟨S6, h6⟩ : ∃ S, S5 ++ T4 = S := ⟨_, rfl⟩
  have l6 : S6.length = S5.length + T4.length := by rw [← h6]; simp
  have a7 : S6.length + 1 ≤ lim := by omega
  obtain ⟨S7, h7⟩ : ∃ S, S6 ++ [32] = S := ⟨_, rfl⟩
  have l7 : S7.length = S6.length + 1 := by rw [← h7]; simp
  have a8 : S7.length + T5.length ≤ lim := by omega
  obtain ⟨S8, h8⟩ : ∃ S, S7 ++ T5 = S := ⟨_, rfl⟩
  have l8 : S8.length = S7.length + T5.length := by rw [← h8]; simp
  have a9 : S8.length + 1 ≤ lim := by omega
  have r1 := r1 q1
  rw [h1, h2, h3', h4, h5, h6, h7, h8] at r1
  rw [q2] at kd
  rw [q3] at kk
  obtain ⟨SR, hS8⟩ : ∃ S, S8 ++ [10] = S := ⟨_, rfl⟩
  rw [hS8] at r1
  have qe : (k == [109, 101, 97, 115, 117, 114, 101]) = true := by simpa using q1
  have key := all129 (d := d + 1) t m a b c k qe S2 S3 S4 S5 S6 S7 S8 T3 T4 T5 t3 t4 t5 a3 h3' a4 h4 a5 h5 a6 h6 a7 h7 a8 h8
  simp only [M129, Int.natCast_zero] at key
  simp -implicitDefEqProofs [c129, t1, kd, kk, a1, a2, h1, h2]
  rw [show loopN _ _ _ = _ from key]
  simp -implicitDefEqProofs [a9, hS8, r1]
 ·have r2 := r2 q1 q2
  rw [h1, h2, hN'] at r2
  rw [q3] at kd
  rw [q4] at kk
  have qf : (k == [109, 101, 97, 115, 117, 114, 101]) = false := by simpa using q1
  have key := stop129 (d := d + 1) t m a b c k S2 qf
  simp only [M129, Int.natCast_zero] at key
  simp -implicitDefEqProofs [c129, t1, kd, kk, a1, a2, h1, h2]
  rw [show loopN _ _ _ = _ from key]
  simp -implicitDefEqProofs [aN, hN', r2]
 ·have a4 : S3.length + T2.length ≤ lim := by omega
  obtain ⟨S4, h4⟩ : ∃ S, S3 ++ T2 = S := ⟨_, rfl⟩
  have l4 : S4.length = S3.length + T2.length := by rw [← h4]; simp
  have a9 : S4.length + 1 ≤ lim := by omega
  have r3 := r3 q1 q2
  rw [h1, h2, h3', h4] at r3
  obtain ⟨SR, hS8⟩ : ∃ S, S4 ++ [10] = S := ⟨_, rfl⟩
  rw [hS8] at r3
  have qf : (k == [109, 101, 97, 115, 117, 114, 101]) = false := by simpa using q1
  have key := stop129 (d := d + 1) t m a b c k S4 qf
  simp only [M129, Int.natCast_zero] at key
  rcases q3 with q3 | ⟨q3, q4⟩
  ·rw [q3] at kd
   simp -implicitDefEqProofs [c129, t1, t2, kd, a1, a2, a3, a4, h1, h2, h3', h4]
   rw [show loopN _ _ _ = _ from key]
   simp -implicitDefEqProofs [a9, hS8, r3]
  ·rw [q3] at kd
   rw [q4] at kk
   simp -implicitDefEqProofs [c129, t1, t2, kd, kk, a1, a2, a3, a4, h1, h2, h3', h4]
   rw [show loopN _ _ _ = _ from key]
   simp -implicitDefEqProofs [a9, hS8, r3]
end Fw
end

section
/- Acts printed, whole. -/
set_option maxHeartbeats 16000000
set_option maxRecDepth 8000
namespace Fw
open Go
attribute [local irreducible] evCode evOps evOpsD evOper evOperD evOp evFn loopN T.All T.bind callPure callOp opsK opsDK restK seqK blockK loopS setK setQ giveK scalK gcK finish finS rfunK yldK yldB loopK

theorem lineA_len {x : ActI} (h : ActP x) : (lineA x).length ≤ 120 := by
 obtain ⟨hl, h3⟩ := kinds3 h.k
 have b1 := itoaS_length x.tick
 have b2 := itoaS_length x.num
 have b3 := itoaS_length x.a
 have b4 := itoaS_length x.b
 have b5 := itoaS_length x.c
 rcases h3 with ⟨q1, q2, q3⟩ | ⟨q1, q2, q3, q4⟩ | ⟨q1, q2, q3⟩
 ·rw [lineA_m q1]
  simp only [List.length_append, List.length_cons, List.length_nil]
  omega
 ·rw [lineA_1 q1 q2]
  simp only [List.length_append, List.length_cons, List.length_nil]
  omega
 ·rw [lineA_2 q1 q2]
  simp only [List.length_append, List.length_cons, List.length_nil]
  omega
theorem textA_len (l : List ActI) (h : ∀ x ∈ l, ActP x) : (textA l).length ≤ 120 * l.length := by
 induction l with
 | nil => simp [textA]
 | cons s r ih =>
  have h1 := lineA_len (h s (by simp))
  have h2 := ih (fun x hx => h x (by simp [hx]))
  simp only [textA, List.map_cons, List.flatten_cons, List.length_append, List.length_cons] at h2 ⊢
  omega
theorem textA_snoc (l : List ActI) (s : ActI) : textA (l ++ [s]) = textA l ++ lineA s := by simp [textA]
theorem textA_take {l : List ActI} {i : Nat} (hi : i < l.length) : textA (l.take (i + 1)) = textA (l.take i) ++ lineA l[i] := by
 rw [show l.take (i + 1) = l.take i ++ [l[i]] from by rw [List.take_add_one, List.getElem?_eq_getElem hi]; rfl, textA_snoc]
def prE (l : List ActI) : Int := if 4096 < (textA l).length then 26 else 0
def prT (l : List ActI) : List UInt8 := if 4096 < (textA l).length then [] else textA l
theorem print66 {n : Nat} (hn : 3 ≤ n) (l : List ActI) (hl : l.length < 50000) (h : ∀ x ∈ l, ActP x) : RUN n 66 [asl l] = .ret (.tup [sv (prT l), iv (prE l)]) := by
 obtain ⟨d, rfl⟩ : ∃ d, n = d + 3 := ⟨n - 3, by omega⟩
 rw [RUN, call_eq fe66 _ rfl]
 have hR := aR_len l
 let inv : Nat → St := fun i => ⟨[(0, asl l), (4, sv (textA (l.take i))), (5, iv i)], []⟩
 have htake : l.take l.length = l := List.take_of_length_le (by omega)
 have key : loopN (loopS (evFn F C0 G0 (d + 2)) C0 G0 0 false [0, 4, 5] c66L0) loopFuel (inv 0) = .ret (.exit 0, ⟨(inv l.length).env ++ [(9, .p (.bool false))], []⟩) := by
  rw [loop_run' inv l.length (e := .exit 0) (st' := ⟨(inv l.length).env ++ [(9, .p (.bool false))], []⟩) (by simp)]
  ·rfl
  ·intro i hi
   have wi := wrap_succ (i := i) (by omega)
   have hlt : i * 6 < l.length * 6 := by omega
   have hdr := rowC_drop ac_len l i hi
   have hx := h _ (List.getElem_mem hi)
   have k := line129 (n := d + 2) (by omega) l[i] hx
   have hA0 := textA_len (l.take i) (fun s hs => h s (List.mem_of_mem_take hs))
   have hA1 : (textA (l.take i)).length ≤ 6000000 := by simp only [List.length_take] at hA0; omega
   have hB := lineA_len hx
   have q : (textA (l.take i)).length + (lineA l[i]).length ≤ lim := by
    have : lim ≥ 100000000 := by decide
    omega
   clear hA0 hA1 hB
   simp only [inv, asl, textA_take hi]
   generalize rowC ac l = A at *
   generalize rowC ac (l.drop (i + 1)) = R2 at *
   generalize textA (l.take i) = T at *
   generalize lineA l[i] = L at *
   generalize l[i] = x at *
   obtain ⟨t, kk, m, a, b, c⟩ := x
   simp only [ac] at *
   refine ⟨?_, ?h1, ?h2⟩
   case h1 =>
    simp -implicitDefEqProofs [loopS_eq, c66L0, hi, hR, hlt, hdr, k, q, wi]
    exact rfl
   case h2 => rfl
  ·simp -implicitDefEqProofs [inv, loopS_eq, c66L0]
  ·simp [loopFuel]; omega
 simp only [inv, asl, htake] at key ⊢
 simp only [List.take_zero, show textA [] = [] from rfl, Int.natCast_zero] at key
 unfold prT prE
 generalize textA l = T at *
 generalize rowC ac l = A at *
 simp -implicitDefEqProofs [c66]
 rw [show loopN _ _ _ = _ from key]
 by_cases h4 : 4096 < T.length
 ·have h4' : (4096 : Int) < T.length := by omega
  simp -implicitDefEqProofs [h4, h4']
 ·have h4' : ¬ (4096 : Int) < T.length := by omega
  simp -implicitDefEqProofs [h4, h4']
end Fw
end

section
/- Acts printed by the chapter. -/
set_option maxHeartbeats 16000000
set_option maxRecDepth 8000
namespace Fw
open Go
attribute [local irreducible] evCode evOps evOpsD evOper evOperD evOp evFn loopN T.All T.bind callPure callOp opsK opsDK restK seqK blockK loopS setK setQ giveK scalK gcK finish finS rfunK yldK yldB loopK

theorem intA_ok {x : ActI} (h : ActP x) : (intA x).length ≤ 4 ∧ ∀ y ∈ intA x, -9223372036854775808 ≤ y ∧ y ≤ 9223372036854775807 := by
 obtain ⟨hk, ht, hn, ha, hb, hc⟩ := h
 unfold intA
 split
 ·refine ⟨by simp, fun y hy => ?_⟩
  simp only [List.mem_cons, List.not_mem_nil, or_false] at hy
  rcases hy with rfl | rfl | rfl | rfl <;> omega
 ·split
  ·refine ⟨by simp, fun y hy => ?_⟩
   simp only [List.mem_cons, List.not_mem_nil, or_false] at hy
   subst hy; omega
  ·refine ⟨by simp, fun y hy => ?_⟩
   simp only [List.mem_cons, List.not_mem_nil, or_false] at hy
   rcases hy with rfl | rfl <;> omega
def P63 (l : List ActI) (i : Nat) : St := ⟨[(9, sv (textA (l.take i))), (22, asl l), (23, iv l.length), (24, iv i)], []⟩
theorem round63 {d : Nat} (l : List ActI) (hl : l.length < 50000) (h : ∀ x ∈ l, ActP x) (i : Nat) (hi : i < l.length) :
  ∃ st1, loopS (evFn F C0 G0 (d + 4)) C0 G0 0 true [9, 22, 23, 24] c63L0 (P63 l i) = .ret (.normal, st1) ∧
   loopS (evFn F C0 G0 (d + 4)) C0 G0 0 true [9, 22, 23, 24] c63L0 st1 = loopS (evFn F C0 G0 (d + 4)) C0 G0 0 true [9, 22, 23, 24] c63L0 (P63 l (i + 1)) := by
 have hR := aR_len l
 have wi := wrap_succ (i := i) (by omega)
 have hlt : i * 6 < l.length * 6 := by omega
 have hdr := rowC_drop ac_len l i hi
 have hx := h _ (List.getElem_mem hi)
 obtain ⟨hi4, hiv⟩ := intA_ok hx
 have k1 := integers123 (n := d + 4) (by omega) l[i]
 have k2 := mapped122 (n := d + 4) (by omega) (intA l[i]) (by omega) hiv
 have hB := lineA_len hx
 have hlB : (lineA l[i]).length = (Lib.join (l[i].kind :: (intA l[i]).map itoaS) [32]).length + 1 := by simp [lineA]
 have hlm : lim ≥ 100000000 := by decide
 have k3 := join121 (n := d + 4) (l[i].kind :: (intA l[i]).map itoaS) [32] (by simp only [List.length_cons, List.length_map]; omega) (by omega)
 have hA0 := textA_len (l.take i) (fun s hs => h s (List.mem_of_mem_take hs))
 have hA1 : (textA (l.take i)).length ≤ 6000000 := by simp only [List.length_take] at hA0; omega
 have q : (textA (l.take i)).length + (lineA l[i]).length ≤ lim := by omega
 have q1 : (Lib.join (l[i].kind :: (intA l[i]).map itoaS) [32]).length + 1 ≤ lim := by omega
 have q2 : (intA l[i]).length + 1 ≤ lim := by omega
 have q3 : 1 + (intA l[i]).length = (intA l[i]).length + 1 := by omega
 have eL : Lib.join (l[i].kind :: (intA l[i]).map itoaS) [32] ++ [10] = lineA l[i] := rfl
 have hpl : (pStr ((intA l[i]).map itoaS)).length = (intA l[i]).length := by simp
 have hz : ¬ (intA l[i]).length = 0 := by
  unfold intA
  repeat' split
  all_goals simp
 have e4 : l[i].kind = kMeasure → (intA l[i]).length = 4 := fun e => by simp [intA, e]
 clear hA0 hA1 hB hlB hi4 hiv hx
 simp only [P63, asl, textA_take hi]
 rw [show pStr (l[i].kind :: (intA l[i]).map itoaS) = .str l[i].kind :: pStr ((intA l[i]).map itoaS) from rfl, List.length_cons, List.length_map] at k3
 generalize rowC ac l = A at *
 generalize rowC ac (l.drop (i + 1)) = R2 at *
 generalize textA (l.take i) = T at *
 generalize lineA l[i] = L at *
 generalize Lib.join (l[i].kind :: (intA l[i]).map itoaS) [32] = J at *
 generalize pStr ((intA l[i]).map itoaS) = PS at *
 simp only [isl] at *
 generalize pI (intA l[i]) = PI at *
 generalize (intA l[i]).length = z at *
 generalize l[i] = x at *
 obtain ⟨t, kk, m, a, b, c⟩ := x
 simp only [ac] at *
 by_cases hm : kk = kMeasure
 ·have e4 := e4 hm
  subst e4
  rw [if_pos hm] at k1
  refine ⟨?_, ?h1, ?h2⟩
  case h1 =>
   simp -implicitDefEqProofs [loopS_eq, c63L0, hi, hR, hlt, hdr, k1, k2, k3, q, q1, q2, q3, eL, hpl, hz, wi]
   exact rfl
  case h2 => exact loopS_same (by simp) (by simp)
 ·rw [if_neg hm] at k1
  refine ⟨?_, ?h1, ?h2⟩
  case h1 =>
   simp -implicitDefEqProofs [loopS_eq, c63L0, hi, hR, hlt, hdr, k1, k2, k3, q, q1, q2, q3, eL, hpl, hz, wi]
   exact rfl
  case h2 => exact loopS_same (by simp) (by simp)
end Fw
end

section
/- Acts printed by the chapter, whole. -/
set_option maxHeartbeats 16000000
set_option maxRecDepth 8000
namespace Fw
open Go
attribute [local irreducible] evCode evOps evOpsD evOper evOperD evOp evFn loopN T.All T.bind callPure callOp opsK opsDK restK seqK blockK loopS setK setQ giveK scalK gcK finish finS rfunK yldK yldB loopK

theorem acts_P {h : HallI} {l : List ActI} (he : actsE h l = 0) : ∀ x ∈ l, ActP x := by
 obtain ⟨z1, z2, z3⟩ := acts_ok he
 exact fun x hx => actP_of (doors_of z1).2 (z3 x hx)
theorem print63 {n : Nat} (hn : 10 ≤ n) (h : HallI) (q0 : h.t0.length < 1000000) (q1 : h.t1.length < 1000000) (q2 : h.t2.length < 1000000) (l : List ActI) (hl : l.length < 50000) :
  RUN n 63 [ha h, asl l] = .ret (.tup [sv (if chkE h l = 0 then prT l else []), iv (if chkE h l = 0 then prE l else chkE h l)]) := by
 obtain ⟨d, rfl⟩ : ∃ d, n = d + 10 := ⟨n - 10, by omega⟩
 rw [RUN, call_eq fe63 _ rfl]
 have k88 := followed88 (n := d + 9) (by omega) h q0 q1 q2 l hl
 unfold folR at k88
 unfold chkE
 obtain ⟨dr, bs, t0, t1, t2⟩ := h
 by_cases h0 : actsE ⟨dr, bs, t0, t1, t2⟩ l = 0
 ·have hP := acts_P h0
  simp only [h0, ne_eq, not_true, if_false] at k88 ⊢
  have key : loopN (loopS (evFn F C0 G0 (d + 9)) C0 G0 0 true [9, 22, 23, 24] c63L0) loopFuel ⟨(P63 l 0).env, [(0, .box [iv dr, iv bs, csl t0, csl t1, csl t2])]⟩ = .ret (.exit 0, ⟨(P63 l l.length).env ++ [(25, .p (.bool false))], (P63 l l.length).sto⟩) := by
   rw [loop_run' (P63 l) l.length (e := .exit 0) (st' := ⟨(P63 l l.length).env ++ [(25, .p (.bool false))], (P63 l l.length).sto⟩) (by simp)]
   ·exact loopS_same rfl (by simp [P63])
   ·intro i hi
    exact round63 (d := d + 5) l hl hP i hi
   ·simp -implicitDefEqProofs [loopS_eq, c63L0, P63]
   ·simp [loopFuel]; omega
  have htake : l.take l.length = l := List.take_of_length_le (by omega)
  simp only [P63, asl, csl, htake] at key
  simp only [List.take_zero, show textA [] = [] from rfl, Int.natCast_zero] at key
  unfold prT prE
  simp only [ha, asl, csl] at *
  generalize runH ⟨dr, bs, t0, t1, t2⟩ l = RH at *
  generalize textA l = T at *
  generalize rowC ac l = A at *
  generalize cI t0 = B0 at *
  generalize cI t1 = B1 at *
  generalize cI t2 = B2 at *
  cases hr : RH.2 with
  | true =>
   rw [hr] at k88
   simp only [if_true] at k88 ⊢
   simp -implicitDefEqProofs [c63, k88]
   rw [show loopN _ _ _ = _ from key]
   by_cases h4 : 4096 < T.length
   ·have h4' : (4096 : Int) < T.length := by omega
    simp -implicitDefEqProofs [h4, h4']
   ·have h4' : ¬ (4096 : Int) < T.length := by omega
    simp -implicitDefEqProofs [h4, h4']
  | false =>
   rw [hr] at k88
   simp at k88
   simp -implicitDefEqProofs [c63, k88]
 ·simp only [h0, ne_eq, not_false_eq_true, if_true, if_false] at k88 ⊢
  simp only [ha, asl, csl] at *
  generalize actsE ⟨dr, bs, t0, t1, t2⟩ l = e at *
  generalize rowC ac l = A at *
  generalize cI t0 = B0 at *
  generalize cI t1 = B1 at *
  generalize cI t2 = B2 at *
  simp -implicitDefEqProofs [c63, k88, h0]
end Fw
end

