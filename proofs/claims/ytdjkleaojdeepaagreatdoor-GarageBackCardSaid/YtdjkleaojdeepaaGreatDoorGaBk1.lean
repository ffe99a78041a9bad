/- Several texts in one: steps of the proof, no condition of their own. -/
import Derived.Test.YtdjkleaojdeepaaGreatDoorGaRB
import Derived.Test.YtdjkleaojdeepaaGreatDoorFwC
attribute [local irreducible] Fw.evCode Fw.evOps Fw.evOpsD Fw.evOper Fw.evOperD Fw.evOp Fw.evFn Fw.loopN Fw.T.All Fw.T.bind Fw.callPure Fw.callOp Fw.opsK Fw.opsDK Fw.restK Fw.seqK Fw.blockK Fw.loopS Fw.setK Fw.setQ Fw.giveK Fw.scalK Fw.gcK Fw.finish Fw.finS Fw.rfunK Fw.yldK Fw.yldB Fw.loopK
section
set_option maxHeartbeats 16000000
set_option maxRecDepth 8000
namespace Fw
open Go

def intA (x : ActI) : List Int := if x.kind = kMeasure then [x.tick, x.a, x.b, x.c] else if x.kind ∈ [kArm, kDisarm, kShoot] then [x.tick] else [x.tick, x.num]
theorem integers123 {n : Nat} (hn : 4 ≤ n) (x : ActI) : RUN n 123 [aa x] = .ret (if x.kind = kMeasure then .own (pI (intA x)) 4 1 else isl (intA x)) := by
 obtain ⟨d, rfl⟩ : ∃ d, n = d + 4 := ⟨n - 4, by omega⟩
 rw [RUN, call_eq fe123 _ rfl]
 have k1 : RUN (d + 3) 93 [aa x, .p (.sl [.str kMeasure] 1)] = .ret (bl (decide (x.kind ∈ [kMeasure]))) := is93 (by omega) x [kMeasure] (by simp)
 have k2 : RUN (d + 3) 93 [aa x, .p (.sl [.str kArm, .str kDisarm, .str kShoot] 3)] = .ret (bl (decide (x.kind ∈ [kArm, kDisarm, kShoot]))) := is93 (by omega) x [kArm, kDisarm, kShoot] (by simp)
 simp only [List.mem_singleton] at k1
 unfold intA
 have e1 : kMeasure = [109, 101, 97, 115, 117, 114, 101] := rfl
 have e2 : kArm = [97, 114, 109] := rfl
 have e3 : kDisarm = [100, 105, 115, 97, 114, 109] := rfl
 have e4 : kShoot = [115, 104, 111, 111, 116] := rfl
 have hlim : 4 ≤ lim := by decide
 obtain ⟨t, k, m, a, b, c⟩ := x
 simp only [e1, e2, e3, e4] at k1 k2 ⊢
 by_cases h1 : k = [109, 101, 97, 115, 117, 114, 101]
 ·simp only [h1, decide_true, if_true] at *
  simp -implicitDefEqProofs [c123, k1, pI, hlim]
 ·simp only [h1, decide_false, if_false] at k1 ⊢
  by_cases h2 : k ∈ [[97, 114, 109], [100, 105, 115, 97, 114, 109], [115, 104, 111, 111, 116]]
  ·rw [if_pos h2]
   rw [decide_eq_true h2] at k2
   simp -implicitDefEqProofs [c123, k1, k2, pI]
  ·rw [if_neg h2]
   rw [decide_eq_false h2] at k2
   simp -implicitDefEqProofs [c123, k1, k2, pI]
theorem pI_lenS (l : List Int) : (pI l).length = l.length := by simp [pI]
theorem pI_dropS (l : List Int) (k : Nat) (hk : k < l.length) : (pI l).drop k = .int .i64 l[k] :: (pI l).drop (k + 1) := by
 rw [List.drop_eq_getElem_cons (by simpa [pI] using hk)]
 simp [pI]
theorem mapped122 {n : Nat} (hn : 1 ≤ n) (l : List Int) (hl : l.length < 1000000) (hx : ∀ x ∈ l, -9223372036854775808 ≤ x ∧ x ≤ 9223372036854775807) : RUN n 122 [isl l, .p (.clo 124 [] [])] = .ret (.own (pStr (l.map itoaS)) l.length 1) := by
 obtain ⟨d, rfl⟩ : ∃ d, n = d + 1 := ⟨n - 1, by omega⟩
 rw [RUN, call_eq fe122 _ rfl]
 let inv : Nat → St := fun i => ⟨[(1, .p (.clo 124 [] [])), (5, .sl 0 i 0 i), (8, isl l), (9, iv l.length), (10, iv i)], [(0, .arr (pStr ((l.map itoaS).take i)) i 1)]⟩
 have htake : (l.map itoaS).take l.length = l.map itoaS := List.take_of_length_le (by simp)
 simp -implicitDefEqProofs [c122]
 rw [loop_run' inv l.length (e := .exit 0) (st' := ⟨(inv l.length).env ++ [(11, .p (.bool false))], (inv l.length).sto⟩) (by simp)]
 ·simp -implicitDefEqProofs [inv, htake]
 ·rfl
 ·intro i hi
  have hlim : i + 1 ≤ lim := by simp only [lim]; omega
  have wi := wrap_succ (i := i) (by omega)
  obtain ⟨a, b⟩ := hx l[i] (List.getElem_mem hi)
  have k := itoa124 (n := d) l[i] a b
  have hr : pStr ((l.map itoaS).take (i + 1)) = pStr ((l.map itoaS).take i) ++ [.str (itoaS l[i])] := by
   rw [List.take_add_one]; simp [hi, pStr]
  have hln : (pStr ((l.map itoaS).take i)).length = i := by simp [pStr]; omega
  have hR := pI_lenS l
  have hdr := pI_dropS l i hi
  clear a b
  simp only [inv, isl]
  generalize hA : pI l = A at *
  generalize pStr ((l.map itoaS).take i) = R' at *
  generalize A.drop (i + 1) = R2 at *
  generalize itoaS l[i] = w at *
  generalize l[i] = v at *
  refine ⟨?_, ?h1, ?h2⟩
  case h1 =>
   simp -implicitDefEqProofs [loopS_eq, c122L0, hi, hR, hdr, k, hlim, hln, wi]
   exact rfl
  case h2 => exact loopS_same rfl (by simp [hr])
 ·simp -implicitDefEqProofs [inv, loopS_eq, c122L0]
 ·simp [loopFuel]; omega
end Fw
end

section
set_option maxHeartbeats 16000000
set_option maxRecDepth 8000
namespace Fw
open Go

structure ActP (x : ActI) : Prop where
 k : x.kind ∈ kindL
 t : 0 ≤ x.tick ∧ x.tick ≤ 100000000
 n : 0 ≤ x.num ∧ x.num ≤ 8
 a : 0 ≤ x.a ∧ x.a ≤ 100000
 b : 0 ≤ x.b ∧ x.b ≤ 100000
 c : 0 ≤ x.c ∧ x.c ≤ 100000
theorem actP_of {h : HallI} (hd : h.doors ≤ 8) {x : ActI} (he : actE h x = 0) : ActP x := by
 unfold actE at he
 split at he
 ·omega
 ·rename_i h0
  split at he
  ·cases he
  ·rename_i h1
   split at he
   ·cases he
   ·rename_i h2
    have h0 : rangeE 0 100000000 x.tick = 0 := by simpa using h0
    unfold rangeE at h0
    have hn : numsE h x.kind ≤ 8 := by
     unfold numsE
     repeat' split
     all_goals omega
    have h3 : (0 ≤ x.a ∧ x.a ≤ 100000) ∧ (0 ≤ x.b ∧ x.b ≤ 100000) ∧ (0 ≤ x.c ∧ x.c ≤ 100000) := by
     split at he
     ·unfold valE at he
      have v1 := firstE_zero.1 he (rangeE 0 100000 x.a) (by simp)
      have v2 := firstE_zero.1 he (rangeE 0 100000 x.b) (by simp)
      have v3 := firstE_zero.1 he (rangeE 0 100000 x.c) (by simp)
      unfold rangeE at v1 v2 v3
      split at v1
      ·cases v1
      ·split at v2
       ·cases v2
       ·split at v3
        ·cases v3
        ·omega
     ·cases hz : zerB x.a x.b x.c with
      | false => rw [hz] at he; cases he
      | true =>
       simp only [zerB, Bool.and_eq_true, beq_iff_eq] at hz
       omega
    split at h0
    ·cases h0
    ·exact ⟨by simpa using h1, by omega, by omega, h3.1, h3.2.1, h3.2.2⟩
theorem kinds3 {k : List UInt8} (h : k ∈ kindL) : k.length ≤ 7 ∧ ((k = kMeasure ∧ doorB k = false ∧ keyB k = false) ∨ (¬ k = kMeasure ∧ k ∈ [kArm, kDisarm, kShoot] ∧ doorB k = false ∧ keyB k = false) ∨ (¬ k = kMeasure ∧ ¬ k ∈ [kArm, kDisarm, kShoot] ∧ (doorB k = true ∨ (doorB k = false ∧ keyB k = true)))) := by
 simp only [kindL, List.mem_cons, List.not_mem_nil, or_false] at h
 rcases h with h | h | h | h | h | h | h | h | h | h <;> subst h <;> decide
def lineA (x : ActI) : List UInt8 := Lib.join (x.kind :: (intA x).map itoaS) [32] ++ [10]
def textA (l : List ActI) : List UInt8 := (l.map lineA).flatten
theorem lineA_m {x : ActI} (h : x.kind = kMeasure) : lineA x = x.kind ++ [32] ++ itoaS x.tick ++ [32] ++ itoaS x.a ++ [32] ++ itoaS x.b ++ [32] ++ itoaS x.c ++ [10] := by
 simp [lineA, intA, h, Lib.join]
theorem lineA_1 {x : ActI} (h : ¬ x.kind = kMeasure) (h2 : x.kind ∈ [kArm, kDisarm, kShoot]) : lineA x = x.kind ++ [32] ++ itoaS x.tick ++ [10] := by
 simp only [lineA, intA, if_neg h, if_pos h2]
 simp [Lib.join]
theorem lineA_2 {x : ActI} (h : ¬ x.kind = kMeasure) (h2 : ¬ x.kind ∈ [kArm, kDisarm, kShoot]) : lineA x = x.kind ++ [32] ++ itoaS x.tick ++ [32] ++ itoaS x.num ++ [10] := by
 simp only [lineA, intA, if_neg h, if_neg h2]
 simp [Lib.join]
abbrev M129 (t m a b c : Int) (k : List UInt8) (S : List UInt8) (i : Nat) : St := ⟨[(1, .ptr 0 0 0), (3, sv S), (4, iv i)], [(0, .arr [.int .i64 t, .str k, .int .i64 m, .int .i64 a, .int .i64 b, .int .i64 c] 0 1)]⟩
def acc129 (S2 S4 S6 S8 : List UInt8) : Nat → List UInt8
 | 0 => S2
 | 1 => S4
 | 2 => S6
 | _ => S8
end Fw
end

section
set_option maxHeartbeats 16000000
set_option maxRecDepth 8000
namespace Fw
open Go

theorem lineA_len {x : ActI} (h : ActP x) : (lineA x).length ≤ 120 := by
 obtain ⟨hl, h3⟩ := kinds3 h.k
 have b1 := itoaS_length x.tick
 have b2 := itoaS_length x.num
 have b3 := itoaS_length x.a
 have b4 := itoaS_length x.b
 have b5 := itoaS_length x.c
 rcases h3 with ⟨q1, q2, q3⟩ | ⟨q1, q2, q3, q4⟩ | ⟨q1, q2, q3⟩
 ·rw [lineA_m q1]
  simp only [List.length_append, List.length_cons, List.length_nil]
  omega
 ·rw [lineA_1 q1 q2]
  simp only [List.length_append, List.length_cons, List.length_nil]
  omega
 ·rw [lineA_2 q1 q2]
  simp only [List.length_append, List.length_cons, List.length_nil]
  omega
theorem textA_len (l : List ActI) (h : ∀ x ∈ l, ActP x) : (textA l).length ≤ 120 * l.length := by
 induction l with
 | nil => simp [textA]
 | cons s r ih =>
  have h1 := lineA_len (h s (by simp))
  have h2 := ih (fun x hx => h x (by simp [hx]))
  simp only [textA, List.map_cons, List.flatten_cons, List.length_append, List.length_cons] at h2 ⊢
  omega
theorem textA_snoc (l : List ActI) (s : ActI) : textA (l ++ [s]) = textA l ++ lineA s := by simp [textA]
theorem textA_take {l : List ActI} {i : Nat} (hi : i < l.length) : textA (l.take (i + 1)) = textA (l.take i) ++ lineA l[i] := by
 rw [show l.take (i + 1) = l.take i ++ [l[i]] from by rw [List.take_add_one, List.getElem?_eq_getElem hi]; rfl, textA_snoc]
def prE (l : List ActI) : Int := if 4096 < (textA l).length then 26 else 0
def prT (l : List ActI) : List UInt8 := if 4096 < (textA l).length then [] else textA l
end Fw
end

section
set_option maxHeartbeats 16000000
set_option maxRecDepth 8000
namespace Fw
open Go

theorem intA_ok {x : ActI} (h : ActP x) : (intA x).length ≤ 4 ∧ ∀ y ∈ intA x, -9223372036854775808 ≤ y ∧ y ≤ 9223372036854775807 := by
 obtain ⟨hk, ht, hn, ha, hb, hc⟩ := h
 unfold intA
 split
 ·refine ⟨by simp, fun y hy => ?_⟩
  simp only [List.mem_cons, List.not_mem_nil, or_false] at hy
  rcases hy with rfl | rfl | rfl | rfl <;> omega
 ·split
  ·refine ⟨by simp, fun y hy => ?_⟩
   simp only [List.mem_cons, List.not_mem_nil, or_false] at hy
   subst hy; omega
  ·refine ⟨by simp, fun y hy => ?_⟩
   simp only [List.mem_cons, List.not_mem_nil, or_false] at hy
   rcases hy with rfl | rfl <;> omega
def P63 (l : List ActI) (i : Nat) : St := ⟨[(9, sv (textA (l.take i))), (22, asl l), (23, iv l.length), (24, iv i)], []⟩
theorem round63 {d : Nat} (l : List ActI) (hl : l.length < 50000) (h : ∀ x ∈ l, ActP x) (i : Nat) (hi : i < l.length) :
  ∃ st1, loopS (evFn F C0 G0 (d + 4)) C0 G0 0 true [9, 22, 23, 24] c63L0 (P63 l i) = .ret (.normal, st1) ∧
   loopS (evFn F C0 G0 (d + 4)) C0 G0 0 true [9, 22, 23, 24] c63L0 st1 = loopS (evFn F C0 G0 (d + 4)) C0 G0 0 true [9, 22, 23, 24] c63L0 (P63 l (i + 1)) := by
 have hR := aR_len l
 have wi := wrap_succ (i := i) (by omega)
 have hlt : i * 6 < l.length * 6 := by omega
 have hdr := rowC_drop ac_len l i hi
 have hx := h _ (List.getElem_mem hi)
 obtain ⟨hi4, hiv⟩ := intA_ok hx
 have k1 := integers123 (n := d + 4) (by omega) l[i]
 have k2 := mapped122 (n := d + 4) (by omega) (intA l[i]) (by omega) hiv
 have hB := lineA_len hx
 have hlB : (lineA l[i]).length = (Lib.join (l[i].kind :: (intA l[i]).map itoaS) [32]).length + 1 := by simp [lineA]
 have hlm : lim ≥ 100000000 := by decide
 have k3 := join121 (n := d + 4) (l[i].kind :: (intA l[i]).map itoaS) [32] (by simp only [List.length_cons, List.length_map]; omega) (by omega)
 have hA0 := textA_len (l.take i) (fun s hs => h s (List.mem_of_mem_take hs))
 have hA1 : (textA (l.take i)).length ≤ 6000000 := by simp only [List.length_take] at hA0; omega
 have q : (textA (l.take i)).length + (lineA l[i]).length ≤ lim := by omega
 have q1 : (Lib.join (l[i].kind :: (intA l[i]).map itoaS) [32]).length + 1 ≤ lim := by omega
 have q2 : (intA l[i]).length + 1 ≤ lim := by omega
 have q3 : 1 + (intA l[i]).length = (intA l[i]).length + 1 := by omega
 have eL : Lib.join (l[i].kind :: (intA l[i]).map itoaS) [32] ++ [10] = lineA l[i] := rfl
 have hpl : (pStr ((intA l[i]).map itoaS)).length = (intA l[i]).length := by simp
 have hz : ¬ (intA l[i]).length = 0 := by
  unfold intA
  repeat' split
  all_goals simp
 have e4 : l[i].kind = kMeasure → (intA l[i]).length = 4 := fun e => by simp [intA, e]
 clear hA0 hA1 hB hlB hi4 hiv hx
 simp only [P63, asl, textA_take hi]
 rw [show pStr (l[i].kind :: (intA l[i]).map itoaS) = .str l[i].kind :: pStr ((intA l[i]).map itoaS) from rfl, List.length_cons, List.length_map] at k3
 generalize rowC ac l = A at *
 generalize rowC ac (l.drop (i + 1)) = R2 at *
 generalize textA (l.take i) = T at *
 generalize lineA l[i] = L at *
 generalize Lib.join (l[i].kind :: (intA l[i]).map itoaS) [32] = J at *
 generalize pStr ((intA l[i]).map itoaS) = PS at *
 simp only [isl] at *
 generalize pI (intA l[i]) = PI at *
 generalize (intA l[i]).length = z at *
 generalize l[i] = x at *
 obtain ⟨t, kk, m, a, b, c⟩ := x
 simp only [ac] at *
 by_cases hm : kk = kMeasure
 ·have e4 := e4 hm
  subst e4
  rw [if_pos hm] at k1
  refine ⟨?_, ?h1, ?h2⟩
  case h1 =>
   simp -implicitDefEqProofs [loopS_eq, c63L0, hi, hR, hlt, hdr, k1, k2, k3, q, q1, q2, q3, eL, hpl, hz, wi]
   exact rfl
  case h2 => exact loopS_same (by simp) (by simp)
 ·rw [if_neg hm] at k1
  refine ⟨?_, ?h1, ?h2⟩
  case h1 =>
   simp -implicitDefEqProofs [loopS_eq, c63L0, hi, hR, hlt, hdr, k1, k2, k3, q, q1, q2, q3, eL, hpl, hz, wi]
   exact rfl
  case h2 => exact loopS_same (by simp) (by simp)
end Fw
end

section
set_option maxHeartbeats 16000000
set_option maxRecDepth 8000
namespace Fw
open Go

theorem acts_P {h : HallI} {l : List ActI} (he : actsE h l = 0) : ∀ x ∈ l, ActP x := by
 obtain ⟨z1, z2, z3⟩ := acts_ok he
 exact fun x hx => actP_of (doors_of z1).2 (z3 x hx)
theorem print63 {n : Nat} (hn : 10 ≤ n) (h : HallI) (q0 : h.t0.length < 1000000) (q1 : h.t1.length < 1000000) (q2 : h.t2.length < 1000000) (l : List ActI) (hl : l.length < 50000) :
  RUN n 63 [ha h, asl l] = .ret (.tup [sv (if chkE h l = 0 then prT l else []), iv (if chkE h l = 0 then prE l else chkE h l)]) := by
 obtain ⟨d, rfl⟩ : ∃ d, n = d + 10 := ⟨n - 10, by omega⟩
 rw [RUN, call_eq fe63 _ rfl]
 have k88 := followed88 (n := d + 9) (by omega) h q0 q1 q2 l hl
 unfold folR at k88
 unfold chkE
 obtain ⟨dr, bs, t0, t1, t2⟩ := h
 by_cases h0 : actsE ⟨dr, bs, t0, t1, t2⟩ l = 0
 ·have hP := acts_P h0
  simp only [h0, ne_eq, not_true, if_false] at k88 ⊢
  have key : loopN (loopS (evFn F C0 G0 (d + 9)) C0 G0 0 true [9, 22, 23, 24] c63L0) loopFuel ⟨(P63 l 0).env, [(0, .box [iv dr, iv bs, csl t0, csl t1, csl t2])]⟩ = .ret (.exit 0, ⟨(P63 l l.length).env ++ [(25, .p (.bool false))], (P63 l l.length).sto⟩) := by
   rw [loop_run' (P63 l) l.length (e := .exit 0) (st' := ⟨(P63 l l.length).env ++ [(25, .p (.bool false))], (P63 l l.length).sto⟩) (by simp)]
   ·exact loopS_same rfl (by simp [P63])
   ·intro i hi
    exact round63 (d := d + 5) l hl hP i hi
   ·simp -implicitDefEqProofs [loopS_eq, c63L0, P63]
   ·simp [loopFuel]; omega
  have htake : l.take l.length = l := List.take_of_length_le (by omega)
  simp only [P63, asl, csl, htake] at key
  simp only [List.take_zero, show textA [] = [] from rfl, Int.natCast_zero] at key
  unfold prT prE
  simp only [ha, asl, csl] at *
  generalize runH ⟨dr, bs, t0, t1, t2⟩ l = RH at *
  generalize textA l = T at *
  generalize rowC ac l = A at *
  generalize cI t0 = B0 at *
  generalize cI t1 = B1 at *
  generalize cI t2 = B2 at *
  cases hr : RH.2 with
  | true =>
   rw [hr] at k88
   simp only [if_true] at k88 ⊢
   simp -implicitDefEqProofs [c63, k88]
   rw [show loopN _ _ _ = _ from key]
   by_cases h4 : 4096 < T.length
   ·have h4' : (4096 : Int) < T.length := by omega
    simp -implicitDefEqProofs [h4, h4']
   ·have h4' : ¬ (4096 : Int) < T.length := by omega
    simp -implicitDefEqProofs [h4, h4']
  | false =>
   rw [hr] at k88
   simp at k88
   simp -implicitDefEqProofs [c63, k88]
 ·simp only [h0, ne_eq, not_false_eq_true, if_true, if_false] at k88 ⊢
  simp only [ha, asl, csl] at *
  generalize actsE ⟨dr, bs, t0, t1, t2⟩ l = e at *
  generalize rowC ac l = A at *
  generalize cI t0 = B0 at *
  generalize cI t1 = B1 at *
  generalize cI t2 = B2 at *
  simp -implicitDefEqProofs [c63, k88, h0]
end Fw
end

section
set_option maxHeartbeats 16000000
set_option maxRecDepth 8000
namespace Fw
open Go

theorem back69 {n : Nat} (hn : 1 ≤ n) (l : List ActI) (hl : l.length < 1000000) : RUN n 69 [asl l] = .ret (.own (rowC ac l) l.length 6) := by
 obtain ⟨d, rfl⟩ : ∃ d, n = d + 1 := ⟨n - 1, by omega⟩
 rw [RUN, call_eq fe69 _ rfl]
 let inv : Nat → St := fun i => ⟨[(3, .sl 0 i 0 i), (6, asl l), (7, iv l.length), (8, iv i)], [(0, .arr (rowC ac (l.take i)) i 6)]⟩
 have hR := aR_len l
 simp -implicitDefEqProofs [c69]
 rw [loop_run' inv l.length (e := .exit 0) (st' := ⟨(inv l.length).env ++ [(9, .p (.bool false))], (inv l.length).sto⟩) (by simp)]
 ·simp -implicitDefEqProofs [inv, hR]
 ·exact loopS_same rfl (by simp [inv])
 ·intro i hi
  have hlim : i + 1 ≤ lim := by simp only [lim]; omega
  have wi := wrap_succ (i := i) (by omega)
  have hti : (l.take i).length = i := by simp; omega
  have hln := aR_len (l.take i)
  rw [hti] at hln
  have hr : rowC ac (l.take (i + 1)) = rowC ac (l.take i) ++ ac l[i] := rowC_take _ _ hi
  have hlt : i * 6 < l.length * 6 := by omega
  have hlt6 : i * 6 + 6 ≤ l.length * 6 := by omega
  have hdr := rowC_drop ac_len l i hi
  simp only [inv]
  generalize hA : rowC ac l = A at *
  generalize rowC ac (l.take i) = R' at *
  generalize rowC ac (l.drop (i + 1)) = R2 at *
  generalize hv : l[i] = v at *
  refine ⟨?_, ?h1, ?h2⟩
  case h1 =>
   simp -implicitDefEqProofs [loopS_eq, c69L0, hi, hA, hR, hlt, hdr, ac, hlim, hln, wi]
   exact rfl
  case h2 => exact loopS_same rfl (by simp [hr, ac])
 ·simp -implicitDefEqProofs [inv, loopS_eq, c69L0]
 ·simp [loopFuel]; omega
theorem same68 {n : Nat} (hn : 1 ≤ n) (l : List ActI) (hl : l.length < 1000000) : RUN n 68 [asl l, asl l] = .ret (.p (.bool true)) := by
 obtain ⟨d, rfl⟩ : ∃ d, n = d + 1 := ⟨n - 1, by omega⟩
 rw [RUN, call_eq fe68 _ rfl]
 let inv : Nat → St := fun i => ⟨[(0, asl l), (1, asl l), (5, iv i)], []⟩
 have hR := aR_len l
 simp -implicitDefEqProofs [c68]
 rw [loop_run' inv l.length (e := .exit 0) (st' := ⟨(inv l.length).env ++ [(14, .p (.bool false))], (inv l.length).sto⟩) (by simp)]
 ·simp -implicitDefEqProofs [inv]
 ·rfl
 ·intro i hi
  have wi := wrap_succ (i := i) (by omega)
  have hlt : i * 6 < l.length * 6 := by omega
  have hlt6 : i * 6 + 6 ≤ l.length * 6 := by omega
  have hdr := rowC_drop ac_len l i hi
  simp only [inv, asl]
  generalize hA : rowC ac l = A at *
  generalize rowC ac (l.drop (i + 1)) = R2 at *
  generalize hv : l[i] = v at *
  refine ⟨?_, ?h1, ?h2⟩
  case h1 =>
   simp -implicitDefEqProofs [loopS_eq, c68L0, hi, hR, hlt, hdr, ac, eqK, keyOk, eqP, wi]
   exact rfl
  case h2 => rfl
 ·simp -implicitDefEqProofs [inv, loopS_eq, c68L0]
 ·simp [loopFuel]; omega
end Fw
end

section
set_option maxHeartbeats 16000000
set_option maxRecDepth 8000
namespace Fw
open Go

abbrev iEnd (x : List UInt8) (v : Int) : Env := [(0, sv x), (4, iv v), (8, .it 0), (9, .tup [.p (.bool false)]), (10, .p (.bool false))]
abbrev rEnd : Env := [(2, iv 0), (3, .p (.bool false))]
theorem integer_loop {d : Nat} (x : List UInt8) (hx : x.length < 1000000) :
  (∃ v j, loopN (loopS (evFn F C0 G0 d) C0 G0 0 false [0, 4, 8] c172L0) loopFuel ⟨[(0, sv x), (4, iv 0), (8, .it 0)], [(0, .siter x 0)]⟩ = .ret (.exit 0, ⟨iEnd x v, [(0, .siter x j)]⟩) ∧ (x.all digB = true ∧ x.length ≤ 9 ∧ v = digV x)) ∨
   (∃ j, loopN (loopS (evFn F C0 G0 d) C0 G0 0 false [0, 4, 8] c172L0) loopFuel ⟨[(0, sv x), (4, iv 0), (8, .it 0)], [(0, .siter x 0)]⟩ = .ret (.ret, ⟨rEnd, [(0, .siter x j)]⟩) ∧ digOk x = false) := by
 by_cases h9 : 9 < x.length
 ·right
  have h9' : (9 : Int) < x.length := by omega
  have hpos : 0 < x.length := by omega
  refine ⟨0 + (Utf8.decode ⟨x.toArray⟩ 0).2, ?_, ?_⟩
  ·refine loopN_end ?_ (by simp) (by simp [loopFuel])
   generalize hdq : Utf8.decode ⟨x.toArray⟩ 0 = dc
   by_cases c1 : (dc.1 : Int) < 48
   ·simp -implicitDefEqProofs [loopS_eq, c172L0, hpos, hdq, c1]
   ·by_cases c2 : (57 : Int) < dc.1
    ·simp -implicitDefEqProofs [loopS_eq, c172L0, hpos, hdq, c1, c2]
    ·simp -implicitDefEqProofs [loopS_eq, c172L0, hpos, hdq, c1, c2, h9']
  ·simp [digOk]; omega
 ·have h9' : ¬ (9 : Int) < x.length := by omega
  have h9 : x.length ≤ 9 := by omega
  let inv : Nat → St := fun i => ⟨[(0, sv x), (4, iv (valW x i)), (8, .it 0)], [(0, .siter x i)]⟩
  have key := loop_first (step := loopS (evFn F C0 G0 d) C0 G0 0 false [0, 4, 8] c172L0) inv (digE x) x.length (.exit 0, ⟨iEnd x (valW x x.length), [(0, .siter x x.length)]⟩) (fun i => (.ret, ⟨rEnd, [(0, .siter x (i + (Utf8.decode ⟨x.toArray⟩ i).2))]⟩))
     (st0 := ⟨[(0, sv x), (4, iv 0), (8, .it 0)], [(0, .siter x 0)]⟩) rfl (fun i hi => by
      have hgi : x.getD i 0 = x[i] := by simp [List.getD_eq_getElem?_getD, List.getElem?_eq_getElem hi]
      refine ⟨fun hz => ⟨inv (i + 1), ?_, rfl⟩, fun hz => ?_⟩
      ·obtain ⟨b1, b2⟩ := digE_zero hi hz
       have hdc := decode_lo x i hi (by omega)
       have c1 : ¬ (x[i].toNat : Int) < 48 := by omega
       have c2 : ¬ (57 : Int) < x[i].toNat := by omega
       have w8 : IntKind.i32.wrap ((x[i].toNat : Int) - 48) = (x[i].toNat : Int) - 48 := by rw [IntKind.wrap_i32]; omega
       have w6 : IntKind.i64.wrap ((x[i].toNat : Int) - 48) = (x[i].toNat : Int) - 48 := wrap64 (by omega) (by omega)
       have hv : valW x (i + 1) = IntKind.i64.wrap (IntKind.i64.wrap (10 * valW x i) + ((x[i].toNat : Int) - 48)) := by simp only [valW, hgi]
       simp -implicitDefEqProofs [inv, loopS_eq, c172L0, hi, hdc, c1, c2, w8, w6, hv, h9']
      ·by_cases ha : x[i].toNat < 128
       ·have hdc := decode_lo x i hi ha
        rcases digE_one hi hz with b | b
        ·have c1 : (x[i].toNat : Int) < 48 := by omega
         simp -implicitDefEqProofs [inv, loopS_eq, c172L0, hi, hdc, c1]
        ·have c1 : ¬ (x[i].toNat : Int) < 48 := by omega
         have c2 : (57 : Int) < x[i].toNat := by omega
         simp -implicitDefEqProofs [inv, loopS_eq, c172L0, hi, hdc, c1, c2]
       ·have hdc := decode_hi x i hi (by omega)
        generalize hdq : Utf8.decode ⟨x.toArray⟩ i = dc at *
        have c1 : ¬ (dc.1 : Int) < 48 := by omega
        have c2 : (57 : Int) < dc.1 := by omega
        simp -implicitDefEqProofs [inv, loopS_eq, c172L0, hi, hdq, c1, c2]) (fun i => by simp) (by simp -implicitDefEqProofs [inv, loopS_eq, c172L0]) (by simp) (fuel := loopFuel) (by simp [loopFuel]; omega)
  rcases key with ⟨k1, k2⟩ | ⟨j, hj, k1, k2, k3, _⟩
  ·have hall := digE_all k2
   have hvw := valW_eq hall h9 x.length (Nat.le_refl _)
   exact .inl ⟨valW x x.length, x.length, k1, hall, h9, hvw⟩
  ·have hall := digE_not hj k3
   exact .inr ⟨_, k1, by simp [digOk, hall]⟩
def Itg (x : List UInt8) (v : Int) : Prop := digOk x = true → v = digV x
theorem integer172 {n : Nat} (hn : 1 ≤ n) (x : List UInt8) (hx : x.length < 1000000) : ∃ v, RUN n 172 [sv x] = .ret (.tup [iv v, .p (.bool (digOk x))]) ∧ Itg x v := by
 obtain ⟨d, rfl⟩ : ∃ d, n = d + 1 := ⟨n - 1, by omega⟩
 rcases integer_loop (d := d) x hx with ⟨v, j, k, h1, h2, h3⟩ | ⟨j, k, h1⟩
 ·refine ⟨v, ?_, fun _ => h3⟩
  rw [RUN, call_eq fe172 _ rfl]
  simp -implicitDefEqProofs [c172]
  rw [show loopN _ _ _ = _ from k]
  by_cases h0 : x = []
  ·subst h0
   simp -implicitDefEqProofs [digOk, strBin]
  ·have hpos : 0 < x.length := List.length_pos_iff.2 h0
   have hb : x.isEmpty = false := by simpa using h0
   have hg0 : x[0]? = some x[0] := List.getElem?_eq_getElem hpos
   have hgd : x[0]?.getD 0 = x[0] := by simp [hg0]
   by_cases hl1 : x.length = 1
   ·have e1 : ((x.length : Int) == 1) = true := by rw [hl1]; rfl
    have ed : digOk x = true := by simp [digOk, h0, h1, hl1, leadB]
    rw [ed]
    simp -implicitDefEqProofs [hb, e1, strBin]
   ·have e1 : ((x.length : Int) == 1) = false := by rw [beq_eq_false_iff_ne]; omega
    by_cases h48 : x[0] = 48
    ·have ed : digOk x = false := by simp [digOk, leadB, hl1, hgd, h48]
     have e2 : (x[0].toNat : Int) = 48 := by rw [h48]; rfl
     rw [ed]
     simp -implicitDefEqProofs [hb, e1, hpos, strBin]
     exact e2
    ·have e2 : ((x[0].toNat : Int) == 48) = false := by
      rw [beq_eq_false_iff_ne]
      intro e
      apply h48
      apply UInt8.toNat_inj.1
      have : x[0].toNat = 48 := by omega
      simpa using this
     have ed : digOk x = true := by simp [digOk, leadB, h0, h1, h2, hl1, hgd, h48]
     rw [ed]
     simp -implicitDefEqProofs [hb, e1, hpos, strBin]
     simpa using e2
 ·refine ⟨0, ?_, fun h => by rw [h1] at h; cases h⟩
  rw [RUN, call_eq fe172 _ rfl]
  simp -implicitDefEqProofs [c172]
  rw [show loopN _ _ _ = _ from k, h1]
  simp
end Fw
end

section
set_option maxHeartbeats 16000000
set_option maxRecDepth 8000
namespace Fw
open Go

abbrev tkA (ws : List (List UInt8)) (w : Bool) : Obj := .box [.p (.sl (pStr ws) ws.length), .p (.bool w)]
def wordA (ws : List (List UInt8)) (w : Bool) : List UInt8 × List (List UInt8) × Bool := match ws with
 | [] => ([], [], true)
 | x :: r => (x, r, w)
theorem word158 {d : Nat} (ws : List (List UInt8)) (w : Bool) (k : Nat) (Z R : Sto) (hZ : ∀ o, get (Z ++ (k, o) :: R) k = some o) (hP : ∀ o o', put (Z ++ (k, o) :: R) k o' = Z ++ (k, o') :: R) :
  evFn F C0 G0 (d + 1) (.fn 158) [.ptr k 0 0] (Z ++ (k, tkA ws w) :: R) = .ret (sv (wordA ws w).1, Z ++ (k, tkA (wordA ws w).2.1 (wordA ws w).2.2) :: R) := by
 rw [evFn_fn fe158]
 match ws with
 | [] => simp -implicitDefEqProofs [c158, hZ, hP, wordA]
 | x :: r =>
  have hp : pStr (x :: r) = .str x :: pStr r := rfl
  have b1 : ((r.length : Int) + 1 == 0) = false := by rw [beq_eq_false_iff_ne]; omega
  have b2 : (1 : Int) ≤ (r.length : Int) + 1 := by omega
  have htl : (pStr r).take r.length = pStr r := List.take_of_length_le (by simp)
  simp -implicitDefEqProofs [c158, hZ, hP, wordA, hp, b1, b2, htl]
def numA (ws : List (List UInt8)) (w : Bool) : List (List UInt8) × Bool := ((wordA ws w).2.1, (wordA ws w).2.2 || !digOk (wordA ws w).1)
theorem number157 {d : Nat} (ws : List (List UInt8)) (w : Bool) (hT : ∀ x ∈ ws, x.length < 1000000) (X Y : Obj) :
  ∃ v, evFn F C0 G0 (d + 2) (.fn 157) [.ptr 1 0 0] [(2, X), (1, tkA ws w), (0, Y)] = .ret (iv v, [(2, X), (1, tkA (numA ws w).1 (numA ws w).2), (0, Y)]) ∧ Itg (wordA ws w).1 v := by
 have h1 := word158 (d := d) ws w 1 [(2, X)] [(0, Y)] (by simp) (by simp)
 simp only [List.cons_append, List.nil_append] at h1
 have hx : (wordA ws w).1.length < 1000000 := by
  cases ws with
  | nil => simp [wordA]
  | cons x r => exact hT x (by simp)
 obtain ⟨v, k2, hv⟩ := integer172 (n := d + 1) (by omega) (wordA ws w).1 hx
 refine ⟨v, ?_, hv⟩
 rw [evFn_fn fe157]
 unfold numA
 generalize wordA ws w = K at *
 obtain ⟨x, ws', w'⟩ := K
 simp only at *
 generalize digOk x = dx at *
 have hg : ∀ (a : AVal), refs a = [] → gc 3 [(0, a)] [(2, X), (1, tkA ws' w'), (0, Y)] = [(2, X), (1, tkA ws' w'), (0, Y)] := fun a _ => gc_all (by simp)
 have hg0 : ∀ E, gc 3 E [(2, X), (1, tkA ws' w'), (0, Y)] = [(2, X), (1, tkA ws' w'), (0, Y)] := fun E => gc_all (by simp)
 have hg1 : ∀ E b, gc 3 E [(2, X), (1, tkA ws' b), (0, Y)] = [(2, X), (1, tkA ws' b), (0, Y)] := fun E b => gc_all (by simp)
 cases w' with
 | true =>
  simp -implicitDefEqProofs [c157, h1, k2, hg0, -gc]
 | false =>
  cases dx <;> simp -implicitDefEqProofs [c157, h1, k2, hg0, -gc]
end Fw
end

section
set_option maxHeartbeats 16000000
set_option maxRecDepth 8000
namespace Fw
open Go

def wordsA : List (List UInt8) → Option ActI
 | [k, t] => if k ∈ [kArm, kDisarm, kShoot] ∧ digOk t = true then some ⟨digV t, k, 0, 0, 0, 0⟩ else none
 | [k, t, m] => if k ∈ kindL ∧ ¬ k = kMeasure ∧ ¬ k ∈ [kArm, kDisarm, kShoot] ∧ digOk t = true ∧ digOk m = true then some ⟨digV t, k, digV m, 0, 0, 0⟩ else none
 | [k, t, a, b, c] => if k = kMeasure ∧ digOk t = true ∧ digOk a = true ∧ digOk b = true ∧ digOk c = true then some ⟨digV t, k, 0, digV a, digV b, digV c⟩ else none
 | _ => none
def actW (w : List UInt8) : Option ActI := wordsA (splitS 32 w)
def leftA (ws : List (List UInt8)) : List (List UInt8) × Bool :=
 let k := (wordA ws false).1
 let p := numA (wordA ws false).2.1 (wordA ws false).2.2
 if k = kMeasure then numA (numA (numA p.1 p.2).1 (numA p.1 p.2).2).1 (numA (numA p.1 p.2).1 (numA p.1 p.2).2).2
 else if k ∈ [kArm, kDisarm, kShoot] then p else numA p.1 p.2
theorem numA_cons {x : List UInt8} {r : List (List UInt8)} (h : digOk x = true) : numA (x :: r) false = (r, false) := by simp [numA, wordA, h]
theorem wordsA_isSome (ws : List (List UInt8)) : (wordsA ws).isSome = (decide ((wordA ws false).1 ∈ kindL) && (!(leftA ws).2 && decide ((leftA ws).1 = []))) := by
 have m1 : kMeasure ∈ kindL := by decide
 have m2 : ¬ kMeasure ∈ [kArm, kDisarm, kShoot] := by decide
 have m3 : ¬ ([] : List UInt8) ∈ kindL := by decide
 have m4 : ∀ k, k ∈ [kArm, kDisarm, kShoot] → k ∈ kindL := by
  intro k h
  simp only [List.mem_cons, List.not_mem_nil, or_false] at h
  rcases h with h | h | h <;> subst h <;> decide
 rcases ws with _ | ⟨k, _ | ⟨t, _ | ⟨a, _ | ⟨b, _ | ⟨c, _ | ⟨e, r⟩⟩⟩⟩⟩⟩
 ·simp only [wordsA, wordA]; rfl
 all_goals
  by_cases hm : k = kMeasure
  ·subst hm
   simp only [wordsA, leftA, numA, wordA, m1, m2, if_true, if_false, decide_true, Bool.true_and, Bool.false_or, not_true, true_and, false_and, and_false]
   try (cases digOk t)
   all_goals first | (simp; done) | (cases digOk a <;> cases digOk b <;> cases digOk c <;> simp)
  ·by_cases ha : k ∈ [kArm, kDisarm, kShoot]
   ·have hk := m4 k ha
    simp only [wordsA, leftA, numA, wordA, hm, ha, hk, if_true, if_false, decide_true, Bool.true_and, Bool.false_or, not_true, true_and, false_and, and_false]
    try (cases digOk t)
    all_goals simp
   ·by_cases hk : k ∈ kindL
    ·simp only [wordsA, leftA, numA, wordA, hm, ha, hk, if_false, decide_true, Bool.true_and, Bool.false_or, not_false_eq_true, true_and, false_and]
     try (cases digOk t)
     all_goals first | (simp; done) | (cases digOk a <;> simp)
    ·simp only [wordsA, leftA, numA, wordA, hm, ha, hk, if_false, decide_false, Bool.false_and, false_and]
     all_goals simp
end Fw
end

section
set_option maxHeartbeats 16000000
set_option maxRecDepth 8000
namespace Fw
open Go

theorem hidT4a : hidT 4 = [2] := by decide
abbrev vsK : List PVal := [.int .i64 0, .int .i64 1, .int .i64 2, .int .i64 3, .int .i64 4, .int .i64 5, .int .i64 6, .int .i64 7, .int .i64 8, .int .i64 9]
theorem find_kind (k : List UInt8) : (∃ v, mapFind (.str k) (pStr kindL) vsK = some (some v) ∧ decide (k ∈ kindL) = true) ∨ (mapFind (.str k) (pStr kindL) vsK = some none ∧ decide (k ∈ kindL) = false) := by
 by_cases h : k ∈ kindL
 ·left
  have h' := h
  simp only [kindL, List.mem_cons, List.not_mem_nil, or_false] at h
  rcases h with h | h | h | h | h | h | h | h | h | h <;> subst h <;> exact ⟨_, rfl, rfl⟩
 ·exact .inr ⟨find_no k vsK kindL rfl h, decide_eq_false h⟩
theorem wordsA_arm {k : List UInt8} {r : List (List UInt8)} {y : ActI} (ha : k ∈ [kArm, kDisarm, kShoot]) (h : wordsA (k :: r) = some y) : ∃ t, r = [t] ∧ digOk t = true ∧ y = ⟨digV t, k, 0, 0, 0, 0⟩ := by
 have hm : ¬ k = kMeasure := fun e => by subst e; exact absurd ha (by decide)
 rcases r with _ | ⟨t, _ | ⟨a, _ | ⟨b, _ | ⟨c, _ | ⟨e, r⟩⟩⟩⟩⟩
 ·cases h
 ·simp only [wordsA, ha, true_and] at h
  split at h
  ·rename_i ht; exact ⟨t, rfl, ht, (Option.some.inj h).symm⟩
  ·cases h
 ·simp only [wordsA, ha, not_true, false_and, and_false, if_false] at h; cases h
 ·cases h
 ·simp only [wordsA, hm, false_and, if_false] at h; cases h
 ·cases h
theorem wordsA_two {k : List UInt8} {r : List (List UInt8)} {y : ActI} (hm : ¬ k = kMeasure) (ha : ¬ k ∈ [kArm, kDisarm, kShoot]) (h : wordsA (k :: r) = some y) : ∃ t m, r = [t, m] ∧ digOk t = true ∧ digOk m = true ∧ y = ⟨digV t, k, digV m, 0, 0, 0⟩ := by
 rcases r with _ | ⟨t, _ | ⟨a, _ | ⟨b, _ | ⟨c, _ | ⟨e, r⟩⟩⟩⟩⟩
 ·cases h
 ·simp only [wordsA, ha, false_and, if_false] at h; cases h
 ·simp only [wordsA] at h
  split at h
  ·rename_i ht; exact ⟨t, a, rfl, ht.2.2.2.1, ht.2.2.2.2, (Option.some.inj h).symm⟩
  ·cases h
 ·cases h
 ·simp only [wordsA, hm, false_and, if_false] at h; cases h
 ·cases h
theorem wordsA_five {r : List (List UInt8)} {y : ActI} (h : wordsA (kMeasure :: r) = some y) : ∃ t a b c, r = [t, a, b, c] ∧ digOk t = true ∧ digOk a = true ∧ digOk b = true ∧ digOk c = true ∧ y = ⟨digV t, kMeasure, 0, digV a, digV b, digV c⟩ := by
 have h3 : ¬ kMeasure ∈ [kArm, kDisarm, kShoot] := by decide
 rcases r with _ | ⟨t, _ | ⟨a, _ | ⟨b, _ | ⟨c, _ | ⟨e, r⟩⟩⟩⟩⟩
 ·cases h
 ·simp only [wordsA, h3, false_and, if_false] at h; cases h
 ·simp only [wordsA, not_true, false_and, and_false, if_false] at h; cases h
 ·cases h
 ·simp only [wordsA, true_and] at h
  split at h
  ·rename_i ht; exact ⟨t, a, b, c, rfl, ht.1, ht.2.1, ht.2.2.1, ht.2.2.2, (Option.some.inj h).symm⟩
  ·cases h
 ·cases h
abbrev mE (i : Int) : Env := [(2, .ptr 0 0 0), (4, .ptr 1 0 0), (5, .clo 157 [.ptr 1 0 0] []), (6, .ptr 2 0 0), (26, iv i)]
abbrev mX (v : Int) (k : List UInt8) (a b c : Int) : Obj := .arr [.int .i64 v, .str k, .int .i64 0, .int .i64 a, .int .i64 b, .int .i64 c] 0 1
abbrev mZ : Obj := .arr [.int .i64 0, .str [], .int .i64 0, .int .i64 0, .int .i64 0, .int .i64 0] 0 1
theorem numA_hT {ws : List (List UInt8)} {w : Bool} (h : ∀ x ∈ ws, x.length < 1000000) : ∀ x ∈ (numA ws w).1, x.length < 1000000 := by
 cases ws with
 | nil => simp [numA, wordA]
 | cons x r => exact fun y hy => h y (by simp [numA, wordA] at hy; simp [hy])
theorem measure_loop {d : Nat} (v : Int) (k : List UInt8) (ws : List (List UInt8)) (w : Bool) (hT : ∀ x ∈ ws, x.length < 1000000) :
  ∃ a b c, loopN (loopS (evFn F C0 G0 (d + 2)) C0 G0 0 true [2, 4, 5, 6, 26] c127L0) loopFuel ⟨mE 0, [(2, mX v k 0 0 0), (1, tkA ws w), (0, mZ)]⟩ =
   .ret (.exit 1, ⟨[(2, .ptr 0 0 0), (4, .ptr 1 0 0), (5, .clo 157 [.ptr 1 0 0] []), (6, .ptr 2 0 0), (26, iv 3), (27, .p (.bool false))], [(2, mX v k a b c), (1, tkA (numA (numA (numA ws w).1 (numA ws w).2).1 (numA (numA ws w).1 (numA ws w).2).2).1 (numA (numA (numA ws w).1 (numA ws w).2).1 (numA (numA ws w).1 (numA ws w).2).2).2), (0, mZ)]⟩) ∧
   Itg (wordA ws w).1 a ∧ Itg (wordA (numA ws w).1 (numA ws w).2).1 b ∧ Itg (wordA (numA (numA ws w).1 (numA ws w).2).1 (numA (numA ws w).1 (numA ws w).2).2).1 c := by
 have hT2 := numA_hT (w := w) hT
 obtain ⟨a, ka, ia⟩ := number157 (d := d) ws w hT (mX v k 0 0 0) mZ
 generalize hN1 : numA ws w = N1 at *
 obtain ⟨ws1, w1⟩ := N1
 simp only at *
 have hT3 := numA_hT (w := w1) hT2
 obtain ⟨b, kb, ib⟩ := number157 (d := d) ws1 w1 hT2 (mX v k a 0 0) mZ
 generalize hN2 : numA ws1 w1 = N2 at *
 obtain ⟨ws2, w2⟩ := N2
 simp only at *
 obtain ⟨c, kc, ic⟩ := number157 (d := d) ws2 w2 hT3 (mX v k a b 0) mZ
 generalize hN3 : numA ws2 w2 = N3 at *
 obtain ⟨ws3, w3⟩ := N3
 simp only at *
 refine ⟨a, b, c, ?_, ia, ib, ic⟩
 rw [loopN_on' (st2 := ⟨mE 1, [(2, mX v k a 0 0), (1, tkA ws1 w1), (0, mZ)]⟩) ?h1 (by simp [loopFuel]), loopN_on' (st2 := ⟨mE 2, [(2, mX v k a b 0), (1, tkA ws2 w2), (0, mZ)]⟩) ?h2 (by simp [loopFuel]), loopN_on' (st2 := ⟨mE 3, [(2, mX v k a b c), (1, tkA ws3 w3), (0, mZ)]⟩) ?h3 (by simp [loopFuel]), loopN_end (e := .exit 1) ?h4 (by simp) (by simp [loopFuel])]
 case h1 =>
  refine ⟨?_, ?g1, ?g2⟩
  case g1 =>
   simp -implicitDefEqProofs [loopS_eq, c127L0, ka]
   exact rfl
  case g2 => exact loopS_same rfl (by simp)
 case h2 =>
  refine ⟨?_, ?g1, ?g2⟩
  case g1 =>
   simp -implicitDefEqProofs [loopS_eq, c127L0, kb]
   exact rfl
  case g2 => exact loopS_same rfl (by simp)
 case h3 =>
  refine ⟨?_, ?g1, ?g2⟩
  case g1 =>
   simp -implicitDefEqProofs [loopS_eq, c127L0, kc]
   exact rfl
  case g2 => exact loopS_same rfl (by simp)
 case h4 =>
  simp -implicitDefEqProofs [loopS_eq, c127L0]
theorem act127 {n : Nat} (hn : 6 ≤ n) (w : List UInt8) (hw : w.length < 1000000) (hs : ∀ x ∈ splitS 32 w, x.length < 1000000) : ∃ x, RUN n 127 [sv w] = .ret (.tup [aa x, .p (.bool (actW w).isSome)]) ∧ ∀ y, actW w = some y → x = y := by
 obtain ⟨d, rfl⟩ : ∃ d, n = d + 6 := ⟨n - 6, by omega⟩
 rw [RUN, call_eq fe127 _ rfl]
 have k1 := split156 (n := d + 5) (by omega) w 32 hw
 unfold actW
 generalize splitS 32 w = ws at *
 have k2 := word158 (d := d + 4) ws false 1 [] [(0, .arr [.int .i64 0, .str [], .int .i64 0, .int .i64 0, .int .i64 0, .int .i64 0] 0 1)] (by simp) (by simp)
 simp only [List.nil_append] at k2
 have hT : ∀ x ∈ (wordA ws false).2.1, x.length < 1000000 := by
  cases ws with
  | nil => simp [wordA]
  | cons x r => exact fun y hy => hs y (by simp [wordA] at hy; simp [hy])
 generalize hK : wordA ws false = K at *
 obtain ⟨k, ws1, w1⟩ := K
 simp only at k2 hT
 obtain ⟨v1, k3, hv1⟩ := number157 (d := d + 3) ws1 w1 hT (.arr [.int .i64 0, .str k, .int .i64 0, .int .i64 0, .int .i64 0, .int .i64 0] 0 1) (.arr [.int .i64 0, .str [], .int .i64 0, .int .i64 0, .int .i64 0, .int .i64 0] 0 1)
 have i1 : RUN (d + 5) 93 [aa ⟨v1, k, 0, 0, 0, 0⟩, .p (.sl [.str kMeasure] 1)] = .ret (bl (decide (k ∈ [kMeasure]))) := is93 (by omega) ⟨v1, k, 0, 0, 0, 0⟩ [kMeasure] (by simp)
 have i2 : RUN (d + 5) 93 [aa ⟨v1, k, 0, 0, 0, 0⟩, .p (.sl [.str kArm, .str kDisarm, .str kShoot] 3)] = .ret (bl (decide (k ∈ [kArm, kDisarm, kShoot]))) := is93 (by omega) ⟨v1, k, 0, 0, 0, 0⟩ [kArm, kDisarm, kShoot] (by simp)
 simp only [List.mem_singleton] at i1
 have e1 : kMeasure = [109, 101, 97, 115, 117, 114, 101] := rfl
 have e2 : kArm = [97, 114, 109] := rfl
 have e3 : kDisarm = [100, 105, 115, 97, 114, 109] := rfl
 have e4 : kShoot = [115, 104, 111, 111, 116] := rfl
 have kb := byWord136 (n := d + 5) (by omega)
 rw [e1] at i1
 rw [e2, e3, e4] at i2
 by_cases hm : k = [109, 101, 97, 115, 117, 114, 101]
 ·rw [decide_eq_true hm] at i1
  have hm' : k = kMeasure := hm
  have hT2 := numA_hT (w := w1) hT
  generalize hN : numA ws1 w1 = N1 at *
  obtain ⟨ws2, w2⟩ := N1
  simp only at k3 hT2
  obtain ⟨a, b, c, kl, ja, jb, jc⟩ := measure_loop (d := d + 3) v1 k ws2 w2 hT2
  have hL : leftA ws = numA (numA (numA ws2 w2).1 (numA ws2 w2).2).1 (numA (numA ws2 w2).1 (numA ws2 w2).2).2 := by
   unfold leftA
   rw [hK]
   simp only
   rw [if_pos hm', hN]
  have hW := wordsA_isSome ws
  rw [hL, hK] at hW
  simp only at hW
  have hV : ∀ y, wordsA ws = some y → ⟨v1, k, 0, a, b, c⟩ = y := fun y hy => by
   cases ws with
   | nil => cases hy
   | cons q r =>
    simp only [wordA, Prod.mk.injEq] at hK
    obtain ⟨rfl, rfl, rfl⟩ := hK
    subst hm'
    obtain ⟨t, p1, p2, p3, rfl, ht, h1, h2, h3, rfl⟩ := wordsA_five hy
    rw [numA_cons ht] at hN
    simp only [Prod.mk.injEq] at hN
    obtain ⟨rfl, rfl⟩ := hN
    rw [numA_cons h1] at jb jc
    simp only at jb jc
    rw [numA_cons h2] at jc
    simp only [wordA] at ja jb jc
    rw [show v1 = digV t from hv1 ht, show a = digV p1 from ja h1, show b = digV p2 from jb h2, show c = digV p3 from jc h3]
  generalize numA (numA (numA ws2 w2).1 (numA ws2 w2).2).1 (numA (numA ws2 w2).1 (numA ws2 w2).2).2 = N4 at *
  obtain ⟨ws3, w3⟩ := N4
  simp only at kl hW
  have goal : ∀ x : ActI, x = ⟨v1, k, 0, a, b, c⟩ → ∀ y, wordsA ws = some y → x = y := fun x e y hy => by rw [e]; exact hV y hy
  rcases find_kind k with ⟨v, f1, f2⟩ | ⟨f1, f2⟩
  ·rw [f2] at hW
   cases w3 with
   | true =>
    simp only [Bool.not_true, Bool.false_and, Bool.and_false, Option.isSome_eq_false_iff, Option.isNone_iff_eq_none] at hW
    simp -implicitDefEqProofs [c127, k1, k2, k3, kl, i1, kb, f1, stOp, plain]
    exact ⟨⟨v1, k, 0, a, b, c⟩, ⟨⟨rfl, rfl, rfl, rfl, rfl, rfl⟩, hW⟩, goal _ rfl⟩
   | false =>
    simp -implicitDefEqProofs [c127, k1, k2, k3, kl, i1, kb, f1, hide, hidI, hidT4a, stOp, plain]
    refine ⟨⟨v1, k, 0, a, b, c⟩, ⟨⟨rfl, rfl, rfl, rfl, rfl, rfl⟩, ?_⟩, goal _ rfl⟩
    rw [hW]
    cases ws3 with
    | nil => rfl
    | cons p r => simp; omega
  ·rw [f2] at hW
   simp only [Bool.false_and, Option.isSome_eq_false_iff, Option.isNone_iff_eq_none] at hW
   simp -implicitDefEqProofs [c127, k1, k2, k3, kl, i1, kb, f1, stOp, plain]
   exact ⟨⟨v1, k, 0, a, b, c⟩, ⟨⟨rfl, rfl, rfl, rfl, rfl, rfl⟩, hW⟩, goal _ rfl⟩
 ·rw [decide_eq_false hm] at i1
  by_cases ha : k ∈ [[97, 114, 109], [100, 105, 115, 97, 114, 109], [115, 104, 111, 111, 116]]
  ·rw [decide_eq_true ha] at i2
   generalize hN : numA ws1 w1 = N1 at *
   obtain ⟨ws2, w2⟩ := N1
   simp only at k3
   have ha' : k ∈ [kArm, kDisarm, kShoot] := ha
   have hW := wordsA_isSome ws
   have hL : leftA ws = (ws2, w2) := by
    unfold leftA
    rw [hK]
    simp only
    rw [if_neg hm, if_pos ha', hN]
   rw [hL, hK] at hW
   simp only at hW
   have hV : ∀ y, wordsA ws = some y → ⟨v1, k, 0, 0, 0, 0⟩ = y := fun y hy => by
    cases ws with
    | nil => cases hy
    | cons q r =>
     simp only [wordA, Prod.mk.injEq] at hK
     obtain ⟨rfl, rfl, rfl⟩ := hK
     obtain ⟨t, rfl, ht, rfl⟩ := wordsA_arm ha' hy
     rw [show v1 = digV t from hv1 ht]
   have goal : ∀ x : ActI, x = ⟨v1, k, 0, 0, 0, 0⟩ → ∀ y, wordsA ws = some y → x = y := fun x e y hy => by rw [e]; exact hV y hy
   rcases find_kind k with ⟨v, f1, f2⟩ | ⟨f1, f2⟩
   ·rw [f2] at hW
    cases w2 with
    | true =>
     simp only [Bool.not_true, Bool.false_and, Bool.and_false, Option.isSome_eq_false_iff, Option.isNone_iff_eq_none] at hW
     simp -implicitDefEqProofs [c127, k1, k2, k3, i1, i2, kb, f1, stOp, plain]
     exact ⟨⟨v1, k, 0, 0, 0, 0⟩, ⟨⟨rfl, rfl, rfl, rfl, rfl, rfl⟩, hW⟩, goal _ rfl⟩
    | false =>
     simp -implicitDefEqProofs [c127, k1, k2, k3, i1, i2, kb, f1, hide, hidI, hidT4a, stOp, plain]
     refine ⟨⟨v1, k, 0, 0, 0, 0⟩, ⟨⟨rfl, rfl, rfl, rfl, rfl, rfl⟩, ?_⟩, goal _ rfl⟩
     rw [hW]
     cases ws2 with
     | nil => rfl
     | cons p r => simp; omega
   ·rw [f2] at hW
    simp only [Bool.false_and, Option.isSome_eq_false_iff, Option.isNone_iff_eq_none] at hW
    simp -implicitDefEqProofs [c127, k1, k2, k3, i1, i2, kb, f1, stOp, plain]
    exact ⟨⟨v1, k, 0, 0, 0, 0⟩, ⟨⟨rfl, rfl, rfl, rfl, rfl, rfl⟩, hW⟩, goal _ rfl⟩
  ·rw [decide_eq_false ha] at i2
   have hT2 : ∀ x ∈ (numA ws1 w1).1, x.length < 1000000 := by
    cases ws1 with
    | nil => simp [numA, wordA]
    | cons x r => exact fun y hy => hT y (by simp [numA, wordA] at hy; simp [hy])
   generalize hN : numA ws1 w1 = N1 at *
   obtain ⟨ws2, w2⟩ := N1
   simp only at k3
   have ha' : ¬ k ∈ [kArm, kDisarm, kShoot] := ha
   obtain ⟨v2, k4, hv2⟩ := number157 (d := d + 3) ws2 w2 hT2 (.arr [.int .i64 v1, .str k, .int .i64 0, .int .i64 0, .int .i64 0, .int .i64 0] 0 1) (.arr [.int .i64 0, .str [], .int .i64 0, .int .i64 0, .int .i64 0, .int .i64 0] 0 1)
   generalize hM : numA ws2 w2 = N2 at *
   obtain ⟨ws3, w3⟩ := N2
   simp only at k4
   have hW := wordsA_isSome ws
   have hL : leftA ws = (ws3, w3) := by
    unfold leftA
    rw [hK]
    simp only
    rw [if_neg hm, if_neg ha', hN]
    exact hM
   rw [hL, hK] at hW
   simp only at hW
   have hV : ∀ y, wordsA ws = some y → ⟨v1, k, v2, 0, 0, 0⟩ = y := fun y hy => by
    cases ws with
    | nil => cases hy
    | cons q r =>
     simp only [wordA, Prod.mk.injEq] at hK
     obtain ⟨rfl, rfl, rfl⟩ := hK
     obtain ⟨t, m, rfl, ht, hq, rfl⟩ := wordsA_two hm ha' hy
     rw [numA_cons ht] at hN
     simp only [Prod.mk.injEq] at hN
     obtain ⟨rfl, rfl⟩ := hN
     rw [show v1 = digV t from hv1 ht, show v2 = digV m from hv2 hq]
   have goal : ∀ x : ActI, x = ⟨v1, k, v2, 0, 0, 0⟩ → ∀ y, wordsA ws = some y → x = y := fun x e y hy => by rw [e]; exact hV y hy
   rcases find_kind k with ⟨v, f1, f2⟩ | ⟨f1, f2⟩
   ·rw [f2] at hW
    cases w3 with
    | true =>
     simp only [Bool.not_true, Bool.false_and, Bool.and_false, Option.isSome_eq_false_iff, Option.isNone_iff_eq_none] at hW
     simp -implicitDefEqProofs [c127, k1, k2, k3, k4, i1, i2, kb, f1, stOp, plain]
     exact ⟨⟨v1, k, v2, 0, 0, 0⟩, ⟨⟨rfl, rfl, rfl, rfl, rfl, rfl⟩, hW⟩, goal _ rfl⟩
    | false =>
     simp -implicitDefEqProofs [c127, k1, k2, k3, k4, i1, i2, kb, f1, hide, hidI, hidT4a, stOp, plain]
     refine ⟨⟨v1, k, v2, 0, 0, 0⟩, ⟨⟨rfl, rfl, rfl, rfl, rfl, rfl⟩, ?_⟩, goal _ rfl⟩
     rw [hW]
     cases ws3 with
     | nil => rfl
     | cons p r => simp; omega
   ·rw [f2] at hW
    simp only [Bool.false_and, Option.isSome_eq_false_iff, Option.isNone_iff_eq_none] at hW
    simp -implicitDefEqProofs [c127, k1, k2, k3, k4, i1, i2, kb, f1, stOp, plain]
    exact ⟨⟨v1, k, v2, 0, 0, 0⟩, ⟨⟨rfl, rfl, rfl, rfl, rfl, rfl⟩, hW⟩, goal _ rfl⟩
end Fw
end

section
set_option maxHeartbeats 16000000
set_option maxRecDepth 8000
namespace Fw
open Go

def pLoop (j : Option ACode) (e : Nat) : Obj := .loop [(2, .ptr 0 0 0), (4, .ptr 1 0 0), (5, .ptr 2 0 0), (6, .ptr 3 0 0), (8, .ptr 5 0 0), (30, .clo 153 [] [.ptr 6 0 0])] [31] c64A0 c64B0 j e
theorem refs_pLoop (j : Option ACode) (e : Nat) : refsO (pLoop j e) = [0, 1, 2, 3, 5, 6] := by simp [pLoop]
theorem pLoop_fold (j : Option ACode) (e : Nat) : Obj.loop [(2, .ptr 0 0 0), (4, .ptr 1 0 0), (5, .ptr 2 0 0), (6, .ptr 3 0 0), (8, .ptr 5 0 0), (30, .clo 153 [] [.ptr 6 0 0])] [31] c64A0 c64B0 j e = pLoop j e := rfl
def hc (h : HallI) : List AVal := [iv h.doors, iv h.base, csl h.t0, csl h.t1, csl h.t2]
def pS0 (H : HallI) (out : List ActI) (n : Nat) (rest : List UInt8) : Sto := [(6, .arr [.str rest] 0 1), (5, .box [.sl 4 n 0 n]), (4, .arr (rowC ac out) n 6), (3, .arr [.int .i64 0] 0 1), (2, .arr [.int .i64 0] 0 1), (1, .box [.p .nils]), (0, .box (hc H))]
def pS9 (H : HallI) (out : List ActI) (n : Nat) (rest : List UInt8) : Sto := [(6, .arr [.str rest] 0 1), (5, .box [.sl 4 n 0 n]), (4, .arr (rowC ac out) n 6), (3, .arr [.int .i64 25] 0 1), (2, .arr [.int .i64 n] 0 1), (1, .box [.p .nils]), (0, .box (hc H))]

theorem hidT16 : hidT 16 = [4] := by decide
theorem hidT48 : hidT 48 = [4, 5] := by decide
theorem yldB_ret {call : CallF} {C : Nat → List AVal → Option (T AVal)} {G : Nat → Option (List PVal)} {id : Nat} {st : St} {e3 : Env} {p3 : List Nat} {a3 b3 : ACode} {j : Option ACode} {n : Nat} (h : get st.sto id = some (.loop e3 p3 a3 b3 j n)) : yldB call C G id (.ret, st) = .ret (.p (.bool false), put st.sto id (.loop e3 p3 a3 b3 (some .ret) 2)) := by
 unfold yldB
 simp [jumpOf, h]
theorem splitS_small (c : UInt8) : ∀ l : List UInt8, ∀ x ∈ splitS c l, x.length ≤ l.length := by
 intro l
 induction l with
 | nil => intro x hx; simp [splitS] at hx; subst hx; simp
 | cons b r ih =>
  intro x hx
  simp only [splitS] at hx
  split at hx
  ·rcases List.mem_cons.1 hx with e | e
   ·subst e; simp
   ·have := ih x e; simp; omega
  ·split at hx
   ·simp at hx; subst hx; simp
   ·rename_i w q e
    rcases List.mem_cons.1 hx with e2 | e2
    ·subst e2
     have := ih w (by rw [e]; simp)
     simp; omega
    ·have := ih x (by rw [e]; simp [e2])
     simp; omega

theorem yield_ok {d : Nat} (H : HallI) (line rest : List UInt8) (out : List ActI) (hl : line.length < 100000) (hn : out.length < 100000) (h : line.drop (line.length - 1) = [10]) (x : ActI) (hx : actW (line.take (line.length - 1)) = some x) :
  evFn F C0 G0 (d + 10) (.yld 7) [sv line] ((7, pLoop none 0) :: pS0 H out out.length rest) = .ret (.p (.bool true), [(8, .arr (ac x) 0 1), (7, pLoop none 0)] ++ pS0 H (out ++ [x]) (out.length + 1) rest) := by
 rw [evFn_yld (by rfl) (by rfl)]
 have h1 := cut126 (n := d + 9) (by omega) line 10 (by omega)
 rw [if_pos h] at h1
 obtain ⟨y, h2, h3⟩ := act127 (n := d + 9) (by omega) (line.take (line.length - 1)) (by simp; omega) (fun z hz => by have := splitS_small 32 _ z hz; simp at this; omega)
 rw [h3 x hx, hx] at h2
 simp only [Option.isSome_some] at h2
 have hlim : out.length + 1 ≤ lim := by simp only [lim]; omega
 have hR := aR_len out
 have hr : rowC ac (out ++ [x]) = rowC ac out ++ ac x := rowC_snoc ..
 obtain ⟨t, k, m, a, b, c⟩ := x
 simp only [pS0, hr]
 generalize hA : rowC ac out = A at *
 generalize hc H = HC at *
 simp -implicitDefEqProofs [c64A0]
 rw [yldK_eq (by rfl), pLoop_fold]
 simp -implicitDefEqProofs [c64B0, h1, h2, hlim, hR, ac, -gc]
 rw [yldB_normal (by rfl), pLoop_fold]
 simp -implicitDefEqProofs []

theorem yield_bad {d : Nat} (H : HallI) (line rest : List UInt8) (out : List ActI) (hl : line.length < 100000) (hn : out.length < 100000) (h : ¬ (line.drop (line.length - 1) = [10] ∧ (actW (line.take (line.length - 1))).isSome = true)) :
  ∃ x : ActI, evFn F C0 G0 (d + 10) (.yld 7) [sv line] ((7, pLoop none 0) :: pS0 H out out.length rest) = .ret (.p (.bool false), (8, .arr (ac x) 0 1) :: (7, pLoop (some .ret) 2) :: pS9 H out out.length rest) := by
 rw [evFn_yld (by rfl) (by rfl)]
 have h1 := cut126 (n := d + 9) (by omega) line 10 (by omega)
 obtain ⟨body, ended, hb, hcut, hbl⟩ : ∃ body ended, (ended = true → line.drop (line.length - 1) = [10] ∧ body = line.take (line.length - 1)) ∧ RUN (d + 9) 126 [sv line, sv [10]] = .ret (.tup [sv body, .p (.bool ended)]) ∧ body.length < 100000 := by
  by_cases hc : line.drop (line.length - 1) = [10]
  ·rw [if_pos hc] at h1
   exact ⟨line.take (line.length - 1), true, fun _ => ⟨hc, rfl⟩, h1, by simp; omega⟩
  ·rw [if_neg hc] at h1
   exact ⟨line, false, fun e => (by cases e), h1, hl⟩
 obtain ⟨y, h2, h3⟩ := act127 (n := d + 9) (by omega) body (by omega) (fun z hz => by have := splitS_small 32 _ z hz; omega)
 have hbad : ended = false ∨ (actW body).isSome = false := by
  cases he : ended with
  | false => exact .inl rfl
  | true =>
   obtain ⟨q1, q2⟩ := hb he
   rw [← q2] at h
   exact .inr (by simpa using fun hc => h ⟨q1, hc⟩)
 generalize (actW body).isSome = okk at *
 have hlim : out.length + 1 ≤ lim := by simp only [lim]; omega
 refine ⟨y, ?_⟩
 have goal : ∀ st : St, st = ⟨[], (8, .arr (ac y) 0 1) :: (7, pLoop none 1) :: pS9 H out out.length rest⟩ → yldB (evFn F C0 G0 (d + 9)) C0 G0 7 (.ret, st) = .ret (.p (.bool false), (8, .arr (ac y) 0 1) :: (7, pLoop (some .ret) 2) :: pS9 H out out.length rest) := by
  rintro st rfl
  rw [yldB_ret (by rfl), pLoop_fold]
  simp [pS9]
 have goal := goal _ rfl
 obtain ⟨t, k, m, a, b, c⟩ := y
 simp only [pS0, pS9, ac] at goal ⊢
 generalize rowC ac out = A at *
 generalize hc H = HC at *
 simp -implicitDefEqProofs [c64A0]
 rw [yldK_eq (by rfl), pLoop_fold]
 cases ended with
 | false =>
  simp -implicitDefEqProofs [c64B0, hcut, h2, hide, hidI, hidT16, stOp, plain, goal, -gc]
 | true =>
  cases okk with
  | false => simp -implicitDefEqProofs [c64B0, hcut, h2, hide, hidI, hidT16, stOp, plain, goal, -gc]
  | true => rcases hbad with h | h <;> cases h
end Fw
end

section
set_option maxHeartbeats 16000000
set_option maxRecDepth 8000
namespace Fw
open Go

def goL : List (List UInt8) → List ActI → Bool × List ActI
 | [], out => (true, out)
 | w :: q, out => match q with
  | [] => (decide (w = []), out)
  | _ :: _ => match actW w with
   | some x => goL q (out ++ [x])
   | none => (false, out)

theorem goL_one (w : List UInt8) (out : List ActI) : goL [w] out = (decide (w = []), out) := rfl
theorem goL_more {w : List UInt8} {q : List (List UInt8)} (hq : q ≠ []) (out : List ActI) : goL (w :: q) out = match actW w with
  | some x => goL q (out ++ [x])
  | none => (false, out) := by
 cases q with
 | nil => exact absurd rfl hq
 | cons y r => rfl

theorem goL_length : ∀ (ps : List (List UInt8)) (out : List ActI), (goL ps out).2.length ≤ out.length + ps.length := by
 intro ps
 induction ps with
 | nil => intro out; simp [goL]
 | cons w q ih =>
  intro out
  cases q with
  | nil => rw [goL_one]; simp
  | cons y r =>
   rw [goL_more (by simp)]
   cases actW w with
   | none => simp
   | some x =>
    have := ih (out ++ [x])
    simp at this ⊢
    omega

def lE : Env := [(0, .yld 7), (1, .ptr 6 0 0)]

theorem lines_round {d : Nat} (H : HallI) (rest : List UInt8) (out : List ActI) (hl : rest.length < 90000) (hn : out.length < 90000) (h0 : rest ≠ []) :
  (10 ∈ rest ∧ ∃ x, actW (ahead 10 rest) = some x ∧ loopS (evFn F C0 G0 (d + 10)) C0 G0 8 true [0, 1] c153L0 ⟨lE, (7, pLoop none 0) :: pS0 H out out.length rest⟩ = .ret (.normal, ⟨[(0, .yld 7), (1, .ptr 6 0 0), (24, .p (.bool false))], (7, pLoop none 0) :: pS0 H (out ++ [x]) (out ++ [x]).length (rest.drop ((ahead 10 rest).length + 1))⟩)) ∨
  ((10 ∉ rest ∨ actW (ahead 10 rest) = none) ∧ ∃ env r', loopS (evFn F C0 G0 (d + 10)) C0 G0 8 true [0, 1] c153L0 ⟨lE, (7, pLoop none 0) :: pS0 H out out.length rest⟩ = .ret (.ret, ⟨env, (7, pLoop (some .ret) 2) :: pS9 H out out.length r'⟩)) := by
 have hpos : 0 < rest.length := List.length_pos_iff.2 h0
 have z0 : (0 : Int) < rest.length := by omega
 have hix : RUN (d + 10) 154 [sv rest, .p (.int .u8 10)] = .ret (iv (Lib.indexByte rest 10)) := ib154 (n := d + 10) (by omega) rest 10
 rw [indexByte_ahead] at hix
 by_cases hm : (10 : UInt8) ∈ rest
 ·rw [if_pos hm] at hix
  obtain ⟨e1, e2, e3⟩ := ahead_split hm
  have w1 := wrap64 (n := ((ahead 10 rest).length : Int) + 1) (by omega) (by omega)
  have b1 : ((ahead 10 rest).length : Int) + 1 ≤ rest.length := by omega
  have b2 : (0 : Int) ≤ ((ahead 10 rest).length : Int) + 1 := by omega
  have b3 : (0 : Int) ≤ ((ahead 10 rest).length : Int) := by omega
  have t1 : (((ahead 10 rest).length : Int) + 1).toNat = (ahead 10 rest).length + 1 := by omega
  have htk : rest.take ((ahead 10 rest).length + 1) = ahead 10 rest ++ [10] := by
   have h := congrArg (List.take ((ahead 10 rest).length + 1)) e1
   rw [h, List.take_append]
   simp
   exact List.take_of_length_le (by omega)
  have hd : (ahead 10 rest ++ [10]).drop ((ahead 10 rest ++ [10]).length - 1) = [10] := by simp
  have hk : (ahead 10 rest ++ [10]).take ((ahead 10 rest ++ [10]).length - 1) = ahead 10 rest := by simp
  generalize hA : ahead 10 rest = A at *
  generalize hR : rest.drop (A.length + 1) = R at *
  cases hp : actW A with
  | some x =>
   refine .inl ⟨hm, x, rfl, ?_⟩
   have hy := yield_ok (d := d) H (A ++ [10]) R out (by simp; omega) (by omega) hd x (by rw [hk]; exact hp)
   simp only [pS0, List.cons_append, List.nil_append] at hy
   simp -implicitDefEqProofs [lE, pS0, loopS_eq, c153L0, gc_all, hpos, hix, w1, b1, b2, b3, t1, htk, hR, hy, -gc]
   simp -implicitDefEqProofs [pLoop, show refsL (hc H) = [] from rfl]
  | none =>
   refine .inr ⟨.inr rfl, ?_⟩
   obtain ⟨x', hy⟩ := yield_bad (d := d) H (A ++ [10]) R out (by simp; omega) (by omega) (by rw [hk, hp]; simp)
   simp only [pS0, pS9] at hy
   refine ⟨[(0, .yld 7), (1, .ptr 6 0 0), (24, .p (.bool true))], R, ?_⟩
   simp -implicitDefEqProofs [lE, pS0, pS9, loopS_eq, c153L0, gc_all, hpos, hix, w1, b1, b2, b3, t1, htk, hR, hy, -gc]
   simp -implicitDefEqProofs [pLoop, show refsL (hc H) = [] from rfl]
 ·rw [if_neg hm] at hix
  refine .inr ⟨.inl hm, ?_⟩
  have hnd : ¬ (rest.drop (rest.length - 1) = [10] ∧ (actW (rest.take (rest.length - 1))).isSome = true) := fun h => hm (by
   have : (10 : UInt8) ∈ rest.drop (rest.length - 1) := by rw [h.1]; simp
   exact List.mem_of_mem_drop this)
  obtain ⟨x', hy⟩ := yield_bad (d := d) H rest [] out (by omega) (by omega) hnd
  simp only [pS0, pS9] at hy
  refine ⟨[(0, .yld 7), (1, .ptr 6 0 0), (24, .p (.bool true))], [], ?_⟩
  simp -implicitDefEqProofs [lE, pS0, pS9, loopS_eq, c153L0, gc_all, hpos, hix, hy, -gc]
  simp -implicitDefEqProofs [pLoop, show refsL (hc H) = [] from rfl]

theorem lines_same {d : Nat} {env : Env} (he : restrict env [0, 1] = lE) (S : Sto) : loopS (evFn F C0 G0 (d + 10)) C0 G0 8 true [0, 1] c153L0 ⟨env, S⟩ = loopS (evFn F C0 G0 (d + 10)) C0 G0 8 true [0, 1] c153L0 ⟨lE, S⟩ := by
 have : restrict lE [0, 1] = lE := rfl
 simp only [loopS_eq, he, this]
theorem lines_end {d : Nat} (H : HallI) (out : List ActI) (n : Nat) : loopS (evFn F C0 G0 (d + 10)) C0 G0 8 true [0, 1] c153L0 ⟨lE, (7, pLoop none 0) :: pS0 H out n []⟩ = .ret (.exit 0, ⟨[(0, .yld 7), (1, .ptr 6 0 0), (7, .p (.bool false))], (7, pLoop none 0) :: pS0 H out n []⟩) := by
 simp -implicitDefEqProofs [loopS_eq, lE, pS0, c153L0, gc_all, -gc]

theorem lines_loop {d : Nat} (H : HallI) : ∀ (k : Nat) (rest : List UInt8) (out : List ActI) (env : Env) (fuel : Nat), rest.length ≤ k → k < 80000 → out.length + k < 90000 → k < fuel → restrict env [0, 1] = lE →
  ∃ e env' r', loopN (loopS (evFn F C0 G0 (d + 10)) C0 G0 8 true [0, 1] c153L0) fuel ⟨env, (7, pLoop none 0) :: pS0 H out out.length rest⟩ = .ret (e, ⟨env', if (goL (splitS 10 rest) out).1 = true then (7, pLoop none 0) :: pS0 H (goL (splitS 10 rest) out).2 (goL (splitS 10 rest) out).2.length r' else (7, pLoop (some .ret) 2) :: pS9 H (goL (splitS 10 rest) out).2 (goL (splitS 10 rest) out).2.length r'⟩) ∧ (e = .exit 0 ∨ e = .ret) := by
 intro k
 induction k with
 | zero =>
  intro rest out env fuel hk _ _ hf he
  have : rest = [] := List.eq_nil_of_length_eq_zero (by omega)
  subst this
  refine ⟨.exit 0, [(0, .yld 7), (1, .ptr 6 0 0), (7, .p (.bool false))], [], ?_, .inl rfl⟩
  have hg : goL (splitS 10 []) out = (true, out) := rfl
  rw [hg]
  exact loopN_end (by rw [lines_same he, lines_end]; rfl) (by simp) (by omega)
 | succ k ih =>
  intro rest out env fuel hk hk2 hn hf he
  by_cases h0 : rest = []
  ·subst h0
   refine ⟨.exit 0, [(0, .yld 7), (1, .ptr 6 0 0), (7, .p (.bool false))], [], ?_, .inl rfl⟩
   have hg : goL (splitS 10 []) out = (true, out) := rfl
   rw [hg]
   exact loopN_end (by rw [lines_same he, lines_end]; rfl) (by simp) (by omega)
  ·have hst := lines_same (d := d) he ((7, pLoop none 0) :: pS0 H out out.length rest)
   rcases lines_round (d := d) H rest out (by omega) (by omega) h0 with ⟨hm, x, hx, hr⟩ | ⟨hb, env2, r', hr⟩
   ·rw [← hst] at hr
    rw [loopN_on hr (by omega)]
    obtain ⟨e1, e2, e3⟩ := ahead_split hm
    have hs : splitS 10 rest = ahead 10 rest :: splitS 10 (rest.drop ((ahead 10 rest).length + 1)) := by
     conv => lhs; rw [e1]
     exact splitS_at e2
    have hg : goL (splitS 10 rest) out = goL (splitS 10 (rest.drop ((ahead 10 rest).length + 1))) (out ++ [x]) := by
     rw [hs, goL_more (splitS_ne _ _), hx]
    rw [hg]
    exact ih (rest.drop ((ahead 10 rest).length + 1)) (out ++ [x]) _ (fuel - 1) (by rw [List.length_drop]; omega) (by omega) (by simp; omega) (by omega) rfl
   ·rw [← hst] at hr
    have hg : goL (splitS 10 rest) out = (false, out) := by
     by_cases hm : (10 : UInt8) ∈ rest
     ·have hl : actW (ahead 10 rest) = none := by
       rcases hb with h | h
       ·exact absurd hm h
       ·exact h
      obtain ⟨e1, e2, e3⟩ := ahead_split hm
      have hs : splitS 10 rest = ahead 10 rest :: splitS 10 (rest.drop ((ahead 10 rest).length + 1)) := by
       conv => lhs; rw [e1]
       exact splitS_at e2
      rw [hs, goL_more (splitS_ne _ _), hl]
     ·rw [splitS_none hm, goL_one]
      simp [h0]
    rw [hg]
    exact ⟨.ret, env2, r', loopN_end hr (by simp) (by omega), .inr rfl⟩

theorem rfunK_ret {lo : Nat} {env : Env} {id : Nat} {a : AVal} {s : Sto} {e1 : Env} {p1 : List Nat} {a1 b1 : ACode} {n : Nat} (h : get s id = some (.loop e1 p1 a1 b1 (some .ret) n)) (hn : n ≠ 1) : rfunK lo env id (a, s) = .ret (.ret, ⟨env, gc lo env (put s id (.loop e1 p1 a1 b1 (some .ret) 3))⟩) := by
 unfold rfunK
 simp [h, hn]

end Fw
end

section
set_option maxHeartbeats 16000000
set_option maxRecDepth 8000
namespace Fw
open Go

def manyK (k : List UInt8) : Nat := if k = kMeasure then 4 else if k ∈ [kArm, kDisarm, kShoot] then 1 else 2
def actOf (k : List UInt8) (ns : List Int) : ActI := ⟨ns.getD 0 0, k, if manyK k = 2 then ns.getD 1 0 else 0, if manyK k = 4 then ns.getD 1 0 else 0, if manyK k = 4 then ns.getD 2 0 else 0, if manyK k = 4 then ns.getD 3 0 else 0⟩
abbrev nS (H : HallI) (out : List ActI) (ns : List Int) : Sto := [(2, .arr (pI ns) ns.length 1), (1, .arr (rowC ac out) out.length 6), (0, .box (hc H))]
abbrev nE (W : List (List UInt8)) (E : Nat) (out : List ActI) (i : Nat) (ws : List (List UInt8)) (j : Nat) : Env := [(2, .ptr 0 0 0), (7, .p (.sl (pStr W) W.length)), (8, iv E), (9, .sl 1 out.length 0 out.length), (10, iv i), (11, .p (.sl (pStr ws) ws.length)), (12, .sl 2 j 0 j), (13, iv ((j : Int) + 1))]
abbrev badE (i : Nat) : Env := [(4, .p .nils), (5, iv i), (6, iv 25)]
def digX (r : List (List UInt8)) (j : Nat) : Int := if digOk (r.getD j []) = true then 0 else 1

end Fw
end

section
set_option maxHeartbeats 16000000
set_option maxRecDepth 8000
namespace Fw
open Go

def parseL (h : HallI) (s : List UInt8) : List ActI × Int × Int :=
 if (goL (splitS 10 s) []).1 = true then
  (if actsE h (goL (splitS 10 s) []).2 ≠ 0 then ([], ((goL (splitS 10 s) []).2.length : Int), actsE h (goL (splitS 10 s) []).2)
   else if (runH h (goL (splitS 10 s) []).2).2 = true then ((goL (splitS 10 s) []).2, 0, 0) else ([], ((runH h (goL (splitS 10 s) []).2).1.length : Int), 21))
 else ([], ((goL (splitS 10 s) []).2.length : Int), 25)
def parP (h : HallI) (s : List UInt8) : AVal := if (parseL h s).2.2 = 0 then asl (parseL h s).1 else nilS

theorem parse64 {n : Nat} (hn : 14 ≤ n) (h : HallI) (q0 : h.t0.length < 1000000) (q1 : h.t1.length < 1000000) (q2 : h.t2.length < 1000000) (s : List UInt8) : RUN n 64 [ha h, sv s] = .ret (if hallE h ≠ 0 then .tup [nilS, iv 0, iv (hallE h)] else if 4096 < s.length then .tup [nilS, iv 0, iv 26] else .tup [parP h s, iv (parseL h s).2.1, iv (parseL h s).2.2]) := by
 obtain ⟨d, rfl⟩ : ∃ d, n = d + 14 := ⟨n - 14, by omega⟩
 rw [RUN, call_eq fe64 _ rfl]
 have k81 := hall81 (n := d + 13) (by omega) h q0 q1 q2
 have kw := when104 (n := d + 13) (by omega) (decide (4096 < s.length)) 26
 have k2 := first91_2 (n := d + 13) (by omega) (hallE h) (whenE (decide (4096 < s.length)) 26)
 have hd : decide ((4096 : Int) < s.length) = decide (4096 < s.length) := by
  by_cases h : 4096 < s.length
  ·have : (4096 : Int) < s.length := by omega
   simp [h, this]
  ·have : ¬ (4096 : Int) < s.length := by omega
   simp [h, this]
 unfold parP
 by_cases hz : hallE h = 0
 ·rw [if_neg (by simpa using hz)]
  by_cases h4n : 4096 < s.length
  ·rw [if_pos h4n]
   rw [hz, decide_eq_true h4n] at k2
   rw [decide_eq_true h4n] at kw hd
   rw [hz] at k81
   have ef : firstE [0, whenE true 26] = 26 := by decide
   rw [ef] at k2
   simp only [ha, csl] at *
   generalize cI h.t0 = A0 at *
   generalize cI h.t1 = A1 at *
   generalize cI h.t2 = A2 at *
   simp -implicitDefEqProofs [c64, k81, kw, k2, hd]
  ·rw [if_neg h4n]
   rw [hz, decide_eq_false h4n] at k2
   rw [decide_eq_false h4n] at kw hd
   rw [hz] at k81
   have ef : firstE [0, whenE false 26] = 0 := by decide
   rw [ef] at k2
   obtain ⟨e, env', r', key, he⟩ := lines_loop (d := d + 2) h s.length s [] lE loopFuel (Nat.le_refl _) (by omega) (by simp; omega) (by simp [loopFuel]; omega) rfl
   have f125 : ∀ S : Sto, nextId S = 6 → evFn F C0 G0 (d + 13) (.fn 125) [sv s] S = .ret (.clo 153 [] [.ptr 6 0 0], (6, .arr [.str s] 0 1) :: S) := fun S hS => by
    rw [evFn_fn fe125]
    simp -implicitDefEqProofs [c125, hS, -nextId]
   have hol : (goL (splitS 10 s) []).2.length < 50000 := by
    have h := goL_length (splitS 10 s) []
    rw [splitS_length] at h
    have h2 : s.count 10 ≤ s.length := List.count_le_length
    simp at h
    omega
   have hpd : parseL h s = if (goL (splitS 10 s) []).1 = true then
     (if actsE h (goL (splitS 10 s) []).2 ≠ 0 then ([], ((goL (splitS 10 s) []).2.length : Int), actsE h (goL (splitS 10 s) []).2)
      else if (runH h (goL (splitS 10 s) []).2).2 = true then ((goL (splitS 10 s) []).2, 0, 0) else ([], ((runH h (goL (splitS 10 s) []).2).1.length : Int), 21))
     else ([], ((goL (splitS 10 s) []).2.length : Int), 25) := rfl
   generalize hG : goL (splitS 10 s) [] = G at *
   obtain ⟨g1, g2⟩ := G
   simp only at key hol hpd
   have hr0 : rowC ac [] = [] := rfl
   have k86 := acts86 (n := d + 13) (by omega) h q0 q1 q2 g2 (by omega)
   have k88 := followed88 (n := d + 13) (by omega) h q0 q1 q2 g2 hol
   unfold folR at k88
   have hR := aR_len g2
   have f153 : evFn F C0 G0 (d + 13) (.fn 153) [.yld 7, .ptr 6 0 0] ((7, pLoop none 0) :: pS0 h [] 0 s) = .ret (.tup [], if g1 = true then (7, pLoop none 0) :: pS0 h g2 g2.length r' else (7, pLoop (some .ret) 2) :: pS9 h g2 g2.length r') := by
    rw [evFn_fn fe153]
    simp only [lE, pS0, List.length_nil, hr0] at key
    simp -implicitDefEqProofs [c153, pS0]
    rw [key]
    rcases he with rfl | rfl <;> simp -implicitDefEqProofs
   have f125 := f125 [(5, .box [.sl 4 0 0 0]), (4, .arr [] 0 6), (3, .arr [.int .i64 0] 0 1), (2, .arr [.int .i64 0] 0 1), (1, .box [.p .nils]), (0, .box (hc h))] rfl
   let E : Env := [(2, .ptr 0 0 0), (4, .ptr 1 0 0), (5, .ptr 2 0 0), (6, .ptr 3 0 0), (8, .ptr 5 0 0), (30, .clo 153 [] [.ptr 6 0 0])]
   have hrf : evCode (evFn F C0 G0 (d + 13)) C0 G0 0 (.rfun (.t 30) [31] c64A0 c64B0) ⟨E, pS0 h [] 0 s⟩ = .ret (if g1 = true then .normal else .ret, ⟨E, if g1 = true then pS0 h g2 g2.length r' else pS9 h g2 g2.length r'⟩) := by
    rw [ev_rfun]
    have h1 : callee (evOpd G0 E) (.val (.t 30)) = some (.fn 153, [], [.ptr 6 0 0]) := rfl
    have h2 : nextId (pS0 h [] 0 s) = 7 := rfl
    simp only [h1, h2, List.nil_append]
    have h3 : (7, Obj.loop E [31] c64A0 c64B0 none 0) :: pS0 h [] 0 s = (7, pLoop none 0) :: pS0 h [] 0 s := rfl
    rw [h3]
    have h4 : [AVal.yld 7] ++ [AVal.ptr 6 0 0] = [.yld 7, .ptr 6 0 0] := rfl
    rw [h4, f153, bind_ret]
    cases g1 with
    | true =>
     simp only [if_true]
     rw [rfunK_none (by rfl) (by decide)]
     simp -implicitDefEqProofs [E, pS0, show refsL (hc h) = [] from rfl]
    | false =>
     simp only [Bool.false_eq_true, if_false]
     rw [rfunK_ret (by rfl) (by decide)]
     simp -implicitDefEqProofs [E, pS9, show refsL (hc h) = [] from rfl]
   simp only [E, pS0, pS9, hr0] at hrf
   simp only [hc] at hrf f125
   obtain ⟨dr, bs, t0, t1, t2⟩ := h
   simp only [ha, csl, asl] at *
   generalize hA : rowC ac g2 = A at *
   cases g1 with
   | false =>
    generalize cI t0 = A0 at *
    generalize cI t1 = A1 at *
    generalize cI t2 = A2 at *
    simp -implicitDefEqProofs [c64, k81, kw, k2, hd, f125, hrf, hpd, -ev_rfun]
   | true =>
    generalize actsE ⟨dr, bs, t0, t1, t2⟩ g2 = eA at *
    generalize runH ⟨dr, bs, t0, t1, t2⟩ g2 = RH at *
    by_cases hs : eA = 0
    ·subst hs
     simp only [ne_eq, not_true, if_false] at k88 hpd
     cases hrr : RH.2 with
     | true =>
      rw [hrr] at k88
      simp only [hrr, if_true] at k88 hpd
      generalize cI t0 = A0 at *
      generalize cI t1 = A1 at *
      generalize cI t2 = A2 at *
      simp -implicitDefEqProofs [c64, k81, kw, k2, hd, f125, hrf, hpd, k86, k88, hR, hA, -ev_rfun]
     | false =>
      rw [hrr] at k88
      simp only [hrr, if_true, if_false, Bool.false_eq_true] at k88 hpd
      generalize cI t0 = A0 at *
      generalize cI t1 = A1 at *
      generalize cI t2 = A2 at *
      simp -implicitDefEqProofs [c64, k81, kw, k2, hd, f125, hrf, hpd, k86, k88, hR, -ev_rfun]
    ·rw [if_pos hs] at hpd
     generalize cI t0 = A0 at *
     generalize cI t1 = A1 at *
     generalize cI t2 = A2 at *
     simp -implicitDefEqProofs [c64, k81, kw, k2, hd, f125, hrf, hpd, k86, hs, hR, hide, hidI, hidT16, stOp, plain, -ev_rfun]
 ·rw [if_pos hz]
  have ef : firstE [hallE h, whenE (decide (4096 < s.length)) 26] = hallE h := by simp [firstE, hz]
  rw [ef] at k2
  simp only [ha, csl] at *
  generalize cI h.t0 = A0 at *
  generalize cI h.t1 = A1 at *
  generalize cI h.t2 = A2 at *
  generalize hallE h = eh at *
  simp -implicitDefEqProofs [c64, k81, kw, k2, hd, hz]
end Fw
end

section
set_option maxHeartbeats 16000000
set_option maxRecDepth 8000
namespace Fw
open Go

def rS (H : HallI) (W : List (List UInt8)) (E : Nat) (out : List ActI) (i : Nat) : St := ⟨[(2, .ptr 0 0 0), (7, .p (.sl (pStr W) W.length)), (8, iv E), (9, .sl 1 out.length 0 out.length), (10, iv i)], [(1, .arr (rowC ac out) out.length 6), (0, .box (hc H))]⟩

end Fw
end

section
set_option maxHeartbeats 16000000
set_option maxRecDepth 8000
namespace Fw
open Go

end Fw
end

section
set_option maxHeartbeats 4000000
namespace Fw
open Go

theorem natS_dec {n : Nat} (h : n < 10000000000000000000) : natS n = Lib.decDigits n := by
 unfold natS
 have h20 : (10 : Nat) ^ 20 = 100000000000000000000 := by decide
 rw [digsF_eq 20 n [] (by omega) (by omega), List.append_nil]
theorem natS_lo {n : Nat} (h : n < 10) : natS n = [UInt8.ofNat (48 + n)] := by
 rw [natS_dec (by omega), Lib.decDigits]; simp [h]
theorem natS_hi {n : Nat} (h : 10 ≤ n) (h2 : n < 10000000000000000000) : natS n = natS (n / 10) ++ [UInt8.ofNat (48 + n % 10)] := by
 have h' : ¬ n < 10 := by omega
 rw [natS_dec h2, Lib.decDigits, dif_neg h', natS_dec (n := n / 10) (by omega)]

theorem valF_app (a : List UInt8) (c : UInt8) : ∀ k, k ≤ a.length → valF (a ++ [c]) k = valF a k := by
 intro k
 induction k with
 | zero => intro _; rfl
 | succ k ih =>
  intro hk
  have hg : (a ++ [c]).getD k 0 = a.getD k 0 := by
   simp only [List.getD_eq_getElem?_getD]
   rw [List.getElem?_append_left (by omega)]
  simp only [valF, hg, ih (by omega)]
theorem digV_snoc (a : List UInt8) (c : UInt8) : digV (a ++ [c]) = 10 * digV a + ((c.toNat : Int) - 48) := by
 have hg : (a ++ [c]).getD a.length 0 = c := by simp [List.getD_eq_getElem?_getD]
 simp only [digV, List.length_append, List.length_singleton, valF, valF_app a c a.length (Nat.le_refl _), hg]

theorem ofNat_dig {k : Nat} (h : k < 10) : (UInt8.ofNat (48 + k)).toNat = 48 + k := by
 have : ∀ k, k < 10 → (UInt8.ofNat (48 + k)).toNat = 48 + k := by decide
 exact this k h
theorem dig_ofNat {c : UInt8} (h : digB c = true) : UInt8.ofNat (48 + (c.toNat - 48)) = c := by
 simp only [digB, Bool.and_eq_true, decide_eq_true_eq] at h
 apply UInt8.toNat_inj.1
 have := ofNat_dig (k := c.toNat - 48) (by omega)
 rw [this]; omega

theorem nat_dig : ∀ (f n : Nat), n < 10 ^ f → f ≤ 19 → (natS n).all digB = true ∧ natS n ≠ [] ∧ (1 ≤ n → (natS n).getD 0 0 ≠ 48) ∧ digV (natS n) = n ∧ (n < 10 → (natS n).length = 1) := by
 intro f
 induction f with
 | zero =>
  intro n h _
  have : n = 0 := by simpa using h
  subst this
  exact ⟨by decide, by decide, fun h => absurd h (by decide), by decide, fun _ => by decide⟩
 | succ f ih =>
  intro n h hf
  have hp : n < 10000000000000000000 := Nat.lt_of_lt_of_le h (by
   have : 10 ^ (f + 1) ≤ 10 ^ 19 := Nat.pow_le_pow_right (by decide) (by omega)
   exact this)
  by_cases h10 : n < 10
  ·have hs := natS_lo h10
   have ho := ofNat_dig h10
   rw [hs]
   refine ⟨?_, by simp, fun h1 => ?_, ?_, fun _ => rfl⟩
   ·simp only [List.all_cons, List.all_nil, Bool.and_true, digB, ho, Bool.and_eq_true, decide_eq_true_eq]; omega
   ·intro e
    have e' : UInt8.ofNat (48 + n) = 48 := e
    rw [e'] at ho
    have : (48 : UInt8).toNat = 48 := rfl
    omega
   ·show 10 * (0 : Int) + _ = _
    have hg : ([UInt8.ofNat (48 + n)] : List UInt8).getD 0 0 = UInt8.ofNat (48 + n) := rfl
    rw [hg, ho]; omega
  ·have hs := natS_hi (n := n) (by omega) hp
   have hq : n / 10 < 10 ^ f := by rw [Nat.pow_succ] at h; omega
   obtain ⟨i1, i2, i3, i4, _⟩ := ih (n / 10) hq (by omega)
   have ho := ofNat_dig (k := n % 10) (by omega)
   rw [hs]
   refine ⟨?_, by simp, fun _ => ?_, ?_, fun h => absurd h h10⟩
   ·rw [List.all_append, i1]
    simp only [List.all_cons, List.all_nil, Bool.and_true, Bool.true_and, digB, ho, Bool.and_eq_true, decide_eq_true_eq]; omega
   ·have := i3 (by omega)
    have hl : 0 < (natS (n / 10)).length := List.length_pos_iff.2 i2
    simp only [List.getD_eq_getElem?_getD] at this ⊢
    rwa [List.getElem?_append_left hl]
   ·rw [digV_snoc, i4, ho]; omega
theorem natS_len : ∀ (f n : Nat), 0 < f → n < 10 ^ f → f ≤ 19 → (natS n).length ≤ f := by
 intro f
 induction f with
 | zero => intro n h; omega
 | succ f ih =>
  intro n _ h hf
  by_cases h10 : n < 10
  ·rw [natS_lo h10]; simp
  ·have hp : n < 10000000000000000000 := Nat.lt_of_lt_of_le h (by
    have : 10 ^ (f + 1) ≤ 10 ^ 19 := Nat.pow_le_pow_right (by decide) (by omega)
    exact this)
   rw [natS_hi (n := n) (by omega) hp]
   have hf0 : 0 < f := by
    rcases Nat.eq_zero_or_pos f with e | e
    ·subst e; simp at h; omega
    ·exact e
   have := ih (n / 10) hf0 (by rw [Nat.pow_succ] at h; omega) (by omega)
   simp; omega
theorem itoaS_pos {n : Int} (h : 0 ≤ n) : itoaS n = natS n.toNat := by rw [itoaS, if_neg (by omega)]
theorem lt9 {n : Int} (h : n ≤ 999999999) : n.toNat < 10 ^ 9 := by
 have : (10 : Nat) ^ 9 = 1000000000 := by decide
 omega
theorem itoa_dig {n : Int} (h0 : 0 ≤ n) (h1 : n ≤ 999999999) : digOk (itoaS n) = true ∧ digV (itoaS n) = n := by
 rw [itoaS_pos h0]
 obtain ⟨a1, a2, a3, a4, a5⟩ := nat_dig 9 n.toNat (lt9 h1) (by decide)
 have hl := natS_len 9 n.toNat (by decide) (lt9 h1) (by decide)
 refine ⟨?_, by rw [a4]; omega⟩
 simp only [digOk, a1, a2, ne_eq, not_false_eq_true, decide_true, Bool.true_and, hl, leadB, Bool.and_true]
 by_cases h : 1 ≤ n.toNat
 ·have := a3 h
  simp only [Bool.or_eq_true, bne_iff_ne, ne_eq]
  exact .inr this
 ·rw [a5 (by omega)]; rfl

theorem dig_nat : ∀ (m : Nat) (a : List UInt8), a.length = m + 1 → m < 18 → a.all digB = true → leadB a = true → 0 ≤ digV a ∧ natS (digV a).toNat = a ∧ digV a < 10 ^ (m + 1) := by
 intro m
 induction m with
 | zero =>
  intro a hl _ hd _
  match a, hl with
  | [c], _ =>
   have hc : digB c = true := by simpa using hd
   have hb := hc
   simp only [digB, Bool.and_eq_true, decide_eq_true_eq] at hb
   have hv : digV [c] = (c.toNat : Int) - 48 := by
    show 10 * (0 : Int) + _ = _
    have hg : ([c] : List UInt8).getD 0 0 = c := rfl
    rw [hg]; omega
   rw [hv]
   have h10 : (10 : Int) ^ (0 + 1) = 10 := by decide
   refine ⟨by omega, ?_, by omega⟩
   have e : ((c.toNat : Int) - 48).toNat = c.toNat - 48 := by omega
   rw [e, natS_lo (by omega), dig_ofNat hc]
 | succ m ih =>
  intro a hl hm hd hld
  obtain ⟨b, c, rfl⟩ : ∃ b c, a = b ++ [c] := ⟨a.dropLast, a.getLast (by intro e; subst e; simp at hl), (List.dropLast_concat_getLast _).symm⟩
  have hbl : b.length = m + 1 := by simpa using hl
  rw [List.all_append, Bool.and_eq_true] at hd
  have hc : digB c = true := by simpa using hd.2
  have hb := hc
  simp only [digB, Bool.and_eq_true, decide_eq_true_eq] at hb
  have hfirst : b.getD 0 0 ≠ 48 := by
   simp only [leadB, List.length_append, List.length_singleton, Bool.or_eq_true, decide_eq_true_eq, bne_iff_ne, ne_eq] at hld
   rcases hld with h | h
   ·omega
   ·simp only [List.getD_eq_getElem?_getD] at h ⊢
    rwa [List.getElem?_append_left (by omega)] at h
  have hlb : leadB b = true := by simp only [leadB, Bool.or_eq_true, bne_iff_ne, ne_eq]; exact .inr hfirst
  obtain ⟨i1, i2, i3⟩ := ih b hbl (by omega) hd.1 hlb
  have h1 : 1 ≤ digV b := by
   rcases Int.lt_or_le (digV b) 1 with h | h
   ·have e : digV b = 0 := by omega
    rw [e] at i2
    have : natS (0 : Int).toNat = [48] := by decide
    rw [this] at i2
    rw [← i2] at hfirst
    exact absurd rfl hfirst
   ·exact h
  have hps : (10 : Int) ^ (m + 1 + 1) = 10 * 10 ^ (m + 1) := by rw [Int.pow_succ, Int.mul_comm]
  have hpl : (10 : Int) ^ (m + 1) ≤ 10 ^ 18 := by
   have h := Nat.pow_le_pow_right (n := 10) (by decide) (show m + 1 ≤ 18 by omega)
   exact_mod_cast h
  have hp18 : (10 : Int) ^ 18 = 1000000000000000000 := by decide
  rw [digV_snoc]
  refine ⟨by omega, ?_, by omega⟩
  have e1 : (10 * digV b + ((c.toNat : Int) - 48)).toNat / 10 = (digV b).toNat := by omega
  have e2 : (10 * digV b + ((c.toNat : Int) - 48)).toNat % 10 = c.toNat - 48 := by omega
  rw [natS_hi (by omega) (by omega), e1, e2, i2, dig_ofNat hc]
theorem dig_itoa {a : List UInt8} (h : digOk a = true) : itoaS (digV a) = a := by
 simp only [digOk, Bool.and_eq_true, decide_eq_true_eq] at h
 obtain ⟨⟨⟨h0, h9⟩, hd⟩, hl⟩ := h
 have hp : 0 < a.length := List.length_pos_iff.2 h0
 obtain ⟨i1, i2, _⟩ := dig_nat (a.length - 1) a (by omega) (by omega) hd hl
 rw [itoaS_pos i1, i2]
theorem dig_free {a : List UInt8} {c : UInt8} (h : a.all digB = true) (hc : digB c = false) : c ∉ a := fun hm => by
 rw [List.all_eq_true.1 h c hm] at hc; cases hc
theorem itoa_free {n : Int} (h0 : 0 ≤ n) (h1 : n ≤ 999999999) {c : UInt8} (hc : digB c = false) : c ∉ itoaS n := by
 have h := (itoa_dig h0 h1).1
 simp only [digOk, Bool.and_eq_true, decide_eq_true_eq] at h
 exact dig_free h.1.2 hc

def joinB (c : UInt8) : List (List UInt8) → List UInt8
 | [] => []
 | w :: q => match q with
  | [] => w
  | _ :: _ => w ++ c :: joinB c q
theorem joinB_one (c : UInt8) (w : List UInt8) : joinB c [w] = w := rfl
theorem joinB_more (c : UInt8) (w : List UInt8) {q : List (List UInt8)} (h : q ≠ []) : joinB c (w :: q) = w ++ c :: joinB c q := by
 cases q with
 | nil => exact absurd rfl h
 | cons y r => rfl
theorem joinB_cons (c b : UInt8) (w : List UInt8) (q : List (List UInt8)) : joinB c ((b :: w) :: q) = b :: joinB c (w :: q) := by
 cases q with
 | nil => rfl
 | cons y r => rfl
theorem split_join (c : UInt8) : ∀ l : List UInt8, joinB c (splitS c l) = l := by
 intro l
 induction l with
 | nil => rfl
 | cons b r ih =>
  simp only [splitS]
  split
  ·rename_i h
   rw [joinB_more c [] (splitS_ne c r), ih, h]; rfl
  ·split
   ·rename_i h
    exact absurd h (splitS_ne c r)
   ·rename_i w q h
    rw [joinB_cons, ← h, ih]
def lnT (ls : List (List UInt8)) : List UInt8 := (ls.map fun l => l ++ [10]).flatten
theorem split_lines : ∀ (ls : List (List UInt8)) (last : List UInt8), (∀ l ∈ ls, (10 : UInt8) ∉ l) → (10 : UInt8) ∉ last → splitS 10 (lnT ls ++ last) = ls ++ [last]
 | [], last, _, h => by simp [lnT, splitS_none h]
 | l :: ls, last, h1, h2 => by
  have e : lnT (l :: ls) ++ last = l ++ 10 :: (lnT ls ++ last) := by simp [lnT]
  rw [e, splitS_at (h1 l (by simp)), split_lines ls last (fun q hq => h1 q (by simp [hq])) h2]
  rfl
theorem join_lines : ∀ (ls : List (List UInt8)) (last : List UInt8), joinB 10 (ls ++ [last]) = lnT ls ++ last
 | [], last => rfl
 | l :: ls, last => by
  rw [List.cons_append, joinB_more 10 l (by simp), join_lines ls last]
  simp [lnT]
end Fw
end

section
set_option maxHeartbeats 16000000
namespace Fw
open Go

structure ShA (x : ActI) : Prop where
 k : x.kind ∈ kindL
 t : 0 ≤ x.tick ∧ x.tick ≤ 999999999
 n : 0 ≤ x.num ∧ x.num ≤ 999999999
 a : 0 ≤ x.a ∧ x.a ≤ 999999999
 b : 0 ≤ x.b ∧ x.b ≤ 999999999
 c : 0 ≤ x.c ∧ x.c ≤ 999999999
 z1 : x.kind = kMeasure → x.num = 0
 z2 : x.kind ∈ [kArm, kDisarm, kShoot] → x.num = 0
 z3 : ¬ x.kind = kMeasure → x.a = 0 ∧ x.b = 0 ∧ x.c = 0
theorem shA_of {h : HallI} (hd : h.doors ≤ 8) {x : ActI} (he : actE h x = 0) : ShA x := by
 obtain ⟨p1, p2, p3, p4, p5, p6⟩ := actP_of hd he
 have hn : (x.kind = kMeasure ∨ x.kind ∈ [kArm, kDisarm, kShoot]) → x.num = 0 := by
  intro hk
  have hno : numsE h x.kind = 1 := by
   have hh : doorB x.kind = false ∧ keyB x.kind = false := by
    rcases (kinds3 p1).2 with q | q | q
    ·exact q.2
    ·exact q.2.2
    ·rcases hk with e | e
     ·exact absurd e q.1
     ·exact absurd e q.2.1
   unfold numsE
   rw [hh.1, hh.2]; rfl
  unfold actE at he
  by_cases c1 : rangeE 0 100000000 x.tick ≠ 0
  ·rw [if_pos c1] at he; exact absurd he c1
  ·rw [if_neg c1, if_neg (by simpa using p1)] at he
   by_cases c2 : x.num < 0 ∨ numsE h x.kind ≤ x.num
   ·rw [if_pos c2] at he; cases he
   ·rw [hno] at c2; omega
 refine ⟨p1, by omega, by omega, by omega, by omega, by omega, fun e => hn (.inl e), fun e => hn (.inr e), fun hm => ?_⟩
 unfold actE at he
 by_cases c1 : rangeE 0 100000000 x.tick ≠ 0
 ·rw [if_pos c1] at he; exact absurd he c1
 ·rw [if_neg c1, if_neg (by simpa using p1)] at he
  by_cases c2 : x.num < 0 ∨ numsE h x.kind ≤ x.num
  ·rw [if_pos c2] at he; cases he
  ·rw [if_neg c2, if_neg hm] at he
   cases hz : zerB x.a x.b x.c with
   | false => rw [hz] at he; cases he
   | true =>
    simp only [zerB, Bool.and_eq_true, beq_iff_eq] at hz
    exact hz

def bodyA (x : ActI) : List UInt8 := joinB 32 (x.kind :: (intA x).map itoaS)
theorem body_line (x : ActI) : bodyA x ++ [10] = lineA x := by
 by_cases hm : x.kind = kMeasure
 ·rw [lineA_m hm]; simp [bodyA, intA, hm, joinB]
 ·by_cases ha : x.kind ∈ [kArm, kDisarm, kShoot]
  ·rw [lineA_1 hm ha]; simp only [bodyA, intA, if_neg hm, if_pos ha]; simp [joinB]
  ·rw [lineA_2 hm ha]; simp only [bodyA, intA, if_neg hm, if_neg ha]; simp [joinB]
theorem text_lines (l : List ActI) : textA l = lnT (l.map bodyA) := by
 unfold textA lnT
 rw [List.map_map]
 congr 1
 apply List.map_congr_left
 intro s _
 exact (body_line s).symm
theorem kind_free {k : List UInt8} (h : k ∈ kindL) : (32 : UInt8) ∉ k ∧ (10 : UInt8) ∉ k ∧ k ≠ [] := by
 simp only [kindL, List.mem_cons, List.not_mem_nil, or_false] at h
 rcases h with h | h | h | h | h | h | h | h | h | h <;> subst h <;> decide
theorem joinB_split (c : UInt8) : ∀ (ws : List (List UInt8)), ws ≠ [] → (∀ w ∈ ws, c ∉ w) → splitS c (joinB c ws) = ws := by
 intro ws
 induction ws with
 | nil => intro h; exact absurd rfl h
 | cons w q ih =>
  intro _ h
  by_cases hq : q = []
  ·subst hq; rw [joinB_one, splitS_none (h w (by simp))]
  ·rw [joinB_more c w hq, splitS_at (h w (by simp)), ih hq (fun x hx => h x (by simp [hx]))]
theorem joinB_free (c b : UInt8) (hb : b ≠ c) : ∀ (ws : List (List UInt8)), (∀ w ∈ ws, b ∉ w) → b ∉ joinB c ws := by
 intro ws
 induction ws with
 | nil => intro _ h; cases h
 | cons w q ih =>
  intro h
  by_cases hq : q = []
  ·subst hq; rw [joinB_one]; exact h w (by simp)
  ·rw [joinB_more c w hq]
   have h1 := h w (by simp)
   have h2 := ih (fun x hx => h x (by simp [hx]))
   simp [h1, h2, hb]
theorem intA_rng {x : ActI} (h : ShA x) : ∀ y ∈ intA x, 0 ≤ y ∧ y ≤ 999999999 := by
 unfold intA
 intro y hy
 split at hy
 ·simp only [List.mem_cons, List.not_mem_nil, or_false] at hy
  rcases hy with rfl | rfl | rfl | rfl
  ·exact h.t
  ·exact h.a
  ·exact h.b
  ·exact h.c
 ·split at hy
  ·simp only [List.mem_cons, List.not_mem_nil, or_false] at hy
   subst hy; exact h.t
  ·simp only [List.mem_cons, List.not_mem_nil, or_false] at hy
   rcases hy with rfl | rfl
   ·exact h.t
   ·exact h.n
theorem body_split {x : ActI} (h : ShA x) : splitS 32 (bodyA x) = x.kind :: (intA x).map itoaS := by
 unfold bodyA
 apply joinB_split 32 _ (by simp)
 intro w hw
 rcases List.mem_cons.1 hw with rfl | hw
 ·exact (kind_free h.k).1
 ·obtain ⟨y, hy, rfl⟩ := List.mem_map.1 hw
  have := intA_rng h y hy
  exact itoa_free this.1 this.2 (by decide)
theorem body_free {x : ActI} (h : ShA x) : (10 : UInt8) ∉ bodyA x := by
 unfold bodyA
 apply joinB_free 32 10 (by decide)
 intro w hw
 rcases List.mem_cons.1 hw with rfl | hw
 ·exact (kind_free h.k).2.1
 ·obtain ⟨y, hy, rfl⟩ := List.mem_map.1 hw
  have := intA_rng h y hy
  exact itoa_free this.1 this.2 (by decide)
theorem body_ne {x : ActI} (h : ShA x) : bodyA x ≠ [] := by
 have h0 := (kind_free h.k).2.2
 unfold bodyA
 cases hk : x.kind with
 | nil => exact absurd hk h0
 | cons b r =>
  intro e
  cases hq : (intA x).map itoaS with
  | nil => rw [hq, joinB_one] at e; cases e
  | cons p q => rw [hq, joinB_more 32 (b :: r) (by simp)] at e; cases e
theorem body_read {x : ActI} (h : ShA x) : actW (bodyA x) = some x := by
 have d := fun y hy => itoa_dig (intA_rng h y hy).1 (intA_rng h y hy).2
 unfold actW
 rw [body_split h]
 obtain ⟨t, k, m, a, b, c⟩ := x
 have z1 := h.z1
 have z2 := h.z2
 have z3 := h.z3
 have hk := h.k
 simp only at z1 z2 z3 hk
 unfold intA at *
 by_cases hm : k = kMeasure
 ·simp only [hm, if_true] at d ⊢
  have d1 := d t (by simp)
  have d2 := d a (by simp)
  have d3 := d b (by simp)
  have d4 := d c (by simp)
  simp only [List.map_cons, List.map_nil, wordsA, d1, d2, d3, d4, if_true, and_self]
  rw [z1 hm]
 ·by_cases ha : k ∈ [kArm, kDisarm, kShoot]
  ·simp only [if_neg hm, if_pos ha] at d ⊢
   have d1 := d t (by simp)
   have z3 := z3 hm
   simp only [List.map_cons, List.map_nil, wordsA, d1, ha, if_true, and_self]
   rw [z2 ha, z3.1, z3.2.1, z3.2.2]
  ·simp only [if_neg hm, if_neg ha] at d ⊢
   have d1 := d t (by simp)
   have d2 := d m (by simp)
   have z3 := z3 hm
   simp only [List.map_cons, List.map_nil, wordsA, d1, d2, hk, hm, ha, not_false_eq_true, if_true, and_self]
   rw [z3.1, z3.2.1, z3.2.2]
theorem read_body {w : List UInt8} {x : ActI} (h : actW w = some x) : w = bodyA x := by
 have hj := split_join 32 w
 unfold actW at h
 rw [← hj]
 generalize splitS 32 w = ws at *
 have m1 : ¬ kMeasure ∈ [kArm, kDisarm, kShoot] := by decide
 rcases ws with _ | ⟨k, _ | ⟨t, _ | ⟨a, _ | ⟨b, _ | ⟨c, _ | ⟨e, r⟩⟩⟩⟩⟩⟩
 ·cases h
 ·cases h
 ·simp only [wordsA] at h
  split at h
  ·rename_i q
   cases h
   have hm : ¬ k = kMeasure := fun e => m1 (e ▸ q.1)
   simp only [bodyA, intA, if_neg hm, if_pos q.1, List.map_cons, List.map_nil, dig_itoa q.2]
  ·cases h
 ·simp only [wordsA] at h
  split at h
  ·rename_i q
   cases h
   simp only [bodyA, intA, if_neg q.2.1, if_neg q.2.2.1, List.map_cons, List.map_nil, dig_itoa q.2.2.2.1, dig_itoa q.2.2.2.2]
  ·cases h
 ·cases h
 ·simp only [wordsA] at h
  split at h
  ·rename_i q
   cases h
   simp only [bodyA, intA, if_pos q.1, List.map_cons, List.map_nil, dig_itoa q.2.1, dig_itoa q.2.2.1, dig_itoa q.2.2.2.1, dig_itoa q.2.2.2.2]
  ·cases h
 ·cases h

theorem goL_reads (last : List UInt8) : ∀ (xs out : List ActI), (∀ x ∈ xs, ShA x) → goL (xs.map bodyA ++ [last]) out = (decide (last = []), out ++ xs)
 | [], out, _ => by simp [goL_one]
 | x :: xs, out, h => by
  have h3 := goL_reads last xs (out ++ [x]) (fun y hy => h y (by simp [hy]))
  rw [List.map_cons, List.cons_append, goL_more (by simp), body_read (h x (by simp))]
  simp only [h3, List.append_assoc, List.cons_append, List.nil_append]
theorem reads_goL : ∀ (ps : List (List UInt8)) (out o : List ActI), ps ≠ [] → goL ps out = (true, o) → ∃ xs, o = out ++ xs ∧ ps = xs.map bodyA ++ [[]] := by
 intro ps
 induction ps with
 | nil => intro _ _ h; exact absurd rfl h
 | cons w q ih =>
  intro out o _ h
  by_cases hq : q = []
  ·subst hq
   rw [goL_one] at h
   obtain ⟨h1, h2⟩ := Prod.mk.inj h
   have : w = [] := by simpa using h1
   subst this
   exact ⟨[], by simp [h2], rfl⟩
  ·rw [goL_more hq] at h
   cases hp : actW w with
   | none => rw [hp] at h; cases h
   | some x =>
    rw [hp] at h
    obtain ⟨xs, e1, e2⟩ := ih (out ++ [x]) o hq h
    refine ⟨x :: xs, by rw [e1]; simp, ?_⟩
    rw [e2, read_body hp]; rfl

theorem chk_parts {h : HallI} {l : List ActI} (hc : chkE h l = 0) : actsE h l = 0 ∧ (runH h l).2 = true ∧ ∀ x ∈ l, ShA x := by
 unfold chkE at hc
 split at hc
 ·rename_i q; exact absurd hc q
 ·rename_i q
  have q : actsE h l = 0 := by simpa using q
  obtain ⟨z1, z2, z3⟩ := acts_ok q
  refine ⟨q, ?_, fun x hx => shA_of (doors_of z1).2 (z3 x hx)⟩
  split at hc
  ·rename_i r; exact r
  ·cases hc
theorem split_textA {h : HallI} {l : List ActI} (hc : chkE h l = 0) : splitS 10 (textA l) = l.map bodyA ++ [[]] := by
 obtain ⟨_, _, h2⟩ := chk_parts hc
 have := split_lines (l.map bodyA) [] (fun w hw => by
  obtain ⟨s, hs, rfl⟩ := List.mem_map.1 hw
  exact body_free (h2 s hs)) (by simp)
 rw [List.append_nil] at this
 rw [text_lines, this]
theorem parse_text {h : HallI} {l : List ActI} (hc : chkE h l = 0) : parseL h (textA l) = (l, 0, 0) := by
 obtain ⟨h1, h0, h2⟩ := chk_parts hc
 unfold parseL
 rw [split_textA hc, goL_reads [] l [] h2]
 simp [h1, h0]
theorem split_text {h : HallI} {l : List ActI} (hc : chkE h l = 0) : (splitS 10 (textA l)).length = l.length + 1 := by
 rw [split_textA hc]; simp
theorem text_parse {h : HallI} {s : List UInt8} (hp : (parseL h s).2.2 = 0) : chkE h (parseL h s).1 = 0 ∧ textA (parseL h s).1 = s := by
 unfold parseL at hp ⊢
 split at hp
 ·rename_i h1
  rw [if_pos h1]
  split at hp
  ·rename_i h2
   exact absurd hp h2
  ·rename_i h2
   rw [if_neg h2]
   split at hp
   ·rename_i h3
    rw [if_pos h3]
    refine ⟨by unfold chkE; rw [if_neg h2, if_pos h3], ?_⟩
    have hg : goL (splitS 10 s) [] = (true, (goL (splitS 10 s) []).2) := by rw [← h1]
    obtain ⟨xs, e1, e2⟩ := reads_goL _ _ _ (splitS_ne 10 s) hg
    rw [List.nil_append] at e1
    have hj := split_join 10 s
    rw [e2, join_lines, List.append_nil] at hj
    show textA (goL (splitS 10 s) []).2 = s
    rw [e1, text_lines, hj]
   ·cases hp
 ·cases hp
theorem parse_cut {h : HallI} {l : List ActI} (hc : chkE h l = 0) (h0 : l ≠ []) : parseL h ((textA l).take ((textA l).length - 1)) = ([], (l.length : Int) - 1, 25) ∧ 0 < (textA l).length := by
 obtain ⟨_, _, h2⟩ := chk_parts hc
 obtain ⟨p, x, rfl⟩ : ∃ p x, l = p ++ [x] := ⟨l.dropLast, l.getLast h0, (List.dropLast_concat_getLast _).symm⟩
 have e3 : textA (p ++ [x]) = (lnT (p.map bodyA) ++ bodyA x) ++ [10] := by rw [text_lines]; simp [lnT]
 have e4 : (textA (p ++ [x])).take ((textA (p ++ [x])).length - 1) = lnT (p.map bodyA) ++ bodyA x := by
  rw [e3]
  generalize lnT (p.map bodyA) ++ bodyA x = A
  rw [List.length_append, List.length_singleton, Nat.add_sub_cancel, List.take_left]
 refine ⟨?_, by rw [e3]; simp; omega⟩
 rw [e4]
 unfold parseL
 rw [split_lines _ _ (fun w hw => by
  obtain ⟨s, hs, rfl⟩ := List.mem_map.1 hw
  exact body_free (h2 s (by simp [hs]))) (body_free (h2 x (by simp))), goL_reads _ p [] (fun s hs => h2 s (by simp [hs]))]
 have hne : decide (bodyA x = []) = false := decide_eq_false (body_ne (h2 x (by simp)))
 rw [hne]
 simp
end Fw
end

