/- Several texts in one: steps of the proof, no condition of their own. -/
import Derived.Test.YthiklnppmlmjeaaDoorTgH6
import Derived.KernelRfl
attribute [local irreducible] Fw.evCode Fw.evOps Fw.evOpsD Fw.evOper Fw.evOperD Fw.evOp Fw.evFn Fw.loopN Fw.T.All Fw.T.bind Fw.callPure Fw.callOp Fw.opsK Fw.opsDK Fw.restK Fw.seqK Fw.blockK Fw.loopS Fw.setK Fw.setQ Fw.giveK Fw.scalK Fw.gcK Fw.finish Fw.finS Fw.rfunK Fw.yldK Fw.yldB Fw.loopK
section
set_option maxHeartbeats 16000000
namespace Fw
open Go
abbrev kOpen : List UInt8 := [111, 112, 101, 110]
abbrev kClose : List UInt8 := [99, 108, 111, 115, 101]
abbrev kInsert : List UInt8 := [105, 110, 115, 101, 114, 116]
abbrev kRemove : List UInt8 := [114, 101, 109, 111, 118, 101]
abbrev kEnter : List UInt8 := [101, 110, 116, 101, 114]
abbrev kLeave : List UInt8 := [108, 101, 97, 118, 101]
abbrev kArm : List UInt8 := [97, 114, 109]
abbrev kDisarm : List UInt8 := [100, 105, 115, 97, 114, 109]
abbrev kShoot : List UInt8 := [115, 104, 111, 111, 116]
abbrev kMeasure : List UInt8 := [109, 101, 97, 115, 117, 114, 101]
def kindL : List (List UInt8) := [kOpen, kClose, kInsert, kRemove, kEnter, kLeave, kArm, kDisarm, kShoot, kMeasure]
abbrev strL (l : List (List UInt8)) : AVal := .p (.sl (pStr l) l.length)

theorem index151s {n : Nat} (hn : 1 ≤ n) (l : List (List UInt8)) (v : List UInt8) (hl : l.length < 100000) : ∃ r : Int, RUN n 151 [strL l, sv v] = .ret (iv r) ∧ decide (0 ≤ r) = decide (v ∈ l) := by
 obtain ⟨d, rfl⟩ : ∃ d, n = d + 1 := ⟨n - 1, by omega⟩
 rw [RUN, call_eq fe151 _ rfl]
 let inv : Nat → St := fun i => ⟨[(0, strL l), (1, sv v), (7, iv l.length), (8, iv i)], []⟩
 have key := loop_first (step := loopS (evFn F C0 G0 d) C0 G0 0 false [0, 1, 7, 8] c151L0) inv (fun i => if v = l.getD i [] then 1 else 0) l.length (.exit 0, ⟨(inv l.length).env ++ [(9, .p (.bool false))], []⟩) (fun i => (.ret, ⟨[(4, iv i)], []⟩))
  (st0 := ⟨[(0, strL l), (1, sv v), (7, iv l.length), (8, iv 0)], []⟩) (fuel := loopFuel) rfl (fun i hi => by
   have hlt : (i : Int) < l.length := by omega
   have hgd : l.getD i [] = l[i] := by simp [List.getD_eq_getElem?_getD, List.getElem?_eq_getElem hi]
   have hgn : ∀ q, (pStr l)[i]'q = .str l[i] := fun q => by simp [pStr]
   have hpl : (pStr l).length = l.length := by simp
   have hw := wrap_succ (i := i) (by omega)
   simp only [hgd]
   generalize hQ : pStr l = Q at *
   by_cases h : v = l[i]
   ·rw [if_pos h]
    refine ⟨fun h0 => absurd h0 (by decide), fun _ => ?_⟩
    generalize l[i] = y at *
    subst h
    simp -implicitDefEqProofs [inv, hQ, loopS_eq, c151L0, hi, hlt, hgn, hpl, strBin]
   ·rw [if_neg h]
    have hne : (v == l[i]) = false := by simpa using h
    generalize l[i] = y at *
    refine ⟨fun _ => ⟨?_, ?h1, ?h2⟩, fun h0 => absurd rfl h0⟩
    case h1 =>
     simp -implicitDefEqProofs [inv, hQ, loopS_eq, c151L0, hi, hlt, hgn, hpl, hw, hne, strBin]
     exact rfl
    case h2 => simp [inv]) (fun _ => by simp) (by simp -implicitDefEqProofs [inv, loopS_eq, c151L0]) (by simp) (by simp [loopFuel]; omega)
 simp -implicitDefEqProofs [c151]
 rcases key with ⟨k1, k2⟩ | ⟨j, hj, k1, k2, k3, k4⟩
 ·rw [k1]
  have : ¬ v ∈ l := fun hm => by
   obtain ⟨i, hi, h⟩ := List.getElem_of_mem hm
   have := firstE_zero.1 k2 _ (List.mem_map.2 ⟨i, List.mem_range.2 hi, rfl⟩)
   rw [if_pos (by simp [List.getD_eq_getElem?_getD, hi, h])] at this
   cases this
  refine ⟨-1, ?_, ?_⟩
  ·simp -implicitDefEqProofs [inv]
  ·simp [this]
 ·rw [k1]
  have : v ∈ l := by
   have hx : v = l.getD j [] := by
    by_cases h : v = l.getD j []
    ·exact h
    ·rw [if_neg h] at k3; exact absurd rfl k3
   rw [hx]
   simp [List.getD_eq_getElem?_getD, hj]
  refine ⟨j, ?_, ?_⟩
  ·simp -implicitDefEqProofs []
  ·simp [this]
theorem contains137 {n : Nat} (hn : 2 ≤ n) (l : List (List UInt8)) (v : List UInt8) (hl : l.length < 100000) : RUN n 137 [strL l, sv v] = .ret (.p (.bool (decide (v ∈ l)))) := by
 obtain ⟨d, rfl⟩ : ∃ d, n = d + 2 := ⟨n - 2, by omega⟩
 rw [RUN, call_eq fe137 _ rfl]
 obtain ⟨r, k, h⟩ := index151s (n := d + 1) (by omega) l v hl
 rw [← h]
 simp -implicitDefEqProofs [c137, k]
structure ActI where
 tick : Int
 kind : List UInt8
 num : Int
 a : Int
 b : Int
 c : Int
abbrev aa (x : ActI) : AVal := .agg [iv x.tick, sv x.kind, iv x.num, iv x.a, iv x.b, iv x.c]
theorem is111 {n : Nat} (hn : 3 ≤ n) (x : ActI) (l : List (List UInt8)) (hl : l.length < 100000) : RUN n 111 [aa x, strL l] = .ret (.p (.bool (decide (x.kind ∈ l)))) := by
 obtain ⟨d, rfl⟩ : ∃ d, n = d + 3 := ⟨n - 3, by omega⟩
 rw [RUN, call_eq fe111 _ rfl]
 have k := contains137 (n := d + 2) (by omega) l x.kind hl
 simp -implicitDefEqProofs [c111, k]
theorem word21 {n : Nat} (hn : 1 ≤ n) (l : List (List UInt8)) (v : List UInt8) (hl : l.length < 100000) : RUN n 21 [strL l, sv v] = .ret (.p (.bool (decide (v ∈ l)))) := by
 obtain ⟨d, rfl⟩ : ∃ d, n = d + 1 := ⟨n - 1, by omega⟩
 rw [RUN, call_eq fe21 _ rfl]
 let inv : Nat → St := fun i => ⟨[(0, strL l), (1, sv v), (5, iv i)], []⟩
 have key := loop_first (step := loopS (evFn F C0 G0 d) C0 G0 0 false [0, 1, 5] c21L0) inv (fun i => if v = l.getD i [] then 1 else 0) l.length (.exit 0, ⟨(inv l.length).env ++ [(9, .p (.bool false))], []⟩) (fun _ => (.ret, ⟨[(4, .p (.bool true))], []⟩))
  (st0 := ⟨[(0, strL l), (1, sv v), (5, iv 0)], []⟩) (fuel := loopFuel) rfl (fun i hi => by
   have hlt : (i : Int) < l.length := by omega
   have hgd : l.getD i [] = l[i] := by simp [List.getD_eq_getElem?_getD, List.getElem?_eq_getElem hi]
   have hgn : ∀ q, (pStr l)[i]'q = .str l[i] := fun q => by simp [pStr]
   have hpl : (pStr l).length = l.length := by simp
   have hw := wrap_succ (i := i) (by omega)
   simp only [hgd]
   generalize hQ : pStr l = Q at *
   by_cases h : v = l[i]
   ·rw [if_pos h]
    refine ⟨fun h0 => absurd h0 (by decide), fun _ => ?_⟩
    generalize l[i] = y at *
    subst h
    simp -implicitDefEqProofs [inv, hQ, loopS_eq, c21L0, hi, hlt, hgn, hpl, strBin]
   ·rw [if_neg h]
    have hne : (l[i] == v) = false := by simpa using fun e => h e.symm
    have h' : ¬ l[i] = v := fun e => h e.symm
    generalize l[i] = y at *
    refine ⟨fun _ => ⟨?_, ?h1, ?h2⟩, fun h0 => absurd rfl h0⟩
    case h1 =>
     simp -implicitDefEqProofs [inv, hQ, loopS_eq, c21L0, hi, hlt, hgn, hpl, hw, hne, strBin]
     exact rfl
    case h2 => simp [inv]) (fun _ => by simp) (by simp -implicitDefEqProofs [inv, loopS_eq, c21L0]) (by simp) (by simp [loopFuel]; omega)
 simp -implicitDefEqProofs [c21]
 rcases key with ⟨k1, k2⟩ | ⟨j, hj, k1, k2, k3, k4⟩
 ·rw [k1]
  have : ¬ v ∈ l := fun hm => by
   obtain ⟨i, hi, h⟩ := List.getElem_of_mem hm
   have := firstE_zero.1 k2 _ (List.mem_map.2 ⟨i, List.mem_range.2 hi, rfl⟩)
   rw [if_pos (by simp [List.getD_eq_getElem?_getD, hi, h])] at this
   cases this
  simp -implicitDefEqProofs [inv, this]
 ·rw [k1]
  have : v ∈ l := by
   have hx : v = l.getD j [] := by
    by_cases h : v = l.getD j []
    ·exact h
    ·rw [if_neg h] at k3; exact absurd rfl k3
   rw [hx]
   simp [List.getD_eq_getElem?_getD, hj]
  simp -implicitDefEqProofs [this]
theorem byWord110 {n : Nat} (hn : 1 ≤ n) : RUN n 110 [] = .ret (.p (.map (pStr kindL) [.int .i64 0, .int .i64 1, .int .i64 2, .int .i64 3, .int .i64 4, .int .i64 5, .int .i64 6, .int .i64 7, .int .i64 8, .int .i64 9])) := by
 obtain ⟨d, rfl⟩ : ∃ d, n = d + 1 := ⟨n - 1, by omega⟩
 kernel_rfl
def doorB (k : List UInt8) : Bool := k == kOpen || k == kClose || k == kEnter || k == kLeave
def keyB (k : List UInt8) : Bool := k == kInsert || k == kRemove
end Fw
end

section
set_option maxHeartbeats 16000000
namespace Fw
open Go

def numsE (h : HallI) (k : List UInt8) : Int := if doorB k = true then h.doors else if keyB k = true then 2 else 1
def zerB (a b c : Int) : Bool := a == 0 && (b == 0 && c == 0)
def actE (h : HallI) (x : ActI) : Int :=
 if rangeE 0 100000000 x.tick ≠ 0 then rangeE 0 100000000 x.tick else if ¬ x.kind ∈ kindL then 13 else if x.num < 0 ∨ numsE h x.kind ≤ x.num then 10
 else if x.kind = kMeasure then valE x.a x.b x.c else whenE (!zerB x.a x.b x.c) 1
theorem find_no (k : List UInt8) (vs : List PVal) : ∀ ns : List (List UInt8), vs.length = ns.length → ¬ k ∈ ns → mapFind (.str k) (pStr ns) vs = some none := by
 intro ns
 induction ns generalizing vs with
 | nil => intro h _; rw [List.eq_nil_of_length_eq_zero h]; rfl
 | cons a r ih =>
  intro h hn
  match vs, h with
  | v :: q, h =>
   have hb : (k == a) = false := by simpa using fun e => hn (by simp [e])
   have := ih q (by simpa using h) (fun e => hn (by simp [e]))
   simp only [pStr] at this
   simp [pStr, mapFind, keyEq, eqP, hb, this]
theorem call_door {n : Nat} (hn : 1 ≤ n) (h : HallI) : RUN n 174 [ha h] = .ret (iv h.doors) := by
 obtain ⟨d, rfl⟩ : ∃ d, n = d + 1 := ⟨n - 1, by omega⟩
 rw [RUN, call_eq fe174 _ rfl]
 simp -implicitDefEqProofs [c174]
theorem call_key {n : Nat} (hn : 1 ≤ n) (h : HallI) : RUN n 179 [ha h] = .ret (iv 2) := by
 obtain ⟨d, rfl⟩ : ∃ d, n = d + 1 := ⟨n - 1, by omega⟩
 rw [RUN, call_eq fe179 _ rfl]
 simp -implicitDefEqProofs [c179]
theorem call_none {n : Nat} (hn : 1 ≤ n) (h : HallI) : RUN n 188 [ha h] = .ret (iv 1) := by
 obtain ⟨d, rfl⟩ : ∃ d, n = d + 1 := ⟨n - 1, by omega⟩
 rw [RUN, call_eq fe188 _ rfl]
 simp -implicitDefEqProofs [c188]
theorem check63 {n : Nat} (hn : 6 ≤ n) (h : HallI) (x : ActI) : RUN n 63 [aa x, ha h] = .ret (iv (actE h x)) := by
 obtain ⟨d, rfl⟩ : ∃ d, n = d + 6 := ⟨n - 6, by omega⟩
 rw [RUN, call_eq fe63 _ rfl]
 have kr := within80 (n := d + 5) (by omega) x.tick 0 100000000
 by_cases h0 : rangeE 0 100000000 x.tick = 0
 ·have hE : actE h x = if ¬ x.kind ∈ kindL then 13 else if x.num < 0 ∨ numsE h x.kind ≤ x.num then 10 else if x.kind = kMeasure then valE x.a x.b x.c else whenE (!zerB x.a x.b x.c) 1 := by simp only [actE, h0, ne_eq, not_true_eq_false, if_false]
  rw [hE]
  rw [h0] at kr
  have kb := byWord110 (n := d + 5) (by omega)
  by_cases hk : x.kind ∈ kindL
  ·rw [if_neg (not_not_intro hk)]
   obtain ⟨t, k, m, a, b, c⟩ := x
   have ki := is111 (n := d + 5) (by omega) ⟨t, k, m, a, b, c⟩ [kMeasure] (by simp)
   have kd := call_door (n := d + 5) (by omega) h
   have kk := call_key (n := d + 5) (by omega) h
   have kn := call_none (n := d + 5) (by omega) h
   have kv := measures58 (n := d + 5) (by omega) a b c
   have kw := when81 (n := d + 5) (by omega) (!zerB a b c) 1
   have hz : (!zerB a b c) = (!a == 0 || (!b == 0 || !c == 0)) := by simp only [zerB, Bool.not_and]
   simp only [hz] at kw ⊢
   simp only [kindL, List.mem_cons, List.not_mem_nil, or_false] at hk
   simp only at kr h0 ⊢
   have hG : G0 0 = some g0 := rfl
   simp only [strL, pStr, List.map_cons, List.map_nil, List.length_cons, List.length_nil] at ki
   generalize valE a b c = V at *
   rcases hk with rfl | rfl | rfl | rfl | rfl | rfl | rfl | rfl | rfl | rfl
   ·have hm : mapFind (.str kOpen) (pStr kindL) [.int .i64 0, .int .i64 1, .int .i64 2, .int .i64 3, .int .i64 4, .int .i64 5, .int .i64 6, .int .i64 7, .int .i64 8, .int .i64 9] = some (some (.int .i64 0)) := by kernel_rfl
    rw [show numsE h kOpen = h.doors from rfl]
    by_cases c1 : m < 0
    ·simp -implicitDefEqProofs [c63, kr, kb, hm, c1]
    ·by_cases c2 : h.doors ≤ m
     ·simp -implicitDefEqProofs [c63, kr, kb, hm, c1, hG, g0, kd, c2]
     ·simp -implicitDefEqProofs [c63, kr, kb, hm, c1, hG, g0, kd, c2, ki, kw]
   ·have hm : mapFind (.str kClose) (pStr kindL) [.int .i64 0, .int .i64 1, .int .i64 2, .int .i64 3, .int .i64 4, .int .i64 5, .int .i64 6, .int .i64 7, .int .i64 8, .int .i64 9] = some (some (.int .i64 1)) := by kernel_rfl
    rw [show numsE h kClose = h.doors from rfl]
    by_cases c1 : m < 0
    ·simp -implicitDefEqProofs [c63, kr, kb, hm, c1]
    ·by_cases c2 : h.doors ≤ m
     ·simp -implicitDefEqProofs [c63, kr, kb, hm, c1, hG, g0, kd, c2]
     ·simp -implicitDefEqProofs [c63, kr, kb, hm, c1, hG, g0, kd, c2, ki, kw]
   ·have hm : mapFind (.str kInsert) (pStr kindL) [.int .i64 0, .int .i64 1, .int .i64 2, .int .i64 3, .int .i64 4, .int .i64 5, .int .i64 6, .int .i64 7, .int .i64 8, .int .i64 9] = some (some (.int .i64 2)) := by kernel_rfl
    rw [show numsE h kInsert = 2 from rfl]
    by_cases c1 : m < 0
    ·simp -implicitDefEqProofs [c63, kr, kb, hm, c1]
    ·by_cases c2 : 2 ≤ m
     ·simp -implicitDefEqProofs [c63, kr, kb, hm, c1, hG, g0, kk, c2]
     ·simp -implicitDefEqProofs [c63, kr, kb, hm, c1, hG, g0, kk, c2, ki, kw]
   ·have hm : mapFind (.str kRemove) (pStr kindL) [.int .i64 0, .int .i64 1, .int .i64 2, .int .i64 3, .int .i64 4, .int .i64 5, .int .i64 6, .int .i64 7, .int .i64 8, .int .i64 9] = some (some (.int .i64 3)) := by kernel_rfl
    rw [show numsE h kRemove = 2 from rfl]
    by_cases c1 : m < 0
    ·simp -implicitDefEqProofs [c63, kr, kb, hm, c1]
    ·by_cases c2 : 2 ≤ m
     ·simp -implicitDefEqProofs [c63, kr, kb, hm, c1, hG, g0, kk, c2]
     ·simp -implicitDefEqProofs [c63, kr, kb, hm, c1, hG, g0, kk, c2, ki, kw]
   ·have hm : mapFind (.str kEnter) (pStr kindL) [.int .i64 0, .int .i64 1, .int .i64 2, .int .i64 3, .int .i64 4, .int .i64 5, .int .i64 6, .int .i64 7, .int .i64 8, .int .i64 9] = some (some (.int .i64 4)) := by kernel_rfl
    rw [show numsE h kEnter = h.doors from rfl]
    by_cases c1 : m < 0
    ·simp -implicitDefEqProofs [c63, kr, kb, hm, c1]
    ·by_cases c2 : h.doors ≤ m
     ·simp -implicitDefEqProofs [c63, kr, kb, hm, c1, hG, g0, kd, c2]
     ·simp -implicitDefEqProofs [c63, kr, kb, hm, c1, hG, g0, kd, c2, ki, kw]
   ·have hm : mapFind (.str kLeave) (pStr kindL) [.int .i64 0, .int .i64 1, .int .i64 2, .int .i64 3, .int .i64 4, .int .i64 5, .int .i64 6, .int .i64 7, .int .i64 8, .int .i64 9] = some (some (.int .i64 5)) := by kernel_rfl
    rw [show numsE h kLeave = h.doors from rfl]
    by_cases c1 : m < 0
    ·simp -implicitDefEqProofs [c63, kr, kb, hm, c1]
    ·by_cases c2 : h.doors ≤ m
     ·simp -implicitDefEqProofs [c63, kr, kb, hm, c1, hG, g0, kd, c2]
     ·simp -implicitDefEqProofs [c63, kr, kb, hm, c1, hG, g0, kd, c2, ki, kw]
   ·have hm : mapFind (.str kArm) (pStr kindL) [.int .i64 0, .int .i64 1, .int .i64 2, .int .i64 3, .int .i64 4, .int .i64 5, .int .i64 6, .int .i64 7, .int .i64 8, .int .i64 9] = some (some (.int .i64 6)) := by kernel_rfl
    rw [show numsE h kArm = 1 from rfl]
    by_cases c1 : m < 0
    ·simp -implicitDefEqProofs [c63, kr, kb, hm, c1]
    ·by_cases c2 : 1 ≤ m
     ·simp -implicitDefEqProofs [c63, kr, kb, hm, c1, hG, g0, kn, c2]
     ·simp -implicitDefEqProofs [c63, kr, kb, hm, c1, hG, g0, kn, c2, ki, kw]
   ·have hm : mapFind (.str kDisarm) (pStr kindL) [.int .i64 0, .int .i64 1, .int .i64 2, .int .i64 3, .int .i64 4, .int .i64 5, .int .i64 6, .int .i64 7, .int .i64 8, .int .i64 9] = some (some (.int .i64 7)) := by kernel_rfl
    rw [show numsE h kDisarm = 1 from rfl]
    by_cases c1 : m < 0
    ·simp -implicitDefEqProofs [c63, kr, kb, hm, c1]
    ·by_cases c2 : 1 ≤ m
     ·simp -implicitDefEqProofs [c63, kr, kb, hm, c1, hG, g0, kn, c2]
     ·simp -implicitDefEqProofs [c63, kr, kb, hm, c1, hG, g0, kn, c2, ki, kw]
   ·have hm : mapFind (.str kShoot) (pStr kindL) [.int .i64 0, .int .i64 1, .int .i64 2, .int .i64 3, .int .i64 4, .int .i64 5, .int .i64 6, .int .i64 7, .int .i64 8, .int .i64 9] = some (some (.int .i64 8)) := by kernel_rfl
    rw [show numsE h kShoot = 1 from rfl]
    by_cases c1 : m < 0
    ·simp -implicitDefEqProofs [c63, kr, kb, hm, c1]
    ·by_cases c2 : 1 ≤ m
     ·simp -implicitDefEqProofs [c63, kr, kb, hm, c1, hG, g0, kn, c2]
     ·simp -implicitDefEqProofs [c63, kr, kb, hm, c1, hG, g0, kn, c2, ki, kw]
   ·have hm : mapFind (.str kMeasure) (pStr kindL) [.int .i64 0, .int .i64 1, .int .i64 2, .int .i64 3, .int .i64 4, .int .i64 5, .int .i64 6, .int .i64 7, .int .i64 8, .int .i64 9] = some (some (.int .i64 9)) := by kernel_rfl
    rw [show numsE h kMeasure = 1 from rfl]
    by_cases c1 : m < 0
    ·simp -implicitDefEqProofs [c63, kr, kb, hm, c1]
    ·by_cases c2 : 1 ≤ m
     ·simp -implicitDefEqProofs [c63, kr, kb, hm, c1, hG, g0, kn, c2]
     ·simp -implicitDefEqProofs [c63, kr, kb, hm, c1, hG, g0, kn, c2, ki, kv]
  ·rw [if_pos hk]
   have hm := find_no x.kind [.int .i64 0, .int .i64 1, .int .i64 2, .int .i64 3, .int .i64 4, .int .i64 5, .int .i64 6, .int .i64 7, .int .i64 8, .int .i64 9] kindL rfl hk
   simp -implicitDefEqProofs [c63, kr, kb, hm]
 ·have hE : actE h x = rangeE 0 100000000 x.tick := by simp only [actE, ne_eq, h0, not_false_eq_true, if_true]
  rw [hE]
  generalize rangeE 0 100000000 x.tick = e at *
  simp -implicitDefEqProofs [c63, kr, h0]
end Fw
end

section
set_option maxHeartbeats 16000000
namespace Fw
open Go

theorem wait16 {n : Nat} (hn : 7 ≤ n) (h : HallI) (g0 : h.t0.length < 1000000) (g1 : h.t1.length < 1000000) (g2 : h.t2.length < 1000000) (a b c : Int) : RUN n 16 [ha h, v3 a b c] = .ret (if firstE [hallE h, valE a b c] = 0 then .tup [iv (waitP h a b c), iv 0] else .tup [iv 0, iv (firstE [hallE h, valE a b c])]) := by
 obtain ⟨d, rfl⟩ : ∃ d, n = d + 7 := ⟨n - 7, by omega⟩
 rw [RUN, call_eq fe16 _ rfl]
 have k1 := hall57 (n := d + 6) (by omega) h g0 g1 g2
 have k2 := measures58 (n := d + 6) (by omega) a b c
 have k3 := first56_2 (n := d + 6) (by omega) (hallE h) (valE a b c)
 have k4 := wait59 (n := d + 6) (by omega) h g0 g1 g2 a b c
 generalize waitP h a b c = W at *
 generalize hallE h = e at *
 generalize valE a b c = v at *
 by_cases h0 : firstE [e, v] = 0
 ·rw [h0] at k3
  simp -implicitDefEqProofs [c16, k1, k2, k3, k4, h0]
 ·generalize firstE [e, v] = f at *
  simp -implicitDefEqProofs [c16, k1, k2, k3, h0]
theorem doors_of {h : HallI} (hz : hallE h = 0) : 1 ≤ h.doors ∧ h.doors ≤ 8 := by
 have := firstE_zero.1 hz (rangeE 1 8 h.doors) (by simp)
 unfold rangeE at this
 split at this
 ·cases this
 ·omega
end Fw
end

section
set_option maxHeartbeats 16000000
namespace Fw
open Go

structure StaI where
 tick : Int
 o0 : Bool
 o1 : Bool
 o2 : Bool
 o3 : Bool
 o4 : Bool
 o5 : Bool
 o6 : Bool
 o7 : Bool
 k0 : Bool
 k1 : Bool
 people : Int
 armed : Bool
 shot : Int
 adm : Int
abbrev bl (b : Bool) : AVal := .p (.bool b)
def sc (s : StaI) : List PVal := [.int .i64 s.tick, .bool s.o0, .bool s.o1, .bool s.o2, .bool s.o3, .bool s.o4, .bool s.o5, .bool s.o6, .bool s.o7, .bool s.k0, .bool s.k1, .int .i64 s.people, .bool s.armed, .int .i64 s.shot, .int .i64 s.adm]
abbrev sa (s : StaI) : AVal := .agg [iv s.tick, bl s.o0, bl s.o1, bl s.o2, bl s.o3, bl s.o4, bl s.o5, bl s.o6, bl s.o7, bl s.k0, bl s.k1, iv s.people, bl s.armed, iv s.shot, iv s.adm]
def opn (s : StaI) (n : Int) : Bool := if n = 0 then s.o0 else if n = 1 then s.o1 else if n = 2 then s.o2 else if n = 3 then s.o3 else if n = 4 then s.o4 else if n = 5 then s.o5 else if n = 6 then s.o6 else s.o7
def key (s : StaI) (n : Int) : Bool := if n = 0 then s.k0 else s.k1
def setO (s : StaI) (n : Int) (b : Bool) : StaI := if n = 0 then { s with o0 := b } else if n = 1 then { s with o1 := b } else if n = 2 then { s with o2 := b } else if n = 3 then { s with o3 := b } else if n = 4 then { s with o4 := b } else if n = 5 then { s with o5 := b } else if n = 6 then { s with o6 := b } else { s with o7 := b }
def setY (s : StaI) (n : Int) (b : Bool) : StaI := if n = 0 then { s with k0 := b } else { s with k1 := b }
def anyO (s : StaI) : Bool := s.o0 || (s.o1 || (s.o2 || (s.o3 || (s.o4 || (s.o5 || (s.o6 || s.o7))))))
def stB (s : StaI) (x : ActI) : Bool :=
 if x.kind = kOpen then opn s x.num else if x.kind = kClose then !opn s x.num else if x.kind = kInsert then key s x.num else if x.kind = kRemove then !key s x.num
 else if x.kind = kEnter then decide (100 ≤ s.people) else if x.kind = kLeave then s.people == 0 else if x.kind = kArm then s.armed else if x.kind = kDisarm then !s.armed else if x.kind = kShoot then !s.armed else s.shot == -1
def armB (s : StaI) (x : ActI) : Bool := s.armed && decide (x.kind ∈ [kOpen, kRemove, kEnter])
def dooB (s : StaI) (x : ActI) : Bool := (decide (x.kind ∈ [kEnter, kLeave]) && !opn s x.num) || (decide (x.kind ∈ [kArm]) && anyO s)
def peoB (s : StaI) (x : ActI) : Bool := decide (x.kind ∈ [kArm]) && decide (0 < s.people)
def keyR (s : StaI) (x : ActI) : Bool := decide (x.kind ∈ [kArm]) && (!s.k0 || !s.k1)
def admB (s : StaI) (t : Int) : Bool := (s.adm != -1) && decide (s.adm ≤ t)
def waiB (s : StaI) (x : ActI) : Bool := decide (x.kind ∈ [kOpen, kEnter, kArm]) && !admB s x.tick
def NumOk (x : ActI) : Prop := x.kind ∈ kindL ∧ (doorB x.kind = true → 0 ≤ x.num ∧ x.num < 8) ∧ (keyB x.kind = true → 0 ≤ x.num ∧ x.num < 2)
theorem eight {m : Int} (h : 0 ≤ m ∧ m < 8) : m = 0 ∨ m = 1 ∨ m = 2 ∨ m = 3 ∨ m = 4 ∨ m = 5 ∨ m = 6 ∨ m = 7 := by omega
theorem two {m : Int} (h : 0 ≤ m ∧ m < 2) : m = 0 ∨ m = 1 := by omega

theorem st175 {n : Nat} (hn : 1 ≤ n) (s : StaI) (x : ActI) (h : 0 ≤ x.num ∧ x.num < 8) : RUN n 175 [sa s, aa x] = .ret (bl (opn s x.num)) := by
 obtain ⟨d, rfl⟩ : ∃ d, n = d + 1 := ⟨n - 1, by omega⟩
 rw [RUN, call_eq fe175 _ rfl]
 obtain ⟨t, k, m, a, b, c⟩ := x
 obtain ⟨st, o0, o1, o2, o3, o4, o5, o6, o7, k0, k1, pp, ar, sh, ad⟩ := s
 rcases eight h with rfl | rfl | rfl | rfl | rfl | rfl | rfl | rfl <;> simp -implicitDefEqProofs [c175, opn]

theorem st177 {n : Nat} (hn : 1 ≤ n) (s : StaI) (x : ActI) (h : 0 ≤ x.num ∧ x.num < 8) : RUN n 177 [sa s, aa x] = .ret (bl (!opn s x.num)) := by
 obtain ⟨d, rfl⟩ : ∃ d, n = d + 1 := ⟨n - 1, by omega⟩
 rw [RUN, call_eq fe177 _ rfl]
 obtain ⟨t, k, m, a, b, c⟩ := x
 obtain ⟨st, o0, o1, o2, o3, o4, o5, o6, o7, k0, k1, pp, ar, sh, ad⟩ := s
 rcases eight h with rfl | rfl | rfl | rfl | rfl | rfl | rfl | rfl <;> simp -implicitDefEqProofs [c177, opn]

theorem st180 {n : Nat} (hn : 1 ≤ n) (s : StaI) (x : ActI) (h : 0 ≤ x.num ∧ x.num < 2) : RUN n 180 [sa s, aa x] = .ret (bl (key s x.num)) := by
 obtain ⟨d, rfl⟩ : ∃ d, n = d + 1 := ⟨n - 1, by omega⟩
 rw [RUN, call_eq fe180 _ rfl]
 obtain ⟨t, k, m, a, b, c⟩ := x
 obtain ⟨st, o0, o1, o2, o3, o4, o5, o6, o7, k0, k1, pp, ar, sh, ad⟩ := s
 rcases two h with rfl | rfl <;> simp -implicitDefEqProofs [c180, key]

theorem st182 {n : Nat} (hn : 1 ≤ n) (s : StaI) (x : ActI) (h : 0 ≤ x.num ∧ x.num < 2) : RUN n 182 [sa s, aa x] = .ret (bl (!key s x.num)) := by
 obtain ⟨d, rfl⟩ : ∃ d, n = d + 1 := ⟨n - 1, by omega⟩
 rw [RUN, call_eq fe182 _ rfl]
 obtain ⟨t, k, m, a, b, c⟩ := x
 obtain ⟨st, o0, o1, o2, o3, o4, o5, o6, o7, k0, k1, pp, ar, sh, ad⟩ := s
 rcases two h with rfl | rfl <;> simp -implicitDefEqProofs [c182, key]

theorem st184 {n : Nat} (hn : 1 ≤ n) (s : StaI) (x : ActI) : RUN n 184 [sa s, aa x] = .ret (bl (decide (100 ≤ s.people))) := by
 obtain ⟨d, rfl⟩ : ∃ d, n = d + 1 := ⟨n - 1, by omega⟩
 rw [RUN, call_eq fe184 _ rfl]
 obtain ⟨t, k, m, a, b, c⟩ := x
 obtain ⟨st, o0, o1, o2, o3, o4, o5, o6, o7, k0, k1, pp, ar, sh, ad⟩ := s
 simp -implicitDefEqProofs [c184]

theorem st186 {n : Nat} (hn : 1 ≤ n) (s : StaI) (x : ActI) : RUN n 186 [sa s, aa x] = .ret (bl (s.people == 0)) := by
 obtain ⟨d, rfl⟩ : ∃ d, n = d + 1 := ⟨n - 1, by omega⟩
 rw [RUN, call_eq fe186 _ rfl]
 obtain ⟨t, k, m, a, b, c⟩ := x
 obtain ⟨st, o0, o1, o2, o3, o4, o5, o6, o7, k0, k1, pp, ar, sh, ad⟩ := s
 simp -implicitDefEqProofs [c186]

theorem st189 {n : Nat} (hn : 1 ≤ n) (s : StaI) (x : ActI) : RUN n 189 [sa s, aa x] = .ret (bl (s.armed)) := by
 obtain ⟨d, rfl⟩ : ∃ d, n = d + 1 := ⟨n - 1, by omega⟩
 rw [RUN, call_eq fe189 _ rfl]
 obtain ⟨t, k, m, a, b, c⟩ := x
 obtain ⟨st, o0, o1, o2, o3, o4, o5, o6, o7, k0, k1, pp, ar, sh, ad⟩ := s
 simp -implicitDefEqProofs [c189]

theorem st191 {n : Nat} (hn : 1 ≤ n) (s : StaI) (x : ActI) : RUN n 191 [sa s, aa x] = .ret (bl (!s.armed)) := by
 obtain ⟨d, rfl⟩ : ∃ d, n = d + 1 := ⟨n - 1, by omega⟩
 rw [RUN, call_eq fe191 _ rfl]
 obtain ⟨t, k, m, a, b, c⟩ := x
 obtain ⟨st, o0, o1, o2, o3, o4, o5, o6, o7, k0, k1, pp, ar, sh, ad⟩ := s
 simp -implicitDefEqProofs [c191]

theorem st193 {n : Nat} (hn : 1 ≤ n) (s : StaI) (x : ActI) : RUN n 193 [sa s, aa x] = .ret (bl (!s.armed)) := by
 obtain ⟨d, rfl⟩ : ∃ d, n = d + 1 := ⟨n - 1, by omega⟩
 rw [RUN, call_eq fe193 _ rfl]
 obtain ⟨t, k, m, a, b, c⟩ := x
 obtain ⟨st, o0, o1, o2, o3, o4, o5, o6, o7, k0, k1, pp, ar, sh, ad⟩ := s
 simp -implicitDefEqProofs [c193]

theorem st195 {n : Nat} (hn : 1 ≤ n) (s : StaI) (x : ActI) : RUN n 195 [sa s, aa x] = .ret (bl (s.shot == -1)) := by
 obtain ⟨d, rfl⟩ : ∃ d, n = d + 1 := ⟨n - 1, by omega⟩
 rw [RUN, call_eq fe195 _ rfl]
 obtain ⟨t, k, m, a, b, c⟩ := x
 obtain ⟨st, o0, o1, o2, o3, o4, o5, o6, o7, k0, k1, pp, ar, sh, ad⟩ := s
 simp -implicitDefEqProofs [c195]

theorem r197 {n : Nat} (hn : 1 ≤ n) (s : StaI) (x : ActI) : RUN n 197 [sa s, aa x] = .ret (bl (decide (x.tick < s.tick))) := by
 obtain ⟨d, rfl⟩ : ∃ d, n = d + 1 := ⟨n - 1, by omega⟩
 rw [RUN, call_eq fe197 _ rfl]
 obtain ⟨t, k, m, a, b, c⟩ := x
 obtain ⟨st, o0, o1, o2, o3, o4, o5, o6, o7, k0, k1, pp, ar, sh, ad⟩ := s
 simp -implicitDefEqProofs [c197]
theorem open172 {n : Nat} (hn : 1 ≤ n) (s : StaI) : RUN n 172 [sa s] = .ret (bl (anyO s)) := by
 obtain ⟨d, rfl⟩ : ∃ d, n = d + 1 := ⟨n - 1, by omega⟩
 rw [RUN, call_eq fe172 _ rfl]
 obtain ⟨st, o0, o1, o2, o3, o4, o5, o6, o7, k0, k1, pp, ar, sh, ad⟩ := s
 simp -implicitDefEqProofs [c172, anyO]
theorem admits206 {n : Nat} (hn : 1 ≤ n) (s : StaI) (t : Int) : RUN n 206 [sa s, iv t] = .ret (bl (admB s t)) := by
 obtain ⟨d, rfl⟩ : ∃ d, n = d + 1 := ⟨n - 1, by omega⟩
 rw [RUN, call_eq fe206 _ rfl]
 obtain ⟨st, o0, o1, o2, o3, o4, o5, o6, o7, k0, k1, pp, ar, sh, ad⟩ := s
 cases h1 : (ad != -1) <;> simp -implicitDefEqProofs [c206, admB, h1]

theorem r201 {n : Nat} (hn : 5 ≤ n) (s : StaI) (x : ActI) : RUN n 201 [sa s, aa x] = .ret (bl (armB s x)) := by
 obtain ⟨d, rfl⟩ : ∃ d, n = d + 5 := ⟨n - 5, by omega⟩
 rw [RUN, call_eq fe201 _ rfl]
 have ki : RUN (d + 4) 111 [aa x, .p (.sl [.str kOpen, .str kRemove, .str kEnter] 3)] = .ret (bl (decide (x.kind ∈ [kOpen, kRemove, kEnter]))) := is111 (by omega) x [kOpen, kRemove, kEnter] (by simp)
 unfold armB
 generalize decide (x.kind ∈ [kOpen, kRemove, kEnter]) = e at *
 obtain ⟨t, k, m, a, b, c⟩ := x
 obtain ⟨st, o0, o1, o2, o3, o4, o5, o6, o7, k0, k1, pp, ar, sh, ad⟩ := s
 simp only at *
 cases ar <;> simp -implicitDefEqProofs [c201, ki]

theorem r202 {n : Nat} (hn : 5 ≤ n) (s : StaI) (x : ActI) (h : NumOk x) : RUN n 202 [sa s, aa x] = .ret (bl (dooB s x)) := by
 obtain ⟨d, rfl⟩ : ∃ d, n = d + 5 := ⟨n - 5, by omega⟩
 rw [RUN, call_eq fe202 _ rfl]
 have ki : RUN (d + 4) 111 [aa x, .p (.sl [.str kEnter, .str kLeave] 2)] = .ret (bl (decide (x.kind ∈ [kEnter, kLeave]))) := is111 (by omega) x [kEnter, kLeave] (by simp)
 have ka : RUN (d + 4) 111 [aa x, .p (.sl [.str kArm] 1)] = .ret (bl (decide (x.kind ∈ [kArm]))) := is111 (by omega) x [kArm] (by simp)
 have ko := open172 (n := d + 4) (by omega) s
 have hb : decide (x.kind ∈ [kEnter, kLeave]) = true → 0 ≤ x.num ∧ x.num < 8 := fun e => h.2.1 (by
  simp only [decide_eq_true_eq, List.mem_cons, List.not_mem_nil, or_false] at e
  rcases e with e | e <;> rw [e] <;> decide)
 unfold dooB
 generalize decide (x.kind ∈ [kEnter, kLeave]) = e at *
 generalize decide (x.kind ∈ [kArm]) = f at *
 generalize anyO s = g at *
 obtain ⟨t, k, m, a, b, c⟩ := x
 obtain ⟨st, o0, o1, o2, o3, o4, o5, o6, o7, k0, k1, pp, ar, sh, ad⟩ := s
 simp only at *
 cases e with
 | false => cases f <;> simp -implicitDefEqProofs [c202, ki, ka, ko]
 | true =>
  rcases eight (hb rfl) with rfl | rfl | rfl | rfl | rfl | rfl | rfl | rfl
  ·cases o0 <;> cases f <;> simp -implicitDefEqProofs [c202, ki, ka, ko, opn]
  ·cases o1 <;> cases f <;> simp -implicitDefEqProofs [c202, ki, ka, ko, opn]
  ·cases o2 <;> cases f <;> simp -implicitDefEqProofs [c202, ki, ka, ko, opn]
  ·cases o3 <;> cases f <;> simp -implicitDefEqProofs [c202, ki, ka, ko, opn]
  ·cases o4 <;> cases f <;> simp -implicitDefEqProofs [c202, ki, ka, ko, opn]
  ·cases o5 <;> cases f <;> simp -implicitDefEqProofs [c202, ki, ka, ko, opn]
  ·cases o6 <;> cases f <;> simp -implicitDefEqProofs [c202, ki, ka, ko, opn]
  ·cases o7 <;> cases f <;> simp -implicitDefEqProofs [c202, ki, ka, ko, opn]

theorem r203 {n : Nat} (hn : 5 ≤ n) (s : StaI) (x : ActI) : RUN n 203 [sa s, aa x] = .ret (bl (peoB s x)) := by
 obtain ⟨d, rfl⟩ : ∃ d, n = d + 5 := ⟨n - 5, by omega⟩
 rw [RUN, call_eq fe203 _ rfl]
 have ki : RUN (d + 4) 111 [aa x, .p (.sl [.str kArm] 1)] = .ret (bl (decide (x.kind ∈ [kArm]))) := is111 (by omega) x [kArm] (by simp)
 unfold peoB
 generalize decide (x.kind ∈ [kArm]) = e at *
 obtain ⟨t, k, m, a, b, c⟩ := x
 obtain ⟨st, o0, o1, o2, o3, o4, o5, o6, o7, k0, k1, pp, ar, sh, ad⟩ := s
 simp only at *
 cases e <;> simp -implicitDefEqProofs [c203, ki]

theorem r204 {n : Nat} (hn : 5 ≤ n) (s : StaI) (x : ActI) : RUN n 204 [sa s, aa x] = .ret (bl (keyR s x)) := by
 obtain ⟨d, rfl⟩ : ∃ d, n = d + 5 := ⟨n - 5, by omega⟩
 rw [RUN, call_eq fe204 _ rfl]
 have ki : RUN (d + 4) 111 [aa x, .p (.sl [.str kArm] 1)] = .ret (bl (decide (x.kind ∈ [kArm]))) := is111 (by omega) x [kArm] (by simp)
 unfold keyR
 generalize decide (x.kind ∈ [kArm]) = e at *
 obtain ⟨t, k, m, a, b, c⟩ := x
 obtain ⟨st, o0, o1, o2, o3, o4, o5, o6, o7, k0, k1, pp, ar, sh, ad⟩ := s
 simp only at *
 cases e <;> simp -implicitDefEqProofs [c204, ki]

theorem r205 {n : Nat} (hn : 5 ≤ n) (s : StaI) (x : ActI) : RUN n 205 [sa s, aa x] = .ret (bl (waiB s x)) := by
 obtain ⟨d, rfl⟩ : ∃ d, n = d + 5 := ⟨n - 5, by omega⟩
 rw [RUN, call_eq fe205 _ rfl]
 have ki : RUN (d + 4) 111 [aa x, .p (.sl [.str kOpen, .str kEnter, .str kArm] 3)] = .ret (bl (decide (x.kind ∈ [kOpen, kEnter, kArm]))) := is111 (by omega) x [kOpen, kEnter, kArm] (by simp)
 have ko := admits206 (n := d + 4) (by omega) s x.tick
 unfold waiB
 generalize admB s x.tick = f at *
 generalize decide (x.kind ∈ [kOpen, kEnter, kArm]) = e at *
 obtain ⟨t, k, m, a, b, c⟩ := x
 obtain ⟨st, o0, o1, o2, o3, o4, o5, o6, o7, k0, k1, pp, ar, sh, ad⟩ := s
 simp only at *
 cases e <;> simp -implicitDefEqProofs [c205, ki, ko]

end Fw
end

section
set_option maxHeartbeats 16000000
namespace Fw
open Go

abbrev wTick : List UInt8 := [116, 105, 99, 107]
abbrev wState : List UInt8 := [115, 116, 97, 116, 101]
abbrev wArmed : List UInt8 := [97, 114, 109, 101, 100]
abbrev wDoor : List UInt8 := [100, 111, 111, 114]
abbrev wPeople : List UInt8 := [112, 101, 111, 112, 108, 101]
abbrev wKey : List UInt8 := [107, 101, 121]
abbrev wWait : List UInt8 := [119, 97, 105, 116]
def addR (L : List (List UInt8)) (b : Bool) (w : List UInt8) : List (List UInt8) := if b = true then L ++ [w] else L
theorem addR_le (L : List (List UInt8)) (b : Bool) (w : List UInt8) : (addR L b w).length ≤ L.length + 1 := by
 unfold addR; split <;> simp
def reaL (s : StaI) (x : ActI) : List (List UInt8) :=
 addR (addR (addR (addR (addR (addR (addR [] (decide (x.tick < s.tick)) wTick) (stB s x) wState) (armB s x) wArmed) (dooB s x) wDoor) (peoB s x) wPeople) (keyR s x) wKey) (waiB s x) wWait
theorem numOk_cases {x : ActI} (h : NumOk x) : x.kind = kOpen ∨ x.kind = kClose ∨ x.kind = kInsert ∨ x.kind = kRemove ∨ x.kind = kEnter ∨ x.kind = kLeave ∨ x.kind = kArm ∨ x.kind = kDisarm ∨ x.kind = kShoot ∨ x.kind = kMeasure := by
 simpa only [kindL, List.mem_cons, List.not_mem_nil, or_false] using h.1

theorem r198 {n : Nat} (hn : 5 ≤ n) (s : StaI) (x : ActI) (h : NumOk x) : RUN n 198 [sa s, aa x] = .ret (bl (stB s x)) := by
 obtain ⟨d, rfl⟩ : ∃ d, n = d + 5 := ⟨n - 5, by omega⟩
 rw [RUN, call_eq fe198 _ rfl]
 have hk := numOk_cases h
 have hG : G0 0 = some g0 := rfl
 obtain ⟨t, k, m, a, b, c⟩ := x
 simp only at hk
 rcases hk with rfl | rfl | rfl | rfl | rfl | rfl | rfl | rfl | rfl | rfl
 ·have ki : RUN (d + 4) 199 [.p (.sl g0 10), .p (.clo 200 [] [.pp [.int .i64 t, .str kOpen, .int .i64 m, .int .i64 a, .int .i64 b, .int .i64 c]])] = .ret (iv 0) := by kernel_rfl
  have ks := st175 (n := d + 4) (by omega) s ⟨t, kOpen, m, a, b, c⟩ (h.2.1 (show doorB kOpen = true by decide))
  have hs : stB s ⟨t, kOpen, m, a, b, c⟩ = (opn s m) := rfl
  rw [hs]
  try simp only at ks
  generalize (opn s m) = z at *
  obtain ⟨st, o0, o1, o2, o3, o4, o5, o6, o7, k0, k1, pp, ar, sh, ad⟩ := s
  simp only [g0] at ki ks ⊢
  simp -implicitDefEqProofs [c198, ki, ks, hG, g0]
 ·have ki : RUN (d + 4) 199 [.p (.sl g0 10), .p (.clo 200 [] [.pp [.int .i64 t, .str kClose, .int .i64 m, .int .i64 a, .int .i64 b, .int .i64 c]])] = .ret (iv 1) := by kernel_rfl
  have ks := st177 (n := d + 4) (by omega) s ⟨t, kClose, m, a, b, c⟩ (h.2.1 (show doorB kClose = true by decide))
  have hs : stB s ⟨t, kClose, m, a, b, c⟩ = (!opn s m) := rfl
  rw [hs]
  try simp only at ks
  generalize (!opn s m) = z at *
  obtain ⟨st, o0, o1, o2, o3, o4, o5, o6, o7, k0, k1, pp, ar, sh, ad⟩ := s
  simp only [g0] at ki ks ⊢
  simp -implicitDefEqProofs [c198, ki, ks, hG, g0]
 ·have ki : RUN (d + 4) 199 [.p (.sl g0 10), .p (.clo 200 [] [.pp [.int .i64 t, .str kInsert, .int .i64 m, .int .i64 a, .int .i64 b, .int .i64 c]])] = .ret (iv 2) := by kernel_rfl
  have ks := st180 (n := d + 4) (by omega) s ⟨t, kInsert, m, a, b, c⟩ (h.2.2 (show keyB kInsert = true by decide))
  have hs : stB s ⟨t, kInsert, m, a, b, c⟩ = (key s m) := rfl
  rw [hs]
  try simp only at ks
  generalize (key s m) = z at *
  obtain ⟨st, o0, o1, o2, o3, o4, o5, o6, o7, k0, k1, pp, ar, sh, ad⟩ := s
  simp only [g0] at ki ks ⊢
  simp -implicitDefEqProofs [c198, ki, ks, hG, g0]
 ·have ki : RUN (d + 4) 199 [.p (.sl g0 10), .p (.clo 200 [] [.pp [.int .i64 t, .str kRemove, .int .i64 m, .int .i64 a, .int .i64 b, .int .i64 c]])] = .ret (iv 3) := by kernel_rfl
  have ks := st182 (n := d + 4) (by omega) s ⟨t, kRemove, m, a, b, c⟩ (h.2.2 (show keyB kRemove = true by decide))
  have hs : stB s ⟨t, kRemove, m, a, b, c⟩ = (!key s m) := rfl
  rw [hs]
  try simp only at ks
  generalize (!key s m) = z at *
  obtain ⟨st, o0, o1, o2, o3, o4, o5, o6, o7, k0, k1, pp, ar, sh, ad⟩ := s
  simp only [g0] at ki ks ⊢
  simp -implicitDefEqProofs [c198, ki, ks, hG, g0]
 ·have ki : RUN (d + 4) 199 [.p (.sl g0 10), .p (.clo 200 [] [.pp [.int .i64 t, .str kEnter, .int .i64 m, .int .i64 a, .int .i64 b, .int .i64 c]])] = .ret (iv 4) := by kernel_rfl
  have ks := st184 (n := d + 4) (by omega) s ⟨t, kEnter, m, a, b, c⟩
  have hs : stB s ⟨t, kEnter, m, a, b, c⟩ = (decide (100 ≤ s.people)) := rfl
  rw [hs]
  try simp only at ks
  generalize (decide (100 ≤ s.people)) = z at *
  obtain ⟨st, o0, o1, o2, o3, o4, o5, o6, o7, k0, k1, pp, ar, sh, ad⟩ := s
  simp only [g0] at ki ks ⊢
  simp -implicitDefEqProofs [c198, ki, ks, hG, g0]
 ·have ki : RUN (d + 4) 199 [.p (.sl g0 10), .p (.clo 200 [] [.pp [.int .i64 t, .str kLeave, .int .i64 m, .int .i64 a, .int .i64 b, .int .i64 c]])] = .ret (iv 5) := by kernel_rfl
  have ks := st186 (n := d + 4) (by omega) s ⟨t, kLeave, m, a, b, c⟩
  have hs : stB s ⟨t, kLeave, m, a, b, c⟩ = (s.people == 0) := rfl
  rw [hs]
  try simp only at ks
  generalize (s.people == 0) = z at *
  obtain ⟨st, o0, o1, o2, o3, o4, o5, o6, o7, k0, k1, pp, ar, sh, ad⟩ := s
  simp only [g0] at ki ks ⊢
  simp -implicitDefEqProofs [c198, ki, ks, hG, g0]
 ·have ki : RUN (d + 4) 199 [.p (.sl g0 10), .p (.clo 200 [] [.pp [.int .i64 t, .str kArm, .int .i64 m, .int .i64 a, .int .i64 b, .int .i64 c]])] = .ret (iv 6) := by kernel_rfl
  have ks := st189 (n := d + 4) (by omega) s ⟨t, kArm, m, a, b, c⟩
  have hs : stB s ⟨t, kArm, m, a, b, c⟩ = (s.armed) := rfl
  rw [hs]
  try simp only at ks
  generalize (s.armed) = z at *
  obtain ⟨st, o0, o1, o2, o3, o4, o5, o6, o7, k0, k1, pp, ar, sh, ad⟩ := s
  simp only [g0] at ki ks ⊢
  simp -implicitDefEqProofs [c198, ki, ks, hG, g0]
 ·have ki : RUN (d + 4) 199 [.p (.sl g0 10), .p (.clo 200 [] [.pp [.int .i64 t, .str kDisarm, .int .i64 m, .int .i64 a, .int .i64 b, .int .i64 c]])] = .ret (iv 7) := by kernel_rfl
  have ks := st191 (n := d + 4) (by omega) s ⟨t, kDisarm, m, a, b, c⟩
  have hs : stB s ⟨t, kDisarm, m, a, b, c⟩ = (!s.armed) := rfl
  rw [hs]
  try simp only at ks
  generalize (!s.armed) = z at *
  obtain ⟨st, o0, o1, o2, o3, o4, o5, o6, o7, k0, k1, pp, ar, sh, ad⟩ := s
  simp only [g0] at ki ks ⊢
  simp -implicitDefEqProofs [c198, ki, ks, hG, g0]
 ·have ki : RUN (d + 4) 199 [.p (.sl g0 10), .p (.clo 200 [] [.pp [.int .i64 t, .str kShoot, .int .i64 m, .int .i64 a, .int .i64 b, .int .i64 c]])] = .ret (iv 8) := by kernel_rfl
  have ks := st193 (n := d + 4) (by omega) s ⟨t, kShoot, m, a, b, c⟩
  have hs : stB s ⟨t, kShoot, m, a, b, c⟩ = (!s.armed) := rfl
  rw [hs]
  try simp only at ks
  generalize (!s.armed) = z at *
  obtain ⟨st, o0, o1, o2, o3, o4, o5, o6, o7, k0, k1, pp, ar, sh, ad⟩ := s
  simp only [g0] at ki ks ⊢
  simp -implicitDefEqProofs [c198, ki, ks, hG, g0]
 ·have ki : RUN (d + 4) 199 [.p (.sl g0 10), .p (.clo 200 [] [.pp [.int .i64 t, .str kMeasure, .int .i64 m, .int .i64 a, .int .i64 b, .int .i64 c]])] = .ret (iv 9) := by kernel_rfl
  have ks := st195 (n := d + 4) (by omega) s ⟨t, kMeasure, m, a, b, c⟩
  have hs : stB s ⟨t, kMeasure, m, a, b, c⟩ = (s.shot == -1) := rfl
  rw [hs]
  try simp only at ks
  generalize (s.shot == -1) = z at *
  obtain ⟨st, o0, o1, o2, o3, o4, o5, o6, o7, k0, k1, pp, ar, sh, ad⟩ := s
  simp only [g0] at ki ks ⊢
  simp -implicitDefEqProofs [c198, ki, ks, hG, g0]

def S90 (s : StaI) (x : ActI) (L : List (List UInt8)) (i : Int) : St := ⟨[(2, .ptr 0 0 0), (3, .ptr 1 0 0), (5, .sl 2 L.length 0 L.length), (8, .agg (g1.map .p)), (9, iv i)], [(2, .arr (pStr L) L.length 1), (1, .arr [.int .i64 x.tick, .str x.kind, .int .i64 x.num, .int .i64 x.a, .int .i64 x.b, .int .i64 x.c] 0 1), (0, .arr (sc s) 0 1)]⟩

theorem s64_0 {d : Nat} (s : StaI) (x : ActI) (z : Bool) (k : RUN d 197 [sa s, aa x] = .ret (bl z)) (L : List (List UInt8)) (hL : L.length ≤ 7) :
  ∃ st1, loopS (evFn F C0 G0 d) C0 G0 0 true [2, 3, 5, 8, 9] c64L0 (S90 s x L 0) = .ret (.normal, st1) ∧ loopS (evFn F C0 G0 d) C0 G0 0 true [2, 3, 5, 8, 9] c64L0 st1 = loopS (evFn F C0 G0 d) C0 G0 0 true [2, 3, 5, 8, 9] c64L0 (S90 s x (addR L z wTick) 1) := by
 have hlim : L.length + 1 ≤ lim := by simp only [lim]; omega
 have hQ : (pStr L).length = L.length := by simp
 have e1 : pStr (L ++ [wTick]) = pStr L ++ [.str wTick] := (pStr_snoc _ _).symm
 have e2 : (L ++ [wTick]).length = L.length + 1 := by simp
 have w1 : IntKind.i64.wrap 1 = 1 := by decide
 obtain ⟨t, kk, m, a, b, c⟩ := x
 obtain ⟨st, o0, o1, o2, o3, o4, o5, o6, o7, k0, k1, pp, ar, sh, ad⟩ := s
 cases z with
 | false =>
  simp only [S90, addR, Bool.false_eq_true, if_false, sc, g1, List.map_cons, List.map_nil]
  generalize pStr L = Q at *
  generalize L.length = y at *
  refine ⟨?_, ?h1, ?h2⟩
  case h1 =>
   simp -implicitDefEqProofs [loopS_eq, c64L0, k, w1]
   exact rfl
  case h2 => exact loopS_same (by simp) (by simp)
 | true =>
  simp only [S90, addR, if_true, e1, e2, sc, g1, List.map_cons, List.map_nil]
  generalize pStr L = Q at *
  generalize L.length = y at *
  refine ⟨?_, ?h1, ?h2⟩
  case h1 =>
   simp -implicitDefEqProofs [loopS_eq, c64L0, k, w1, hQ, hlim]
   exact rfl
  case h2 => exact loopS_same (by simp) (by simp)

theorem s64_1 {d : Nat} (s : StaI) (x : ActI) (z : Bool) (k : RUN d 198 [sa s, aa x] = .ret (bl z)) (L : List (List UInt8)) (hL : L.length ≤ 7) :
  ∃ st1, loopS (evFn F C0 G0 d) C0 G0 0 true [2, 3, 5, 8, 9] c64L0 (S90 s x L 1) = .ret (.normal, st1) ∧ loopS (evFn F C0 G0 d) C0 G0 0 true [2, 3, 5, 8, 9] c64L0 st1 = loopS (evFn F C0 G0 d) C0 G0 0 true [2, 3, 5, 8, 9] c64L0 (S90 s x (addR L z wState) 2) := by
 have hlim : L.length + 1 ≤ lim := by simp only [lim]; omega
 have hQ : (pStr L).length = L.length := by simp
 have e1 : pStr (L ++ [wState]) = pStr L ++ [.str wState] := (pStr_snoc _ _).symm
 have e2 : (L ++ [wState]).length = L.length + 1 := by simp
 have w1 : IntKind.i64.wrap 2 = 2 := by decide
 obtain ⟨t, kk, m, a, b, c⟩ := x
 obtain ⟨st, o0, o1, o2, o3, o4, o5, o6, o7, k0, k1, pp, ar, sh, ad⟩ := s
 cases z with
 | false =>
  simp only [S90, addR, Bool.false_eq_true, if_false, sc, g1, List.map_cons, List.map_nil]
  generalize pStr L = Q at *
  generalize L.length = y at *
  refine ⟨?_, ?h1, ?h2⟩
  case h1 =>
   simp -implicitDefEqProofs [loopS_eq, c64L0, k, w1]
   exact rfl
  case h2 => exact loopS_same (by simp) (by simp)
 | true =>
  simp only [S90, addR, if_true, e1, e2, sc, g1, List.map_cons, List.map_nil]
  generalize pStr L = Q at *
  generalize L.length = y at *
  refine ⟨?_, ?h1, ?h2⟩
  case h1 =>
   simp -implicitDefEqProofs [loopS_eq, c64L0, k, w1, hQ, hlim]
   exact rfl
  case h2 => exact loopS_same (by simp) (by simp)

theorem s64_2 {d : Nat} (s : StaI) (x : ActI) (z : Bool) (k : RUN d 201 [sa s, aa x] = .ret (bl z)) (L : List (List UInt8)) (hL : L.length ≤ 7) :
  ∃ st1, loopS (evFn F C0 G0 d) C0 G0 0 true [2, 3, 5, 8, 9] c64L0 (S90 s x L 2) = .ret (.normal, st1) ∧ loopS (evFn F C0 G0 d) C0 G0 0 true [2, 3, 5, 8, 9] c64L0 st1 = loopS (evFn F C0 G0 d) C0 G0 0 true [2, 3, 5, 8, 9] c64L0 (S90 s x (addR L z wArmed) 3) := by
 have hlim : L.length + 1 ≤ lim := by simp only [lim]; omega
 have hQ : (pStr L).length = L.length := by simp
 have e1 : pStr (L ++ [wArmed]) = pStr L ++ [.str wArmed] := (pStr_snoc _ _).symm
 have e2 : (L ++ [wArmed]).length = L.length + 1 := by simp
 have w1 : IntKind.i64.wrap 3 = 3 := by decide
 obtain ⟨t, kk, m, a, b, c⟩ := x
 obtain ⟨st, o0, o1, o2, o3, o4, o5, o6, o7, k0, k1, pp, ar, sh, ad⟩ := s
 cases z with
 | false =>
  simp only [S90, addR, Bool.false_eq_true, if_false, sc, g1, List.map_cons, List.map_nil]
  generalize pStr L = Q at *
  generalize L.length = y at *
  refine ⟨?_, ?h1, ?h2⟩
  case h1 =>
   simp -implicitDefEqProofs [loopS_eq, c64L0, k, w1]
   exact rfl
  case h2 => exact loopS_same (by simp) (by simp)
 | true =>
  simp only [S90, addR, if_true, e1, e2, sc, g1, List.map_cons, List.map_nil]
  generalize pStr L = Q at *
  generalize L.length = y at *
  refine ⟨?_, ?h1, ?h2⟩
  case h1 =>
   simp -implicitDefEqProofs [loopS_eq, c64L0, k, w1, hQ, hlim]
   exact rfl
  case h2 => exact loopS_same (by simp) (by simp)

theorem s64_3 {d : Nat} (s : StaI) (x : ActI) (z : Bool) (k : RUN d 202 [sa s, aa x] = .ret (bl z)) (L : List (List UInt8)) (hL : L.length ≤ 7) :
  ∃ st1, loopS (evFn F C0 G0 d) C0 G0 0 true [2, 3, 5, 8, 9] c64L0 (S90 s x L 3) = .ret (.normal, st1) ∧ loopS (evFn F C0 G0 d) C0 G0 0 true [2, 3, 5, 8, 9] c64L0 st1 = loopS (evFn F C0 G0 d) C0 G0 0 true [2, 3, 5, 8, 9] c64L0 (S90 s x (addR L z wDoor) 4) := by
 have hlim : L.length + 1 ≤ lim := by simp only [lim]; omega
 have hQ : (pStr L).length = L.length := by simp
 have e1 : pStr (L ++ [wDoor]) = pStr L ++ [.str wDoor] := (pStr_snoc _ _).symm
 have e2 : (L ++ [wDoor]).length = L.length + 1 := by simp
 have w1 : IntKind.i64.wrap 4 = 4 := by decide
 obtain ⟨t, kk, m, a, b, c⟩ := x
 obtain ⟨st, o0, o1, o2, o3, o4, o5, o6, o7, k0, k1, pp, ar, sh, ad⟩ := s
 cases z with
 | false =>
  simp only [S90, addR, Bool.false_eq_true, if_false, sc, g1, List.map_cons, List.map_nil]
  generalize pStr L = Q at *
  generalize L.length = y at *
  refine ⟨?_, ?h1, ?h2⟩
  case h1 =>
   simp -implicitDefEqProofs [loopS_eq, c64L0, k, w1]
   exact rfl
  case h2 => exact loopS_same (by simp) (by simp)
 | true =>
  simp only [S90, addR, if_true, e1, e2, sc, g1, List.map_cons, List.map_nil]
  generalize pStr L = Q at *
  generalize L.length = y at *
  refine ⟨?_, ?h1, ?h2⟩
  case h1 =>
   simp -implicitDefEqProofs [loopS_eq, c64L0, k, w1, hQ, hlim]
   exact rfl
  case h2 => exact loopS_same (by simp) (by simp)

theorem s64_4 {d : Nat} (s : StaI) (x : ActI) (z : Bool) (k : RUN d 203 [sa s, aa x] = .ret (bl z)) (L : List (List UInt8)) (hL : L.length ≤ 7) :
  ∃ st1, loopS (evFn F C0 G0 d) C0 G0 0 true [2, 3, 5, 8, 9] c64L0 (S90 s x L 4) = .ret (.normal, st1) ∧ loopS (evFn F C0 G0 d) C0 G0 0 true [2, 3, 5, 8, 9] c64L0 st1 = loopS (evFn F C0 G0 d) C0 G0 0 true [2, 3, 5, 8, 9] c64L0 (S90 s x (addR L z wPeople) 5) := by
 have hlim : L.length + 1 ≤ lim := by simp only [lim]; omega
 have hQ : (pStr L).length = L.length := by simp
 have e1 : pStr (L ++ [wPeople]) = pStr L ++ [.str wPeople] := (pStr_snoc _ _).symm
 have e2 : (L ++ [wPeople]).length = L.length + 1 := by simp
 have w1 : IntKind.i64.wrap 5 = 5 := by decide
 obtain ⟨t, kk, m, a, b, c⟩ := x
 obtain ⟨st, o0, o1, o2, o3, o4, o5, o6, o7, k0, k1, pp, ar, sh, ad⟩ := s
 cases z with
 | false =>
  simp only [S90, addR, Bool.false_eq_true, if_false, sc, g1, List.map_cons, List.map_nil]
  generalize pStr L = Q at *
  generalize L.length = y at *
  refine ⟨?_, ?h1, ?h2⟩
  case h1 =>
   simp -implicitDefEqProofs [loopS_eq, c64L0, k, w1]
   exact rfl
  case h2 => exact loopS_same (by simp) (by simp)
 | true =>
  simp only [S90, addR, if_true, e1, e2, sc, g1, List.map_cons, List.map_nil]
  generalize pStr L = Q at *
  generalize L.length = y at *
  refine ⟨?_, ?h1, ?h2⟩
  case h1 =>
   simp -implicitDefEqProofs [loopS_eq, c64L0, k, w1, hQ, hlim]
   exact rfl
  case h2 => exact loopS_same (by simp) (by simp)

theorem s64_5 {d : Nat} (s : StaI) (x : ActI) (z : Bool) (k : RUN d 204 [sa s, aa x] = .ret (bl z)) (L : List (List UInt8)) (hL : L.length ≤ 7) :
  ∃ st1, loopS (evFn F C0 G0 d) C0 G0 0 true [2, 3, 5, 8, 9] c64L0 (S90 s x L 5) = .ret (.normal, st1) ∧ loopS (evFn F C0 G0 d) C0 G0 0 true [2, 3, 5, 8, 9] c64L0 st1 = loopS (evFn F C0 G0 d) C0 G0 0 true [2, 3, 5, 8, 9] c64L0 (S90 s x (addR L z wKey) 6) := by
 have hlim : L.length + 1 ≤ lim := by simp only [lim]; omega
 have hQ : (pStr L).length = L.length := by simp
 have e1 : pStr (L ++ [wKey]) = pStr L ++ [.str wKey] := (pStr_snoc _ _).symm
 have e2 : (L ++ [wKey]).length = L.length + 1 := by simp
 have w1 : IntKind.i64.wrap 6 = 6 := by decide
 obtain ⟨t, kk, m, a, b, c⟩ := x
 obtain ⟨st, o0, o1, o2, o3, o4, o5, o6, o7, k0, k1, pp, ar, sh, ad⟩ := s
 cases z with
 | false =>
  simp only [S90, addR, Bool.false_eq_true, if_false, sc, g1, List.map_cons, List.map_nil]
  generalize pStr L = Q at *
  generalize L.length = y at *
  refine ⟨?_, ?h1, ?h2⟩
  case h1 =>
   simp -implicitDefEqProofs [loopS_eq, c64L0, k, w1]
   exact rfl
  case h2 => exact loopS_same (by simp) (by simp)
 | true =>
  simp only [S90, addR, if_true, e1, e2, sc, g1, List.map_cons, List.map_nil]
  generalize pStr L = Q at *
  generalize L.length = y at *
  refine ⟨?_, ?h1, ?h2⟩
  case h1 =>
   simp -implicitDefEqProofs [loopS_eq, c64L0, k, w1, hQ, hlim]
   exact rfl
  case h2 => exact loopS_same (by simp) (by simp)

theorem s64_6 {d : Nat} (s : StaI) (x : ActI) (z : Bool) (k : RUN d 205 [sa s, aa x] = .ret (bl z)) (L : List (List UInt8)) (hL : L.length ≤ 7) :
  ∃ st1, loopS (evFn F C0 G0 d) C0 G0 0 true [2, 3, 5, 8, 9] c64L0 (S90 s x L 6) = .ret (.normal, st1) ∧ loopS (evFn F C0 G0 d) C0 G0 0 true [2, 3, 5, 8, 9] c64L0 st1 = loopS (evFn F C0 G0 d) C0 G0 0 true [2, 3, 5, 8, 9] c64L0 (S90 s x (addR L z wWait) 7) := by
 have hlim : L.length + 1 ≤ lim := by simp only [lim]; omega
 have hQ : (pStr L).length = L.length := by simp
 have e1 : pStr (L ++ [wWait]) = pStr L ++ [.str wWait] := (pStr_snoc _ _).symm
 have e2 : (L ++ [wWait]).length = L.length + 1 := by simp
 have w1 : IntKind.i64.wrap 7 = 7 := by decide
 obtain ⟨t, kk, m, a, b, c⟩ := x
 obtain ⟨st, o0, o1, o2, o3, o4, o5, o6, o7, k0, k1, pp, ar, sh, ad⟩ := s
 cases z with
 | false =>
  simp only [S90, addR, Bool.false_eq_true, if_false, sc, g1, List.map_cons, List.map_nil]
  generalize pStr L = Q at *
  generalize L.length = y at *
  refine ⟨?_, ?h1, ?h2⟩
  case h1 =>
   simp -implicitDefEqProofs [loopS_eq, c64L0, k, w1]
   exact rfl
  case h2 => exact loopS_same (by simp) (by simp)
 | true =>
  simp only [S90, addR, if_true, e1, e2, sc, g1, List.map_cons, List.map_nil]
  generalize pStr L = Q at *
  generalize L.length = y at *
  refine ⟨?_, ?h1, ?h2⟩
  case h1 =>
   simp -implicitDefEqProofs [loopS_eq, c64L0, k, w1, hQ, hlim]
   exact rfl
  case h2 => exact loopS_same (by simp) (by simp)

theorem loopN_on' {step : St → T (Ex × St)} {fuel : Nat} {st st2 : St} (h : ∃ st1, step st = .ret (.normal, st1) ∧ step st1 = step st2) (hf : 1 < fuel) : loopN step fuel st = loopN step (fuel - 1) st2 := by
 obtain ⟨st1, h1, h2⟩ := h
 rw [loopN_on h1 (by omega)]
 obtain ⟨f, hf'⟩ : ∃ f, fuel - 1 = f + 1 := ⟨fuel - 2, by omega⟩
 rw [hf']
 unfold loopN
 rw [h2]
theorem reasons64 {n : Nat} (hn : 6 ≤ n) (s : StaI) (x : ActI) (h : NumOk x) : RUN n 64 [sa s, aa x] = .ret (.own (pStr (reaL s x)) (reaL s x).length 1) := by
 obtain ⟨d, rfl⟩ : ∃ d, n = d + 6 := ⟨n - 6, by omega⟩
 rw [RUN, call_eq fe64 _ rfl]
 have k0 := r197 (n := d + 5) (by omega) s x
 have k1 := r198 (n := d + 5) (by omega) s x h
 have k2 := r201 (n := d + 5) (by omega) s x
 have k3 := r202 (n := d + 5) (by omega) s x h
 have k4 := r203 (n := d + 5) (by omega) s x
 have k5 := r204 (n := d + 5) (by omega) s x
 have k6 := r205 (n := d + 5) (by omega) s x
 have l0 : ([] : List (List UInt8)).length ≤ 0 := by simp
 have l1 : (addR ([] : List (List UInt8)) (decide (x.tick < s.tick)) wTick).length ≤ 1 := by have := addR_le ([] : List (List UInt8)) (decide (x.tick < s.tick)) wTick; omega
 have l2 : (addR (addR ([] : List (List UInt8)) (decide (x.tick < s.tick)) wTick) (stB s x) wState).length ≤ 2 := by have := addR_le (addR ([] : List (List UInt8)) (decide (x.tick < s.tick)) wTick) (stB s x) wState; omega
 have l3 : (addR (addR (addR ([] : List (List UInt8)) (decide (x.tick < s.tick)) wTick) (stB s x) wState) (armB s x) wArmed).length ≤ 3 := by have := addR_le (addR (addR ([] : List (List UInt8)) (decide (x.tick < s.tick)) wTick) (stB s x) wState) (armB s x) wArmed; omega
 have l4 : (addR (addR (addR (addR ([] : List (List UInt8)) (decide (x.tick < s.tick)) wTick) (stB s x) wState) (armB s x) wArmed) (dooB s x) wDoor).length ≤ 4 := by have := addR_le (addR (addR (addR ([] : List (List UInt8)) (decide (x.tick < s.tick)) wTick) (stB s x) wState) (armB s x) wArmed) (dooB s x) wDoor; omega
 have l5 : (addR (addR (addR (addR (addR ([] : List (List UInt8)) (decide (x.tick < s.tick)) wTick) (stB s x) wState) (armB s x) wArmed) (dooB s x) wDoor) (peoB s x) wPeople).length ≤ 5 := by have := addR_le (addR (addR (addR (addR ([] : List (List UInt8)) (decide (x.tick < s.tick)) wTick) (stB s x) wState) (armB s x) wArmed) (dooB s x) wDoor) (peoB s x) wPeople; omega
 have l6 : (addR (addR (addR (addR (addR (addR ([] : List (List UInt8)) (decide (x.tick < s.tick)) wTick) (stB s x) wState) (armB s x) wArmed) (dooB s x) wDoor) (peoB s x) wPeople) (keyR s x) wKey).length ≤ 6 := by have := addR_le (addR (addR (addR (addR (addR ([] : List (List UInt8)) (decide (x.tick < s.tick)) wTick) (stB s x) wState) (armB s x) wArmed) (dooB s x) wDoor) (peoB s x) wPeople) (keyR s x) wKey; omega
 have s0 := s64_0 s x _ k0 ([] : List (List UInt8)) (by omega)
 have s1 := s64_1 s x _ k1 (addR ([] : List (List UInt8)) (decide (x.tick < s.tick)) wTick) (by omega)
 have s2 := s64_2 s x _ k2 (addR (addR ([] : List (List UInt8)) (decide (x.tick < s.tick)) wTick) (stB s x) wState) (by omega)
 have s3 := s64_3 s x _ k3 (addR (addR (addR ([] : List (List UInt8)) (decide (x.tick < s.tick)) wTick) (stB s x) wState) (armB s x) wArmed) (by omega)
 have s4 := s64_4 s x _ k4 (addR (addR (addR (addR ([] : List (List UInt8)) (decide (x.tick < s.tick)) wTick) (stB s x) wState) (armB s x) wArmed) (dooB s x) wDoor) (by omega)
 have s5 := s64_5 s x _ k5 (addR (addR (addR (addR (addR ([] : List (List UInt8)) (decide (x.tick < s.tick)) wTick) (stB s x) wState) (armB s x) wArmed) (dooB s x) wDoor) (peoB s x) wPeople) (by omega)
 have s6 := s64_6 s x _ k6 (addR (addR (addR (addR (addR (addR ([] : List (List UInt8)) (decide (x.tick < s.tick)) wTick) (stB s x) wState) (armB s x) wArmed) (dooB s x) wDoor) (peoB s x) wPeople) (keyR s x) wKey) (by omega)
 have hr : reaL s x = (addR (addR (addR (addR (addR (addR (addR ([] : List (List UInt8)) (decide (x.tick < s.tick)) wTick) (stB s x) wState) (armB s x) wArmed) (dooB s x) wDoor) (peoB s x) wPeople) (keyR s x) wKey) (waiB s x) wWait) := rfl
 rw [hr]
 generalize (addR (addR (addR (addR (addR (addR (addR ([] : List (List UInt8)) (decide (x.tick < s.tick)) wTick) (stB s x) wState) (armB s x) wArmed) (dooB s x) wDoor) (peoB s x) wPeople) (keyR s x) wKey) (waiB s x) wWait) = L at *
 have hG : G0 1 = some g1 := rfl
 have s7 : loopS (evFn F C0 G0 (d + 5)) C0 G0 0 true [2, 3, 5, 8, 9] c64L0 (S90 s x L 7) = .ret (.exit 0, ⟨(S90 s x L 7).env ++ [(10, bl false)], (S90 s x L 7).sto⟩) := by
  simp -implicitDefEqProofs [loopS_eq, c64L0, S90, g1, sc]
 have hst : loopN (loopS (evFn F C0 G0 (d + 5)) C0 G0 0 true [2, 3, 5, 8, 9] c64L0) loopFuel (S90 s x [] 0) = .ret (.exit 0, ⟨(S90 s x L 7).env ++ [(10, bl false)], (S90 s x L 7).sto⟩) := by
  rw [loopN_on' s0 (by simp [loopFuel]), loopN_on' s1 (by simp [loopFuel]), loopN_on' s2 (by simp [loopFuel]), loopN_on' s3 (by simp [loopFuel]), loopN_on' s4 (by simp [loopFuel]), loopN_on' s5 (by simp [loopFuel]), loopN_on' s6 (by simp [loopFuel]), loopN_end s7 (by simp) (by simp [loopFuel])]
 obtain ⟨t, kk, m, a, b, c⟩ := x
 obtain ⟨st, o0, o1, o2, o3, o4, o5, o6, o7, y0, y1, pp, ar, sh, ad⟩ := s
 have hQ : (pStr L).length = L.length := by simp
 simp only [S90, g1, sc, List.map_cons, List.map_nil, pStr_nil, List.length_nil, iv, bl, List.cons_append, List.nil_append] at hst
 generalize pStr L = Q at *
 simp -implicitDefEqProofs [c64, hG, g1]
 rw [hst]
 simp -implicitDefEqProofs [hQ]
end Fw
end

