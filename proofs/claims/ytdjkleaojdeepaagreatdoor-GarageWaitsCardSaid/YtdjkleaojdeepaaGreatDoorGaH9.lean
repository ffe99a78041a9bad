/- Several texts in one: steps of the proof, no condition of their own. -/
import Derived.Test.YtdjkleaojdeepaaGreatDoorGaH6
import Derived.KernelRfl
attribute [local irreducible] Fw.evCode Fw.evOps Fw.evOpsD Fw.evOper Fw.evOperD Fw.evOp Fw.evFn Fw.loopN Fw.T.All Fw.T.bind Fw.callPure Fw.callOp Fw.opsK Fw.opsDK Fw.restK Fw.seqK Fw.blockK Fw.loopS Fw.setK Fw.setQ Fw.giveK Fw.scalK Fw.gcK Fw.finish Fw.finS Fw.rfunK Fw.yldK Fw.yldB Fw.loopK
section
set_option maxHeartbeats 16000000
namespace Fw
open Go
abbrev kOpen : List UInt8 := [111, 112, 101, 110]
abbrev kClose : List UInt8 := [99, 108, 111, 115, 101]
abbrev kInsert : List UInt8 := [105, 110, 115, 101, 114, 116]
abbrev kRemove : List UInt8 := [114, 101, 109, 111, 118, 101]
abbrev kEnter : List UInt8 := [101, 110, 116, 101, 114]
abbrev kLeave : List UInt8 := [108, 101, 97, 118, 101]
abbrev kArm : List UInt8 := [97, 114, 109]
abbrev kDisarm : List UInt8 := [100, 105, 115, 97, 114, 109]
abbrev kShoot : List UInt8 := [115, 104, 111, 111, 116]
abbrev kMeasure : List UInt8 := [109, 101, 97, 115, 117, 114, 101]
def kindL : List (List UInt8) := [kOpen, kClose, kInsert, kRemove, kEnter, kLeave, kArm, kDisarm, kShoot, kMeasure]
abbrev strL (l : List (List UInt8)) : AVal := .p (.sl (pStr l) l.length)

theorem index163s {n : Nat} (hn : 1 ≤ n) (l : List (List UInt8)) (v : List UInt8) (hl : l.length < 100000) : ∃ r : Int, RUN n 163 [strL l, sv v] = .ret (iv r) ∧ decide (0 ≤ r) = decide (v ∈ l) := by
 obtain ⟨d, rfl⟩ : ∃ d, n = d + 1 := ⟨n - 1, by omega⟩
 rw [RUN, call_eq fe163 _ rfl]
 let inv : Nat → St := fun i => ⟨[(0, strL l), (1, sv v), (7, iv l.length), (8, iv i)], []⟩
 have key := loop_first (step := loopS (evFn F C0 G0 d) C0 G0 0 false [0, 1, 7, 8] c163L0) inv (fun i => if v = l.getD i [] then 1 else 0) l.length (.exit 0, ⟨(inv l.length).env ++ [(9, .p (.bool false))], []⟩) (fun i => (.ret, ⟨[(4, iv i)], []⟩))
  (st0 := ⟨[(0, strL l), (1, sv v), (7, iv l.length), (8, iv 0)], []⟩) (fuel := loopFuel) rfl (fun i hi => by
   have hlt : (i : Int) < l.length := by omega
   have hgd : l.getD i [] = l[i] := by simp [List.getD_eq_getElem?_getD, List.getElem?_eq_getElem hi]
   have hgn : ∀ q, (pStr l)[i]'q = .str l[i] := fun q => by simp [pStr]
   have hpl : (pStr l).length = l.length := by simp
   have hw := wrap_succ (i := i) (by omega)
   simp only [hgd]
   generalize hQ : pStr l = Q at *
   by_cases h : v = l[i]
   ·rw [if_pos h]
    refine ⟨fun h0 => absurd h0 (by decide), fun _ => ?_⟩
    generalize l[i] = y at *
    subst h
    simp -implicitDefEqProofs [inv, hQ, loopS_eq, c163L0, hi, hlt, hgn, hpl, strBin]
   ·rw [if_neg h]
    have hne : (v == l[i]) = false := by simpa using h
    generalize l[i] = y at *
    refine ⟨fun _ => ⟨?_, ?h1, ?h2⟩, fun h0 => absurd rfl h0⟩
    case h1 =>
     simp -implicitDefEqProofs [inv, hQ, loopS_eq, c163L0, hi, hlt, hgn, hpl, hw, hne, strBin]
     exact rfl
    case h2 => simp [inv]) (fun _ => by simp) (by simp -implicitDefEqProofs [inv, loopS_eq, c163L0]) (by simp) (by simp [loopFuel]; omega)
 simp -implicitDefEqProofs [c163]
 rcases key with ⟨k1, k2⟩ | ⟨j, hj, k1, k2, k3, k4⟩
 ·rw [k1]
  have : ¬ v ∈ l := fun hm => by
   obtain ⟨i, hi, h⟩ := List.getElem_of_mem hm
   have := firstE_zero.1 k2 _ (List.mem_map.2 ⟨i, List.mem_range.2 hi, rfl⟩)
   rw [if_pos (by simp [List.getD_eq_getElem?_getD, hi, h])] at this
   cases this
  refine ⟨-1, ?_, ?_⟩
  ·simp -implicitDefEqProofs [inv]
  ·simp [this]
 ·rw [k1]
  have : v ∈ l := by
   have hx : v = l.getD j [] := by
    by_cases h : v = l.getD j []
    ·exact h
    ·rw [if_neg h] at k3; exact absurd rfl k3
   rw [hx]
   simp [List.getD_eq_getElem?_getD, hj]
  refine ⟨j, ?_, ?_⟩
  ·simp -implicitDefEqProofs []
  ·simp [this]
theorem contains139 {n : Nat} (hn : 2 ≤ n) (l : List (List UInt8)) (v : List UInt8) (hl : l.length < 100000) : RUN n 139 [strL l, sv v] = .ret (.p (.bool (decide (v ∈ l)))) := by
 obtain ⟨d, rfl⟩ : ∃ d, n = d + 2 := ⟨n - 2, by omega⟩
 rw [RUN, call_eq fe139 _ rfl]
 obtain ⟨r, k, h⟩ := index163s (n := d + 1) (by omega) l v hl
 rw [← h]
 simp -implicitDefEqProofs [c139, k]
structure ActI where
 tick : Int
 kind : List UInt8
 num : Int
 a : Int
 b : Int
 c : Int
abbrev aa (x : ActI) : AVal := .agg [iv x.tick, sv x.kind, iv x.num, iv x.a, iv x.b, iv x.c]
theorem is93 {n : Nat} (hn : 3 ≤ n) (x : ActI) (l : List (List UInt8)) (hl : l.length < 100000) : RUN n 93 [aa x, strL l] = .ret (.p (.bool (decide (x.kind ∈ l)))) := by
 obtain ⟨d, rfl⟩ : ∃ d, n = d + 3 := ⟨n - 3, by omega⟩
 rw [RUN, call_eq fe93 _ rfl]
 have k := contains139 (n := d + 2) (by omega) l x.kind hl
 simp -implicitDefEqProofs [c93, k]
theorem word71 {n : Nat} (hn : 1 ≤ n) (l : List (List UInt8)) (v : List UInt8) (hl : l.length < 100000) : RUN n 71 [strL l, sv v] = .ret (.p (.bool (decide (v ∈ l)))) := by
 obtain ⟨d, rfl⟩ : ∃ d, n = d + 1 := ⟨n - 1, by omega⟩
 rw [RUN, call_eq fe71 _ rfl]
 let inv : Nat → St := fun i => ⟨[(0, strL l), (1, sv v), (5, iv i)], []⟩
 have key := loop_first (step := loopS (evFn F C0 G0 d) C0 G0 0 false [0, 1, 5] c71L0) inv (fun i => if v = l.getD i [] then 1 else 0) l.length (.exit 0, ⟨(inv l.length).env ++ [(9, .p (.bool false))], []⟩) (fun _ => (.ret, ⟨[(4, .p (.bool true))], []⟩))
  (st0 := ⟨[(0, strL l), (1, sv v), (5, iv 0)], []⟩) (fuel := loopFuel) rfl (fun i hi => by
   have hlt : (i : Int) < l.length := by omega
   have hgd : l.getD i [] = l[i] := by simp [List.getD_eq_getElem?_getD, List.getElem?_eq_getElem hi]
   have hgn : ∀ q, (pStr l)[i]'q = .str l[i] := fun q => by simp [pStr]
   have hpl : (pStr l).length = l.length := by simp
   have hw := wrap_succ (i := i) (by omega)
   simp only [hgd]
   generalize hQ : pStr l = Q at *
   by_cases h : v = l[i]
   ·rw [if_pos h]
    refine ⟨fun h0 => absurd h0 (by decide), fun _ => ?_⟩
    generalize l[i] = y at *
    subst h
    simp -implicitDefEqProofs [inv, hQ, loopS_eq, c71L0, hi, hlt, hgn, hpl, strBin]
   ·rw [if_neg h]
    have hne : (l[i] == v) = false := by simpa using fun e => h e.symm
    have h' : ¬ l[i] = v := fun e => h e.symm
    generalize l[i] = y at *
    refine ⟨fun _ => ⟨?_, ?h1, ?h2⟩, fun h0 => absurd rfl h0⟩
    case h1 =>
     simp -implicitDefEqProofs [inv, hQ, loopS_eq, c71L0, hi, hlt, hgn, hpl, hw, hne, strBin]
     exact rfl
    case h2 => simp [inv]) (fun _ => by simp) (by simp -implicitDefEqProofs [inv, loopS_eq, c71L0]) (by simp) (by simp [loopFuel]; omega)
 simp -implicitDefEqProofs [c71]
 rcases key with ⟨k1, k2⟩ | ⟨j, hj, k1, k2, k3, k4⟩
 ·rw [k1]
  have : ¬ v ∈ l := fun hm => by
   obtain ⟨i, hi, h⟩ := List.getElem_of_mem hm
   have := firstE_zero.1 k2 _ (List.mem_map.2 ⟨i, List.mem_range.2 hi, rfl⟩)
   rw [if_pos (by simp [List.getD_eq_getElem?_getD, hi, h])] at this
   cases this
  simp -implicitDefEqProofs [inv, this]
 ·rw [k1]
  have : v ∈ l := by
   have hx : v = l.getD j [] := by
    by_cases h : v = l.getD j []
    ·exact h
    ·rw [if_neg h] at k3; exact absurd rfl k3
   rw [hx]
   simp [List.getD_eq_getElem?_getD, hj]
  simp -implicitDefEqProofs [this]
theorem byWord136 {n : Nat} (hn : 1 ≤ n) : RUN n 136 [] = .ret (.p (.map (pStr kindL) [.int .i64 0, .int .i64 1, .int .i64 2, .int .i64 3, .int .i64 4, .int .i64 5, .int .i64 6, .int .i64 7, .int .i64 8, .int .i64 9])) := by
 obtain ⟨d, rfl⟩ : ∃ d, n = d + 1 := ⟨n - 1, by omega⟩
 kernel_rfl
theorem kinds95 {n : Nat} (hn : 1 ≤ n) : RUN n 95 [] = .ret (strL kindL) := by
 obtain ⟨d, rfl⟩ : ∃ d, n = d + 1 := ⟨n - 1, by omega⟩
 kernel_rfl
def doorB (k : List UInt8) : Bool := k == kOpen || k == kClose || k == kEnter || k == kLeave
def keyB (k : List UInt8) : Bool := k == kInsert || k == kRemove
theorem door96 {n : Nat} (hn : 1 ≤ n) (k : List UInt8) : RUN n 96 [sv k] = .ret (.p (.bool (doorB k))) := by
 obtain ⟨d, rfl⟩ : ∃ d, n = d + 1 := ⟨n - 1, by omega⟩
 rw [RUN, call_eq fe96 _ rfl]
 unfold doorB
 cases h1 : (k == kOpen) <;> cases h2 : (k == kClose) <;> cases h3 : (k == kEnter) <;> simp -implicitDefEqProofs [c96, strBin, h1, h2, h3]
theorem key97 {n : Nat} (hn : 1 ≤ n) (k : List UInt8) : RUN n 97 [sv k] = .ret (.p (.bool (keyB k))) := by
 obtain ⟨d, rfl⟩ : ∃ d, n = d + 1 := ⟨n - 1, by omega⟩
 rw [RUN, call_eq fe97 _ rfl]
 unfold keyB
 cases h1 : (k == kInsert) <;> simp -implicitDefEqProofs [c97, strBin, h1]
end Fw
end

section
set_option maxHeartbeats 16000000
namespace Fw
open Go

def numsE (h : HallI) (k : List UInt8) : Int := if doorB k = true then h.doors else if keyB k = true then 2 else 1
def zerB (a b c : Int) : Bool := a == 0 && (b == 0 && c == 0)
def actE (h : HallI) (x : ActI) : Int :=
 if rangeE 0 100000000 x.tick ≠ 0 then rangeE 0 100000000 x.tick else if ¬ x.kind ∈ kindL then 13 else if x.num < 0 ∨ numsE h x.kind ≤ x.num then 10
 else if x.kind = kMeasure then valE x.a x.b x.c else whenE (!zerB x.a x.b x.c) 1
theorem find_no (k : List UInt8) (vs : List PVal) : ∀ ns : List (List UInt8), vs.length = ns.length → ¬ k ∈ ns → mapFind (.str k) (pStr ns) vs = some none := by
 intro ns
 induction ns generalizing vs with
 | nil => intro h _; rw [List.eq_nil_of_length_eq_zero h]; rfl
 | cons a r ih =>
  intro h hn
  match vs, h with
  | v :: q, h =>
   have hb : (k == a) = false := by simpa using fun e => hn (by simp [e])
   have := ih q (by simpa using h) (fun e => hn (by simp [e]))
   simp only [pStr] at this
   simp [pStr, mapFind, keyEq, eqP, hb, this]
theorem call_door {n : Nat} (hn : 1 ≤ n) (h : HallI) : RUN n 217 [ha h] = .ret (iv h.doors) := by
 obtain ⟨d, rfl⟩ : ∃ d, n = d + 1 := ⟨n - 1, by omega⟩
 rw [RUN, call_eq fe217 _ rfl]
 simp -implicitDefEqProofs [c217]
theorem call_key {n : Nat} (hn : 1 ≤ n) (h : HallI) : RUN n 222 [ha h] = .ret (iv 2) := by
 obtain ⟨d, rfl⟩ : ∃ d, n = d + 1 := ⟨n - 1, by omega⟩
 rw [RUN, call_eq fe222 _ rfl]
 simp -implicitDefEqProofs [c222]
theorem call_none {n : Nat} (hn : 1 ≤ n) (h : HallI) : RUN n 231 [ha h] = .ret (iv 1) := by
 obtain ⟨d, rfl⟩ : ∃ d, n = d + 1 := ⟨n - 1, by omega⟩
 rw [RUN, call_eq fe231 _ rfl]
 simp -implicitDefEqProofs [c231]
theorem check87 {n : Nat} (hn : 6 ≤ n) (h : HallI) (x : ActI) : RUN n 87 [aa x, ha h] = .ret (iv (actE h x)) := by
 obtain ⟨d, rfl⟩ : ∃ d, n = d + 6 := ⟨n - 6, by omega⟩
 rw [RUN, call_eq fe87 _ rfl]
 have kr := within92 (n := d + 5) (by omega) x.tick 0 100000000
 by_cases h0 : rangeE 0 100000000 x.tick = 0
 ·have hE : actE h x = if ¬ x.kind ∈ kindL then 13 else if x.num < 0 ∨ numsE h x.kind ≤ x.num then 10 else if x.kind = kMeasure then valE x.a x.b x.c else whenE (!zerB x.a x.b x.c) 1 := by simp only [actE, h0, ne_eq, not_true_eq_false, if_false]
  rw [hE]
  rw [h0] at kr
  have kb := byWord136 (n := d + 5) (by omega)
  by_cases hk : x.kind ∈ kindL
  ·rw [if_neg (not_not_intro hk)]
   obtain ⟨t, k, m, a, b, c⟩ := x
   have ki := is93 (n := d + 5) (by omega) ⟨t, k, m, a, b, c⟩ [kMeasure] (by simp)
   have kd := call_door (n := d + 5) (by omega) h
   have kk := call_key (n := d + 5) (by omega) h
   have kn := call_none (n := d + 5) (by omega) h
   have kv := measures131 (n := d + 5) (by omega) a b c
   have kw := when104 (n := d + 5) (by omega) (!zerB a b c) 1
   have hz : (!zerB a b c) = (!a == 0 || (!b == 0 || !c == 0)) := by simp only [zerB, Bool.not_and]
   simp only [hz] at kw ⊢
   simp only [kindL, List.mem_cons, List.not_mem_nil, or_false] at hk
   simp only at kr h0 ⊢
   have hG : G0 0 = some g0 := rfl
   simp only [strL, pStr, List.map_cons, List.map_nil, List.length_cons, List.length_nil] at ki
   generalize valE a b c = V at *
   rcases hk with rfl | rfl | rfl | rfl | rfl | rfl | rfl | rfl | rfl | rfl
   ·have hm : mapFind (.str kOpen) (pStr kindL) [.int .i64 0, .int .i64 1, .int .i64 2, .int .i64 3, .int .i64 4, .int .i64 5, .int .i64 6, .int .i64 7, .int .i64 8, .int .i64 9] = some (some (.int .i64 0)) := by kernel_rfl
    rw [show numsE h kOpen = h.doors from rfl]
    by_cases c1 : m < 0
    ·simp -implicitDefEqProofs [c87, kr, kb, hm, c1]
    ·by_cases c2 : h.doors ≤ m
     ·simp -implicitDefEqProofs [c87, kr, kb, hm, c1, hG, g0, kd, c2]
     ·simp -implicitDefEqProofs [c87, kr, kb, hm, c1, hG, g0, kd, c2, ki, kw]
   ·have hm : mapFind (.str kClose) (pStr kindL) [.int .i64 0, .int .i64 1, .int .i64 2, .int .i64 3, .int .i64 4, .int .i64 5, .int .i64 6, .int .i64 7, .int .i64 8, .int .i64 9] = some (some (.int .i64 1)) := by kernel_rfl
    rw [show numsE h kClose = h.doors from rfl]
    by_cases c1 : m < 0
    ·simp -implicitDefEqProofs [c87, kr, kb, hm, c1]
    ·by_cases c2 : h.doors ≤ m
     ·simp -implicitDefEqProofs [c87, kr, kb, hm, c1, hG, g0, kd, c2]
     ·simp -implicitDefEqProofs [c87, kr, kb, hm, c1, hG, g0, kd, c2, ki, kw]
   ·have hm : mapFind (.str kInsert) (pStr kindL) [.int .i64 0, .int .i64 1, .int .i64 2, .int .i64 3, .int .i64 4, .int .i64 5, .int .i64 6, .int .i64 7, .int .i64 8, .int .i64 9] = some (some (.int .i64 2)) := by kernel_rfl
    rw [show numsE h kInsert = 2 from rfl]
    by_cases c1 : m < 0
    ·simp -implicitDefEqProofs [c87, kr, kb, hm, c1]
    ·by_cases c2 : 2 ≤ m
     ·simp -implicitDefEqProofs [c87, kr, kb, hm, c1, hG, g0, kk, c2]
     ·simp -implicitDefEqProofs [c87, kr, kb, hm, c1, hG, g0, kk, c2, ki, kw]
   ·have hm : mapFind (.str kRemove) (pStr kindL) [.int .i64 0, .int .i64 1, .int .i64 2, .int .i64 3, .int .i64 4, .int .i64 5, .int .i64 6, .int .i64 7, .int .i64 8, .int .i64 9] = some (some (.int .i64 3)) := by kernel_rfl
    rw [show numsE h kRemove = 2 from rfl]
    by_cases c1 : m < 0
    ·simp -implicitDefEqProofs [c87, kr, kb, hm, c1]
    ·by_cases c2 : 2 ≤ m
     ·simp -implicitDefEqProofs [c87, kr, kb, hm, c1, hG, g0, kk, c2]
     ·simp -implicitDefEqProofs [c87, kr, kb, hm, c1, hG, g0, kk, c2, ki, kw]
   ·have hm : mapFind (.str kEnter) (pStr kindL) [.int .i64 0, .int .i64 1, .int .i64 2, .int .i64 3, .int .i64 4, .int .i64 5, .int .i64 6, .int .i64 7, .int .i64 8, .int .i64 9] = some (some (.int .i64 4)) := by kernel_rfl
    rw [show numsE h kEnter = h.doors from rfl]
    by_cases c1 : m < 0
    ·simp -implicitDefEqProofs [c87, kr, kb, hm, c1]
    ·by_cases c2 : h.doors ≤ m
     ·simp -implicitDefEqProofs [c87, kr, kb, hm, c1, hG, g0, kd, c2]
     ·simp -implicitDefEqProofs [c87, kr, kb, hm, c1, hG, g0, kd, c2, ki, kw]
   ·have hm : mapFind (.str kLeave) (pStr kindL) [.int .i64 0, .int .i64 1, .int .i64 2, .int .i64 3, .int .i64 4, .int .i64 5, .int .i64 6, .int .i64 7, .int .i64 8, .int .i64 9] = some (some (.int .i64 5)) := by kernel_rfl
    rw [show numsE h kLeave = h.doors from rfl]
    by_cases c1 : m < 0
    ·simp -implicitDefEqProofs [c87, kr, kb, hm, c1]
    ·by_cases c2 : h.doors ≤ m
     ·simp -implicitDefEqProofs [c87, kr, kb, hm, c1, hG, g0, kd, c2]
     ·simp -implicitDefEqProofs [c87, kr, kb, hm, c1, hG, g0, kd, c2, ki, kw]
   ·have hm : mapFind (.str kArm) (pStr kindL) [.int .i64 0, .int .i64 1, .int .i64 2, .int .i64 3, .int .i64 4, .int .i64 5, .int .i64 6, .int .i64 7, .int .i64 8, .int .i64 9] = some (some (.int .i64 6)) := by kernel_rfl
    rw [show numsE h kArm = 1 from rfl]
    by_cases c1 : m < 0
    ·simp -implicitDefEqProofs [c87, kr, kb, hm, c1]
    ·by_cases c2 : 1 ≤ m
     ·simp -implicitDefEqProofs [c87, kr, kb, hm, c1, hG, g0, kn, c2]
     ·simp -implicitDefEqProofs [c87, kr, kb, hm, c1, hG, g0, kn, c2, ki, kw]
   ·have hm : mapFind (.str kDisarm) (pStr kindL) [.int .i64 0, .int .i64 1, .int .i64 2, .int .i64 3, .int .i64 4, .int .i64 5, .int .i64 6, .int .i64 7, .int .i64 8, .int .i64 9] = some (some (.int .i64 7)) := by kernel_rfl
    rw [show numsE h kDisarm = 1 from rfl]
    by_cases c1 : m < 0
    ·simp -implicitDefEqProofs [c87, kr, kb, hm, c1]
    ·by_cases c2 : 1 ≤ m
     ·simp -implicitDefEqProofs [c87, kr, kb, hm, c1, hG, g0, kn, c2]
     ·simp -implicitDefEqProofs [c87, kr, kb, hm, c1, hG, g0, kn, c2, ki, kw]
   ·have hm : mapFind (.str kShoot) (pStr kindL) [.int .i64 0, .int .i64 1, .int .i64 2, .int .i64 3, .int .i64 4, .int .i64 5, .int .i64 6, .int .i64 7, .int .i64 8, .int .i64 9] = some (some (.int .i64 8)) := by kernel_rfl
    rw [show numsE h kShoot = 1 from rfl]
    by_cases c1 : m < 0
    ·simp -implicitDefEqProofs [c87, kr, kb, hm, c1]
    ·by_cases c2 : 1 ≤ m
     ·simp -implicitDefEqProofs [c87, kr, kb, hm, c1, hG, g0, kn, c2]
     ·simp -implicitDefEqProofs [c87, kr, kb, hm, c1, hG, g0, kn, c2, ki, kw]
   ·have hm : mapFind (.str kMeasure) (pStr kindL) [.int .i64 0, .int .i64 1, .int .i64 2, .int .i64 3, .int .i64 4, .int .i64 5, .int .i64 6, .int .i64 7, .int .i64 8, .int .i64 9] = some (some (.int .i64 9)) := by kernel_rfl
    rw [show numsE h kMeasure = 1 from rfl]
    by_cases c1 : m < 0
    ·simp -implicitDefEqProofs [c87, kr, kb, hm, c1]
    ·by_cases c2 : 1 ≤ m
     ·simp -implicitDefEqProofs [c87, kr, kb, hm, c1, hG, g0, kn, c2]
     ·simp -implicitDefEqProofs [c87, kr, kb, hm, c1, hG, g0, kn, c2, ki, kv]
  ·rw [if_pos hk]
   have hm := find_no x.kind [.int .i64 0, .int .i64 1, .int .i64 2, .int .i64 3, .int .i64 4, .int .i64 5, .int .i64 6, .int .i64 7, .int .i64 8, .int .i64 9] kindL rfl hk
   simp -implicitDefEqProofs [c87, kr, kb, hm]
 ·have hE : actE h x = rangeE 0 100000000 x.tick := by simp only [actE, ne_eq, h0, not_false_eq_true, if_true]
  rw [hE]
  generalize rangeE 0 100000000 x.tick = e at *
  simp -implicitDefEqProofs [c87, kr, h0]
end Fw
end

section
set_option maxHeartbeats 16000000
namespace Fw
open Go

theorem check25 {n : Nat} (hn : 4 ≤ n) (h : HallI) (hd1 : 1 ≤ h.doors) (hd2 : h.doors ≤ 8) (x : ActI) : RUN n 25 [ha h, aa x] = .ret (iv (actE h x)) := by
 obtain ⟨d, rfl⟩ : ∃ d, n = d + 4 := ⟨n - 4, by omega⟩
 rw [RUN, call_eq fe25 _ rfl]
 have kr := range24 (n := d + 3) (by omega) x.tick 0 100000000
 have k2 := fun a b => first23_2 (n := d + 3) (by omega) a b
 have kk := kinds95 (n := d + 3) (by omega)
 have kw := word71 (n := d + 3) (by omega) kindL x.kind (by decide)
 have kn := fun b e => when94 (n := d + 3) (by omega) b e
 have kd := door96 (n := d + 3) (by omega) x.kind
 have kq := key97 (n := d + 3) (by omega) x.kind
 have kv := values79 (n := d + 3) (by omega) x.a x.b x.c
 unfold actE numsE
 have hex : ∀ b, doorB x.kind = true → keyB x.kind = b → b = false := fun b h1 h2 => by
  subst h2
  unfold doorB at h1
  simp only [Bool.or_eq_true, beq_iff_eq] at h1
  rcases h1 with ((h1 | h1) | h1) | h1 <;> rw [h1] <;> decide
 have hme : x.kind = kMeasure → (x.kind == kMeasure) = true := fun h => by simp [h]
 have hmn : ¬ x.kind = kMeasure → (x.kind == kMeasure) = false := fun h => by simpa using h
 have hz : (!zerB x.a x.b x.c) = (!x.a == 0 || (!x.b == 0 || !x.c == 0)) := by simp only [zerB, Bool.not_and]
 simp only [hz]
 have hK : strL kindL = .p (.sl (pStr kindL) 10) := rfl
 rw [hK] at kk
 have hK2 : strL kindL = .p (.sl (pStr kindL) 10) := rfl
 simp only [hK2] at kw
 generalize hE : rangeE 0 100000000 x.tick = e0 at *
 generalize hV : valE x.a x.b x.c = V at *
 have ws : IntKind.i64.wrap (h.doors - 1) = h.doors - 1 := wrap64 (by omega) (by omega)
 have hin : decide (x.kind ∈ kindL) = true ∨ decide (x.kind ∈ kindL) = false := by cases decide (x.kind ∈ kindL) <;> simp
 obtain ⟨t, k, m, a, b, c⟩ := x
 simp only at *
 generalize pStr kindL = PK at *
 by_cases h0 : e0 = 0
 ·subst h0
  by_cases hk : k ∈ kindL
  ·have hk' : decide (k ∈ kindL) = true := by simpa using hk
   rw [hk'] at kw
   rw [if_neg (by simp), if_neg (by simpa using hk)]
   generalize kindL = KL at *
   cases hdb : doorB k with
   | true =>
    have hkb := hex _ hdb rfl
    rw [hdb] at kd; rw [hkb] at kq
    by_cases c1 : m < 0
    ·simp -implicitDefEqProofs [c25, kr, k2, kk, kw, kn, kd, kq, whenE, firstE, ws, c1]
    ·by_cases c2 : h.doors ≤ m
     ·have c3 : h.doors - 1 < m := by omega
      simp -implicitDefEqProofs [c25, kr, k2, kk, kw, kn, kd, kq, whenE, firstE, ws, c1, c2, c3]
     ·have c3 : ¬ h.doors - 1 < m := by omega
      by_cases hm : k = kMeasure
      ·rw [hm] at hdb; cases hdb
      ·have hm' := hmn hm
       simp -implicitDefEqProofs [c25, kr, k2, kk, kw, kn, kd, kq, whenE, firstE, ws, c1, c2, c3, strBin, hm, hm']
   | false =>
    rw [hdb] at kd
    cases hkb : keyB k with
    | true =>
     rw [hkb] at kq
     by_cases c1 : m < 0
     ·simp -implicitDefEqProofs [c25, kr, k2, kk, kw, kn, kd, kq, whenE, firstE, c1]
     ·by_cases c2 : 2 ≤ m
      ·have c3 : 1 < m := by omega
       simp -implicitDefEqProofs [c25, kr, k2, kk, kw, kn, kd, kq, whenE, firstE, c1, c2, c3]
      ·have c3 : ¬ 1 < m := by omega
       by_cases hm : k = kMeasure
       ·rw [hm] at hkb; cases hkb
       ·have hm' := hmn hm
        simp -implicitDefEqProofs [c25, kr, k2, kk, kw, kn, kd, kq, whenE, firstE, c1, c2, c3, strBin, hm, hm']
    | false =>
     rw [hkb] at kq
     by_cases c1 : m < 0
     ·simp -implicitDefEqProofs [c25, kr, k2, kk, kw, kn, kd, kq, whenE, firstE, c1]
     ·by_cases c2 : 1 ≤ m
      ·have c3 : 0 < m := by omega
       simp -implicitDefEqProofs [c25, kr, k2, kk, kw, kn, kd, kq, whenE, firstE, c1, c2, c3]
      ·have c3 : ¬ 0 < m := by omega
       by_cases hm : k = kMeasure
       ·have hm' := hme hm
        simp -implicitDefEqProofs [c25, kr, k2, kk, kw, kn, kd, kq, whenE, firstE, c1, c2, c3, strBin, hm', kv]
        simp [hm]
       ·have hm' := hmn hm
        simp -implicitDefEqProofs [c25, kr, k2, kk, kw, kn, kd, kq, whenE, firstE, c1, c2, c3, strBin, hm, hm']
  ·have hk' : decide (k ∈ kindL) = false := by simpa using hk
   rw [hk'] at kw
   rw [if_neg (by simp), if_pos (by simpa using hk)]
   generalize kindL = KL at *
   simp -implicitDefEqProofs [c25, kr, k2, kk, kw, kn, whenE, firstE]
 ·rw [if_pos (by simpa using h0)]
  have k2' := fun b => k2 e0 b
  have hf : ∀ b, firstE [e0, b] = e0 := fun b => by simp [firstE, h0]
  simp only [hf] at k2'
  cases hk' : decide (k ∈ kindL) <;> rw [hk'] at kw <;> generalize kindL = KL at * <;> simp -implicitDefEqProofs [c25, kr, k2', kk, kw, kn, h0]
theorem wait72 {n : Nat} (hn : 7 ≤ n) (h : HallI) (g0 : h.t0.length < 1000000) (g1 : h.t1.length < 1000000) (g2 : h.t2.length < 1000000) (a b c : Int) : RUN n 72 [ha h, v3 a b c] = .ret (if firstE [hallE h, valE a b c] = 0 then .tup [iv (waitP h a b c), iv 0] else .tup [iv 0, iv (firstE [hallE h, valE a b c])]) := by
 obtain ⟨d, rfl⟩ : ∃ d, n = d + 7 := ⟨n - 7, by omega⟩
 rw [RUN, call_eq fe72 _ rfl]
 have k1 := hall81 (n := d + 6) (by omega) h g0 g1 g2
 have k2 := measures131 (n := d + 6) (by omega) a b c
 have k3 := first91_2 (n := d + 6) (by omega) (hallE h) (valE a b c)
 have k4 := wait132 (n := d + 6) (by omega) h g0 g1 g2 a b c
 generalize waitP h a b c = W at *
 generalize hallE h = e at *
 generalize valE a b c = v at *
 by_cases h0 : firstE [e, v] = 0
 ·rw [h0] at k3
  simp -implicitDefEqProofs [c72, k1, k2, k3, k4, h0]
 ·generalize firstE [e, v] = f at *
  simp -implicitDefEqProofs [c72, k1, k2, k3, h0]
theorem tab_of {l : List (Int × Int)} (h : tabE l = 0) : (∀ i, i < l.length → 0 ≤ (l.getD i (0, 0)).2) ∧ ∀ i, i + 1 < l.length → (l.getD i (0, 0)).2 ≤ (l.getD (i + 1) (0, 0)).2 := by
 unfold tabE at h
 split at h
 ·cases h
 ·split at h
  ·cases h
  ·have hE := firstE_zero.1 h
   have hst : ∀ i, i < l.length → stE (prvL l i) (l.getD i (0, 0)) (decide (i = 0)) = 0 := fun i hi => hE _ (List.mem_map.2 ⟨i, List.mem_range.2 hi, rfl⟩)
   refine ⟨fun i hi => ?_, fun i hi => ?_⟩
   ·have h2 := firstE_zero.1 (hst i hi) (rangeE 0 1000000 (l.getD i (0, 0)).2) (by simp)
    unfold rangeE at h2
    split at h2
    ·cases h2
    ·omega
   ·have h3 := firstE_zero.1 (hst (i + 1) hi) (whenE (ordB (prvL l (i + 1)) (l.getD (i + 1) (0, 0)) (decide (i + 1 = 0))) 11) (by simp)
    cases ho : ordB (prvL l (i + 1)) (l.getD (i + 1) (0, 0)) (decide (i + 1 = 0)) with
    | true => rw [ho] at h3; cases h3
    | false =>
     simp only [ordB, Bool.or_eq_false_iff, decide_eq_false_iff_not] at ho
     have := ho.2
     simp only [prvL] at this
     omega
theorem doors_of {h : HallI} (hz : hallE h = 0) : 1 ≤ h.doors ∧ h.doors ≤ 8 := by
 have := firstE_zero.1 hz (rangeE 1 8 h.doors) (by simp)
 unfold rangeE at this
 split at this
 ·cases this
 ·omega
end Fw
end

