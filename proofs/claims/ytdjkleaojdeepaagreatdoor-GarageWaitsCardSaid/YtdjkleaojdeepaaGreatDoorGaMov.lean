/- Several texts in one: steps of the proof, no condition of their own. -/
import Derived.Test.YtdjkleaojdeepaaGreatDoorGaK
attribute [local irreducible] Fw.evCode Fw.evOps Fw.evOpsD Fw.evOper Fw.evOperD Fw.evOp Fw.evFn Fw.loopN Fw.T.All Fw.T.bind Fw.callPure Fw.callOp Fw.opsK Fw.opsDK Fw.restK Fw.seqK Fw.blockK Fw.loopS Fw.setK Fw.setQ Fw.giveK Fw.scalK Fw.gcK Fw.finish Fw.finS Fw.rfunK Fw.yldK Fw.yldB Fw.loopK
section
set_option maxHeartbeats 16000000
namespace Fw
open Go

def gbad (n : Int) (x : Int × Int) : Bool := (decide (x.1 < 0) || decide (x.2 ≤ x.1)) || decide (n < x.2)
def spn1 (p : Int) (x : Int × Int) : Int := firstE [whenE (gbad 100000000 x) 14, whenE (decide (x.1 < p)) 15]
def endG (g : List (Int × Int)) (i : Nat) : Int := if i = 0 then 0 else (g.getD (i - 1) (0, 0)).2
def spnL (g : List (Int × Int)) : List Int := (List.range g.length).map fun i => spn1 (endG g i) (g.getD i (0, 0))
def spnE (g : List (Int × Int)) : Int := if 32 < g.length then 5 else firstE (spnL g)
def traE (l : List Int) : Int := if 1024 < l.length then 5 else firstE (l.map (rangeE (-100000) 100000))
theorem endG_succ (g : List (Int × Int)) (i : Nat) (h : i < g.length) : endG g (i + 1) = g[i].2 := by
 simp [endG, List.getD_eq_getElem?_getD, h]
theorem cI_len' (l : List (Int × Int)) : (cI l).length = l.length * 2 := by
 induction l with
 | nil => rfl
 | cons x r ih => simp only [cI, List.length_cons, ih]; omega
end Fw
end

section
set_option maxHeartbeats 16000000
namespace Fw
open Go

def freF (g : List (Int × Int)) (v : Int) : Nat → Bool
 | 0 => false
 | k + 1 => freF g v k || (decide ((g.getD k (0, 0)).1 ≤ v) && decide (v < (g.getD k (0, 0)).2))
def mvF (l : List Int) (g : List (Int × Int)) : Nat → List Int
 | 0 => []
 | k + 1 => if l.getD (k + 1) 0 ≠ l.getD k 0 ∧ freF g (k + 1) g.length = false then mvF l g k ++ [(k : Int) + 1] else mvF l g k
theorem mvF_len (l : List Int) (g : List (Int × Int)) : ∀ k, (mvF l g k).length ≤ k := by
 intro k
 induction k with
 | zero => simp [mvF]
 | succ k ih =>
  simp only [mvF]
  split
  ·simp only [List.length_append, List.length_cons, List.length_nil]; omega
  ·omega
end Fw
end

section
set_option maxHeartbeats 16000000
namespace Fw
open Go

theorem in106 {n : Nat} (hn : 1 ≤ n) (x : Int × Int) (v : Int) : RUN n 106 [.agg [iv x.1, iv x.2], .p (.pp [.int .i64 v])] = .ret (.p (.bool (decide (x.1 ≤ v) && decide (v < x.2)))) := by
 obtain ⟨d, rfl⟩ : ∃ d, n = d + 1 := ⟨n - 1, by omega⟩
 rw [RUN, call_eq fe106 _ rfl]
 obtain ⟨a, b⟩ := x
 by_cases h1 : a ≤ v
 ·simp -implicitDefEqProofs [c106, h1]
 ·simp -implicitDefEqProofs [c106, h1]
theorem freF_any (g : List (Int × Int)) (v : Int) : ∀ k, k ≤ g.length → (freF g v k = true ↔ ∃ j, j < k ∧ (decide ((g.getD j (0, 0)).1 ≤ v) && decide (v < (g.getD j (0, 0)).2)) = true) := by
 intro k
 induction k with
 | zero => intro _; simp [freF]
 | succ k ih =>
  intro hk
  have ih := ih (by omega)
  simp only [freF, Bool.or_eq_true]
  constructor
  ·rintro (h | h)
   ·obtain ⟨j, h1, h2⟩ := ih.1 h; exact ⟨j, by omega, h2⟩
   ·exact ⟨k, by omega, h⟩
  ·rintro ⟨j, h1, h2⟩
   by_cases e : j = k
   ·subst e; exact .inr h2
   ·exact .inl (ih.2 ⟨j, by omega, h2⟩)
theorem indexFunc140 {n : Nat} (hn : 2 ≤ n) (g : List (Int × Int)) (hg : g.length < 1000000) (v : Int) : ∃ r : Int, RUN n 140 [csl g, .p (.clo 106 [] [.pp [.int .i64 v]])] = .ret (iv r) ∧ decide (0 ≤ r) = freF g v g.length := by
 obtain ⟨d, rfl⟩ : ∃ d, n = d + 2 := ⟨n - 2, by omega⟩
 rw [RUN, call_eq fe140 _ rfl]
 let inv : Nat → St := fun i => ⟨[(0, csl g), (1, .p (.clo 106 [] [.pp [.int .i64 v]])), (7, iv g.length), (8, iv i)], []⟩
 have key := loop_first (step := loopS (evFn F C0 G0 (d + 1)) C0 G0 0 true [0, 1, 7, 8] c140L0) inv (fun i => if (decide ((g.getD i (0, 0)).1 ≤ v) && decide (v < (g.getD i (0, 0)).2)) = true then 1 else 0) g.length (.exit 0, ⟨(inv g.length).env ++ [(9, .p (.bool false))], []⟩) (fun i => (.ret, ⟨[(4, iv i)], []⟩))
  (st0 := ⟨[(0, csl g), (1, .p (.clo 106 [] [.pp [.int .i64 v]])), (7, iv g.length), (8, iv 0)], []⟩) (fuel := loopFuel) rfl (fun i hi => by
   have hw := wrap_succ (i := i) (by omega)
   have hlt : i * 2 < g.length * 2 := by omega
   have hlt2 : i * 2 + 2 ≤ g.length * 2 := by omega
   have hdr := cI_drop g i hi
   have hgi : g.getD i (0, 0) = g[i] := by simp [List.getD_eq_getElem?_getD, hi]
   have kc := in106 (n := d + 1) (by omega) g[i] v
   simp only [hgi]
   generalize hA : cI g = A at *
   have hAl : A.length = g.length * 2 := by rw [← hA]; exact cI_len' g
   generalize cI (g.drop (i + 1)) = R2 at *
   generalize g[i] = x at *
   obtain ⟨a, b⟩ := x
   simp only at hdr kc ⊢
   cases hf : (decide (a ≤ v) && decide (v < b)) with
   | true =>
    rw [hf] at kc
    refine ⟨fun h0 => absurd h0 (by simp), fun _ => ?_⟩
    simp -implicitDefEqProofs [inv, hA, hAl, loopS_eq, c140L0, hi, hlt, hdr, kc]
   | false =>
    rw [hf] at kc
    refine ⟨fun _ => ⟨?_, ?h1, ?h2⟩, fun h0 => absurd rfl h0⟩
    case h1 =>
     simp -implicitDefEqProofs [inv, hA, hAl, loopS_eq, c140L0, hi, hlt, hdr, kc, hw]
     exact rfl
    case h2 => exact loopS_same (by simp [inv]) (by simp [inv])) (fun _ => by simp) (by simp -implicitDefEqProofs [inv, loopS_eq, c140L0]) (by simp) (by simp [loopFuel]; omega)
 simp -implicitDefEqProofs [c140]
 rcases key with ⟨k1, k2⟩ | ⟨j, hj, k1, k2, k3, k4⟩
 ·rw [k1]
  have hno : freF g v g.length = false := by
   cases hf : freF g v g.length with
   | false => rfl
   | true =>
    obtain ⟨j, h1, h2⟩ := (freF_any g v _ (Nat.le_refl _)).1 hf
    have := firstE_zero.1 k2 _ (List.mem_map.2 ⟨j, List.mem_range.2 h1, rfl⟩)
    rw [if_pos h2] at this
    cases this
  refine ⟨-1, ?_, ?_⟩
  ·simp -implicitDefEqProofs [inv]
  ·rw [hno]; decide
 ·rw [k1]
  have hyes : freF g v g.length = true := by
   refine (freF_any g v _ (Nat.le_refl _)).2 ⟨j, hj, ?_⟩
   cases hb : (decide ((g.getD j (0, 0)).1 ≤ v) && decide (v < (g.getD j (0, 0)).2)) with
   | true => rfl
   | false => rw [if_neg (by rw [hb]; simp)] at k3; exact absurd rfl k3
  refine ⟨j, ?_, ?_⟩
  ·simp -implicitDefEqProofs []
  ·rw [hyes]; simp
theorem contains107 {n : Nat} (hn : 3 ≤ n) (g : List (Int × Int)) (hg : g.length < 1000000) (v : Int) : RUN n 107 [csl g, .p (.clo 106 [] [.pp [.int .i64 v]])] = .ret (.p (.bool (freF g v g.length))) := by
 obtain ⟨d, rfl⟩ : ∃ d, n = d + 3 := ⟨n - 3, by omega⟩
 rw [RUN, call_eq fe107 _ rfl]
 obtain ⟨r, k, hr⟩ := indexFunc140 (n := d + 2) (by omega) g hg v
 rw [← hr]
 simp only [csl] at k ⊢
 generalize cI g = A at *
 simp -implicitDefEqProofs [c107, k]
theorem check103 {n : Nat} (hn : 3 ≤ n) (x : Int) : RUN n 103 [iv x] = .ret (iv (rangeE (-100000) 100000 x)) := by
 obtain ⟨d, rfl⟩ : ∃ d, n = d + 3 := ⟨n - 3, by omega⟩
 rw [RUN, call_eq fe103 _ rfl]
 have k := within92 (n := d + 2) (by omega) x (-100000) 100000
 simp -implicitDefEqProofs [c103, k]
def trG : PVal → PVal
 | .int _ n => .int .i64 (rangeE (-100000) 100000 n)
 | c => c
theorem map105t {n : Nat} (hn : 4 ≤ n) (l : List Int) (hl : l.length < 1000000) : RUN n 105 [isl l, .p (.clo 103 [] [])] = .ret (.own (pI (l.map (rangeE (-100000) 100000))) l.length 1) := by
 obtain ⟨d, rfl⟩ : ∃ d, n = d + 4 := ⟨n - 4, by omega⟩
 have hPl : (pI l).length = l.length := by simp [pI]
 have k := map_ok (C := C0) (G := G0) (d := d + 3) fc105 (by decide) (fun _ => rfl) (pI l) 103 [] trG (by rw [hPl]; exact hl) (by simp) (by
  intro x hx
  simp only [pI, List.mem_map] at hx
  obtain ⟨y, hy, rfl⟩ := hx
  exact ⟨check103 (by omega) y, rfl⟩)
 rw [hPl] at k
 have e : (pI l).map trG = pI (l.map (rangeE (-100000) 100000)) := by simp [pI, trG, Function.comp_def]
 rw [e] at k
 exact k
theorem spans42 {d : Nat} (l : List Int) (g : List (Int × Int)) (hg : g.length < 1000000) :
  (loopN (loopS (evFn F C0 G0 (d + 3)) C0 G0 0 true [0, 1, 8, 32, 33, 34] c42L0) loopFuel ⟨[(0, isl l), (1, csl g), (8, iv 0), (32, csl g), (33, iv g.length), (34, iv 0)], []⟩ = .ret (.exit 0, ⟨[(0, isl l), (1, csl g), (8, iv (endG g g.length)), (32, csl g), (33, iv g.length), (34, iv g.length), (35, .p (.bool false))], []⟩) ∧ firstE (spnL g) = 0) ∨
  ∃ st, loopN (loopS (evFn F C0 G0 (d + 3)) C0 G0 0 true [0, 1, 8, 32, 33, 34] c42L0) loopFuel ⟨[(0, isl l), (1, csl g), (8, iv 0), (32, csl g), (33, iv g.length), (34, iv 0)], []⟩ = .ret (.ret, st) ∧ st.env = [(4, .p .nils), (5, iv (firstE (spnL g)))] ∧ firstE (spnL g) ≠ 0 := by
 let inv : Nat → St := fun i => ⟨[(0, isl l), (1, csl g), (8, iv (endG g i)), (32, csl g), (33, iv g.length), (34, iv i)], []⟩
 have key := loop_firstR (step := loopS (evFn F C0 G0 (d + 3)) C0 G0 0 true [0, 1, 8, 32, 33, 34] c42L0) inv (fun i => spn1 (endG g i) (g.getD i (0, 0))) g.length (.exit 0, ⟨(inv g.length).env ++ [(35, .p (.bool false))], []⟩) (fun i st => st.env = [(4, .p .nils), (5, iv (spn1 (endG g i) (g.getD i (0, 0))))])
  (st0 := ⟨[(0, isl l), (1, csl g), (8, iv 0), (32, csl g), (33, iv g.length), (34, iv 0)], []⟩) rfl (fun i hi => by
   have hw := wrap_succ (i := i) (by omega)
   have hlt : i * 2 < g.length * 2 := by omega
   have hlt2 : i * 2 + 2 ≤ g.length * 2 := by omega
   have hdr := cI_drop g i hi
   have hgi : g.getD i (0, 0) = g[i] := by simp [List.getD_eq_getElem?_getD, hi]
   have kw := fun b e => when104 (n := d + 3) (by omega) b e
   have k2 := fun a b => first91_2 (n := d + 3) (by omega) a b
   have hend := endG_succ g i hi
   simp only [hgi, inv, hend]
   unfold spn1 gbad
   generalize endG g i = p at *
   generalize hA : cI g = A at *
   have hAl : A.length = g.length * 2 := by rw [← hA]; exact cI_len' g
   generalize cI (g.drop (i + 1)) = R2 at *
   generalize g[i] = x at *
   obtain ⟨a, b⟩ := x
   simp only at hdr ⊢
   by_cases c1 : a < 0
   ·refine ⟨fun he => ?_, fun he => ⟨_, by simp -implicitDefEqProofs [loopS_eq, c42L0, hi, hA, hAl, hlt, hdr, kw, k2, firstE, whenE, c1]; exact rfl, ?_⟩⟩
    ·simp [c1, firstE, whenE] at he
    ·simp [c1, firstE, whenE]
   ·by_cases c2 : b ≤ a
    ·refine ⟨fun he => ?_, fun he => ⟨_, by simp -implicitDefEqProofs [loopS_eq, c42L0, hi, hA, hAl, hlt, hdr, kw, k2, firstE, whenE, c1, c2]; exact rfl, ?_⟩⟩
     ·simp [c1, c2, firstE, whenE] at he
     ·simp [c1, c2, firstE, whenE]
    ·by_cases c3 : 100000000 < b
     ·refine ⟨fun he => ?_, fun he => ⟨_, by simp -implicitDefEqProofs [loopS_eq, c42L0, hi, hA, hAl, hlt, hdr, kw, k2, firstE, whenE, c1, c2, c3]; exact rfl, ?_⟩⟩
      ·simp [c1, c2, c3, firstE, whenE] at he
      ·simp [c1, c2, c3, firstE, whenE]
     ·by_cases c4 : a < p
      ·refine ⟨fun he => ?_, fun he => ⟨_, by simp -implicitDefEqProofs [loopS_eq, c42L0, hi, hA, hAl, hlt, hdr, kw, k2, firstE, whenE, c1, c2, c3, c4]; exact rfl, ?_⟩⟩
       ·simp [c1, c2, c3, c4, firstE, whenE] at he
       ·simp [c1, c2, c3, c4, firstE, whenE]
      ·refine ⟨fun he => ⟨_, by simp -implicitDefEqProofs [loopS_eq, c42L0, hi, hA, hAl, hlt, hdr, kw, k2, firstE, whenE, c1, c2, c3, c4, hw]; exact rfl, ?_⟩, fun he => ?_⟩
       ·exact loopS_same (by simp) (by simp)
       ·simp [c1, c2, c3, c4, firstE, whenE] at he) (by simp -implicitDefEqProofs [inv, loopS_eq, c42L0]) (by simp) (fuel := loopFuel) (by simp [loopFuel]; omega)
 rcases key with ⟨k1, k2⟩ | ⟨j, st, hj, k1, k2, k3, k4, _⟩
 ·exact .inl ⟨k1, k2⟩
 ·refine .inr ⟨st, k1, ?_, ?_⟩
  ·rw [k2, ← k3]; rfl
  ·intro e; exact k4 (by rw [← k3]; exact e)
end Fw
end

section
set_option maxHeartbeats 16000000
namespace Fw
open Go

def V42 (l : List Int) (g : List (Int × Int)) (k : Nat) : St := ⟨[(0, isl l), (1, csl g), (12, .sl 0 (mvF l g k).length 0 (mvF l g k).length), (13, .ptr (k + 1) 0 0)], [(k + 1, .arr [.int .i64 ((k : Int) + 1)] 0 1), (0, .arr (pI (mvF l g k)) (mvF l g k).length 1)]⟩
theorem round42 {d : Nat} (l : List Int) (hl : l.length < 1000000) (g : List (Int × Int)) (hg : g.length < 1000000) (k : Nat) (hk1 : k + 1 < l.length) :
  ∃ st1, loopS (evFn F C0 G0 (d + 3)) C0 G0 0 true [0, 1, 12, 13] c42L1 (V42 l g k) = .ret (.normal, st1) ∧ loopS (evFn F C0 G0 (d + 3)) C0 G0 0 true [0, 1, 12, 13] c42L1 st1 = loopS (evFn F C0 G0 (d + 3)) C0 G0 0 true [0, 1, 12, 13] c42L1 (V42 l g (k + 1)) := by
 have hPl : ∀ a : List Int, (pI a).length = a.length := fun a => by simp [pI]
 have hk0 : k < l.length := by omega
 have hml := mvF_len l g k
 have hlim : (mvF l g k).length + 1 ≤ lim := by simp only [lim]; omega
 have w1 := wrap64 (n := (k : Int) + 1 - 1) (by omega) (by omega)
 have w2 := wrap64 (n := (k : Int) + 1 + 1) (by omega) (by omega)
 have hs : (k : Int) + 1 - 1 = k := by omega
 rw [hs] at w1
 have hlt : (k : Int) + 1 < l.length := by omega
 have hn1 : ((k : Int) + 1).toNat = k + 1 := by omega
 have h0i : 0 ≤ (k : Int) + 1 := by omega
 have hd0 : (pI l).drop k = .int .i64 l[k] :: (pI l).drop (k + 1) := by
  rw [List.drop_eq_getElem_cons (by rw [hPl]; exact hk0)]; simp [pI]
 have hd1 : (pI l).drop (k + 1) = .int .i64 l[k + 1] :: (pI l).drop (k + 2) := by
  rw [List.drop_eq_getElem_cons (by rw [hPl]; exact hk1)]; simp [pI]
 have hg0 : l.getD k 0 = l[k] := by simp [List.getD_eq_getElem?_getD, hk0]
 have hg1 : l.getD (k + 1) 0 = l[k + 1] := by simp [List.getD_eq_getElem?_getD, hk1]
 have kc := contains107 (n := d + 3) (by omega) g hg ((k : Int) + 1)
 have hPs : pI (mvF l g k ++ [(k : Int) + 1]) = pI (mvF l g k) ++ [.int .i64 ((k : Int) + 1)] := by simp [pI]
 have hPk := hPl (mvF l g k)
 have hPl := hPl l
 have hcast : (((k + 1 : Nat)) : Int) = (k : Int) + 1 := by omega
 simp only [V42, mvF, hg0, hg1, isl, csl, hcast] at *
 generalize hA : pI l = A at *
 generalize A.drop (k + 2) = R2 at *
 generalize cI g = G at *
 generalize hf : freF g ((k : Int) + 1) g.length = f at *
 rw [hd1] at hd0
 by_cases he : l[k + 1] = l[k]
 ·rw [if_neg (fun c => c.1 he)]
  generalize l[k] = x at *
  generalize l[k + 1] = y at *
  subst he
  generalize pI (mvF l g k) = Q at *
  generalize (mvF l g k).length = z at *
  refine ⟨?_, ?h1, ?h2⟩
  case h1 =>
   simp -implicitDefEqProofs [loopS_eq, c42L1, hk0, hk1, hlt, hn1, h0i, hPl, hd0, hd1, hs, w1, w2]
   exact rfl
  case h2 => exact loopS_same (by simp) (by simp)
 ·have heb : (l[k + 1] == l[k]) = false := by simpa using he
  generalize l[k] = x at *
  generalize l[k + 1] = y at *
  have heb2 : (y != x) = true := by simpa using he
  cases f with
  | true =>
   rw [if_neg (fun c => by cases c.2)]
   generalize pI (mvF l g k) = Q at *
   generalize (mvF l g k).length = z at *
   refine ⟨?_, ?h1, ?h2⟩
   case h1 =>
    simp -implicitDefEqProofs [loopS_eq, c42L1, hk0, hk1, hlt, hn1, h0i, hPl, hd0, hd1, hs, w1, w2, heb2, kc]
    exact rfl
   case h2 => exact loopS_same (by simp) (by simp)
  | false =>
   rw [if_pos ⟨he, rfl⟩]
   simp only [hPs, List.length_append, List.length_cons, List.length_nil, Nat.zero_add]
   generalize pI (mvF l g k) = Q at *
   generalize (mvF l g k).length = z at *
   refine ⟨?_, ?h1, ?h2⟩
   case h1 =>
    simp -implicitDefEqProofs [loopS_eq, c42L1, hk0, hk1, hlt, hn1, h0i, hPl, hd0, hd1, hs, w1, w2, heb2, kc, hlim, hPk]
    exact rfl
   case h2 => exact loopS_same (by simp) (by simp)
end Fw
end

section
set_option maxHeartbeats 16000000
namespace Fw
open Go

theorem vloop42 {d : Nat} (l : List Int) (hl : l.length < 1000000) (g : List (Int × Int)) (hg : g.length < 1000000) :
  loopN (loopS (evFn F C0 G0 (d + 3)) C0 G0 0 true [0, 1, 12, 13] c42L1) loopFuel ⟨[(0, isl l), (1, csl g), (12, .sl 0 0 0 0), (13, .ptr 1 0 0)], [(1, .arr [.int .i64 1] 0 1), (0, .arr [] 0 1)]⟩ = .ret (.exit 2, ⟨(V42 l g (l.length - 1)).env ++ [(70, .p (.bool false))], (V42 l g (l.length - 1)).sto⟩) := by
 rw [loop_run' (V42 l g) (l.length - 1) (e := .exit 2) (st' := ⟨(V42 l g (l.length - 1)).env ++ [(70, .p (.bool false))], (V42 l g (l.length - 1)).sto⟩) (by simp)]
 ·rfl
 ·intro k hk
  exact round42 l hl g hg k (by omega)
 ·have hnl : ¬ (((l.length - 1 : Nat) : Int) + 1 < l.length) := by omega
  simp -implicitDefEqProofs [loopS_eq, c42L1, V42, hnl]
 ·simp [loopFuel]; omega
def movE (l : List Int) (g : List (Int × Int)) : Int := firstE [traE l, spnE g]
def movO (l : List Int) (g : List (Int × Int)) : List Int := if movE l g = 0 then mvF l g (l.length - 1) else []
theorem moved42 {n : Nat} (hn : 5 ≤ n) (l : List Int) (hl : l.length < 1000000) (g : List (Int × Int)) (hg : g.length < 1000000) :
  ∃ a, RUN n 42 [isl l, csl g] = .ret (.tup [a, iv (movE l g)]) ∧ disown a = isl (movO l g) := by
 obtain ⟨d, rfl⟩ : ∃ d, n = d + 5 := ⟨n - 5, by omega⟩
 rw [RUN, call_eq fe42 _ rfl]
 have km := map105t (n := d + 4) (by omega) l hl
 have kf := first91 (n := d + 4) (by omega) (l.map (rangeE (-100000) 100000)) (by simpa using hl)
 have kw := fun b e => when104 (n := d + 4) (by omega) b e
 have k3 := fun a b c => first91_3 (n := d + 4) (by omega) a b c
 have ks := spans42 (d := d + 1) l g hg
 have kv := vloop42 (d := d + 1) l hl g hg
 have hA1 : decide ((1024 : Int) < l.length) = decide (1024 < l.length) := by
  by_cases h : 1024 < l.length
  ·have : (1024 : Int) < l.length := by omega
   simp [h, this]
  ·have : ¬ (1024 : Int) < l.length := by omega
   simp [h, this]
 have hB1 : decide ((32 : Int) < g.length) = decide (32 < g.length) := by
  by_cases h : 32 < g.length
  ·have : (32 : Int) < g.length := by omega
   simp [h, this]
  ·have : ¬ (32 : Int) < g.length := by omega
   simp [h, this]
 have hE : movE l g = if firstE [whenE (decide (1024 < l.length)) 5, firstE (l.map (rangeE (-100000) 100000)), whenE (decide (32 < g.length)) 5] = 0 then firstE (spnL g) else firstE [whenE (decide (1024 < l.length)) 5, firstE (l.map (rangeE (-100000) 100000)), whenE (decide (32 < g.length)) 5] := by
  unfold movE traE spnE
  by_cases hA : 1024 < l.length
  ·simp [hA, firstE, whenE]
  ·by_cases hr : firstE (l.map (rangeE (-100000) 100000)) = 0
   ·by_cases hB : 32 < g.length
    ·simp [hA, hr, hB, firstE, whenE]
    ·simp [hA, hr, hB, firstE, whenE]
     exact fun h => h.symm
   ·simp [hA, hr, firstE, whenE]
 have hlm : (l.map (rangeE (-100000) 100000)).length = l.length := by simp
 rw [hlm] at kf
 have hM := pI (mvF l g (l.length - 1))
 have hMl : (pI (mvF l g (l.length - 1))).length = (mvF l g (l.length - 1)).length := by simp [pI]
 unfold movO
 generalize hF : firstE [whenE (decide (1024 < l.length)) 5, firstE (l.map (rangeE (-100000) 100000)), whenE (decide (32 < g.length)) 5] = f at *
 by_cases hf : f = 0
 ·subst hf
  rw [if_pos rfl] at hE
  rw [hE]
  rcases ks with ⟨ks, hs⟩ | ⟨⟨env, sto⟩, ks, hs1, hs2⟩
  ·rw [if_pos hs, hs]
   refine ⟨.own (pI (mvF l g (l.length - 1))) (mvF l g (l.length - 1)).length 1, ?_, rfl⟩
   simp only [V42, isl, csl] at *
   generalize pI (mvF l g (l.length - 1)) = Q at *
   generalize (mvF l g (l.length - 1)).length = z at *
   generalize firstE (l.map (rangeE (-100000) 100000)) = fr at *
   generalize pI (l.map (rangeE (-100000) 100000)) = PR at *
   generalize pI l = A at *
   generalize cI g = G at *
   simp -implicitDefEqProofs [c42, km, kf, kw, k3, hA1, hB1, hF]
   rw [ks]
   simp -implicitDefEqProofs []
   rw [kv]
   simp -implicitDefEqProofs [hMl]
  ·simp only at hs1
   subst hs1
   rw [if_neg hs2]
   refine ⟨.p (.sl [] 0), ?_, rfl⟩
   generalize firstE (spnL g) = fs at *
   simp only [isl, csl] at *
   generalize firstE (l.map (rangeE (-100000) 100000)) = fr at *
   generalize pI (l.map (rangeE (-100000) 100000)) = PR at *
   generalize pI l = A at *
   generalize cI g = G at *
   simp -implicitDefEqProofs [c42, km, kf, kw, k3, hA1, hB1, hF]
   rw [ks]
   simp -implicitDefEqProofs []
 ·rw [if_neg hf] at hE
  rw [hE, if_neg hf]
  refine ⟨.p (.sl [] 0), ?_, rfl⟩
  simp only [isl, csl] at *
  generalize firstE (l.map (rangeE (-100000) 100000)) = fr at *
  generalize pI (l.map (rangeE (-100000) 100000)) = PR at *
  generalize pI l = A at *
  generalize cI g = G at *
  simp -implicitDefEqProofs [c42, km, kf, kw, k3, hA1, hB1, hF, hf]
end Fw
end

