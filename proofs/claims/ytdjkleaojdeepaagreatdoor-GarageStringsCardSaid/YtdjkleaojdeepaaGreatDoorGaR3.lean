/- The reasons against an act, the reference's (printed by genR3.py). -/
import Derived.Test.YtdjkleaojdeepaaGreatDoorGaR2
set_option maxHeartbeats 16000000
namespace Fw
open Go
attribute [local irreducible] evCode evOps evOpsD evOper evOperD evOp evFn loopN T.All T.bind callPure callOp opsK opsDK restK seqK blockK loopS setK setQ giveK scalK gcK finish finS rfunK yldK yldB loopK

theorem h100 {pp : Int} (hp : pp ≤ 100) : decide (100 ≤ pp) = (pp == 100) := by
 by_cases e : pp = 100
 ·rw [e]; decide
 ·have : ¬ 100 ≤ pp := by omega
  simp [e, this]
def hdS : ACode → ACode
 | .seq a _ => a
 | c => c
def tlS : ACode → ACode
 | .seq _ b => b
 | c => c
theorem mem1 (k a : List UInt8) : decide (k ∈ [a]) = (k == a) := by
 by_cases h1 : k = a <;> simp [h1]
theorem mem2 (k a b : List UInt8) : decide (k ∈ [a, b]) = ((k == a) || (k == b)) := by
 by_cases h1 : k = a <;> by_cases h2 : k = b <;> simp [h1, h2]
theorem mem3 (k a b c : List UInt8) : decide (k ∈ [a, b, c]) = ((k == a) || ((k == b) || (k == c))) := by
 by_cases h1 : k = a <;> by_cases h2 : k = b <;> by_cases h3 : k = c <;> simp [h1, h2, h3]
@[irreducible] def t27a : ACode := tlS (tlS (tlS c27.body))
theorem c27_a : c27.body = .seq (hdS c27.body) (.seq (hdS (tlS c27.body)) (.seq (hdS (tlS (tlS c27.body))) t27a)) := by unfold t27a; rfl
@[irreducible] def t27b : ACode := tlS (tlS t27a)
theorem t27_b : t27a = .seq (hdS t27a) (.seq (hdS (tlS t27a)) t27b) := by unfold t27b t27a; rfl
@[irreducible] def t27c : ACode := tlS t27b
theorem t27_c : t27b = .seq (hdS t27b) t27c := by unfold t27c t27b t27a; rfl
@[irreducible] def t27d : ACode := tlS t27c
theorem t27_d : t27c = .seq (hdS t27c) t27d := by unfold t27d t27c t27b t27a; rfl
@[irreducible] def t27e : ACode := tlS t27d
theorem t27_e : t27d = .seq (hdS t27d) t27e := by unfold t27e t27d t27c t27b t27a; rfl
@[irreducible] def t27f : ACode := tlS t27e
theorem t27_f : t27e = .seq (hdS t27e) t27f := by unfold t27f t27e t27d t27c t27b t27a; rfl
@[irreducible] def t27g : ACode := tlS t27f
theorem t27_g : t27f = .seq (hdS t27f) t27g := by unfold t27g t27f t27e t27d t27c t27b t27a; rfl

def o27 (s : StaI) (x : ActI) (L : List (List UInt8)) : Sto := [(2, .arr (pStr L) L.length 1), (1, .arr [.int .i64 x.tick, .str x.kind, .int .i64 x.num, .int .i64 x.a, .int .i64 x.b, .int .i64 x.c] 0 1), (0, .arr (sc s) 0 1)]
def S27 (s : StaI) (x : ActI) (L : List (List UInt8)) (E : Env) : St := ⟨(2, .ptr 0 0 0) :: (3, .ptr 1 0 0) :: (5, .sl 2 L.length 0 L.length) :: E, o27 s x L⟩
def ex (c : Nat) (z : Bool) : Env := if z = true then [] else [(c, bl false)]
def S27s (s : StaI) (x : ActI) (z : Bool) (L : List (List UInt8)) : St := ⟨[(2, .ptr 0 0 0), (3, .ptr 1 0 0), (5, .sl 2 L.length 0 L.length), (6, bl z)], o27 s x L⟩

theorem s27a {d : Nat} (s : StaI) (x : ActI) : RUN (d + 1) 27 [sa s, aa x] = (evCode (evFn F C0 G0 d) C0 G0 0 t27a (S27 s x (addR [] (decide (x.tick < s.tick)) wTick) (ex 11 (decide (x.tick < s.tick))))).bind (finish [.tmp 4]) := by
 rw [RUN, call_eq fe27 _ rfl, c27_a]
 obtain ⟨t, k, m, a, b, c⟩ := x
 obtain ⟨st, o0, o1, o2, o3, o4, o5, o6, o7, k0, k1, pp, ar, sh, ad⟩ := s
 by_cases h : t < st
 ·have hl : 1 ≤ lim := by decide
  simp only [h, decide_true, addR, ex, if_true, List.nil_append, S27, o27, sc]
  simp -implicitDefEqProofs [hdS, tlS, c27, h, hl, pStr]
 ·simp only [h, decide_false, addR, ex, Bool.false_eq_true, if_false, S27, o27, sc]
  simp -implicitDefEqProofs [hdS, tlS, c27, h]

theorem s27b {d : Nat} (s : StaI) (x : ActI) (h : NumOk x) (hp : s.people ≤ 100) (L : List (List UInt8)) (E : Env) : (evCode (evFn F C0 G0 d) C0 G0 0 t27a (S27 s x L E)).bind (finish [.tmp 4]) = (evCode (evFn F C0 G0 d) C0 G0 0 t27b (S27s s x (stB s x) L)).bind (finish [.tmp 4]) := by
 rw [t27_b]
 have hk := numOk_cases h
 obtain ⟨t, k, m, a, b, c⟩ := x
 obtain ⟨st, o0, o1, o2, o3, o4, o5, o6, o7, k0, k1, pp, ar, sh, ad⟩ := s
 simp only at hk hp
 simp only [S27, S27s, o27, sc]
 generalize pStr L = Q at *
 generalize L.length = y at *
 rcases hk with rfl | rfl | rfl | rfl | rfl | rfl | rfl | rfl | rfl | rfl
 ·rcases eight (h.2.1 (show doorB kOpen = true by decide)) with rfl | rfl | rfl | rfl | rfl | rfl | rfl | rfl <;> simp -implicitDefEqProofs [hdS, tlS, t27a, c27, strBin, stB, opn]
 ·rcases eight (h.2.1 (show doorB kClose = true by decide)) with rfl | rfl | rfl | rfl | rfl | rfl | rfl | rfl <;> simp -implicitDefEqProofs [hdS, tlS, t27a, c27, strBin, stB, opn]
 ·rcases two (h.2.2 (show keyB kInsert = true by decide)) with rfl | rfl <;> simp -implicitDefEqProofs [hdS, tlS, t27a, c27, strBin, stB, key]
 ·rcases two (h.2.2 (show keyB kRemove = true by decide)) with rfl | rfl <;> simp -implicitDefEqProofs [hdS, tlS, t27a, c27, strBin, stB, key]
 ·have e := h100 hp
  simp -implicitDefEqProofs [hdS, tlS, t27a, c27, strBin, stB, e]
 ·simp -implicitDefEqProofs [hdS, tlS, t27a, c27, strBin, stB]
 ·simp -implicitDefEqProofs [hdS, tlS, t27a, c27, strBin, stB]
 ·simp -implicitDefEqProofs [hdS, tlS, t27a, c27, strBin, stB]
 ·simp -implicitDefEqProofs [hdS, tlS, t27a, c27, strBin, stB]
 ·simp -implicitDefEqProofs [hdS, tlS, t27a, c27, strBin, stB]

theorem s27c {d : Nat} (s : StaI) (x : ActI) (z : Bool) (L : List (List UInt8)) (hL : L.length ≤ 7) : (evCode (evFn F C0 G0 d) C0 G0 0 t27b (S27s s x z L)).bind (finish [.tmp 4]) = (evCode (evFn F C0 G0 d) C0 G0 0 t27c (S27 s x (addR L z wState) (ex 72 z))).bind (finish [.tmp 4]) := by
 rw [t27_c]
 have hlim : L.length + 1 ≤ lim := by simp only [lim]; omega
 have hQ : (pStr L).length = L.length := by simp
 have e1 : pStr (L ++ [wState]) = pStr L ++ [.str wState] := (pStr_snoc _ _).symm
 have e2 : (L ++ [wState]).length = L.length + 1 := by simp
 cases z
 ·simp only [S27, S27s, o27, addR, ex, Bool.false_eq_true, if_false]
  generalize pStr L = Q at *
  generalize L.length = y at *
  simp -implicitDefEqProofs [hdS, tlS, t27b, t27a, c27]
 ·simp only [S27, S27s, o27, addR, ex, if_true, e1, e2]
  generalize pStr L = Q at *
  generalize L.length = y at *
  simp -implicitDefEqProofs [hdS, tlS, t27b, t27a, c27, hQ, hlim]

theorem s27d {d : Nat} (s : StaI) (x : ActI) (L : List (List UInt8)) (hL : L.length ≤ 7) (E : Env) : (evCode (evFn F C0 G0 d) C0 G0 0 t27c (S27 s x L E)).bind (finish [.tmp 4]) = (evCode (evFn F C0 G0 d) C0 G0 0 t27d (S27 s x (addR L (armB s x) wArmed) (ex 92 (armB s x)))).bind (finish [.tmp 4]) := by
 rw [t27_d]
 have hlim : L.length + 1 ≤ lim := by simp only [lim]; omega
 have hQ : (pStr L).length = L.length := by simp
 have e1 : pStr (L ++ [wArmed]) = pStr L ++ [.str wArmed] := (pStr_snoc _ _).symm
 have e2 : (L ++ [wArmed]).length = L.length + 1 := by simp
 obtain ⟨t, k, m, a, b, c⟩ := x
 obtain ⟨st, o0, o1, o2, o3, o4, o5, o6, o7, k0, k1, pp, ar, sh, ad⟩ := s
 simp only [armB, mem3]
 simp only [S27, o27, sc]
 cases ar <;> cases h1 : (k == kOpen) <;> cases h2 : (k == kRemove) <;> cases h3 : (k == kEnter)
 all_goals
  simp only [addR, ex, Bool.false_eq_true, if_false, if_true, e1, e2, Bool.and_true, Bool.and_false, Bool.or_true, Bool.or_false]
  generalize pStr L = Q at *
  generalize L.length = y at *
  simp -implicitDefEqProofs [hdS, tlS, t27c, t27b, t27a, c27, strBin, hQ, hlim, h1, h2, h3]

theorem s27e {d : Nat} (s : StaI) (x : ActI) (h : NumOk x) (L : List (List UInt8)) (hL : L.length ≤ 7) (E : Env) : (evCode (evFn F C0 G0 d) C0 G0 0 t27d (S27 s x L E)).bind (finish [.tmp 4]) = (evCode (evFn F C0 G0 d) C0 G0 0 t27e (S27 s x (addR L (dooB s x) wDoor) (ex 122 (dooB s x)))).bind (finish [.tmp 4]) := by
 rw [t27_e]
 have hlim : L.length + 1 ≤ lim := by simp only [lim]; omega
 have hQ : (pStr L).length = L.length := by simp
 have e1 : pStr (L ++ [wDoor]) = pStr L ++ [.str wDoor] := (pStr_snoc _ _).symm
 have e2 : (L ++ [wDoor]).length = L.length + 1 := by simp
 have hk := numOk_cases h
 obtain ⟨t, k, m, a, b, c⟩ := x
 obtain ⟨st, o0, o1, o2, o3, o4, o5, o6, o7, k0, k1, pp, ar, sh, ad⟩ := s
 simp only at hk
 simp only [dooB, mem2, mem1]
 simp only [S27, o27, sc]
 rcases hk with rfl | rfl | rfl | rfl | rfl | rfl | rfl | rfl | rfl | rfl
 ·simp only [show ((kOpen == kEnter) || (kOpen == kLeave)) = false from by decide, show (kOpen == kArm) = false from by decide, Bool.false_and, Bool.or_self, addR, ex, Bool.false_eq_true, if_false]
  generalize pStr L = Q at *
  generalize L.length = y at *
  simp -implicitDefEqProofs [hdS, tlS, t27d, t27c, t27b, t27a, c27, strBin]
 ·simp only [show ((kClose == kEnter) || (kClose == kLeave)) = false from by decide, show (kClose == kArm) = false from by decide, Bool.false_and, Bool.or_self, addR, ex, Bool.false_eq_true, if_false]
  generalize pStr L = Q at *
  generalize L.length = y at *
  simp -implicitDefEqProofs [hdS, tlS, t27d, t27c, t27b, t27a, c27, strBin]
 ·simp only [show ((kInsert == kEnter) || (kInsert == kLeave)) = false from by decide, show (kInsert == kArm) = false from by decide, Bool.false_and, Bool.or_self, addR, ex, Bool.false_eq_true, if_false]
  generalize pStr L = Q at *
  generalize L.length = y at *
  simp -implicitDefEqProofs [hdS, tlS, t27d, t27c, t27b, t27a, c27, strBin]
 ·simp only [show ((kRemove == kEnter) || (kRemove == kLeave)) = false from by decide, show (kRemove == kArm) = false from by decide, Bool.false_and, Bool.or_self, addR, ex, Bool.false_eq_true, if_false]
  generalize pStr L = Q at *
  generalize L.length = y at *
  simp -implicitDefEqProofs [hdS, tlS, t27d, t27c, t27b, t27a, c27, strBin]
 ·rcases eight (h.2.1 (show doorB kEnter = true by decide)) with rfl | rfl | rfl | rfl | rfl | rfl | rfl | rfl
  ·cases o0
   ·simp only [opn]
    simp only [show ((kEnter == kEnter) || (kEnter == kLeave)) = true from by decide, show (kEnter == kArm) = false from by decide, addR, ex, Bool.not_false, Bool.and_self, Bool.true_or, if_true, e1, e2]
    generalize pStr L = Q at *
    generalize L.length = y at *
    simp -implicitDefEqProofs [hdS, tlS, t27d, t27c, t27b, t27a, c27, strBin, hQ, hlim]
   ·simp only [opn]
    simp only [show ((kEnter == kEnter) || (kEnter == kLeave)) = true from by decide, show (kEnter == kArm) = false from by decide, addR, ex, Bool.not_true, Bool.and_false, Bool.false_and, Bool.or_self, if_true, Bool.false_eq_true, if_false]
    generalize pStr L = Q at *
    generalize L.length = y at *
    simp -implicitDefEqProofs [hdS, tlS, t27d, t27c, t27b, t27a, c27, strBin]
  ·cases o1
   ·simp only [opn]
    simp only [show ((kEnter == kEnter) || (kEnter == kLeave)) = true from by decide, show (kEnter == kArm) = false from by decide, addR, ex, Bool.not_false, Bool.and_self, Bool.true_or, if_true, e1, e2, show ¬ (1 : Int) = 0 from by decide, if_false]
    generalize pStr L = Q at *
    generalize L.length = y at *
    simp -implicitDefEqProofs [hdS, tlS, t27d, t27c, t27b, t27a, c27, strBin, hQ, hlim]
   ·simp only [opn]
    simp only [show ((kEnter == kEnter) || (kEnter == kLeave)) = true from by decide, show (kEnter == kArm) = false from by decide, addR, ex, Bool.not_true, Bool.and_false, Bool.false_and, Bool.or_self, if_true, Bool.false_eq_true, if_false, show ¬ (1 : Int) = 0 from by decide]
    generalize pStr L = Q at *
    generalize L.length = y at *
    simp -implicitDefEqProofs [hdS, tlS, t27d, t27c, t27b, t27a, c27, strBin]
  ·cases o2
   ·simp only [opn]
    simp only [show ((kEnter == kEnter) || (kEnter == kLeave)) = true from by decide, show (kEnter == kArm) = false from by decide, addR, ex, Bool.not_false, Bool.and_self, Bool.true_or, if_true, e1, e2, show ¬ (2 : Int) = 0 from by decide, show ¬ (2 : Int) = 1 from by decide, if_false]
    generalize pStr L = Q at *
    generalize L.length = y at *
    simp -implicitDefEqProofs [hdS, tlS, t27d, t27c, t27b, t27a, c27, strBin, hQ, hlim]
   ·simp only [opn]
    simp only [show ((kEnter == kEnter) || (kEnter == kLeave)) = true from by decide, show (kEnter == kArm) = false from by decide, addR, ex, Bool.not_true, Bool.and_false, Bool.false_and, Bool.or_self, if_true, Bool.false_eq_true, if_false, show ¬ (2 : Int) = 0 from by decide, show ¬ (2 : Int) = 1 from by decide]
    generalize pStr L = Q at *
    generalize L.length = y at *
    simp -implicitDefEqProofs [hdS, tlS, t27d, t27c, t27b, t27a, c27, strBin]
  ·cases o3
   ·simp only [opn]
    simp only [show ((kEnter == kEnter) || (kEnter == kLeave)) = true from by decide, show (kEnter == kArm) = false from by decide, addR, ex, Bool.not_false, Bool.and_self, Bool.true_or, if_true, e1, e2, show ¬ (3 : Int) = 0 from by decide, show ¬ (3 : Int) = 1 from by decide, show ¬ (3 : Int) = 2 from by decide, if_false]
    generalize pStr L = Q at *
    generalize L.length = y at *
    simp -implicitDefEqProofs [hdS, tlS, t27d, t27c, t27b, t27a, c27, strBin, hQ, hlim]
   ·simp only [opn]
    simp only [show ((kEnter == kEnter) || (kEnter == kLeave)) = true from by decide, show (kEnter == kArm) = false from by decide, addR, ex, Bool.not_true, Bool.and_false, Bool.false_and, Bool.or_self, if_true, Bool.false_eq_true, if_false, show ¬ (3 : Int) = 0 from by decide, show ¬ (3 : Int) = 1 from by decide, show ¬ (3 : Int) = 2 from by decide]
    generalize pStr L = Q at *
    generalize L.length = y at *
    simp -implicitDefEqProofs [hdS, tlS, t27d, t27c, t27b, t27a, c27, strBin]
  ·cases o4
   ·simp only [opn]
    simp only [show ((kEnter == kEnter) || (kEnter == kLeave)) = true from by decide, show (kEnter == kArm) = false from by decide, addR, ex, Bool.not_false, Bool.and_self, Bool.true_or, if_true, e1, e2, show ¬ (4 : Int) = 0 from by decide, show ¬ (4 : Int) = 1 from by decide, show ¬ (4 : Int) = 2 from by decide, show ¬ (4 : Int) = 3 from by decide, if_false]
    generalize pStr L = Q at *
    generalize L.length = y at *
    simp -implicitDefEqProofs [hdS, tlS, t27d, t27c, t27b, t27a, c27, strBin, hQ, hlim]
   ·simp only [opn]
    simp only [show ((kEnter == kEnter) || (kEnter == kLeave)) = true from by decide, show (kEnter == kArm) = false from by decide, addR, ex, Bool.not_true, Bool.and_false, Bool.false_and, Bool.or_self, if_true, Bool.false_eq_true, if_false, show ¬ (4 : Int) = 0 from by decide, show ¬ (4 : Int) = 1 from by decide, show ¬ (4 : Int) = 2 from by decide, show ¬ (4 : Int) = 3 from by decide]
    generalize pStr L = Q at *
    generalize L.length = y at *
    simp -implicitDefEqProofs [hdS, tlS, t27d, t27c, t27b, t27a, c27, strBin]
  ·cases o5
   ·simp only [opn]
    simp only [show ((kEnter == kEnter) || (kEnter == kLeave)) = true from by decide, show (kEnter == kArm) = false from by decide, addR, ex, Bool.not_false, Bool.and_self, Bool.true_or, if_true, e1, e2, show ¬ (5 : Int) = 0 from by decide, show ¬ (5 : Int) = 1 from by decide, show ¬ (5 : Int) = 2 from by decide, show ¬ (5 : Int) = 3 from by decide, show ¬ (5 : Int) = 4 from by decide, if_false]
    generalize pStr L = Q at *
    generalize L.length = y at *
    simp -implicitDefEqProofs [hdS, tlS, t27d, t27c, t27b, t27a, c27, strBin, hQ, hlim]
   ·simp only [opn]
    simp only [show ((kEnter == kEnter) || (kEnter == kLeave)) = true from by decide, show (kEnter == kArm) = false from by decide, addR, ex, Bool.not_true, Bool.and_false, Bool.false_and, Bool.or_self, if_true, Bool.false_eq_true, if_false, show ¬ (5 : Int) = 0 from by decide, show ¬ (5 : Int) = 1 from by decide, show ¬ (5 : Int) = 2 from by decide, show ¬ (5 : Int) = 3 from by decide, show ¬ (5 : Int) = 4 from by decide]
    generalize pStr L = Q at *
    generalize L.length = y at *
    simp -implicitDefEqProofs [hdS, tlS, t27d, t27c, t27b, t27a, c27, strBin]
  ·cases o6
   ·simp only [opn]
    simp only [show ((kEnter == kEnter) || (kEnter == kLeave)) = true from by decide, show (kEnter == kArm) = false from by decide, addR, ex, Bool.not_false, Bool.and_self, Bool.true_or, if_true, e1, e2, show ¬ (6 : Int) = 0 from by decide, show ¬ (6 : Int) = 1 from by decide, show ¬ (6 : Int) = 2 from by decide, show ¬ (6 : Int) = 3 from by decide, show ¬ (6 : Int) = 4 from by decide, show ¬ (6 : Int) = 5 from by decide, if_false]
    generalize pStr L = Q at *
    generalize L.length = y at *
    simp -implicitDefEqProofs [hdS, tlS, t27d, t27c, t27b, t27a, c27, strBin, hQ, hlim]
   ·simp only [opn]
    simp only [show ((kEnter == kEnter) || (kEnter == kLeave)) = true from by decide, show (kEnter == kArm) = false from by decide, addR, ex, Bool.not_true, Bool.and_false, Bool.false_and, Bool.or_self, if_true, Bool.false_eq_true, if_false, show ¬ (6 : Int) = 0 from by decide, show ¬ (6 : Int) = 1 from by decide, show ¬ (6 : Int) = 2 from by decide, show ¬ (6 : Int) = 3 from by decide, show ¬ (6 : Int) = 4 from by decide, show ¬ (6 : Int) = 5 from by decide]
    generalize pStr L = Q at *
    generalize L.length = y at *
    simp -implicitDefEqProofs [hdS, tlS, t27d, t27c, t27b, t27a, c27, strBin]
  ·cases o7
   ·simp only [opn]
    simp only [show ((kEnter == kEnter) || (kEnter == kLeave)) = true from by decide, show (kEnter == kArm) = false from by decide, addR, ex, Bool.not_false, Bool.and_self, Bool.true_or, if_true, e1, e2, show ¬ (7 : Int) = 0 from by decide, show ¬ (7 : Int) = 1 from by decide, show ¬ (7 : Int) = 2 from by decide, show ¬ (7 : Int) = 3 from by decide, show ¬ (7 : Int) = 4 from by decide, show ¬ (7 : Int) = 5 from by decide, show ¬ (7 : Int) = 6 from by decide, if_false]
    generalize pStr L = Q at *
    generalize L.length = y at *
    simp -implicitDefEqProofs [hdS, tlS, t27d, t27c, t27b, t27a, c27, strBin, hQ, hlim]
   ·simp only [opn]
    simp only [show ((kEnter == kEnter) || (kEnter == kLeave)) = true from by decide, show (kEnter == kArm) = false from by decide, addR, ex, Bool.not_true, Bool.and_false, Bool.false_and, Bool.or_self, Bool.false_eq_true, if_false, show ¬ (7 : Int) = 0 from by decide, show ¬ (7 : Int) = 1 from by decide, show ¬ (7 : Int) = 2 from by decide, show ¬ (7 : Int) = 3 from by decide, show ¬ (7 : Int) = 4 from by decide, show ¬ (7 : Int) = 5 from by decide, show ¬ (7 : Int) = 6 from by decide]
    generalize pStr L = Q at *
    generalize L.length = y at *
    simp -implicitDefEqProofs [hdS, tlS, t27d, t27c, t27b, t27a, c27, strBin]
 ·rcases eight (h.2.1 (show doorB kLeave = true by decide)) with rfl | rfl | rfl | rfl | rfl | rfl | rfl | rfl
  ·cases o0
   ·simp only [opn]
    simp only [show ((kLeave == kEnter) || (kLeave == kLeave)) = true from by decide, show (kLeave == kArm) = false from by decide, addR, ex, Bool.not_false, Bool.and_self, Bool.true_or, if_true, e1, e2]
    generalize pStr L = Q at *
    generalize L.length = y at *
    simp -implicitDefEqProofs [hdS, tlS, t27d, t27c, t27b, t27a, c27, strBin, hQ, hlim]
   ·simp only [opn]
    simp only [show ((kLeave == kEnter) || (kLeave == kLeave)) = true from by decide, show (kLeave == kArm) = false from by decide, addR, ex, Bool.not_true, Bool.and_false, Bool.false_and, Bool.or_self, if_true, Bool.false_eq_true, if_false]
    generalize pStr L = Q at *
    generalize L.length = y at *
    simp -implicitDefEqProofs [hdS, tlS, t27d, t27c, t27b, t27a, c27, strBin]
  ·cases o1
   ·simp only [opn]
    simp only [show ((kLeave == kEnter) || (kLeave == kLeave)) = true from by decide, show (kLeave == kArm) = false from by decide, addR, ex, Bool.not_false, Bool.and_self, Bool.true_or, if_true, e1, e2, show ¬ (1 : Int) = 0 from by decide, if_false]
    generalize pStr L = Q at *
    generalize L.length = y at *
    simp -implicitDefEqProofs [hdS, tlS, t27d, t27c, t27b, t27a, c27, strBin, hQ, hlim]
   ·simp only [opn]
    simp only [show ((kLeave == kEnter) || (kLeave == kLeave)) = true from by decide, show (kLeave == kArm) = false from by decide, addR, ex, Bool.not_true, Bool.and_false, Bool.false_and, Bool.or_self, if_true, Bool.false_eq_true, if_false, show ¬ (1 : Int) = 0 from by decide]
    generalize pStr L = Q at *
    generalize L.length = y at *
    simp -implicitDefEqProofs [hdS, tlS, t27d, t27c, t27b, t27a, c27, strBin]
  ·cases o2
   ·simp only [opn]
    simp only [show ((kLeave == kEnter) || (kLeave == kLeave)) = true from by decide, show (kLeave == kArm) = false from by decide, addR, ex, Bool.not_false, Bool.and_self, Bool.true_or, if_true, e1, e2, show ¬ (2 : Int) = 0 from by decide, show ¬ (2 : Int) = 1 from by decide, if_false]
    generalize pStr L = Q at *
    generalize L.length = y at *
    simp -implicitDefEqProofs [hdS, tlS, t27d, t27c, t27b, t27a, c27, strBin, hQ, hlim]
   ·simp only [opn]
    simp only [show ((kLeave == kEnter) || (kLeave == kLeave)) = true from by decide, show (kLeave == kArm) = false from by decide, addR, ex, Bool.not_true, Bool.and_false, Bool.false_and, Bool.or_self, if_true, Bool.false_eq_true, if_false, show ¬ (2 : Int) = 0 from by decide, show ¬ (2 : Int) = 1 from by decide]
    generalize pStr L = Q at *
    generalize L.length = y at *
    simp -implicitDefEqProofs [hdS, tlS, t27d, t27c, t27b, t27a, c27, strBin]
  ·cases o3
   ·simp only [opn]
    simp only [show ((kLeave == kEnter) || (kLeave == kLeave)) = true from by decide, show (kLeave == kArm) = false from by decide, addR, ex, Bool.not_false, Bool.and_self, Bool.true_or, if_true, e1, e2, show ¬ (3 : Int) = 0 from by decide, show ¬ (3 : Int) = 1 from by decide, show ¬ (3 : Int) = 2 from by decide, if_false]
    generalize pStr L = Q at *
    generalize L.length = y at *
    simp -implicitDefEqProofs [hdS, tlS, t27d, t27c, t27b, t27a, c27, strBin, hQ, hlim]
   ·simp only [opn]
    simp only [show ((kLeave == kEnter) || (kLeave == kLeave)) = true from by decide, show (kLeave == kArm) = false from by decide, addR, ex, Bool.not_true, Bool.and_false, Bool.false_and, Bool.or_self, if_true, Bool.false_eq_true, if_false, show ¬ (3 : Int) = 0 from by decide, show ¬ (3 : Int) = 1 from by decide, show ¬ (3 : Int) = 2 from by decide]
    generalize pStr L = Q at *
    generalize L.length = y at *
    simp -implicitDefEqProofs [hdS, tlS, t27d, t27c, t27b, t27a, c27, strBin]
  ·cases o4
   ·simp only [opn]
    simp only [show ((kLeave == kEnter) || (kLeave == kLeave)) = true from by decide, show (kLeave == kArm) = false from by decide, addR, ex, Bool.not_false, Bool.and_self, Bool.true_or, if_true, e1, e2, show ¬ (4 : Int) = 0 from by decide, show ¬ (4 : Int) = 1 from by decide, show ¬ (4 : Int) = 2 from by decide, show ¬ (4 : Int) = 3 from by decide, if_false]
    generalize pStr L = Q at *
    generalize L.length = y at *
    simp -implicitDefEqProofs [hdS, tlS, t27d, t27c, t27b, t27a, c27, strBin, hQ, hlim]
   ·simp only [opn]
    simp only [show ((kLeave == kEnter) || (kLeave == kLeave)) = true from by decide, show (kLeave == kArm) = false from by decide, addR, ex, Bool.not_true, Bool.and_false, Bool.false_and, Bool.or_self, if_true, Bool.false_eq_true, if_false, show ¬ (4 : Int) = 0 from by decide, show ¬ (4 : Int) = 1 from by decide, show ¬ (4 : Int) = 2 from by decide, show ¬ (4 : Int) = 3 from by decide]
    generalize pStr L = Q at *
    generalize L.length = y at *
    simp -implicitDefEqProofs [hdS, tlS, t27d, t27c, t27b, t27a, c27, strBin]
  ·cases o5
   ·simp only [opn]
    simp only [show ((kLeave == kEnter) || (kLeave == kLeave)) = true from by decide, show (kLeave == kArm) = false from by decide, addR, ex, Bool.not_false, Bool.and_self, Bool.true_or, if_true, e1, e2, show ¬ (5 : Int) = 0 from by decide, show ¬ (5 : Int) = 1 from by decide, show ¬ (5 : Int) = 2 from by decide, show ¬ (5 : Int) = 3 from by decide, show ¬ (5 : Int) = 4 from by decide, if_false]
    generalize pStr L = Q at *
    generalize L.length = y at *
    simp -implicitDefEqProofs [hdS, tlS, t27d, t27c, t27b, t27a, c27, strBin, hQ, hlim]
   ·simp only [opn]
    simp only [show ((kLeave == kEnter) || (kLeave == kLeave)) = true from by decide, show (kLeave == kArm) = false from by decide, addR, ex, Bool.not_true, Bool.and_false, Bool.false_and, Bool.or_self, if_true, Bool.false_eq_true, if_false, show ¬ (5 : Int) = 0 from by decide, show ¬ (5 : Int) = 1 from by decide, show ¬ (5 : Int) = 2 from by decide, show ¬ (5 : Int) = 3 from by decide, show ¬ (5 : Int) = 4 from by decide]
    generalize pStr L = Q at *
    generalize L.length = y at *
    simp -implicitDefEqProofs [hdS, tlS, t27d, t27c, t27b, t27a, c27, strBin]
  ·cases o6
   ·simp only [opn]
    simp only [show ((kLeave == kEnter) || (kLeave == kLeave)) = true from by decide, show (kLeave == kArm) = false from by decide, addR, ex, Bool.not_false, Bool.and_self, Bool.true_or, if_true, e1, e2, show ¬ (6 : Int) = 0 from by decide, show ¬ (6 : Int) = 1 from by decide, show ¬ (6 : Int) = 2 from by decide, show ¬ (6 : Int) = 3 from by decide, show ¬ (6 : Int) = 4 from by decide, show ¬ (6 : Int) = 5 from by decide, if_false]
    generalize pStr L = Q at *
    generalize L.length = y at *
    simp -implicitDefEqProofs [hdS, tlS, t27d, t27c, t27b, t27a, c27, strBin, hQ, hlim]
   ·simp only [opn]
    simp only [show ((kLeave == kEnter) || (kLeave == kLeave)) = true from by decide, show (kLeave == kArm) = false from by decide, addR, ex, Bool.not_true, Bool.and_false, Bool.false_and, Bool.or_self, if_true, Bool.false_eq_true, if_false, show ¬ (6 : Int) = 0 from by decide, show ¬ (6 : Int) = 1 from by decide, show ¬ (6 : Int) = 2 from by decide, show ¬ (6 : Int) = 3 from by decide, show ¬ (6 : Int) = 4 from by decide, show ¬ (6 : Int) = 5 from by decide]
    generalize pStr L = Q at *
    generalize L.length = y at *
    simp -implicitDefEqProofs [hdS, tlS, t27d, t27c, t27b, t27a, c27, strBin]
  ·cases o7
   ·simp only [opn]
    simp only [show ((kLeave == kEnter) || (kLeave == kLeave)) = true from by decide, show (kLeave == kArm) = false from by decide, addR, ex, Bool.not_false, Bool.and_self, Bool.true_or, if_true, e1, e2, show ¬ (7 : Int) = 0 from by decide, show ¬ (7 : Int) = 1 from by decide, show ¬ (7 : Int) = 2 from by decide, show ¬ (7 : Int) = 3 from by decide, show ¬ (7 : Int) = 4 from by decide, show ¬ (7 : Int) = 5 from by decide, show ¬ (7 : Int) = 6 from by decide, if_false]
    generalize pStr L = Q at *
    generalize L.length = y at *
    simp -implicitDefEqProofs [hdS, tlS, t27d, t27c, t27b, t27a, c27, strBin, hQ, hlim]
   ·simp only [opn]
    simp only [show ((kLeave == kEnter) || (kLeave == kLeave)) = true from by decide, show (kLeave == kArm) = false from by decide, addR, ex, Bool.not_true, Bool.and_false, Bool.false_and, Bool.or_self, Bool.false_eq_true, if_false, show ¬ (7 : Int) = 0 from by decide, show ¬ (7 : Int) = 1 from by decide, show ¬ (7 : Int) = 2 from by decide, show ¬ (7 : Int) = 3 from by decide, show ¬ (7 : Int) = 4 from by decide, show ¬ (7 : Int) = 5 from by decide, show ¬ (7 : Int) = 6 from by decide]
    generalize pStr L = Q at *
    generalize L.length = y at *
    simp -implicitDefEqProofs [hdS, tlS, t27d, t27c, t27b, t27a, c27, strBin]
 ·simp only [show ((kArm == kEnter) || (kArm == kLeave)) = false from by decide, show (kArm == kArm) = true from by decide, anyO, Bool.false_and, Bool.false_or, Bool.true_and]
  cases hz : (o0 || (o1 || (o2 || (o3 || (o4 || (o5 || (o6 || o7)))))))
  ·simp only [addR, ex, Bool.false_eq_true, if_false]
   generalize pStr L = Q at *
   generalize L.length = y at *
   simp -implicitDefEqProofs [hdS, tlS, t27d, t27c, t27b, t27a, c27, strBin, hz]
  ·simp only [addR, ex, if_true, e1, e2]
   generalize pStr L = Q at *
   generalize L.length = y at *
   simp -implicitDefEqProofs [hdS, tlS, t27d, t27c, t27b, t27a, c27, strBin, hQ, hlim, hz]
 ·simp only [show ((kDisarm == kEnter) || (kDisarm == kLeave)) = false from by decide, show (kDisarm == kArm) = false from by decide, Bool.false_and, Bool.or_self, addR, ex, Bool.false_eq_true, if_false]
  generalize pStr L = Q at *
  generalize L.length = y at *
  simp -implicitDefEqProofs [hdS, tlS, t27d, t27c, t27b, t27a, c27, strBin]
 ·simp only [show ((kShoot == kEnter) || (kShoot == kLeave)) = false from by decide, show (kShoot == kArm) = false from by decide, Bool.false_and, Bool.or_self, addR, ex, Bool.false_eq_true, if_false]
  generalize pStr L = Q at *
  generalize L.length = y at *
  simp -implicitDefEqProofs [hdS, tlS, t27d, t27c, t27b, t27a, c27, strBin]
 ·simp only [show ((kMeasure == kEnter) || (kMeasure == kLeave)) = false from by decide, show (kMeasure == kArm) = false from by decide, Bool.false_and, Bool.or_self, addR, ex, Bool.false_eq_true, if_false]
  generalize pStr L = Q at *
  generalize L.length = y at *
  simp -implicitDefEqProofs [hdS, tlS, t27d, t27c, t27b, t27a, c27, strBin]

theorem s27f {d : Nat} (s : StaI) (x : ActI) (L : List (List UInt8)) (hL : L.length ≤ 7) (E : Env) : (evCode (evFn F C0 G0 d) C0 G0 0 t27e (S27 s x L E)).bind (finish [.tmp 4]) = (evCode (evFn F C0 G0 d) C0 G0 0 t27f (S27 s x (addR L (peoB s x) wPeople) (ex 133 (peoB s x)))).bind (finish [.tmp 4]) := by
 rw [t27_f]
 have hlim : L.length + 1 ≤ lim := by simp only [lim]; omega
 have hQ : (pStr L).length = L.length := by simp
 have e1 : pStr (L ++ [wPeople]) = pStr L ++ [.str wPeople] := (pStr_snoc _ _).symm
 have e2 : (L ++ [wPeople]).length = L.length + 1 := by simp
 obtain ⟨t, k, m, a, b, c⟩ := x
 obtain ⟨st, o0, o1, o2, o3, o4, o5, o6, o7, k0, k1, pp, ar, sh, ad⟩ := s
 simp only [peoB, mem1]
 simp only [S27, o27, sc]
 cases h1 : (k == kArm) <;> by_cases h2 : 0 < pp <;> simp only [h2, decide_true, decide_false]
 all_goals
  simp only [addR, ex, Bool.false_eq_true, if_false, if_true, e1, e2, Bool.and_true, Bool.and_false]
  generalize pStr L = Q at *
  generalize L.length = y at *
  simp -implicitDefEqProofs [hdS, tlS, t27e, t27d, t27c, t27b, t27a, c27, strBin, hQ, hlim, h1, h2]

theorem s27g {d : Nat} (s : StaI) (x : ActI) (L : List (List UInt8)) (hL : L.length ≤ 7) (E : Env) : (evCode (evFn F C0 G0 d) C0 G0 0 t27f (S27 s x L E)).bind (finish [.tmp 4]) = (evCode (evFn F C0 G0 d) C0 G0 0 t27g (S27 s x (addR L (keyR s x) wKey) (ex 151 (keyR s x)))).bind (finish [.tmp 4]) := by
 rw [t27_g]
 have hlim : L.length + 1 ≤ lim := by simp only [lim]; omega
 have hQ : (pStr L).length = L.length := by simp
 have e1 : pStr (L ++ [wKey]) = pStr L ++ [.str wKey] := (pStr_snoc _ _).symm
 have e2 : (L ++ [wKey]).length = L.length + 1 := by simp
 obtain ⟨t, k, m, a, b, c⟩ := x
 obtain ⟨st, o0, o1, o2, o3, o4, o5, o6, o7, k0, k1, pp, ar, sh, ad⟩ := s
 simp only [keyR, mem1]
 simp only [S27, o27, sc]
 cases h1 : (k == kArm) <;> cases k0 <;> cases k1
 all_goals
  simp only [addR, ex, Bool.false_eq_true, if_false, if_true, e1, e2, Bool.and_true, Bool.and_false, Bool.or_true, Bool.or_false, Bool.not_true, Bool.not_false]
  generalize pStr L = Q at *
  generalize L.length = y at *
  simp -implicitDefEqProofs [hdS, tlS, t27f, t27e, t27d, t27c, t27b, t27a, c27, strBin, hQ, hlim, h1]

theorem s27h {d : Nat} (s : StaI) (x : ActI) (L : List (List UInt8)) (hL : L.length ≤ 7) (E : Env) : (evCode (evFn F C0 G0 d) C0 G0 0 t27g (S27 s x L E)).bind (finish [.tmp 4]) = .ret (.own (pStr (addR L (waiB s x) wWait)) (addR L (waiB s x) wWait).length 1) := by
 have hlim : L.length + 1 ≤ lim := by simp only [lim]; omega
 have hQ : (pStr L).length = L.length := by simp
 have e1 : pStr (L ++ [wWait]) = pStr L ++ [.str wWait] := (pStr_snoc _ _).symm
 have e2 : (L ++ [wWait]).length = L.length + 1 := by simp
 obtain ⟨t, k, m, a, b, c⟩ := x
 obtain ⟨st, o0, o1, o2, o3, o4, o5, o6, o7, k0, k1, pp, ar, sh, ad⟩ := s
 simp only [waiB, mem3, admB]
 simp only [S27, o27, sc]
 have hgt : ∀ z : Int, (t < z) = ¬ (z ≤ t) := fun z => by simp
 have hne : (ad != -1) = !(ad == -1) := rfl
 simp only [hne]
 cases h1 : (k == kOpen) <;> cases h2 : (k == kEnter) <;> cases h3 : (k == kArm) <;> cases h4 : (ad == -1) <;> by_cases h5 : ad ≤ t
 all_goals
  simp only [h5, decide_true, decide_false, addR, Bool.false_eq_true, if_false, if_true, e1, e2, Bool.and_true, Bool.and_false, Bool.or_true, Bool.or_false, Bool.not_true, Bool.not_false]
  generalize pStr L = Q at *
  generalize L.length = y at *
  simp -implicitDefEqProofs [tlS, t27g, t27f, t27e, t27d, t27c, t27b, t27a, c27, strBin, hQ, hlim, h1, h2, h3, h4, h5, hgt]

theorem reasons27 {n : Nat} (hn : 1 ≤ n) (s : StaI) (x : ActI) (h : NumOk x) (hp : s.people ≤ 100) : RUN n 27 [sa s, aa x] = .ret (.own (pStr (reaL s x)) (reaL s x).length 1) := by
 obtain ⟨d, rfl⟩ : ∃ d, n = d + 1 := ⟨n - 1, by omega⟩
 have l0 : ([] : List (List UInt8)).length ≤ 0 := by simp
 have l1 : (addR ([] : List (List UInt8)) (decide (x.tick < s.tick)) wTick).length ≤ 1 := by have := addR_le ([] : List (List UInt8)) (decide (x.tick < s.tick)) wTick; omega
 have l2 : (addR (addR ([] : List (List UInt8)) (decide (x.tick < s.tick)) wTick) (stB s x) wState).length ≤ 2 := by have := addR_le (addR ([] : List (List UInt8)) (decide (x.tick < s.tick)) wTick) (stB s x) wState; omega
 have l3 : (addR (addR (addR ([] : List (List UInt8)) (decide (x.tick < s.tick)) wTick) (stB s x) wState) (armB s x) wArmed).length ≤ 3 := by have := addR_le (addR (addR ([] : List (List UInt8)) (decide (x.tick < s.tick)) wTick) (stB s x) wState) (armB s x) wArmed; omega
 have l4 : (addR (addR (addR (addR ([] : List (List UInt8)) (decide (x.tick < s.tick)) wTick) (stB s x) wState) (armB s x) wArmed) (dooB s x) wDoor).length ≤ 4 := by have := addR_le (addR (addR (addR ([] : List (List UInt8)) (decide (x.tick < s.tick)) wTick) (stB s x) wState) (armB s x) wArmed) (dooB s x) wDoor; omega
 have l5 : (addR (addR (addR (addR (addR ([] : List (List UInt8)) (decide (x.tick < s.tick)) wTick) (stB s x) wState) (armB s x) wArmed) (dooB s x) wDoor) (peoB s x) wPeople).length ≤ 5 := by have := addR_le (addR (addR (addR (addR ([] : List (List UInt8)) (decide (x.tick < s.tick)) wTick) (stB s x) wState) (armB s x) wArmed) (dooB s x) wDoor) (peoB s x) wPeople; omega
 have l6 : (addR (addR (addR (addR (addR (addR ([] : List (List UInt8)) (decide (x.tick < s.tick)) wTick) (stB s x) wState) (armB s x) wArmed) (dooB s x) wDoor) (peoB s x) wPeople) (keyR s x) wKey).length ≤ 6 := by have := addR_le (addR (addR (addR (addR (addR ([] : List (List UInt8)) (decide (x.tick < s.tick)) wTick) (stB s x) wState) (armB s x) wArmed) (dooB s x) wDoor) (peoB s x) wPeople) (keyR s x) wKey; omega
 rw [s27a, s27b s x h hp, s27c s x _ _ (by omega), s27d s x _ (by omega), s27e s x h _ (by omega), s27f s x _ (by omega), s27g s x _ (by omega), s27h s x _ (by omega)]
 rfl
end Fw
