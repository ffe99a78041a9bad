/- The reasons against an act, the program's (printed by genR2.py). -/
import Derived.Test.YtdjkleaojdeepaaGreatDoorGaR1
import Derived.KernelRfl
set_option maxHeartbeats 16000000
namespace Fw
open Go
attribute [local irreducible] evCode evOps evOpsD evOper evOperD evOp evFn loopN T.All T.bind callPure callOp opsK opsDK restK seqK blockK loopS setK setQ giveK scalK gcK finish finS rfunK yldK yldB loopK

abbrev wTick : List UInt8 := [116, 105, 99, 107]
abbrev wState : List UInt8 := [115, 116, 97, 116, 101]
abbrev wArmed : List UInt8 := [97, 114, 109, 101, 100]
abbrev wDoor : List UInt8 := [100, 111, 111, 114]
abbrev wPeople : List UInt8 := [112, 101, 111, 112, 108, 101]
abbrev wKey : List UInt8 := [107, 101, 121]
abbrev wWait : List UInt8 := [119, 97, 105, 116]
def addR (L : List (List UInt8)) (b : Bool) (w : List UInt8) : List (List UInt8) := if b = true then L ++ [w] else L
theorem addR_le (L : List (List UInt8)) (b : Bool) (w : List UInt8) : (addR L b w).length ≤ L.length + 1 := by
 unfold addR; split <;> simp
def reaL (s : StaI) (x : ActI) : List (List UInt8) :=
 addR (addR (addR (addR (addR (addR (addR [] (decide (x.tick < s.tick)) wTick) (stB s x) wState) (armB s x) wArmed) (dooB s x) wDoor) (peoB s x) wPeople) (keyR s x) wKey) (waiB s x) wWait
theorem numOk_cases {x : ActI} (h : NumOk x) : x.kind = kOpen ∨ x.kind = kClose ∨ x.kind = kInsert ∨ x.kind = kRemove ∨ x.kind = kEnter ∨ x.kind = kLeave ∨ x.kind = kArm ∨ x.kind = kDisarm ∨ x.kind = kShoot ∨ x.kind = kMeasure := by
 simpa only [kindL, List.mem_cons, List.not_mem_nil, or_false] using h.1

theorem r241 {n : Nat} (hn : 5 ≤ n) (s : StaI) (x : ActI) (h : NumOk x) : RUN n 241 [sa s, aa x] = .ret (bl (stB s x)) := by
 obtain ⟨d, rfl⟩ : ∃ d, n = d + 5 := ⟨n - 5, by omega⟩
 rw [RUN, call_eq fe241 _ rfl]
 have hk := numOk_cases h
 have hG : G0 0 = some g0 := rfl
 obtain ⟨t, k, m, a, b, c⟩ := x
 simp only at hk
 rcases hk with rfl | rfl | rfl | rfl | rfl | rfl | rfl | rfl | rfl | rfl
 ·have ki : RUN (d + 4) 242 [.p (.sl g0 10), .p (.clo 243 [] [.pp [.int .i64 t, .str kOpen, .int .i64 m, .int .i64 a, .int .i64 b, .int .i64 c]])] = .ret (iv 0) := by kernel_rfl
  have ks := st218 (n := d + 4) (by omega) s ⟨t, kOpen, m, a, b, c⟩ (h.2.1 (show doorB kOpen = true by decide))
  have hs : stB s ⟨t, kOpen, m, a, b, c⟩ = (opn s m) := rfl
  rw [hs]
  try simp only at ks
  generalize (opn s m) = z at *
  obtain ⟨st, o0, o1, o2, o3, o4, o5, o6, o7, k0, k1, pp, ar, sh, ad⟩ := s
  simp only [g0] at ki ks ⊢
  simp -implicitDefEqProofs [c241, ki, ks, hG, g0]
 ·have ki : RUN (d + 4) 242 [.p (.sl g0 10), .p (.clo 243 [] [.pp [.int .i64 t, .str kClose, .int .i64 m, .int .i64 a, .int .i64 b, .int .i64 c]])] = .ret (iv 1) := by kernel_rfl
  have ks := st220 (n := d + 4) (by omega) s ⟨t, kClose, m, a, b, c⟩ (h.2.1 (show doorB kClose = true by decide))
  have hs : stB s ⟨t, kClose, m, a, b, c⟩ = (!opn s m) := rfl
  rw [hs]
  try simp only at ks
  generalize (!opn s m) = z at *
  obtain ⟨st, o0, o1, o2, o3, o4, o5, o6, o7, k0, k1, pp, ar, sh, ad⟩ := s
  simp only [g0] at ki ks ⊢
  simp -implicitDefEqProofs [c241, ki, ks, hG, g0]
 ·have ki : RUN (d + 4) 242 [.p (.sl g0 10), .p (.clo 243 [] [.pp [.int .i64 t, .str kInsert, .int .i64 m, .int .i64 a, .int .i64 b, .int .i64 c]])] = .ret (iv 2) := by kernel_rfl
  have ks := st223 (n := d + 4) (by omega) s ⟨t, kInsert, m, a, b, c⟩ (h.2.2 (show keyB kInsert = true by decide))
  have hs : stB s ⟨t, kInsert, m, a, b, c⟩ = (key s m) := rfl
  rw [hs]
  try simp only at ks
  generalize (key s m) = z at *
  obtain ⟨st, o0, o1, o2, o3, o4, o5, o6, o7, k0, k1, pp, ar, sh, ad⟩ := s
  simp only [g0] at ki ks ⊢
  simp -implicitDefEqProofs [c241, ki, ks, hG, g0]
 ·have ki : RUN (d + 4) 242 [.p (.sl g0 10), .p (.clo 243 [] [.pp [.int .i64 t, .str kRemove, .int .i64 m, .int .i64 a, .int .i64 b, .int .i64 c]])] = .ret (iv 3) := by kernel_rfl
  have ks := st225 (n := d + 4) (by omega) s ⟨t, kRemove, m, a, b, c⟩ (h.2.2 (show keyB kRemove = true by decide))
  have hs : stB s ⟨t, kRemove, m, a, b, c⟩ = (!key s m) := rfl
  rw [hs]
  try simp only at ks
  generalize (!key s m) = z at *
  obtain ⟨st, o0, o1, o2, o3, o4, o5, o6, o7, k0, k1, pp, ar, sh, ad⟩ := s
  simp only [g0] at ki ks ⊢
  simp -implicitDefEqProofs [c241, ki, ks, hG, g0]
 ·have ki : RUN (d + 4) 242 [.p (.sl g0 10), .p (.clo 243 [] [.pp [.int .i64 t, .str kEnter, .int .i64 m, .int .i64 a, .int .i64 b, .int .i64 c]])] = .ret (iv 4) := by kernel_rfl
  have ks := st227 (n := d + 4) (by omega) s ⟨t, kEnter, m, a, b, c⟩
  have hs : stB s ⟨t, kEnter, m, a, b, c⟩ = (decide (100 ≤ s.people)) := rfl
  rw [hs]
  try simp only at ks
  generalize (decide (100 ≤ s.people)) = z at *
  obtain ⟨st, o0, o1, o2, o3, o4, o5, o6, o7, k0, k1, pp, ar, sh, ad⟩ := s
  simp only [g0] at ki ks ⊢
  simp -implicitDefEqProofs [c241, ki, ks, hG, g0]
 ·have ki : RUN (d + 4) 242 [.p (.sl g0 10), .p (.clo 243 [] [.pp [.int .i64 t, .str kLeave, .int .i64 m, .int .i64 a, .int .i64 b, .int .i64 c]])] = .ret (iv 5) := by kernel_rfl
  have ks := st229 (n := d + 4) (by omega) s ⟨t, kLeave, m, a, b, c⟩
  have hs : stB s ⟨t, kLeave, m, a, b, c⟩ = (s.people == 0) := rfl
  rw [hs]
  try simp only at ks
  generalize (s.people == 0) = z at *
  obtain ⟨st, o0, o1, o2, o3, o4, o5, o6, o7, k0, k1, pp, ar, sh, ad⟩ := s
  simp only [g0] at ki ks ⊢
  simp -implicitDefEqProofs [c241, ki, ks, hG, g0]
 ·have ki : RUN (d + 4) 242 [.p (.sl g0 10), .p (.clo 243 [] [.pp [.int .i64 t, .str kArm, .int .i64 m, .int .i64 a, .int .i64 b, .int .i64 c]])] = .ret (iv 6) := by kernel_rfl
  have ks := st232 (n := d + 4) (by omega) s ⟨t, kArm, m, a, b, c⟩
  have hs : stB s ⟨t, kArm, m, a, b, c⟩ = (s.armed) := rfl
  rw [hs]
  try simp only at ks
  generalize (s.armed) = z at *
  obtain ⟨st, o0, o1, o2, o3, o4, o5, o6, o7, k0, k1, pp, ar, sh, ad⟩ := s
  simp only [g0] at ki ks ⊢
  simp -implicitDefEqProofs [c241, ki, ks, hG, g0]
 ·have ki : RUN (d + 4) 242 [.p (.sl g0 10), .p (.clo 243 [] [.pp [.int .i64 t, .str kDisarm, .int .i64 m, .int .i64 a, .int .i64 b, .int .i64 c]])] = .ret (iv 7) := by kernel_rfl
  have ks := st234 (n := d + 4) (by omega) s ⟨t, kDisarm, m, a, b, c⟩
  have hs : stB s ⟨t, kDisarm, m, a, b, c⟩ = (!s.armed) := rfl
  rw [hs]
  try simp only at ks
  generalize (!s.armed) = z at *
  obtain ⟨st, o0, o1, o2, o3, o4, o5, o6, o7, k0, k1, pp, ar, sh, ad⟩ := s
  simp only [g0] at ki ks ⊢
  simp -implicitDefEqProofs [c241, ki, ks, hG, g0]
 ·have ki : RUN (d + 4) 242 [.p (.sl g0 10), .p (.clo 243 [] [.pp [.int .i64 t, .str kShoot, .int .i64 m, .int .i64 a, .int .i64 b, .int .i64 c]])] = .ret (iv 8) := by kernel_rfl
  have ks := st236 (n := d + 4) (by omega) s ⟨t, kShoot, m, a, b, c⟩
  have hs : stB s ⟨t, kShoot, m, a, b, c⟩ = (!s.armed) := rfl
  rw [hs]
  try simp only at ks
  generalize (!s.armed) = z at *
  obtain ⟨st, o0, o1, o2, o3, o4, o5, o6, o7, k0, k1, pp, ar, sh, ad⟩ := s
  simp only [g0] at ki ks ⊢
  simp -implicitDefEqProofs [c241, ki, ks, hG, g0]
 ·have ki : RUN (d + 4) 242 [.p (.sl g0 10), .p (.clo 243 [] [.pp [.int .i64 t, .str kMeasure, .int .i64 m, .int .i64 a, .int .i64 b, .int .i64 c]])] = .ret (iv 9) := by kernel_rfl
  have ks := st238 (n := d + 4) (by omega) s ⟨t, kMeasure, m, a, b, c⟩
  have hs : stB s ⟨t, kMeasure, m, a, b, c⟩ = (s.shot == -1) := rfl
  rw [hs]
  try simp only at ks
  generalize (s.shot == -1) = z at *
  obtain ⟨st, o0, o1, o2, o3, o4, o5, o6, o7, k0, k1, pp, ar, sh, ad⟩ := s
  simp only [g0] at ki ks ⊢
  simp -implicitDefEqProofs [c241, ki, ks, hG, g0]

def S90 (s : StaI) (x : ActI) (L : List (List UInt8)) (i : Int) : St := ⟨[(2, .ptr 0 0 0), (3, .ptr 1 0 0), (5, .sl 2 L.length 0 L.length), (8, .agg (g1.map .p)), (9, iv i)], [(2, .arr (pStr L) L.length 1), (1, .arr [.int .i64 x.tick, .str x.kind, .int .i64 x.num, .int .i64 x.a, .int .i64 x.b, .int .i64 x.c] 0 1), (0, .arr (sc s) 0 1)]⟩

theorem s90_0 {d : Nat} (s : StaI) (x : ActI) (z : Bool) (k : RUN d 240 [sa s, aa x] = .ret (bl z)) (L : List (List UInt8)) (hL : L.length ≤ 7) :
  ∃ st1, loopS (evFn F C0 G0 d) C0 G0 0 true [2, 3, 5, 8, 9] c90L0 (S90 s x L 0) = .ret (.normal, st1) ∧ loopS (evFn F C0 G0 d) C0 G0 0 true [2, 3, 5, 8, 9] c90L0 st1 = loopS (evFn F C0 G0 d) C0 G0 0 true [2, 3, 5, 8, 9] c90L0 (S90 s x (addR L z wTick) 1) := by
 have hlim : L.length + 1 ≤ lim := by simp only [lim]; omega
 have hQ : (pStr L).length = L.length := by simp
 have e1 : pStr (L ++ [wTick]) = pStr L ++ [.str wTick] := (pStr_snoc _ _).symm
 have e2 : (L ++ [wTick]).length = L.length + 1 := by simp
 have w1 : IntKind.i64.wrap 1 = 1 := by decide
 obtain ⟨t, kk, m, a, b, c⟩ := x
 obtain ⟨st, o0, o1, o2, o3, o4, o5, o6, o7, k0, k1, pp, ar, sh, ad⟩ := s
 cases z with
 | false =>
  simp only [S90, addR, Bool.false_eq_true, if_false, sc, g1, List.map_cons, List.map_nil]
  generalize pStr L = Q at *
  generalize L.length = y at *
  refine ⟨?_, ?h1, ?h2⟩
  case h1 =>
   simp -implicitDefEqProofs [loopS_eq, c90L0, k, w1]
   exact rfl
  case h2 => exact loopS_same (by simp) (by simp)
 | true =>
  simp only [S90, addR, if_true, e1, e2, sc, g1, List.map_cons, List.map_nil]
  generalize pStr L = Q at *
  generalize L.length = y at *
  refine ⟨?_, ?h1, ?h2⟩
  case h1 =>
   simp -implicitDefEqProofs [loopS_eq, c90L0, k, w1, hQ, hlim]
   exact rfl
  case h2 => exact loopS_same (by simp) (by simp)

theorem s90_1 {d : Nat} (s : StaI) (x : ActI) (z : Bool) (k : RUN d 241 [sa s, aa x] = .ret (bl z)) (L : List (List UInt8)) (hL : L.length ≤ 7) :
  ∃ st1, loopS (evFn F C0 G0 d) C0 G0 0 true [2, 3, 5, 8, 9] c90L0 (S90 s x L 1) = .ret (.normal, st1) ∧ loopS (evFn F C0 G0 d) C0 G0 0 true [2, 3, 5, 8, 9] c90L0 st1 = loopS (evFn F C0 G0 d) C0 G0 0 true [2, 3, 5, 8, 9] c90L0 (S90 s x (addR L z wState) 2) := by
 have hlim : L.length + 1 ≤ lim := by simp only [lim]; omega
 have hQ : (pStr L).length = L.length := by simp
 have e1 : pStr (L ++ [wState]) = pStr L ++ [.str wState] := (pStr_snoc _ _).symm
 have e2 : (L ++ [wState]).length = L.length + 1 := by simp
 have w1 : IntKind.i64.wrap 2 = 2 := by decide
 obtain ⟨t, kk, m, a, b, c⟩ := x
 obtain ⟨st, o0, o1, o2, o3, o4, o5, o6, o7, k0, k1, pp, ar, sh, ad⟩ := s
 cases z with
 | false =>
  simp only [S90, addR, Bool.false_eq_true, if_false, sc, g1, List.map_cons, List.map_nil]
  generalize pStr L = Q at *
  generalize L.length = y at *
  refine ⟨?_, ?h1, ?h2⟩
  case h1 =>
   simp -implicitDefEqProofs [loopS_eq, c90L0, k, w1]
   exact rfl
  case h2 => exact loopS_same (by simp) (by simp)
 | true =>
  simp only [S90, addR, if_true, e1, e2, sc, g1, List.map_cons, List.map_nil]
  generalize pStr L = Q at *
  generalize L.length = y at *
  refine ⟨?_, ?h1, ?h2⟩
  case h1 =>
   simp -implicitDefEqProofs [loopS_eq, c90L0, k, w1, hQ, hlim]
   exact rfl
  case h2 => exact loopS_same (by simp) (by simp)

theorem s90_2 {d : Nat} (s : StaI) (x : ActI) (z : Bool) (k : RUN d 244 [sa s, aa x] = .ret (bl z)) (L : List (List UInt8)) (hL : L.length ≤ 7) :
  ∃ st1, loopS (evFn F C0 G0 d) C0 G0 0 true [2, 3, 5, 8, 9] c90L0 (S90 s x L 2) = .ret (.normal, st1) ∧ loopS (evFn F C0 G0 d) C0 G0 0 true [2, 3, 5, 8, 9] c90L0 st1 = loopS (evFn F C0 G0 d) C0 G0 0 true [2, 3, 5, 8, 9] c90L0 (S90 s x (addR L z wArmed) 3) := by
 have hlim : L.length + 1 ≤ lim := by simp only [lim]; omega
 have hQ : (pStr L).length = L.length := by simp
 have e1 : pStr (L ++ [wArmed]) = pStr L ++ [.str wArmed] := (pStr_snoc _ _).symm
 have e2 : (L ++ [wArmed]).length = L.length + 1 := by simp
 have w1 : IntKind.i64.wrap 3 = 3 := by decide
 obtain ⟨t, kk, m, a, b, c⟩ := x
 obtain ⟨st, o0, o1, o2, o3, o4, o5, o6, o7, k0, k1, pp, ar, sh, ad⟩ := s
 cases z with
 | false =>
  simp only [S90, addR, Bool.false_eq_true, if_false, sc, g1, List.map_cons, List.map_nil]
  generalize pStr L = Q at *
  generalize L.length = y at *
  refine ⟨?_, ?h1, ?h2⟩
  case h1 =>
   simp -implicitDefEqProofs [loopS_eq, c90L0, k, w1]
   exact rfl
  case h2 => exact loopS_same (by simp) (by simp)
 | true =>
  simp only [S90, addR, if_true, e1, e2, sc, g1, List.map_cons, List.map_nil]
  generalize pStr L = Q at *
  generalize L.length = y at *
  refine ⟨?_, ?h1, ?h2⟩
  case h1 =>
   simp -implicitDefEqProofs [loopS_eq, c90L0, k, w1, hQ, hlim]
   exact rfl
  case h2 => exact loopS_same (by simp) (by simp)

theorem s90_3 {d : Nat} (s : StaI) (x : ActI) (z : Bool) (k : RUN d 245 [sa s, aa x] = .ret (bl z)) (L : List (List UInt8)) (hL : L.length ≤ 7) :
  ∃ st1, loopS (evFn F C0 G0 d) C0 G0 0 true [2, 3, 5, 8, 9] c90L0 (S90 s x L 3) = .ret (.normal, st1) ∧ loopS (evFn F C0 G0 d) C0 G0 0 true [2, 3, 5, 8, 9] c90L0 st1 = loopS (evFn F C0 G0 d) C0 G0 0 true [2, 3, 5, 8, 9] c90L0 (S90 s x (addR L z wDoor) 4) := by
 have hlim : L.length + 1 ≤ lim := by simp only [lim]; omega
 have hQ : (pStr L).length = L.length := by simp
 have e1 : pStr (L ++ [wDoor]) = pStr L ++ [.str wDoor] := (pStr_snoc _ _).symm
 have e2 : (L ++ [wDoor]).length = L.length + 1 := by simp
 have w1 : IntKind.i64.wrap 4 = 4 := by decide
 obtain ⟨t, kk, m, a, b, c⟩ := x
 obtain ⟨st, o0, o1, o2, o3, o4, o5, o6, o7, k0, k1, pp, ar, sh, ad⟩ := s
 cases z with
 | false =>
  simp only [S90, addR, Bool.false_eq_true, if_false, sc, g1, List.map_cons, List.map_nil]
  generalize pStr L = Q at *
  generalize L.length = y at *
  refine ⟨?_, ?h1, ?h2⟩
  case h1 =>
   simp -implicitDefEqProofs [loopS_eq, c90L0, k, w1]
   exact rfl
  case h2 => exact loopS_same (by simp) (by simp)
 | true =>
  simp only [S90, addR, if_true, e1, e2, sc, g1, List.map_cons, List.map_nil]
  generalize pStr L = Q at *
  generalize L.length = y at *
  refine ⟨?_, ?h1, ?h2⟩
  case h1 =>
   simp -implicitDefEqProofs [loopS_eq, c90L0, k, w1, hQ, hlim]
   exact rfl
  case h2 => exact loopS_same (by simp) (by simp)

theorem s90_4 {d : Nat} (s : StaI) (x : ActI) (z : Bool) (k : RUN d 246 [sa s, aa x] = .ret (bl z)) (L : List (List UInt8)) (hL : L.length ≤ 7) :
  ∃ st1, loopS (evFn F C0 G0 d) C0 G0 0 true [2, 3, 5, 8, 9] c90L0 (S90 s x L 4) = .ret (.normal, st1) ∧ loopS (evFn F C0 G0 d) C0 G0 0 true [2, 3, 5, 8, 9] c90L0 st1 = loopS (evFn F C0 G0 d) C0 G0 0 true [2, 3, 5, 8, 9] c90L0 (S90 s x (addR L z wPeople) 5) := by
 have hlim : L.length + 1 ≤ lim := by simp only [lim]; omega
 have hQ : (pStr L).length = L.length := by simp
 have e1 : pStr (L ++ [wPeople]) = pStr L ++ [.str wPeople] := (pStr_snoc _ _).symm
 have e2 : (L ++ [wPeople]).length = L.length + 1 := by simp
 have w1 : IntKind.i64.wrap 5 = 5 := by decide
 obtain ⟨t, kk, m, a, b, c⟩ := x
 obtain ⟨st, o0, o1, o2, o3, o4, o5, o6, o7, k0, k1, pp, ar, sh, ad⟩ := s
 cases z with
 | false =>
  simp only [S90, addR, Bool.false_eq_true, if_false, sc, g1, List.map_cons, List.map_nil]
  generalize pStr L = Q at *
  generalize L.length = y at *
  refine ⟨?_, ?h1, ?h2⟩
  case h1 =>
   simp -implicitDefEqProofs [loopS_eq, c90L0, k, w1]
   exact rfl
  case h2 => exact loopS_same (by simp) (by simp)
 | true =>
  simp only [S90, addR, if_true, e1, e2, sc, g1, List.map_cons, List.map_nil]
  generalize pStr L = Q at *
  generalize L.length = y at *
  refine ⟨?_, ?h1, ?h2⟩
  case h1 =>
   simp -implicitDefEqProofs [loopS_eq, c90L0, k, w1, hQ, hlim]
   exact rfl
  case h2 => exact loopS_same (by simp) (by simp)

theorem s90_5 {d : Nat} (s : StaI) (x : ActI) (z : Bool) (k : RUN d 247 [sa s, aa x] = .ret (bl z)) (L : List (List UInt8)) (hL : L.length ≤ 7) :
  ∃ st1, loopS (evFn F C0 G0 d) C0 G0 0 true [2, 3, 5, 8, 9] c90L0 (S90 s x L 5) = .ret (.normal, st1) ∧ loopS (evFn F C0 G0 d) C0 G0 0 true [2, 3, 5, 8, 9] c90L0 st1 = loopS (evFn F C0 G0 d) C0 G0 0 true [2, 3, 5, 8, 9] c90L0 (S90 s x (addR L z wKey) 6) := by
 have hlim : L.length + 1 ≤ lim := by simp only [lim]; omega
 have hQ : (pStr L).length = L.length := by simp
 have e1 : pStr (L ++ [wKey]) = pStr L ++ [.str wKey] := (pStr_snoc _ _).symm
 have e2 : (L ++ [wKey]).length = L.length + 1 := by simp
 have w1 : IntKind.i64.wrap 6 = 6 := by decide
 obtain ⟨t, kk, m, a, b, c⟩ := x
 obtain ⟨st, o0, o1, o2, o3, o4, o5, o6, o7, k0, k1, pp, ar, sh, ad⟩ := s
 cases z with
 | false =>
  simp only [S90, addR, Bool.false_eq_true, if_false, sc, g1, List.map_cons, List.map_nil]
  generalize pStr L = Q at *
  generalize L.length = y at *
  refine ⟨?_, ?h1, ?h2⟩
  case h1 =>
   simp -implicitDefEqProofs [loopS_eq, c90L0, k, w1]
   exact rfl
  case h2 => exact loopS_same (by simp) (by simp)
 | true =>
  simp only [S90, addR, if_true, e1, e2, sc, g1, List.map_cons, List.map_nil]
  generalize pStr L = Q at *
  generalize L.length = y at *
  refine ⟨?_, ?h1, ?h2⟩
  case h1 =>
   simp -implicitDefEqProofs [loopS_eq, c90L0, k, w1, hQ, hlim]
   exact rfl
  case h2 => exact loopS_same (by simp) (by simp)

theorem s90_6 {d : Nat} (s : StaI) (x : ActI) (z : Bool) (k : RUN d 248 [sa s, aa x] = .ret (bl z)) (L : List (List UInt8)) (hL : L.length ≤ 7) :
  ∃ st1, loopS (evFn F C0 G0 d) C0 G0 0 true [2, 3, 5, 8, 9] c90L0 (S90 s x L 6) = .ret (.normal, st1) ∧ loopS (evFn F C0 G0 d) C0 G0 0 true [2, 3, 5, 8, 9] c90L0 st1 = loopS (evFn F C0 G0 d) C0 G0 0 true [2, 3, 5, 8, 9] c90L0 (S90 s x (addR L z wWait) 7) := by
 have hlim : L.length + 1 ≤ lim := by simp only [lim]; omega
 have hQ : (pStr L).length = L.length := by simp
 have e1 : pStr (L ++ [wWait]) = pStr L ++ [.str wWait] := (pStr_snoc _ _).symm
 have e2 : (L ++ [wWait]).length = L.length + 1 := by simp
 have w1 : IntKind.i64.wrap 7 = 7 := by decide
 obtain ⟨t, kk, m, a, b, c⟩ := x
 obtain ⟨st, o0, o1, o2, o3, o4, o5, o6, o7, k0, k1, pp, ar, sh, ad⟩ := s
 cases z with
 | false =>
  simp only [S90, addR, Bool.false_eq_true, if_false, sc, g1, List.map_cons, List.map_nil]
  generalize pStr L = Q at *
  generalize L.length = y at *
  refine ⟨?_, ?h1, ?h2⟩
  case h1 =>
   simp -implicitDefEqProofs [loopS_eq, c90L0, k, w1]
   exact rfl
  case h2 => exact loopS_same (by simp) (by simp)
 | true =>
  simp only [S90, addR, if_true, e1, e2, sc, g1, List.map_cons, List.map_nil]
  generalize pStr L = Q at *
  generalize L.length = y at *
  refine ⟨?_, ?h1, ?h2⟩
  case h1 =>
   simp -implicitDefEqProofs [loopS_eq, c90L0, k, w1, hQ, hlim]
   exact rfl
  case h2 => exact loopS_same (by simp) (by simp)

theorem loopN_on' {step : St → T (Ex × St)} {fuel : Nat} {st st2 : St} (h : ∃ st1, step st = .ret (.normal, st1) ∧ step st1 = step st2) (hf : 1 < fuel) : loopN step fuel st = loopN step (fuel - 1) st2 := by
 obtain ⟨st1, h1, h2⟩ := h
 rw [loopN_on h1 (by omega)]
 obtain ⟨f, hf'⟩ : ∃ f, fuel - 1 = f + 1 := ⟨fuel - 2, by omega⟩
 rw [hf']
 unfold loopN
 rw [h2]
theorem reasons90 {n : Nat} (hn : 6 ≤ n) (s : StaI) (x : ActI) (h : NumOk x) : RUN n 90 [sa s, aa x] = .ret (.own (pStr (reaL s x)) (reaL s x).length 1) := by
 obtain ⟨d, rfl⟩ : ∃ d, n = d + 6 := ⟨n - 6, by omega⟩
 rw [RUN, call_eq fe90 _ rfl]
 have k0 := r240 (n := d + 5) (by omega) s x
 have k1 := r241 (n := d + 5) (by omega) s x h
 have k2 := r244 (n := d + 5) (by omega) s x
 have k3 := r245 (n := d + 5) (by omega) s x h
 have k4 := r246 (n := d + 5) (by omega) s x
 have k5 := r247 (n := d + 5) (by omega) s x
 have k6 := r248 (n := d + 5) (by omega) s x
 have l0 : ([] : List (List UInt8)).length ≤ 0 := by simp
 have l1 : (addR ([] : List (List UInt8)) (decide (x.tick < s.tick)) wTick).length ≤ 1 := by have := addR_le ([] : List (List UInt8)) (decide (x.tick < s.tick)) wTick; omega
 have l2 : (addR (addR ([] : List (List UInt8)) (decide (x.tick < s.tick)) wTick) (stB s x) wState).length ≤ 2 := by have := addR_le (addR ([] : List (List UInt8)) (decide (x.tick < s.tick)) wTick) (stB s x) wState; omega
 have l3 : (addR (addR (addR ([] : List (List UInt8)) (decide (x.tick < s.tick)) wTick) (stB s x) wState) (armB s x) wArmed).length ≤ 3 := by have := addR_le (addR (addR ([] : List (List UInt8)) (decide (x.tick < s.tick)) wTick) (stB s x) wState) (armB s x) wArmed; omega
 have l4 : (addR (addR (addR (addR ([] : List (List UInt8)) (decide (x.tick < s.tick)) wTick) (stB s x) wState) (armB s x) wArmed) (dooB s x) wDoor).length ≤ 4 := by have := addR_le (addR (addR (addR ([] : List (List UInt8)) (decide (x.tick < s.tick)) wTick) (stB s x) wState) (armB s x) wArmed) (dooB s x) wDoor; omega
 have l5 : (addR (addR (addR (addR (addR ([] : List (List UInt8)) (decide (x.tick < s.tick)) wTick) (stB s x) wState) (armB s x) wArmed) (dooB s x) wDoor) (peoB s x) wPeople).length ≤ 5 := by have := addR_le (addR (addR (addR (addR ([] : List (List UInt8)) (decide (x.tick < s.tick)) wTick) (stB s x) wState) (armB s x) wArmed) (dooB s x) wDoor) (peoB s x) wPeople; omega
 have l6 : (addR (addR (addR (addR (addR (addR ([] : List (List UInt8)) (decide (x.tick < s.tick)) wTick) (stB s x) wState) (armB s x) wArmed) (dooB s x) wDoor) (peoB s x) wPeople) (keyR s x) wKey).length ≤ 6 := by have := addR_le (addR (addR (addR (addR (addR ([] : List (List UInt8)) (decide (x.tick < s.tick)) wTick) (stB s x) wState) (armB s x) wArmed) (dooB s x) wDoor) (peoB s x) wPeople) (keyR s x) wKey; omega
 have s0 := s90_0 s x _ k0 ([] : List (List UInt8)) (by omega)
 have s1 := s90_1 s x _ k1 (addR ([] : List (List UInt8)) (decide (x.tick < s.tick)) wTick) (by omega)
 have s2 := s90_2 s x _ k2 (addR (addR ([] : List (List UInt8)) (decide (x.tick < s.tick)) wTick) (stB s x) wState) (by omega)
 have s3 := s90_3 s x _ k3 (addR (addR (addR ([] : List (List UInt8)) (decide (x.tick < s.tick)) wTick) (stB s x) wState) (armB s x) wArmed) (by omega)
 have s4 := s90_4 s x _ k4 (addR (addR (addR (addR ([] : List (List UInt8)) (decide (x.tick < s.tick)) wTick) (stB s x) wState) (armB s x) wArmed) (dooB s x) wDoor) (by omega)
 have s5 := s90_5 s x _ k5 (addR (addR (addR (addR (addR ([] : List (List UInt8)) (decide (x.tick < s.tick)) wTick) (stB s x) wState) (armB s x) wArmed) (dooB s x) wDoor) (peoB s x) wPeople) (by omega)
 have s6 := s90_6 s x _ k6 (addR (addR (addR (addR (addR (addR ([] : List (List UInt8)) (decide (x.tick < s.tick)) wTick) (stB s x) wState) (armB s x) wArmed) (dooB s x) wDoor) (peoB s x) wPeople) (keyR s x) wKey) (by omega)
 have hr : reaL s x = (addR (addR (addR (addR (addR (addR (addR ([] : List (List UInt8)) (decide (x.tick < s.tick)) wTick) (stB s x) wState) (armB s x) wArmed) (dooB s x) wDoor) (peoB s x) wPeople) (keyR s x) wKey) (waiB s x) wWait) := rfl
 rw [hr]
 generalize (addR (addR (addR (addR (addR (addR (addR ([] : List (List UInt8)) (decide (x.tick < s.tick)) wTick) (stB s x) wState) (armB s x) wArmed) (dooB s x) wDoor) (peoB s x) wPeople) (keyR s x) wKey) (waiB s x) wWait) = L at *
 have hG : G0 1 = some g1 := rfl
 have s7 : loopS (evFn F C0 G0 (d + 5)) C0 G0 0 true [2, 3, 5, 8, 9] c90L0 (S90 s x L 7) = .ret (.exit 0, ⟨(S90 s x L 7).env ++ [(10, bl false)], (S90 s x L 7).sto⟩) := by
  simp -implicitDefEqProofs [loopS_eq, c90L0, S90, g1, sc]
 have hst : loopN (loopS (evFn F C0 G0 (d + 5)) C0 G0 0 true [2, 3, 5, 8, 9] c90L0) loopFuel (S90 s x [] 0) = .ret (.exit 0, ⟨(S90 s x L 7).env ++ [(10, bl false)], (S90 s x L 7).sto⟩) := by
  rw [loopN_on' s0 (by simp [loopFuel]), loopN_on' s1 (by simp [loopFuel]), loopN_on' s2 (by simp [loopFuel]), loopN_on' s3 (by simp [loopFuel]), loopN_on' s4 (by simp [loopFuel]), loopN_on' s5 (by simp [loopFuel]), loopN_on' s6 (by simp [loopFuel]), loopN_end s7 (by simp) (by simp [loopFuel])]
 obtain ⟨t, kk, m, a, b, c⟩ := x
 obtain ⟨st, o0, o1, o2, o3, o4, o5, o6, o7, y0, y1, pp, ar, sh, ad⟩ := s
 have hQ : (pStr L).length = L.length := by simp
 simp only [S90, g1, sc, List.map_cons, List.map_nil, pStr_nil, List.length_nil, iv, bl, List.cons_append, List.nil_append] at hst
 generalize pStr L = Q at *
 simp -implicitDefEqProofs [c90, hG, g1]
 rw [hst]
 simp -implicitDefEqProofs [hQ]
end Fw
