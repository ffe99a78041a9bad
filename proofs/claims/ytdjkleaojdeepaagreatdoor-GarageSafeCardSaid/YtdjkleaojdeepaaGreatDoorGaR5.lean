/- Several texts in one: steps of the proof, no condition of their own. -/
import Derived.Test.YtdjkleaojdeepaaGreatDoorGaH9
import Derived.KernelRfl
attribute [local irreducible] Fw.evCode Fw.evOps Fw.evOpsD Fw.evOper Fw.evOperD Fw.evOp Fw.evFn Fw.loopN Fw.T.All Fw.T.bind Fw.callPure Fw.callOp Fw.opsK Fw.opsDK Fw.restK Fw.seqK Fw.blockK Fw.loopS Fw.setK Fw.setQ Fw.giveK Fw.scalK Fw.gcK Fw.finish Fw.finS Fw.rfunK Fw.yldK Fw.yldB Fw.loopK
section
set_option maxHeartbeats 16000000
namespace Fw
open Go

structure StaI where
 tick : Int
 o0 : Bool
 o1 : Bool
 o2 : Bool
 o3 : Bool
 o4 : Bool
 o5 : Bool
 o6 : Bool
 o7 : Bool
 k0 : Bool
 k1 : Bool
 people : Int
 armed : Bool
 shot : Int
 adm : Int
abbrev bl (b : Bool) : AVal := .p (.bool b)
def sc (s : StaI) : List PVal := [.int .i64 s.tick, .bool s.o0, .bool s.o1, .bool s.o2, .bool s.o3, .bool s.o4, .bool s.o5, .bool s.o6, .bool s.o7, .bool s.k0, .bool s.k1, .int .i64 s.people, .bool s.armed, .int .i64 s.shot, .int .i64 s.adm]
abbrev sa (s : StaI) : AVal := .agg [iv s.tick, bl s.o0, bl s.o1, bl s.o2, bl s.o3, bl s.o4, bl s.o5, bl s.o6, bl s.o7, bl s.k0, bl s.k1, iv s.people, bl s.armed, iv s.shot, iv s.adm]
def opn (s : StaI) (n : Int) : Bool := if n = 0 then s.o0 else if n = 1 then s.o1 else if n = 2 then s.o2 else if n = 3 then s.o3 else if n = 4 then s.o4 else if n = 5 then s.o5 else if n = 6 then s.o6 else s.o7
def key (s : StaI) (n : Int) : Bool := if n = 0 then s.k0 else s.k1
def setO (s : StaI) (n : Int) (b : Bool) : StaI := if n = 0 then { s with o0 := b } else if n = 1 then { s with o1 := b } else if n = 2 then { s with o2 := b } else if n = 3 then { s with o3 := b } else if n = 4 then { s with o4 := b } else if n = 5 then { s with o5 := b } else if n = 6 then { s with o6 := b } else { s with o7 := b }
def setY (s : StaI) (n : Int) (b : Bool) : StaI := if n = 0 then { s with k0 := b } else { s with k1 := b }
def anyO (s : StaI) : Bool := s.o0 || (s.o1 || (s.o2 || (s.o3 || (s.o4 || (s.o5 || (s.o6 || s.o7))))))
def stB (s : StaI) (x : ActI) : Bool :=
 if x.kind = kOpen then opn s x.num else if x.kind = kClose then !opn s x.num else if x.kind = kInsert then key s x.num else if x.kind = kRemove then !key s x.num
 else if x.kind = kEnter then decide (100 ≤ s.people) else if x.kind = kLeave then s.people == 0 else if x.kind = kArm then s.armed else if x.kind = kDisarm then !s.armed else if x.kind = kShoot then !s.armed else s.shot == -1
def armB (s : StaI) (x : ActI) : Bool := s.armed && decide (x.kind ∈ [kOpen, kRemove, kEnter])
def dooB (s : StaI) (x : ActI) : Bool := (decide (x.kind ∈ [kEnter, kLeave]) && !opn s x.num) || (decide (x.kind ∈ [kArm]) && anyO s)
def peoB (s : StaI) (x : ActI) : Bool := decide (x.kind ∈ [kArm]) && decide (0 < s.people)
def keyR (s : StaI) (x : ActI) : Bool := decide (x.kind ∈ [kArm]) && (!s.k0 || !s.k1)
def admB (s : StaI) (t : Int) : Bool := (s.adm != -1) && decide (s.adm ≤ t)
def waiB (s : StaI) (x : ActI) : Bool := decide (x.kind ∈ [kOpen, kEnter, kArm]) && !admB s x.tick
def NumOk (x : ActI) : Prop := x.kind ∈ kindL ∧ (doorB x.kind = true → 0 ≤ x.num ∧ x.num < 8) ∧ (keyB x.kind = true → 0 ≤ x.num ∧ x.num < 2)
theorem eight {m : Int} (h : 0 ≤ m ∧ m < 8) : m = 0 ∨ m = 1 ∨ m = 2 ∨ m = 3 ∨ m = 4 ∨ m = 5 ∨ m = 6 ∨ m = 7 := by omega
theorem two {m : Int} (h : 0 ≤ m ∧ m < 2) : m = 0 ∨ m = 1 := by omega

theorem st218 {n : Nat} (hn : 1 ≤ n) (s : StaI) (x : ActI) (h : 0 ≤ x.num ∧ x.num < 8) : RUN n 218 [sa s, aa x] = .ret (bl (opn s x.num)) := by
 obtain ⟨d, rfl⟩ : ∃ d, n = d + 1 := ⟨n - 1, by omega⟩
 rw [RUN, call_eq fe218 _ rfl]
 obtain ⟨t, k, m, a, b, c⟩ := x
 obtain ⟨st, o0, o1, o2, o3, o4, o5, o6, o7, k0, k1, pp, ar, sh, ad⟩ := s
 rcases eight h with rfl | rfl | rfl | rfl | rfl | rfl | rfl | rfl <;> simp -implicitDefEqProofs [c218, opn]

theorem st220 {n : Nat} (hn : 1 ≤ n) (s : StaI) (x : ActI) (h : 0 ≤ x.num ∧ x.num < 8) : RUN n 220 [sa s, aa x] = .ret (bl (!opn s x.num)) := by
 obtain ⟨d, rfl⟩ : ∃ d, n = d + 1 := ⟨n - 1, by omega⟩
 rw [RUN, call_eq fe220 _ rfl]
 obtain ⟨t, k, m, a, b, c⟩ := x
 obtain ⟨st, o0, o1, o2, o3, o4, o5, o6, o7, k0, k1, pp, ar, sh, ad⟩ := s
 rcases eight h with rfl | rfl | rfl | rfl | rfl | rfl | rfl | rfl <;> simp -implicitDefEqProofs [c220, opn]

theorem st223 {n : Nat} (hn : 1 ≤ n) (s : StaI) (x : ActI) (h : 0 ≤ x.num ∧ x.num < 2) : RUN n 223 [sa s, aa x] = .ret (bl (key s x.num)) := by
 obtain ⟨d, rfl⟩ : ∃ d, n = d + 1 := ⟨n - 1, by omega⟩
 rw [RUN, call_eq fe223 _ rfl]
 obtain ⟨t, k, m, a, b, c⟩ := x
 obtain ⟨st, o0, o1, o2, o3, o4, o5, o6, o7, k0, k1, pp, ar, sh, ad⟩ := s
 rcases two h with rfl | rfl <;> simp -implicitDefEqProofs [c223, key]

theorem st225 {n : Nat} (hn : 1 ≤ n) (s : StaI) (x : ActI) (h : 0 ≤ x.num ∧ x.num < 2) : RUN n 225 [sa s, aa x] = .ret (bl (!key s x.num)) := by
 obtain ⟨d, rfl⟩ : ∃ d, n = d + 1 := ⟨n - 1, by omega⟩
 rw [RUN, call_eq fe225 _ rfl]
 obtain ⟨t, k, m, a, b, c⟩ := x
 obtain ⟨st, o0, o1, o2, o3, o4, o5, o6, o7, k0, k1, pp, ar, sh, ad⟩ := s
 rcases two h with rfl | rfl <;> simp -implicitDefEqProofs [c225, key]

theorem st227 {n : Nat} (hn : 1 ≤ n) (s : StaI) (x : ActI) : RUN n 227 [sa s, aa x] = .ret (bl (decide (100 ≤ s.people))) := by
 obtain ⟨d, rfl⟩ : ∃ d, n = d + 1 := ⟨n - 1, by omega⟩
 rw [RUN, call_eq fe227 _ rfl]
 obtain ⟨t, k, m, a, b, c⟩ := x
 obtain ⟨st, o0, o1, o2, o3, o4, o5, o6, o7, k0, k1, pp, ar, sh, ad⟩ := s
 simp -implicitDefEqProofs [c227]

theorem st229 {n : Nat} (hn : 1 ≤ n) (s : StaI) (x : ActI) : RUN n 229 [sa s, aa x] = .ret (bl (s.people == 0)) := by
 obtain ⟨d, rfl⟩ : ∃ d, n = d + 1 := ⟨n - 1, by omega⟩
 rw [RUN, call_eq fe229 _ rfl]
 obtain ⟨t, k, m, a, b, c⟩ := x
 obtain ⟨st, o0, o1, o2, o3, o4, o5, o6, o7, k0, k1, pp, ar, sh, ad⟩ := s
 simp -implicitDefEqProofs [c229]

theorem st232 {n : Nat} (hn : 1 ≤ n) (s : StaI) (x : ActI) : RUN n 232 [sa s, aa x] = .ret (bl (s.armed)) := by
 obtain ⟨d, rfl⟩ : ∃ d, n = d + 1 := ⟨n - 1, by omega⟩
 rw [RUN, call_eq fe232 _ rfl]
 obtain ⟨t, k, m, a, b, c⟩ := x
 obtain ⟨st, o0, o1, o2, o3, o4, o5, o6, o7, k0, k1, pp, ar, sh, ad⟩ := s
 simp -implicitDefEqProofs [c232]

theorem st234 {n : Nat} (hn : 1 ≤ n) (s : StaI) (x : ActI) : RUN n 234 [sa s, aa x] = .ret (bl (!s.armed)) := by
 obtain ⟨d, rfl⟩ : ∃ d, n = d + 1 := ⟨n - 1, by omega⟩
 rw [RUN, call_eq fe234 _ rfl]
 obtain ⟨t, k, m, a, b, c⟩ := x
 obtain ⟨st, o0, o1, o2, o3, o4, o5, o6, o7, k0, k1, pp, ar, sh, ad⟩ := s
 simp -implicitDefEqProofs [c234]

theorem st236 {n : Nat} (hn : 1 ≤ n) (s : StaI) (x : ActI) : RUN n 236 [sa s, aa x] = .ret (bl (!s.armed)) := by
 obtain ⟨d, rfl⟩ : ∃ d, n = d + 1 := ⟨n - 1, by omega⟩
 rw [RUN, call_eq fe236 _ rfl]
 obtain ⟨t, k, m, a, b, c⟩ := x
 obtain ⟨st, o0, o1, o2, o3, o4, o5, o6, o7, k0, k1, pp, ar, sh, ad⟩ := s
 simp -implicitDefEqProofs [c236]

theorem st238 {n : Nat} (hn : 1 ≤ n) (s : StaI) (x : ActI) : RUN n 238 [sa s, aa x] = .ret (bl (s.shot == -1)) := by
 obtain ⟨d, rfl⟩ : ∃ d, n = d + 1 := ⟨n - 1, by omega⟩
 rw [RUN, call_eq fe238 _ rfl]
 obtain ⟨t, k, m, a, b, c⟩ := x
 obtain ⟨st, o0, o1, o2, o3, o4, o5, o6, o7, k0, k1, pp, ar, sh, ad⟩ := s
 simp -implicitDefEqProofs [c238]

theorem r240 {n : Nat} (hn : 1 ≤ n) (s : StaI) (x : ActI) : RUN n 240 [sa s, aa x] = .ret (bl (decide (x.tick < s.tick))) := by
 obtain ⟨d, rfl⟩ : ∃ d, n = d + 1 := ⟨n - 1, by omega⟩
 rw [RUN, call_eq fe240 _ rfl]
 obtain ⟨t, k, m, a, b, c⟩ := x
 obtain ⟨st, o0, o1, o2, o3, o4, o5, o6, o7, k0, k1, pp, ar, sh, ad⟩ := s
 simp -implicitDefEqProofs [c240]
theorem open214 {n : Nat} (hn : 1 ≤ n) (s : StaI) : RUN n 214 [sa s] = .ret (bl (anyO s)) := by
 obtain ⟨d, rfl⟩ : ∃ d, n = d + 1 := ⟨n - 1, by omega⟩
 rw [RUN, call_eq fe214 _ rfl]
 obtain ⟨st, o0, o1, o2, o3, o4, o5, o6, o7, k0, k1, pp, ar, sh, ad⟩ := s
 simp -implicitDefEqProofs [c214, anyO]
theorem admits249 {n : Nat} (hn : 1 ≤ n) (s : StaI) (t : Int) : RUN n 249 [sa s, iv t] = .ret (bl (admB s t)) := by
 obtain ⟨d, rfl⟩ : ∃ d, n = d + 1 := ⟨n - 1, by omega⟩
 rw [RUN, call_eq fe249 _ rfl]
 obtain ⟨st, o0, o1, o2, o3, o4, o5, o6, o7, k0, k1, pp, ar, sh, ad⟩ := s
 cases h1 : (ad != -1) <;> simp -implicitDefEqProofs [c249, admB, h1]

theorem r244 {n : Nat} (hn : 5 ≤ n) (s : StaI) (x : ActI) : RUN n 244 [sa s, aa x] = .ret (bl (armB s x)) := by
 obtain ⟨d, rfl⟩ : ∃ d, n = d + 5 := ⟨n - 5, by omega⟩
 rw [RUN, call_eq fe244 _ rfl]
 have ki : RUN (d + 4) 93 [aa x, .p (.sl [.str kOpen, .str kRemove, .str kEnter] 3)] = .ret (bl (decide (x.kind ∈ [kOpen, kRemove, kEnter]))) := is93 (by omega) x [kOpen, kRemove, kEnter] (by simp)
 unfold armB
 generalize decide (x.kind ∈ [kOpen, kRemove, kEnter]) = e at *
 obtain ⟨t, k, m, a, b, c⟩ := x
 obtain ⟨st, o0, o1, o2, o3, o4, o5, o6, o7, k0, k1, pp, ar, sh, ad⟩ := s
 simp only at *
 cases ar <;> simp -implicitDefEqProofs [c244, ki]

theorem r245 {n : Nat} (hn : 5 ≤ n) (s : StaI) (x : ActI) (h : NumOk x) : RUN n 245 [sa s, aa x] = .ret (bl (dooB s x)) := by
 obtain ⟨d, rfl⟩ : ∃ d, n = d + 5 := ⟨n - 5, by omega⟩
 rw [RUN, call_eq fe245 _ rfl]
 have ki : RUN (d + 4) 93 [aa x, .p (.sl [.str kEnter, .str kLeave] 2)] = .ret (bl (decide (x.kind ∈ [kEnter, kLeave]))) := is93 (by omega) x [kEnter, kLeave] (by simp)
 have ka : RUN (d + 4) 93 [aa x, .p (.sl [.str kArm] 1)] = .ret (bl (decide (x.kind ∈ [kArm]))) := is93 (by omega) x [kArm] (by simp)
 have ko := open214 (n := d + 4) (by omega) s
 have hb : decide (x.kind ∈ [kEnter, kLeave]) = true → 0 ≤ x.num ∧ x.num < 8 := fun e => h.2.1 (by
  simp only [decide_eq_true_eq, List.mem_cons, List.not_mem_nil, or_false] at e
  rcases e with e | e <;> rw [e] <;> decide)
 unfold dooB
 generalize decide (x.kind ∈ [kEnter, kLeave]) = e at *
 generalize decide (x.kind ∈ [kArm]) = f at *
 generalize anyO s = g at *
 obtain ⟨t, k, m, a, b, c⟩ := x
 obtain ⟨st, o0, o1, o2, o3, o4, o5, o6, o7, k0, k1, pp, ar, sh, ad⟩ := s
 simp only at *
 cases e with
 | false => cases f <;> simp -implicitDefEqProofs [c245, ki, ka, ko]
 | true =>
  rcases eight (hb rfl) with rfl | rfl | rfl | rfl | rfl | rfl | rfl | rfl
  ·cases o0 <;> cases f <;> simp -implicitDefEqProofs [c245, ki, ka, ko, opn]
  ·cases o1 <;> cases f <;> simp -implicitDefEqProofs [c245, ki, ka, ko, opn]
  ·cases o2 <;> cases f <;> simp -implicitDefEqProofs [c245, ki, ka, ko, opn]
  ·cases o3 <;> cases f <;> simp -implicitDefEqProofs [c245, ki, ka, ko, opn]
  ·cases o4 <;> cases f <;> simp -implicitDefEqProofs [c245, ki, ka, ko, opn]
  ·cases o5 <;> cases f <;> simp -implicitDefEqProofs [c245, ki, ka, ko, opn]
  ·cases o6 <;> cases f <;> simp -implicitDefEqProofs [c245, ki, ka, ko, opn]
  ·cases o7 <;> cases f <;> simp -implicitDefEqProofs [c245, ki, ka, ko, opn]

theorem r246 {n : Nat} (hn : 5 ≤ n) (s : StaI) (x : ActI) : RUN n 246 [sa s, aa x] = .ret (bl (peoB s x)) := by
 obtain ⟨d, rfl⟩ : ∃ d, n = d + 5 := ⟨n - 5, by omega⟩
 rw [RUN, call_eq fe246 _ rfl]
 have ki : RUN (d + 4) 93 [aa x, .p (.sl [.str kArm] 1)] = .ret (bl (decide (x.kind ∈ [kArm]))) := is93 (by omega) x [kArm] (by simp)
 unfold peoB
 generalize decide (x.kind ∈ [kArm]) = e at *
 obtain ⟨t, k, m, a, b, c⟩ := x
 obtain ⟨st, o0, o1, o2, o3, o4, o5, o6, o7, k0, k1, pp, ar, sh, ad⟩ := s
 simp only at *
 cases e <;> simp -implicitDefEqProofs [c246, ki]

theorem r247 {n : Nat} (hn : 5 ≤ n) (s : StaI) (x : ActI) : RUN n 247 [sa s, aa x] = .ret (bl (keyR s x)) := by
 obtain ⟨d, rfl⟩ : ∃ d, n = d + 5 := ⟨n - 5, by omega⟩
 rw [RUN, call_eq fe247 _ rfl]
 have ki : RUN (d + 4) 93 [aa x, .p (.sl [.str kArm] 1)] = .ret (bl (decide (x.kind ∈ [kArm]))) := is93 (by omega) x [kArm] (by simp)
 unfold keyR
 generalize decide (x.kind ∈ [kArm]) = e at *
 obtain ⟨t, k, m, a, b, c⟩ := x
 obtain ⟨st, o0, o1, o2, o3, o4, o5, o6, o7, k0, k1, pp, ar, sh, ad⟩ := s
 simp only at *
 cases e <;> simp -implicitDefEqProofs [c247, ki]

theorem r248 {n : Nat} (hn : 5 ≤ n) (s : StaI) (x : ActI) : RUN n 248 [sa s, aa x] = .ret (bl (waiB s x)) := by
 obtain ⟨d, rfl⟩ : ∃ d, n = d + 5 := ⟨n - 5, by omega⟩
 rw [RUN, call_eq fe248 _ rfl]
 have ki : RUN (d + 4) 93 [aa x, .p (.sl [.str kOpen, .str kEnter, .str kArm] 3)] = .ret (bl (decide (x.kind ∈ [kOpen, kEnter, kArm]))) := is93 (by omega) x [kOpen, kEnter, kArm] (by simp)
 have ko := admits249 (n := d + 4) (by omega) s x.tick
 unfold waiB
 generalize admB s x.tick = f at *
 generalize decide (x.kind ∈ [kOpen, kEnter, kArm]) = e at *
 obtain ⟨t, k, m, a, b, c⟩ := x
 obtain ⟨st, o0, o1, o2, o3, o4, o5, o6, o7, k0, k1, pp, ar, sh, ad⟩ := s
 simp only at *
 cases e <;> simp -implicitDefEqProofs [c248, ki, ko]

end Fw
end

section
set_option maxHeartbeats 16000000
namespace Fw
open Go

abbrev wTick : List UInt8 := [116, 105, 99, 107]
abbrev wState : List UInt8 := [115, 116, 97, 116, 101]
abbrev wArmed : List UInt8 := [97, 114, 109, 101, 100]
abbrev wDoor : List UInt8 := [100, 111, 111, 114]
abbrev wPeople : List UInt8 := [112, 101, 111, 112, 108, 101]
abbrev wKey : List UInt8 := [107, 101, 121]
abbrev wWait : List UInt8 := [119, 97, 105, 116]
def addR (L : List (List UInt8)) (b : Bool) (w : List UInt8) : List (List UInt8) := if b = true then L ++ [w] else L
theorem addR_le (L : List (List UInt8)) (b : Bool) (w : List UInt8) : (addR L b w).length ≤ L.length + 1 := by
 unfold addR; split <;> simp
def reaL (s : StaI) (x : ActI) : List (List UInt8) :=
 addR (addR (addR (addR (addR (addR (addR [] (decide (x.tick < s.tick)) wTick) (stB s x) wState) (armB s x) wArmed) (dooB s x) wDoor) (peoB s x) wPeople) (keyR s x) wKey) (waiB s x) wWait
theorem numOk_cases {x : ActI} (h : NumOk x) : x.kind = kOpen ∨ x.kind = kClose ∨ x.kind = kInsert ∨ x.kind = kRemove ∨ x.kind = kEnter ∨ x.kind = kLeave ∨ x.kind = kArm ∨ x.kind = kDisarm ∨ x.kind = kShoot ∨ x.kind = kMeasure := by
 simpa only [kindL, List.mem_cons, List.not_mem_nil, or_false] using h.1

theorem r241 {n : Nat} (hn : 5 ≤ n) (s : StaI) (x : ActI) (h : NumOk x) : RUN n 241 [sa s, aa x] = .ret (bl (stB s x)) := by
 obtain ⟨d, rfl⟩ : ∃ d, n = d + 5 := ⟨n - 5, by omega⟩
 rw [RUN, call_eq fe241 _ rfl]
 have hk := numOk_cases h
 have hG : G0 0 = some g0 := rfl
 obtain ⟨t, k, m, a, b, c⟩ := x
 simp only at hk
 rcases hk with rfl | rfl | rfl | rfl | rfl | rfl | rfl | rfl | rfl | rfl
 ·have ki : RUN (d + 4) 242 [.p (.sl g0 10), .p (.clo 243 [] [.pp [.int .i64 t, .str kOpen, .int .i64 m, .int .i64 a, .int .i64 b, .int .i64 c]])] = .ret (iv 0) := by kernel_rfl
  have ks := st218 (n := d + 4) (by omega) s ⟨t, kOpen, m, a, b, c⟩ (h.2.1 (show doorB kOpen = true by decide))
  have hs : stB s ⟨t, kOpen, m, a, b, c⟩ = (opn s m) := rfl
  rw [hs]
  try simp only at ks
  generalize (opn s m) = z at *
  obtain ⟨st, o0, o1, o2, o3, o4, o5, o6, o7, k0, k1, pp, ar, sh, ad⟩ := s
  simp only [g0] at ki ks ⊢
  simp -implicitDefEqProofs [c241, ki, ks, hG, g0]
 ·have ki : RUN (d + 4) 242 [.p (.sl g0 10), .p (.clo 243 [] [.pp [.int .i64 t, .str kClose, .int .i64 m, .int .i64 a, .int .i64 b, .int .i64 c]])] = .ret (iv 1) := by kernel_rfl
  have ks := st220 (n := d + 4) (by omega) s ⟨t, kClose, m, a, b, c⟩ (h.2.1 (show doorB kClose = true by decide))
  have hs : stB s ⟨t, kClose, m, a, b, c⟩ = (!opn s m) := rfl
  rw [hs]
  try simp only at ks
  generalize (!opn s m) = z at *
  obtain ⟨st, o0, o1, o2, o3, o4, o5, o6, o7, k0, k1, pp, ar, sh, ad⟩ := s
  simp only [g0] at ki ks ⊢
  simp -implicitDefEqProofs [c241, ki, ks, hG, g0]
 ·have ki : RUN (d + 4) 242 [.p (.sl g0 10), .p (.clo 243 [] [.pp [.int .i64 t, .str kInsert, .int .i64 m, .int .i64 a, .int .i64 b, .int .i64 c]])] = .ret (iv 2) := by kernel_rfl
  have ks := st223 (n := d + 4) (by omega) s ⟨t, kInsert, m, a, b, c⟩ (h.2.2 (show keyB kInsert = true by decide))
  have hs : stB s ⟨t, kInsert, m, a, b, c⟩ = (key s m) := rfl
  rw [hs]
  try simp only at ks
  generalize (key s m) = z at *
  obtain ⟨st, o0, o1, o2, o3, o4, o5, o6, o7, k0, k1, pp, ar, sh, ad⟩ := s
  simp only [g0] at ki ks ⊢
  simp -implicitDefEqProofs [c241, ki, ks, hG, g0]
 ·have ki : RUN (d + 4) 242 [.p (.sl g0 10), .p (.clo 243 [] [.pp [.int .i64 t, .str kRemove, .int .i64 m, .int .i64 a, .int .i64 b, .int .i64 c]])] = .ret (iv 3) := by kernel_rfl
  have ks := st225 (n := d + 4) (by omega) s ⟨t, kRemove, m, a, b, c⟩ (h.2.2 (show keyB kRemove = true by decide))
  have hs : stB s ⟨t, kRemove, m, a, b, c⟩ = (!key s m) := rfl
  rw [hs]
  try simp only at ks
  generalize (!key s m) = z at *
  obtain ⟨st, o0, o1, o2, o3, o4, o5, o6, o7, k0, k1, pp, ar, sh, ad⟩ := s
  simp only [g0] at ki ks ⊢
  simp -implicitDefEqProofs [c241, ki, ks, hG, g0]
 ·have ki : RUN (d + 4) 242 [.p (.sl g0 10), .p (.clo 243 [] [.pp [.int .i64 t, .str kEnter, .int .i64 m, .int .i64 a, .int .i64 b, .int .i64 c]])] = .ret (iv 4) := by kernel_rfl
  have ks := st227 (n := d + 4) (by omega) s ⟨t, kEnter, m, a, b, c⟩
  have hs : stB s ⟨t, kEnter, m, a, b, c⟩ = (decide (100 ≤ s.people)) := rfl
  rw [hs]
  try simp only at ks
  generalize (decide (100 ≤ s.people)) = z at *
  obtain ⟨st, o0, o1, o2, o3, o4, o5, o6, o7, k0, k1, pp, ar, sh, ad⟩ := s
  simp only [g0] at ki ks ⊢
  simp -implicitDefEqProofs [c241, ki, ks, hG, g0]
 ·have ki : RUN (d + 4) 242 [.p (.sl g0 10), .p (.clo 243 [] [.pp [.int .i64 t, .str kLeave, .int .i64 m, .int .i64 a, .int .i64 b, .int .i64 c]])] = .ret (iv 5) := by kernel_rfl
  have ks := st229 (n := d + 4) (by omega) s ⟨t, kLeave, m, a, b, c⟩
  have hs : stB s ⟨t, kLeave, m, a, b, c⟩ = (s.people == 0) := rfl
  rw [hs]
  try simp only at ks
  generalize (s.people == 0) = z at *
  obtain ⟨st, o0, o1, o2, o3, o4, o5, o6, o7, k0, k1, pp, ar, sh, ad⟩ := s
  simp only [g0] at ki ks ⊢
  simp -implicitDefEqProofs [c241, ki, ks, hG, g0]
 ·have ki : RUN (d + 4) 242 [.p (.sl g0 10), .p (.clo 243 [] [.pp [.int .i64 t, .str kArm, .int .i64 m, .int .i64 a, .int .i64 b, .int .i64 c]])] = .ret (iv 6) := by kernel_rfl
  have ks := st232 (n := d + 4) (by omega) s ⟨t, kArm, m, a, b, c⟩
  have hs : stB s ⟨t, kArm, m, a, b, c⟩ = (s.armed) := rfl
  rw [hs]
  try simp only at ks
  generalize (s.armed) = z at *
  obtain ⟨st, o0, o1, o2, o3, o4, o5, o6, o7, k0, k1, pp, ar, sh, ad⟩ := s
  simp only [g0] at ki ks ⊢
  simp -implicitDefEqProofs [c241, ki, ks, hG, g0]
 ·have ki : RUN (d + 4) 242 [.p (.sl g0 10), .p (.clo 243 [] [.pp [.int .i64 t, .str kDisarm, .int .i64 m, .int .i64 a, .int .i64 b, .int .i64 c]])] = .ret (iv 7) := by kernel_rfl
  have ks := st234 (n := d + 4) (by omega) s ⟨t, kDisarm, m, a, b, c⟩
  have hs : stB s ⟨t, kDisarm, m, a, b, c⟩ = (!s.armed) := rfl
  rw [hs]
  try simp only at ks
  generalize (!s.armed) = z at *
  obtain ⟨st, o0, o1, o2, o3, o4, o5, o6, o7, k0, k1, pp, ar, sh, ad⟩ := s
  simp only [g0] at ki ks ⊢
  simp -implicitDefEqProofs [c241, ki, ks, hG, g0]
 ·have ki : RUN (d + 4) 242 [.p (.sl g0 10), .p (.clo 243 [] [.pp [.int .i64 t, .str kShoot, .int .i64 m, .int .i64 a, .int .i64 b, .int .i64 c]])] = .ret (iv 8) := by kernel_rfl
  have ks := st236 (n := d + 4) (by omega) s ⟨t, kShoot, m, a, b, c⟩
  have hs : stB s ⟨t, kShoot, m, a, b, c⟩ = (!s.armed) := rfl
  rw [hs]
  try simp only at ks
  generalize (!s.armed) = z at *
  obtain ⟨st, o0, o1, o2, o3, o4, o5, o6, o7, k0, k1, pp, ar, sh, ad⟩ := s
  simp only [g0] at ki ks ⊢
  simp -implicitDefEqProofs [c241, ki, ks, hG, g0]
 ·have ki : RUN (d + 4) 242 [.p (.sl g0 10), .p (.clo 243 [] [.pp [.int .i64 t, .str kMeasure, .int .i64 m, .int .i64 a, .int .i64 b, .int .i64 c]])] = .ret (iv 9) := by kernel_rfl
  have ks := st238 (n := d + 4) (by omega) s ⟨t, kMeasure, m, a, b, c⟩
  have hs : stB s ⟨t, kMeasure, m, a, b, c⟩ = (s.shot == -1) := rfl
  rw [hs]
  try simp only at ks
  generalize (s.shot == -1) = z at *
  obtain ⟨st, o0, o1, o2, o3, o4, o5, o6, o7, k0, k1, pp, ar, sh, ad⟩ := s
  simp only [g0] at ki ks ⊢
  simp -implicitDefEqProofs [c241, ki, ks, hG, g0]

def S90 (s : StaI) (x : ActI) (L : List (List UInt8)) (i : Int) : St := ⟨[(2, .ptr 0 0 0), (3, .ptr 1 0 0), (5, .sl 2 L.length 0 L.length), (8, .agg (g1.map .p)), (9, iv i)], [(2, .arr (pStr L) L.length 1), (1, .arr [.int .i64 x.tick, .str x.kind, .int .i64 x.num, .int .i64 x.a, .int .i64 x.b, .int .i64 x.c] 0 1), (0, .arr (sc s) 0 1)]⟩

theorem s90_0 {d : Nat} (s : StaI) (x : ActI) (z : Bool) (k : RUN d 240 [sa s, aa x] = .ret (bl z)) (L : List (List UInt8)) (hL : L.length ≤ 7) :
  ∃ st1, loopS (evFn F C0 G0 d) C0 G0 0 true [2, 3, 5, 8, 9] c90L0 (S90 s x L 0) = .ret (.normal, st1) ∧ loopS (evFn F C0 G0 d) C0 G0 0 true [2, 3, 5, 8, 9] c90L0 st1 = loopS (evFn F C0 G0 d) C0 G0 0 true [2, 3, 5, 8, 9] c90L0 (S90 s x (addR L z wTick) 1) := by
 have hlim : L.length + 1 ≤ lim := by simp only [lim]; omega
 have hQ : (pStr L).length = L.length := by simp
 have e1 : pStr (L ++ [wTick]) = pStr L ++ [.str wTick] := (pStr_snoc _ _).symm
 have e2 : (L ++ [wTick]).length = L.length + 1 := by simp
 have w1 : IntKind.i64.wrap 1 = 1 := by decide
 obtain ⟨t, kk, m, a, b, c⟩ := x
 obtain ⟨st, o0, o1, o2, o3, o4, o5, o6, o7, k0, k1, pp, ar, sh, ad⟩ := s
 cases z with
 | false =>
  simp only [S90, addR, Bool.false_eq_true, if_false, sc, g1, List.map_cons, List.map_nil]
  generalize pStr L = Q at *
  generalize L.length = y at *
  refine ⟨?_, ?h1, ?h2⟩
  case h1 =>
   simp -implicitDefEqProofs [loopS_eq, c90L0, k, w1]
   exact rfl
  case h2 => exact loopS_same (by simp) (by simp)
 | true =>
  simp only [S90, addR, if_true, e1, e2, sc, g1, List.map_cons, List.map_nil]
  generalize pStr L = Q at *
  generalize L.length = y at *
  refine ⟨?_, ?h1, ?h2⟩
  case h1 =>
   simp -implicitDefEqProofs [loopS_eq, c90L0, k, w1, hQ, hlim]
   exact rfl
  case h2 => exact loopS_same (by simp) (by simp)

theorem s90_1 {d : Nat} (s : StaI) (x : ActI) (z : Bool) (k : RUN d 241 [sa s, aa x] = .ret (bl z)) (L : List (List UInt8)) (hL : L.length ≤ 7) :
  ∃ st1, loopS (evFn F C0 G0 d) C0 G0 0 true [2, 3, 5, 8, 9] c90L0 (S90 s x L 1) = .ret (.normal, st1) ∧ loopS (evFn F C0 G0 d) C0 G0 0 true [2, 3, 5, 8, 9] c90L0 st1 = loopS (evFn F C0 G0 d) C0 G0 0 true [2, 3, 5, 8, 9] c90L0 (S90 s x (addR L z wState) 2) := by
 have hlim : L.length + 1 ≤ lim := by simp only [lim]; omega
 have hQ : (pStr L).length = L.length := by simp
 have e1 : pStr (L ++ [wState]) = pStr L ++ [.str wState] := (pStr_snoc _ _).symm
 have e2 : (L ++ [wState]).length = L.length + 1 := by simp
 have w1 : IntKind.i64.wrap 2 = 2 := by decide
 obtain ⟨t, kk, m, a, b, c⟩ := x
 obtain ⟨st, o0, o1, o2, o3, o4, o5, o6, o7, k0, k1, pp, ar, sh, ad⟩ := s
 cases z with
 | false =>
  simp only [S90, addR, Bool.false_eq_true, if_false, sc, g1, List.map_cons, List.map_nil]
  generalize pStr L = Q at *
  generalize L.length = y at *
  refine ⟨?_, ?h1, ?h2⟩
  case h1 =>
   simp -implicitDefEqProofs [loopS_eq, c90L0, k, w1]
   exact rfl
  case h2 => exact loopS_same (by simp) (by simp)
 | true =>
  simp only [S90, addR, if_true, e1, e2, sc, g1, List.map_cons, List.map_nil]
  generalize pStr L = Q at *
  generalize L.length = y at *
  refine ⟨?_, ?h1, ?h2⟩
  case h1 =>
   simp -implicitDefEqProofs [loopS_eq, c90L0, k, w1, hQ, hlim]
   exact rfl
  case h2 => exact loopS_same (by simp) (by simp)

theorem s90_2 {d : Nat} (s : StaI) (x : ActI) (z : Bool) (k : RUN d 244 [sa s, aa x] = .ret (bl z)) (L : List (List UInt8)) (hL : L.length ≤ 7) :
  ∃ st1, loopS (evFn F C0 G0 d) C0 G0 0 true [2, 3, 5, 8, 9] c90L0 (S90 s x L 2) = .ret (.normal, st1) ∧ loopS (evFn F C0 G0 d) C0 G0 0 true [2, 3, 5, 8, 9] c90L0 st1 = loopS (evFn F C0 G0 d) C0 G0 0 true [2, 3, 5, 8, 9] c90L0 (S90 s x (addR L z wArmed) 3) := by
 have hlim : L.length + 1 ≤ lim := by simp only [lim]; omega
 have hQ : (pStr L).length = L.length := by simp
 have e1 : pStr (L ++ [wArmed]) = pStr L ++ [.str wArmed] := (pStr_snoc _ _).symm
 have e2 : (L ++ [wArmed]).length = L.length + 1 := by simp
 have w1 : IntKind.i64.wrap 3 = 3 := by decide
 obtain ⟨t, kk, m, a, b, c⟩ := x
 obtain ⟨st, o0, o1, o2, o3, o4, o5, o6, o7, k0, k1, pp, ar, sh, ad⟩ := s
 cases z with
 | false =>
  simp only [S90, addR, Bool.false_eq_true, if_false, sc, g1, List.map_cons, List.map_nil]
  generalize pStr L = Q at *
  generalize L.length = y at *
  refine ⟨?_, ?h1, ?h2⟩
  case h1 =>
   simp -implicitDefEqProofs [loopS_eq, c90L0, k, w1]
   exact rfl
  case h2 => exact loopS_same (by simp) (by simp)
 | true =>
  simp only [S90, addR, if_true, e1, e2, sc, g1, List.map_cons, List.map_nil]
  generalize pStr L = Q at *
  generalize L.length = y at *
  refine ⟨?_, ?h1, ?h2⟩
  case h1 =>
   simp -implicitDefEqProofs [loopS_eq, c90L0, k, w1, hQ, hlim]
   exact rfl
  case h2 => exact loopS_same (by simp) (by simp)

theorem s90_3 {d : Nat} (s : StaI) (x : ActI) (z : Bool) (k : RUN d 245 [sa s, aa x] = .ret (bl z)) (L : List (List UInt8)) (hL : L.length ≤ 7) :
  ∃ st1, loopS (evFn F C0 G0 d) C0 G0 0 true [2, 3, 5, 8, 9] c90L0 (S90 s x L 3) = .ret (.normal, st1) ∧ loopS (evFn F C0 G0 d) C0 G0 0 true [2, 3, 5, 8, 9] c90L0 st1 = loopS (evFn F C0 G0 d) C0 G0 0 true [2, 3, 5, 8, 9] c90L0 (S90 s x (addR L z wDoor) 4) := by
 have hlim : L.length + 1 ≤ lim := by simp only [lim]; omega
 have hQ : (pStr L).length = L.length := by simp
 have e1 : pStr (L ++ [wDoor]) = pStr L ++ [.str wDoor] := (pStr_snoc _ _).symm
 have e2 : (L ++ [wDoor]).length = L.length + 1 := by simp
 have w1 : IntKind.i64.wrap 4 = 4 := by decide
 obtain ⟨t, kk, m, a, b, c⟩ := x
 obtain ⟨st, o0, o1, o2, o3, o4, o5, o6, o7, k0, k1, pp, ar, sh, ad⟩ := s
 cases z with
 | false =>
  simp only [S90, addR, Bool.false_eq_true, if_false, sc, g1, List.map_cons, List.map_nil]
  generalize pStr L = Q at *
  generalize L.length = y at *
  refine ⟨?_, ?h1, ?h2⟩
  case h1 =>
   simp -implicitDefEqProofs [loopS_eq, c90L0, k, w1]
   exact rfl
  case h2 => exact loopS_same (by simp) (by simp)
 | true =>
  simp only [S90, addR, if_true, e1, e2, sc, g1, List.map_cons, List.map_nil]
  generalize pStr L = Q at *
  generalize L.length = y at *
  refine ⟨?_, ?h1, ?h2⟩
  case h1 =>
   simp -implicitDefEqProofs [loopS_eq, c90L0, k, w1, hQ, hlim]
   exact rfl
  case h2 => exact loopS_same (by simp) (by simp)

theorem s90_4 {d : Nat} (s : StaI) (x : ActI) (z : Bool) (k : RUN d 246 [sa s, aa x] = .ret (bl z)) (L : List (List UInt8)) (hL : L.length ≤ 7) :
  ∃ st1, loopS (evFn F C0 G0 d) C0 G0 0 true [2, 3, 5, 8, 9] c90L0 (S90 s x L 4) = .ret (.normal, st1) ∧ loopS (evFn F C0 G0 d) C0 G0 0 true [2, 3, 5, 8, 9] c90L0 st1 = loopS (evFn F C0 G0 d) C0 G0 0 true [2, 3, 5, 8, 9] c90L0 (S90 s x (addR L z wPeople) 5) := by
 have hlim : L.length + 1 ≤ lim := by simp only [lim]; omega
 have hQ : (pStr L).length = L.length := by simp
 have e1 : pStr (L ++ [wPeople]) = pStr L ++ [.str wPeople] := (pStr_snoc _ _).symm
 have e2 : (L ++ [wPeople]).length = L.length + 1 := by simp
 have w1 : IntKind.i64.wrap 5 = 5 := by decide
 obtain ⟨t, kk, m, a, b, c⟩ := x
 obtain ⟨st, o0, o1, o2, o3, o4, o5, o6, o7, k0, k1, pp, ar, sh, ad⟩ := s
 cases z with
 | false =>
  simp only [S90, addR, Bool.false_eq_true, if_false, sc, g1, List.map_cons, List.map_nil]
  generalize pStr L = Q at *
  generalize L.length = y at *
  refine ⟨?_, ?h1, ?h2⟩
  case h1 =>
   simp -implicitDefEqProofs [loopS_eq, c90L0, k, w1]
   exact rfl
  case h2 => exact loopS_same (by simp) (by simp)
 | true =>
  simp only [S90, addR, if_true, e1, e2, sc, g1, List.map_cons, List.map_nil]
  generalize pStr L = Q at *
  generalize L.length = y at *
  refine ⟨?_, ?h1, ?h2⟩
  case h1 =>
   simp -implicitDefEqProofs [loopS_eq, c90L0, k, w1, hQ, hlim]
   exact rfl
  case h2 => exact loopS_same (by simp) (by simp)

theorem s90_5 {d : Nat} (s : StaI) (x : ActI) (z : Bool) (k : RUN d 247 [sa s, aa x] = .ret (bl z)) (L : List (List UInt8)) (hL : L.length ≤ 7) :
  ∃ st1, loopS (evFn F C0 G0 d) C0 G0 0 true [2, 3, 5, 8, 9] c90L0 (S90 s x L 5) = .ret (.normal, st1) ∧ loopS (evFn F C0 G0 d) C0 G0 0 true [2, 3, 5, 8, 9] c90L0 st1 = loopS (evFn F C0 G0 d) C0 G0 0 true [2, 3, 5, 8, 9] c90L0 (S90 s x (addR L z wKey) 6) := by
 have hlim : L.length + 1 ≤ lim := by simp only [lim]; omega
 have hQ : (pStr L).length = L.length := by simp
 have e1 : pStr (L ++ [wKey]) = pStr L ++ [.str wKey] := (pStr_snoc _ _).symm
 have e2 : (L ++ [wKey]).length = L.length + 1 := by simp
 have w1 : IntKind.i64.wrap 6 = 6 := by decide
 obtain ⟨t, kk, m, a, b, c⟩ := x
 obtain ⟨st, o0, o1, o2, o3, o4, o5, o6, o7, k0, k1, pp, ar, sh, ad⟩ := s
 cases z with
 | false =>
  simp only [S90, addR, Bool.false_eq_true, if_false, sc, g1, List.map_cons, List.map_nil]
  generalize pStr L = Q at *
  generalize L.length = y at *
  refine ⟨?_, ?h1, ?h2⟩
  case h1 =>
   simp -implicitDefEqProofs [loopS_eq, c90L0, k, w1]
   exact rfl
  case h2 => exact loopS_same (by simp) (by simp)
 | true =>
  simp only [S90, addR, if_true, e1, e2, sc, g1, List.map_cons, List.map_nil]
  generalize pStr L = Q at *
  generalize L.length = y at *
  refine ⟨?_, ?h1, ?h2⟩
  case h1 =>
   simp -implicitDefEqProofs [loopS_eq, c90L0, k, w1, hQ, hlim]
   exact rfl
  case h2 => exact loopS_same (by simp) (by simp)

theorem s90_6 {d : Nat} (s : StaI) (x : ActI) (z : Bool) (k : RUN d 248 [sa s, aa x] = .ret (bl z)) (L : List (List UInt8)) (hL : L.length ≤ 7) :
  ∃ st1, loopS (evFn F C0 G0 d) C0 G0 0 true [2, 3, 5, 8, 9] c90L0 (S90 s x L 6) = .ret (.normal, st1) ∧ loopS (evFn F C0 G0 d) C0 G0 0 true [2, 3, 5, 8, 9] c90L0 st1 = loopS (evFn F C0 G0 d) C0 G0 0 true [2, 3, 5, 8, 9] c90L0 (S90 s x (addR L z wWait) 7) := by
 have hlim : L.length + 1 ≤ lim := by simp only [lim]; omega
 have hQ : (pStr L).length = L.length := by simp
 have e1 : pStr (L ++ [wWait]) = pStr L ++ [.str wWait] := (pStr_snoc _ _).symm
 have e2 : (L ++ [wWait]).length = L.length + 1 := by simp
 have w1 : IntKind.i64.wrap 7 = 7 := by decide
 obtain ⟨t, kk, m, a, b, c⟩ := x
 obtain ⟨st, o0, o1, o2, o3, o4, o5, o6, o7, k0, k1, pp, ar, sh, ad⟩ := s
 cases z with
 | false =>
  simp only [S90, addR, Bool.false_eq_true, if_false, sc, g1, List.map_cons, List.map_nil]
  generalize pStr L = Q at *
  generalize L.length = y at *
  refine ⟨?_, ?h1, ?h2⟩
  case h1 =>
   simp -implicitDefEqProofs [loopS_eq, c90L0, k, w1]
   exact rfl
  case h2 => exact loopS_same (by simp) (by simp)
 | true =>
  simp only [S90, addR, if_true, e1, e2, sc, g1, List.map_cons, List.map_nil]
  generalize pStr L = Q at *
  generalize L.length = y at *
  refine ⟨?_, ?h1, ?h2⟩
  case h1 =>
   simp -implicitDefEqProofs [loopS_eq, c90L0, k, w1, hQ, hlim]
   exact rfl
  case h2 => exact loopS_same (by simp) (by simp)

theorem loopN_on' {step : St → T (Ex × St)} {fuel : Nat} {st st2 : St} (h : ∃ st1, step st = .ret (.normal, st1) ∧ step st1 = step st2) (hf : 1 < fuel) : loopN step fuel st = loopN step (fuel - 1) st2 := by
 obtain ⟨st1, h1, h2⟩ := h
 rw [loopN_on h1 (by omega)]
 obtain ⟨f, hf'⟩ : ∃ f, fuel - 1 = f + 1 := ⟨fuel - 2, by omega⟩
 rw [hf']
 unfold loopN
 rw [h2]
theorem reasons90 {n : Nat} (hn : 6 ≤ n) (s : StaI) (x : ActI) (h : NumOk x) : RUN n 90 [sa s, aa x] = .ret (.own (pStr (reaL s x)) (reaL s x).length 1) := by
 obtain ⟨d, rfl⟩ : ∃ d, n = d + 6 := ⟨n - 6, by omega⟩
 rw [RUN, call_eq fe90 _ rfl]
 have k0 := r240 (n := d + 5) (by omega) s x
 have k1 := r241 (n := d + 5) (by omega) s x h
 have k2 := r244 (n := d + 5) (by omega) s x
 have k3 := r245 (n := d + 5) (by omega) s x h
 have k4 := r246 (n := d + 5) (by omega) s x
 have k5 := r247 (n := d + 5) (by omega) s x
 have k6 := r248 (n := d + 5) (by omega) s x
 have l0 : ([] : List (List UInt8)).length ≤ 0 := by simp
 have l1 : (addR ([] : List (List UInt8)) (decide (x.tick < s.tick)) wTick).length ≤ 1 := by have := addR_le ([] : List (List UInt8)) (decide (x.tick < s.tick)) wTick; omega
 have l2 : (addR (addR ([] : List (List UInt8)) (decide (x.tick < s.tick)) wTick) (stB s x) wState).length ≤ 2 := by have := addR_le (addR ([] : List (List UInt8)) (decide (x.tick < s.tick)) wTick) (stB s x) wState; omega
 have l3 : (addR (addR (addR ([] : List (List UInt8)) (decide (x.tick < s.tick)) wTick) (stB s x) wState) (armB s x) wArmed).length ≤ 3 := by have := addR_le (addR (addR ([] : List (List UInt8)) (decide (x.tick < s.tick)) wTick) (stB s x) wState) (armB s x) wArmed; omega
 have l4 : (addR (addR (addR (addR ([] : List (List UInt8)) (decide (x.tick < s.tick)) wTick) (stB s x) wState) (armB s x) wArmed) (dooB s x) wDoor).length ≤ 4 := by have := addR_le (addR (addR (addR ([] : List (List UInt8)) (decide (x.tick < s.tick)) wTick) (stB s x) wState) (armB s x) wArmed) (dooB s x) wDoor; omega
 have l5 : (addR (addR (addR (addR (addR ([] : List (List UInt8)) (decide (x.tick < s.tick)) wTick) (stB s x) wState) (armB s x) wArmed) (dooB s x) wDoor) (peoB s x) wPeople).length ≤ 5 := by have := addR_le (addR (addR (addR (addR ([] : List (List UInt8)) (decide (x.tick < s.tick)) wTick) (stB s x) wState) (armB s x) wArmed) (dooB s x) wDoor) (peoB s x) wPeople; omega
 have l6 : (addR (addR (addR (addR (addR (addR ([] : List (List UInt8)) (decide (x.tick < s.tick)) wTick) (stB s x) wState) (armB s x) wArmed) (dooB s x) wDoor) (peoB s x) wPeople) (keyR s x) wKey).length ≤ 6 := by have := addR_le (addR (addR (addR (addR (addR ([] : List (List UInt8)) (decide (x.tick < s.tick)) wTick) (stB s x) wState) (armB s x) wArmed) (dooB s x) wDoor) (peoB s x) wPeople) (keyR s x) wKey; omega
 have s0 := s90_0 s x _ k0 ([] : List (List UInt8)) (by omega)
 have s1 := s90_1 s x _ k1 (addR ([] : List (List UInt8)) (decide (x.tick < s.tick)) wTick) (by omega)
 have s2 := s90_2 s x _ k2 (addR (addR ([] : List (List UInt8)) (decide (x.tick < s.tick)) wTick) (stB s x) wState) (by omega)
 have s3 := s90_3 s x _ k3 (addR (addR (addR ([] : List (List UInt8)) (decide (x.tick < s.tick)) wTick) (stB s x) wState) (armB s x) wArmed) (by omega)
 have s4 := s90_4 s x _ k4 (addR (addR (addR (addR ([] : List (List UInt8)) (decide (x.tick < s.tick)) wTick) (stB s x) wState) (armB s x) wArmed) (dooB s x) wDoor) (by omega)
 have s5 := s90_5 s x _ k5 (addR (addR (addR (addR (addR ([] : List (List UInt8)) (decide (x.tick < s.tick)) wTick) (stB s x) wState) (armB s x) wArmed) (dooB s x) wDoor) (peoB s x) wPeople) (by omega)
 have s6 := s90_6 s x _ k6 (addR (addR (addR (addR (addR (addR ([] : List (List UInt8)) (decide (x.tick < s.tick)) wTick) (stB s x) wState) (armB s x) wArmed) (dooB s x) wDoor) (peoB s x) wPeople) (keyR s x) wKey) (by omega)
 have hr : reaL s x = (addR (addR (addR (addR (addR (addR (addR ([] : List (List UInt8)) (decide (x.tick < s.tick)) wTick) (stB s x) wState) (armB s x) wArmed) (dooB s x) wDoor) (peoB s x) wPeople) (keyR s x) wKey) (waiB s x) wWait) := rfl
 rw [hr]
 generalize (addR (addR (addR (addR (addR (addR (addR ([] : List (List UInt8)) (decide (x.tick < s.tick)) wTick) (stB s x) wState) (armB s x) wArmed) (dooB s x) wDoor) (peoB s x) wPeople) (keyR s x) wKey) (waiB s x) wWait) = L at *
 have hG : G0 1 = some g1 := rfl
 have s7 : loopS (evFn F C0 G0 (d + 5)) C0 G0 0 true [2, 3, 5, 8, 9] c90L0 (S90 s x L 7) = .ret (.exit 0, ⟨(S90 s x L 7).env ++ [(10, bl false)], (S90 s x L 7).sto⟩) := by
  simp -implicitDefEqProofs [loopS_eq, c90L0, S90, g1, sc]
 have hst : loopN (loopS (evFn F C0 G0 (d + 5)) C0 G0 0 true [2, 3, 5, 8, 9] c90L0) loopFuel (S90 s x [] 0) = .ret (.exit 0, ⟨(S90 s x L 7).env ++ [(10, bl false)], (S90 s x L 7).sto⟩) := by
  rw [loopN_on' s0 (by simp [loopFuel]), loopN_on' s1 (by simp [loopFuel]), loopN_on' s2 (by simp [loopFuel]), loopN_on' s3 (by simp [loopFuel]), loopN_on' s4 (by simp [loopFuel]), loopN_on' s5 (by simp [loopFuel]), loopN_on' s6 (by simp [loopFuel]), loopN_end s7 (by simp) (by simp [loopFuel])]
 obtain ⟨t, kk, m, a, b, c⟩ := x
 obtain ⟨st, o0, o1, o2, o3, o4, o5, o6, o7, y0, y1, pp, ar, sh, ad⟩ := s
 have hQ : (pStr L).length = L.length := by simp
 simp only [S90, g1, sc, List.map_cons, List.map_nil, pStr_nil, List.length_nil, iv, bl, List.cons_append, List.nil_append] at hst
 generalize pStr L = Q at *
 simp -implicitDefEqProofs [c90, hG, g1]
 rw [hst]
 simp -implicitDefEqProofs [hQ]
end Fw
end

section
set_option maxHeartbeats 16000000
namespace Fw
open Go

def hdS : ACode → ACode
 | .seq a _ => a
 | c => c
def tlS : ACode → ACode
 | .seq _ b => b
 | c => c
def ex (c : Nat) (z : Bool) : Env := if z = true then [] else [(c, bl false)]
end Fw
end

section
set_option maxHeartbeats 16000000
namespace Fw
open Go

def aftS (base W : Int) (s : StaI) (x : ActI) : StaI :=
 if x.kind = kOpen then setO { s with tick := x.tick } x.num true else if x.kind = kClose then setO { s with tick := x.tick } x.num false
 else if x.kind = kInsert then setY { s with tick := x.tick } x.num true else if x.kind = kRemove then setY { s with tick := x.tick } x.num false
 else if x.kind = kEnter then { s with tick := x.tick, people := s.people + 1 } else if x.kind = kLeave then { s with tick := x.tick, people := s.people - 1 }
 else if x.kind = kArm then { s with tick := x.tick, armed := true } else if x.kind = kDisarm then { s with tick := x.tick, armed := false }
 else if x.kind = kShoot then { s with tick := x.tick, shot := x.tick, adm := -1, armed := false }
 else { s with tick := x.tick, adm := max (s.shot + base) (x.tick + W) }
def StOk (s : StaI) : Prop := 0 ≤ s.people ∧ s.people ≤ 100 ∧ -1 ≤ s.shot ∧ s.shot ≤ 100000000

theorem after162 {n : Nat} (hn : 4 ≤ n) (h : HallI) (g0' : h.t0.length < 1000000) (g1' : h.t1.length < 1000000) (g2' : h.t2.length < 1000000) (s : StaI) (x : ActI) (hx : NumOk x) (hs : StOk s) (hb : 0 ≤ h.base ∧ h.base ≤ 1000000) (ht : 0 ≤ x.tick ∧ x.tick ≤ 100000000) (hW : 0 ≤ waitP h x.a x.b x.c ∧ waitP h x.a x.b x.c ≤ 1000000) : RUN n 162 [sa s, ha h, aa x] = .ret (sa (aftS h.base (waitP h x.a x.b x.c) s x)) := by
 obtain ⟨d, rfl⟩ : ∃ d, n = d + 4 := ⟨n - 4, by omega⟩
 rw [RUN, call_eq fe162 _ rfl]
 have hk := numOk_cases hx
 have mx := fun a b => max2 a b
 have kb := byWord136 (n := d + 3) (by omega)
 have hG : G0 0 = some g0 := rfl
 have kq := wait132 (n := d + 2) (by omega) h g0' g1' g2' x.a x.b x.c
 obtain ⟨q1, q2, q3, q4⟩ := hs
 have w1 := wrap64 (n := s.people + 1) (by omega) (by omega)
 have w2 := wrap64 (n := s.people - 1) (by omega) (by omega)
 have w3 := wrap64 (n := s.shot + h.base) (by omega) (by omega)
 generalize hWW : waitP h x.a x.b x.c = W at *
 have w4 := wrap64 (n := x.tick + W) (by omega) (by omega)
 obtain ⟨t, k, m, a, b, c⟩ := x
 obtain ⟨st, o0, o1, o2, o3, o4, o5, o6, o7, k0, k1, pp, ar, sh, ad⟩ := s
 simp only at hk w1 w2 w3 w4
 simp only [ha, csl] at *
 generalize cI h.t0 = A0 at *
 generalize cI h.t1 = A1 at *
 generalize cI h.t2 = A2 at *
 rcases hk with rfl | rfl | rfl | rfl | rfl | rfl | rfl | rfl | rfl | rfl
 ·have hm : mapFind (.str kOpen) (pStr kindL) [.int .i64 0, .int .i64 1, .int .i64 2, .int .i64 3, .int .i64 4, .int .i64 5, .int .i64 6, .int .i64 7, .int .i64 8, .int .i64 9] = some (some (.int .i64 0)) := by kernel_rfl
  rcases eight (hx.2.1 (show doorB kOpen = true by decide)) with rfl | rfl | rfl | rfl | rfl | rfl | rfl | rfl <;> simp -implicitDefEqProofs [c162, kb, hm, hG, g0, evFn_fn fe219, c219, aftS, setO]
 ·have hm : mapFind (.str kClose) (pStr kindL) [.int .i64 0, .int .i64 1, .int .i64 2, .int .i64 3, .int .i64 4, .int .i64 5, .int .i64 6, .int .i64 7, .int .i64 8, .int .i64 9] = some (some (.int .i64 1)) := by kernel_rfl
  rcases eight (hx.2.1 (show doorB kClose = true by decide)) with rfl | rfl | rfl | rfl | rfl | rfl | rfl | rfl <;> simp -implicitDefEqProofs [c162, kb, hm, hG, g0, evFn_fn fe221, c221, aftS, setO]
 ·have hm : mapFind (.str kInsert) (pStr kindL) [.int .i64 0, .int .i64 1, .int .i64 2, .int .i64 3, .int .i64 4, .int .i64 5, .int .i64 6, .int .i64 7, .int .i64 8, .int .i64 9] = some (some (.int .i64 2)) := by kernel_rfl
  rcases two (hx.2.2 (show keyB kInsert = true by decide)) with rfl | rfl <;> simp -implicitDefEqProofs [c162, kb, hm, hG, g0, evFn_fn fe224, c224, aftS, setY]
 ·have hm : mapFind (.str kRemove) (pStr kindL) [.int .i64 0, .int .i64 1, .int .i64 2, .int .i64 3, .int .i64 4, .int .i64 5, .int .i64 6, .int .i64 7, .int .i64 8, .int .i64 9] = some (some (.int .i64 3)) := by kernel_rfl
  rcases two (hx.2.2 (show keyB kRemove = true by decide)) with rfl | rfl <;> simp -implicitDefEqProofs [c162, kb, hm, hG, g0, evFn_fn fe226, c226, aftS, setY]
 ·have hm : mapFind (.str kEnter) (pStr kindL) [.int .i64 0, .int .i64 1, .int .i64 2, .int .i64 3, .int .i64 4, .int .i64 5, .int .i64 6, .int .i64 7, .int .i64 8, .int .i64 9] = some (some (.int .i64 4)) := by kernel_rfl
  simp -implicitDefEqProofs [c162, kb, hm, hG, g0, evFn_fn fe228, c228, aftS, w1]
 ·have hm : mapFind (.str kLeave) (pStr kindL) [.int .i64 0, .int .i64 1, .int .i64 2, .int .i64 3, .int .i64 4, .int .i64 5, .int .i64 6, .int .i64 7, .int .i64 8, .int .i64 9] = some (some (.int .i64 5)) := by kernel_rfl
  simp -implicitDefEqProofs [c162, kb, hm, hG, g0, evFn_fn fe230, c230, aftS, w2]
 ·have hm : mapFind (.str kArm) (pStr kindL) [.int .i64 0, .int .i64 1, .int .i64 2, .int .i64 3, .int .i64 4, .int .i64 5, .int .i64 6, .int .i64 7, .int .i64 8, .int .i64 9] = some (some (.int .i64 6)) := by kernel_rfl
  simp -implicitDefEqProofs [c162, kb, hm, hG, g0, evFn_fn fe233, c233, aftS]
 ·have hm : mapFind (.str kDisarm) (pStr kindL) [.int .i64 0, .int .i64 1, .int .i64 2, .int .i64 3, .int .i64 4, .int .i64 5, .int .i64 6, .int .i64 7, .int .i64 8, .int .i64 9] = some (some (.int .i64 7)) := by kernel_rfl
  simp -implicitDefEqProofs [c162, kb, hm, hG, g0, evFn_fn fe235, c235, aftS]
 ·have hm : mapFind (.str kShoot) (pStr kindL) [.int .i64 0, .int .i64 1, .int .i64 2, .int .i64 3, .int .i64 4, .int .i64 5, .int .i64 6, .int .i64 7, .int .i64 8, .int .i64 9] = some (some (.int .i64 8)) := by kernel_rfl
  simp -implicitDefEqProofs [c162, kb, hm, hG, g0, evFn_fn fe237, c237, aftS]
 ·have hm : mapFind (.str kMeasure) (pStr kindL) [.int .i64 0, .int .i64 1, .int .i64 2, .int .i64 3, .int .i64 4, .int .i64 5, .int .i64 6, .int .i64 7, .int .i64 8, .int .i64 9] = some (some (.int .i64 9)) := by kernel_rfl
  simp -implicitDefEqProofs [c162, kb, hm, hG, g0, evFn_fn fe239, c239, aftS, w3, w4, mx, kq]

end Fw
end

section
set_option maxHeartbeats 16000000
namespace Fw
open Go

def ac (x : ActI) : List PVal := [.int .i64 x.tick, .str x.kind, .int .i64 x.num, .int .i64 x.a, .int .i64 x.b, .int .i64 x.c]
abbrev asl (l : List ActI) : AVal := .p (.sl (rowC ac l) l.length)
theorem ac_len (x : ActI) : (ac x).length = 6 := rfl
theorem aR_len (l : List ActI) : (rowC ac l).length = l.length * 6 := rowC_len ac_len l
theorem sc_len (s : StaI) : (sc s).length = 15 := rfl
theorem sR_len (l : List StaI) : (rowC sc l).length = l.length * 15 := rowC_len sc_len l
abbrev stl (l : List StaI) : AVal := .p (.sl (rowC sc l) l.length)
def zA : ActI := ⟨0, [], 0, 0, 0, 0⟩
theorem getA {l : List ActI} {i : Nat} (hi : i < l.length) : l.getD i zA = l[i] := by simp [List.getD_eq_getElem?_getD, hi]

def actsE (h : HallI) (l : List ActI) : Int := if firstE [hallE h, whenE (decide (1000 < l.length)) 5] = 0 then firstE ((List.range l.length).map fun i => actE h (l.getD i zA)) else firstE [hallE h, whenE (decide (1000 < l.length)) 5]

theorem acts86 {n : Nat} (hn : 7 ≤ n) (h : HallI) (q0 : h.t0.length < 1000000) (q1 : h.t1.length < 1000000) (q2 : h.t2.length < 1000000) (l : List ActI) (hl : l.length < 1000000) : RUN n 86 [ha h, asl l] = .ret (iv (actsE h l)) := by
 obtain ⟨d, rfl⟩ : ∃ d, n = d + 7 := ⟨n - 7, by omega⟩
 rw [RUN, call_eq fe86 _ rfl]
 have k81 := hall81 (n := d + 6) (by omega) h q0 q1 q2
 have kw := when104 (n := d + 6) (by omega) (decide (1000 < l.length)) 5
 have k2 := first91_2 (n := d + 6) (by omega) (hallE h) (whenE (decide (1000 < l.length)) 5)
 have hd : decide ((1000 : Int) < l.length) = decide (1000 < l.length) := by
  by_cases h : 1000 < l.length
  ·have : (1000 : Int) < l.length := by omega
   simp [h, this]
  ·have : ¬ (1000 : Int) < l.length := by omega
   simp [h, this]
 unfold actsE
 generalize hF : firstE [hallE h, whenE (decide (1000 < l.length)) 5] = f at *
 have hR := aR_len l
 by_cases hf : f = 0
 ·subst hf
  rw [if_pos rfl]
  have kc := fun x => check87 (n := d + 6) (by omega) h x
  let inv : Nat → St := fun i => ⟨[(2, .ptr 0 0 0), (20, asl l), (21, iv l.length), (22, iv i)], [(0, .box [iv h.doors, iv h.base, csl h.t0, csl h.t1, csl h.t2])]⟩
  have key := loop_firstR (step := loopS (evFn F C0 G0 (d + 6)) C0 G0 0 true [2, 20, 21, 22] c86L0) inv (fun i => actE h (l.getD i zA)) l.length (.exit 0, ⟨(inv l.length).env ++ [(23, .p (.bool false))], (inv l.length).sto⟩) (fun i st => st.env = [(4, iv (actE h (l.getD i zA)))])
   (st0 := ⟨[(2, .ptr 0 0 0), (20, asl l), (21, iv l.length), (22, iv 0)], [(0, .box [iv h.doors, iv h.base, csl h.t0, csl h.t1, csl h.t2])]⟩) rfl (fun i hi => by
   have hlt : i * 6 < l.length * 6 := by omega
   have hlt6 : i * 6 + 6 ≤ l.length * 6 := by omega
   have wi := wrap_succ (i := i) (by omega)
   have hdr := rowC_drop ac_len l i hi
   have kc := kc l[i]
   simp only [getA hi, inv]
   generalize hE : actE h l[i] = e at *
   generalize hA : rowC ac l = A at *
   generalize rowC ac (l.drop (i + 1)) = R2 at *
   generalize l[i] = x at *
   obtain ⟨t, k, m, a, b, c⟩ := x
   simp only [ha, csl] at kc ⊢
   generalize cI h.t0 = A0 at *
   generalize cI h.t1 = A1 at *
   generalize cI h.t2 = A2 at *
   refine ⟨fun he => ?_, fun he => ?_⟩
   ·subst he
    refine ⟨?_, ?h1, ?h2⟩
    case h1 =>
     simp -implicitDefEqProofs [loopS_eq, c86L0, hi, hA, hR, hlt, hdr, ac, kc, wi]
     exact rfl
    case h2 => exact loopS_same (by simp) (by simp)
   ·refine ⟨?_, ?h1, ?h2⟩
    case h1 =>
     simp -implicitDefEqProofs [loopS_eq, c86L0, hi, hA, hR, hlt, hdr, ac, kc, he]
     exact rfl
    case h2 => rfl) (by simp -implicitDefEqProofs [inv, loopS_eq, c86L0]) (by simp) (fuel := loopFuel) (by simp [loopFuel]; omega)
  simp only [inv, ha, csl] at key k81 ⊢
  generalize cI h.t0 = A0 at *
  generalize cI h.t1 = A1 at *
  generalize cI h.t2 = A2 at *
  rcases key with ⟨h1, h2⟩ | ⟨j, ⟨env, sto⟩, hj, h1, h2, h3, _, _⟩
  ·rw [show firstE _ = 0 from h2]
   simp only [iv] at h1
   simp -implicitDefEqProofs [c86, k81, kw, k2, hd]
   rw [h1]
   simp
  ·rw [show firstE _ = _ from h3]
   simp only at h2
   subst h2
   generalize actE h (l.getD j zA) = e at *
   simp only [iv] at h1
   simp -implicitDefEqProofs [c86, k81, kw, k2, hd]
   rw [h1]
   simp
 ·rw [if_neg hf]
  simp only [ha, csl] at k81 ⊢
  generalize cI h.t0 = A0 at *
  generalize cI h.t1 = A1 at *
  generalize cI h.t2 = A2 at *
  simp -implicitDefEqProofs [c86, k81, kw, k2, hd, hf]

theorem done20 {n : Nat} (hn : 1 ≤ n) (l : List ActI) (hl : l.length < 1000000) : RUN n 20 [asl l] = .ret (.own (rowC ac l) l.length 6) := by
 obtain ⟨d, rfl⟩ : ∃ d, n = d + 1 := ⟨n - 1, by omega⟩
 rw [RUN, call_eq fe20 _ rfl]
 let inv : Nat → St := fun i => ⟨[(3, .sl 1 i 0 i), (6, asl l), (7, iv l.length), (8, iv i)], [(1, .arr (rowC ac (l.take i)) i 6)]⟩
 have hR := aR_len l
 simp -implicitDefEqProofs [c20]
 rw [loop_run' inv l.length (e := .exit 0) (st' := ⟨(inv l.length).env ++ [(9, .p (.bool false))], (inv l.length).sto⟩) (by simp)]
 ·simp -implicitDefEqProofs [inv, hR]
 ·exact loopS_same rfl (by simp [inv])
 ·intro i hi
  have hlim : i + 1 ≤ lim := by simp only [lim]; omega
  have wi := wrap_succ (i := i) (by omega)
  have hti : (l.take i).length = i := by simp; omega
  have hln := aR_len (l.take i)
  rw [hti] at hln
  have hr : rowC ac (l.take (i + 1)) = rowC ac (l.take i) ++ ac l[i] := rowC_take _ _ hi
  have hlt : i * 6 < l.length * 6 := by omega
  have hlt6 : i * 6 + 6 ≤ l.length * 6 := by omega
  have hdr := rowC_drop ac_len l i hi
  simp only [inv]
  generalize hA : rowC ac l = A at *
  generalize rowC ac (l.take i) = R' at *
  generalize rowC ac (l.drop (i + 1)) = R2 at *
  generalize hv : l[i] = v at *
  refine ⟨?_, ?h1, ?h2⟩
  case h1 =>
   simp -implicitDefEqProofs [loopS_eq, c20L0, hi, hA, hR, hlt, hdr, ac, hlim, hln, wi]
   exact rfl
  case h2 => exact loopS_same rfl (by simp [hr, ac])
 ·simp -implicitDefEqProofs [inv, loopS_eq, c20L0]
 ·simp [loopFuel]; omega
def bgS : StaI := ⟨0, false, false, false, false, false, false, false, false, false, false, 0, false, -1, 0⟩
theorem begin138 {n : Nat} (hn : 1 ≤ n) : RUN n 138 [] = .ret (sa bgS) := by
 obtain ⟨d, rfl⟩ : ∃ d, n = d + 1 := ⟨n - 1, by omega⟩
 kernel_rfl
def lastS (l : List StaI) : StaI := l.getLastD bgS
theorem last89 {n : Nat} (hn : 2 ≤ n) (l : List StaI) (hl : l.length < 1000000) : RUN n 89 [stl l] = .ret (sa (lastS l)) := by
 obtain ⟨d, rfl⟩ : ∃ d, n = d + 2 := ⟨n - 2, by omega⟩
 rw [RUN, call_eq fe89 _ rfl]
 have kb := begin138 (n := d + 1) (by omega)
 have hR := sR_len l
 by_cases h0 : l.length = 0
 ·have : l = [] := List.eq_nil_of_length_eq_zero h0
  subst this
  have e3 : rowC sc [] = [] := rfl
  have e4 : lastS [] = bgS := rfl
  simp only [stl, e3, e4, List.length_nil]
  simp -implicitDefEqProofs [c89, kb]
 ·have hpos : l ≠ [] := fun e => h0 (by rw [e]; rfl)
  obtain ⟨P, x, hP⟩ : ∃ P x, l = P ++ [x] := ⟨l.dropLast, l.getLast hpos, (List.dropLast_concat_getLast _).symm⟩
  have hls : lastS l = x := by rw [hP]; simp [lastS]
  have hlen : l.length = P.length + 1 := by rw [hP]; simp
  have hi : P.length < l.length := by omega
  have hdr := rowC_drop sc_len l P.length hi
  have hx : l[P.length] = x := by simp [hP]
  have hnil : l.drop (P.length + 1) = [] := List.drop_of_length_le (by omega)
  rw [hx, hnil, rowC_nil] at hdr
  rw [hls]
  have hm : (l.length : Int) - 1 = (P.length : Int) := by omega
  have wj : IntKind.i64.wrap (P.length : Int) = P.length := wrap64 (by omega) (by omega)
  have hlt : P.length * 15 < l.length * 15 := by omega
  have hlt6 : P.length * 15 + 15 ≤ l.length * 15 := by omega
  have hb : ((l.length : Int) == 0) = false := by simpa using h0
  simp only [stl]
  generalize hA : rowC sc l = A at *
  obtain ⟨st, o0, o1, o2, o3, o4, o5, o6, o7, k0, k1, pp, ar, sh, ad⟩ := x
  simp -implicitDefEqProofs [c89, hb, hm, wj, hR, hi, hlt, hdr, sc]
end Fw
end

