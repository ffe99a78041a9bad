/- States of a hall: the functions of the kinds and of the reasons (printed by genR1.py). -/
import Derived.Test.YtdjkleaojdeepaaGreatDoorGaH9
set_option maxHeartbeats 16000000
namespace Fw
open Go
attribute [local irreducible] evCode evOps evOpsD evOper evOperD evOp evFn loopN T.All T.bind callPure callOp opsK opsDK restK seqK blockK loopS setK setQ giveK scalK gcK finish finS rfunK yldK yldB loopK

structure StaI where
 tick : Int
 o0 : Bool
 o1 : Bool
 o2 : Bool
 o3 : Bool
 o4 : Bool
 o5 : Bool
 o6 : Bool
 o7 : Bool
 k0 : Bool
 k1 : Bool
 people : Int
 armed : Bool
 shot : Int
 adm : Int
abbrev bl (b : Bool) : AVal := .p (.bool b)
def sc (s : StaI) : List PVal := [.int .i64 s.tick, .bool s.o0, .bool s.o1, .bool s.o2, .bool s.o3, .bool s.o4, .bool s.o5, .bool s.o6, .bool s.o7, .bool s.k0, .bool s.k1, .int .i64 s.people, .bool s.armed, .int .i64 s.shot, .int .i64 s.adm]
abbrev sa (s : StaI) : AVal := .agg [iv s.tick, bl s.o0, bl s.o1, bl s.o2, bl s.o3, bl s.o4, bl s.o5, bl s.o6, bl s.o7, bl s.k0, bl s.k1, iv s.people, bl s.armed, iv s.shot, iv s.adm]
def opn (s : StaI) (n : Int) : Bool := if n = 0 then s.o0 else if n = 1 then s.o1 else if n = 2 then s.o2 else if n = 3 then s.o3 else if n = 4 then s.o4 else if n = 5 then s.o5 else if n = 6 then s.o6 else s.o7
def key (s : StaI) (n : Int) : Bool := if n = 0 then s.k0 else s.k1
def setO (s : StaI) (n : Int) (b : Bool) : StaI := if n = 0 then { s with o0 := b } else if n = 1 then { s with o1 := b } else if n = 2 then { s with o2 := b } else if n = 3 then { s with o3 := b } else if n = 4 then { s with o4 := b } else if n = 5 then { s with o5 := b } else if n = 6 then { s with o6 := b } else { s with o7 := b }
def setY (s : StaI) (n : Int) (b : Bool) : StaI := if n = 0 then { s with k0 := b } else { s with k1 := b }
def anyO (s : StaI) : Bool := s.o0 || (s.o1 || (s.o2 || (s.o3 || (s.o4 || (s.o5 || (s.o6 || s.o7))))))
def stB (s : StaI) (x : ActI) : Bool :=
 if x.kind = kOpen then opn s x.num else if x.kind = kClose then !opn s x.num else if x.kind = kInsert then key s x.num else if x.kind = kRemove then !key s x.num
 else if x.kind = kEnter then decide (100 ≤ s.people) else if x.kind = kLeave then s.people == 0 else if x.kind = kArm then s.armed else if x.kind = kDisarm then !s.armed else if x.kind = kShoot then !s.armed else s.shot == -1
def armB (s : StaI) (x : ActI) : Bool := s.armed && decide (x.kind ∈ [kOpen, kRemove, kEnter])
def dooB (s : StaI) (x : ActI) : Bool := (decide (x.kind ∈ [kEnter, kLeave]) && !opn s x.num) || (decide (x.kind ∈ [kArm]) && anyO s)
def peoB (s : StaI) (x : ActI) : Bool := decide (x.kind ∈ [kArm]) && decide (0 < s.people)
def keyR (s : StaI) (x : ActI) : Bool := decide (x.kind ∈ [kArm]) && (!s.k0 || !s.k1)
def admB (s : StaI) (t : Int) : Bool := (s.adm != -1) && decide (s.adm ≤ t)
def waiB (s : StaI) (x : ActI) : Bool := decide (x.kind ∈ [kOpen, kEnter, kArm]) && !admB s x.tick
def NumOk (x : ActI) : Prop := x.kind ∈ kindL ∧ (doorB x.kind = true → 0 ≤ x.num ∧ x.num < 8) ∧ (keyB x.kind = true → 0 ≤ x.num ∧ x.num < 2)
theorem eight {m : Int} (h : 0 ≤ m ∧ m < 8) : m = 0 ∨ m = 1 ∨ m = 2 ∨ m = 3 ∨ m = 4 ∨ m = 5 ∨ m = 6 ∨ m = 7 := by omega
theorem two {m : Int} (h : 0 ≤ m ∧ m < 2) : m = 0 ∨ m = 1 := by omega

theorem st218 {n : Nat} (hn : 1 ≤ n) (s : StaI) (x : ActI) (h : 0 ≤ x.num ∧ x.num < 8) : RUN n 218 [sa s, aa x] = .ret (bl (opn s x.num)) := by
 obtain ⟨d, rfl⟩ : ∃ d, n = d + 1 := ⟨n - 1, by omega⟩
 rw [RUN, call_eq fe218 _ rfl]
 obtain ⟨t, k, m, a, b, c⟩ := x
 obtain ⟨st, o0, o1, o2, o3, o4, o5, o6, o7, k0, k1, pp, ar, sh, ad⟩ := s
 rcases eight h with rfl | rfl | rfl | rfl | rfl | rfl | rfl | rfl <;> simp -implicitDefEqProofs [c218, opn]

theorem st220 {n : Nat} (hn : 1 ≤ n) (s : StaI) (x : ActI) (h : 0 ≤ x.num ∧ x.num < 8) : RUN n 220 [sa s, aa x] = .ret (bl (!opn s x.num)) := by
 obtain ⟨d, rfl⟩ : ∃ d, n = d + 1 := ⟨n - 1, by omega⟩
 rw [RUN, call_eq fe220 _ rfl]
 obtain ⟨t, k, m, a, b, c⟩ := x
 obtain ⟨st, o0, o1, o2, o3, o4, o5, o6, o7, k0, k1, pp, ar, sh, ad⟩ := s
 rcases eight h with rfl | rfl | rfl | rfl | rfl | rfl | rfl | rfl <;> simp -implicitDefEqProofs [c220, opn]

theorem st223 {n : Nat} (hn : 1 ≤ n) (s : StaI) (x : ActI) (h : 0 ≤ x.num ∧ x.num < 2) : RUN n 223 [sa s, aa x] = .ret (bl (key s x.num)) := by
 obtain ⟨d, rfl⟩ : ∃ d, n = d + 1 := ⟨n - 1, by omega⟩
 rw [RUN, call_eq fe223 _ rfl]
 obtain ⟨t, k, m, a, b, c⟩ := x
 obtain ⟨st, o0, o1, o2, o3, o4, o5, o6, o7, k0, k1, pp, ar, sh, ad⟩ := s
 rcases two h with rfl | rfl <;> simp -implicitDefEqProofs [c223, key]

theorem st225 {n : Nat} (hn : 1 ≤ n) (s : StaI) (x : ActI) (h : 0 ≤ x.num ∧ x.num < 2) : RUN n 225 [sa s, aa x] = .ret (bl (!key s x.num)) := by
 obtain ⟨d, rfl⟩ : ∃ d, n = d + 1 := ⟨n - 1, by omega⟩
 rw [RUN, call_eq fe225 _ rfl]
 obtain ⟨t, k, m, a, b, c⟩ := x
 obtain ⟨st, o0, o1, o2, o3, o4, o5, o6, o7, k0, k1, pp, ar, sh, ad⟩ := s
 rcases two h with rfl | rfl <;> simp -implicitDefEqProofs [c225, key]

theorem st227 {n : Nat} (hn : 1 ≤ n) (s : StaI) (x : ActI) : RUN n 227 [sa s, aa x] = .ret (bl (decide (100 ≤ s.people))) := by
 obtain ⟨d, rfl⟩ : ∃ d, n = d + 1 := ⟨n - 1, by omega⟩
 rw [RUN, call_eq fe227 _ rfl]
 obtain ⟨t, k, m, a, b, c⟩ := x
 obtain ⟨st, o0, o1, o2, o3, o4, o5, o6, o7, k0, k1, pp, ar, sh, ad⟩ := s
 simp -implicitDefEqProofs [c227]

theorem st229 {n : Nat} (hn : 1 ≤ n) (s : StaI) (x : ActI) : RUN n 229 [sa s, aa x] = .ret (bl (s.people == 0)) := by
 obtain ⟨d, rfl⟩ : ∃ d, n = d + 1 := ⟨n - 1, by omega⟩
 rw [RUN, call_eq fe229 _ rfl]
 obtain ⟨t, k, m, a, b, c⟩ := x
 obtain ⟨st, o0, o1, o2, o3, o4, o5, o6, o7, k0, k1, pp, ar, sh, ad⟩ := s
 simp -implicitDefEqProofs [c229]

theorem st232 {n : Nat} (hn : 1 ≤ n) (s : StaI) (x : ActI) : RUN n 232 [sa s, aa x] = .ret (bl (s.armed)) := by
 obtain ⟨d, rfl⟩ : ∃ d, n = d + 1 := ⟨n - 1, by omega⟩
 rw [RUN, call_eq fe232 _ rfl]
 obtain ⟨t, k, m, a, b, c⟩ := x
 obtain ⟨st, o0, o1, o2, o3, o4, o5, o6, o7, k0, k1, pp, ar, sh, ad⟩ := s
 simp -implicitDefEqProofs [c232]

theorem st234 {n : Nat} (hn : 1 ≤ n) (s : StaI) (x : ActI) : RUN n 234 [sa s, aa x] = .ret (bl (!s.armed)) := by
 obtain ⟨d, rfl⟩ : ∃ d, n = d + 1 := ⟨n - 1, by omega⟩
 rw [RUN, call_eq fe234 _ rfl]
 obtain ⟨t, k, m, a, b, c⟩ := x
 obtain ⟨st, o0, o1, o2, o3, o4, o5, o6, o7, k0, k1, pp, ar, sh, ad⟩ := s
 simp -implicitDefEqProofs [c234]

theorem st236 {n : Nat} (hn : 1 ≤ n) (s : StaI) (x : ActI) : RUN n 236 [sa s, aa x] = .ret (bl (!s.armed)) := by
 obtain ⟨d, rfl⟩ : ∃ d, n = d + 1 := ⟨n - 1, by omega⟩
 rw [RUN, call_eq fe236 _ rfl]
 obtain ⟨t, k, m, a, b, c⟩ := x
 obtain ⟨st, o0, o1, o2, o3, o4, o5, o6, o7, k0, k1, pp, ar, sh, ad⟩ := s
 simp -implicitDefEqProofs [c236]

theorem st238 {n : Nat} (hn : 1 ≤ n) (s : StaI) (x : ActI) : RUN n 238 [sa s, aa x] = .ret (bl (s.shot == -1)) := by
 obtain ⟨d, rfl⟩ : ∃ d, n = d + 1 := ⟨n - 1, by omega⟩
 rw [RUN, call_eq fe238 _ rfl]
 obtain ⟨t, k, m, a, b, c⟩ := x
 obtain ⟨st, o0, o1, o2, o3, o4, o5, o6, o7, k0, k1, pp, ar, sh, ad⟩ := s
 simp -implicitDefEqProofs [c238]

theorem r240 {n : Nat} (hn : 1 ≤ n) (s : StaI) (x : ActI) : RUN n 240 [sa s, aa x] = .ret (bl (decide (x.tick < s.tick))) := by
 obtain ⟨d, rfl⟩ : ∃ d, n = d + 1 := ⟨n - 1, by omega⟩
 rw [RUN, call_eq fe240 _ rfl]
 obtain ⟨t, k, m, a, b, c⟩ := x
 obtain ⟨st, o0, o1, o2, o3, o4, o5, o6, o7, k0, k1, pp, ar, sh, ad⟩ := s
 simp -implicitDefEqProofs [c240]
theorem open214 {n : Nat} (hn : 1 ≤ n) (s : StaI) : RUN n 214 [sa s] = .ret (bl (anyO s)) := by
 obtain ⟨d, rfl⟩ : ∃ d, n = d + 1 := ⟨n - 1, by omega⟩
 rw [RUN, call_eq fe214 _ rfl]
 obtain ⟨st, o0, o1, o2, o3, o4, o5, o6, o7, k0, k1, pp, ar, sh, ad⟩ := s
 simp -implicitDefEqProofs [c214, anyO]
theorem admits249 {n : Nat} (hn : 1 ≤ n) (s : StaI) (t : Int) : RUN n 249 [sa s, iv t] = .ret (bl (admB s t)) := by
 obtain ⟨d, rfl⟩ : ∃ d, n = d + 1 := ⟨n - 1, by omega⟩
 rw [RUN, call_eq fe249 _ rfl]
 obtain ⟨st, o0, o1, o2, o3, o4, o5, o6, o7, k0, k1, pp, ar, sh, ad⟩ := s
 cases h1 : (ad != -1) <;> simp -implicitDefEqProofs [c249, admB, h1]

theorem r244 {n : Nat} (hn : 5 ≤ n) (s : StaI) (x : ActI) : RUN n 244 [sa s, aa x] = .ret (bl (armB s x)) := by
 obtain ⟨d, rfl⟩ : ∃ d, n = d + 5 := ⟨n - 5, by omega⟩
 rw [RUN, call_eq fe244 _ rfl]
 have ki : RUN (d + 4) 93 [aa x, .p (.sl [.str kOpen, .str kRemove, .str kEnter] 3)] = .ret (bl (decide (x.kind ∈ [kOpen, kRemove, kEnter]))) := is93 (by omega) x [kOpen, kRemove, kEnter] (by simp)
 unfold armB
 generalize decide (x.kind ∈ [kOpen, kRemove, kEnter]) = e at *
 obtain ⟨t, k, m, a, b, c⟩ := x
 obtain ⟨st, o0, o1, o2, o3, o4, o5, o6, o7, k0, k1, pp, ar, sh, ad⟩ := s
 simp only at *
 cases ar <;> simp -implicitDefEqProofs [c244, ki]

theorem r245 {n : Nat} (hn : 5 ≤ n) (s : StaI) (x : ActI) (h : NumOk x) : RUN n 245 [sa s, aa x] = .ret (bl (dooB s x)) := by
 obtain ⟨d, rfl⟩ : ∃ d, n = d + 5 := ⟨n - 5, by omega⟩
 rw [RUN, call_eq fe245 _ rfl]
 have ki : RUN (d + 4) 93 [aa x, .p (.sl [.str kEnter, .str kLeave] 2)] = .ret (bl (decide (x.kind ∈ [kEnter, kLeave]))) := is93 (by omega) x [kEnter, kLeave] (by simp)
 have ka : RUN (d + 4) 93 [aa x, .p (.sl [.str kArm] 1)] = .ret (bl (decide (x.kind ∈ [kArm]))) := is93 (by omega) x [kArm] (by simp)
 have ko := open214 (n := d + 4) (by omega) s
 have hb : decide (x.kind ∈ [kEnter, kLeave]) = true → 0 ≤ x.num ∧ x.num < 8 := fun e => h.2.1 (by
  simp only [decide_eq_true_eq, List.mem_cons, List.not_mem_nil, or_false] at e
  rcases e with e | e <;> rw [e] <;> decide)
 unfold dooB
 generalize decide (x.kind ∈ [kEnter, kLeave]) = e at *
 generalize decide (x.kind ∈ [kArm]) = f at *
 generalize anyO s = g at *
 obtain ⟨t, k, m, a, b, c⟩ := x
 obtain ⟨st, o0, o1, o2, o3, o4, o5, o6, o7, k0, k1, pp, ar, sh, ad⟩ := s
 simp only at *
 cases e with
 | false => cases f <;> simp -implicitDefEqProofs [c245, ki, ka, ko]
 | true =>
  rcases eight (hb rfl) with rfl | rfl | rfl | rfl | rfl | rfl | rfl | rfl
  ·cases o0 <;> cases f <;> simp -implicitDefEqProofs [c245, ki, ka, ko, opn]
  ·cases o1 <;> cases f <;> simp -implicitDefEqProofs [c245, ki, ka, ko, opn]
  ·cases o2 <;> cases f <;> simp -implicitDefEqProofs [c245, ki, ka, ko, opn]
  ·cases o3 <;> cases f <;> simp -implicitDefEqProofs [c245, ki, ka, ko, opn]
  ·cases o4 <;> cases f <;> simp -implicitDefEqProofs [c245, ki, ka, ko, opn]
  ·cases o5 <;> cases f <;> simp -implicitDefEqProofs [c245, ki, ka, ko, opn]
  ·cases o6 <;> cases f <;> simp -implicitDefEqProofs [c245, ki, ka, ko, opn]
  ·cases o7 <;> cases f <;> simp -implicitDefEqProofs [c245, ki, ka, ko, opn]

theorem r246 {n : Nat} (hn : 5 ≤ n) (s : StaI) (x : ActI) : RUN n 246 [sa s, aa x] = .ret (bl (peoB s x)) := by
 obtain ⟨d, rfl⟩ : ∃ d, n = d + 5 := ⟨n - 5, by omega⟩
 rw [RUN, call_eq fe246 _ rfl]
 have ki : RUN (d + 4) 93 [aa x, .p (.sl [.str kArm] 1)] = .ret (bl (decide (x.kind ∈ [kArm]))) := is93 (by omega) x [kArm] (by simp)
 unfold peoB
 generalize decide (x.kind ∈ [kArm]) = e at *
 obtain ⟨t, k, m, a, b, c⟩ := x
 obtain ⟨st, o0, o1, o2, o3, o4, o5, o6, o7, k0, k1, pp, ar, sh, ad⟩ := s
 simp only at *
 cases e <;> simp -implicitDefEqProofs [c246, ki]

theorem r247 {n : Nat} (hn : 5 ≤ n) (s : StaI) (x : ActI) : RUN n 247 [sa s, aa x] = .ret (bl (keyR s x)) := by
 obtain ⟨d, rfl⟩ : ∃ d, n = d + 5 := ⟨n - 5, by omega⟩
 rw [RUN, call_eq fe247 _ rfl]
 have ki : RUN (d + 4) 93 [aa x, .p (.sl [.str kArm] 1)] = .ret (bl (decide (x.kind ∈ [kArm]))) := is93 (by omega) x [kArm] (by simp)
 unfold keyR
 generalize decide (x.kind ∈ [kArm]) = e at *
 obtain ⟨t, k, m, a, b, c⟩ := x
 obtain ⟨st, o0, o1, o2, o3, o4, o5, o6, o7, k0, k1, pp, ar, sh, ad⟩ := s
 simp only at *
 cases e <;> simp -implicitDefEqProofs [c247, ki]

theorem r248 {n : Nat} (hn : 5 ≤ n) (s : StaI) (x : ActI) : RUN n 248 [sa s, aa x] = .ret (bl (waiB s x)) := by
 obtain ⟨d, rfl⟩ : ∃ d, n = d + 5 := ⟨n - 5, by omega⟩
 rw [RUN, call_eq fe248 _ rfl]
 have ki : RUN (d + 4) 93 [aa x, .p (.sl [.str kOpen, .str kEnter, .str kArm] 3)] = .ret (bl (decide (x.kind ∈ [kOpen, kEnter, kArm]))) := is93 (by omega) x [kOpen, kEnter, kArm] (by simp)
 have ko := admits249 (n := d + 4) (by omega) s x.tick
 unfold waiB
 generalize admB s x.tick = f at *
 generalize decide (x.kind ∈ [kOpen, kEnter, kArm]) = e at *
 obtain ⟨t, k, m, a, b, c⟩ := x
 obtain ⟨st, o0, o1, o2, o3, o4, o5, o6, o7, k0, k1, pp, ar, sh, ad⟩ := s
 simp only at *
 cases e <;> simp -implicitDefEqProofs [c248, ki, ko]

end Fw
