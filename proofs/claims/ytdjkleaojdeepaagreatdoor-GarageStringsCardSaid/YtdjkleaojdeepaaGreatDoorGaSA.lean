/- Several texts in one: each is told at its head. -/
import Derived.Test.YtdjkleaojdeepaaGreatDoorGaS6
section
/- Integers of a string of acts; words taken from a line. -/
set_option maxHeartbeats 16000000
set_option maxRecDepth 8000
namespace Fw
open Go
attribute [local irreducible] evCode evOps evOpsD evOper evOperD evOp evFn loopN T.All T.bind callPure callOp opsK opsDK restK seqK blockK loopS setK setQ giveK scalK gcK finish finS rfunK yldK yldB loopK

abbrev iEnd (x : List UInt8) (v : Int) : Env := [(0, sv x), (4, iv v), (8, .it 0), (9, .tup [.p (.bool false)]), (10, .p (.bool false))]
abbrev rEnd : Env := [(2, iv 0), (3, .p (.bool false))]
theorem integer_loop {d : Nat} (x : List UInt8) (hx : x.length < 1000000) :
  (∃ v j, loopN (loopS (evFn F C0 G0 d) C0 G0 0 false [0, 4, 8] c172L0) loopFuel ⟨[(0, sv x), (4, iv 0), (8, .it 0)], [(0, .siter x 0)]⟩ = .ret (.exit 0, ⟨iEnd x v, [(0, .siter x j)]⟩) ∧ (x.all digB = true ∧ x.length ≤ 9 ∧ v = digV x)) ∨
   (∃ j, loopN (loopS (evFn F C0 G0 d) C0 G0 0 false [0, 4, 8] c172L0) loopFuel ⟨[(0, sv x), (4, iv 0), (8, .it 0)], [(0, .siter x 0)]⟩ = .ret (.ret, ⟨rEnd, [(0, .siter x j)]⟩) ∧ digOk x = false) := by
 by_cases h9 : 9 < x.length
 ·right
  have h9' : (9 : Int) < x.length := by omega
  have hpos : 0 < x.length := by omega
  refine ⟨0 + (Utf8.decode ⟨x.toArray⟩ 0).2, ?_, ?_⟩
  ·refine loopN_end ?_ (by simp) (by simp [loopFuel])
   generalize hdq : Utf8.decode ⟨x.toArray⟩ 0 = dc
   by_cases c1 : (dc.1 : Int) < 48
   ·simp -implicitDefEqProofs [loopS_eq, c172L0, hpos, hdq, c1]
   ·by_cases c2 : (57 : Int) < dc.1
    ·simp -implicitDefEqProofs [loopS_eq, c172L0, hpos, hdq, c1, c2]
    ·simp -implicitDefEqProofs [loopS_eq, c172L0, hpos, hdq, c1, c2, h9']
  ·simp [digOk]; omega
 ·have h9' : ¬ (9 : Int) < x.length := by omega
  have h9 : x.length ≤ 9 := by omega
  let inv : Nat → St := fun i => ⟨[(0, sv x), (4, iv (valW x i)), (8, .it 0)], [(0, .siter x i)]⟩
  have key := loop_first (step := loopS (evFn F C0 G0 d) C0 G0 0 false [0, 4, 8] c172L0) inv (digE x) x.length (.exit 0, ⟨iEnd x (valW x x.length), [(0, .siter x x.length)]⟩) (fun i => (.ret, ⟨rEnd, [(0, .siter x (i + (Utf8.decode ⟨x.toArray⟩ i).2))]⟩))
     (st0 := ⟨[(0, sv x), (4, iv 0), (8, .it 0)], [(0, .siter x 0)]⟩) rfl (fun i hi => by
      have hgi : x.getD i 0 = x[i] := by simp [List.getD_eq_getElem?_getD, List.getElem?_eq_getElem hi]
      refine ⟨fun hz => ⟨inv (i + 1), ?_, rfl⟩, fun hz => ?_⟩
      ·obtain ⟨b1, b2⟩ := digE_zero hi hz
       have hdc := decode_lo x i hi (by omega)
       have c1 : ¬ (x[i].toNat : Int) < 48 := by omega
       have c2 : ¬ (57 : Int) < x[i].toNat := by omega
       have w8 : IntKind.i32.wrap ((x[i].toNat : Int) - 48) = (x[i].toNat : Int) - 48 := by rw [IntKind.wrap_i32]; omega
       have w6 : IntKind.i64.wrap ((x[i].toNat : Int) - 48) = (x[i].toNat : Int) - 48 := wrap64 (by omega) (by omega)
       have hv : valW x (i + 1) = IntKind.i64.wrap (IntKind.i64.wrap (10 * valW x i) + ((x[i].toNat : Int) - 48)) := by simp only [valW, hgi]
       simp -implicitDefEqProofs [inv, loopS_eq, c172L0, hi, hdc, c1, c2, w8, w6, hv, h9']
      ·by_cases ha : x[i].toNat < 128
       ·have hdc := decode_lo x i hi ha
        rcases digE_one hi hz with b | b
        ·have c1 : (x[i].toNat : Int) < 48 := by omega
         simp -implicitDefEqProofs [inv, loopS_eq, c172L0, hi, hdc, c1]
        ·have c1 : ¬ (x[i].toNat : Int) < 48 := by omega
         have c2 : (57 : Int) < x[i].toNat := by omega
         simp -implicitDefEqProofs [inv, loopS_eq, c172L0, hi, hdc, c1, c2]
       ·have hdc := decode_hi x i hi (by omega)
        generalize hdq : Utf8.decode ⟨x.toArray⟩ i = dc at *
        have c1 : ¬ (dc.1 : Int) < 48 := by omega
        have c2 : (57 : Int) < dc.1 := by omega
        simp -implicitDefEqProofs [inv, loopS_eq, c172L0, hi, hdq, c1, c2]) (fun i => by simp) (by simp -implicitDefEqProofs [inv, loopS_eq, c172L0]) (by simp) (fuel := loopFuel) (by simp [loopFuel]; omega)
  rcases key with ⟨k1, k2⟩ | ⟨j, hj, k1, k2, k3, _⟩
  ·have hall := digE_all k2
   have hvw := valW_eq hall h9 x.length (Nat.le_refl _)
   exact .inl ⟨valW x x.length, x.length, k1, hall, h9, hvw⟩
  ·have hall := digE_not hj k3
   exact .inr ⟨_, k1, by simp [digOk, hall]⟩
def Itg (x : List UInt8) (v : Int) : Prop := digOk x = true → v = digV x
theorem integer172 {n : Nat} (hn : 1 ≤ n) (x : List UInt8) (hx : x.length < 1000000) : ∃ v, RUN n 172 [sv x] = .ret (.tup [iv v, .p (.bool (digOk x))]) ∧ Itg x v := by
 obtain ⟨d, rfl⟩ : ∃ d, n = d + 1 := ⟨n - 1, by omega⟩
 rcases integer_loop (d := d) x hx with ⟨v, j, k, h1, h2, h3⟩ | ⟨j, k, h1⟩
 ·refine ⟨v, ?_, fun _ => h3⟩
  rw [RUN, call_eq fe172 _ rfl]
  simp -implicitDefEqProofs [c172]
  rw [show loopN _ _ _ = _ from k]
  by_cases h0 : x = []
  ·subst h0
   simp -implicitDefEqProofs [digOk, strBin]
  ·have hpos : 0 < x.length := List.length_pos_iff.2 h0
   have hb : x.isEmpty = false := by simpa using h0
   have hg0 : x[0]? = some x[0] := List.getElem?_eq_getElem hpos
   have hgd : x[0]?.getD 0 = x[0] := by simp [hg0]
   by_cases hl1 : x.length = 1
   ·have e1 : ((x.length : Int) == 1) = true := by rw [hl1]; rfl
    have ed : digOk x = true := by simp [digOk, h0, h1, hl1, leadB]
    rw [ed]
    simp -implicitDefEqProofs [hb, e1, strBin]
   ·have e1 : ((x.length : Int) == 1) = false := by rw [beq_eq_false_iff_ne]; omega
    by_cases h48 : x[0] = 48
    ·have ed : digOk x = false := by simp [digOk, leadB, hl1, hgd, h48]
     have e2 : (x[0].toNat : Int) = 48 := by rw [h48]; rfl
     rw [ed]
     simp -implicitDefEqProofs [hb, e1, hpos, strBin]
     exact e2
    ·have e2 : ((x[0].toNat : Int) == 48) = false := by
      rw [beq_eq_false_iff_ne]
      intro e
      apply h48
      apply UInt8.toNat_inj.1
      have : x[0].toNat = 48 := by omega
      simpa using this
     have ed : digOk x = true := by simp [digOk, leadB, h0, h1, h2, hl1, hgd, h48]
     rw [ed]
     simp -implicitDefEqProofs [hb, e1, hpos, strBin]
     simpa using e2
 ·refine ⟨0, ?_, fun h => by rw [h1] at h; cases h⟩
  rw [RUN, call_eq fe172 _ rfl]
  simp -implicitDefEqProofs [c172]
  rw [show loopN _ _ _ = _ from k, h1]
  simp
end Fw
end

section
/- Words and numbers taken from a line. -/
set_option maxHeartbeats 16000000
set_option maxRecDepth 8000
namespace Fw
open Go
attribute [local irreducible] evCode evOps evOpsD evOper evOperD evOp evFn loopN T.All T.bind callPure callOp opsK opsDK restK seqK blockK loopS setK setQ giveK scalK gcK finish finS rfunK yldK yldB loopK

abbrev tkA (ws : List (List UInt8)) (w : Bool) : Obj := .box [.p (.sl (pStr ws) ws.length), .p (.bool w)]
def wordA (ws : List (List UInt8)) (w : Bool) : List UInt8 × List (List UInt8) × Bool := match ws with
 | [] => ([], [], true)
 | x :: r => (x, r, w)
theorem word158 {d : Nat} (ws : List (List UInt8)) (w : Bool) (k : Nat) (Z R : Sto) (hZ : ∀ o, get (Z ++ (k, o) :: R) k = some o) (hP : ∀ o o', put (Z ++ (k, o) :: R) k o' = Z ++ (k, o') :: R) :
  evFn F C0 G0 (d + 1) (.fn 158) [.ptr k 0 0] (Z ++ (k, tkA ws w) :: R) = .ret (sv (wordA ws w).1, Z ++ (k, tkA (wordA ws w).2.1 (wordA ws w).2.2) :: R) := by
 rw [evFn_fn fe158]
 match ws with
 | [] => simp -implicitDefEqProofs [c158, hZ, hP, wordA]
 | x :: r =>
  have hp : pStr (x :: r) = .str x :: pStr r := rfl
  have b1 : ((r.length : Int) + 1 == 0) = false := by rw [beq_eq_false_iff_ne]; omega
  have b2 : (1 : Int) ≤ (r.length : Int) + 1 := by omega
  have htl : (pStr r).take r.length = pStr r := List.take_of_length_le (by simp)
  simp -implicitDefEqProofs [c158, hZ, hP, wordA, hp, b1, b2, htl]
def numA (ws : List (List UInt8)) (w : Bool) : List (List UInt8) × Bool := ((wordA ws w).2.1, (wordA ws w).2.2 || !digOk (wordA ws w).1)
theorem number157 {d : Nat} (ws : List (List UInt8)) (w : Bool) (hT : ∀ x ∈ ws, x.length < 1000000) (X Y : Obj) :
  ∃ v, evFn F C0 G0 (d + 2) (.fn 157) [.ptr 1 0 0] [(2, X), (1, tkA ws w), (0, Y)] = .ret (iv v, [(2, X), (1, tkA (numA ws w).1 (numA ws w).2), (0, Y)]) ∧ Itg (wordA ws w).1 v := by
 have h1 := word158 (d := d) ws w 1 [(2, X)] [(0, Y)] (by simp) (by simp)
 simp only [List.cons_append, List.nil_append] at h1
 have hx : (wordA ws w).1.length < 1000000 := by
  cases ws with
  | nil => simp [wordA]
  | cons x r => exact hT x (by simp)
 obtain ⟨v, k2, hv⟩ := integer172 (n := d + 1) (by omega) (wordA ws w).1 hx
 refine ⟨v, ?_, hv⟩
 rw [evFn_fn fe157]
 unfold numA
 generalize wordA ws w = K at *
 obtain ⟨x, ws', w'⟩ := K
 simp only at *
 generalize digOk x = dx at *
 have hg : ∀ (a : AVal), refs a = [] → gc 3 [(0, a)] [(2, X), (1, tkA ws' w'), (0, Y)] = [(2, X), (1, tkA ws' w'), (0, Y)] := fun a _ => gc_all (by simp)
 have hg0 : ∀ E, gc 3 E [(2, X), (1, tkA ws' w'), (0, Y)] = [(2, X), (1, tkA ws' w'), (0, Y)] := fun E => gc_all (by simp)
 have hg1 : ∀ E b, gc 3 E [(2, X), (1, tkA ws' b), (0, Y)] = [(2, X), (1, tkA ws' b), (0, Y)] := fun E b => gc_all (by simp)
 cases w' with
 | true =>
  simp -implicitDefEqProofs [c157, h1, k2, hg0, -gc]
 | false =>
  cases dx <;> simp -implicitDefEqProofs [c157, h1, k2, hg0, -gc]
end Fw
end

section
/- A line read as an act: by the chapter. -/
set_option maxHeartbeats 16000000
set_option maxRecDepth 8000
namespace Fw
open Go
attribute [local irreducible] evCode evOps evOpsD evOper evOperD evOp evFn loopN T.All T.bind callPure callOp opsK opsDK restK seqK blockK loopS setK setQ giveK scalK gcK finish finS rfunK yldK yldB loopK

def wordsA : List (List UInt8) → Option ActI
 | [k, t] => if k ∈ [kArm, kDisarm, kShoot] ∧ digOk t = true then some ⟨digV t, k, 0, 0, 0, 0⟩ else none
 | [k, t, m] => if k ∈ kindL ∧ ¬ k = kMeasure ∧ ¬ k ∈ [kArm, kDisarm, kShoot] ∧ digOk t = true ∧ digOk m = true then some ⟨digV t, k, digV m, 0, 0, 0⟩ else none
 | [k, t, a, b, c] => if k = kMeasure ∧ digOk t = true ∧ digOk a = true ∧ digOk b = true ∧ digOk c = true then some ⟨digV t, k, 0, digV a, digV b, digV c⟩ else none
 | _ => none
def actW (w : List UInt8) : Option ActI := wordsA (splitS 32 w)
def leftA (ws : List (List UInt8)) : List (List UInt8) × Bool :=
 let k := (wordA ws false).1
 let p := numA (wordA ws false).2.1 (wordA ws false).2.2
 if k = kMeasure then numA (numA (numA p.1 p.2).1 (numA p.1 p.2).2).1 (numA (numA p.1 p.2).1 (numA p.1 p.2).2).2
 else if k ∈ [kArm, kDisarm, kShoot] then p else numA p.1 p.2
theorem numA_cons {x : List UInt8} {r : List (List UInt8)} (h : digOk x = true) : numA (x :: r) false = (r, false) := by simp [numA, wordA, h]
theorem wordsA_isSome (ws : List (List UInt8)) : (wordsA ws).isSome = (decide ((wordA ws false).1 ∈ kindL) && (!(leftA ws).2 && decide ((leftA ws).1 = []))) := by
 have m1 : kMeasure ∈ kindL := by decide
 have m2 : ¬ kMeasure ∈ [kArm, kDisarm, kShoot] := by decide
 have m3 : ¬ ([] : List UInt8) ∈ kindL := by decide
 have m4 : ∀ k, k ∈ [kArm, kDisarm, kShoot] → k ∈ kindL := by
  intro k h
  simp only [List.mem_cons, List.not_mem_nil, or_false] at h
  rcases h with h | h | h <;> subst h <;> decide
 rcases ws with _ | ⟨k, _ | ⟨t, _ | ⟨a, _ | ⟨b, _ | ⟨c, _ | ⟨e, r⟩⟩⟩⟩⟩⟩
 ·simp only [wordsA, wordA]; rfl
 all_goals
  by_cases hm : k = kMeasure
  ·subst hm
   simp only [wordsA, leftA, numA, wordA, m1, m2, if_true, if_false, decide_true, Bool.true_and, Bool.false_or, not_true, true_and, false_and, and_false]
   try (cases digOk t)
   all_goals first | (simp; done) | (cases digOk a <;> cases digOk b <;> cases digOk c <;> simp)
  ·by_cases ha : k ∈ [kArm, kDisarm, kShoot]
   ·have hk := m4 k ha
    simp only [wordsA, leftA, numA, wordA, hm, ha, hk, if_true, if_false, decide_true, Bool.true_and, Bool.false_or, not_true, true_and, false_and, and_false]
    try (cases digOk t)
    all_goals simp
   ·by_cases hk : k ∈ kindL
    ·simp only [wordsA, leftA, numA, wordA, hm, ha, hk, if_false, decide_true, Bool.true_and, Bool.false_or, not_false_eq_true, true_and, false_and]
     try (cases digOk t)
     all_goals first | (simp; done) | (cases digOk a <;> simp)
    ·simp only [wordsA, leftA, numA, wordA, hm, ha, hk, if_false, decide_false, Bool.false_and, false_and]
     all_goals simp
end Fw
end

section
/- A line read as an act: by the chapter, the walk. -/
set_option maxHeartbeats 16000000
set_option maxRecDepth 8000
namespace Fw
open Go
attribute [local irreducible] evCode evOps evOpsD evOper evOperD evOp evFn loopN T.All T.bind callPure callOp opsK opsDK restK seqK blockK loopS setK setQ giveK scalK gcK finish finS rfunK yldK yldB loopK

theorem hidT4a : hidT 4 = [2] := by decide
abbrev vsK : List PVal := [.int .i64 0, .int .i64 1, .int .i64 2, .int .i64 3, .int .i64 4, .int .i64 5, .int .i64 6, .int .i64 7, .int .i64 8, .int .i64 9]
theorem find_kind (k : List UInt8) : (∃ v, mapFind (.str k) (pStr kindL) vsK = some (some v) ∧ decide (k ∈ kindL) = true) ∨ (mapFind (.str k) (pStr kindL) vsK = some none ∧ decide (k ∈ kindL) = false) := by
 by_cases h : k ∈ kindL
 ·left
  have h' := h
  simp only [kindL, List.mem_cons, List.not_mem_nil, or_false] at h
  rcases h with h | h | h | h | h | h | h | h | h | h <;> subst h <;> exact ⟨_, rfl, rfl⟩
 ·exact .inr ⟨find_no k vsK kindL rfl h, decide_eq_false h⟩
theorem wordsA_arm {k : List UInt8} {r : List (List UInt8)} {y : ActI} (ha : k ∈ [kArm, kDisarm, kShoot]) (h : wordsA (k :: r) = some y) : ∃ t, r = [t] ∧ digOk t = true ∧ y = ⟨digV t, k, 0, 0, 0, 0⟩ := by
 have hm : ¬ k = kMeasure := fun e => by subst e; exact absurd ha (by decide)
 rcases r with _ | ⟨t, _ | ⟨a, _ | ⟨b, _ | ⟨c, _ | ⟨e, r⟩⟩⟩⟩⟩
 ·cases h
 ·simp only [wordsA, ha, true_and] at h
  split at h
  ·rename_i ht; exact ⟨t, rfl, ht, (Option.some.inj h).symm⟩
  ·cases h
 ·simp only [wordsA, ha, not_true, false_and, and_false, if_false] at h; cases h
 ·cases h
 ·simp only [wordsA, hm, false_and, if_false] at h; cases h
 ·cases h
theorem wordsA_two {k : List UInt8} {r : List (List UInt8)} {y : ActI} (hm : ¬ k = kMeasure) (ha : ¬ k ∈ [kArm, kDisarm, kShoot]) (h : wordsA (k :: r) = some y) : ∃ t m, r = [t, m] ∧ digOk t = true ∧ digOk m = true ∧ y = ⟨digV t, k, digV m, 0, 0, 0⟩ := by
 rcases r with _ | ⟨t, _ | ⟨a, _ | ⟨b, _ | ⟨c, _ | ⟨e, r⟩⟩⟩⟩⟩
 ·cases h
 ·simp only [wordsA, ha, false_and, if_false] at h; cases h
 ·simp only [wordsA] at h
  split at h
  ·rename_i ht; exact ⟨t, a, rfl, ht.2.2.2.1, ht.2.2.2.2, (Option.some.inj h).symm⟩
  ·cases h
 ·cases h
 ·simp only [wordsA, hm, false_and, if_false] at h; cases h
 ·cases h
theorem wordsA_five {r : List (List UInt8)} {y : ActI} (h : wordsA (kMeasure :: r) = some y) : ∃ t a b c, r = [t, a, b, c] ∧ digOk t = true ∧ digOk a = true ∧ digOk b = true ∧ digOk c = true ∧ y = ⟨digV t, kMeasure, 0, digV a, digV b, digV c⟩ := by
 have h3 : ¬ kMeasure ∈ [kArm, kDisarm, kShoot] := by decide
 rcases r with _ | ⟨t, _ | ⟨a, _ | ⟨b, _ | ⟨c, _ | ⟨e, r⟩⟩⟩⟩⟩
 ·cases h
 ·simp only [wordsA, h3, false_and, if_false] at h; cases h
 ·simp only [wordsA, not_true, false_and, and_false, if_false] at h; cases h
 ·cases h
 ·simp only [wordsA, true_and] at h
  split at h
  ·rename_i ht; exact ⟨t, a, b, c, rfl, ht.1, ht.2.1, ht.2.2.1, ht.2.2.2, (Option.some.inj h).symm⟩
  ·cases h
 ·cases h
abbrev mE (i : Int) : Env := [(2, .ptr 0 0 0), (4, .ptr 1 0 0), (5, .clo 157 [.ptr 1 0 0] []), (6, .ptr 2 0 0), (26, iv i)]
abbrev mX (v : Int) (k : List UInt8) (a b c : Int) : Obj := .arr [.int .i64 v, .str k, .int .i64 0, .int .i64 a, .int .i64 b, .int .i64 c] 0 1
abbrev mZ : Obj := .arr [.int .i64 0, .str [], .int .i64 0, .int .i64 0, .int .i64 0, .int .i64 0] 0 1
theorem numA_hT {ws : List (List UInt8)} {w : Bool} (h : ∀ x ∈ ws, x.length < 1000000) : ∀ x ∈ (numA ws w).1, x.length < 1000000 := by
 cases ws with
 | nil => simp [numA, wordA]
 | cons x r => exact fun y hy => h y (by simp [numA, wordA] at hy; simp [hy])
theorem measure_loop {d : Nat} (v : Int) (k : List UInt8) (ws : List (List UInt8)) (w : Bool) (hT : ∀ x ∈ ws, x.length < 1000000) :
  ∃ a b c, loopN (loopS (evFn F C0 G0 (d + 2)) C0 G0 0 true [2, 4, 5, 6, 26] c127L0) loopFuel ⟨mE 0, [(2, mX v k 0 0 0), (1, tkA ws w), (0, mZ)]⟩ =
   .ret (.exit 1, ⟨[(2, .ptr 0 0 0), (4, .ptr 1 0 0), (5, .clo 157 [.ptr 1 0 0] []), (6, .ptr 2 0 0), (26, iv 3), (27, .p (.bool false))], [(2, mX v k a b c), (1, tkA (numA (numA (numA ws w).1 (numA ws w).2).1 (numA (numA ws w).1 (numA ws w).2).2).1 (numA (numA (numA ws w).1 (numA ws w).2).1 (numA (numA ws w).1 (numA ws w).2).2).2), (0, mZ)]⟩) ∧
   Itg (wordA ws w).1 a ∧ Itg (wordA (numA ws w).1 (numA ws w).2).1 b ∧ Itg (wordA (numA (numA ws w).1 (numA ws w).2).1 (numA (numA ws w).1 (numA ws w).2).2).1 c := by
 have hT2 := numA_hT (w := w) hT
 obtain ⟨a, ka, ia⟩ := number157 (d := d) ws w hT (mX v k 0 0 0) mZ
 generalize hN1 : numA ws w = N1 at *
 obtain ⟨ws1, w1⟩ := N1
 simp only at *
 have hT3 := numA_hT (w := w1) hT2
 obtain ⟨b, kb, ib⟩ := number157 (d := d) ws1 w1 hT2 (mX v k a 0 0) mZ
 generalize hN2 : numA ws1 w1 = N2 at *
 obtain ⟨ws2, w2⟩ := N2
 simp only at *
 obtain ⟨c, kc, ic⟩ := number157 (d := d) ws2 w2 hT3 (mX v k a b 0) mZ
 generalize hN3 : numA ws2 w2 = N3 at *
 obtain ⟨ws3, w3⟩ := N3
 simp only at *
 refine ⟨a, b, c, ?_, ia, ib, ic⟩
 rw [loopN_on' (st2 := ⟨mE 1, [(2, mX v k a 0 0), (1, tkA ws1 w1), (0, mZ)]⟩) ?h1 (by simp [loopFuel]), loopN_on' (st2 := ⟨mE 2, [(2, mX v k a b 0), (1, tkA ws2 w2), (0, mZ)]⟩) ?h2 (by simp [loopFuel]), loopN_on' (st2 := ⟨mE 3, [(2, mX v k a b c), (1, tkA ws3 w3), (0, mZ)]⟩) ?h3 (by simp [loopFuel]), loopN_end (e := .exit 1) ?h4 (by simp) (by simp [loopFuel])]
 case h1 =>
  refine ⟨?_, ?g1, ?g2⟩
  case g1 =>
   simp -implicitDefEqProofs [loopS_eq, c127L0, ka]
   exact rfl
  case g2 => exact loopS_same rfl (by simp)
 case h2 =>
  refine ⟨?_, ?g1, ?g2⟩
  case g1 =>
   simp -implicitDefEqProofs [loopS_eq, c127L0, kb]
   exact rfl
  case g2 => exact loopS_same rfl (by simp)
 case h3 =>
  refine ⟨?_, ?g1, ?g2⟩
  case g1 =>
   simp -implicitDefEqProofs [loopS_eq, c127L0, kc]
   exact rfl
  case g2 => exact loopS_same rfl (by simp)
 case h4 =>
  simp -implicitDefEqProofs [loopS_eq, c127L0]
theorem act127 {n : Nat} (hn : 6 ≤ n) (w : List UInt8) (hw : w.length < 1000000) (hs : ∀ x ∈ splitS 32 w, x.length < 1000000) : ∃ x, RUN n 127 [sv w] = .ret (.tup [aa x, .p (.bool (actW w).isSome)]) ∧ ∀ y, actW w = some y → x = y := by
 obtain ⟨d, rfl⟩ : ∃ d, n = d + 6 := ⟨n - 6, by omega⟩
 rw [RUN, call_eq fe127 _ rfl]
 have k1 := split156 (n := d + 5) (by omega) w 32 hw
 unfold actW
 generalize splitS 32 w = ws at *
 have k2 := word158 (d := d + 4) ws false 1 [] [(0, .arr [.int .i64 0, .str [], .int .i64 0, .int .i64 0, .int .i64 0, .int .i64 0] 0 1)] (by simp) (by simp)
 simp only [List.nil_append] at k2
 have hT : ∀ x ∈ (wordA ws false).2.1, x.length < 1000000 := by
  cases ws with
  | nil => simp [wordA]
  | cons x r => exact fun y hy => hs y (by simp [wordA] at hy; simp [hy])
 generalize hK : wordA ws false = K at *
 obtain ⟨k, ws1, w1⟩ := K
 simp only at k2 hT
 obtain ⟨v1, k3, hv1⟩ := number157 (d := d + 3) ws1 w1 hT (.arr [.int .i64 0, .str k, .int .i64 0, .int .i64 0, .int .i64 0, .int .i64 0] 0 1) (.arr [.int .i64 0, .str [], .int .i64 0, .int .i64 0, .int .i64 0, .int .i64 0] 0 1)
 have i1 : RUN (d + 5) 93 [aa ⟨v1, k, 0, 0, 0, 0⟩, .p (.sl [.str kMeasure] 1)] = .ret (bl (decide (k ∈ [kMeasure]))) := is93 (by omega) ⟨v1, k, 0, 0, 0, 0⟩ [kMeasure] (by simp)
 have i2 : RUN (d + 5) 93 [aa ⟨v1, k, 0, 0, 0, 0⟩, .p (.sl [.str kArm, .str kDisarm, .str kShoot] 3)] = .ret (bl (decide (k ∈ [kArm, kDisarm, kShoot]))) := is93 (by omega) ⟨v1, k, 0, 0, 0, 0⟩ [kArm, kDisarm, kShoot] (by simp)
 simp only [List.mem_singleton] at i1
 have e1 : kMeasure = [109, 101, 97, 115, 117, 114, 101] := rfl
 have e2 : kArm = [97, 114, 109] := rfl
 have e3 : kDisarm = [100, 105, 115, 97, 114, 109] := rfl
 have e4 : kShoot = [115, 104, 111, 111, 116] := rfl
 have kb := byWord136 (n := d + 5) (by omega)
 rw [e1] at i1
 rw [e2, e3, e4] at i2
 by_cases hm : k = [109, 101, 97, 115, 117, 114, 101]
 ·rw [decide_eq_true hm] at i1
  have hm' : k = kMeasure := hm
  have hT2 := numA_hT (w := w1) hT
  generalize hN : numA ws1 w1 = N1 at *
  obtain ⟨ws2, w2⟩ := N1
  simp only at k3 hT2
  obtain ⟨a, b, c, kl, ja, jb, jc⟩ := measure_loop (d := d + 3) v1 k ws2 w2 hT2
  have hL : leftA ws = numA (numA (numA ws2 w2).1 (numA ws2 w2).2).1 (numA (numA ws2 w2).1 (numA ws2 w2).2).2 := by
   unfold leftA
   rw [hK]
   simp only
   rw [if_pos hm', hN]
  have hW := wordsA_isSome ws
  rw [hL, hK] at hW
  simp only at hW
  have hV : ∀ y, wordsA ws = some y → ⟨v1, k, 0, a, b, c⟩ = y := fun y hy => by
   cases ws with
   | nil => cases hy
   | cons q r =>
    simp only [wordA, Prod.mk.injEq] at hK
    obtain ⟨rfl, rfl, rfl⟩ := hK
    subst hm'
    obtain ⟨t, p1, p2, p3, rfl, ht, h1, h2, h3, rfl⟩ := wordsA_five hy
    rw [numA_cons ht] at hN
    simp only [Prod.mk.injEq] at hN
    obtain ⟨rfl, rfl⟩ := hN
    rw [numA_cons h1] at jb jc
    simp only at jb jc
    rw [numA_cons h2] at jc
    simp only [wordA] at ja jb jc
    rw [show v1 = digV t from hv1 ht, show a = digV p1 from ja h1, show b = digV p2 from jb h2, show c = digV p3 from jc h3]
  generalize numA (numA (numA ws2 w2).1 (numA ws2 w2).2).1 (numA (numA ws2 w2).1 (numA ws2 w2).2).2 = N4 at *
  obtain ⟨ws3, w3⟩ := N4
  simp only at kl hW
  have goal : ∀ x : ActI, x = ⟨v1, k, 0, a, b, c⟩ → ∀ y, wordsA ws = some y → x = y := fun x e y hy => by rw [e]; exact hV y hy
  rcases find_kind k with ⟨v, f1, f2⟩ | ⟨f1, f2⟩
  ·rw [f2] at hW
   cases w3 with
   | true =>
    simp only [Bool.not_true, Bool.false_and, Bool.and_false, Option.isSome_eq_false_iff, Option.isNone_iff_eq_none] at hW
    simp -implicitDefEqProofs [c127, k1, k2, k3, kl, i1, kb, f1, stOp, plain]
    exact ⟨⟨v1, k, 0, a, b, c⟩, ⟨⟨rfl, rfl, rfl, rfl, rfl, rfl⟩, hW⟩, goal _ rfl⟩
   | false =>
    simp -implicitDefEqProofs [c127, k1, k2, k3, kl, i1, kb, f1, hide, hidI, hidT4a, stOp, plain]
    refine ⟨⟨v1, k, 0, a, b, c⟩, ⟨⟨rfl, rfl, rfl, rfl, rfl, rfl⟩, ?_⟩, goal _ rfl⟩
    rw [hW]
    cases ws3 with
    | nil => rfl
    | cons p r => simp; omega
  ·rw [f2] at hW
   simp only [Bool.false_and, Option.isSome_eq_false_iff, Option.isNone_iff_eq_none] at hW
   simp -implicitDefEqProofs [c127, k1, k2, k3, kl, i1, kb, f1, stOp, plain]
   exact ⟨⟨v1, k, 0, a, b, c⟩, ⟨⟨rfl, rfl, rfl, rfl, rfl, rfl⟩, hW⟩, goal _ rfl⟩
 ·rw [decide_eq_false hm] at i1
  by_cases ha : k ∈ [[97, 114, 109], [100, 105, 115, 97, 114, 109], [115, 104, 111, 111, 116]]
  ·rw [decide_eq_true ha] at i2
   generalize hN : numA ws1 w1 = N1 at *
   obtain ⟨ws2, w2⟩ := N1
   simp only at k3
   have ha' : k ∈ [kArm, kDisarm, kShoot] := ha
   have hW := wordsA_isSome ws
   have hL : leftA ws = (ws2, w2) := by
    unfold leftA
    rw [hK]
    simp only
    rw [if_neg hm, if_pos ha', hN]
   rw [hL, hK] at hW
   simp only at hW
   have hV : ∀ y, wordsA ws = some y → ⟨v1, k, 0, 0, 0, 0⟩ = y := fun y hy => by
    cases ws with
    | nil => cases hy
    | cons q r =>
     simp only [wordA, Prod.mk.injEq] at hK
     obtain ⟨rfl, rfl, rfl⟩ := hK
     obtain ⟨t, rfl, ht, rfl⟩ := wordsA_arm ha' hy
     rw [show v1 = digV t from hv1 ht]
   have goal : ∀ x : ActI, x = ⟨v1, k, 0, 0, 0, 0⟩ → ∀ y, wordsA ws = some y → x = y := fun x e y hy => by rw [e]; exact hV y hy
   rcases find_kind k with ⟨v, f1, f2⟩ | ⟨f1, f2⟩
   ·rw [f2] at hW
    cases w2 with
    | true =>
     simp only [Bool.not_true, Bool.false_and, Bool.and_false, Option.isSome_eq_false_iff, Option.isNone_iff_eq_none] at hW
     simp -implicitDefEqProofs [c127, k1, k2, k3, i1, i2, kb, f1, stOp, plain]
     exact ⟨⟨v1, k, 0, 0, 0, 0⟩, ⟨⟨rfl, rfl, rfl, rfl, rfl, rfl⟩, hW⟩, goal _ rfl⟩
    | false =>
     simp -implicitDefEqProofs [c127, k1, k2, k3, i1, i2, kb, f1, hide, hidI, hidT4a, stOp, plain]
     refine ⟨⟨v1, k, 0, 0, 0, 0⟩, ⟨⟨rfl, rfl, rfl, rfl, rfl, rfl⟩, ?_⟩, goal _ rfl⟩
     rw [hW]
     cases ws2 with
     | nil => rfl
     | cons p r => simp; omega
   ·rw [f2] at hW
    simp only [Bool.false_and, Option.isSome_eq_false_iff, Option.isNone_iff_eq_none] at hW
    simp -implicitDefEqProofs [c127, k1, k2, k3, i1, i2, kb, f1, stOp, plain]
    exact ⟨⟨v1, k, 0, 0, 0, 0⟩, ⟨⟨rfl, rfl, rfl, rfl, rfl, rfl⟩, hW⟩, goal _ rfl⟩
  ·rw [decide_eq_false ha] at i2
   have hT2 : ∀ x ∈ (numA ws1 w1).1, x.length < 1000000 := by
    cases ws1 with
    | nil => simp [numA, wordA]
    | cons x r => exact fun y hy => hT y (by simp [numA, wordA] at hy; simp [hy])
   generalize hN : numA ws1 w1 = N1 at *
   obtain ⟨ws2, w2⟩ := N1
   simp only at k3
   have ha' : ¬ k ∈ [kArm, kDisarm, kShoot] := ha
   obtain ⟨v2, k4, hv2⟩ := number157 (d := d + 3) ws2 w2 hT2 (.arr [.int .i64 v1, .str k, .int .i64 0, .int .i64 0, .int .i64 0, .int .i64 0] 0 1) (.arr [.int .i64 0, .str [], .int .i64 0, .int .i64 0, .int .i64 0, .int .i64 0] 0 1)
   generalize hM : numA ws2 w2 = N2 at *
   obtain ⟨ws3, w3⟩ := N2
   simp only at k4
   have hW := wordsA_isSome ws
   have hL : leftA ws = (ws3, w3) := by
    unfold leftA
    rw [hK]
    simp only
    rw [if_neg hm, if_neg ha', hN]
    exact hM
   rw [hL, hK] at hW
   simp only at hW
   have hV : ∀ y, wordsA ws = some y → ⟨v1, k, v2, 0, 0, 0⟩ = y := fun y hy => by
    cases ws with
    | nil => cases hy
    | cons q r =>
     simp only [wordA, Prod.mk.injEq] at hK
     obtain ⟨rfl, rfl, rfl⟩ := hK
     obtain ⟨t, m, rfl, ht, hq, rfl⟩ := wordsA_two hm ha' hy
     rw [numA_cons ht] at hN
     simp only [Prod.mk.injEq] at hN
     obtain ⟨rfl, rfl⟩ := hN
     rw [show v1 = digV t from hv1 ht, show v2 = digV m from hv2 hq]
   have goal : ∀ x : ActI, x = ⟨v1, k, v2, 0, 0, 0⟩ → ∀ y, wordsA ws = some y → x = y := fun x e y hy => by rw [e]; exact hV y hy
   rcases find_kind k with ⟨v, f1, f2⟩ | ⟨f1, f2⟩
   ·rw [f2] at hW
    cases w3 with
    | true =>
     simp only [Bool.not_true, Bool.false_and, Bool.and_false, Option.isSome_eq_false_iff, Option.isNone_iff_eq_none] at hW
     simp -implicitDefEqProofs [c127, k1, k2, k3, k4, i1, i2, kb, f1, stOp, plain]
     exact ⟨⟨v1, k, v2, 0, 0, 0⟩, ⟨⟨rfl, rfl, rfl, rfl, rfl, rfl⟩, hW⟩, goal _ rfl⟩
    | false =>
     simp -implicitDefEqProofs [c127, k1, k2, k3, k4, i1, i2, kb, f1, hide, hidI, hidT4a, stOp, plain]
     refine ⟨⟨v1, k, v2, 0, 0, 0⟩, ⟨⟨rfl, rfl, rfl, rfl, rfl, rfl⟩, ?_⟩, goal _ rfl⟩
     rw [hW]
     cases ws3 with
     | nil => rfl
     | cons p r => simp; omega
   ·rw [f2] at hW
    simp only [Bool.false_and, Option.isSome_eq_false_iff, Option.isNone_iff_eq_none] at hW
    simp -implicitDefEqProofs [c127, k1, k2, k3, k4, i1, i2, kb, f1, stOp, plain]
    exact ⟨⟨v1, k, v2, 0, 0, 0⟩, ⟨⟨rfl, rfl, rfl, rfl, rfl, rfl⟩, hW⟩, goal _ rfl⟩
end Fw
end

