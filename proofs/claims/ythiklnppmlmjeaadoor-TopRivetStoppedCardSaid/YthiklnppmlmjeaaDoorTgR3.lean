/- Several texts in one: steps of the proof, no condition of their own. -/
import Derived.Test.YthiklnppmlmjeaaDoorTgH8
import Derived.KernelRfl
attribute [local irreducible] Fw.evCode Fw.evOps Fw.evOpsD Fw.evOper Fw.evOperD Fw.evOp Fw.evFn Fw.loopN Fw.T.All Fw.T.bind Fw.callPure Fw.callOp Fw.opsK Fw.opsDK Fw.restK Fw.seqK Fw.blockK Fw.loopS Fw.setK Fw.setQ Fw.giveK Fw.scalK Fw.gcK Fw.finish Fw.finS Fw.rfunK Fw.yldK Fw.yldB Fw.loopK
section
set_option maxHeartbeats 16000000
namespace Fw
open Go

theorem check138 {n : Nat} (hn : 4 ≤ n) (h : HallI) (hd1 : 1 ≤ h.doors) (hd2 : h.doors ≤ 8) (x : ActI) : RUN n 138 [ha h, aa x] = .ret (iv (actE h x)) := by
 obtain ⟨d, rfl⟩ : ∃ d, n = d + 4 := ⟨n - 4, by omega⟩
 rw [RUN, call_eq fe138 _ rfl]
 have kr := range44 (n := d + 3) (by omega) x.tick 0 100000000
 have k2 := fun a b => first43_2 (n := d + 3) (by omega) a b
 have kk := kinds152 (n := d + 3) (by omega)
 have kw := word21 (n := d + 3) (by omega) kindL x.kind (by decide)
 have kn := fun b e => when47 (n := d + 3) (by omega) b e
 have kd := door153 (n := d + 3) (by omega) x.kind
 have kq := key154 (n := d + 3) (by omega) x.kind
 have kv := values15 (n := d + 3) (by omega) x.a x.b x.c
 unfold actE numsE
 have hex : ∀ b, doorB x.kind = true → keyB x.kind = b → b = false := fun b h1 h2 => by
  subst h2
  unfold doorB at h1
  simp only [Bool.or_eq_true, beq_iff_eq] at h1
  rcases h1 with ((h1 | h1) | h1) | h1 <;> rw [h1] <;> decide
 have hme : x.kind = kMeasure → (x.kind == kMeasure) = true := fun h => by simp [h]
 have hmn : ¬ x.kind = kMeasure → (x.kind == kMeasure) = false := fun h => by simpa using h
 have hz : (!zerB x.a x.b x.c) = (!x.a == 0 || (!x.b == 0 || !x.c == 0)) := by simp only [zerB, Bool.not_and]
 simp only [hz]
 have hK : strL kindL = .p (.sl (pStr kindL) 10) := rfl
 rw [hK] at kk
 have hK2 : strL kindL = .p (.sl (pStr kindL) 10) := rfl
 simp only [hK2] at kw
 generalize hE : rangeE 0 100000000 x.tick = e0 at *
 generalize hV : valE x.a x.b x.c = V at *
 have ws : IntKind.i64.wrap (h.doors - 1) = h.doors - 1 := wrap64 (by omega) (by omega)
 have hin : decide (x.kind ∈ kindL) = true ∨ decide (x.kind ∈ kindL) = false := by cases decide (x.kind ∈ kindL) <;> simp
 obtain ⟨t, k, m, a, b, c⟩ := x
 simp only at *
 generalize pStr kindL = PK at *
 by_cases h0 : e0 = 0
 ·subst h0
  by_cases hk : k ∈ kindL
  ·have hk' : decide (k ∈ kindL) = true := by simpa using hk
   rw [hk'] at kw
   rw [if_neg (by simp), if_neg (by simpa using hk)]
   generalize kindL = KL at *
   cases hdb : doorB k with
   | true =>
    have hkb := hex _ hdb rfl
    rw [hdb] at kd; rw [hkb] at kq
    by_cases c1 : m < 0
    ·simp -implicitDefEqProofs [c138, kr, k2, kk, kw, kn, kd, kq, whenE, firstE, ws, c1]
    ·by_cases c2 : h.doors ≤ m
     ·have c3 : h.doors - 1 < m := by omega
      simp -implicitDefEqProofs [c138, kr, k2, kk, kw, kn, kd, kq, whenE, firstE, ws, c1, c2, c3]
     ·have c3 : ¬ h.doors - 1 < m := by omega
      by_cases hm : k = kMeasure
      ·rw [hm] at hdb; cases hdb
      ·have hm' := hmn hm
       simp -implicitDefEqProofs [c138, kr, k2, kk, kw, kn, kd, kq, whenE, firstE, ws, c1, c2, c3, strBin, hm, hm']
   | false =>
    rw [hdb] at kd
    cases hkb : keyB k with
    | true =>
     rw [hkb] at kq
     by_cases c1 : m < 0
     ·simp -implicitDefEqProofs [c138, kr, k2, kk, kw, kn, kd, kq, whenE, firstE, c1]
     ·by_cases c2 : 2 ≤ m
      ·have c3 : 1 < m := by omega
       simp -implicitDefEqProofs [c138, kr, k2, kk, kw, kn, kd, kq, whenE, firstE, c1, c2, c3]
      ·have c3 : ¬ 1 < m := by omega
       by_cases hm : k = kMeasure
       ·rw [hm] at hkb; cases hkb
       ·have hm' := hmn hm
        simp -implicitDefEqProofs [c138, kr, k2, kk, kw, kn, kd, kq, whenE, firstE, c1, c2, c3, strBin, hm, hm']
    | false =>
     rw [hkb] at kq
     by_cases c1 : m < 0
     ·simp -implicitDefEqProofs [c138, kr, k2, kk, kw, kn, kd, kq, whenE, firstE, c1]
     ·by_cases c2 : 1 ≤ m
      ·have c3 : 0 < m := by omega
       simp -implicitDefEqProofs [c138, kr, k2, kk, kw, kn, kd, kq, whenE, firstE, c1, c2, c3]
      ·have c3 : ¬ 0 < m := by omega
       by_cases hm : k = kMeasure
       ·have hm' := hme hm
        simp -implicitDefEqProofs [c138, kr, k2, kk, kw, kn, kd, kq, whenE, firstE, c1, c2, c3, strBin, hm', kv]
        simp [hm]
       ·have hm' := hmn hm
        simp -implicitDefEqProofs [c138, kr, k2, kk, kw, kn, kd, kq, whenE, firstE, c1, c2, c3, strBin, hm, hm']
  ·have hk' : decide (k ∈ kindL) = false := by simpa using hk
   rw [hk'] at kw
   rw [if_neg (by simp), if_pos (by simpa using hk)]
   generalize kindL = KL at *
   simp -implicitDefEqProofs [c138, kr, k2, kk, kw, kn, whenE, firstE]
 ·rw [if_pos (by simpa using h0)]
  have k2' := fun b => k2 e0 b
  have hf : ∀ b, firstE [e0, b] = e0 := fun b => by simp [firstE, h0]
  simp only [hf] at k2'
  cases hk' : decide (k ∈ kindL) <;> rw [hk'] at kw <;> generalize kindL = KL at * <;> simp -implicitDefEqProofs [c138, kr, k2', kk, kw, kn, h0]
theorem tab_of {l : List (Int × Int)} (h : tabE l = 0) : (∀ i, i < l.length → 0 ≤ (l.getD i (0, 0)).2) ∧ ∀ i, i + 1 < l.length → (l.getD i (0, 0)).2 ≤ (l.getD (i + 1) (0, 0)).2 := by
 unfold tabE at h
 split at h
 ·cases h
 ·split at h
  ·cases h
  ·have hE := firstE_zero.1 h
   have hst : ∀ i, i < l.length → stE (prvL l i) (l.getD i (0, 0)) (decide (i = 0)) = 0 := fun i hi => hE _ (List.mem_map.2 ⟨i, List.mem_range.2 hi, rfl⟩)
   refine ⟨fun i hi => ?_, fun i hi => ?_⟩
   ·have h2 := firstE_zero.1 (hst i hi) (rangeE 0 1000000 (l.getD i (0, 0)).2) (by simp)
    unfold rangeE at h2
    split at h2
    ·cases h2
    ·omega
   ·have h3 := firstE_zero.1 (hst (i + 1) hi) (whenE (ordB (prvL l (i + 1)) (l.getD (i + 1) (0, 0)) (decide (i + 1 = 0))) 11) (by simp)
    cases ho : ordB (prvL l (i + 1)) (l.getD (i + 1) (0, 0)) (decide (i + 1 = 0)) with
    | true => rw [ho] at h3; cases h3
    | false =>
     simp only [ordB, Bool.or_eq_false_iff, decide_eq_false_iff_not] at ho
     have := ho.2
     simp only [prvL] at this
     omega
theorem wt_same (l : List (Int × Int)) (hl : tabE l = 0) (v acc : Int) (ha : 0 ≤ acc) : wtP l v acc l.length = max acc (wtR l v l.length) := by
 obtain ⟨h1, h2⟩ := tab_of hl
 have key : ∀ i, i ≤ l.length → wtP l v acc i = max acc (wtR l v i) ∧ 0 ≤ wtR l v i ∧ (i < l.length → wtR l v i ≤ (l.getD i (0, 0)).2) := by
  intro i
  induction i with
  | zero => intro _; exact ⟨by simp only [wtP, wtR]; omega, Int.le_refl _, fun h => h1 0 h⟩
  | succ i ih =>
   intro hi
   obtain ⟨a, b, c⟩ := ih (by omega)
   have c := c (by omega)
   have hb := h1 i (by omega)
   simp only [wtP, wtR]
   by_cases hv : (l.getD i (0, 0)).1 ≤ v
   ·rw [if_pos hv, if_pos hv, a]
    exact ⟨by omega, hb, fun h => h2 i h⟩
   ·rw [if_neg hv, if_neg hv]
    exact ⟨a, b, fun h => by have := h2 i h; omega⟩
 exact (key _ (Nat.le_refl _)).1
theorem wait_same (h : HallI) (hz : hallE h = 0) (a b c : Int) : waitP h a b c = waitR h a b c := by
 have hE := firstE_zero.1 hz
 have n0 := wt_same h.t0 (hE _ (by simp)) a 0 (by omega)
 unfold waitP waitR
 rw [n0]
 have n1 := wt_same h.t1 (hE _ (by simp)) b (max 0 (wtR h.t0 a h.t0.length)) (by omega)
 rw [n1]
 exact wt_same h.t2 (hE _ (by simp)) c _ (by omega)
theorem doors_of {h : HallI} (hz : hallE h = 0) : 1 ≤ h.doors ∧ h.doors ≤ 8 := by
 have := firstE_zero.1 hz (rangeE 1 8 h.doors) (by simp)
 unfold rangeE at this
 split at this
 ·cases this
 ·omega
end Fw
end

section
set_option maxHeartbeats 16000000
namespace Fw
open Go

structure StaI where
 tick : Int
 o0 : Bool
 o1 : Bool
 o2 : Bool
 o3 : Bool
 o4 : Bool
 o5 : Bool
 o6 : Bool
 o7 : Bool
 k0 : Bool
 k1 : Bool
 people : Int
 armed : Bool
 shot : Int
 adm : Int
abbrev bl (b : Bool) : AVal := .p (.bool b)
def sc (s : StaI) : List PVal := [.int .i64 s.tick, .bool s.o0, .bool s.o1, .bool s.o2, .bool s.o3, .bool s.o4, .bool s.o5, .bool s.o6, .bool s.o7, .bool s.k0, .bool s.k1, .int .i64 s.people, .bool s.armed, .int .i64 s.shot, .int .i64 s.adm]
abbrev sa (s : StaI) : AVal := .agg [iv s.tick, bl s.o0, bl s.o1, bl s.o2, bl s.o3, bl s.o4, bl s.o5, bl s.o6, bl s.o7, bl s.k0, bl s.k1, iv s.people, bl s.armed, iv s.shot, iv s.adm]
def opn (s : StaI) (n : Int) : Bool := if n = 0 then s.o0 else if n = 1 then s.o1 else if n = 2 then s.o2 else if n = 3 then s.o3 else if n = 4 then s.o4 else if n = 5 then s.o5 else if n = 6 then s.o6 else s.o7
def key (s : StaI) (n : Int) : Bool := if n = 0 then s.k0 else s.k1
def setO (s : StaI) (n : Int) (b : Bool) : StaI := if n = 0 then { s with o0 := b } else if n = 1 then { s with o1 := b } else if n = 2 then { s with o2 := b } else if n = 3 then { s with o3 := b } else if n = 4 then { s with o4 := b } else if n = 5 then { s with o5 := b } else if n = 6 then { s with o6 := b } else { s with o7 := b }
def setY (s : StaI) (n : Int) (b : Bool) : StaI := if n = 0 then { s with k0 := b } else { s with k1 := b }
def anyO (s : StaI) : Bool := s.o0 || (s.o1 || (s.o2 || (s.o3 || (s.o4 || (s.o5 || (s.o6 || s.o7))))))
def stB (s : StaI) (x : ActI) : Bool :=
 if x.kind = kOpen then opn s x.num else if x.kind = kClose then !opn s x.num else if x.kind = kInsert then key s x.num else if x.kind = kRemove then !key s x.num
 else if x.kind = kEnter then decide (100 ≤ s.people) else if x.kind = kLeave then s.people == 0 else if x.kind = kArm then s.armed else if x.kind = kDisarm then !s.armed else if x.kind = kShoot then !s.armed else s.shot == -1
def armB (s : StaI) (x : ActI) : Bool := s.armed && decide (x.kind ∈ [kOpen, kRemove, kEnter])
def dooB (s : StaI) (x : ActI) : Bool := (decide (x.kind ∈ [kEnter, kLeave]) && !opn s x.num) || (decide (x.kind ∈ [kArm]) && anyO s)
def peoB (s : StaI) (x : ActI) : Bool := decide (x.kind ∈ [kArm]) && decide (0 < s.people)
def keyR (s : StaI) (x : ActI) : Bool := decide (x.kind ∈ [kArm]) && (!s.k0 || !s.k1)
def admB (s : StaI) (t : Int) : Bool := (s.adm != -1) && decide (s.adm ≤ t)
def waiB (s : StaI) (x : ActI) : Bool := decide (x.kind ∈ [kOpen, kEnter, kArm]) && !admB s x.tick
def NumOk (x : ActI) : Prop := x.kind ∈ kindL ∧ (doorB x.kind = true → 0 ≤ x.num ∧ x.num < 8) ∧ (keyB x.kind = true → 0 ≤ x.num ∧ x.num < 2)
theorem eight {m : Int} (h : 0 ≤ m ∧ m < 8) : m = 0 ∨ m = 1 ∨ m = 2 ∨ m = 3 ∨ m = 4 ∨ m = 5 ∨ m = 6 ∨ m = 7 := by omega
theorem two {m : Int} (h : 0 ≤ m ∧ m < 2) : m = 0 ∨ m = 1 := by omega

theorem st175 {n : Nat} (hn : 1 ≤ n) (s : StaI) (x : ActI) (h : 0 ≤ x.num ∧ x.num < 8) : RUN n 175 [sa s, aa x] = .ret (bl (opn s x.num)) := by
 obtain ⟨d, rfl⟩ : ∃ d, n = d + 1 := ⟨n - 1, by omega⟩
 rw [RUN, call_eq fe175 _ rfl]
 obtain ⟨t, k, m, a, b, c⟩ := x
 obtain ⟨st, o0, o1, o2, o3, o4, o5, o6, o7, k0, k1, pp, ar, sh, ad⟩ := s
 rcases eight h with rfl | rfl | rfl | rfl | rfl | rfl | rfl | rfl <;> simp -implicitDefEqProofs [c175, opn]

theorem st177 {n : Nat} (hn : 1 ≤ n) (s : StaI) (x : ActI) (h : 0 ≤ x.num ∧ x.num < 8) : RUN n 177 [sa s, aa x] = .ret (bl (!opn s x.num)) := by
 obtain ⟨d, rfl⟩ : ∃ d, n = d + 1 := ⟨n - 1, by omega⟩
 rw [RUN, call_eq fe177 _ rfl]
 obtain ⟨t, k, m, a, b, c⟩ := x
 obtain ⟨st, o0, o1, o2, o3, o4, o5, o6, o7, k0, k1, pp, ar, sh, ad⟩ := s
 rcases eight h with rfl | rfl | rfl | rfl | rfl | rfl | rfl | rfl <;> simp -implicitDefEqProofs [c177, opn]

theorem st180 {n : Nat} (hn : 1 ≤ n) (s : StaI) (x : ActI) (h : 0 ≤ x.num ∧ x.num < 2) : RUN n 180 [sa s, aa x] = .ret (bl (key s x.num)) := by
 obtain ⟨d, rfl⟩ : ∃ d, n = d + 1 := ⟨n - 1, by omega⟩
 rw [RUN, call_eq fe180 _ rfl]
 obtain ⟨t, k, m, a, b, c⟩ := x
 obtain ⟨st, o0, o1, o2, o3, o4, o5, o6, o7, k0, k1, pp, ar, sh, ad⟩ := s
 rcases two h with rfl | rfl <;> simp -implicitDefEqProofs [c180, key]

theorem st182 {n : Nat} (hn : 1 ≤ n) (s : StaI) (x : ActI) (h : 0 ≤ x.num ∧ x.num < 2) : RUN n 182 [sa s, aa x] = .ret (bl (!key s x.num)) := by
 obtain ⟨d, rfl⟩ : ∃ d, n = d + 1 := ⟨n - 1, by omega⟩
 rw [RUN, call_eq fe182 _ rfl]
 obtain ⟨t, k, m, a, b, c⟩ := x
 obtain ⟨st, o0, o1, o2, o3, o4, o5, o6, o7, k0, k1, pp, ar, sh, ad⟩ := s
 rcases two h with rfl | rfl <;> simp -implicitDefEqProofs [c182, key]

theorem st184 {n : Nat} (hn : 1 ≤ n) (s : StaI) (x : ActI) : RUN n 184 [sa s, aa x] = .ret (bl (decide (100 ≤ s.people))) := by
 obtain ⟨d, rfl⟩ : ∃ d, n = d + 1 := ⟨n - 1, by omega⟩
 rw [RUN, call_eq fe184 _ rfl]
 obtain ⟨t, k, m, a, b, c⟩ := x
 obtain ⟨st, o0, o1, o2, o3, o4, o5, o6, o7, k0, k1, pp, ar, sh, ad⟩ := s
 simp -implicitDefEqProofs [c184]

theorem st186 {n : Nat} (hn : 1 ≤ n) (s : StaI) (x : ActI) : RUN n 186 [sa s, aa x] = .ret (bl (s.people == 0)) := by
 obtain ⟨d, rfl⟩ : ∃ d, n = d + 1 := ⟨n - 1, by omega⟩
 rw [RUN, call_eq fe186 _ rfl]
 obtain ⟨t, k, m, a, b, c⟩ := x
 obtain ⟨st, o0, o1, o2, o3, o4, o5, o6, o7, k0, k1, pp, ar, sh, ad⟩ := s
 simp -implicitDefEqProofs [c186]

theorem st189 {n : Nat} (hn : 1 ≤ n) (s : StaI) (x : ActI) : RUN n 189 [sa s, aa x] = .ret (bl (s.armed)) := by
 obtain ⟨d, rfl⟩ : ∃ d, n = d + 1 := ⟨n - 1, by omega⟩
 rw [RUN, call_eq fe189 _ rfl]
 obtain ⟨t, k, m, a, b, c⟩ := x
 obtain ⟨st, o0, o1, o2, o3, o4, o5, o6, o7, k0, k1, pp, ar, sh, ad⟩ := s
 simp -implicitDefEqProofs [c189]

theorem st191 {n : Nat} (hn : 1 ≤ n) (s : StaI) (x : ActI) : RUN n 191 [sa s, aa x] = .ret (bl (!s.armed)) := by
 obtain ⟨d, rfl⟩ : ∃ d, n = d + 1 := ⟨n - 1, by omega⟩
 rw [RUN, call_eq fe191 _ rfl]
 obtain ⟨t, k, m, a, b, c⟩ := x
 obtain ⟨st, o0, o1, o2, o3, o4, o5, o6, o7, k0, k1, pp, ar, sh, ad⟩ := s
 simp -implicitDefEqProofs [c191]

theorem st193 {n : Nat} (hn : 1 ≤ n) (s : StaI) (x : ActI) : RUN n 193 [sa s, aa x] = .ret (bl (!s.armed)) := by
 obtain ⟨d, rfl⟩ : ∃ d, n = d + 1 := ⟨n - 1, by omega⟩
 rw [RUN, call_eq fe193 _ rfl]
 obtain ⟨t, k, m, a, b, c⟩ := x
 obtain ⟨st, o0, o1, o2, o3, o4, o5, o6, o7, k0, k1, pp, ar, sh, ad⟩ := s
 simp -implicitDefEqProofs [c193]

theorem st195 {n : Nat} (hn : 1 ≤ n) (s : StaI) (x : ActI) : RUN n 195 [sa s, aa x] = .ret (bl (s.shot == -1)) := by
 obtain ⟨d, rfl⟩ : ∃ d, n = d + 1 := ⟨n - 1, by omega⟩
 rw [RUN, call_eq fe195 _ rfl]
 obtain ⟨t, k, m, a, b, c⟩ := x
 obtain ⟨st, o0, o1, o2, o3, o4, o5, o6, o7, k0, k1, pp, ar, sh, ad⟩ := s
 simp -implicitDefEqProofs [c195]

theorem r197 {n : Nat} (hn : 1 ≤ n) (s : StaI) (x : ActI) : RUN n 197 [sa s, aa x] = .ret (bl (decide (x.tick < s.tick))) := by
 obtain ⟨d, rfl⟩ : ∃ d, n = d + 1 := ⟨n - 1, by omega⟩
 rw [RUN, call_eq fe197 _ rfl]
 obtain ⟨t, k, m, a, b, c⟩ := x
 obtain ⟨st, o0, o1, o2, o3, o4, o5, o6, o7, k0, k1, pp, ar, sh, ad⟩ := s
 simp -implicitDefEqProofs [c197]
theorem open172 {n : Nat} (hn : 1 ≤ n) (s : StaI) : RUN n 172 [sa s] = .ret (bl (anyO s)) := by
 obtain ⟨d, rfl⟩ : ∃ d, n = d + 1 := ⟨n - 1, by omega⟩
 rw [RUN, call_eq fe172 _ rfl]
 obtain ⟨st, o0, o1, o2, o3, o4, o5, o6, o7, k0, k1, pp, ar, sh, ad⟩ := s
 simp -implicitDefEqProofs [c172, anyO]
theorem admits206 {n : Nat} (hn : 1 ≤ n) (s : StaI) (t : Int) : RUN n 206 [sa s, iv t] = .ret (bl (admB s t)) := by
 obtain ⟨d, rfl⟩ : ∃ d, n = d + 1 := ⟨n - 1, by omega⟩
 rw [RUN, call_eq fe206 _ rfl]
 obtain ⟨st, o0, o1, o2, o3, o4, o5, o6, o7, k0, k1, pp, ar, sh, ad⟩ := s
 cases h1 : (ad != -1) <;> simp -implicitDefEqProofs [c206, admB, h1]

theorem r201 {n : Nat} (hn : 5 ≤ n) (s : StaI) (x : ActI) : RUN n 201 [sa s, aa x] = .ret (bl (armB s x)) := by
 obtain ⟨d, rfl⟩ : ∃ d, n = d + 5 := ⟨n - 5, by omega⟩
 rw [RUN, call_eq fe201 _ rfl]
 have ki : RUN (d + 4) 111 [aa x, .p (.sl [.str kOpen, .str kRemove, .str kEnter] 3)] = .ret (bl (decide (x.kind ∈ [kOpen, kRemove, kEnter]))) := is111 (by omega) x [kOpen, kRemove, kEnter] (by simp)
 unfold armB
 generalize decide (x.kind ∈ [kOpen, kRemove, kEnter]) = e at *
 obtain ⟨t, k, m, a, b, c⟩ := x
 obtain ⟨st, o0, o1, o2, o3, o4, o5, o6, o7, k0, k1, pp, ar, sh, ad⟩ := s
 simp only at *
 cases ar <;> simp -implicitDefEqProofs [c201, ki]

theorem r202 {n : Nat} (hn : 5 ≤ n) (s : StaI) (x : ActI) (h : NumOk x) : RUN n 202 [sa s, aa x] = .ret (bl (dooB s x)) := by
 obtain ⟨d, rfl⟩ : ∃ d, n = d + 5 := ⟨n - 5, by omega⟩
 rw [RUN, call_eq fe202 _ rfl]
 have ki : RUN (d + 4) 111 [aa x, .p (.sl [.str kEnter, .str kLeave] 2)] = .ret (bl (decide (x.kind ∈ [kEnter, kLeave]))) := is111 (by omega) x [kEnter, kLeave] (by simp)
 have ka : RUN (d + 4) 111 [aa x, .p (.sl [.str kArm] 1)] = .ret (bl (decide (x.kind ∈ [kArm]))) := is111 (by omega) x [kArm] (by simp)
 have ko := open172 (n := d + 4) (by omega) s
 have hb : decide (x.kind ∈ [kEnter, kLeave]) = true → 0 ≤ x.num ∧ x.num < 8 := fun e => h.2.1 (by
  simp only [decide_eq_true_eq, List.mem_cons, List.not_mem_nil, or_false] at e
  rcases e with e | e <;> rw [e] <;> decide)
 unfold dooB
 generalize decide (x.kind ∈ [kEnter, kLeave]) = e at *
 generalize decide (x.kind ∈ [kArm]) = f at *
 generalize anyO s = g at *
 obtain ⟨t, k, m, a, b, c⟩ := x
 obtain ⟨st, o0, o1, o2, o3, o4, o5, o6, o7, k0, k1, pp, ar, sh, ad⟩ := s
 simp only at *
 cases e with
 | false => cases f <;> simp -implicitDefEqProofs [c202, ki, ka, ko]
 | true =>
  rcases eight (hb rfl) with rfl | rfl | rfl | rfl | rfl | rfl | rfl | rfl
  ·cases o0 <;> cases f <;> simp -implicitDefEqProofs [c202, ki, ka, ko, opn]
  ·cases o1 <;> cases f <;> simp -implicitDefEqProofs [c202, ki, ka, ko, opn]
  ·cases o2 <;> cases f <;> simp -implicitDefEqProofs [c202, ki, ka, ko, opn]
  ·cases o3 <;> cases f <;> simp -implicitDefEqProofs [c202, ki, ka, ko, opn]
  ·cases o4 <;> cases f <;> simp -implicitDefEqProofs [c202, ki, ka, ko, opn]
  ·cases o5 <;> cases f <;> simp -implicitDefEqProofs [c202, ki, ka, ko, opn]
  ·cases o6 <;> cases f <;> simp -implicitDefEqProofs [c202, ki, ka, ko, opn]
  ·cases o7 <;> cases f <;> simp -implicitDefEqProofs [c202, ki, ka, ko, opn]

theorem r203 {n : Nat} (hn : 5 ≤ n) (s : StaI) (x : ActI) : RUN n 203 [sa s, aa x] = .ret (bl (peoB s x)) := by
 obtain ⟨d, rfl⟩ : ∃ d, n = d + 5 := ⟨n - 5, by omega⟩
 rw [RUN, call_eq fe203 _ rfl]
 have ki : RUN (d + 4) 111 [aa x, .p (.sl [.str kArm] 1)] = .ret (bl (decide (x.kind ∈ [kArm]))) := is111 (by omega) x [kArm] (by simp)
 unfold peoB
 generalize decide (x.kind ∈ [kArm]) = e at *
 obtain ⟨t, k, m, a, b, c⟩ := x
 obtain ⟨st, o0, o1, o2, o3, o4, o5, o6, o7, k0, k1, pp, ar, sh, ad⟩ := s
 simp only at *
 cases e <;> simp -implicitDefEqProofs [c203, ki]

theorem r204 {n : Nat} (hn : 5 ≤ n) (s : StaI) (x : ActI) : RUN n 204 [sa s, aa x] = .ret (bl (keyR s x)) := by
 obtain ⟨d, rfl⟩ : ∃ d, n = d + 5 := ⟨n - 5, by omega⟩
 rw [RUN, call_eq fe204 _ rfl]
 have ki : RUN (d + 4) 111 [aa x, .p (.sl [.str kArm] 1)] = .ret (bl (decide (x.kind ∈ [kArm]))) := is111 (by omega) x [kArm] (by simp)
 unfold keyR
 generalize decide (x.kind ∈ [kArm]) = e at *
 obtain ⟨t, k, m, a, b, c⟩ := x
 obtain ⟨st, o0, o1, o2, o3, o4, o5, o6, o7, k0, k1, pp, ar, sh, ad⟩ := s
 simp only at *
 cases e <;> simp -implicitDefEqProofs [c204, ki]

theorem r205 {n : Nat} (hn : 5 ≤ n) (s : StaI) (x : ActI) : RUN n 205 [sa s, aa x] = .ret (bl (waiB s x)) := by
 obtain ⟨d, rfl⟩ : ∃ d, n = d + 5 := ⟨n - 5, by omega⟩
 rw [RUN, call_eq fe205 _ rfl]
 have ki : RUN (d + 4) 111 [aa x, .p (.sl [.str kOpen, .str kEnter, .str kArm] 3)] = .ret (bl (decide (x.kind ∈ [kOpen, kEnter, kArm]))) := is111 (by omega) x [kOpen, kEnter, kArm] (by simp)
 have ko := admits206 (n := d + 4) (by omega) s x.tick
 unfold waiB
 generalize admB s x.tick = f at *
 generalize decide (x.kind ∈ [kOpen, kEnter, kArm]) = e at *
 obtain ⟨t, k, m, a, b, c⟩ := x
 obtain ⟨st, o0, o1, o2, o3, o4, o5, o6, o7, k0, k1, pp, ar, sh, ad⟩ := s
 simp only at *
 cases e <;> simp -implicitDefEqProofs [c205, ki, ko]

end Fw
end

section
set_option maxHeartbeats 16000000
namespace Fw
open Go

abbrev wTick : List UInt8 := [116, 105, 99, 107]
abbrev wState : List UInt8 := [115, 116, 97, 116, 101]
abbrev wArmed : List UInt8 := [97, 114, 109, 101, 100]
abbrev wDoor : List UInt8 := [100, 111, 111, 114]
abbrev wPeople : List UInt8 := [112, 101, 111, 112, 108, 101]
abbrev wKey : List UInt8 := [107, 101, 121]
abbrev wWait : List UInt8 := [119, 97, 105, 116]
def addR (L : List (List UInt8)) (b : Bool) (w : List UInt8) : List (List UInt8) := if b = true then L ++ [w] else L
theorem addR_le (L : List (List UInt8)) (b : Bool) (w : List UInt8) : (addR L b w).length ≤ L.length + 1 := by
 unfold addR; split <;> simp
def reaL (s : StaI) (x : ActI) : List (List UInt8) :=
 addR (addR (addR (addR (addR (addR (addR [] (decide (x.tick < s.tick)) wTick) (stB s x) wState) (armB s x) wArmed) (dooB s x) wDoor) (peoB s x) wPeople) (keyR s x) wKey) (waiB s x) wWait
theorem numOk_cases {x : ActI} (h : NumOk x) : x.kind = kOpen ∨ x.kind = kClose ∨ x.kind = kInsert ∨ x.kind = kRemove ∨ x.kind = kEnter ∨ x.kind = kLeave ∨ x.kind = kArm ∨ x.kind = kDisarm ∨ x.kind = kShoot ∨ x.kind = kMeasure := by
 simpa only [kindL, List.mem_cons, List.not_mem_nil, or_false] using h.1

theorem r198 {n : Nat} (hn : 5 ≤ n) (s : StaI) (x : ActI) (h : NumOk x) : RUN n 198 [sa s, aa x] = .ret (bl (stB s x)) := by
 obtain ⟨d, rfl⟩ : ∃ d, n = d + 5 := ⟨n - 5, by omega⟩
 rw [RUN, call_eq fe198 _ rfl]
 have hk := numOk_cases h
 have hG : G0 0 = some g0 := rfl
 obtain ⟨t, k, m, a, b, c⟩ := x
 simp only at hk
 rcases hk with rfl | rfl | rfl | rfl | rfl | rfl | rfl | rfl | rfl | rfl
 ·have ki : RUN (d + 4) 199 [.p (.sl g0 10), .p (.clo 200 [] [.pp [.int .i64 t, .str kOpen, .int .i64 m, .int .i64 a, .int .i64 b, .int .i64 c]])] = .ret (iv 0) := by kernel_rfl
  have ks := st175 (n := d + 4) (by omega) s ⟨t, kOpen, m, a, b, c⟩ (h.2.1 (show doorB kOpen = true by decide))
  have hs : stB s ⟨t, kOpen, m, a, b, c⟩ = (opn s m) := rfl
  rw [hs]
  try simp only at ks
  generalize (opn s m) = z at *
  obtain ⟨st, o0, o1, o2, o3, o4, o5, o6, o7, k0, k1, pp, ar, sh, ad⟩ := s
  simp only [g0] at ki ks ⊢
  simp -implicitDefEqProofs [c198, ki, ks, hG, g0]
 ·have ki : RUN (d + 4) 199 [.p (.sl g0 10), .p (.clo 200 [] [.pp [.int .i64 t, .str kClose, .int .i64 m, .int .i64 a, .int .i64 b, .int .i64 c]])] = .ret (iv 1) := by kernel_rfl
  have ks := st177 (n := d + 4) (by omega) s ⟨t, kClose, m, a, b, c⟩ (h.2.1 (show doorB kClose = true by decide))
  have hs : stB s ⟨t, kClose, m, a, b, c⟩ = (!opn s m) := rfl
  rw [hs]
  try simp only at ks
  generalize (!opn s m) = z at *
  obtain ⟨st, o0, o1, o2, o3, o4, o5, o6, o7, k0, k1, pp, ar, sh, ad⟩ := s
  simp only [g0] at ki ks ⊢
  simp -implicitDefEqProofs [c198, ki, ks, hG, g0]
 ·have ki : RUN (d + 4) 199 [.p (.sl g0 10), .p (.clo 200 [] [.pp [.int .i64 t, .str kInsert, .int .i64 m, .int .i64 a, .int .i64 b, .int .i64 c]])] = .ret (iv 2) := by kernel_rfl
  have ks := st180 (n := d + 4) (by omega) s ⟨t, kInsert, m, a, b, c⟩ (h.2.2 (show keyB kInsert = true by decide))
  have hs : stB s ⟨t, kInsert, m, a, b, c⟩ = (key s m) := rfl
  rw [hs]
  try simp only at ks
  generalize (key s m) = z at *
  obtain ⟨st, o0, o1, o2, o3, o4, o5, o6, o7, k0, k1, pp, ar, sh, ad⟩ := s
  simp only [g0] at ki ks ⊢
  simp -implicitDefEqProofs [c198, ki, ks, hG, g0]
 ·have ki : RUN (d + 4) 199 [.p (.sl g0 10), .p (.clo 200 [] [.pp [.int .i64 t, .str kRemove, .int .i64 m, .int .i64 a, .int .i64 b, .int .i64 c]])] = .ret (iv 3) := by kernel_rfl
  have ks := st182 (n := d + 4) (by omega) s ⟨t, kRemove, m, a, b, c⟩ (h.2.2 (show keyB kRemove = true by decide))
  have hs : stB s ⟨t, kRemove, m, a, b, c⟩ = (!key s m) := rfl
  rw [hs]
  try simp only at ks
  generalize (!key s m) = z at *
  obtain ⟨st, o0, o1, o2, o3, o4, o5, o6, o7, k0, k1, pp, ar, sh, ad⟩ := s
  simp only [g0] at ki ks ⊢
  simp -implicitDefEqProofs [c198, ki, ks, hG, g0]
 ·have ki : RUN (d + 4) 199 [.p (.sl g0 10), .p (.clo 200 [] [.pp [.int .i64 t, .str kEnter, .int .i64 m, .int .i64 a, .int .i64 b, .int .i64 c]])] = .ret (iv 4) := by kernel_rfl
  have ks := st184 (n := d + 4) (by omega) s ⟨t, kEnter, m, a, b, c⟩
  have hs : stB s ⟨t, kEnter, m, a, b, c⟩ = (decide (100 ≤ s.people)) := rfl
  rw [hs]
  try simp only at ks
  generalize (decide (100 ≤ s.people)) = z at *
  obtain ⟨st, o0, o1, o2, o3, o4, o5, o6, o7, k0, k1, pp, ar, sh, ad⟩ := s
  simp only [g0] at ki ks ⊢
  simp -implicitDefEqProofs [c198, ki, ks, hG, g0]
 ·have ki : RUN (d + 4) 199 [.p (.sl g0 10), .p (.clo 200 [] [.pp [.int .i64 t, .str kLeave, .int .i64 m, .int .i64 a, .int .i64 b, .int .i64 c]])] = .ret (iv 5) := by kernel_rfl
  have ks := st186 (n := d + 4) (by omega) s ⟨t, kLeave, m, a, b, c⟩
  have hs : stB s ⟨t, kLeave, m, a, b, c⟩ = (s.people == 0) := rfl
  rw [hs]
  try simp only at ks
  generalize (s.people == 0) = z at *
  obtain ⟨st, o0, o1, o2, o3, o4, o5, o6, o7, k0, k1, pp, ar, sh, ad⟩ := s
  simp only [g0] at ki ks ⊢
  simp -implicitDefEqProofs [c198, ki, ks, hG, g0]
 ·have ki : RUN (d + 4) 199 [.p (.sl g0 10), .p (.clo 200 [] [.pp [.int .i64 t, .str kArm, .int .i64 m, .int .i64 a, .int .i64 b, .int .i64 c]])] = .ret (iv 6) := by kernel_rfl
  have ks := st189 (n := d + 4) (by omega) s ⟨t, kArm, m, a, b, c⟩
  have hs : stB s ⟨t, kArm, m, a, b, c⟩ = (s.armed) := rfl
  rw [hs]
  try simp only at ks
  generalize (s.armed) = z at *
  obtain ⟨st, o0, o1, o2, o3, o4, o5, o6, o7, k0, k1, pp, ar, sh, ad⟩ := s
  simp only [g0] at ki ks ⊢
  simp -implicitDefEqProofs [c198, ki, ks, hG, g0]
 ·have ki : RUN (d + 4) 199 [.p (.sl g0 10), .p (.clo 200 [] [.pp [.int .i64 t, .str kDisarm, .int .i64 m, .int .i64 a, .int .i64 b, .int .i64 c]])] = .ret (iv 7) := by kernel_rfl
  have ks := st191 (n := d + 4) (by omega) s ⟨t, kDisarm, m, a, b, c⟩
  have hs : stB s ⟨t, kDisarm, m, a, b, c⟩ = (!s.armed) := rfl
  rw [hs]
  try simp only at ks
  generalize (!s.armed) = z at *
  obtain ⟨st, o0, o1, o2, o3, o4, o5, o6, o7, k0, k1, pp, ar, sh, ad⟩ := s
  simp only [g0] at ki ks ⊢
  simp -implicitDefEqProofs [c198, ki, ks, hG, g0]
 ·have ki : RUN (d + 4) 199 [.p (.sl g0 10), .p (.clo 200 [] [.pp [.int .i64 t, .str kShoot, .int .i64 m, .int .i64 a, .int .i64 b, .int .i64 c]])] = .ret (iv 8) := by kernel_rfl
  have ks := st193 (n := d + 4) (by omega) s ⟨t, kShoot, m, a, b, c⟩
  have hs : stB s ⟨t, kShoot, m, a, b, c⟩ = (!s.armed) := rfl
  rw [hs]
  try simp only at ks
  generalize (!s.armed) = z at *
  obtain ⟨st, o0, o1, o2, o3, o4, o5, o6, o7, k0, k1, pp, ar, sh, ad⟩ := s
  simp only [g0] at ki ks ⊢
  simp -implicitDefEqProofs [c198, ki, ks, hG, g0]
 ·have ki : RUN (d + 4) 199 [.p (.sl g0 10), .p (.clo 200 [] [.pp [.int .i64 t, .str kMeasure, .int .i64 m, .int .i64 a, .int .i64 b, .int .i64 c]])] = .ret (iv 9) := by kernel_rfl
  have ks := st195 (n := d + 4) (by omega) s ⟨t, kMeasure, m, a, b, c⟩
  have hs : stB s ⟨t, kMeasure, m, a, b, c⟩ = (s.shot == -1) := rfl
  rw [hs]
  try simp only at ks
  generalize (s.shot == -1) = z at *
  obtain ⟨st, o0, o1, o2, o3, o4, o5, o6, o7, k0, k1, pp, ar, sh, ad⟩ := s
  simp only [g0] at ki ks ⊢
  simp -implicitDefEqProofs [c198, ki, ks, hG, g0]

def S90 (s : StaI) (x : ActI) (L : List (List UInt8)) (i : Int) : St := ⟨[(2, .ptr 0 0 0), (3, .ptr 1 0 0), (5, .sl 2 L.length 0 L.length), (8, .agg (g1.map .p)), (9, iv i)], [(2, .arr (pStr L) L.length 1), (1, .arr [.int .i64 x.tick, .str x.kind, .int .i64 x.num, .int .i64 x.a, .int .i64 x.b, .int .i64 x.c] 0 1), (0, .arr (sc s) 0 1)]⟩

theorem s64_0 {d : Nat} (s : StaI) (x : ActI) (z : Bool) (k : RUN d 197 [sa s, aa x] = .ret (bl z)) (L : List (List UInt8)) (hL : L.length ≤ 7) :
  ∃ st1, loopS (evFn F C0 G0 d) C0 G0 0 true [2, 3, 5, 8, 9] c64L0 (S90 s x L 0) = .ret (.normal, st1) ∧ loopS (evFn F C0 G0 d) C0 G0 0 true [2, 3, 5, 8, 9] c64L0 st1 = loopS (evFn F C0 G0 d) C0 G0 0 true [2, 3, 5, 8, 9] c64L0 (S90 s x (addR L z wTick) 1) := by
 have hlim : L.length + 1 ≤ lim := by simp only [lim]; omega
 have hQ : (pStr L).length = L.length := by simp
 have e1 : pStr (L ++ [wTick]) = pStr L ++ [.str wTick] := (pStr_snoc _ _).symm
 have e2 : (L ++ [wTick]).length = L.length + 1 := by simp
 have w1 : IntKind.i64.wrap 1 = 1 := by decide
 obtain ⟨t, kk, m, a, b, c⟩ := x
 obtain ⟨st, o0, o1, o2, o3, o4, o5, o6, o7, k0, k1, pp, ar, sh, ad⟩ := s
 cases z with
 | false =>
  simp only [S90, addR, Bool.false_eq_true, if_false, sc, g1, List.map_cons, List.map_nil]
  generalize pStr L = Q at *
  generalize L.length = y at *
  refine ⟨?_, ?h1, ?h2⟩
  case h1 =>
   simp -implicitDefEqProofs [loopS_eq, c64L0, k, w1]
   exact rfl
  case h2 => exact loopS_same (by simp) (by simp)
 | true =>
  simp only [S90, addR, if_true, e1, e2, sc, g1, List.map_cons, List.map_nil]
  generalize pStr L = Q at *
  generalize L.length = y at *
  refine ⟨?_, ?h1, ?h2⟩
  case h1 =>
   simp -implicitDefEqProofs [loopS_eq, c64L0, k, w1, hQ, hlim]
   exact rfl
  case h2 => exact loopS_same (by simp) (by simp)

theorem s64_1 {d : Nat} (s : StaI) (x : ActI) (z : Bool) (k : RUN d 198 [sa s, aa x] = .ret (bl z)) (L : List (List UInt8)) (hL : L.length ≤ 7) :
  ∃ st1, loopS (evFn F C0 G0 d) C0 G0 0 true [2, 3, 5, 8, 9] c64L0 (S90 s x L 1) = .ret (.normal, st1) ∧ loopS (evFn F C0 G0 d) C0 G0 0 true [2, 3, 5, 8, 9] c64L0 st1 = loopS (evFn F C0 G0 d) C0 G0 0 true [2, 3, 5, 8, 9] c64L0 (S90 s x (addR L z wState) 2) := by
 have hlim : L.length + 1 ≤ lim := by simp only [lim]; omega
 have hQ : (pStr L).length = L.length := by simp
 have e1 : pStr (L ++ [wState]) = pStr L ++ [.str wState] := (pStr_snoc _ _).symm
 have e2 : (L ++ [wState]).length = L.length + 1 := by simp
 have w1 : IntKind.i64.wrap 2 = 2 := by decide
 obtain ⟨t, kk, m, a, b, c⟩ := x
 obtain ⟨st, o0, o1, o2, o3, o4, o5, o6, o7, k0, k1, pp, ar, sh, ad⟩ := s
 cases z with
 | false =>
  simp only [S90, addR, Bool.false_eq_true, if_false, sc, g1, List.map_cons, List.map_nil]
  generalize pStr L = Q at *
  generalize L.length = y at *
  refine ⟨?_, ?h1, ?h2⟩
  case h1 =>
   simp -implicitDefEqProofs [loopS_eq, c64L0, k, w1]
   exact rfl
  case h2 => exact loopS_same (by simp) (by simp)
 | true =>
  simp only [S90, addR, if_true, e1, e2, sc, g1, List.map_cons, List.map_nil]
  generalize pStr L = Q at *
  generalize L.length = y at *
  refine ⟨?_, ?h1, ?h2⟩
  case h1 =>
   simp -implicitDefEqProofs [loopS_eq, c64L0, k, w1, hQ, hlim]
   exact rfl
  case h2 => exact loopS_same (by simp) (by simp)

theorem s64_2 {d : Nat} (s : StaI) (x : ActI) (z : Bool) (k : RUN d 201 [sa s, aa x] = .ret (bl z)) (L : List (List UInt8)) (hL : L.length ≤ 7) :
  ∃ st1, loopS (evFn F C0 G0 d) C0 G0 0 true [2, 3, 5, 8, 9] c64L0 (S90 s x L 2) = .ret (.normal, st1) ∧ loopS (evFn F C0 G0 d) C0 G0 0 true [2, 3, 5, 8, 9] c64L0 st1 = loopS (evFn F C0 G0 d) C0 G0 0 true [2, 3, 5, 8, 9] c64L0 (S90 s x (addR L z wArmed) 3) := by
 have hlim : L.length + 1 ≤ lim := by simp only [lim]; omega
 have hQ : (pStr L).length = L.length := by simp
 have e1 : pStr (L ++ [wArmed]) = pStr L ++ [.str wArmed] := (pStr_snoc _ _).symm
 have e2 : (L ++ [wArmed]).length = L.length + 1 := by simp
 have w1 : IntKind.i64.wrap 3 = 3 := by decide
 obtain ⟨t, kk, m, a, b, c⟩ := x
 obtain ⟨st, o0, o1, o2, o3, o4, o5, o6, o7, k0, k1, pp, ar, sh, ad⟩ := s
 cases z with
 | false =>
  simp only [S90, addR, Bool.false_eq_true, if_false, sc, g1, List.map_cons, List.map_nil]
  generalize pStr L = Q at *
  generalize L.length = y at *
  refine ⟨?_, ?h1, ?h2⟩
  case h1 =>
   simp -implicitDefEqProofs [loopS_eq, c64L0, k, w1]
   exact rfl
  case h2 => exact loopS_same (by simp) (by simp)
 | true =>
  simp only [S90, addR, if_true, e1, e2, sc, g1, List.map_cons, List.map_nil]
  generalize pStr L = Q at *
  generalize L.length = y at *
  refine ⟨?_, ?h1, ?h2⟩
  case h1 =>
   simp -implicitDefEqProofs [loopS_eq, c64L0, k, w1, hQ, hlim]
   exact rfl
  case h2 => exact loopS_same (by simp) (by simp)

theorem s64_3 {d : Nat} (s : StaI) (x : ActI) (z : Bool) (k : RUN d 202 [sa s, aa x] = .ret (bl z)) (L : List (List UInt8)) (hL : L.length ≤ 7) :
  ∃ st1, loopS (evFn F C0 G0 d) C0 G0 0 true [2, 3, 5, 8, 9] c64L0 (S90 s x L 3) = .ret (.normal, st1) ∧ loopS (evFn F C0 G0 d) C0 G0 0 true [2, 3, 5, 8, 9] c64L0 st1 = loopS (evFn F C0 G0 d) C0 G0 0 true [2, 3, 5, 8, 9] c64L0 (S90 s x (addR L z wDoor) 4) := by
 have hlim : L.length + 1 ≤ lim := by simp only [lim]; omega
 have hQ : (pStr L).length = L.length := by simp
 have e1 : pStr (L ++ [wDoor]) = pStr L ++ [.str wDoor] := (pStr_snoc _ _).symm
 have e2 : (L ++ [wDoor]).length = L.length + 1 := by simp
 have w1 : IntKind.i64.wrap 4 = 4 := by decide
 obtain ⟨t, kk, m, a, b, c⟩ := x
 obtain ⟨st, o0, o1, o2, o3, o4, o5, o6, o7, k0, k1, pp, ar, sh, ad⟩ := s
 cases z with
 | false =>
  simp only [S90, addR, Bool.false_eq_true, if_false, sc, g1, List.map_cons, List.map_nil]
  generalize pStr L = Q at *
  generalize L.length = y at *
  refine ⟨?_, ?h1, ?h2⟩
  case h1 =>
   simp -implicitDefEqProofs [loopS_eq, c64L0, k, w1]
   exact rfl
  case h2 => exact loopS_same (by simp) (by simp)
 | true =>
  simp only [S90, addR, if_true, e1, e2, sc, g1, List.map_cons, List.map_nil]
  generalize pStr L = Q at *
  generalize L.length = y at *
  refine ⟨?_, ?h1, ?h2⟩
  case h1 =>
   simp -implicitDefEqProofs [loopS_eq, c64L0, k, w1, hQ, hlim]
   exact rfl
  case h2 => exact loopS_same (by simp) (by simp)

theorem s64_4 {d : Nat} (s : StaI) (x : ActI) (z : Bool) (k : RUN d 203 [sa s, aa x] = .ret (bl z)) (L : List (List UInt8)) (hL : L.length ≤ 7) :
  ∃ st1, loopS (evFn F C0 G0 d) C0 G0 0 true [2, 3, 5, 8, 9] c64L0 (S90 s x L 4) = .ret (.normal, st1) ∧ loopS (evFn F C0 G0 d) C0 G0 0 true [2, 3, 5, 8, 9] c64L0 st1 = loopS (evFn F C0 G0 d) C0 G0 0 true [2, 3, 5, 8, 9] c64L0 (S90 s x (addR L z wPeople) 5) := by
 have hlim : L.length + 1 ≤ lim := by simp only [lim]; omega
 have hQ : (pStr L).length = L.length := by simp
 have e1 : pStr (L ++ [wPeople]) = pStr L ++ [.str wPeople] := (pStr_snoc _ _).symm
 have e2 : (L ++ [wPeople]).length = L.length + 1 := by simp
 have w1 : IntKind.i64.wrap 5 = 5 := by decide
 obtain ⟨t, kk, m, a, b, c⟩ := x
 obtain ⟨st, o0, o1, o2, o3, o4, o5, o6, o7, k0, k1, pp, ar, sh, ad⟩ := s
 cases z with
 | false =>
  simp only [S90, addR, Bool.false_eq_true, if_false, sc, g1, List.map_cons, List.map_nil]
  generalize pStr L = Q at *
  generalize L.length = y at *
  refine ⟨?_, ?h1, ?h2⟩
  case h1 =>
   simp -implicitDefEqProofs [loopS_eq, c64L0, k, w1]
   exact rfl
  case h2 => exact loopS_same (by simp) (by simp)
 | true =>
  simp only [S90, addR, if_true, e1, e2, sc, g1, List.map_cons, List.map_nil]
  generalize pStr L = Q at *
  generalize L.length = y at *
  refine ⟨?_, ?h1, ?h2⟩
  case h1 =>
   simp -implicitDefEqProofs [loopS_eq, c64L0, k, w1, hQ, hlim]
   exact rfl
  case h2 => exact loopS_same (by simp) (by simp)

theorem s64_5 {d : Nat} (s : StaI) (x : ActI) (z : Bool) (k : RUN d 204 [sa s, aa x] = .ret (bl z)) (L : List (List UInt8)) (hL : L.length ≤ 7) :
  ∃ st1, loopS (evFn F C0 G0 d) C0 G0 0 true [2, 3, 5, 8, 9] c64L0 (S90 s x L 5) = .ret (.normal, st1) ∧ loopS (evFn F C0 G0 d) C0 G0 0 true [2, 3, 5, 8, 9] c64L0 st1 = loopS (evFn F C0 G0 d) C0 G0 0 true [2, 3, 5, 8, 9] c64L0 (S90 s x (addR L z wKey) 6) := by
 have hlim : L.length + 1 ≤ lim := by simp only [lim]; omega
 have hQ : (pStr L).length = L.length := by simp
 have e1 : pStr (L ++ [wKey]) = pStr L ++ [.str wKey] := (pStr_snoc _ _).symm
 have e2 : (L ++ [wKey]).length = L.length + 1 := by simp
 have w1 : IntKind.i64.wrap 6 = 6 := by decide
 obtain ⟨t, kk, m, a, b, c⟩ := x
 obtain ⟨st, o0, o1, o2, o3, o4, o5, o6, o7, k0, k1, pp, ar, sh, ad⟩ := s
 cases z with
 | false =>
  simp only [S90, addR, Bool.false_eq_true, if_false, sc, g1, List.map_cons, List.map_nil]
  generalize pStr L = Q at *
  generalize L.length = y at *
  refine ⟨?_, ?h1, ?h2⟩
  case h1 =>
   simp -implicitDefEqProofs [loopS_eq, c64L0, k, w1]
   exact rfl
  case h2 => exact loopS_same (by simp) (by simp)
 | true =>
  simp only [S90, addR, if_true, e1, e2, sc, g1, List.map_cons, List.map_nil]
  generalize pStr L = Q at *
  generalize L.length = y at *
  refine ⟨?_, ?h1, ?h2⟩
  case h1 =>
   simp -implicitDefEqProofs [loopS_eq, c64L0, k, w1, hQ, hlim]
   exact rfl
  case h2 => exact loopS_same (by simp) (by simp)

theorem s64_6 {d : Nat} (s : StaI) (x : ActI) (z : Bool) (k : RUN d 205 [sa s, aa x] = .ret (bl z)) (L : List (List UInt8)) (hL : L.length ≤ 7) :
  ∃ st1, loopS (evFn F C0 G0 d) C0 G0 0 true [2, 3, 5, 8, 9] c64L0 (S90 s x L 6) = .ret (.normal, st1) ∧ loopS (evFn F C0 G0 d) C0 G0 0 true [2, 3, 5, 8, 9] c64L0 st1 = loopS (evFn F C0 G0 d) C0 G0 0 true [2, 3, 5, 8, 9] c64L0 (S90 s x (addR L z wWait) 7) := by
 have hlim : L.length + 1 ≤ lim := by simp only [lim]; omega
 have hQ : (pStr L).length = L.length := by simp
 have e1 : pStr (L ++ [wWait]) = pStr L ++ [.str wWait] := (pStr_snoc _ _).symm
 have e2 : (L ++ [wWait]).length = L.length + 1 := by simp
 have w1 : IntKind.i64.wrap 7 = 7 := by decide
 obtain ⟨t, kk, m, a, b, c⟩ := x
 obtain ⟨st, o0, o1, o2, o3, o4, o5, o6, o7, k0, k1, pp, ar, sh, ad⟩ := s
 cases z with
 | false =>
  simp only [S90, addR, Bool.false_eq_true, if_false, sc, g1, List.map_cons, List.map_nil]
  generalize pStr L = Q at *
  generalize L.length = y at *
  refine ⟨?_, ?h1, ?h2⟩
  case h1 =>
   simp -implicitDefEqProofs [loopS_eq, c64L0, k, w1]
   exact rfl
  case h2 => exact loopS_same (by simp) (by simp)
 | true =>
  simp only [S90, addR, if_true, e1, e2, sc, g1, List.map_cons, List.map_nil]
  generalize pStr L = Q at *
  generalize L.length = y at *
  refine ⟨?_, ?h1, ?h2⟩
  case h1 =>
   simp -implicitDefEqProofs [loopS_eq, c64L0, k, w1, hQ, hlim]
   exact rfl
  case h2 => exact loopS_same (by simp) (by simp)

theorem loopN_on' {step : St → T (Ex × St)} {fuel : Nat} {st st2 : St} (h : ∃ st1, step st = .ret (.normal, st1) ∧ step st1 = step st2) (hf : 1 < fuel) : loopN step fuel st = loopN step (fuel - 1) st2 := by
 obtain ⟨st1, h1, h2⟩ := h
 rw [loopN_on h1 (by omega)]
 obtain ⟨f, hf'⟩ : ∃ f, fuel - 1 = f + 1 := ⟨fuel - 2, by omega⟩
 rw [hf']
 unfold loopN
 rw [h2]
theorem reasons64 {n : Nat} (hn : 6 ≤ n) (s : StaI) (x : ActI) (h : NumOk x) : RUN n 64 [sa s, aa x] = .ret (.own (pStr (reaL s x)) (reaL s x).length 1) := by
 obtain ⟨d, rfl⟩ : ∃ d, n = d + 6 := ⟨n - 6, by omega⟩
 rw [RUN, call_eq fe64 _ rfl]
 have k0 := r197 (n := d + 5) (by omega) s x
 have k1 := r198 (n := d + 5) (by omega) s x h
 have k2 := r201 (n := d + 5) (by omega) s x
 have k3 := r202 (n := d + 5) (by omega) s x h
 have k4 := r203 (n := d + 5) (by omega) s x
 have k5 := r204 (n := d + 5) (by omega) s x
 have k6 := r205 (n := d + 5) (by omega) s x
 have l0 : ([] : List (List UInt8)).length ≤ 0 := by simp
 have l1 : (addR ([] : List (List UInt8)) (decide (x.tick < s.tick)) wTick).length ≤ 1 := by have := addR_le ([] : List (List UInt8)) (decide (x.tick < s.tick)) wTick; omega
 have l2 : (addR (addR ([] : List (List UInt8)) (decide (x.tick < s.tick)) wTick) (stB s x) wState).length ≤ 2 := by have := addR_le (addR ([] : List (List UInt8)) (decide (x.tick < s.tick)) wTick) (stB s x) wState; omega
 have l3 : (addR (addR (addR ([] : List (List UInt8)) (decide (x.tick < s.tick)) wTick) (stB s x) wState) (armB s x) wArmed).length ≤ 3 := by have := addR_le (addR (addR ([] : List (List UInt8)) (decide (x.tick < s.tick)) wTick) (stB s x) wState) (armB s x) wArmed; omega
 have l4 : (addR (addR (addR (addR ([] : List (List UInt8)) (decide (x.tick < s.tick)) wTick) (stB s x) wState) (armB s x) wArmed) (dooB s x) wDoor).length ≤ 4 := by have := addR_le (addR (addR (addR ([] : List (List UInt8)) (decide (x.tick < s.tick)) wTick) (stB s x) wState) (armB s x) wArmed) (dooB s x) wDoor; omega
 have l5 : (addR (addR (addR (addR (addR ([] : List (List UInt8)) (decide (x.tick < s.tick)) wTick) (stB s x) wState) (armB s x) wArmed) (dooB s x) wDoor) (peoB s x) wPeople).length ≤ 5 := by have := addR_le (addR (addR (addR (addR ([] : List (List UInt8)) (decide (x.tick < s.tick)) wTick) (stB s x) wState) (armB s x) wArmed) (dooB s x) wDoor) (peoB s x) wPeople; omega
 have l6 : (addR (addR (addR (addR (addR (addR ([] : List (List UInt8)) (decide (x.tick < s.tick)) wTick) (stB s x) wState) (armB s x) wArmed) (dooB s x) wDoor) (peoB s x) wPeople) (keyR s x) wKey).length ≤ 6 := by have := addR_le (addR (addR (addR (addR (addR ([] : List (List UInt8)) (decide (x.tick < s.tick)) wTick) (stB s x) wState) (armB s x) wArmed) (dooB s x) wDoor) (peoB s x) wPeople) (keyR s x) wKey; omega
 have s0 := s64_0 s x _ k0 ([] : List (List UInt8)) (by omega)
 have s1 := s64_1 s x _ k1 (addR ([] : List (List UInt8)) (decide (x.tick < s.tick)) wTick) (by omega)
 have s2 := s64_2 s x _ k2 (addR (addR ([] : List (List UInt8)) (decide (x.tick < s.tick)) wTick) (stB s x) wState) (by omega)
 have s3 := s64_3 s x _ k3 (addR (addR (addR ([] : List (List UInt8)) (decide (x.tick < s.tick)) wTick) (stB s x) wState) (armB s x) wArmed) (by omega)
 have s4 := s64_4 s x _ k4 (addR (addR (addR (addR ([] : List (List UInt8)) (decide (x.tick < s.tick)) wTick) (stB s x) wState) (armB s x) wArmed) (dooB s x) wDoor) (by omega)
 have s5 := s64_5 s x _ k5 (addR (addR (addR (addR (addR ([] : List (List UInt8)) (decide (x.tick < s.tick)) wTick) (stB s x) wState) (armB s x) wArmed) (dooB s x) wDoor) (peoB s x) wPeople) (by omega)
 have s6 := s64_6 s x _ k6 (addR (addR (addR (addR (addR (addR ([] : List (List UInt8)) (decide (x.tick < s.tick)) wTick) (stB s x) wState) (armB s x) wArmed) (dooB s x) wDoor) (peoB s x) wPeople) (keyR s x) wKey) (by omega)
 have hr : reaL s x = (addR (addR (addR (addR (addR (addR (addR ([] : List (List UInt8)) (decide (x.tick < s.tick)) wTick) (stB s x) wState) (armB s x) wArmed) (dooB s x) wDoor) (peoB s x) wPeople) (keyR s x) wKey) (waiB s x) wWait) := rfl
 rw [hr]
 generalize (addR (addR (addR (addR (addR (addR (addR ([] : List (List UInt8)) (decide (x.tick < s.tick)) wTick) (stB s x) wState) (armB s x) wArmed) (dooB s x) wDoor) (peoB s x) wPeople) (keyR s x) wKey) (waiB s x) wWait) = L at *
 have hG : G0 1 = some g1 := rfl
 have s7 : loopS (evFn F C0 G0 (d + 5)) C0 G0 0 true [2, 3, 5, 8, 9] c64L0 (S90 s x L 7) = .ret (.exit 0, ⟨(S90 s x L 7).env ++ [(10, bl false)], (S90 s x L 7).sto⟩) := by
  simp -implicitDefEqProofs [loopS_eq, c64L0, S90, g1, sc]
 have hst : loopN (loopS (evFn F C0 G0 (d + 5)) C0 G0 0 true [2, 3, 5, 8, 9] c64L0) loopFuel (S90 s x [] 0) = .ret (.exit 0, ⟨(S90 s x L 7).env ++ [(10, bl false)], (S90 s x L 7).sto⟩) := by
  rw [loopN_on' s0 (by simp [loopFuel]), loopN_on' s1 (by simp [loopFuel]), loopN_on' s2 (by simp [loopFuel]), loopN_on' s3 (by simp [loopFuel]), loopN_on' s4 (by simp [loopFuel]), loopN_on' s5 (by simp [loopFuel]), loopN_on' s6 (by simp [loopFuel]), loopN_end s7 (by simp) (by simp [loopFuel])]
 obtain ⟨t, kk, m, a, b, c⟩ := x
 obtain ⟨st, o0, o1, o2, o3, o4, o5, o6, o7, y0, y1, pp, ar, sh, ad⟩ := s
 have hQ : (pStr L).length = L.length := by simp
 simp only [S90, g1, sc, List.map_cons, List.map_nil, pStr_nil, List.length_nil, iv, bl, List.cons_append, List.nil_append] at hst
 generalize pStr L = Q at *
 simp -implicitDefEqProofs [c64, hG, g1]
 rw [hst]
 simp -implicitDefEqProofs [hQ]
end Fw
end

section
set_option maxHeartbeats 16000000
namespace Fw
open Go

theorem h100 {pp : Int} (hp : pp ≤ 100) : decide (100 ≤ pp) = (pp == 100) := by
 by_cases e : pp = 100
 ·rw [e]; decide
 ·have : ¬ 100 ≤ pp := by omega
  simp [e, this]
def hdS : ACode → ACode
 | .seq a _ => a
 | c => c
def tlS : ACode → ACode
 | .seq _ b => b
 | c => c
theorem mem1 (k a : List UInt8) : decide (k ∈ [a]) = (k == a) := by
 by_cases h1 : k = a <;> simp [h1]
theorem mem2 (k a b : List UInt8) : decide (k ∈ [a, b]) = ((k == a) || (k == b)) := by
 by_cases h1 : k = a <;> by_cases h2 : k = b <;> simp [h1, h2]
theorem mem3 (k a b c : List UInt8) : decide (k ∈ [a, b, c]) = ((k == a) || ((k == b) || (k == c))) := by
 by_cases h1 : k = a <;> by_cases h2 : k = b <;> by_cases h3 : k = c <;> simp [h1, h2, h3]
@[irreducible] def t140a : ACode := tlS (tlS (tlS c140.body))
theorem c140_a : c140.body = .seq (hdS c140.body) (.seq (hdS (tlS c140.body)) (.seq (hdS (tlS (tlS c140.body))) t140a)) := by unfold t140a; rfl
@[irreducible] def t27b : ACode := tlS (tlS t140a)
theorem t27_b : t140a = .seq (hdS t140a) (.seq (hdS (tlS t140a)) t27b) := by unfold t27b t140a; rfl
@[irreducible] def t27c : ACode := tlS t27b
theorem t27_c : t27b = .seq (hdS t27b) t27c := by unfold t27c t27b t140a; rfl
@[irreducible] def t27d : ACode := tlS t27c
theorem t27_d : t27c = .seq (hdS t27c) t27d := by unfold t27d t27c t27b t140a; rfl
@[irreducible] def t27e : ACode := tlS t27d
theorem t27_e : t27d = .seq (hdS t27d) t27e := by unfold t27e t27d t27c t27b t140a; rfl
@[irreducible] def t27f : ACode := tlS t27e
theorem t27_f : t27e = .seq (hdS t27e) t27f := by unfold t27f t27e t27d t27c t27b t140a; rfl
@[irreducible] def t27g : ACode := tlS t27f
theorem t27_g : t27f = .seq (hdS t27f) t27g := by unfold t27g t27f t27e t27d t27c t27b t140a; rfl

def o27 (s : StaI) (x : ActI) (L : List (List UInt8)) : Sto := [(2, .arr (pStr L) L.length 1), (1, .arr [.int .i64 x.tick, .str x.kind, .int .i64 x.num, .int .i64 x.a, .int .i64 x.b, .int .i64 x.c] 0 1), (0, .arr (sc s) 0 1)]
def S27 (s : StaI) (x : ActI) (L : List (List UInt8)) (E : Env) : St := ⟨(2, .ptr 0 0 0) :: (3, .ptr 1 0 0) :: (5, .sl 2 L.length 0 L.length) :: E, o27 s x L⟩
def ex (c : Nat) (z : Bool) : Env := if z = true then [] else [(c, bl false)]
def S27s (s : StaI) (x : ActI) (z : Bool) (L : List (List UInt8)) : St := ⟨[(2, .ptr 0 0 0), (3, .ptr 1 0 0), (5, .sl 2 L.length 0 L.length), (6, bl z)], o27 s x L⟩

theorem s140a {d : Nat} (s : StaI) (x : ActI) : RUN (d + 1) 140 [sa s, aa x] = (evCode (evFn F C0 G0 d) C0 G0 0 t140a (S27 s x (addR [] (decide (x.tick < s.tick)) wTick) (ex 11 (decide (x.tick < s.tick))))).bind (finish [.tmp 4]) := by
 rw [RUN, call_eq fe140 _ rfl, c140_a]
 obtain ⟨t, k, m, a, b, c⟩ := x
 obtain ⟨st, o0, o1, o2, o3, o4, o5, o6, o7, k0, k1, pp, ar, sh, ad⟩ := s
 by_cases h : t < st
 ·have hl : 1 ≤ lim := by decide
  simp only [h, decide_true, addR, ex, if_true, List.nil_append, S27, o27, sc]
  simp -implicitDefEqProofs [hdS, tlS, c140, h, hl, pStr]
 ·simp only [h, decide_false, addR, ex, Bool.false_eq_true, if_false, S27, o27, sc]
  simp -implicitDefEqProofs [hdS, tlS, c140, h]

theorem s140b {d : Nat} (s : StaI) (x : ActI) (h : NumOk x) (hp : s.people ≤ 100) (L : List (List UInt8)) (E : Env) : (evCode (evFn F C0 G0 d) C0 G0 0 t140a (S27 s x L E)).bind (finish [.tmp 4]) = (evCode (evFn F C0 G0 d) C0 G0 0 t27b (S27s s x (stB s x) L)).bind (finish [.tmp 4]) := by
 rw [t27_b]
 have hk := numOk_cases h
 obtain ⟨t, k, m, a, b, c⟩ := x
 obtain ⟨st, o0, o1, o2, o3, o4, o5, o6, o7, k0, k1, pp, ar, sh, ad⟩ := s
 simp only at hk hp
 simp only [S27, S27s, o27, sc]
 generalize pStr L = Q at *
 generalize L.length = y at *
 rcases hk with rfl | rfl | rfl | rfl | rfl | rfl | rfl | rfl | rfl | rfl
 ·rcases eight (h.2.1 (show doorB kOpen = true by decide)) with rfl | rfl | rfl | rfl | rfl | rfl | rfl | rfl <;> simp -implicitDefEqProofs [hdS, tlS, t140a, c140, strBin, stB, opn]
 ·rcases eight (h.2.1 (show doorB kClose = true by decide)) with rfl | rfl | rfl | rfl | rfl | rfl | rfl | rfl <;> simp -implicitDefEqProofs [hdS, tlS, t140a, c140, strBin, stB, opn]
 ·rcases two (h.2.2 (show keyB kInsert = true by decide)) with rfl | rfl <;> simp -implicitDefEqProofs [hdS, tlS, t140a, c140, strBin, stB, key]
 ·rcases two (h.2.2 (show keyB kRemove = true by decide)) with rfl | rfl <;> simp -implicitDefEqProofs [hdS, tlS, t140a, c140, strBin, stB, key]
 ·have e := h100 hp
  simp -implicitDefEqProofs [hdS, tlS, t140a, c140, strBin, stB, e]
 ·simp -implicitDefEqProofs [hdS, tlS, t140a, c140, strBin, stB]
 ·simp -implicitDefEqProofs [hdS, tlS, t140a, c140, strBin, stB]
 ·simp -implicitDefEqProofs [hdS, tlS, t140a, c140, strBin, stB]
 ·simp -implicitDefEqProofs [hdS, tlS, t140a, c140, strBin, stB]
 ·simp -implicitDefEqProofs [hdS, tlS, t140a, c140, strBin, stB]

theorem s140c {d : Nat} (s : StaI) (x : ActI) (z : Bool) (L : List (List UInt8)) (hL : L.length ≤ 7) : (evCode (evFn F C0 G0 d) C0 G0 0 t27b (S27s s x z L)).bind (finish [.tmp 4]) = (evCode (evFn F C0 G0 d) C0 G0 0 t27c (S27 s x (addR L z wState) (ex 72 z))).bind (finish [.tmp 4]) := by
 rw [t27_c]
 have hlim : L.length + 1 ≤ lim := by simp only [lim]; omega
 have hQ : (pStr L).length = L.length := by simp
 have e1 : pStr (L ++ [wState]) = pStr L ++ [.str wState] := (pStr_snoc _ _).symm
 have e2 : (L ++ [wState]).length = L.length + 1 := by simp
 cases z
 ·simp only [S27, S27s, o27, addR, ex, Bool.false_eq_true, if_false]
  generalize pStr L = Q at *
  generalize L.length = y at *
  simp -implicitDefEqProofs [hdS, tlS, t27b, t140a, c140]
 ·simp only [S27, S27s, o27, addR, ex, if_true, e1, e2]
  generalize pStr L = Q at *
  generalize L.length = y at *
  simp -implicitDefEqProofs [hdS, tlS, t27b, t140a, c140, hQ, hlim]

theorem s140d {d : Nat} (s : StaI) (x : ActI) (L : List (List UInt8)) (hL : L.length ≤ 7) (E : Env) : (evCode (evFn F C0 G0 d) C0 G0 0 t27c (S27 s x L E)).bind (finish [.tmp 4]) = (evCode (evFn F C0 G0 d) C0 G0 0 t27d (S27 s x (addR L (armB s x) wArmed) (ex 92 (armB s x)))).bind (finish [.tmp 4]) := by
 rw [t27_d]
 have hlim : L.length + 1 ≤ lim := by simp only [lim]; omega
 have hQ : (pStr L).length = L.length := by simp
 have e1 : pStr (L ++ [wArmed]) = pStr L ++ [.str wArmed] := (pStr_snoc _ _).symm
 have e2 : (L ++ [wArmed]).length = L.length + 1 := by simp
 obtain ⟨t, k, m, a, b, c⟩ := x
 obtain ⟨st, o0, o1, o2, o3, o4, o5, o6, o7, k0, k1, pp, ar, sh, ad⟩ := s
 simp only [armB, mem3]
 simp only [S27, o27, sc]
 cases ar <;> cases h1 : (k == kOpen) <;> cases h2 : (k == kRemove) <;> cases h3 : (k == kEnter)
 all_goals
  simp only [addR, ex, Bool.false_eq_true, if_false, if_true, e1, e2, Bool.and_true, Bool.and_false, Bool.or_true, Bool.or_false]
  generalize pStr L = Q at *
  generalize L.length = y at *
  simp -implicitDefEqProofs [hdS, tlS, t27c, t27b, t140a, c140, strBin, hQ, hlim, h1, h2, h3]

theorem s140e {d : Nat} (s : StaI) (x : ActI) (h : NumOk x) (L : List (List UInt8)) (hL : L.length ≤ 7) (E : Env) : (evCode (evFn F C0 G0 d) C0 G0 0 t27d (S27 s x L E)).bind (finish [.tmp 4]) = (evCode (evFn F C0 G0 d) C0 G0 0 t27e (S27 s x (addR L (dooB s x) wDoor) (ex 122 (dooB s x)))).bind (finish [.tmp 4]) := by
 rw [t27_e]
 have hlim : L.length + 1 ≤ lim := by simp only [lim]; omega
 have hQ : (pStr L).length = L.length := by simp
 have e1 : pStr (L ++ [wDoor]) = pStr L ++ [.str wDoor] := (pStr_snoc _ _).symm
 have e2 : (L ++ [wDoor]).length = L.length + 1 := by simp
 have hk := numOk_cases h
 obtain ⟨t, k, m, a, b, c⟩ := x
 obtain ⟨st, o0, o1, o2, o3, o4, o5, o6, o7, k0, k1, pp, ar, sh, ad⟩ := s
 simp only at hk
 simp only [dooB, mem2, mem1]
 simp only [S27, o27, sc]
 rcases hk with rfl | rfl | rfl | rfl | rfl | rfl | rfl | rfl | rfl | rfl
 ·simp only [show ((kOpen == kEnter) || (kOpen == kLeave)) = false from by decide, show (kOpen == kArm) = false from by decide, Bool.false_and, Bool.or_self, addR, ex, Bool.false_eq_true, if_false]
  generalize pStr L = Q at *
  generalize L.length = y at *
  simp -implicitDefEqProofs [hdS, tlS, t27d, t27c, t27b, t140a, c140, strBin]
 ·simp only [show ((kClose == kEnter) || (kClose == kLeave)) = false from by decide, show (kClose == kArm) = false from by decide, Bool.false_and, Bool.or_self, addR, ex, Bool.false_eq_true, if_false]
  generalize pStr L = Q at *
  generalize L.length = y at *
  simp -implicitDefEqProofs [hdS, tlS, t27d, t27c, t27b, t140a, c140, strBin]
 ·simp only [show ((kInsert == kEnter) || (kInsert == kLeave)) = false from by decide, show (kInsert == kArm) = false from by decide, Bool.false_and, Bool.or_self, addR, ex, Bool.false_eq_true, if_false]
  generalize pStr L = Q at *
  generalize L.length = y at *
  simp -implicitDefEqProofs [hdS, tlS, t27d, t27c, t27b, t140a, c140, strBin]
 ·simp only [show ((kRemove == kEnter) || (kRemove == kLeave)) = false from by decide, show (kRemove == kArm) = false from by decide, Bool.false_and, Bool.or_self, addR, ex, Bool.false_eq_true, if_false]
  generalize pStr L = Q at *
  generalize L.length = y at *
  simp -implicitDefEqProofs [hdS, tlS, t27d, t27c, t27b, t140a, c140, strBin]
 ·rcases eight (h.2.1 (show doorB kEnter = true by decide)) with rfl | rfl | rfl | rfl | rfl | rfl | rfl | rfl
  ·cases o0
   ·simp only [opn]
    simp only [show ((kEnter == kEnter) || (kEnter == kLeave)) = true from by decide, show (kEnter == kArm) = false from by decide, addR, ex, Bool.not_false, Bool.and_self, Bool.true_or, if_true, e1, e2]
    generalize pStr L = Q at *
    generalize L.length = y at *
    simp -implicitDefEqProofs [hdS, tlS, t27d, t27c, t27b, t140a, c140, strBin, hQ, hlim]
   ·simp only [opn]
    simp only [show ((kEnter == kEnter) || (kEnter == kLeave)) = true from by decide, show (kEnter == kArm) = false from by decide, addR, ex, Bool.not_true, Bool.and_false, Bool.false_and, Bool.or_self, if_true, Bool.false_eq_true, if_false]
    generalize pStr L = Q at *
    generalize L.length = y at *
    simp -implicitDefEqProofs [hdS, tlS, t27d, t27c, t27b, t140a, c140, strBin]
  ·cases o1
   ·simp only [opn]
    simp only [show ((kEnter == kEnter) || (kEnter == kLeave)) = true from by decide, show (kEnter == kArm) = false from by decide, addR, ex, Bool.not_false, Bool.and_self, Bool.true_or, if_true, e1, e2, show ¬ (1 : Int) = 0 from by decide, if_false]
    generalize pStr L = Q at *
    generalize L.length = y at *
    simp -implicitDefEqProofs [hdS, tlS, t27d, t27c, t27b, t140a, c140, strBin, hQ, hlim]
   ·simp only [opn]
    simp only [show ((kEnter == kEnter) || (kEnter == kLeave)) = true from by decide, show (kEnter == kArm) = false from by decide, addR, ex, Bool.not_true, Bool.and_false, Bool.false_and, Bool.or_self, if_true, Bool.false_eq_true, if_false, show ¬ (1 : Int) = 0 from by decide]
    generalize pStr L = Q at *
    generalize L.length = y at *
    simp -implicitDefEqProofs [hdS, tlS, t27d, t27c, t27b, t140a, c140, strBin]
  ·cases o2
   ·simp only [opn]
    simp only [show ((kEnter == kEnter) || (kEnter == kLeave)) = true from by decide, show (kEnter == kArm) = false from by decide, addR, ex, Bool.not_false, Bool.and_self, Bool.true_or, if_true, e1, e2, show ¬ (2 : Int) = 0 from by decide, show ¬ (2 : Int) = 1 from by decide, if_false]
    generalize pStr L = Q at *
    generalize L.length = y at *
    simp -implicitDefEqProofs [hdS, tlS, t27d, t27c, t27b, t140a, c140, strBin, hQ, hlim]
   ·simp only [opn]
    simp only [show ((kEnter == kEnter) || (kEnter == kLeave)) = true from by decide, show (kEnter == kArm) = false from by decide, addR, ex, Bool.not_true, Bool.and_false, Bool.false_and, Bool.or_self, if_true, Bool.false_eq_true, if_false, show ¬ (2 : Int) = 0 from by decide, show ¬ (2 : Int) = 1 from by decide]
    generalize pStr L = Q at *
    generalize L.length = y at *
    simp -implicitDefEqProofs [hdS, tlS, t27d, t27c, t27b, t140a, c140, strBin]
  ·cases o3
   ·simp only [opn]
    simp only [show ((kEnter == kEnter) || (kEnter == kLeave)) = true from by decide, show (kEnter == kArm) = false from by decide, addR, ex, Bool.not_false, Bool.and_self, Bool.true_or, if_true, e1, e2, show ¬ (3 : Int) = 0 from by decide, show ¬ (3 : Int) = 1 from by decide, show ¬ (3 : Int) = 2 from by decide, if_false]
    generalize pStr L = Q at *
    generalize L.length = y at *
    simp -implicitDefEqProofs [hdS, tlS, t27d, t27c, t27b, t140a, c140, strBin, hQ, hlim]
   ·simp only [opn]
    simp only [show ((kEnter == kEnter) || (kEnter == kLeave)) = true from by decide, show (kEnter == kArm) = false from by decide, addR, ex, Bool.not_true, Bool.and_false, Bool.false_and, Bool.or_self, if_true, Bool.false_eq_true, if_false, show ¬ (3 : Int) = 0 from by decide, show ¬ (3 : Int) = 1 from by decide, show ¬ (3 : Int) = 2 from by decide]
    generalize pStr L = Q at *
    generalize L.length = y at *
    simp -implicitDefEqProofs [hdS, tlS, t27d, t27c, t27b, t140a, c140, strBin]
  ·cases o4
   ·simp only [opn]
    simp only [show ((kEnter == kEnter) || (kEnter == kLeave)) = true from by decide, show (kEnter == kArm) = false from by decide, addR, ex, Bool.not_false, Bool.and_self, Bool.true_or, if_true, e1, e2, show ¬ (4 : Int) = 0 from by decide, show ¬ (4 : Int) = 1 from by decide, show ¬ (4 : Int) = 2 from by decide, show ¬ (4 : Int) = 3 from by decide, if_false]
    generalize pStr L = Q at *
    generalize L.length = y at *
    simp -implicitDefEqProofs [hdS, tlS, t27d, t27c, t27b, t140a, c140, strBin, hQ, hlim]
   ·simp only [opn]
    simp only [show ((kEnter == kEnter) || (kEnter == kLeave)) = true from by decide, show (kEnter == kArm) = false from by decide, addR, ex, Bool.not_true, Bool.and_false, Bool.false_and, Bool.or_self, if_true, Bool.false_eq_true, if_false, show ¬ (4 : Int) = 0 from by decide, show ¬ (4 : Int) = 1 from by decide, show ¬ (4 : Int) = 2 from by decide, show ¬ (4 : Int) = 3 from by decide]
    generalize pStr L = Q at *
    generalize L.length = y at *
    simp -implicitDefEqProofs [hdS, tlS, t27d, t27c, t27b, t140a, c140, strBin]
  ·cases o5
   ·simp only [opn]
    simp only [show ((kEnter == kEnter) || (kEnter == kLeave)) = true from by decide, show (kEnter == kArm) = false from by decide, addR, ex, Bool.not_false, Bool.and_self, Bool.true_or, if_true, e1, e2, show ¬ (5 : Int) = 0 from by decide, show ¬ (5 : Int) = 1 from by decide, show ¬ (5 : Int) = 2 from by decide, show ¬ (5 : Int) = 3 from by decide, show ¬ (5 : Int) = 4 from by decide, if_false]
    generalize pStr L = Q at *
    generalize L.length = y at *
    simp -implicitDefEqProofs [hdS, tlS, t27d, t27c, t27b, t140a, c140, strBin, hQ, hlim]
   ·simp only [opn]
    simp only [show ((kEnter == kEnter) || (kEnter == kLeave)) = true from by decide, show (kEnter == kArm) = false from by decide, addR, ex, Bool.not_true, Bool.and_false, Bool.false_and, Bool.or_self, if_true, Bool.false_eq_true, if_false, show ¬ (5 : Int) = 0 from by decide, show ¬ (5 : Int) = 1 from by decide, show ¬ (5 : Int) = 2 from by decide, show ¬ (5 : Int) = 3 from by decide, show ¬ (5 : Int) = 4 from by decide]
    generalize pStr L = Q at *
    generalize L.length = y at *
    simp -implicitDefEqProofs [hdS, tlS, t27d, t27c, t27b, t140a, c140, strBin]
  ·cases o6
   ·simp only [opn]
    simp only [show ((kEnter == kEnter) || (kEnter == kLeave)) = true from by decide, show (kEnter == kArm) = false from by decide, addR, ex, Bool.not_false, Bool.and_self, Bool.true_or, if_true, e1, e2, show ¬ (6 : Int) = 0 from by decide, show ¬ (6 : Int) = 1 from by decide, show ¬ (6 : Int) = 2 from by decide, show ¬ (6 : Int) = 3 from by decide, show ¬ (6 : Int) = 4 from by decide, show ¬ (6 : Int) = 5 from by decide, if_false]
    generalize pStr L = Q at *
    generalize L.length = y at *
    simp -implicitDefEqProofs [hdS, tlS, t27d, t27c, t27b, t140a, c140, strBin, hQ, hlim]
   ·simp only [opn]
    simp only [show ((kEnter == kEnter) || (kEnter == kLeave)) = true from by decide, show (kEnter == kArm) = false from by decide, addR, ex, Bool.not_true, Bool.and_false, Bool.false_and, Bool.or_self, if_true, Bool.false_eq_true, if_false, show ¬ (6 : Int) = 0 from by decide, show ¬ (6 : Int) = 1 from by decide, show ¬ (6 : Int) = 2 from by decide, show ¬ (6 : Int) = 3 from by decide, show ¬ (6 : Int) = 4 from by decide, show ¬ (6 : Int) = 5 from by decide]
    generalize pStr L = Q at *
    generalize L.length = y at *
    simp -implicitDefEqProofs [hdS, tlS, t27d, t27c, t27b, t140a, c140, strBin]
  ·cases o7
   ·simp only [opn]
    simp only [show ((kEnter == kEnter) || (kEnter == kLeave)) = true from by decide, show (kEnter == kArm) = false from by decide, addR, ex, Bool.not_false, Bool.and_self, Bool.true_or, if_true, e1, e2, show ¬ (7 : Int) = 0 from by decide, show ¬ (7 : Int) = 1 from by decide, show ¬ (7 : Int) = 2 from by decide, show ¬ (7 : Int) = 3 from by decide, show ¬ (7 : Int) = 4 from by decide, show ¬ (7 : Int) = 5 from by decide, show ¬ (7 : Int) = 6 from by decide, if_false]
    generalize pStr L = Q at *
    generalize L.length = y at *
    simp -implicitDefEqProofs [hdS, tlS, t27d, t27c, t27b, t140a, c140, strBin, hQ, hlim]
   ·simp only [opn]
    simp only [show ((kEnter == kEnter) || (kEnter == kLeave)) = true from by decide, show (kEnter == kArm) = false from by decide, addR, ex, Bool.not_true, Bool.and_false, Bool.false_and, Bool.or_self, Bool.false_eq_true, if_false, show ¬ (7 : Int) = 0 from by decide, show ¬ (7 : Int) = 1 from by decide, show ¬ (7 : Int) = 2 from by decide, show ¬ (7 : Int) = 3 from by decide, show ¬ (7 : Int) = 4 from by decide, show ¬ (7 : Int) = 5 from by decide, show ¬ (7 : Int) = 6 from by decide]
    generalize pStr L = Q at *
    generalize L.length = y at *
    simp -implicitDefEqProofs [hdS, tlS, t27d, t27c, t27b, t140a, c140, strBin]
 ·rcases eight (h.2.1 (show doorB kLeave = true by decide)) with rfl | rfl | rfl | rfl | rfl | rfl | rfl | rfl
  ·cases o0
   ·simp only [opn]
    simp only [show ((kLeave == kEnter) || (kLeave == kLeave)) = true from by decide, show (kLeave == kArm) = false from by decide, addR, ex, Bool.not_false, Bool.and_self, Bool.true_or, if_true, e1, e2]
    generalize pStr L = Q at *
    generalize L.length = y at *
    simp -implicitDefEqProofs [hdS, tlS, t27d, t27c, t27b, t140a, c140, strBin, hQ, hlim]
   ·simp only [opn]
    simp only [show ((kLeave == kEnter) || (kLeave == kLeave)) = true from by decide, show (kLeave == kArm) = false from by decide, addR, ex, Bool.not_true, Bool.and_false, Bool.false_and, Bool.or_self, if_true, Bool.false_eq_true, if_false]
    generalize pStr L = Q at *
    generalize L.length = y at *
    simp -implicitDefEqProofs [hdS, tlS, t27d, t27c, t27b, t140a, c140, strBin]
  ·cases o1
   ·simp only [opn]
    simp only [show ((kLeave == kEnter) || (kLeave == kLeave)) = true from by decide, show (kLeave == kArm) = false from by decide, addR, ex, Bool.not_false, Bool.and_self, Bool.true_or, if_true, e1, e2, show ¬ (1 : Int) = 0 from by decide, if_false]
    generalize pStr L = Q at *
    generalize L.length = y at *
    simp -implicitDefEqProofs [hdS, tlS, t27d, t27c, t27b, t140a, c140, strBin, hQ, hlim]
   ·simp only [opn]
    simp only [show ((kLeave == kEnter) || (kLeave == kLeave)) = true from by decide, show (kLeave == kArm) = false from by decide, addR, ex, Bool.not_true, Bool.and_false, Bool.false_and, Bool.or_self, if_true, Bool.false_eq_true, if_false, show ¬ (1 : Int) = 0 from by decide]
    generalize pStr L = Q at *
    generalize L.length = y at *
    simp -implicitDefEqProofs [hdS, tlS, t27d, t27c, t27b, t140a, c140, strBin]
  ·cases o2
   ·simp only [opn]
    simp only [show ((kLeave == kEnter) || (kLeave == kLeave)) = true from by decide, show (kLeave == kArm) = false from by decide, addR, ex, Bool.not_false, Bool.and_self, Bool.true_or, if_true, e1, e2, show ¬ (2 : Int) = 0 from by decide, show ¬ (2 : Int) = 1 from by decide, if_false]
    generalize pStr L = Q at *
    generalize L.length = y at *
    simp -implicitDefEqProofs [hdS, tlS, t27d, t27c, t27b, t140a, c140, strBin, hQ, hlim]
   ·simp only [opn]
    simp only [show ((kLeave == kEnter) || (kLeave == kLeave)) = true from by decide, show (kLeave == kArm) = false from by decide, addR, ex, Bool.not_true, Bool.and_false, Bool.false_and, Bool.or_self, if_true, Bool.false_eq_true, if_false, show ¬ (2 : Int) = 0 from by decide, show ¬ (2 : Int) = 1 from by decide]
    generalize pStr L = Q at *
    generalize L.length = y at *
    simp -implicitDefEqProofs [hdS, tlS, t27d, t27c, t27b, t140a, c140, strBin]
  ·cases o3
   ·simp only [opn]
    simp only [show ((kLeave == kEnter) || (kLeave == kLeave)) = true from by decide, show (kLeave == kArm) = false from by decide, addR, ex, Bool.not_false, Bool.and_self, Bool.true_or, if_true, e1, e2, show ¬ (3 : Int) = 0 from by decide, show ¬ (3 : Int) = 1 from by decide, show ¬ (3 : Int) = 2 from by decide, if_false]
    generalize pStr L = Q at *
    generalize L.length = y at *
    simp -implicitDefEqProofs [hdS, tlS, t27d, t27c, t27b, t140a, c140, strBin, hQ, hlim]
   ·simp only [opn]
    simp only [show ((kLeave == kEnter) || (kLeave == kLeave)) = true from by decide, show (kLeave == kArm) = false from by decide, addR, ex, Bool.not_true, Bool.and_false, Bool.false_and, Bool.or_self, if_true, Bool.false_eq_true, if_false, show ¬ (3 : Int) = 0 from by decide, show ¬ (3 : Int) = 1 from by decide, show ¬ (3 : Int) = 2 from by decide]
    generalize pStr L = Q at *
    generalize L.length = y at *
    simp -implicitDefEqProofs [hdS, tlS, t27d, t27c, t27b, t140a, c140, strBin]
  ·cases o4
   ·simp only [opn]
    simp only [show ((kLeave == kEnter) || (kLeave == kLeave)) = true from by decide, show (kLeave == kArm) = false from by decide, addR, ex, Bool.not_false, Bool.and_self, Bool.true_or, if_true, e1, e2, show ¬ (4 : Int) = 0 from by decide, show ¬ (4 : Int) = 1 from by decide, show ¬ (4 : Int) = 2 from by decide, show ¬ (4 : Int) = 3 from by decide, if_false]
    generalize pStr L = Q at *
    generalize L.length = y at *
    simp -implicitDefEqProofs [hdS, tlS, t27d, t27c, t27b, t140a, c140, strBin, hQ, hlim]
   ·simp only [opn]
    simp only [show ((kLeave == kEnter) || (kLeave == kLeave)) = true from by decide, show (kLeave == kArm) = false from by decide, addR, ex, Bool.not_true, Bool.and_false, Bool.false_and, Bool.or_self, if_true, Bool.false_eq_true, if_false, show ¬ (4 : Int) = 0 from by decide, show ¬ (4 : Int) = 1 from by decide, show ¬ (4 : Int) = 2 from by decide, show ¬ (4 : Int) = 3 from by decide]
    generalize pStr L = Q at *
    generalize L.length = y at *
    simp -implicitDefEqProofs [hdS, tlS, t27d, t27c, t27b, t140a, c140, strBin]
  ·cases o5
   ·simp only [opn]
    simp only [show ((kLeave == kEnter) || (kLeave == kLeave)) = true from by decide, show (kLeave == kArm) = false from by decide, addR, ex, Bool.not_false, Bool.and_self, Bool.true_or, if_true, e1, e2, show ¬ (5 : Int) = 0 from by decide, show ¬ (5 : Int) = 1 from by decide, show ¬ (5 : Int) = 2 from by decide, show ¬ (5 : Int) = 3 from by decide, show ¬ (5 : Int) = 4 from by decide, if_false]
    generalize pStr L = Q at *
    generalize L.length = y at *
    simp -implicitDefEqProofs [hdS, tlS, t27d, t27c, t27b, t140a, c140, strBin, hQ, hlim]
   ·simp only [opn]
    simp only [show ((kLeave == kEnter) || (kLeave == kLeave)) = true from by decide, show (kLeave == kArm) = false from by decide, addR, ex, Bool.not_true, Bool.and_false, Bool.false_and, Bool.or_self, if_true, Bool.false_eq_true, if_false, show ¬ (5 : Int) = 0 from by decide, show ¬ (5 : Int) = 1 from by decide, show ¬ (5 : Int) = 2 from by decide, show ¬ (5 : Int) = 3 from by decide, show ¬ (5 : Int) = 4 from by decide]
    generalize pStr L = Q at *
    generalize L.length = y at *
    simp -implicitDefEqProofs [hdS, tlS, t27d, t27c, t27b, t140a, c140, strBin]
  ·cases o6
   ·simp only [opn]
    simp only [show ((kLeave == kEnter) || (kLeave == kLeave)) = true from by decide, show (kLeave == kArm) = false from by decide, addR, ex, Bool.not_false, Bool.and_self, Bool.true_or, if_true, e1, e2, show ¬ (6 : Int) = 0 from by decide, show ¬ (6 : Int) = 1 from by decide, show ¬ (6 : Int) = 2 from by decide, show ¬ (6 : Int) = 3 from by decide, show ¬ (6 : Int) = 4 from by decide, show ¬ (6 : Int) = 5 from by decide, if_false]
    generalize pStr L = Q at *
    generalize L.length = y at *
    simp -implicitDefEqProofs [hdS, tlS, t27d, t27c, t27b, t140a, c140, strBin, hQ, hlim]
   ·simp only [opn]
    simp only [show ((kLeave == kEnter) || (kLeave == kLeave)) = true from by decide, show (kLeave == kArm) = false from by decide, addR, ex, Bool.not_true, Bool.and_false, Bool.false_and, Bool.or_self, if_true, Bool.false_eq_true, if_false, show ¬ (6 : Int) = 0 from by decide, show ¬ (6 : Int) = 1 from by decide, show ¬ (6 : Int) = 2 from by decide, show ¬ (6 : Int) = 3 from by decide, show ¬ (6 : Int) = 4 from by decide, show ¬ (6 : Int) = 5 from by decide]
    generalize pStr L = Q at *
    generalize L.length = y at *
    simp -implicitDefEqProofs [hdS, tlS, t27d, t27c, t27b, t140a, c140, strBin]
  ·cases o7
   ·simp only [opn]
    simp only [show ((kLeave == kEnter) || (kLeave == kLeave)) = true from by decide, show (kLeave == kArm) = false from by decide, addR, ex, Bool.not_false, Bool.and_self, Bool.true_or, if_true, e1, e2, show ¬ (7 : Int) = 0 from by decide, show ¬ (7 : Int) = 1 from by decide, show ¬ (7 : Int) = 2 from by decide, show ¬ (7 : Int) = 3 from by decide, show ¬ (7 : Int) = 4 from by decide, show ¬ (7 : Int) = 5 from by decide, show ¬ (7 : Int) = 6 from by decide, if_false]
    generalize pStr L = Q at *
    generalize L.length = y at *
    simp -implicitDefEqProofs [hdS, tlS, t27d, t27c, t27b, t140a, c140, strBin, hQ, hlim]
   ·simp only [opn]
    simp only [show ((kLeave == kEnter) || (kLeave == kLeave)) = true from by decide, show (kLeave == kArm) = false from by decide, addR, ex, Bool.not_true, Bool.and_false, Bool.false_and, Bool.or_self, Bool.false_eq_true, if_false, show ¬ (7 : Int) = 0 from by decide, show ¬ (7 : Int) = 1 from by decide, show ¬ (7 : Int) = 2 from by decide, show ¬ (7 : Int) = 3 from by decide, show ¬ (7 : Int) = 4 from by decide, show ¬ (7 : Int) = 5 from by decide, show ¬ (7 : Int) = 6 from by decide]
    generalize pStr L = Q at *
    generalize L.length = y at *
    simp -implicitDefEqProofs [hdS, tlS, t27d, t27c, t27b, t140a, c140, strBin]
 ·simp only [show ((kArm == kEnter) || (kArm == kLeave)) = false from by decide, show (kArm == kArm) = true from by decide, anyO, Bool.false_and, Bool.false_or, Bool.true_and]
  cases hz : (o0 || (o1 || (o2 || (o3 || (o4 || (o5 || (o6 || o7)))))))
  ·simp only [addR, ex, Bool.false_eq_true, if_false]
   generalize pStr L = Q at *
   generalize L.length = y at *
   simp -implicitDefEqProofs [hdS, tlS, t27d, t27c, t27b, t140a, c140, strBin, hz]
  ·simp only [addR, ex, if_true, e1, e2]
   generalize pStr L = Q at *
   generalize L.length = y at *
   simp -implicitDefEqProofs [hdS, tlS, t27d, t27c, t27b, t140a, c140, strBin, hQ, hlim, hz]
 ·simp only [show ((kDisarm == kEnter) || (kDisarm == kLeave)) = false from by decide, show (kDisarm == kArm) = false from by decide, Bool.false_and, Bool.or_self, addR, ex, Bool.false_eq_true, if_false]
  generalize pStr L = Q at *
  generalize L.length = y at *
  simp -implicitDefEqProofs [hdS, tlS, t27d, t27c, t27b, t140a, c140, strBin]
 ·simp only [show ((kShoot == kEnter) || (kShoot == kLeave)) = false from by decide, show (kShoot == kArm) = false from by decide, Bool.false_and, Bool.or_self, addR, ex, Bool.false_eq_true, if_false]
  generalize pStr L = Q at *
  generalize L.length = y at *
  simp -implicitDefEqProofs [hdS, tlS, t27d, t27c, t27b, t140a, c140, strBin]
 ·simp only [show ((kMeasure == kEnter) || (kMeasure == kLeave)) = false from by decide, show (kMeasure == kArm) = false from by decide, Bool.false_and, Bool.or_self, addR, ex, Bool.false_eq_true, if_false]
  generalize pStr L = Q at *
  generalize L.length = y at *
  simp -implicitDefEqProofs [hdS, tlS, t27d, t27c, t27b, t140a, c140, strBin]

theorem s140f {d : Nat} (s : StaI) (x : ActI) (L : List (List UInt8)) (hL : L.length ≤ 7) (E : Env) : (evCode (evFn F C0 G0 d) C0 G0 0 t27e (S27 s x L E)).bind (finish [.tmp 4]) = (evCode (evFn F C0 G0 d) C0 G0 0 t27f (S27 s x (addR L (peoB s x) wPeople) (ex 133 (peoB s x)))).bind (finish [.tmp 4]) := by
 rw [t27_f]
 have hlim : L.length + 1 ≤ lim := by simp only [lim]; omega
 have hQ : (pStr L).length = L.length := by simp
 have e1 : pStr (L ++ [wPeople]) = pStr L ++ [.str wPeople] := (pStr_snoc _ _).symm
 have e2 : (L ++ [wPeople]).length = L.length + 1 := by simp
 obtain ⟨t, k, m, a, b, c⟩ := x
 obtain ⟨st, o0, o1, o2, o3, o4, o5, o6, o7, k0, k1, pp, ar, sh, ad⟩ := s
 simp only [peoB, mem1]
 simp only [S27, o27, sc]
 cases h1 : (k == kArm) <;> by_cases h2 : 0 < pp <;> simp only [h2, decide_true, decide_false]
 all_goals
  simp only [addR, ex, Bool.false_eq_true, if_false, if_true, e1, e2, Bool.and_true, Bool.and_false]
  generalize pStr L = Q at *
  generalize L.length = y at *
  simp -implicitDefEqProofs [hdS, tlS, t27e, t27d, t27c, t27b, t140a, c140, strBin, hQ, hlim, h1, h2]

theorem s140g {d : Nat} (s : StaI) (x : ActI) (L : List (List UInt8)) (hL : L.length ≤ 7) (E : Env) : (evCode (evFn F C0 G0 d) C0 G0 0 t27f (S27 s x L E)).bind (finish [.tmp 4]) = (evCode (evFn F C0 G0 d) C0 G0 0 t27g (S27 s x (addR L (keyR s x) wKey) (ex 151 (keyR s x)))).bind (finish [.tmp 4]) := by
 rw [t27_g]
 have hlim : L.length + 1 ≤ lim := by simp only [lim]; omega
 have hQ : (pStr L).length = L.length := by simp
 have e1 : pStr (L ++ [wKey]) = pStr L ++ [.str wKey] := (pStr_snoc _ _).symm
 have e2 : (L ++ [wKey]).length = L.length + 1 := by simp
 obtain ⟨t, k, m, a, b, c⟩ := x
 obtain ⟨st, o0, o1, o2, o3, o4, o5, o6, o7, k0, k1, pp, ar, sh, ad⟩ := s
 simp only [keyR, mem1]
 simp only [S27, o27, sc]
 cases h1 : (k == kArm) <;> cases k0 <;> cases k1
 all_goals
  simp only [addR, ex, Bool.false_eq_true, if_false, if_true, e1, e2, Bool.and_true, Bool.and_false, Bool.or_true, Bool.or_false, Bool.not_true, Bool.not_false]
  generalize pStr L = Q at *
  generalize L.length = y at *
  simp -implicitDefEqProofs [hdS, tlS, t27f, t27e, t27d, t27c, t27b, t140a, c140, strBin, hQ, hlim, h1]

theorem s140h {d : Nat} (s : StaI) (x : ActI) (L : List (List UInt8)) (hL : L.length ≤ 7) (E : Env) : (evCode (evFn F C0 G0 d) C0 G0 0 t27g (S27 s x L E)).bind (finish [.tmp 4]) = .ret (.own (pStr (addR L (waiB s x) wWait)) (addR L (waiB s x) wWait).length 1) := by
 have hlim : L.length + 1 ≤ lim := by simp only [lim]; omega
 have hQ : (pStr L).length = L.length := by simp
 have e1 : pStr (L ++ [wWait]) = pStr L ++ [.str wWait] := (pStr_snoc _ _).symm
 have e2 : (L ++ [wWait]).length = L.length + 1 := by simp
 obtain ⟨t, k, m, a, b, c⟩ := x
 obtain ⟨st, o0, o1, o2, o3, o4, o5, o6, o7, k0, k1, pp, ar, sh, ad⟩ := s
 simp only [waiB, mem3, admB]
 simp only [S27, o27, sc]
 have hgt : ∀ z : Int, (t < z) = ¬ (z ≤ t) := fun z => by simp
 have hne : (ad != -1) = !(ad == -1) := rfl
 simp only [hne]
 cases h1 : (k == kOpen) <;> cases h2 : (k == kEnter) <;> cases h3 : (k == kArm) <;> cases h4 : (ad == -1) <;> by_cases h5 : ad ≤ t
 all_goals
  simp only [h5, decide_true, decide_false, addR, Bool.false_eq_true, if_false, if_true, e1, e2, Bool.and_true, Bool.and_false, Bool.or_true, Bool.or_false, Bool.not_true, Bool.not_false]
  generalize pStr L = Q at *
  generalize L.length = y at *
  simp -implicitDefEqProofs [tlS, t27g, t27f, t27e, t27d, t27c, t27b, t140a, c140, strBin, hQ, hlim, h1, h2, h3, h4, h5, hgt]

theorem reasons140 {n : Nat} (hn : 1 ≤ n) (s : StaI) (x : ActI) (h : NumOk x) (hp : s.people ≤ 100) : RUN n 140 [sa s, aa x] = .ret (.own (pStr (reaL s x)) (reaL s x).length 1) := by
 obtain ⟨d, rfl⟩ : ∃ d, n = d + 1 := ⟨n - 1, by omega⟩
 have l0 : ([] : List (List UInt8)).length ≤ 0 := by simp
 have l1 : (addR ([] : List (List UInt8)) (decide (x.tick < s.tick)) wTick).length ≤ 1 := by have := addR_le ([] : List (List UInt8)) (decide (x.tick < s.tick)) wTick; omega
 have l2 : (addR (addR ([] : List (List UInt8)) (decide (x.tick < s.tick)) wTick) (stB s x) wState).length ≤ 2 := by have := addR_le (addR ([] : List (List UInt8)) (decide (x.tick < s.tick)) wTick) (stB s x) wState; omega
 have l3 : (addR (addR (addR ([] : List (List UInt8)) (decide (x.tick < s.tick)) wTick) (stB s x) wState) (armB s x) wArmed).length ≤ 3 := by have := addR_le (addR (addR ([] : List (List UInt8)) (decide (x.tick < s.tick)) wTick) (stB s x) wState) (armB s x) wArmed; omega
 have l4 : (addR (addR (addR (addR ([] : List (List UInt8)) (decide (x.tick < s.tick)) wTick) (stB s x) wState) (armB s x) wArmed) (dooB s x) wDoor).length ≤ 4 := by have := addR_le (addR (addR (addR ([] : List (List UInt8)) (decide (x.tick < s.tick)) wTick) (stB s x) wState) (armB s x) wArmed) (dooB s x) wDoor; omega
 have l5 : (addR (addR (addR (addR (addR ([] : List (List UInt8)) (decide (x.tick < s.tick)) wTick) (stB s x) wState) (armB s x) wArmed) (dooB s x) wDoor) (peoB s x) wPeople).length ≤ 5 := by have := addR_le (addR (addR (addR (addR ([] : List (List UInt8)) (decide (x.tick < s.tick)) wTick) (stB s x) wState) (armB s x) wArmed) (dooB s x) wDoor) (peoB s x) wPeople; omega
 have l6 : (addR (addR (addR (addR (addR (addR ([] : List (List UInt8)) (decide (x.tick < s.tick)) wTick) (stB s x) wState) (armB s x) wArmed) (dooB s x) wDoor) (peoB s x) wPeople) (keyR s x) wKey).length ≤ 6 := by have := addR_le (addR (addR (addR (addR (addR ([] : List (List UInt8)) (decide (x.tick < s.tick)) wTick) (stB s x) wState) (armB s x) wArmed) (dooB s x) wDoor) (peoB s x) wPeople) (keyR s x) wKey; omega
 rw [s140a, s140b s x h hp, s140c s x _ _ (by omega), s140d s x _ (by omega), s140e s x h _ (by omega), s140f s x _ (by omega), s140g s x _ (by omega), s140h s x _ (by omega)]
 rfl
end Fw
end

