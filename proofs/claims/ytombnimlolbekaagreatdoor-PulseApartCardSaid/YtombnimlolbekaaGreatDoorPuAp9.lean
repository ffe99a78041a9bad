/- Several texts in one: steps of the proof, no condition of their own. -/
import Derived.Test.YtombnimlolbekaaGreatDoorPuAp3
import Derived.Test.YtombnimlolbekaaGreatDoorPuSpr
import Derived.Test.YtombnimlolbekaaGreatDoorPuUt
import Derived.Test.YtombnimlolbekaaGreatDoorPuQ1
attribute [local irreducible] Fw.evCode Fw.evOps Fw.evOpsD Fw.evOper Fw.evOperD Fw.evOp Fw.evFn Fw.loopN Fw.T.All Fw.T.bind Fw.callPure Fw.callOp Fw.opsK Fw.opsDK Fw.restK Fw.seqK Fw.blockK Fw.loopS Fw.setK Fw.setQ Fw.giveK Fw.scalK Fw.gcK Fw.finish Fw.finS Fw.rfunK Fw.yldK Fw.yldB Fw.loopK
section
set_option maxHeartbeats 16000000
set_option maxRecDepth 8000
namespace Fw
open Go

def nearB (l : List Int) : Bool := l.all fun n => decide (-40000 ≤ n) && decide (n ≤ 40000)
theorem nearB_iff {l : List Int} : nearB l = true ↔ ∀ a ∈ l, -40000 ≤ a ∧ a ≤ 40000 := by
 simp [nearB]

def E0 (ls : List (List Int)) (c : List (Int × Int)) (y : List Int) (i j : Nat) : Env := [(0, llsl ls), (1, csl c), (5, .ptr 0 0 0), (107, llsl ls), (108, iv ls.length), (109, iv i), (113, .p (.sl (pI y) y.length)), (114, iv y.length), (115, iv j)]
theorem gate0 (ls : List (List Int)) (c : List (Int × Int)) (y : List Int) (hy : y.length < 1000000) (i : Nat) (S : Sto) :
  loopN (loopS (evFn F C0 G0 60) C0 G0 0 false [0, 1, 5, 107, 108, 109, 113, 114, 115] c9L0) loopFuel ⟨E0 ls c y i 0, S⟩ = .ret (if nearB y = true then (.exit 2, ⟨E0 ls c y i y.length ++ [(116, .p (.bool false))], S⟩) else (.ret, ⟨[(6, .p (.bool true))], S⟩)) := by
 have ka := awake12
 have key := loop_rec (step := loopS (evFn F C0 G0 60) C0 G0 0 false [0, 1, 5, 107, 108, 109, 113, 114, 115] c9L0) (fun j => ⟨E0 ls c y i j, S⟩)
  (fun j => if nearB (y.drop j) = true then (.exit 2, ⟨E0 ls c y i y.length ++ [(116, .p (.bool false))], S⟩) else (.ret, ⟨[(6, .p (.bool true))], S⟩)) y.length (st0 := ⟨E0 ls c y i 0, S⟩) rfl ?_ ?_ (fuel := loopFuel) (by simp [loopFuel]; omega)
 ·exact key
 ·intro j hj
  have hlt : (j : Int) < y.length := by omega
  have hw := wrap_succ (i := j) (by omega)
  have hg : y[j]? = some y[j] := List.getElem?_eq_getElem hj
  have hd : nearB (y.drop j) = ((decide (-40000 ≤ y[j]) && decide (y[j] ≤ 40000)) && nearB (y.drop (j + 1))) := by
   rw [List.drop_eq_getElem_cons hj]
   simp only [nearB, List.all_cons]
  generalize hya : y[j] = a at *
  by_cases h1 : a < -40000
  ·have hf : nearB (y.drop j) = false := by rw [hd]; simp; omega
   refine .inr ⟨?_, ?_⟩
   ·simp -implicitDefEqProofs [E0, loopS_eq, c9L0, hj, hlt, hya, h1, hf, ka]
   ·simp [hf]
  ·by_cases h2 : 40000 < a
   ·have hf : nearB (y.drop j) = false := by rw [hd]; simp; omega
    refine .inr ⟨?_, ?_⟩
    ·simp -implicitDefEqProofs [E0, loopS_eq, c9L0, hj, hlt, hya, h1, h2, hf, ka]
    ·simp [hf]
   ·refine .inl ⟨?_, ?_⟩
    ·simp -implicitDefEqProofs [E0, loopS_eq, c9L0, hj, hlt, hya, h1, h2, hw]
    ·have : nearB (y.drop j) = nearB (y.drop (j + 1)) := by rw [hd]; simp; intro _; omega
     simp [this]
 ·have : y.drop y.length = [] := List.drop_of_length_le (by omega)
  simp -implicitDefEqProofs [E0, loopS_eq, c9L0, this, nearB]

def E1 (ls : List (List Int)) (c : List (Int × Int)) (i : Nat) : Env := [(0, llsl ls), (1, csl c), (5, .ptr 0 0 0), (107, llsl ls), (108, iv ls.length), (109, iv i)]
theorem gate1 (ls : List (List Int)) (c : List (Int × Int)) (hl : ls.length < 1000000) (hi : ∀ l ∈ ls, l.length < 1000000) (S : Sto) :
  loopN (loopS (evFn F C0 G0 60) C0 G0 0 false [0, 1, 5, 107, 108, 109] c9L1) loopFuel ⟨E1 ls c 0, S⟩ = .ret (if ls.all nearB = true then (.exit 0, ⟨E1 ls c ls.length ++ [(110, .p (.bool false))], S⟩) else (.ret, ⟨[(6, .p (.bool true))], S⟩)) := by
 have key := loop_rec (step := loopS (evFn F C0 G0 60) C0 G0 0 false [0, 1, 5, 107, 108, 109] c9L1) (fun j => ⟨E1 ls c j, S⟩)
  (fun j => if (ls.drop j).all nearB = true then (.exit 0, ⟨E1 ls c ls.length ++ [(110, .p (.bool false))], S⟩) else (.ret, ⟨[(6, .p (.bool true))], S⟩)) ls.length (st0 := ⟨E1 ls c 0, S⟩) rfl ?_ ?_ (fuel := loopFuel) (by simp [loopFuel]; omega)
 ·exact key
 ·intro j hj
  have hlt : (j : Int) < ls.length := by omega
  have hw := wrap_succ (i := j) (by omega)
  have hdr := drop_lsl ls j hj
  have hd : (ls.drop j).all nearB = (nearB ls[j] && (ls.drop (j + 1)).all nearB) := by
   rw [List.drop_eq_getElem_cons hj, List.all_cons]
  have kg := gate0 ls c ls[j] (hi _ (List.getElem_mem hj)) j S
  have z00 : ((0 : Nat) : Int) = 0 := rfl
  generalize ls[j] = y at *
  simp only [E0, z00] at kg
  cases hn : nearB y with
  | true =>
   rw [hn, if_pos rfl] at kg
   refine .inl ⟨?_, ?_⟩
   ·simp -implicitDefEqProofs [E1, loopS_eq, c9L1, hj, hlt, hdr, lsl]
    rw [kg]
    simp -implicitDefEqProofs [hw]
   ·simp only [hd, hn, Bool.true_and]
  | false =>
   rw [hn] at kg
   simp only [Bool.false_eq_true, if_false] at kg
   have hfb : (ls.drop j).all nearB = false := by rw [hd, hn]; rfl
   refine .inr ⟨?_, ?_⟩
   ·simp only [hfb, Bool.false_eq_true, if_false]
    simp -implicitDefEqProofs [E1, loopS_eq, c9L1, hj, hlt, hdr, lsl]
    rw [kg]
    simp -implicitDefEqProofs
   ·simp only [hfb, Bool.false_eq_true, if_false]
    simp
 ·have : ls.drop ls.length = [] := List.drop_of_length_le (by omega)
  simp -implicitDefEqProofs [E1, loopS_eq, c9L1, this]

def wF (c : List (Int × Int)) (p : List Int) (i : Nat) : List (Int × Int) := (List.range c.length).map fun j => if j < i then wideI (c.getD j (0, 0)) (p.getD j 0) else c.getD j (0, 0)
@[simp] theorem wF_length (c : List (Int × Int)) (p : List Int) (i : Nat) : (wF c p i).length = c.length := by simp [wF]
theorem wF_zero (c : List (Int × Int)) (p : List Int) : wF c p 0 = c := by
 refine List.ext_getElem (by simp) (fun j h1 h2 => ?_)
 simp [wF, List.getD_eq_getElem?_getD, List.getElem?_eq_getElem h2]
theorem wF_at (c : List (Int × Int)) (p : List Int) (i : Nat) (h : i < c.length) (q : i < (wF c p i).length) : (wF c p i)[i]'q = c[i] := by
 simp [wF, List.getD_eq_getElem?_getD, List.getElem?_eq_getElem h]
theorem wF_succ (c : List (Int × Int)) (p : List Int) (i : Nat) (h : i < c.length) : (wF c p i).set i (wideI c[i] (p.getD i 0)) = wF c p (i + 1) := by
 refine List.ext_getElem (by simp) (fun j h1 h2 => ?_)
 have hj : j < c.length := by simpa using h2
 rw [List.getElem_set]
 by_cases hji : i = j
 ·subst hji
  simp [wF, List.getD_eq_getElem?_getD, List.getElem?_eq_getElem h]
 ·simp only [if_neg hji, wF, List.getElem_map, List.getElem_range]
  by_cases h3 : j < i
  ·rw [if_pos h3, if_pos (by omega)]
  ·rw [if_neg h3, if_neg (by omega)]
end Fw
end

section
set_option maxHeartbeats 16000000
set_option maxRecDepth 8000
namespace Fw
open Go

def bothL (p q : List Int) : List Int := p.zipWith (· + ·) q
theorem both_take (p q : List Int) (i : Nat) (hp : i < p.length) (hq : i < q.length) : pI ((bothL p q).take (i + 1)) = pI ((bothL p q).take i) ++ [.int .i64 (p[i] + q[i])] := by
 have hb : i < (bothL p q).length := by simp [bothL]; omega
 rw [List.take_succ_eq_append_getElem hb]
 simp [pI, bothL]

def E2 (ls : List (List Int)) (c : List (Int × Int)) (p q : List Int) (b a : Int) (i : Nat) : Env := [(0, llsl ls), (1, csl c), (5, .ptr 0 0 0), (11, isl p), (12, isl q), (15, iv b), (16, iv a), (18, .p (.bool true)), (19, .sl 1 0 0 c.length), (20, .sl 2 i 0 i), (183, iv c.length), (184, iv i)]
def S2 (c : List (Int × Int)) (p q : List Int) (B : List AVal) (i : Nat) : Sto := [(2, .arr (pI ((bothL p q).take i)) i 1), (1, .arr (cI (wF c p i)) 0 2), (0, .box B)]

theorem wide_loop (ls : List (List Int)) {c : List (Int × Int)} {p q : List Int} (hp : p.length = c.length) (hq : q.length = c.length) (hcl : c.length ≤ 64) (hc : ∀ x ∈ c, 0 ≤ x.1 ∧ x.1 ≤ 10000 ∧ 0 ≤ x.2 ∧ x.2 ≤ 10000 ∧ x.1 ≤ x.2) (hpa : ∀ a ∈ p, -40000 ≤ a ∧ a ≤ 40000) (hqa : ∀ a ∈ q, -40000 ≤ a ∧ a ≤ 40000) (B : List AVal) :
  loopN (loopS (evFn F C0 G0 60) C0 G0 0 false [0, 1, 5, 11, 12, 15, 16, 18, 19, 20, 183, 184] c9L2) loopFuel ⟨E2 ls c p q (exF c p c.length).1 (exF c p c.length).2 0, S2 c p q B 0⟩ = .ret (.exit 4, ⟨E2 ls c p q (exF c p c.length).1 (exF c p c.length).2 c.length ++ [(185, .p (.bool false))], S2 c p q B c.length⟩) := by
 refine loop_run' (fun i => ⟨E2 ls c p q (exF c p c.length).1 (exF c p c.length).2 i, S2 c p q B i⟩) c.length (by simp) rfl ?_ (by simp -implicitDefEqProofs [E2, S2, loopS_eq, c9L2]) (by simp [loopFuel]; omega)
 intro i hi
 have hip : i < p.length := by omega
 have hiq : i < q.length := by omega
 have hlt' : (i : Int) < (c.length : Int) := by omega
 have hlp : (i : Int) < (p.length : Int) := by omega
 have hlq : (i : Int) < (q.length : Int) := by omega
 obtain ⟨fx, _, _⟩ := exF_facts c p c.length (by omega)
 have fx := fx i hi
 have hb := both_take p q i hip hiq
 have hbl : ((bothL p q).take i).length = i := by simp [bothL]; omega
 have hat := wF_at c p i hi (by simpa using hi)
 have hset := wF_succ c p i hi
 have hx := cI_drop c i hi
 have hg0 := cI_get0 (wF c p i) i (by simpa using hi)
 have hg1 := cI_get1 (wF c p i) i (by simpa using hi)
 have hs0 := cI_set0 (wF c p i) i (by simpa using hi)
 have hs1 := fun x y => cI_set1 ((wF c p i).set i x) i (by simpa using hi) y
 rw [hat] at hg0 hg1
 have hcx := hc c[i] (List.getElem_mem hi)
 have hpx := hpa p[i] (List.getElem_mem hip)
 have hqx := hqa q[i] (List.getElem_mem hiq)
 have gc : c.getD i (0, 0) = c[i] := by simp [List.getD_eq_getElem?_getD, List.getElem?_eq_getElem hi]
 have gp : p.getD i 0 = p[i] := by simp [List.getD_eq_getElem?_getD, List.getElem?_eq_getElem hip]
 rw [gc, gp] at fx
 rw [gp] at hset
 have hPg : ∀ q, (pI p)[i]'q = .int .i64 p[i] := fun q => by simp [pI]
 have hQg : ∀ z, (pI q)[i]'z = .int .i64 q[i] := fun z => by simp [pI]
 have hPl : (pI p).length = p.length := by simp
 have hQl : (pI q).length = q.length := by simp
 have hCl : (cI c).length = c.length * 2 := by simp
 have hWl : (cI (wF c p i)).length = c.length * 2 := by simp
 have hUl : (pI ((bothL p q).take i)).length = i := by rw [pI_length]; exact hbl
 have hw := wrap_succ (i := i) (by omega)
 have hlim : i + 1 ≤ lim := by simp only [lim]; omega
 have i0 : i * 2 < c.length * 2 := by omega
 have i1 : i * 2 + 1 < c.length * 2 := by omega
 have i2 : i * 2 + 1 + 1 ≤ c.length * 2 := by omega
 have i3 : i * 2 + 2 ≤ c.length * 2 := by omega
 generalize hxx : c[i] = x at *
 generalize p[i] = a at *
 generalize q[i] = b at *
 obtain ⟨x1, x2⟩ := x
 simp only at hcx hg0 hg1
 have k73 := to73 (n := 60) (by omega) (min x1 (max 0 a)) (max x2 (min 10000 a))
 have w1 := wrap64 (n := x1 - a) (by omega) (by omega)
 have w2 := wrap64 (n := a - x2) (by omega) (by omega)
 have w3 := wrap64 (n := a + b) (by omega) (by omega)
 have hmax : maxInt 0 [iv (x1 - a), iv (a - x2)] = some (exN (x1, x2) a) := by
  simp only [maxInt, exN]
  congr 1
  omega
 have m1 : maxInt 0 [iv a] = some (max 0 a) := by simp only [maxInt]; congr 1; omega
 have m2 := minP2 x1 (max 0 a)
 have m3 := minP2 10000 a
 have m4 : maxInt x2 [iv (min 10000 a)] = some (max x2 (min 10000 a)) := by simp only [maxInt]; congr 1; omega
 simp only [hat] at hs0
 have hs1 := hs1 (min x1 (max 0 a), x2) (max x2 (min 10000 a))
 simp only [List.getElem_set_self] at hs1
 have hs0 := hs0 (min x1 (max 0 a))
 have hss : ((cI (wF c p i)).set (i * 2) (.int .i64 (min x1 (max 0 a)))).set (i * 2 + 1) (.int .i64 (max x2 (min 10000 a))) = cI (wF c p (i + 1)) := by
  rw [hs0, hs1, ← hset, List.set_set]
  rfl
 clear hs0 hs1
 have hg0 : ∀ q, (cI (wF c p i))[i * 2]'q = .int .i64 x1 := fun q => by
  rw [List.getElem?_eq_getElem q] at hg0
  exact Option.some.inj hg0
 have hg1 : ∀ q, (cI (wF c p i))[i * 2 + 1]'q = .int .i64 x2 := fun q => by
  rw [List.getElem?_eq_getElem q] at hg1
  exact Option.some.inj hg1
 simp only [E2, S2, isl, csl]
 generalize hY : cI (wF c p i) = Y at *
 generalize hZ : cI (wF c p (i + 1)) = Z at *
 generalize hP : pI p = P at *
 generalize hQ : pI q = Q at *
 generalize hU : pI ((bothL p q).take i) = U at *
 generalize hV : pI ((bothL p q).take (i + 1)) = V at *
 generalize exN (x1, x2) a = o at *
 generalize (exF c p c.length).1 = by' at *
 generalize (exF c p c.length).2 = at' at *
 obtain ⟨f0, f1⟩ := fx
 by_cases c1 : o < by'
 ·refine ⟨?_, ?h1, ?h2⟩
  case h1 =>
   simp -implicitDefEqProofs [loopS_eq, c9L2, hlt', hx, i0, i1, i2, hPl, hPg, hQl, hQg, hWl, hg0, hg1, hCl, hlp, hlq, hip, hiq, w1, w2, w3, hmax, m1, m2, m3, m4, k73, f0, c1, hss, hlim, hUl, hw]
   exact rfl
  case h2 => simp [hb]
 ·by_cases c2 : (by' == 0) = true
  ·refine ⟨?_, ?h1, ?h2⟩
   case h1 =>
    simp -implicitDefEqProofs [loopS_eq, c9L2, hlt', hx, i0, i1, i2, hPl, hPg, hQl, hQg, hWl, hg0, hg1, hCl, hlp, hlq, hip, hiq, w1, w2, w3, hmax, m1, m2, m3, m4, k73, f0, c1, c2, hss, hlim, hUl, hw]
    exact rfl
   case h2 => simp [hb]
  ·have c2' : ¬ by' = 0 := by simpa using c2
   have c3 : at' ≤ i := by omega
   have c2 : (by' == 0) = false := by simpa using c2
   refine ⟨?_, ?h1, ?h2⟩
   case h1 =>
    simp -implicitDefEqProofs [loopS_eq, c9L2, hlt', hx, i0, i1, i2, hPl, hPg, hQl, hQg, hWl, hg0, hg1, hCl, hlp, hlq, hip, hiq, w1, w2, w3, hmax, m1, m2, m3, m4, k73, f0, c1, c2, c3, hss, hlim, hUl, hw]
    exact rfl
   case h2 => simp [hb]
end Fw
end

section
set_option maxHeartbeats 16000000
set_option maxRecDepth 8000
namespace Fw
open Go

def limB (l : List Int) : Bool := l.all fun n => decide (0 ≤ n) && decide (n ≤ 10000)
theorem limB_take (l : List Int) (i : Nat) (h : i < l.length) : limB (l.take (i + 1)) = (limB (l.take i) && (decide (0 ≤ l[i]) && decide (l[i] ≤ 10000))) := by
 rw [List.take_succ_eq_append_getElem h]
 simp only [limB, List.all_append, List.all_cons, List.all_nil, Bool.and_true]

def E3 (ls : List (List Int)) (p q : List Int) (X Y : AVal) (i : Nat) : Env := [(0, llsl ls), (5, .ptr 0 0 0), (11, isl p), (12, isl q), (18, .p (.bool true)), (19, X), (20, Y), (23, .p (.bool (limB (p.take i)))), (267, isl p), (268, iv p.length), (269, iv i)]
theorem lim_loop (ls : List (List Int)) (p q : List Int) (hp : p.length < 1000000) (X Y : AVal) (S : Sto) :
  loopN (loopS (evFn F C0 G0 60) C0 G0 0 false [0, 5, 11, 12, 18, 19, 20, 23, 267, 268, 269] c9L3) loopFuel ⟨E3 ls p q X Y 0, S⟩ = .ret (.exit 6, ⟨E3 ls p q X Y p.length ++ [(270, .p (.bool false))], S⟩) := by
 refine loop_run' (fun i => ⟨E3 ls p q X Y i, S⟩) p.length (by simp) rfl ?_ (by simp -implicitDefEqProofs [E3, loopS_eq, c9L3]) (by simp [loopFuel]; omega)
 intro i hi
 have hlt' : (i : Int) < (p.length : Int) := by omega
 have hw := wrap_succ (i := i) (by omega)
 have ht := limB_take p i hi
 have hPg : ∀ q, (pI p)[i]'q = .int .i64 p[i] := fun q => by simp [pI]
 have hPl : (pI p).length = p.length := by simp
 simp only [E3, isl]
 generalize p[i] = a at *
 generalize limB (p.take (i + 1)) = t1 at *
 generalize limB (p.take i) = t0 at *
 generalize hP : pI p = P at *
 have key : ∀ b1 b2 : Bool, decide (0 ≤ a) = b1 → decide (a ≤ 10000) = b2 → ∃ st1, loopS (evFn F C0 G0 60) C0 G0 0 false [0, 5, 11, 12, 18, 19, 20, 23, 267, 268, 269] c9L3 ⟨[(0, llsl ls), (5, .ptr 0 0 0), (11, .p (.sl P p.length)), (12, .p (.sl (pI q) q.length)), (18, .p (.bool true)), (19, X), (20, Y), (23, .p (.bool t0)), (267, .p (.sl P p.length)), (268, iv p.length), (269, iv i)], S⟩ = .ret (.normal, st1) ∧ st1 = ⟨[(0, llsl ls), (5, .ptr 0 0 0), (11, .p (.sl P p.length)), (12, .p (.sl (pI q) q.length)), (18, .p (.bool true)), (19, X), (20, Y), (23, .p (.bool t1)), (267, .p (.sl P p.length)), (268, iv p.length), (269, iv (i + 1 : Nat))], S⟩ := by
  intro b1 b2 h1 h2
  rw [h1, h2] at ht
  subst ht
  refine ⟨_, ?_, rfl⟩
  cases t0 <;> cases b1 <;> cases b2 <;> simp only [decide_eq_true_eq, decide_eq_false_iff_not] at h1 h2 <;>
   simp -implicitDefEqProofs [loopS_eq, c9L3, hi, hlt', hPl, hPg, hw, h1, h2]
 obtain ⟨st1, k1, k2⟩ := key _ _ rfl rfl
 exact ⟨st1, k1, by rw [k2]⟩

def E4 (ls : List (List Int)) (p A B C D : List Int) (i : Nat) : Env := [(0, llsl ls), (5, .ptr 0 0 0), (11, isl p), (28, isl A), (30, isl B), (32, isl C), (34, isl D), (36, iv (sumF A i)), (371, iv p.length), (372, iv i)]
theorem sums_loop (ls : List (List Int)) (p A B C D : List Int) (hp : p.length < 1000000) (hA : A.length = p.length) (hB : B.length = p.length) (hC : C.length = p.length) (hD : D.length = p.length)
  (hr : ∀ i, i < p.length → (-9223372036854775808 ≤ sumF A (i + 1) ∧ sumF A (i + 1) ≤ 9223372036854775807) ∧ (-9223372036854775808 ≤ A.getD i 0 + B.getD i 0 ∧ A.getD i 0 + B.getD i 0 ≤ 9223372036854775807) ∧ C.getD i 0 = A.getD i 0 + B.getD i 0 ∧ D.getD i 0 = sumF A (i + 1)) (S : Sto) :
  loopN (loopS (evFn F C0 G0 60) C0 G0 0 false [0, 5, 11, 28, 30, 32, 34, 36, 371, 372] c9L4) loopFuel ⟨E4 ls p A B C D 0, S⟩ = .ret (.exit 8, ⟨E4 ls p A B C D p.length ++ [(373, .p (.bool false))], S⟩) := by
 refine loop_run' (fun i => ⟨E4 ls p A B C D i, S⟩) p.length (by simp) rfl ?_ (by simp -implicitDefEqProofs [E4, loopS_eq, c9L4]) (by simp [loopFuel]; omega)
 intro i hi
 have hlt' : (i : Int) < (p.length : Int) := by omega
 have hw := wrap_succ (i := i) (by omega)
 obtain ⟨r1, r2, r3, r4⟩ := hr i hi
 have hs : sumF A (i + 1) = sumF A i + A.getD i 0 := rfl
 have ga : A.getD i 0 = A[i] := by simp [List.getD_eq_getElem?_getD, List.getElem?_eq_getElem (show i < A.length by omega)]
 have gb : B.getD i 0 = B[i] := by simp [List.getD_eq_getElem?_getD, List.getElem?_eq_getElem (show i < B.length by omega)]
 have gc : C.getD i 0 = C[i] := by simp [List.getD_eq_getElem?_getD, List.getElem?_eq_getElem (show i < C.length by omega)]
 have gd : D.getD i 0 = D[i] := by simp [List.getD_eq_getElem?_getD, List.getElem?_eq_getElem (show i < D.length by omega)]
 have hAg : ∀ q, (pI A)[i]'q = .int .i64 (A.getD i 0) := fun q => by rw [ga]; simp [pI]
 have hBg : ∀ q, (pI B)[i]'q = .int .i64 (B.getD i 0) := fun q => by rw [gb]; simp [pI]
 have hCg : ∀ q, (pI C)[i]'q = .int .i64 (A.getD i 0 + B.getD i 0) := fun q => by rw [← r3, gc]; simp [pI]
 have hDg : ∀ q, (pI D)[i]'q = .int .i64 (sumF A i + A.getD i 0) := fun q => by rw [← hs, ← r4, gd]; simp [pI]
 have lA : (pI A).length = p.length := by simp [hA]
 have lB : (pI B).length = p.length := by simp [hB]
 have lC : (pI C).length = p.length := by simp [hC]
 have lD : (pI D).length = p.length := by simp [hD]
 have q1 := wrap64 r1.1 r1.2
 have q2 := wrap64 r2.1 r2.2
 rw [hs] at q1
 simp only [E4, hs]
 generalize A.getD i 0 = a at *
 generalize B.getD i 0 = b at *
 generalize sumF A i = s at *
 clear hs r4
 refine ⟨?_, ?h1, ?h2⟩
 case h1 =>
  simp -implicitDefEqProofs [loopS_eq, c9L4, hlt', hi, hA, hB, hC, hD, hAg, hBg, hCg, hDg, lA, lB, lC, lD, q1, q2, hw]
  exact rfl
 case h2 => simp
end Fw
end

section
set_option maxHeartbeats 16000000
set_option maxRecDepth 8000
namespace Fw
open Go

def widF (ls : List (List Int)) : Nat → Int
 | 0 => 0
 | i + 1 => max (widF ls i) (hiC ls i - loC ls i)

def E5 (ls : List (List Int)) (p : List Int) (M : AVal) (w : Int) (X : AVal) (m i r : Nat) : Env := [(0, llsl ls), (5, .ptr 0 0 0), (11, isl p), (41, M), (45, iv w), (46, iv i), (47, .ptr 1 0 0), (466, X), (467, iv m), (468, iv i), (480, llsl ls), (481, iv ls.length), (482, iv r)]
theorem in_loop {ls : List (List Int)} (hl : ls.length ≤ 8) (p : List Int) (M : AVal) (w : Int) (X : AVal) (m i : Nat) (hm : ∀ l ∈ ls, l.length = m) (hi : i < m) (R : Sto) :
  loopN (loopS (evFn F C0 G0 60) C0 G0 0 false [0, 5, 11, 41, 45, 46, 47, 466, 467, 468, 480, 481, 482] c9L5) loopFuel ⟨E5 ls p M w X m i 0, (1, .arr [.int .i64 (loC ls i), .int .i64 (hiC ls i)] 0 1) :: R⟩ = .ret (.exit 12, ⟨E5 ls p M w X m i ls.length ++ [(483, .p (.bool false))], (1, .arr [.int .i64 (loC ls i), .int .i64 (hiC ls i)] 0 1) :: R⟩) := by
 refine loop_run' (fun r => ⟨E5 ls p M w X m i r, (1, .arr [.int .i64 (loC ls i), .int .i64 (hiC ls i)] 0 1) :: R⟩) ls.length (by simp) rfl ?_ (by simp -implicitDefEqProofs [E5, loopS_eq, c9L5]) (by simp [loopFuel]; omega)
 intro r hr
 have hlt' : (r : Int) < (ls.length : Int) := by omega
 have hw := wrap_succ (i := r) (by omega)
 have hdr := drop_lsl ls r hr
 have hin := loC_le (ls := ls) (r := r) (k := i) hr
 have hzl := hm ls[r] (List.getElem_mem hr)
 have g1 : ls.getD r [] = ls[r] := by simp [List.getD_eq_getElem?_getD, List.getElem?_eq_getElem hr]
 rw [g1] at hin
 generalize ls[r] = z at *
 have g2 : z.getD i 0 = z[i] := by simp [List.getD_eq_getElem?_getD, List.getElem?_eq_getElem (show i < z.length by omega)]
 have hzg : ∀ q, (pI z)[i]'q = .int .i64 (z.getD i 0) := fun q => by rw [g2]; simp [pI]
 have hzp : (pI z).length = z.length := by simp
 have him : (i : Int) < (m : Int) := by omega
 have n1 : ¬ z.getD i 0 < loC ls i := by omega
 have n2 : ¬ hiC ls i < z.getD i 0 := by omega
 generalize z.getD i 0 = a at *
 generalize loC ls i = lo at *
 generalize hiC ls i = hi' at *
 refine ⟨?_, ?h1, ?h2⟩
 case h1 =>
  simp -implicitDefEqProofs [E5, loopS_eq, c9L5, hlt', hr, hdr, lsl, hzl, hzg, hzp, hi, him, n1, n2, hw]
  exact rfl
 case h2 => simp [E5]

def E6 (ls : List (List Int)) (p : List Int) (m : Nat) (i : Nat) : Env := [(0, llsl ls), (5, .ptr 0 0 0), (11, isl p), (41, .p (.sl (pI (meanL ls m)) m)), (45, iv (widF ls i)), (466, .p (.sl (cI (spreadL ls m)) m)), (467, iv m), (468, iv i)]
theorem spread_loop {ls : List (List Int)} (h0 : 0 < ls.length) (hl : ls.length ≤ 8) (p : List Int) (m : Nat) (hm : ∀ l ∈ ls, l.length = m) (hm2 : m ≤ 64) (hn : ∀ l ∈ ls, ∀ a ∈ l, -40000 ≤ a ∧ a ≤ 40000) (st : List (Int × Int)) (t : Int) (S0 : Sto) (h0' : loopS (evFn F C0 G0 60) C0 G0 0 true [0, 5, 11, 41, 45, 466, 467, 468] c9L6 ⟨E6 ls p m 0, S0⟩ = loopS (evFn F C0 G0 60) C0 G0 0 true [0, 5, 11, 41, 45, 466, 467, 468] c9L6 ⟨E6 ls p m 0, [(0, .box [csl st, .p (.int .u8 t)])]⟩) :
  loopN (loopS (evFn F C0 G0 60) C0 G0 0 true [0, 5, 11, 41, 45, 466, 467, 468] c9L6) loopFuel ⟨E6 ls p m 0, S0⟩ = .ret (.exit 10, ⟨E6 ls p m m ++ [(469, .p (.bool false))], [(0, .box [csl st, .p (.int .u8 t)])]⟩) := by
 refine loop_run' (fun i => ⟨E6 ls p m i, [(0, .box [csl st, .p (.int .u8 t)])]⟩) m (by simp) h0' ?_ (by simp -implicitDefEqProofs [E6, loopS_eq, c9L6]) (by simp [loopFuel]; omega)
 intro i hi
 have hlt' : (i : Int) < (m : Int) := by omega
 have hw := wrap_succ (i := i) (by omega)
 have hsp : (spreadL ls m)[i]? = some (loC ls i, hiC ls i) := by simp [spreadL, hi]
 have hsl : (spreadL ls m).length = m := spreadL_length ls m
 have hd := cI_drop (spreadL ls m) i (by omega)
 have he : (spreadL ls m)[i]'(by omega) = (loC ls i, hiC ls i) := by simp [spreadL]
 rw [he] at hd
 simp only at hd
 have hml : (meanL ls m).length = m := meanL_length ls m
 have hme : (meanL ls m)[i]'(by omega) = meanI ls i := by simp [meanL]
 have hMg : ∀ q, (pI (meanL ls m))[i]'q = .int .i64 (meanI ls i) := fun q => by simp [pI, hme]
 have hMl : (pI (meanL ls m)).length = m := by simp [hml]
 have hSl : (cI (spreadL ls m)).length = m * 2 := by simp [hsl]
 have hmi := mean_in (ls := ls) h0 i
 have n1 : ¬ meanI ls i < loC ls i := by omega
 have n2 : ¬ hiC ls i < meanI ls i := by omega
 have i0 : i * 2 < m * 2 := by omega
 have i2 : i * 2 + 2 ≤ m * 2 := by omega
 have hb : -40000 ≤ loC ls i ∧ hiC ls i ≤ 40000 ∧ loC ls i ≤ hiC ls i := by
  obtain ⟨j, hj, e⟩ := loF_at (colL ls i) (ls.length - 1)
  obtain ⟨k, hk, e'⟩ := hiF_at (colL ls i) (ls.length - 1)
  have col : ∀ r, r < ls.length → -40000 ≤ (colL ls i).getD r 0 ∧ (colL ls i).getD r 0 ≤ 40000 := fun r hr => by
   have e1 : (colL ls i).getD r 0 = ls[r].getD i 0 := by simp [colL, List.getD_eq_getElem?_getD, hr]
   have hq := hm ls[r] (List.getElem_mem hr)
   have e2 : ls[r].getD i 0 = ls[r][i]'(by omega) := by simp [List.getD_eq_getElem?_getD, List.getElem?_eq_getElem (show i < ls[r].length by omega)]
   rw [e1, e2]
   exact hn ls[r] (List.getElem_mem hr) _ (List.getElem_mem _)
  have c1 := col j (by omega)
  have c2 := col k (by omega)
  have e3 : loC ls i = loF (colL ls i) (ls.length - 1) := rfl
  have e4 : hiC ls i = hiF (colL ls i) (ls.length - 1) := rfl
  omega
 have q1 := wrap64 (n := hiC ls i - loC ls i) (by omega) (by omega)
 have mx : maxInt (widF ls i) [iv (hiC ls i - loC ls i)] = some (max (widF ls i) (hiC ls i - loC ls i)) := by simp only [maxInt]; congr 1; omega
 have hws : widF ls (i + 1) = max (widF ls i) (hiC ls i - loC ls i) := rfl
 have kg := in_loop hl p (.p (.sl (pI (meanL ls m)) m)) (max (widF ls i) (hiC ls i - loC ls i)) (.p (.sl (cI (spreadL ls m)) m)) m i hm hi [(0, .box [csl st, .p (.int .u8 t)])]
 have z00 : ((0 : Nat) : Int) = 0 := rfl
 simp only [E5, z00] at kg
 simp only [E6, hws]
 generalize loC ls i = lo at *
 generalize hiC ls i = hi' at *
 generalize meanI ls i = mn at *
 clear hws
 generalize widF ls i = w0 at *
 generalize cI (spreadL ls m) = C at *
 generalize pI (meanL ls m) = M at *
 generalize cI ((spreadL ls m).drop (i + 1)) = D at *
 refine ⟨?_, ?h1, ?h2⟩
 case h1 =>
  simp -implicitDefEqProofs [loopS_eq, c9L6, hlt', hd, hSl, i0, q1, mx]
  rw [kg]
  simp -implicitDefEqProofs [hMg, hMl, hi, hlt', n1, n2, hw]
  exact rfl
 case h2 => exact loopS_same rfl (by simp)

structure Part (al ac wh a : Int) (u v : Int × Int) : Prop where
 b1 : -1000000000 ≤ al * u.1 ∧ al * u.1 ≤ 1000000000
 b2 : -1000000000 ≤ ac * v.1 ∧ ac * v.1 ≤ 1000000000
 b3 : -1000000000 ≤ a * wh ∧ a * wh ≤ 1000000000
 b4 : -1000000000 ≤ al * u.2 ∧ al * u.2 ≤ 1000000000
 b5 : -1000000000 ≤ ac * v.2 ∧ ac * v.2 ≤ 1000000000
 du : u.1 ≤ u.2 ∧ u.2 - u.1 ≤ 1
 dv : v.1 ≤ v.2 ∧ v.2 - v.1 ≤ 1
 lo : al * u.1 + ac * v.1 ≤ a * wh
 hi : a * wh ≤ al * u.2 + ac * v.2

def E7 (p : List Int) (U V : List (Int × Int)) (i : Nat) : Env := [(5, .ptr 0 0 0), (52, .ptr 1 0 0), (53, .p (.sl (cI U) p.length)), (54, .p (.sl (cI V) p.length)), (576, isl p), (577, iv p.length), (578, iv i)]
theorem part_loop (p : List Int) (U V : List (Int × Int)) (hp : p.length < 1000000) (hU : U.length = p.length) (hV : V.length = p.length) (al ac wh : Int) (hr : ∀ i, i < p.length → Part al ac wh (p.getD i 0) (U.getD i (0, 0)) (V.getD i (0, 0))) (R : Sto) :
  loopN (loopS (evFn F C0 G0 60) C0 G0 0 false [5, 52, 53, 54, 576, 577, 578] c9L7) loopFuel ⟨E7 p U V 0, (1, .arr [.int .i64 al, .int .i64 ac, .int .i64 wh] 0 1) :: R⟩ = .ret (.exit 14, ⟨E7 p U V p.length ++ [(579, .p (.bool false))], (1, .arr [.int .i64 al, .int .i64 ac, .int .i64 wh] 0 1) :: R⟩) := by
 refine loop_run' (fun i => ⟨E7 p U V i, (1, .arr [.int .i64 al, .int .i64 ac, .int .i64 wh] 0 1) :: R⟩) p.length (by simp) rfl ?_ (by simp -implicitDefEqProofs [E7, loopS_eq, c9L7]) (by simp [loopFuel]; omega)
 intro i hi
 have hlt' : (i : Int) < (p.length : Int) := by omega
 have hw := wrap_succ (i := i) (by omega)
 obtain ⟨b1, b2, b3, b4, b5, hu, hv, hlo, hhi⟩ := hr i hi
 have gp : p.getD i 0 = p[i] := by simp [List.getD_eq_getElem?_getD, List.getElem?_eq_getElem hi]
 have gu : U.getD i (0, 0) = U[i]'(by omega) := by simp [List.getD_eq_getElem?_getD, List.getElem?_eq_getElem (show i < U.length by omega)]
 have gv : V.getD i (0, 0) = V[i]'(by omega) := by simp [List.getD_eq_getElem?_getD, List.getElem?_eq_getElem (show i < V.length by omega)]
 have d1 := cI_drop U i (by omega)
 have d2 := cI_drop V i (by omega)
 rw [← gu] at d1
 rw [← gv] at d2
 have hPg : ∀ q, (pI p)[i]'q = .int .i64 (p.getD i 0) := fun q => by rw [gp]; simp [pI]
 have hPl : (pI p).length = p.length := by simp
 have lU : (cI U).length = p.length * 2 := by simp [hU]
 have lV : (cI V).length = p.length * 2 := by simp [hV]
 have i0 : i * 2 < p.length * 2 := by omega
 generalize p.getD i 0 = a at *
 generalize U.getD i (0, 0) = u at *
 generalize V.getD i (0, 0) = v at *
 obtain ⟨u1, u2⟩ := u
 obtain ⟨v1, v2⟩ := v
 simp only at b1 b2 b3 b4 b5 hu hv hlo hhi d1 d2
 simp only [E7, isl]
 have q1 := wrap64 (n := al * u1) (by omega) (by omega)
 have q2 := wrap64 (n := ac * v1) (by omega) (by omega)
 have q3 := wrap64 (n := al * u1 + ac * v1) (by omega) (by omega)
 have q4 := wrap64 (n := a * wh) (by omega) (by omega)
 have q5 := wrap64 (n := al * u2) (by omega) (by omega)
 have q6 := wrap64 (n := ac * v2) (by omega) (by omega)
 have q7 := wrap64 (n := al * u2 + ac * v2) (by omega) (by omega)
 have q8 := wrap64 (n := u2 - u1) (by omega) (by omega)
 have q9 := wrap64 (n := v2 - v1) (by omega) (by omega)
 have n1 : ¬ a * wh < al * u1 + ac * v1 := by omega
 have n2 : ¬ al * u2 + ac * v2 < a * wh := by omega
 have n3 : ¬ 1 < u2 - u1 := by omega
 have n4 : ¬ 1 < v2 - v1 := by omega
 generalize hP : pI p = P at *
 generalize cI U = CU at *
 generalize cI V = CV at *
 generalize cI (U.drop (i + 1)) = DU at *
 generalize cI (V.drop (i + 1)) = DV at *
 refine ⟨?_, ?h1, ?h2⟩
 case h1 =>
  simp -implicitDefEqProofs [loopS_eq, c9L7, hlt', hi, hPl, hPg, d1, d2, lU, lV, i0, q1, q2, q3, q4, q5, q6, q7, q8, q9, n1, n2, n3, n4, hw]
  exact rfl
 case h2 => simp
end Fw
end

section
set_option maxHeartbeats 16000000
set_option maxRecDepth 8000
namespace Fw
open Go

theorem getD_memP {c : List (Int × Int)} {j : Nat} (h : j < c.length) : c.getD j (0, 0) ∈ c := by
 rw [List.getD_eq_getElem?_getD, List.getElem?_eq_getElem h]
 exact List.getElem_mem h
theorem inZ_iff {c : List (Int × Int)} {p : List Int} (h : p.length = c.length) : inZ (c.zip p) = true ↔ ∀ j, j < c.length → (c.getD j (0, 0)).1 ≤ p.getD j 0 ∧ p.getD j 0 ≤ (c.getD j (0, 0)).2 := by
 rw [← ex_in h, decide_eq_true_eq, exF_zero, h]
 constructor
 ·intro g j hj
  have := g j hj
  simp only [exN] at this
  omega
 ·intro g j hj
  have := g j hj
  simp only [exN]
  omega
theorem wF_getD (c : List (Int × Int)) (p : List Int) {j : Nat} (h : j < c.length) : (wF c p c.length).getD j (0, 0) = wideI (c.getD j (0, 0)) (p.getD j 0) := by
 simp [wF, List.getD_eq_getElem?_getD, h]
theorem wF_corr {c : List (Int × Int)} (p : List Int) (hc : corrE c = 0) : corrE (wF c p c.length) = 0 := by
 obtain ⟨h1, h2, h3⟩ := corrE_zero hc
 unfold corrE
 rw [wF_length, if_pos (sizedE_zero.2 ⟨by omega, by omega⟩)]
 refine firstE_zero.2 fun e he => ?_
 obtain ⟨x, hx, rfl⟩ := List.mem_map.1 he
 obtain ⟨j, hj, rfl⟩ := List.getElem_of_mem hx
 have hj' : j < c.length := by simpa using hj
 have e := wF_getD c p hj'
 rw [List.getD_eq_getElem?_getD, List.getElem?_eq_getElem hj] at e
 simp only [Option.getD_some] at e
 rw [e]
 exact wide_ok (h3 _ (getD_memP hj')) _
theorem wF_in {c : List (Int × Int)} {p : List Int} (hc : corrE c = 0) (h : p.length = c.length) : inZ ((wF c p c.length).zip p) = limB p := by
 obtain ⟨_, _, h3⟩ := corrE_zero hc
 rw [Bool.eq_iff_iff, inZ_iff (by simpa using h)]
 simp only [wF_length, limB, List.all_eq_true, Bool.and_eq_true, decide_eq_true_eq]
 constructor
 ·intro g a ha
  obtain ⟨j, hj, rfl⟩ := mem_getD ha
  have hj' : j < c.length := by omega
  have := g j hj'
  rw [wF_getD c p hj'] at this
  exact (wide_in (h3 _ (getD_memP hj')) _).1 this
 ·intro g j hj
  rw [wF_getD c p hj]
  exact (wide_in (h3 _ (getD_memP hj)) _).2 (g _ (getD_mem (by omega)))
theorem fit_to {c : List (Int × Int)} {p : List Int} (hc : corrE c = 0) (h : p.length = c.length) (ha : ∀ a ∈ p, -100000 ≤ a ∧ a ≤ 100000) : firstE [corrE c, fitE c p] = 0 := by
 refine firstE_zero.2 fun e he => ?_
 simp only [List.mem_cons, List.not_mem_nil, or_false] at he
 rcases he with rfl | rfl
 ·exact hc
 ·refine firstE_zero.2 fun e he => ?_
  simp only [List.mem_cons, List.not_mem_nil, or_false] at he
  rcases he with rfl | rfl
  ·exact (whenE_zero (by decide)).2 (by simp; omega)
  ·exact accE_zero.2 ha
theorem pulse_to {p : List Int} (h0 : p.length ≠ 0) (h : p.length ≤ 64) (ha : ∀ a ∈ p, -100000 ≤ a ∧ a ≤ 100000) : pulseE p = 0 := by
 refine firstE_zero.2 fun e he => ?_
 simp only [List.mem_cons, List.not_mem_nil, or_false] at he
 rcases he with rfl | rfl
 ·exact sizedE_zero.2 ⟨by omega, by omega⟩
 ·exact accE_zero.2 ha
theorem both_length {p q : List Int} (h : q.length = p.length) : (bothL p q).length = p.length := by simp [bothL, h]
theorem both_small {p q : List Int} (hp : ∀ a ∈ p, -40000 ≤ a ∧ a ≤ 40000) (hq : ∀ a ∈ q, -40000 ≤ a ∧ a ≤ 40000) : ∀ a ∈ bothL p q, -100000 ≤ a ∧ a ≤ 100000 := by
 intro a ha
 obtain ⟨j, hj, rfl⟩ := List.getElem_of_mem ha
 simp only [bothL, List.length_zipWith] at hj
 simp only [bothL, List.getElem_zipWith]
 have h1 := hp (p[j]'(by omega)) (List.getElem_mem _)
 have h2 := hq (q[j]'(by omega)) (List.getElem_mem _)
 omega
theorem sumsL_getD (l : List Int) {i : Nat} (h : i < l.length) : (sumsL l).getD i 0 = sumF l (i + 1) := by
 simp [sumsL, List.getD_eq_getElem?_getD, h]
theorem sums_facts {p q : List Int} (h64 : p.length ≤ 64) (h : q.length = p.length) (hp : ∀ a ∈ p, -40000 ≤ a ∧ a ≤ 40000) (hq : ∀ a ∈ q, -40000 ≤ a ∧ a ≤ 40000) : ∀ i, i < p.length →
  (-9223372036854775808 ≤ sumF (sumsL p) (i + 1) ∧ sumF (sumsL p) (i + 1) ≤ 9223372036854775807) ∧ (-9223372036854775808 ≤ (sumsL p).getD i 0 + (sumsL q).getD i 0 ∧ (sumsL p).getD i 0 + (sumsL q).getD i 0 ≤ 9223372036854775807) ∧ (sumsL (bothL p q)).getD i 0 = (sumsL p).getD i 0 + (sumsL q).getD i 0 ∧ (sumsL (sumsL p)).getD i 0 = sumF (sumsL p) (i + 1) := by
 intro i hi
 have s1 := (small_of h64 (fun a ha => by have := hp a ha; omega)).2
 have s2 := (small_of (p := bothL p q) (by rw [both_length h]; omega) (both_small hp hq)).1
 have b := sumF_both p q h (i + 1) (by omega)
 have s2 := s2.sum (i + 1) (by rw [both_length h]; omega)
 rw [sumsL_getD p hi, sumsL_getD q (by omega), sumsL_getD (bothL p q) (by rw [both_length h]; omega), sumsL_getD (sumsL p) (by rw [sumsL_length]; omega)]
 have e : sumF (bothL p q) (i + 1) = sumF p (i + 1) + sumF q (i + 1) := b
 exact ⟨s1.sum (i + 1) (by rw [sumsL_length]; omega), by omega, e, rfl⟩
theorem widF_le (ls : List (List Int)) : ∀ i j, j < i → hiC ls j - loC ls j ≤ widF ls i
 | 0, j, h => absurd h (by omega)
 | i + 1, j, h => by
  simp only [widF]
  by_cases hj : j < i
  ·have := widF_le ls i j hj
   omega
  ·obtain rfl : j = i := by omega
   omega
theorem widF_between (ls : List (List Int)) (W : Int) (h0 : 0 ≤ W) (m : Nat) (h : ∀ j, j < m → hiC ls j - loC ls j ≤ W) : ∀ i, i ≤ m → 0 ≤ widF ls i ∧ widF ls i ≤ W
 | 0, _ => ⟨Int.le_refl _, h0⟩
 | i + 1, hi => by
  have := widF_between ls W h0 m h i (by omega)
  have := h i (by omega)
  simp only [widF]
  omega
theorem col_between {ls : List (List Int)} {m : Nat} (hm : ∀ l ∈ ls, l.length = m) (hn : ∀ l ∈ ls, ∀ a ∈ l, -40000 ≤ a ∧ a ≤ 40000) (h0 : 0 < ls.length) {i : Nat} (hi : i < m) : -40000 ≤ loC ls i ∧ hiC ls i ≤ 40000 := by
 obtain ⟨j, hj, e⟩ := loF_at (colL ls i) (ls.length - 1)
 obtain ⟨k, hk, e'⟩ := hiF_at (colL ls i) (ls.length - 1)
 have col : ∀ r, r < ls.length → -40000 ≤ (colL ls i).getD r 0 ∧ (colL ls i).getD r 0 ≤ 40000 := fun r hr => by
  have e1 : (colL ls i).getD r 0 = ls[r].getD i 0 := by simp [colL, List.getD_eq_getElem?_getD, hr]
  have hq := hm ls[r] (List.getElem_mem hr)
  have e2 : ls[r].getD i 0 = ls[r][i]'(by omega) := by simp [List.getD_eq_getElem?_getD, List.getElem?_eq_getElem (show i < ls[r].length by omega)]
  rw [e1, e2]
  exact hn ls[r] (List.getElem_mem hr) _ (List.getElem_mem _)
 have c1 := col j (by omega)
 have c2 := col k (by omega)
 have e3 : loC ls i = loF (colL ls i) (ls.length - 1) := rfl
 have e4 : hiC ls i = hiF (colL ls i) (ls.length - 1) := rfl
 omega
theorem alike_widest {ls : List (List Int)} {m : Nat} : alikeB ls m (widF ls m) = true := by
 simp only [alikeB, Bool.not_eq_true', List.any_eq_false, decide_eq_true_eq]
 intro x hx
 obtain ⟨j, hj, rfl⟩ := List.mem_map.1 hx
 have := widF_le ls m j (List.mem_range.1 hj)
 simp only
 omega
theorem slope_345 : ∀ k : Nat, k < 100 → slopeE ⟨3 * (1 + (k : Int)), 4 * (1 + (k : Int)), 5 * (1 + (k : Int))⟩ = 0 := by
 decide +kernel
theorem part_345 {q a : Int} (h1 : 1 ≤ q) (h2 : q ≤ 100) (ha : -40000 ≤ a ∧ a ≤ 40000) : Part (3 * q) (4 * q) (5 * q) a (partF (5 * q) a (3 * q)) (partF (5 * q) a (4 * q)) := by
 obtain ⟨l1, l2⟩ := parts_345 (q := q) (by omega) a
 have o1 := part_one (w := 5 * q) (by omega) a (3 * q)
 have o2 := part_one (w := 5 * q) (by omega) a (4 * q)
 rw [part_ratio (by omega)] at l1 l2 o1 ⊢
 rw [part_ratio (by omega)] at l1 l2 o2 ⊢
 have u1 : -100000 ≤ (partF 5 a 3).1 ∧ (partF 5 a 3).1 ≤ 100000 := by simp only [partF]; omega
 have u2 : -100000 ≤ (partF 5 a 3).2 ∧ (partF 5 a 3).2 ≤ 100000 := by simp only [partF]; omega
 have v1 : -100000 ≤ (partF 5 a 4).1 ∧ (partF 5 a 4).1 ≤ 100000 := by simp only [partF]; omega
 have v2 : -100000 ≤ (partF 5 a 4).2 ∧ (partF 5 a 4).2 ≤ 100000 := by simp only [partF]; omega
 have p1 := prod_in u1 (f := 3 * q) (by omega)
 have p2 := prod_in v1 (f := 4 * q) (by omega)
 have p3 := prod_in (a := a) (by omega) (f := 5 * q) (by omega)
 have p4 := prod_in u2 (f := 3 * q) (by omega)
 have p5 := prod_in v2 (f := 4 * q) (by omega)
 rw [Int.mul_comm] at p1 p2 p4 p5
 exact ⟨by omega, by omega, by omega, by omega, by omega, o1, o2, l1, l2⟩
end Fw
end

