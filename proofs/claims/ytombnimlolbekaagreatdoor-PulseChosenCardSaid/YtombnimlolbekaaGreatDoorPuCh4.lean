/- The law on what is chosen: all sets, and the prices. -/
import Derived.Test.YtombnimlolbekaaGreatDoorPuCh3
set_option maxHeartbeats 16000000
set_option maxRecDepth 8000
namespace Fw
open Go
attribute [local irreducible] evCode evOps evOpsD evOper evOperD evOp evFn loopN T.All T.bind callPure callOp opsK opsDK restK seqK blockK loopS setK setQ giveK scalK gcK finish finS rfunK yldK yldB loopK

structure Chosen (l : List PackI) (x : Int × Int) (out : List Int) (co e : Int) : Prop where
 none : bestF l x (2 ^ l.length) = none → e = 18 ∧ co = 0 ∧ out = []
 some : ∀ s, bestF l x (2 ^ l.length) = some s → e = 0 ∧ co = cst l s ∧ out = s

def D2 (l : List PackI) (out : List Int) (co e : Int) (b : Nat) : Env := [(0, psl l), (4, .ptr 0 0 0), (5, .ptr 1 0 0), (9, isl out), (10, iv co), (11, iv e), (87, iv ((2 ^ l.length : Nat) : Int)), (88, iv b)]
theorem sets_round {l : List PackI} (hp : PksOk l) (hpe : packsE l = 0) (h5 : l.length ≤ 5) (hs : ∀ y ∈ l, y.name.length ≤ 9223372036854775807) {x : Int × Int} (ht : targE x = 0) (n0 n1 : Int) {out : List Int} {co e : Int} (hc : Chosen l x out co e) (b : Nat) (hb : b < 2 ^ l.length) (hb32 : b < 1000) :
  ∃ st1, loopS (evFn F C0 G0 60) C0 G0 0 true [0, 4, 5, 9, 10, 11, 87, 88] c11L2 ⟨D2 l out co e b, cS x n0 n1⟩ = .ret (.normal, st1) ∧ loopS (evFn F C0 G0 60) C0 G0 0 true [0, 4, 5, 9, 10, 11, 87, 88] c11L2 st1 = loopS (evFn F C0 G0 60) C0 G0 0 true [0, 4, 5, 9, 10, 11, 87, 88] c11L2 ⟨D2 l out co e (b + 1), cS x n0 n1⟩ := by
 have hlt' : (b : Int) < ((2 ^ l.length : Nat) : Int) := by omega
 have hw := wrap_succ (i := b) (by omega)
 have kg := sets_loop11 hp x n0 n1 out co e (2 ^ l.length) b
 have k77 := bags77 (n := 60) (by omega) l (by omega)
 have hSl := (selF_in b l.length).2
 have k33 := (ints33 (n := 60) (by omega) (selF b l.length) (by omega)).choose_spec.1
 have k76 := fits76 (n := 60) (by omega) l (selF b l.length) x hs (by omega)
 have k29 := same29 (n := 60) (by omega) (selF b l.length) out (by omega)
 rw [badF_sel hpe ht b, if_pos rfl] at k76
 have hfe : fitB l (selF b l.length) x = (decide (x.1 ≤ impS l (selF b l.length)) && decide (impS l (selF b l.length) ≤ x.2)) := rfl
 obtain ⟨bf1, bf2⟩ := best_facts l x (2 ^ l.length)
 have bf2 := bf2 b hb
 have hsc : (pI (selF b l.length)).all scalarP = true := by simp [pI]
 have z00 : ((0 : Nat) : Int) = 0 := rfl
 have d0 : selF b 0 = [] := rfl
 have d1 : cst l [] = 0 := rfl
 have d2 : impS l [] = 0 := rfl
 have d3 : ([] : List Int).length = 0 := rfl
 simp only [D1, cS, z00, d0, d1, d2, d3] at kg
 obtain ⟨x1, x2⟩ := x
 simp only at *
 generalize hN : (2 : Nat) ^ l.length = N at *
 generalize hS : selF b l.length = S at *
 generalize hI : impS l S = im at *
 have hpl : (pI S).length = S.length := by simp
 simp only [D2, hN, cS]
 cases hf : fitB l S (x1, x2) with
 | true =>
  obtain ⟨s, hbs, hn⟩ := bf2 hf
  obtain ⟨r1, r2, r3⟩ := hc.some s (by rw [hN]; exact hbs)
  subst r1; subst r2; subst r3
  rw [hf] at k76 hfe
  have hfe := hfe.symm
  simp only [Bool.and_eq_true, decide_eq_true_eq] at hfe
  obtain ⟨c1, c2⟩ := hfe
  have m1 : ¬ cst l S < cst l out := by unfold NoW at hn; omega
  by_cases q1 : cst l S = cst l out
  ·have m2 : ¬ (S.length : Int) < out.length := by unfold NoW at hn; omega
   have q1b : (cst l S == cst l out) = true := by simpa using q1
   have q1n : (cst l S != cst l out) = false := by simpa using q1
   generalize decide (S = out) = sb at *
   refine ⟨?_, ?h1, ?h2⟩
   case h1 =>
    simp -implicitDefEqProofs [loopS_eq, c11L2, hlt']
    rw [kg]
    cases sb <;> simp -implicitDefEqProofs [hsc, hpl, k77, k33, k76, k29, c1, c2, m1, m2, q1b, q1n, hw]
    all_goals exact rfl
   case h2 => exact loopS_same rfl (by simp)
  ·have q1b : (cst l S == cst l out) = false := by simpa using q1
   have q2 : ¬ S = out := fun h => q1 (by rw [h])
   rw [decide_eq_false q2] at k29
   refine ⟨?_, ?h1, ?h2⟩
   case h1 =>
    simp -implicitDefEqProofs [loopS_eq, c11L2, hlt']
    rw [kg]
    simp -implicitDefEqProofs [hsc, hpl, k77, k33, k76, k29, c1, c2, m1, q1b, hw]
    exact rfl
   case h2 => exact loopS_same rfl (by simp)
 | false =>
  rw [hf] at k76 hfe
  have k29f : e = 0 → decide (S = out) = false := fun he => by
   cases hb : bestF l (x1, x2) (2 ^ l.length) with
   | none => have := (hc.none hb).1; omega
   | some s =>
    obtain ⟨_, _, r3⟩ := hc.some s hb
    refine decide_eq_false fun h => ?_
    have := (bf1 s (by rw [← hN]; exact hb)).1
    rw [← r3, ← h, hf] at this
    cases this
  have hdd : (decide (x1 ≤ im) && decide (im ≤ x2)) = false := hfe.symm
  have hcc : ¬ x1 ≤ im ∨ x1 ≤ im ∧ ¬ im ≤ x2 := by
   simp only [Bool.and_eq_false_iff, decide_eq_false_iff_not] at hdd
   omega
  by_cases he : e = 0
  ·rw [k29f he] at k29
   subst he
   rcases hcc with c1 | ⟨c1, c2⟩
   ·refine ⟨?_, ?h1, ?h2⟩
    case h1 =>
     simp -implicitDefEqProofs [loopS_eq, c11L2, hlt']
     rw [kg]
     simp -implicitDefEqProofs [hsc, hpl, k77, k33, k76, k29, c1, hw]
     exact rfl
    case h2 => exact loopS_same rfl (by simp)
   ·refine ⟨?_, ?h1, ?h2⟩
    case h1 =>
     simp -implicitDefEqProofs [loopS_eq, c11L2, hlt']
     rw [kg]
     simp -implicitDefEqProofs [hsc, hpl, k77, k33, k76, k29, c1, c2, hw]
     exact rfl
    case h2 => exact loopS_same rfl (by simp)
  ·have heb : (e == 0) = false := by simpa using he
   rcases hcc with c1 | ⟨c1, c2⟩
   ·refine ⟨?_, ?h1, ?h2⟩
    case h1 =>
     simp -implicitDefEqProofs [loopS_eq, c11L2, hlt']
     rw [kg]
     simp -implicitDefEqProofs [hsc, hpl, k77, k33, k76, c1, heb, hw]
     exact rfl
    case h2 => exact loopS_same rfl (by simp)
   ·refine ⟨?_, ?h1, ?h2⟩
    case h1 =>
     simp -implicitDefEqProofs [loopS_eq, c11L2, hlt']
     rw [kg]
     simp -implicitDefEqProofs [hsc, hpl, k77, k33, k76, c1, c2, heb, hw]
     exact rfl
    case h2 => exact loopS_same rfl (by simp)

def D3 (l : List PackI) (co e : Int) (P : AVal) (i : Nat) : Env := [(0, psl l), (4, .ptr 0 0 0), (10, iv co), (11, iv e), (270, P), (271, iv i)]
theorem price_loop {l : List PackI} (h5 : l.length ≤ 5) (hpe : packsE l = 0) (hs : ∀ y ∈ l, y.name.length ≤ 9223372036854775807) {x : Int × Int} (ht : targE x = 0) {out : List Int} {co e : Int} (hc : Chosen l x out co e) (p0 p1 p2 p3 : Int) (h0 : -1000 ≤ p0 ∧ p0 ≤ 1000) (h1 : -1000 ≤ p1 ∧ p1 ≤ 1000) (h2 : -1000 ≤ p2 ∧ p2 ≤ 1000) (h3 : -1000 ≤ p3 ∧ p3 ≤ 1000) (R : Sto) (hR : get R 0 = some (.arr [.int .i64 x.1, .int .i64 x.2] 0 1)) :
  loopN (loopS (evFn F C0 G0 60) C0 G0 0 false [0, 4, 10, 11, 270, 271] c11L3) loopFuel ⟨D3 l co e (.agg [iv p0, iv p1, iv p2, iv p3]) 0, R⟩ = .ret (.exit 6, ⟨D3 l co e (.agg [iv p0, iv p1, iv p2, iv p3]) 4 ++ [(272, .p (.bool false))], R⟩) := by
 refine loop_run' (fun i => ⟨D3 l co e (.agg [iv p0, iv p1, iv p2, iv p3]) i, R⟩) 4 (by simp) rfl ?_ (by simp -implicitDefEqProofs [D3, loopS_eq, c11L3]) (by simp [loopFuel])
 intro i hi
 have k77 := bags77 (n := 60) (by omega) l (by omega)
 have kb : ∀ p, -1000 ≤ p ∧ p ≤ 1000 → ∃ v, RUN 60 79 [psl l, .agg [iv x.1, iv x.2], iv p] = .ret (.tup [iv v, iv 0]) ∧ (e = 0 → ¬ co < v) := fun p hp => by
  have k79 := bound79 (n := 60) (by omega) l x p hs
  rw [badB_zero hpe ht hp, if_pos rfl] at k79
  refine ⟨_, k79, fun he => ?_⟩
  cases hb : bestF l x (2 ^ l.length) with
  | none =>
   have := (hc.none hb).1
   omega
  | some s =>
   obtain ⟨_, q2, _⟩ := hc.some s hb
   obtain ⟨a1, b, _, a3⟩ := (best_facts l x (2 ^ l.length)).1 s hb
   subst a3
   have := bnd_le (price := p) a1
   omega
 have key : ∀ p, -1000 ≤ p ∧ p ≤ 1000 → ([iv p0, iv p1, iv p2, iv p3] : List AVal)[i]? = some (iv p) → ∃ st1, loopS (evFn F C0 G0 60) C0 G0 0 false [0, 4, 10, 11, 270, 271] c11L3 ⟨D3 l co e (.agg [iv p0, iv p1, iv p2, iv p3]) i, R⟩ = .ret (.normal, st1) ∧ st1 = ⟨D3 l co e (.agg [iv p0, iv p1, iv p2, iv p3]) (i + 1), R⟩ := fun p hp hg => by
  obtain ⟨v, k79, hv⟩ := kb p hp
  have hg : ∀ z, ([iv p0, iv p1, iv p2, iv p3] : List AVal)[i]'z = iv p := fun z => by
   rw [List.getElem?_eq_getElem z] at hg
   exact Option.some.inj hg
  have hlt' : (i : Int) < 4 := by omega
  have hw := wrap_succ (i := i) (by omega)
  refine ⟨_, ?_, rfl⟩
  by_cases he : e = 0
  ·have hv := hv he
   subst he
   simp -implicitDefEqProofs [D3, loopS_eq, c11L3, hlt', hi, k77, k79, hR, hg, hv, hw]
  ·have heb : (e == 0) = false := by simpa using he
   simp -implicitDefEqProofs [D3, loopS_eq, c11L3, hlt', hi, k77, k79, hR, hg, heb, hw]
 have hcase : i = 0 ∨ i = 1 ∨ i = 2 ∨ i = 3 := by omega
 rcases hcase with rfl | rfl | rfl | rfl
 ·obtain ⟨st1, k1, k2⟩ := key p0 h0 rfl
  exact ⟨st1, k1, by rw [k2]⟩
 ·obtain ⟨st1, k1, k2⟩ := key p1 h1 rfl
  exact ⟨st1, k1, by rw [k2]⟩
 ·obtain ⟨st1, k1, k2⟩ := key p2 h2 rfl
  exact ⟨st1, k1, by rw [k2]⟩
 ·obtain ⟨st1, k1, k2⟩ := key p3 h3 rfl
  exact ⟨st1, k1, by rw [k2]⟩
end Fw
