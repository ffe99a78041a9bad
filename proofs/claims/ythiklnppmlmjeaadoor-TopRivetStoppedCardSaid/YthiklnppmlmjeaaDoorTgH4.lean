/- Several texts in one: steps of the proof, no condition of their own. -/
import Derived.Test.YthiklnppmlmjeaaDoorToFe
import Derived.Test.YthiklnppmlmjeaaDoorFwC
attribute [local irreducible] Fw.evCode Fw.evOps Fw.evOpsD Fw.evOper Fw.evOperD Fw.evOp Fw.evFn Fw.loopN Fw.T.All Fw.T.bind Fw.callPure Fw.callOp Fw.opsK Fw.opsDK Fw.restK Fw.seqK Fw.blockK Fw.loopS Fw.setK Fw.setQ Fw.giveK Fw.scalK Fw.gcK Fw.finish Fw.finS Fw.rfunK Fw.yldK Fw.yldB Fw.loopK
section
set_option maxHeartbeats 8000000
namespace Fw
open Go
theorem a56 : c56 = firstC := rfl
theorem a82 : c82 = mapC (.p (.int .i64 0)) 8 := rfl
def cI : List (Int × Int) → List PVal
 | [] => []
 | x :: r => .int .i64 x.1 :: .int .i64 x.2 :: cI r

@[simp] theorem cI_length (l : List (Int × Int)) : (cI l).length = l.length * 2 := by
 induction l with
 | nil => rfl
 | cons x r ih => simp [cI, ih]; omega

theorem cI_drop (l : List (Int × Int)) (i : Nat) (h : i < l.length) : (cI l).drop (i * 2) = .int .i64 l[i].1 :: .int .i64 l[i].2 :: cI (l.drop (i + 1)) := by
 induction l generalizing i with
 | nil => cases h
 | cons x r ih =>
  cases i with
  | zero => simp [cI]
  | succ i =>
   have := ih i (by simpa using h)
   rw [show (i + 1) * 2 = i * 2 + 2 by omega]
   simpa [cI] using this

theorem cI_append (a b : List (Int × Int)) : cI (a ++ b) = cI a ++ cI b := by
 induction a with
 | nil => rfl
 | cons x r ih => simp [cI, ih]
def rowC {α : Type} (f : α → List PVal) : List α → List PVal
 | [] => []
 | x :: r => f x ++ rowC f r
section
variable {α : Type} {f : α → List PVal} {k : Nat}
@[simp] theorem rowC_nil : rowC f [] = [] := rfl
theorem rowC_cons (x : α) (r : List α) : rowC f (x :: r) = f x ++ rowC f r := rfl
theorem rowC_len (h : ∀ x, (f x).length = k) (l : List α) : (rowC f l).length = l.length * k := by
 induction l with
 | nil => simp
 | cons x r ih => simp only [rowC_cons, List.length_append, h, ih, List.length_cons, Nat.succ_mul]; omega
theorem rowC_append (a b : List α) : rowC f (a ++ b) = rowC f a ++ rowC f b := by
 induction a with
 | nil => rfl
 | cons x r ih => simp only [List.cons_append, rowC_cons, ih, List.append_assoc]
theorem rowC_drop (h : ∀ x, (f x).length = k) (l : List α) (i : Nat) (hi : i < l.length) : (rowC f l).drop (i * k) = f l[i] ++ rowC f (l.drop (i + 1)) := by
 induction l generalizing i with
 | nil => cases hi
 | cons x r ih =>
  cases i with
  | zero => simp [rowC_cons]
  | succ i =>
   have := ih i (by simpa using hi)
   rw [rowC_cons, show (i + 1) * k = (f x).length + i * k by rw [h, Nat.succ_mul]; omega, ← List.drop_drop, List.drop_left]
   simpa using this
theorem rowC_take (l : List α) (i : Nat) (hi : i < l.length) : rowC f (l.take (i + 1)) = rowC f (l.take i) ++ f l[i] := by
 rw [← List.take_append_getElem hi, rowC_append]
 simp [rowC_cons]
theorem rowC_snoc (l : List α) (x : α) : rowC f (l ++ [x]) = rowC f l ++ f x := by simp [rowC_append, rowC_cons]
end
def badOf (t : T (Ex × St)) : Ex × St := match t with
 | .ret (.ret, st) => (.ret, st)
 | _ => (.ret, default)
theorem badOf_ret (t : T (Ex × St)) : (badOf t).1 = .ret := by
 unfold badOf
 split <;> rfl

theorem loop_firstR {step : St → T (Ex × St)} (inv : Nat → St) (e : Nat → Int) (n : Nat) (ok : Ex × St) (R : Nat → St → Prop) {st0 : St} (h0 : step st0 = step (inv 0))
  (hstep : ∀ i, i < n → (e i = 0 → ∃ st1, step (inv i) = .ret (.normal, st1) ∧ step st1 = step (inv (i + 1))) ∧ (e i ≠ 0 → ∃ st, step (inv i) = .ret (.ret, st) ∧ R i st)) (hend : step (inv n) = .ret ok) (hok : ok.1 ≠ .normal) {fuel : Nat} (hf : n < fuel) :
  (loopN step fuel st0 = .ret ok ∧ firstE ((List.range n).map e) = 0) ∨ ∃ j st, j < n ∧ loopN step fuel st0 = .ret (.ret, st) ∧ R j st ∧ firstE ((List.range n).map e) = e j ∧ e j ≠ 0 ∧ ∀ q, q < j → e q = 0 := by
 rcases loop_first inv e n ok (fun i => badOf (step (inv i))) h0 (fun i hi => ⟨(hstep i hi).1, fun he => by
   obtain ⟨st, h1, _⟩ := (hstep i hi).2 he
   simp only [h1, badOf]⟩) (fun i => by simp only [badOf_ret]; exact fun h => Ex.noConfusion h) hend hok hf with h | ⟨j, hj, h1, h2, h3, h4⟩
 ·exact .inl h
 ·obtain ⟨st, g1, g2⟩ := (hstep j hj).2 h3
  refine .inr ⟨j, st, hj, ?_, g2, h2, h3, h4⟩
  rw [h1, g1]
  rfl
theorem loop_errs {step : St → T (Ex × St)} (inv : Nat → St) (es : List Int) (ok : Ex × St) (bad : Int → Ex × St) {st0 : St} (h0 : step st0 = step (inv 0))
  (hstep : ∀ i (hi : i < es.length), (es[i] = 0 → ∃ st1, step (inv i) = .ret (.normal, st1) ∧ step st1 = step (inv (i + 1))) ∧ (es[i] ≠ 0 → step (inv i) = .ret (bad es[i]))) (hbad : ∀ e, (bad e).1 ≠ .normal) (hend : step (inv es.length) = .ret ok) (hok : ok.1 ≠ .normal) {fuel : Nat} (hf : es.length < fuel) :
  loopN step fuel st0 = .ret (if firstE es = 0 then ok else bad (firstE es)) := by
 have h := loop_rec' (step := step) inv (fun i => if firstE (es.drop i) = 0 then ok else bad (firstE (es.drop i))) es.length h0 (fun i hi => by
  have hd : firstE (es.drop i) = if es[i] = 0 then firstE (es.drop (i + 1)) else es[i] := by rw [List.drop_eq_getElem_cons hi]; rfl
  by_cases he : es[i] = 0
  ·refine .inl ⟨(hstep i hi).1 he, ?_⟩
   simp only [hd, he, if_true]
  ·refine .inr ⟨?_, ?_⟩
   ·simp only [hd, he, if_false]; exact (hstep i hi).2 he
   ·simp only [hd, he, if_false]; exact hbad _) (by
  simp only [List.drop_length, firstE, if_true]
  exact ⟨hend, hok⟩) hf
 simpa using h

end Fw
end

section
set_option maxHeartbeats 8000000
namespace Fw
open Go

abbrev iv (n : Int) : AVal := .p (.int .i64 n)
abbrev RUN (n f : Nat) (args : List AVal) : T AVal := callPure (evFn F C0 G0 n) C0 (.fn f) args

def whenE (b : Bool) (e : Int) : Int := if b then e else 0
def rangeE (lo hi n : Int) : Int := if n < lo ∨ hi < n then 3 else 0

theorem when81 {n : Nat} (hn : 1 ≤ n) (b : Bool) (e : Int) : RUN n 81 [.p (.bool b), iv e] = .ret (iv (whenE b e)) := by
 obtain ⟨d, rfl⟩ : ∃ d, n = d + 1 := ⟨n - 1, by omega⟩
 rw [RUN, call_eq fe81 _ rfl]
 cases b <;> simp [c81, whenE]
theorem when47 {n : Nat} (hn : 1 ≤ n) (b : Bool) (e : Int) : RUN n 47 [.p (.bool b), iv e] = .ret (iv (whenE b e)) := by
 obtain ⟨d, rfl⟩ : ∃ d, n = d + 1 := ⟨n - 1, by omega⟩
 rw [RUN, call_eq fe47 _ rfl]
 cases b <;> simp [c47, whenE]

theorem within80 {n : Nat} (hn : 2 ≤ n) (x lo hi : Int) : RUN n 80 [iv x, iv lo, iv hi] = .ret (iv (rangeE lo hi x)) := by
 obtain ⟨d, rfl⟩ : ∃ d, n = d + 2 := ⟨n - 2, by omega⟩
 rw [RUN, call_eq fe80 _ rfl]
 have hw := fun b e => when81 (n := d + 1) (by omega) b e
 by_cases h1 : x < lo <;> by_cases h2 : hi < x <;> simp [c80, h1, h2, hw, whenE, rangeE]
theorem range44 {n : Nat} (hn : 2 ≤ n) (x lo hi : Int) : RUN n 44 [iv x, iv lo, iv hi] = .ret (iv (rangeE lo hi x)) := by
 obtain ⟨d, rfl⟩ : ∃ d, n = d + 2 := ⟨n - 2, by omega⟩
 rw [RUN, call_eq fe44 _ rfl]
 have hw := fun b e => when47 (n := d + 1) (by omega) b e
 by_cases h1 : x < lo <;> by_cases h2 : hi < x <;> simp [c44, h1, h2, hw, whenE, rangeE]

theorem first56 {n : Nat} (hn : 1 ≤ n) (l : List Int) (hl : l.length < 1000000) : RUN n 56 [.p (.sl (pI l) l.length)] = .ret (iv (firstE l)) := by
 obtain ⟨d, rfl⟩ : ∃ d, n = d + 1 := ⟨n - 1, by omega⟩
 exact first_ok (a56 ▸ fe56) (fun _ => rfl) l hl

theorem first43 {n : Nat} (hn : 1 ≤ n) (l : List Int) (hl : l.length < 1000000) : RUN n 43 [.p (.sl (pI l) l.length)] = .ret (iv (firstE l)) := by
 obtain ⟨d, rfl⟩ : ∃ d, n = d + 1 := ⟨n - 1, by omega⟩
 rw [RUN, call_eq fe43 _ rfl]
 let inv : Nat → St := fun i => ⟨[(0, .p (.sl (pI l) l.length)), (3, iv i)], []⟩
 let out : Nat → Ex × St := fun i => if firstE (l.drop i) = 0 then (.exit 0, ⟨[(0, .p (.sl (pI l) l.length)), (3, iv l.length), (7, .p (.bool false))], []⟩) else (.ret, ⟨[(2, iv (firstE (l.drop i)))], []⟩)
 simp [c43]
 rw [loop_rec inv out l.length (by rfl)]
 ·by_cases h : firstE l = 0 <;> simp [out, h]
 ·intro i hi
  have hx : l[i]? = some l[i] := List.getElem?_eq_getElem hi
  have hd : firstE (l.drop i) = if l[i] = 0 then firstE (l.drop (i + 1)) else l[i] := by rw [List.drop_eq_getElem_cons hi]; rfl
  by_cases h : l[i] = 0
  ·refine .inl ⟨?_, ?_⟩
   ·simp [inv, loopS_eq, c43L0, hi, h, wrap_succ (i := i) (by omega)]
   ·simp [out, hd, h]
  ·refine .inr ⟨?_, ?_⟩
   ·simp [inv, loopS_eq, c43L0, hi, h, out, hd]
   ·simp [out, hd, h]
 ·simp [inv, loopS_eq, c43L0, out, firstE]
 ·simp [loopFuel]; omega

theorem first56_2 {n : Nat} (hn : 1 ≤ n) (a b : Int) : RUN n 56 [.p (.sl [.int .i64 a, .int .i64 b] 2)] = .ret (iv (firstE [a, b])) := first56 hn [a, b] (by simp)
theorem first56_3 {n : Nat} (hn : 1 ≤ n) (a b c : Int) : RUN n 56 [.p (.sl [.int .i64 a, .int .i64 b, .int .i64 c] 3)] = .ret (iv (firstE [a, b, c])) := first56 hn [a, b, c] (by simp)
theorem first43_2 {n : Nat} (hn : 1 ≤ n) (a b : Int) : RUN n 43 [.p (.sl [.int .i64 a, .int .i64 b] 2)] = .ret (iv (firstE [a, b])) := first43 hn [a, b] (by simp)
theorem first43_3 {n : Nat} (hn : 1 ≤ n) (a b c : Int) : RUN n 43 [.p (.sl [.int .i64 a, .int .i64 b, .int .i64 c] 3)] = .ret (iv (firstE [a, b, c])) := first43 hn [a, b, c] (by simp)
abbrev isl (l : List Int) : AVal := .p (.sl (pI l) l.length)
abbrev csl (c : List (Int × Int)) : AVal := .p (.sl (cI c) c.length)

theorem fc82 : F 82 = some (mapC (.p (.int .i64 0)) 8) := a82 ▸ fe82

theorem firstE_cons (e : Int) (r : List Int) : firstE (e :: r) = if e = 0 then firstE r else e := rfl

theorem firstE_zero {l : List Int} : firstE l = 0 ↔ ∀ e ∈ l, e = 0 := by
 induction l with
 | nil => simp [firstE]
 | cons e r ih =>
  rw [firstE_cons]
  by_cases h : e = 0 <;> simp [h, ih]

theorem max2 (a b : Int) : maxInt a [iv b] = some (max a b) := by
 simp only [maxInt]; congr 1; split <;> omega
abbrev sv (l : List UInt8) : AVal := .p (.str l)
def digB (b : UInt8) : Bool := decide (48 ≤ b.toNat) && decide (b.toNat ≤ 57)
def valF (l : List UInt8) : Nat → Int
 | 0 => 0
 | k + 1 => 10 * valF l k + ((l.getD k 0).toNat - 48)
def leadB (l : List UInt8) : Bool := decide (l.length = 1) || (l.getD 0 0 != 48)
def digOk (l : List UInt8) : Bool := decide (l ≠ []) && decide (l.length ≤ 9) && l.all digB && leadB l
def digV (l : List UInt8) : Int := valF l l.length

abbrev bv (c : UInt8) : AVal := .p (.int .u8 (c.toNat : Int))

def pB (l : List UInt8) : List PVal := l.map fun b => .int .u8 (b.toNat : Int)
@[simp] theorem pB_length (l : List UInt8) : (pB l).length = l.length := by simp [pB]
end Fw
end

section
set_option maxHeartbeats 16000000
namespace Fw
open Go

def prvL (l : List (Int × Int)) : Nat → Int × Int
 | 0 => (-1, 0)
 | i + 1 => l.getD i (0, 0)
def ordB (p s : Int × Int) (z : Bool) : Bool := (z && decide (s.1 ≠ 0)) || decide (s.1 ≤ p.1) || decide (s.2 < p.2)
def stE (p s : Int × Int) (z : Bool) : Int := firstE [rangeE 0 100000 s.1, rangeE 0 1000000 s.2, whenE (ordB p s z) 11]
def stL (l : List (Int × Int)) : List Int := (List.range l.length).map fun i => stE (prvL l i) (l.getD i (0, 0)) (decide (i = 0))
def tabE (l : List (Int × Int)) : Int := if l.length = 0 then 12 else if 8 < l.length then 5 else firstE (stL l)
theorem table106 {n : Nat} (hn : 4 ≤ n) (l : List (Int × Int)) (hl : l.length < 1000000) : RUN n 106 [csl l] = .ret (iv (tabE l)) := by
 obtain ⟨d, rfl⟩ : ∃ d, n = d + 4 := ⟨n - 4, by omega⟩
 rw [RUN, call_eq fe106 _ rfl]
 have kw := fun b e => when81 (n := d + 3) (by omega) b e
 have k2 := fun a b => first56_2 (n := d + 3) (by omega) a b
 have k3 := fun a b c => first56_3 (n := d + 3) (by omega) a b c
 have kr := fun x lo hi => within80 (n := d + 3) (by omega) x lo hi
 by_cases h0 : l.length = 0
 ·have : l = [] := List.eq_nil_of_length_eq_zero h0
  subst this
  have e3 : cI ([] : List (Int × Int)) = [] := rfl
  simp -implicitDefEqProofs [c106, kw, k2, whenE, firstE, tabE]
 ·by_cases h8 : 8 < l.length
  ·have hg : ((8 : Int) < l.length) := by omega
   simp -implicitDefEqProofs [c106, kw, k2, whenE, firstE, tabE, h0, h8, hg]
  ·have hg : ¬ ((8 : Int) < l.length) := by omega
   let inv : Nat → St := fun i => ⟨[(4, .ptr 0 0 0), (22, csl l), (23, iv l.length), (24, iv i)], [(0, .arr [.int .i64 (prvL l i).1, .int .i64 (prvL l i).2] 0 1)]⟩
   have ht : tabE l = firstE (stL l) := by simp [tabE, h0, h8]
   have key := loop_firstR (step := loopS (evFn F C0 G0 (d + 3)) C0 G0 0 true [4, 22, 23, 24] c106L0) inv (fun i => stE (prvL l i) (l.getD i (0, 0)) (decide (i = 0))) l.length (.exit 0, ⟨(inv l.length).env ++ [(25, .p (.bool false))], (inv l.length).sto⟩) (fun i st => st.env = [(2, iv (stE (prvL l i) (l.getD i (0, 0)) (decide (i = 0))))])
    (st0 := ⟨[(4, .ptr 0 0 0), (22, csl l), (23, iv l.length), (24, iv 0)], [(0, .arr [.int .i64 (-1), .int .i64 0] 0 1)]⟩) rfl (fun i hi => by
    have hx := cI_drop l i hi
    have hlt : i * 2 < l.length * 2 := by omega
    have wi := wrap_succ (i := i) (by omega)
    have hp : prvL l (i + 1) = l[i] := by simp [prvL, List.getD_eq_getElem?_getD, hi]
    have hg : l.getD i (0, 0) = l[i] := by simp [List.getD_eq_getElem?_getD, hi]
    have hcl := cI_length l
    simp only [inv, hp, csl, hg]
    generalize cI (l.drop (i + 1)) = R2 at *
    generalize cI l = A at *
    generalize prvL l i = p at *
    generalize l[i] = s at *
    have hb : ∀ b, b = ordB p s (decide (i = 0)) → firstE [rangeE 0 100000 s.1, rangeE 0 1000000 s.2, whenE b 11] = stE p s (decide (i = 0)) := fun b h => by rw [h]; rfl
    generalize hE : stE p s (decide (i = 0)) = e at *
    have hi0 : ¬ i = 0 → ((i : Int) == 0) = false := fun h => by simpa using h
    obtain ⟨s1, s2⟩ := s
    obtain ⟨p1, p2⟩ := p
    simp only at hb hx
    have hb' : ∀ b, b = ordB (p1, p2) (s1, s2) (decide (i = 0)) → RUN (d + 3) 56 [.p (.sl [.int .i64 (rangeE 0 100000 s1), .int .i64 (rangeE 0 1000000 s2), .int .i64 (whenE b 11)] 3)] = .ret (iv e) := fun b h => by rw [k3, hb b h]
    refine ⟨fun hs => ?_, fun hs => ?_⟩
    ·subst hs
     by_cases c0 : i = 0
     ·subst c0
      simp only [Nat.zero_mul, List.drop_zero] at hx
      have w0 : IntKind.i64.wrap 1 = 1 := by decide
      by_cases c1 : s1 = 0 <;> by_cases c2 : s1 ≤ p1 <;> by_cases c3 : s2 < p2
      all_goals
       have hb2 := hb' _ rfl
       have c1' := c1
       have c1b : (s1 != 0) = decide (¬ s1 = 0) := by by_cases h : s1 = 0 <;> simp [h]
       simp only [c1', decide_true, decide_false, not_true_eq_false, not_false_eq_true] at c1b
       first | subst c1 | skip
       simp only [ordB, c1', c2, c3, decide_true, decide_false, ne_eq, not_true_eq_false, not_false_eq_true, Bool.true_and, Bool.or_true, Bool.or_false] at hb2
       refine ⟨?_, ?h1, ?h2⟩
       case h1 =>
        simp -implicitDefEqProofs [loopS_eq, c106L0, hi, hx, w0, kr, kw, hb2, c1b, c2, c3]
        exact rfl
       case h2 => exact loopS_same (by simp [hx]) (by simp [hx])
     ·have hi0 := hi0 c0
      by_cases c1 : s1 = 0 <;> by_cases c2 : s1 ≤ p1 <;> by_cases c3 : s2 < p2
      all_goals
       have hb2 := hb' _ rfl
       have c1' := c1
       have c1b : (s1 != 0) = decide (¬ s1 = 0) := by by_cases h : s1 = 0 <;> simp [h]
       simp only [c1', decide_true, decide_false, not_true_eq_false, not_false_eq_true] at c1b
       first | subst c1 | skip
       simp only [ordB, c0, c1', c2, c3, decide_true, decide_false, ne_eq, not_true_eq_false, not_false_eq_true, Bool.false_and, Bool.or_true, Bool.or_false] at hb2
       refine ⟨?_, ?h1, ?h2⟩
       case h1 =>
        simp -implicitDefEqProofs [loopS_eq, c106L0, hi, hi0, hx, hlt, hcl, wi, kr, kw, hb2, c2, c3]
        exact rfl
       case h2 => exact loopS_same (by simp []) (by simp [])
    ·skip
     by_cases c0 : i = 0
     ·subst c0
      simp only [Nat.zero_mul, List.drop_zero] at hx
      have w0 : IntKind.i64.wrap 1 = 1 := by decide
      by_cases c1 : s1 = 0 <;> by_cases c2 : s1 ≤ p1 <;> by_cases c3 : s2 < p2
      all_goals
       have hb2 := hb' _ rfl
       have c1' := c1
       have c1b : (s1 != 0) = decide (¬ s1 = 0) := by by_cases h : s1 = 0 <;> simp [h]
       simp only [c1', decide_true, decide_false, not_true_eq_false, not_false_eq_true] at c1b
       first | subst c1 | skip
       simp only [ordB, c1', c2, c3, decide_true, decide_false, ne_eq, not_true_eq_false, not_false_eq_true, Bool.true_and, Bool.or_true, Bool.or_false] at hb2
       refine ⟨?_, ?g1, ?g2⟩
       case g1 =>
        simp -implicitDefEqProofs [loopS_eq, c106L0, hi, hx, kr, kw, hb2, c1b, c2, c3, hs]
        exact rfl
       case g2 => rfl
     ·have hi0 := hi0 c0
      by_cases c1 : s1 = 0 <;> by_cases c2 : s1 ≤ p1 <;> by_cases c3 : s2 < p2
      all_goals
       have hb2 := hb' _ rfl
       have c1' := c1
       have c1b : (s1 != 0) = decide (¬ s1 = 0) := by by_cases h : s1 = 0 <;> simp [h]
       simp only [c1', decide_true, decide_false, not_true_eq_false, not_false_eq_true] at c1b
       first | subst c1 | skip
       simp only [ordB, c0, c1', c2, c3, decide_true, decide_false, ne_eq, not_true_eq_false, not_false_eq_true, Bool.false_and, Bool.or_true, Bool.or_false] at hb2
       refine ⟨?_, ?g1, ?g2⟩
       case g1 =>
        simp -implicitDefEqProofs [loopS_eq, c106L0, hi, hi0, hx, hlt, hcl, kr, kw, hb2, c2, c3, hs]
        exact rfl
       case g2 => rfl
     ) (by simp [inv, loopS_eq, c106L0]) (by simp) (fuel := loopFuel) (by simp [loopFuel]; omega)
   simp -implicitDefEqProofs [c106, kw, k2, whenE, firstE, h0, hg]
   rcases key with ⟨h1, h2⟩ | ⟨j, ⟨env, sto⟩, hj, h1, h2, h3, _, _⟩
   ·rw [h1, ht, show firstE (stL l) = 0 from h2]
    simp [inv]
   ·rw [h1, ht, show firstE (stL l) = _ from h3]
    simp only at h2
    subst h2
    generalize stE (prvL l j) _ _ = e
    simp
end Fw
end

section
set_option maxHeartbeats 16000000
namespace Fw
open Go

theorem cI_drop1 (l : List (Int × Int)) (i : Nat) (h : i < l.length) : (cI l).drop (i * 2 + 1) = .int .i64 l[i].2 :: cI (l.drop (i + 1)) := by
 rw [← List.drop_drop, cI_drop l i h]; rfl
theorem stE_two (p s : Int × Int) (z : Bool) : stE p s z = if firstE [rangeE 0 100000 s.1, rangeE 0 1000000 s.2] = 0 then (if ordB p s z = true then 11 else 0) else firstE [rangeE 0 100000 s.1, rangeE 0 1000000 s.2] := by
 unfold stE
 by_cases h1 : rangeE 0 100000 s.1 = 0 <;> by_cases h2 : rangeE 0 1000000 s.2 = 0 <;> cases ordB p s z <;> simp [firstE, h1, h2, whenE]
theorem ordB_ref (_p s : Int × Int) (h : firstE [rangeE 0 100000 s.1, rangeE 0 1000000 s.2] = 0) : ordB (-1, 0) s true = decide (s.1 ≠ 0) := by
 have h1 : rangeE 0 100000 s.1 = 0 := by by_cases h1 : rangeE 0 100000 s.1 = 0; exact h1; simp [firstE, h1] at h
 have h2 : rangeE 0 1000000 s.2 = 0 := by by_cases h2 : rangeE 0 1000000 s.2 = 0; exact h2; simp [firstE, h1, h2] at h
 unfold rangeE at h1 h2
 split at h1
 ·omega
 ·split at h2
  ·omega
  ·have a : ¬ s.1 ≤ -1 := by omega
   have b : ¬ s.2 < 0 := by omega
   simp [ordB, a, b]
theorem table45 {n : Nat} (hn : 4 ≤ n) (l : List (Int × Int)) (hl : l.length < 1000000) : RUN n 45 [csl l] = .ret (iv (tabE l)) := by
 obtain ⟨d, rfl⟩ : ∃ d, n = d + 4 := ⟨n - 4, by omega⟩
 rw [RUN, call_eq fe45 _ rfl]
 have kw := fun b e => when47 (n := d + 3) (by omega) b e
 have k2 := fun a b => first43_2 (n := d + 3) (by omega) a b
 have kr := fun x lo hi => range44 (n := d + 3) (by omega) x lo hi
 by_cases h0 : l.length = 0
 ·have : l = [] := List.eq_nil_of_length_eq_zero h0
  subst this
  have e3 : cI ([] : List (Int × Int)) = [] := rfl
  simp -implicitDefEqProofs [c45, kw, k2, whenE, firstE, tabE]
 ·by_cases h8 : 8 < l.length
  ·have hg : ((8 : Int) < l.length) := by omega
   simp -implicitDefEqProofs [c45, kw, k2, whenE, firstE, tabE, h0, h8, hg]
  ·have hg : ¬ ((8 : Int) < l.length) := by omega
   let inv : Nat → St := fun i => ⟨[(0, csl l), (4, iv i)], []⟩
   have ht : tabE l = firstE (stL l) := by simp [tabE, h0, h8]
   have key := loop_firstR (step := loopS (evFn F C0 G0 (d + 3)) C0 G0 0 false [0, 4] c45L0) inv (fun i => stE (prvL l i) (l.getD i (0, 0)) (decide (i = 0))) l.length (.exit 0, ⟨(inv l.length).env ++ [(22, .p (.bool false))], (inv l.length).sto⟩) (fun i st => st.env = [(2, iv (stE (prvL l i) (l.getD i (0, 0)) (decide (i = 0))))])
    (st0 := ⟨[(0, csl l), (4, iv 0)], []⟩) rfl (fun i hi => by
    have hx := cI_drop l i hi
    have hx1 := cI_drop1 l i hi
    have hlt : i * 2 < l.length * 2 := by omega
    have hlt1 : i * 2 + 1 < l.length * 2 := by omega
    have wi := wrap_succ (i := i) (by omega)
    have hg : l.getD i (0, 0) = l[i] := by simp [List.getD_eq_getElem?_getD, hi]
    have hcl := cI_length l
    by_cases c0 : i = 0
    ·subst c0
     have hp : prvL l 0 = (-1, 0) := rfl
     simp only [Nat.zero_mul, List.drop_zero, Nat.zero_add] at hx hx1
     simp only [inv, csl, hg, hp]
     generalize cI (l.drop (0 + 1)) = R2 at *
     generalize cI l = A at *
     generalize l[0] = s at *
     have hr := ordB_ref (-1, 0) s
     have h2 := stE_two (-1, 0) s (decide (0 = 0))
     obtain ⟨s1, s2⟩ := s
     simp only [decide_true] at hx hx1 hr h2 ⊢
     generalize stE (-1, 0) (s1, s2) true = e at *
     have w0 : IntKind.i64.wrap 1 = 1 := by decide
     generalize hF : firstE [rangeE 0 100000 s1, rangeE 0 1000000 s2] = f at *
     by_cases hf : f = 0
     ·subst hf
      rw [if_pos rfl, hr rfl] at h2
      by_cases c1 : s1 = 0
      ·subst c1
       simp at h2
       subst h2
       refine ⟨fun _ => ⟨?_, ?h1, ?h2⟩, fun h => absurd rfl h⟩
       case h1 =>
        simp -implicitDefEqProofs [loopS_eq, c45L0, hi, hx, w0, kr, k2, hF]
        exact rfl
       case h2 => simp [hx]
      ·simp [c1] at h2
       subst h2
       have c1b : (s1 != 0) = true := by simpa using c1
       refine ⟨fun h => absurd h (by decide), fun _ => ⟨?_, ?h1, ?h2⟩⟩
       case h1 =>
        simp -implicitDefEqProofs [loopS_eq, c45L0, hi, hx, kr, k2, hF, c1b]
        exact rfl
       case h2 => rfl
     ·rw [if_neg hf] at h2
      subst h2
      refine ⟨fun h => absurd h hf, fun _ => ⟨?_, ?h1, ?h2⟩⟩
      case h1 =>
       simp -implicitDefEqProofs [loopS_eq, c45L0, hi, hx, kr, k2, hF, hf]
       exact rfl
      case h2 => rfl
    ·obtain ⟨j, hj⟩ : ∃ j, i = j + 1 := ⟨i - 1, by omega⟩
     have hjl : j < l.length := by omega
     have hp : prvL l i = l[j] := by rw [hj]; simp [prvL, List.getD_eq_getElem?_getD, hjl]
     have hy := cI_drop l j hjl
     have hy1 := cI_drop1 l j hjl
     have hlj : j * 2 < l.length * 2 := by omega
     have hlj1 : j * 2 + 1 < l.length * 2 := by omega
     have hm : (i : Int) - 1 = (j : Int) := by omega
     have wj : IntKind.i64.wrap (j : Int) = j := wrap64 (by omega) (by omega)
     have hi0 : ((i : Int) == 0) = false := by simpa using c0
     have hp0 : 0 < i := by omega
     have hp1 : (0 : Int) < i := by omega
     simp only [inv, csl, hg, hp]
     generalize cI (l.drop (i + 1)) = R2 at *
     generalize cI (l.drop (j + 1)) = R3 at *
     generalize cI l = A at *
     generalize l[i] = s at *
     generalize l[j] = p at *
     have h2 := stE_two p s (decide (i = 0))
     obtain ⟨s1, s2⟩ := s
     obtain ⟨p1, p2⟩ := p
     simp only [c0, decide_false] at hx hx1 hy hy1 h2 ⊢
     generalize stE (p1, p2) (s1, s2) false = e at *
     generalize hF : firstE [rangeE 0 100000 s1, rangeE 0 1000000 s2] = f at *
     by_cases hf : f = 0
     ·subst hf
      rw [if_pos rfl] at h2
      by_cases c2 : s1 ≤ p1
      ·by_cases c3 : s2 < p2
       all_goals
        simp [ordB, c2, c3] at h2
        subst h2
        refine ⟨fun h => absurd h (by decide), fun _ => ⟨?_, ?h1, ?h2⟩⟩
        case h1 =>
         simp -implicitDefEqProofs [loopS_eq, c45L0, hi, hi0, hp0, hm, wj, hjl, hy, hlj, hx, hlt, hcl, kr, k2, hF, c2]
         exact rfl
        case h2 => rfl
      ·by_cases c3 : s2 < p2
       ·skip
        simp [ordB, c2, c3] at h2
        subst h2
        refine ⟨fun h => absurd h (by decide), fun _ => ⟨?_, ?h1, ?h2⟩⟩
        case h1 =>
         simp -implicitDefEqProofs [loopS_eq, c45L0, hi, hi0, hp0, hm, wj, hjl, hy, hlj, hx, hlt, hcl, kr, k2, hF, c2, c3]
         exact rfl
        case h2 => rfl
       ·simp [ordB, c2, c3] at h2
        subst h2
        refine ⟨fun _ => ⟨?_, ?h1, ?h2⟩, fun h => absurd rfl h⟩
        case h1 =>
         simp -implicitDefEqProofs [loopS_eq, c45L0, hi, hi0, hp0, hm, wj, hjl, hy, hlj, hx, hlt, hcl, wi, kr, k2, hF, c2, c3]
         exact rfl
        case h2 => simp
     ·rw [if_neg hf] at h2
      subst h2
      refine ⟨fun h => absurd h hf, fun _ => ⟨?_, ?h1, ?h2⟩⟩
      case h1 =>
       simp -implicitDefEqProofs [loopS_eq, c45L0, hi, hx, hlt, hcl, kr, k2, hF, hf]
       exact rfl
      case h2 => rfl
     ) (by simp [inv, loopS_eq, c45L0]) (by simp) (fuel := loopFuel) (by simp [loopFuel]; omega)
   simp -implicitDefEqProofs [c45, kw, k2, whenE, firstE, h0, hg]
   rcases key with ⟨h1, h2⟩ | ⟨j, ⟨env, sto⟩, hj, h1, h2, h3, _, _⟩
   ·rw [h1, ht, show firstE (stL l) = 0 from h2]
    simp [inv]
   ·rw [h1, ht, show firstE (stL l) = _ from h3]
    simp only at h2
    subst h2
    generalize stE (prvL l j) _ _ = e
    simp
end Fw
end

section
set_option maxHeartbeats 16000000
namespace Fw
open Go

structure HallI where
 doors : Int
 base : Int
 t0 : List (Int × Int)
 t1 : List (Int × Int)
 t2 : List (Int × Int)
abbrev ha (h : HallI) : AVal := .agg [iv h.doors, iv h.base, csl h.t0, csl h.t1, csl h.t2]
def hallE (h : HallI) : Int := firstE [rangeE 1 8 h.doors, rangeE 0 1000000 h.base, tabE h.t0, tabE h.t1, tabE h.t2]
def dcI : List PVal → List (Int × Int)
 | .int _ a :: .int _ b :: r => (a, b) :: dcI r
 | _ => []
theorem dcI_cI (l : List (Int × Int)) : dcI (cI l) = l := by
 induction l with
 | nil => rfl
 | cons x r ih => simp only [cI, dcI, ih]
def tabG : PVal → PVal
 | .sl cs _ => .int .i64 (tabE (dcI cs))
 | c => c
theorem a105 : c105 = mapC (.p (.int .i64 0)) 8 := rfl
theorem fc105 : F 105 = some (mapC (.p (.int .i64 0)) 8) := a105 ▸ fe105
theorem map105 {n : Nat} (hn : 5 ≤ n) (a b c : List (Int × Int)) (ha : a.length < 1000000) (hb : b.length < 1000000) (hc : c.length < 1000000) :
  RUN n 105 [.p (.sl [.sl (cI a) a.length, .sl (cI b) b.length, .sl (cI c) c.length] 3), .p (.clo 106 [] [])] = .ret (.own [.int .i64 (tabE a), .int .i64 (tabE b), .int .i64 (tabE c)] 3 1) := by
 obtain ⟨d, rfl⟩ : ∃ d, n = d + 5 := ⟨n - 5, by omega⟩
 have := map_ok (C := C0) (G := G0) (d := d + 4) fc105 (by decide) (fun _ => rfl) [.sl (cI a) a.length, .sl (cI b) b.length, .sl (cI c) c.length] 106 [] tabG (by simp) (by simp) (by
  intro x hx
  have key : ∀ l : List (Int × Int), l.length < 1000000 → callPure (evFn F C0 G0 (d + 4)) C0 (.fn 106) (.p (nrm (.sl (cI l) l.length)) :: List.map AVal.p []) = .ret (.p (tabG (.sl (cI l) l.length))) ∧ nrm (tabG (.sl (cI l) l.length)) = tabG (.sl (cI l) l.length) := fun l hl => by
   have k := table106 (n := d + 4) (by omega) l hl
   have e : tabG (.sl (cI l) l.length) = .int .i64 (tabE l) := by simp only [tabG, dcI_cI]
   rw [e]
   exact ⟨k, rfl⟩
  simp only [List.mem_cons, List.not_mem_nil, or_false] at hx
  rcases hx with rfl | rfl | rfl
  ·exact key a ha
  ·exact key b hb
  ·exact key c hc)
 simp only [List.map_cons, List.map_nil, tabG, dcI_cI] at this
 exact this
theorem first_app (a b c d e : Int) : firstE [a, b, firstE [c, d, e]] = firstE [a, b, c, d, e] := by
 by_cases h1 : a = 0 <;> by_cases h2 : b = 0 <;> by_cases h3 : c = 0 <;> by_cases h4 : d = 0 <;> by_cases h5 : e = 0 <;> simp [firstE, h1, h2, h3, h4, h5]
theorem hall57 {n : Nat} (hn : 6 ≤ n) (h : HallI) (h0 : h.t0.length < 1000000) (h1 : h.t1.length < 1000000) (h2 : h.t2.length < 1000000) : RUN n 57 [ha h] = .ret (iv (hallE h)) := by
 obtain ⟨d, rfl⟩ : ∃ d, n = d + 6 := ⟨n - 6, by omega⟩
 rw [RUN, call_eq fe57 _ rfl]
 have k := map105 (n := d + 5) (by omega) h.t0 h.t1 h.t2 h0 h1 h2
 have k3 := fun a b c => first56_3 (n := d + 5) (by omega) a b c
 have kr := fun x lo hi => within80 (n := d + 5) (by omega) x lo hi
 have hE : hallE h = _ := (first_app _ _ _ _ _).symm
 rw [hE]
 simp only [ha, csl]
 generalize cI h.t0 = A0 at *
 generalize cI h.t1 = A1 at *
 generalize cI h.t2 = A2 at *
 simp -implicitDefEqProofs [c57, k, k3, kr]
theorem hall8 {n : Nat} (hn : 6 ≤ n) (h : HallI) (h0 : h.t0.length < 1000000) (h1 : h.t1.length < 1000000) (h2 : h.t2.length < 1000000) : RUN n 8 [ha h] = .ret (iv (hallE h)) := by
 obtain ⟨d, rfl⟩ : ∃ d, n = d + 6 := ⟨n - 6, by omega⟩
 rw [RUN, call_eq fe8 _ rfl]
 have ka := table45 (n := d + 5) (by omega) h.t0 h0
 have kb := table45 (n := d + 5) (by omega) h.t1 h1
 have kc := table45 (n := d + 5) (by omega) h.t2 h2
 have k5 : ∀ a b c e f : Int, RUN (d + 5) 43 [.p (.sl [.int .i64 a, .int .i64 b, .int .i64 c, .int .i64 e, .int .i64 f] 5)] = .ret (iv (firstE [a, b, c, e, f])) := fun a b c e f => first43 (by omega) [a, b, c, e, f] (by simp)
 have kr := fun x lo hi => range44 (n := d + 5) (by omega) x lo hi
 unfold hallE
 simp only [ha, csl] at ka kb kc ⊢
 generalize cI h.t0 = A0 at *
 generalize cI h.t1 = A1 at *
 generalize cI h.t2 = A2 at *
 simp -implicitDefEqProofs [c8, ka, kb, kc, k5, kr]
abbrev v3 (a b c : Int) : AVal := .agg [iv a, iv b, iv c]
def valE (a b c : Int) : Int := firstE [rangeE 0 100000 a, rangeE 0 100000 b, rangeE 0 100000 c]
theorem val107 {n : Nat} (hn : 3 ≤ n) (x : Int) : RUN n 107 [iv x] = .ret (iv (rangeE 0 100000 x)) := by
 obtain ⟨d, rfl⟩ : ∃ d, n = d + 3 := ⟨n - 3, by omega⟩
 rw [RUN, call_eq fe107 _ rfl]
 have kr := fun x lo hi => within80 (n := d + 2) (by omega) x lo hi
 simp -implicitDefEqProofs [c107, kr]
def ranG : PVal → PVal
 | .int _ n => .int .i64 (rangeE 0 100000 n)
 | c => c
theorem map82v {n : Nat} (hn : 4 ≤ n) (a b c : Int) : RUN n 82 [.p (.sl [.int .i64 a, .int .i64 b, .int .i64 c] 3), .p (.clo 107 [] [])] = .ret (.own [.int .i64 (rangeE 0 100000 a), .int .i64 (rangeE 0 100000 b), .int .i64 (rangeE 0 100000 c)] 3 1) := by
 obtain ⟨d, rfl⟩ : ∃ d, n = d + 4 := ⟨n - 4, by omega⟩
 exact map_ok (C := C0) (G := G0) (d := d + 3) fc82 (by decide) (fun _ => rfl) [.int .i64 a, .int .i64 b, .int .i64 c] 107 [] ranG (by simp) (by simp) (by
  intro x hx
  simp only [List.mem_cons, List.not_mem_nil, or_false] at hx
  rcases hx with rfl | rfl | rfl
  ·exact ⟨val107 (by omega) a, rfl⟩
  ·exact ⟨val107 (by omega) b, rfl⟩
  ·exact ⟨val107 (by omega) c, rfl⟩)
theorem measures58 {n : Nat} (hn : 5 ≤ n) (a b c : Int) : RUN n 58 [v3 a b c] = .ret (iv (valE a b c)) := by
 obtain ⟨d, rfl⟩ : ∃ d, n = d + 5 := ⟨n - 5, by omega⟩
 rw [RUN, call_eq fe58 _ rfl]
 have k := map82v (n := d + 4) (by omega) a b c
 have k3 := fun a b c => first56_3 (n := d + 4) (by omega) a b c
 simp -implicitDefEqProofs [c58, k, k3, valE]
theorem values15 {n : Nat} (hn : 3 ≤ n) (a b c : Int) : RUN n 15 [v3 a b c] = .ret (iv (valE a b c)) := by
 obtain ⟨d, rfl⟩ : ∃ d, n = d + 3 := ⟨n - 3, by omega⟩
 rw [RUN, call_eq fe15 _ rfl]
 have kr := fun x lo hi => range44 (n := d + 2) (by omega) x lo hi
 have k3 := fun a b c => first43_3 (n := d + 2) (by omega) a b c
 simp -implicitDefEqProofs [c15, kr, k3, valE]
end Fw
end

section
set_option maxHeartbeats 16000000
namespace Fw
open Go

def wtP (l : List (Int × Int)) (v acc : Int) : Nat → Int
 | 0 => acc
 | i + 1 => if (l.getD i (0, 0)).1 ≤ v then max (wtP l v acc i) (l.getD i (0, 0)).2 else wtP l v acc i
def wtR (l : List (Int × Int)) (v : Int) : Nat → Int
 | 0 => 0
 | i + 1 => if (l.getD i (0, 0)).1 ≤ v then (l.getD i (0, 0)).2 else wtR l v i
def waitP (h : HallI) (a b c : Int) : Int := wtP h.t2 c (wtP h.t1 b (wtP h.t0 a 0 h.t0.length) h.t1.length) h.t2.length
def waitR (h : HallI) (a b c : Int) : Int := max (max (max 0 (wtR h.t0 a h.t0.length)) (wtR h.t1 b h.t1.length)) (wtR h.t2 c h.t2.length)

theorem in59 {d : Nat} (l : List (Int × Int)) (hl : l.length < 1000000) (x y z : PVal) (a b c acc : Int) (k : Nat) (v : Int) (hv : (k = 0 ∧ v = a) ∨ (k = 1 ∧ v = b) ∨ (k = 2 ∧ v = c)) :
  loopN (loopS (evFn F C0 G0 d) C0 G0 0 true [3, 5, 6, 11, 12, 16, 17, 18] c59L0) loopFuel ⟨[(3, .ptr 1 0 0), (5, iv acc), (6, iv k), (11, .agg [.p x, .p y, .p z]), (12, iv k), (16, csl l), (17, iv l.length), (18, iv 0)], [(1, .arr [.int .i64 a, .int .i64 b, .int .i64 c] 0 1)]⟩ =
  .ret (.exit 2, ⟨[(3, .ptr 1 0 0), (5, iv (wtP l v acc l.length)), (6, iv k), (11, .agg [.p x, .p y, .p z]), (12, iv k), (16, csl l), (17, iv l.length), (18, iv l.length), (19, .p (.bool false))], [(1, .arr [.int .i64 a, .int .i64 b, .int .i64 c] 0 1)]⟩) := by
 refine loop_run' (fun i => ⟨[(3, .ptr 1 0 0), (5, iv (wtP l v acc i)), (6, iv k), (11, .agg [.p x, .p y, .p z]), (12, iv k), (16, csl l), (17, iv l.length), (18, iv i)], [(1, .arr [.int .i64 a, .int .i64 b, .int .i64 c] 0 1)]⟩) l.length (by simp) rfl ?_ ?_ (by simp [loopFuel]; omega)
 ·intro i hi
  have hx := cI_drop l i hi
  have hlt : i * 2 < l.length * 2 := by omega
  have wi := wrap_succ (i := i) (by omega)
  have hg : l.getD i (0, 0) = l[i] := by simp [List.getD_eq_getElem?_getD, hi]
  have hcl := cI_length l
  have mx := fun a b => max2 a b
  have hs : wtP l v acc (i + 1) = if l[i].1 ≤ v then max (wtP l v acc i) l[i].2 else wtP l v acc i := by simp only [wtP, hg]
  simp only [hs, csl]
  generalize wtP l v acc i = w at *
  generalize cI (l.drop (i + 1)) = R2 at *
  generalize cI l = A at *
  generalize l[i] = s at *
  obtain ⟨s1, s2⟩ := s
  simp only at hx ⊢
  rcases hv with ⟨rfl, rfl⟩ | ⟨rfl, rfl⟩ | ⟨rfl, rfl⟩
  all_goals
   by_cases c1 : s1 ≤ v
   all_goals
    refine ⟨?_, ?h1, ?h2⟩
    case h1 =>
     simp -implicitDefEqProofs [loopS_eq, c59L0, hi, hx, hlt, hcl, wi, mx, c1]
     exact rfl
    case h2 => exact loopS_same (by simp [c1]) (by simp [c1])
 ·simp -implicitDefEqProofs [loopS_eq, c59L0]
theorem wait59 {n : Nat} (hn : 1 ≤ n) (h : HallI) (h0 : h.t0.length < 1000000) (h1 : h.t1.length < 1000000) (h2 : h.t2.length < 1000000) (a b c : Int) : RUN n 59 [ha h, v3 a b c] = .ret (iv (waitP h a b c)) := by
 obtain ⟨d, rfl⟩ : ∃ d, n = d + 1 := ⟨n - 1, by omega⟩
 rw [RUN, call_eq fe59 _ rfl]
 have i0 := in59 (d := d) h.t0 h0 (.sl (cI h.t0) h.t0.length) (.sl (cI h.t1) h.t1.length) (.sl (cI h.t2) h.t2.length) a b c 0 0 a (.inl ⟨rfl, rfl⟩)
 generalize hw0 : wtP h.t0 a 0 h.t0.length = w0 at *
 have i1 := in59 (d := d) h.t1 h1 (.sl (cI h.t0) h.t0.length) (.sl (cI h.t1) h.t1.length) (.sl (cI h.t2) h.t2.length) a b c w0 1 b (.inr (.inl ⟨rfl, rfl⟩))
 generalize hw1 : wtP h.t1 b w0 h.t1.length = w1 at *
 have i2 := in59 (d := d) h.t2 h2 (.sl (cI h.t0) h.t0.length) (.sl (cI h.t1) h.t1.length) (.sl (cI h.t2) h.t2.length) a b c w1 2 c (.inr (.inr ⟨rfl, rfl⟩))
 generalize hw2 : wtP h.t2 c w1 h.t2.length = w2 at *
 have hP : waitP h a b c = w2 := by simp only [waitP, hw0, hw1, hw2]
 rw [hP]
 simp only [iv, csl, Int.natCast_zero, Int.natCast_one, show ((2 : Nat) : Int) = 2 from rfl] at i0 i1 i2
 simp only [ha, csl]
 generalize cI h.t0 = A0 at *
 generalize cI h.t1 = A1 at *
 generalize cI h.t2 = A2 at *
 have e1 : IntKind.i64.wrap 1 = 1 := by decide
 have e2 : IntKind.i64.wrap 2 = 2 := by decide
 have e3 : IntKind.i64.wrap 3 = 3 := by decide
 simp -implicitDefEqProofs [c59]
 have s0 : loopS (evFn F C0 G0 d) C0 G0 0 true [3, 5, 11, 12] c59L1 ⟨[(3, .ptr 1 0 0), (5, iv 0), (11, .agg [.p (.sl A0 h.t0.length), .p (.sl A1 h.t1.length), .p (.sl A2 h.t2.length)]), (12, iv 0)], [(1, .arr [.int .i64 a, .int .i64 b, .int .i64 c] 0 1), (0, .box [iv h.doors, iv h.base, .p (.sl A0 h.t0.length), .p (.sl A1 h.t1.length), .p (.sl A2 h.t2.length)])]⟩ = .ret (.normal, ⟨[(3, .ptr 1 0 0), (5, iv w0), (11, .agg [.p (.sl A0 h.t0.length), .p (.sl A1 h.t1.length), .p (.sl A2 h.t2.length)]), (12, iv 1)], [(1, .arr [.int .i64 a, .int .i64 b, .int .i64 c] 0 1)]⟩) := by
  simp -implicitDefEqProofs [loopS_eq, c59L1]
  rw [i0]
  simp -implicitDefEqProofs [e1]
 have s1 : loopS (evFn F C0 G0 d) C0 G0 0 true [3, 5, 11, 12] c59L1 ⟨[(3, .ptr 1 0 0), (5, iv w0), (11, .agg [.p (.sl A0 h.t0.length), .p (.sl A1 h.t1.length), .p (.sl A2 h.t2.length)]), (12, iv 1)], [(1, .arr [.int .i64 a, .int .i64 b, .int .i64 c] 0 1)]⟩ = .ret (.normal, ⟨[(3, .ptr 1 0 0), (5, iv w1), (11, .agg [.p (.sl A0 h.t0.length), .p (.sl A1 h.t1.length), .p (.sl A2 h.t2.length)]), (12, iv 2)], [(1, .arr [.int .i64 a, .int .i64 b, .int .i64 c] 0 1)]⟩) := by
  simp -implicitDefEqProofs [loopS_eq, c59L1]
  rw [i1]
  simp -implicitDefEqProofs [e2]
 have s2 : loopS (evFn F C0 G0 d) C0 G0 0 true [3, 5, 11, 12] c59L1 ⟨[(3, .ptr 1 0 0), (5, iv w1), (11, .agg [.p (.sl A0 h.t0.length), .p (.sl A1 h.t1.length), .p (.sl A2 h.t2.length)]), (12, iv 2)], [(1, .arr [.int .i64 a, .int .i64 b, .int .i64 c] 0 1)]⟩ = .ret (.normal, ⟨[(3, .ptr 1 0 0), (5, iv w2), (11, .agg [.p (.sl A0 h.t0.length), .p (.sl A1 h.t1.length), .p (.sl A2 h.t2.length)]), (12, iv 3)], [(1, .arr [.int .i64 a, .int .i64 b, .int .i64 c] 0 1)]⟩) := by
  simp -implicitDefEqProofs [loopS_eq, c59L1]
  rw [i2]
  simp -implicitDefEqProofs [e3]
 have s3 : loopS (evFn F C0 G0 d) C0 G0 0 true [3, 5, 11, 12] c59L1 ⟨[(3, .ptr 1 0 0), (5, iv w2), (11, .agg [.p (.sl A0 h.t0.length), .p (.sl A1 h.t1.length), .p (.sl A2 h.t2.length)]), (12, iv 3)], [(1, .arr [.int .i64 a, .int .i64 b, .int .i64 c] 0 1)]⟩ = .ret (.exit 0, ⟨[(3, .ptr 1 0 0), (5, iv w2), (11, .agg [.p (.sl A0 h.t0.length), .p (.sl A1 h.t1.length), .p (.sl A2 h.t2.length)]), (12, iv 3), (13, .p (.bool false))], [(1, .arr [.int .i64 a, .int .i64 b, .int .i64 c] 0 1)]⟩) := by
  simp -implicitDefEqProofs [loopS_eq, c59L1]
 rw [loopN_on s0 (by simp [loopFuel]), loopN_on s1 (by simp [loopFuel]), loopN_on s2 (by simp [loopFuel]), loopN_end s3 (by simp) (by simp [loopFuel])]
 simp -implicitDefEqProofs []
theorem in155 {d : Nat} (h : HallI) (l : List (Int × Int)) (hl : l.length < 1000000) (a b c acc : Int) (k : Nat) (v : Int) (hv : (k = 0 ∧ v = a ∧ l = h.t0) ∨ (k = 1 ∧ v = b ∧ l = h.t1) ∨ (k = 2 ∧ v = c ∧ l = h.t2)) :
  loopN (loopS (evFn F C0 G0 d) C0 G0 0 false [2, 3, 5, 6, 7, 8] c155L0) loopFuel ⟨[(2, .ptr 0 0 0), (3, .ptr 1 0 0), (5, iv acc), (6, iv k), (7, iv 0), (8, iv 0)], [(1, .arr [.int .i64 a, .int .i64 b, .int .i64 c] 0 1), (0, .box [iv h.doors, iv h.base, csl h.t0, csl h.t1, csl h.t2])]⟩ =
  .ret (.exit 2, ⟨[(2, .ptr 0 0 0), (3, .ptr 1 0 0), (5, iv acc), (6, iv k), (7, iv (wtR l v l.length)), (8, iv l.length), (19, .p (.bool false))], [(1, .arr [.int .i64 a, .int .i64 b, .int .i64 c] 0 1), (0, .box [iv h.doors, iv h.base, csl h.t0, csl h.t1, csl h.t2])]⟩) := by
 refine loop_run' (fun i => ⟨[(2, .ptr 0 0 0), (3, .ptr 1 0 0), (5, iv acc), (6, iv k), (7, iv (wtR l v i)), (8, iv i)], [(1, .arr [.int .i64 a, .int .i64 b, .int .i64 c] 0 1), (0, .box [iv h.doors, iv h.base, csl h.t0, csl h.t1, csl h.t2])]⟩) l.length (by simp) rfl ?_ ?_ (by simp [loopFuel]; omega)
 ·intro i hi
  have hx := cI_drop l i hi
  have hx1 := cI_drop1 l i hi
  have hlt : i * 2 < l.length * 2 := by omega
  have hlt1 : i * 2 + 1 < l.length * 2 := by omega
  have wi := wrap_succ (i := i) (by omega)
  have hg : l.getD i (0, 0) = l[i] := by simp [List.getD_eq_getElem?_getD, hi]
  have hcl := cI_length l
  have hs : wtR l v (i + 1) = if l[i].1 ≤ v then l[i].2 else wtR l v i := by simp only [wtR, hg]
  simp only [hs]
  generalize wtR l v i = w at *
  generalize cI (l.drop (i + 1)) = R2 at *
  generalize l[i] = s at *
  obtain ⟨s1, s2⟩ := s
  simp only at hx hx1 ⊢
  obtain ⟨hd, hb, t0, t1, t2⟩ := h
  simp only at hv ⊢
  rcases hv with ⟨rfl, rfl, rfl⟩ | ⟨rfl, rfl, rfl⟩ | ⟨rfl, rfl, rfl⟩
  all_goals
   generalize hA : cI l = A at *
   simp only [csl, hA]
   by_cases c1 : s1 ≤ v
   all_goals
    refine ⟨?_, ?h1, ?h2⟩
    case h1 =>
     simp -implicitDefEqProofs [loopS_eq, c155L0, hi, hx, hlt, hcl, wi, c1]
     exact rfl
    case h2 => simp [c1]
 ·rcases hv with ⟨rfl, rfl, rfl⟩ | ⟨rfl, rfl, rfl⟩ | ⟨rfl, rfl, rfl⟩ <;> simp -implicitDefEqProofs [loopS_eq, c155L0]
theorem wait155 {n : Nat} (hn : 1 ≤ n) (h : HallI) (h0 : h.t0.length < 1000000) (h1 : h.t1.length < 1000000) (h2 : h.t2.length < 1000000) (a b c : Int) : RUN n 155 [ha h, v3 a b c] = .ret (iv (waitR h a b c)) := by
 obtain ⟨d, rfl⟩ : ∃ d, n = d + 1 := ⟨n - 1, by omega⟩
 rw [RUN, call_eq fe155 _ rfl]
 have mx := fun a b => max2 a b
 have i0 := in155 (d := d) h h.t0 h0 a b c 0 0 a (.inl ⟨rfl, rfl, rfl⟩)
 have i1 := fun acc => in155 (d := d) h h.t1 h1 a b c acc 1 b (.inr (.inl ⟨rfl, rfl, rfl⟩))
 have i2 := fun acc => in155 (d := d) h h.t2 h2 a b c acc 2 c (.inr (.inr ⟨rfl, rfl, rfl⟩))
 have hP : waitR h a b c = max (max (max 0 (wtR h.t0 a h.t0.length)) (wtR h.t1 b h.t1.length)) (wtR h.t2 c h.t2.length) := rfl
 rw [hP]
 generalize wtR h.t0 a h.t0.length = w0 at *
 generalize wtR h.t1 b h.t1.length = w1 at *
 generalize wtR h.t2 c h.t2.length = w2 at *
 generalize hm0 : max 0 w0 = m0
 generalize hm1 : max m0 w1 = m1
 generalize hm2 : max m1 w2 = m2
 simp only [iv, csl, Int.natCast_zero, Int.natCast_one, show ((2 : Nat) : Int) = 2 from rfl] at i0 i1 i2
 simp only [ha, csl]
 generalize cI h.t0 = A0 at *
 generalize cI h.t1 = A1 at *
 generalize cI h.t2 = A2 at *
 generalize h.doors = hd at *
 generalize h.base = hb at *
 have e1 : IntKind.i64.wrap 1 = 1 := by decide
 have e2 : IntKind.i64.wrap 2 = 2 := by decide
 have e3 : IntKind.i64.wrap 3 = 3 := by decide
 simp -implicitDefEqProofs [c155]
 have s0 : loopS (evFn F C0 G0 d) C0 G0 0 false [2, 3, 5, 6] c155L1 ⟨[(2, .ptr 0 0 0), (3, .ptr 1 0 0), (5, iv 0), (6, iv 0)], [(1, .arr [.int .i64 a, .int .i64 b, .int .i64 c] 0 1), (0, .box [iv hd, iv hb, .p (.sl A0 h.t0.length), .p (.sl A1 h.t1.length), .p (.sl A2 h.t2.length)])]⟩ = .ret (.normal, ⟨[(2, .ptr 0 0 0), (3, .ptr 1 0 0), (5, iv m0), (6, iv 1)], [(1, .arr [.int .i64 a, .int .i64 b, .int .i64 c] 0 1), (0, .box [iv hd, iv hb, .p (.sl A0 h.t0.length), .p (.sl A1 h.t1.length), .p (.sl A2 h.t2.length)])]⟩) := by
  simp -implicitDefEqProofs [loopS_eq, c155L1]
  rw [i0]
  simp -implicitDefEqProofs [e1, mx, hm0]
 have s1 : loopS (evFn F C0 G0 d) C0 G0 0 false [2, 3, 5, 6] c155L1 ⟨[(2, .ptr 0 0 0), (3, .ptr 1 0 0), (5, iv m0), (6, iv 1)], [(1, .arr [.int .i64 a, .int .i64 b, .int .i64 c] 0 1), (0, .box [iv hd, iv hb, .p (.sl A0 h.t0.length), .p (.sl A1 h.t1.length), .p (.sl A2 h.t2.length)])]⟩ = .ret (.normal, ⟨[(2, .ptr 0 0 0), (3, .ptr 1 0 0), (5, iv m1), (6, iv 2)], [(1, .arr [.int .i64 a, .int .i64 b, .int .i64 c] 0 1), (0, .box [iv hd, iv hb, .p (.sl A0 h.t0.length), .p (.sl A1 h.t1.length), .p (.sl A2 h.t2.length)])]⟩) := by
  simp -implicitDefEqProofs [loopS_eq, c155L1]
  rw [i1]
  simp -implicitDefEqProofs [e2, mx, hm1]
 have s2 : loopS (evFn F C0 G0 d) C0 G0 0 false [2, 3, 5, 6] c155L1 ⟨[(2, .ptr 0 0 0), (3, .ptr 1 0 0), (5, iv m1), (6, iv 2)], [(1, .arr [.int .i64 a, .int .i64 b, .int .i64 c] 0 1), (0, .box [iv hd, iv hb, .p (.sl A0 h.t0.length), .p (.sl A1 h.t1.length), .p (.sl A2 h.t2.length)])]⟩ = .ret (.normal, ⟨[(2, .ptr 0 0 0), (3, .ptr 1 0 0), (5, iv m2), (6, iv 3)], [(1, .arr [.int .i64 a, .int .i64 b, .int .i64 c] 0 1), (0, .box [iv hd, iv hb, .p (.sl A0 h.t0.length), .p (.sl A1 h.t1.length), .p (.sl A2 h.t2.length)])]⟩) := by
  simp -implicitDefEqProofs [loopS_eq, c155L1]
  rw [i2]
  simp -implicitDefEqProofs [e3, mx, hm2]
 have s3 : loopS (evFn F C0 G0 d) C0 G0 0 false [2, 3, 5, 6] c155L1 ⟨[(2, .ptr 0 0 0), (3, .ptr 1 0 0), (5, iv m2), (6, iv 3)], [(1, .arr [.int .i64 a, .int .i64 b, .int .i64 c] 0 1), (0, .box [iv hd, iv hb, .p (.sl A0 h.t0.length), .p (.sl A1 h.t1.length), .p (.sl A2 h.t2.length)])]⟩ = .ret (.exit 0, ⟨[(2, .ptr 0 0 0), (3, .ptr 1 0 0), (5, iv m2), (6, iv 3), (10, .p (.bool false))], [(1, .arr [.int .i64 a, .int .i64 b, .int .i64 c] 0 1), (0, .box [iv hd, iv hb, .p (.sl A0 h.t0.length), .p (.sl A1 h.t1.length), .p (.sl A2 h.t2.length)])]⟩) := by
  simp -implicitDefEqProofs [loopS_eq, c155L1]
 rw [loopN_on s0 (by simp [loopFuel]), loopN_on s1 (by simp [loopFuel]), loopN_on s2 (by simp [loopFuel]), loopN_end s3 (by simp) (by simp [loopFuel])]
 simp -implicitDefEqProofs []
end Fw
end

