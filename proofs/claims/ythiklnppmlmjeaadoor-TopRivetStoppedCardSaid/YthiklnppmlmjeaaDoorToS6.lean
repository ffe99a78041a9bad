/- Several texts in one: steps of the proof, no condition of their own. -/
import Derived.Test.YthiklnppmlmjeaaDoorTgJ3
import Derived.Test.YthiklnppmlmjeaaDoorTgH4
import Derived.Test.YthiklnppmlmjeaaDoorTgR3
import Derived.Test.YthiklnppmlmjeaaDoorTgSD
import Derived.Test.YthiklnppmlmjeaaDoorToA
import Derived.Test.YthiklnppmlmjeaaDoorFwC
import Derived.Test.YthiklnppmlmjeaaDoorTgMov
attribute [local irreducible] Fw.evCode Fw.evOps Fw.evOpsD Fw.evOper Fw.evOperD Fw.evOp Fw.evFn Fw.loopN Fw.T.All Fw.T.bind Fw.callPure Fw.callOp Fw.opsK Fw.opsDK Fw.restK Fw.seqK Fw.blockK Fw.loopS Fw.setK Fw.setQ Fw.giveK Fw.scalK Fw.gcK Fw.finish Fw.finS Fw.rfunK Fw.yldK Fw.yldB Fw.loopK
section
set_option maxHeartbeats 8000000
namespace Fw
open Go

def cellE (t : TowI) (c : Int) : Int := whenE (decide (c < 0) || decide (t.wall < c)) 10
theorem cell74 {n : Nat} (hn : 2 ≤ n) (t : TowI) (c : Int) : RUN n 74 [twa t, iv c] = .ret (iv (cellE t c)) := by
 obtain ⟨d, rfl⟩ : ∃ d, n = d + 2 := ⟨n - 2, by omega⟩
 rw [RUN, call_eq fe74 _ rfl]
 have h1 := fun b e => when78 (n := d + 1) (by omega) b e
 by_cases c1 : c < 0 <;> simp -implicitDefEqProofs [c74, h1, cellE, c1]
theorem cellE_zero {t : TowI} {c : Int} : cellE t c = 0 ↔ 0 ≤ c ∧ c ≤ t.wall := by
 unfold cellE
 rw [whenE_zero (by decide)]
 simp

/-! what a table says -/
def bad1 (t : TowI) (tab : List Int) (i : Nat) : Bool := decide (tab.getD (i + 1) 0 < tab.getD i 0 + t.pull.getD i 0 - t.fl)
def bad2 (t : TowI) (tab : List Int) (i : Nat) : Bool := decide ((t.wall - i) * (t.bl + t.fl) < tab.getD i 0)
def e1 (t : TowI) (tab : List Int) (k : Nat) : Int := if bad1 t tab k = true then 1 else 0
def e2 (t : TowI) (tab : List Int) (k : Nat) : Int := if bad2 t tab k = true then 1 else 0
def e3 (t : TowI) (tab : List Int) (cell : Int) : Nat → Int
 | 0 => if (decide (0 ≤ cell) && bad2 t tab 0) = true then 19 else 0
 | k + 1 => if (bad1 t tab k || (decide (((k + 1 : Nat) : Int) ≤ cell) && bad2 t tab (k + 1))) = true then 19 else 0
structure TabOk (t : TowI) (tab : List Int) : Prop where
 len : tab.length = t.wall.toNat + 1
 all : ∀ x ∈ tab, 0 ≤ x ∧ x ≤ 100000000
end Fw
end

section
set_option maxHeartbeats 8000000
namespace Fw
open Go

theorem inside75 {n : Nat} (hn : 3 ≤ n) (x a b : Int) : RUN n 75 [iv x, .agg [iv a, iv b]] = .ret (iv (rangeE a b x)) := by
 obtain ⟨d, rfl⟩ : ∃ d, n = d + 3 := ⟨n - 3, by omega⟩
 rw [RUN, call_eq fe75 _ rfl]
 have h1 := within117 (n := d + 2) (by omega) x a b
 simp -implicitDefEqProofs [c75, h1]
/-! what is reached -/
def reL (t : TowI) : List (Int × Int) := (List.range (t.pull.length + 1)).map fun i => (runFB t t.fh i, runFB t t.fl i)
@[simp] theorem reL_length (t : TowI) : (reL t).length = t.pull.length + 1 := by simp [reL]
/-! stops -/
def upI (x den : Int) : Int := -((-x) / den)
theorem up_eq {x den : Int} (hd : 0 < den) : (x + den - 1) / den = upI x den := by
 unfold upI
 have h1 := Int.mul_ediv_add_emod (-x) den
 have h2 := Int.emod_nonneg (-x) (show den ≠ 0 by omega)
 have h3 := Int.emod_lt_of_pos (-x) hd
 generalize (-x) / den = q at *
 generalize (-x) % den = r at *
 have e : x + den - 1 = (den - 1 - r) + den * (0 - q) - 0 := by
  have : den * (0 - q) = -(den * q) := by rw [Int.mul_sub]; omega
  omega
 have h4 : (x + den - 1) / den = ((den - 1 - r) + den * (0 - q)) / den := by rw [e]; simp
 rw [h4, Int.add_mul_ediv_left _ _ (by omega), Int.ediv_eq_zero_of_lt (by omega) (by omega)]
 omega
theorem upI_in {x den B : Int} (hd : 0 < den) (hx : 0 ≤ x) (hB : x ≤ B) : 0 ≤ upI x den ∧ upI x den ≤ B := by
 rw [← up_eq hd]
 constructor
 ·exact Int.ediv_nonneg (by omega) (by omega)
 ·have h1 : (x + den - 1) / den ≤ x := by
   rcases Int.lt_or_le 0 x with h | h
   ·have : (x + den - 1) / den < x + 1 := by
     apply Int.ediv_lt_of_lt_mul hd
     have h2 : x * 1 ≤ x * den := Int.mul_le_mul_of_nonneg_left (by omega) hx
     have h3 : (x + 1) * den = x * den + den := by rw [Int.add_mul, Int.one_mul]
     omega
    omega
   ·have : x = 0 := by omega
    subst this
    rw [Int.ediv_eq_zero_of_lt (by omega) (by omega)]
    omega
  omega

theorem up119 {n : Nat} (hn : 1 ≤ n) (x den : Int) (hd : 0 < den) (h1 : 0 ≤ x) (h2 : x ≤ 1000000000000) (h3 : den ≤ 1000000000000) : RUN n 119 [iv x, iv den] = .ret (iv (upI x den)) := by
 obtain ⟨d, rfl⟩ : ∃ d, n = d + 1 := ⟨n - 1, by omega⟩
 rw [RUN, call_eq fe119 _ rfl]
 have w1 := wrap64 (n := x + den) (by omega) (by omega)
 have w2 := wrap64 (n := x + den - 1) (by omega) (by omega)
 have hq := upI_in hd h1 h2
 have ht : (x + den - 1).tdiv den = upI x den := by rw [Int.tdiv_eq_ediv_of_nonneg (by omega)]; exact up_eq hd
 have w3 := wrap64 (n := upI x den) (by omega) (by omega)
 have hz : ¬ den = 0 := by omega
 have hm1 : ¬ den = -1 := by omega
 simp -implicitDefEqProofs [c119, w1, w2, ht, w3, hz]

def brA (t : TowI) (c : Nat) (f b : Int) : Int × Int := if runFB t f c = 0 then (c, 0) else if f + b = 0 then (0, 7) else (c + upI (runFB t f c) (f + b), 0)

theorem stop76 {n : Nat} (hn : 2 ≤ n) (c : Nat) (s f : Int) (hc : c ≤ 1000) (hs : 0 ≤ s ∧ s ≤ 100000000) (hf : 0 ≤ f ∧ f ≤ 200000) : RUN n 76 [iv c, iv s, iv f] = .ret (if s = 0 then .tup [iv c, .p (.bool true)] else if f = 0 then .tup [iv 0, .p (.bool false)] else .tup [iv (c + upI s f), .p (.bool true)]) := by
 obtain ⟨d, rfl⟩ : ∃ d, n = d + 2 := ⟨n - 2, by omega⟩
 rw [RUN, call_eq fe76 _ rfl]
 by_cases c1 : s = 0
 ·subst c1
  simp -implicitDefEqProofs [c76]
 ·have c1' : ¬ s ≤ 0 := by omega
  by_cases c2 : f = 0
  ·subst c2
   simp -implicitDefEqProofs [c76, c1, c1']
  ·have hb : (f == 0) = false := by simpa using c2
   have h1 := up119 (n := d + 1) (by omega) s f (by omega) hs.1 (by omega) (by omega)
   have hq := upI_in (x := s) (den := f) (B := 100000000) (by omega) hs.1 hs.2
   have w := wrap64 (n := (c : Int) + upI s f) (by omega) (by omega)
   simp -implicitDefEqProofs [c76, c1, c1', c2, hb, h1, w]

theorem runL_getB (t : TowI) (f : Int) {c : Nat} (_ : c < t.pull.length + 1) (q : c < (runLB t f).length) : (runLB t f)[c]'q = runFB t f c := by simp [runLB]
theorem wrap_zero : IntKind.i64.wrap 0 = 0 := by decide

def safeBB (t : TowI) (c : Nat) : Bool := decide ((brA t c t.fl t.bl).2 = 0) && decide ((brA t c t.fl t.bl).1 ≤ t.wall)

theorem safe86 {n : Nat} (hn : 3 ≤ n) {t : TowI} (h : TowOk t) {c : Nat} (hc : (c : Int) ≤ t.wall) : RUN n 86 [twa t, iv c] = .ret (.p (.bool (safeBB t c))) := by
 obtain ⟨d, rfl⟩ : ∃ d, n = d + 3 := ⟨n - 3, by omega⟩
 rw [RUN, call_eq fe86 _ rfl]
 have hw := h.wl
 have hfew := h.few
 have hfr := h.fr
 have hbr := h.br
 have h1 := run77 (n := d + 2) (by omega) h (f := t.fl) (by omega)
 have hcl : c < t.pull.length + 1 := by omega
 have hci : (c : Int) < (t.pull.length : Int) + 1 := by omega
 have g := runL_getB t t.fl hcl
 have hr := runF_in h hfr.1 c (by omega)
 have w := wrap64 (n := t.fl + t.bl) (by omega) (by omega)
 have h2 := stop76 (n := d + 2) (by omega) c (runFB t t.fl c) (t.fl + t.bl) (by omega) (by omega) (by omega)
 have hB : safeBB t c = (decide ((if runFB t t.fl c = 0 then ((c : Int), (0 : Int)) else if t.fl + t.bl = 0 then (0, 7) else (c + upI (runFB t t.fl c) (t.fl + t.bl), 0)).2 = 0) && decide ((if runFB t t.fl c = 0 then ((c : Int), (0 : Int)) else if t.fl + t.bl = 0 then (0, 7) else (c + upI (runFB t t.fl c) (t.fl + t.bl), 0)).1 ≤ t.wall)) := rfl
 rw [hB]
 generalize runFB t t.fl c = s at *
 by_cases c1 : s = 0
 ·subst c1
  simp -implicitDefEqProofs at h2
  simp -implicitDefEqProofs [c86, h1, hcl, hci, g, w, h2]
 ·rw [if_neg c1] at h2
  by_cases c2 : t.fl + t.bl = 0
  ·rw [if_pos c2, c2] at h2
   simp -implicitDefEqProofs [c86, h1, hcl, hci, g, c2, h2, c1, wrap_zero]
  ·rw [if_neg c2] at h2
   simp -implicitDefEqProofs [c86, h1, hcl, hci, g, w, c2, h2, c1]

def brE (t : TowI) (c f b : Int) : Int := firstE [cellE t c, rangeE t.fl t.fh f, rangeE t.bl t.bh b]
theorem brake29 {n : Nat} (hn : 7 ≤ n) (t : TowI) (hl : t.pull.length < 1000000) (c f b : Int) : RUN n 29 [twa t, iv c, iv f, iv b] = .ret (if towE t = 0 then (if brE t c f b = 0 then .tup [iv (brA t c.toNat f b).1, iv (brA t c.toNat f b).2] else .tup [iv 0, iv (brE t c f b)]) else .tup [iv 0, iv (towE t)]) := by
 obtain ⟨d, rfl⟩ : ∃ d, n = d + 7 := ⟨n - 7, by omega⟩
 rw [RUN, call_eq fe29 _ rfl]
 have h0 := tow69 (n := d + 6) (by omega) t hl
 by_cases z0 : towE t = 0
 ·rw [if_pos z0]
  have h := tow_of z0
  have hw := h.wl
  have hfew := h.few
  have hfr := h.fr
  have hbr := h.br
  have h1 := cell74 (n := d + 6) (by omega) t c
  have h2 := inside75 (n := d + 6) (by omega) f t.fl t.fh
  have h3 := inside75 (n := d + 6) (by omega) b t.bl t.bh
  have h4 := first73_3 (n := d + 6) (by omega) (cellE t c) (rangeE t.fl t.fh f) (rangeE t.bl t.bh b)
  have e : firstE [cellE t c, rangeE t.fl t.fh f, rangeE t.bl t.bh b] = brE t c f b := rfl
  rw [e] at h4
  by_cases z1 : brE t c f b = 0
  ·rw [if_pos z1]
   have hz := firstE_zero.1 z1
   have q1 := cellE_zero.1 (hz (cellE t c) (by simp))
   have q2 := rangeE_zero.1 (hz (rangeE t.fl t.fh f) (by simp))
   have q3 := rangeE_zero.1 (hz (rangeE t.bl t.bh b) (by simp))
   obtain ⟨k, rfl⟩ : ∃ k : Nat, c = k := ⟨c.toNat, by omega⟩
   rw [Int.toNat_natCast]
   have hcl : k < t.pull.length + 1 := by omega
   have hci : (k : Int) < (t.pull.length : Int) + 1 := by omega
   have h5 := run77 (n := d + 6) (by omega) h (f := f) (by omega)
   have g := runL_getB t f hcl
   have hr := runF_in h (show 0 ≤ f by omega) k (by omega)
   have w := wrap64 (n := f + b) (by omega) (by omega)
   have h6 := stop76 (n := d + 6) (by omega) k (runFB t f k) (f + b) (by omega) (by omega) (by omega)
   have h7 := fun b e => when78 (n := d + 6) (by omega) b e
   have hBr : brA t k f b = if runFB t f k = 0 then ((k : Int), 0) else if f + b = 0 then (0, 7) else (k + upI (runFB t f k) (f + b), 0) := rfl
   rw [hBr]
   generalize runFB t f k = s at *
   by_cases c1 : s = 0
   ·subst c1
    simp -implicitDefEqProofs at h6
    simp -implicitDefEqProofs [c29, h0, z0, h1, h2, h3, h4, z1, h5, hcl, hci, g, w, h6, h7, whenE]
   ·rw [if_neg c1] at h6
    by_cases c2 : f + b = 0
    ·rw [if_pos c2, c2] at h6
     simp -implicitDefEqProofs [c29, h0, z0, h1, h2, h3, h4, z1, h5, hcl, hci, g, c2, h6, h7, c1, whenE, wrap_zero]
    ·rw [if_neg c2] at h6
     simp -implicitDefEqProofs [c29, h0, z0, h1, h2, h3, h4, z1, h5, hcl, hci, g, w, h6, h7, c1, c2, whenE]
  ·rw [if_neg z1]
   have hb : (brE t c f b != 0) = true := by simpa using z1
   simp -implicitDefEqProofs [c29, h0, z0, h1, h2, h3, h4, hb]
 ·rw [if_neg z0]
  have hb : (towE t != 0) = true := by simpa using z0
  simp -implicitDefEqProofs [c29, h0, hb]

end Fw
end

section
set_option maxHeartbeats 8000000
namespace Fw
open Go

def lead (e : Nat → Int) : Nat → Nat
 | 0 => 0
 | n + 1 => if lead e n = n ∧ e n = 0 then n + 1 else lead e n
theorem lead_le (e : Nat → Int) : ∀ n, lead e n ≤ n := by
 intro n
 induction n with
 | zero => exact Nat.le_refl _
 | succ n ih => simp only [lead]; split <;> omega
theorem lead_all {e : Nat → Int} : ∀ n, (∀ q, q < n → e q = 0) → lead e n = n := by
 intro n
 induction n with
 | zero => intro _; rfl
 | succ n ih =>
  intro h
  simp only [lead]
  rw [if_pos ⟨ih (fun q hq => h q (by omega)), h n (by omega)⟩]
theorem lead_at {e : Nat → Int} {j : Nat} (hj : e j ≠ 0) (hq : ∀ q, q < j → e q = 0) : ∀ n, j < n → lead e n = j := by
 intro n
 induction n with
 | zero => intro h; omega
 | succ n ih =>
  intro h
  simp only [lead]
  by_cases hn : j = n
  ·subst hn
   rw [if_neg (fun h => hj h.2)]
   exact lead_all _ hq
  ·have := ih (by omega)
   rw [this, if_neg (by omega)]

def unE (t : TowI) (i : Nat) : Int := if safeBB t i = true then 0 else 1
def lastI (t : TowI) : Int := (lead (unE t) (t.wall.toNat + 1) : Int) - 1

theorem all_zero {e : Nat → Int} {n : Nat} (h : firstE ((List.range n).map e) = 0) : ∀ q, q < n → e q = 0 := fun q hq =>
 firstE_zero.1 h (e q) (List.mem_map.2 ⟨q, by simpa using hq, rfl⟩)

theorem safe_zero {t : TowI} (h : TowOk t) : unE t 0 = 0 := by
 have hw := h.wl
 have : brA t 0 t.fl t.bl = (0, 0) := by simp [brA, runFB]
 simp [unE, safeBB, this]
 omega

theorem yldB_exit {call : CallF} {C : Nat → List AVal → Option (T AVal)} {G : Nat → Option (List PVal)} {id i : Nat} {st : St} {e3 : Env} {p3 : List Nat} {a3 b3 : ACode} {j : Option ACode} {n : Nat} (h : get st.sto id = some (.loop e3 p3 a3 b3 j n)) : yldB call C G id (.exit i, st) = .ret (.p (.bool false), put st.sto id (.loop e3 p3 a3 b3 (some (.exit i)) 2)) := by
 unfold yldB
 simp [jumpOf, h]
theorem rfunK_exit {lo : Nat} {env : Env} {id i : Nat} {a : AVal} {s : Sto} {e1 : Env} {p1 : List Nat} {a1 b1 : ACode} {n : Nat} (h : get s id = some (.loop e1 p1 a1 b1 (some (.exit i)) n)) (hn : n ≠ 1) : rfunK lo env id (a, s) = .ret (.exit i, ⟨env, gc lo env (put s id (.loop e1 p1 a1 b1 (some (.exit i)) 3))⟩) := by
 unfold rfunK
 simp [h, hn]

def lEnv (t : TowI) : Env := [(2, iv 0), (3, iv 0), (5, .ptr 1 0 0), (15, .p (.clo 118 [] [.pp (twc t)]))]
def lLoop (t : TowI) (j : Option ACode) (e : Nat) : Obj := .loop (lEnv t) [16] c24A0 c24B0 j e
def lS (t : TowI) (x : Int) (j : Option ACode) (e : Nat) : Sto := [(2, lLoop t j e), (1, .arr [.int .i64 x] 0 1), (0, .box (twl t))]

theorem yld24 {d : Nat} (t : TowI) (i : Nat) (hi : i < 1000) : evFn F C0 G0 (d + 1) (.yld 2) [iv i] (lS t t.wall none 0) = .ret (.p (.bool false), lS t ((i : Int) - 1) (some (.exit 0)) 2) := by
 rw [evFn_yld (by rfl) (by rfl)]
 have w := wrap64 (n := (i : Int) - 1) (by omega) (by omega)
 simp -implicitDefEqProofs [c24A0, lEnv]
 rw [yldK_eq (by rfl)]
 simp -implicitDefEqProofs [c24B0, lS, lLoop, w, -gc]
 rw [yldB_exit (by rfl)]
 simp -implicitDefEqProofs

theorem unsafe118 {d : Nat} {t : TowI} (h : TowOk t) : evFn F C0 G0 (d + 5) (.fn 118) [.yld 2, .p (.pp (twc t))] (lS t t.wall none 0) = .ret (.tup [], if lead (unE t) (t.wall.toNat + 1) = t.wall.toNat + 1 then lS t t.wall none 0 else lS t (lastI t) (some (.exit 0)) 2) := by
 rw [evFn_fn fe118]
 have hw := h.wl
 have hfew := h.few
 obtain ⟨k, hk⟩ : ∃ k : Nat, t.wall = k := ⟨t.wall.toNat, by omega⟩
 have hlast : lastI t = (lead (unE t) (k + 1) : Int) - 1 := by simp [lastI, hk]
 have hn3 : ∀ x j e, nextId (lS t x j e) = 3 := fun _ _ _ => rfl
 have hgc : ∀ env x j e, gc 3 env (lS t x j e) = lS t x j e := fun env x j e => gc_all (by simp [lS])
 let inv : Nat → St := fun i => ⟨[(0, .yld 2), (1, .p (.pp (twc t))), (6, iv ((k : Int) + 1)), (7, iv i)], lS t t.wall none 0⟩
 have key := loop_first (step := loopS (evFn F C0 G0 (d + 4)) C0 G0 3 true [0, 1, 6, 7] c118L0) inv (unE t) (k + 1) (.exit 0, ⟨[(0, .yld 2), (1, .p (.pp (twc t))), (6, iv ((k : Int) + 1)), (7, iv ((k : Int) + 1)), (8, .p (.bool false))], lS t t.wall none 0⟩) (fun i => (.ret, ⟨[(0, .yld 2), (1, .p (.pp (twc t))), (6, iv ((k : Int) + 1)), (7, iv i), (19, .p (.bool true))], lS t ((i : Int) - 1) (some (.exit 0)) 2⟩))
  (st0 := ⟨[(0, .yld 2), (1, .p (.pp (twc t))), (6, iv ((k : Int) + 1)), (7, iv 0)], lS t t.wall none 0⟩) rfl (fun i hi => by
   have hlt : (i : Int) < (k : Int) + 1 := by omega
   have h1 := safe86 (n := d + 4) (by omega) h (c := i) (by omega)
   have hy := yld24 (d := d + 3) t i (by omega)
   have hu : unE t i = if safeBB t i = true then 0 else 1 := rfl
   rw [hu]
   cases hs : safeBB t i with
   | true =>
    rw [hs] at h1
    refine ⟨fun _ => ⟨inv (i + 1), ?_, rfl⟩, fun hz => by simp at hz⟩
    simp -implicitDefEqProofs [inv, loopS_eq, c118L0, hlt, h1, hgc, -gc, -nextId, wrap_succ (i := i) (by omega)]
   | false =>
    rw [hs] at h1
    refine ⟨fun hz => by simp at hz, fun _ => ?_⟩
    simp -implicitDefEqProofs [inv, loopS_eq, c118L0, hlt, h1, hy, hgc, hn3, -gc, -nextId]) (fun i => by simp) (by
   simp -implicitDefEqProofs [inv, loopS_eq, c118L0, hgc, -gc, -nextId]) (by simp) (fuel := loopFuel) (by simp [loopFuel]; omega)
 have w := wrap64 (n := (k : Int) + 1) (by omega) (by omega)
 have hkt : t.wall.toNat = k := by omega
 rw [hkt]
 simp only [twc, hk] at key ⊢
 simp -implicitDefEqProofs [c118, w, hn3, -nextId]
 rcases key with ⟨k1, k2⟩ | ⟨j, hj, k1, k2, k3, k4⟩
 ·rw [k1]
  have := lead_all (k + 1) (all_zero k2)
  rw [this, if_pos rfl]
  simp -implicitDefEqProofs
 ·rw [k1]
  have := lead_at k3 k4 (k + 1) hj
  rw [hlast, this, if_neg (by omega)]
  simp -implicitDefEqProofs

theorem last24 {n : Nat} (hn : 7 ≤ n) (t : TowI) (hl : t.pull.length < 1000000) : RUN n 24 [twa t] = .ret (if towE t = 0 then .tup [iv (lastI t), iv 0] else .tup [iv 0, iv (towE t)]) := by
 obtain ⟨d, rfl⟩ : ∃ d, n = d + 7 := ⟨n - 7, by omega⟩
 rw [RUN, call_eq fe24 _ rfl]
 have h0 := tow69 (n := d + 6) (by omega) t hl
 by_cases z0 : towE t = 0
 ·rw [if_pos z0]
  have h := tow_of z0
  have hw := h.wl
  have h120 : RUN (d + 6) 70 [twa t] = .ret (.p (.clo 118 [] [.pp (twc t)])) := by
   rw [RUN, call_eq fe70 _ rfl]
   simp -implicitDefEqProofs [c70]
  have key := unsafe118 (d := d + 1) h
  have hlastw : lead (unE t) (t.wall.toNat + 1) = t.wall.toNat + 1 → lastI t = t.wall := fun e => by
   rw [lastI, e]; omega
  have hf : Obj.loop (lEnv t) [16] c24A0 c24B0 none 0 = lLoop t none 0 := rfl
  simp -implicitDefEqProofs [c24, h0, z0, h120, callee]
  simp only [lS, lLoop, lEnv, twc] at key
  rw [key]
  split
  ·rename_i e
   rw [hlastw e]
   rw [bind_ret, rfunK_none (by rfl) (by simp)]
   simp -implicitDefEqProofs
  ·rw [bind_ret, rfunK_exit (by rfl) (by simp)]
   simp -implicitDefEqProofs
 ·rw [if_neg z0]
  have hb : (towE t != 0) = true := by simpa using z0
  simp -implicitDefEqProofs [c24, h0, hb]
end Fw
end

section
set_option maxHeartbeats 16000000
namespace Fw
open Go

end Fw
end

section
set_option maxHeartbeats 16000000
namespace Fw
open Go

end Fw
end

section
set_option maxHeartbeats 16000000
set_option maxRecDepth 8000
namespace Fw
open Go

theorem in28 {n : Nat} (hn : 1 ≤ n) (g : List (Int × Int)) (v : Int) (hg : g.length < 1000000) : RUN n 28 [csl g, iv v] = .ret (.p (.bool (inB g v))) := by
 obtain ⟨d, rfl⟩ : ∃ d, n = d + 1 := ⟨n - 1, by omega⟩
 rw [RUN, call_eq fe28 _ rfl]
 let out : Nat → Ex × St := fun i => match (g.drop i).find? (fun p => decide (p.1 ≤ v) && decide (v < p.2)) with
  | none => (.exit 0, ⟨[(1, iv v), (7, csl g), (8, iv g.length), (9, iv g.length)] ++ [(10, .p (.bool false))], []⟩)
  | some y => (.ret, ⟨[(4, .p (.bool true))], [(0, .arr [.int .i64 y.1, .int .i64 y.2] 0 1)]⟩)
 have key := loop_rec' (step := loopS (evFn F C0 G0 d) C0 G0 0 true [1, 7, 8, 9] c28L0) (fun i => ⟨[(1, iv v), (7, csl g), (8, iv g.length), (9, iv i)], []⟩) out g.length (st0 := ⟨[(1, iv v), (7, csl g), (8, iv g.length), (9, iv 0)], []⟩) rfl ?_ ?_ (fuel := loopFuel) (by simp [loopFuel]; omega)
 ·simp -implicitDefEqProofs [c28]
  rw [key]
  cases hf : g.find? (fun p => decide (p.1 ≤ v) && decide (v < p.2)) with
  | none =>
   have hb : inB g v = false := by
    rw [List.find?_eq_none] at hf
    simp only [inB, List.any_eq_false]
    exact hf
   simp -implicitDefEqProofs [out, hf, hb]
  | some y =>
   have hb : inB g v = true := by
    simp only [inB, List.any_eq_true]
    have h1 := List.find?_some hf
    exact ⟨y, List.mem_of_find?_eq_some hf, h1⟩
   simp -implicitDefEqProofs [out, hf, hb]
 ·intro i hi
  have hlt' : (i : Int) < g.length := by omega
  have hx := cI_drop g i hi
  have hw := wrap_succ (i := i) (by omega)
  have i0 : i * 2 < g.length * 2 := by omega
  have i2 : i * 2 + 2 ≤ g.length * 2 := by omega
  have hcl : (cI g).length = g.length * 2 := cI_len2 g
  have hd : (g.drop i).find? (fun p => decide (p.1 ≤ v) && decide (v < p.2)) = if (decide (g[i].1 ≤ v) && decide (v < g[i].2)) = true then some g[i] else (g.drop (i + 1)).find? (fun p => decide (p.1 ≤ v) && decide (v < p.2)) := by
   rw [List.drop_eq_getElem_cons hi, List.find?_cons]
   split <;> rename_i h <;> simp [h]
  simp only [csl]
  generalize hB : cI g = B at *
  generalize cI (g.drop (i + 1)) = R at *
  generalize g[i] = x at *
  obtain ⟨a, b⟩ := x
  simp only at hx hd
  by_cases h1 : a ≤ v
  ·by_cases h2 : v < b
   ·have ho : out i = (.ret, ⟨[(4, .p (.bool true))], [(0, .arr [.int .i64 a, .int .i64 b] 0 1)]⟩) := by
     simp only [out, hd, h1, h2, decide_true, Bool.and_self, if_true]
    refine .inr ⟨?_, by rw [ho]; simp⟩
    rw [ho]
    simp -implicitDefEqProofs [loopS_eq, c28L0, hlt', hx, hcl, i0, h1, h2]
   ·refine .inl ⟨⟨⟨[(1, iv v), (7, .p (.sl B g.length)), (8, iv g.length), (9, iv (i + 1 : Nat))], [(0, .arr [.int .i64 a, .int .i64 b] 0 1)]⟩, ?_, loopS_same rfl (by simp)⟩, ?_⟩
    ·simp -implicitDefEqProofs [loopS_eq, c28L0, hlt', hx, hcl, i0, h1, h2, hw]
    ·simp only [out, hd, h1, h2, decide_true, decide_false, Bool.and_false, Bool.false_eq_true, if_false]
  ·refine .inl ⟨⟨⟨[(1, iv v), (7, .p (.sl B g.length)), (8, iv g.length), (9, iv (i + 1 : Nat))], [(0, .arr [.int .i64 a, .int .i64 b] 0 1)]⟩, ?_, loopS_same rfl (by simp)⟩, ?_⟩
   ·simp -implicitDefEqProofs [loopS_eq, c28L0, hlt', hx, hcl, i0, h1, hw]
   ·simp only [out, hd, h1, decide_false, Bool.false_and, Bool.false_eq_true, if_false]
 ·have : g.drop g.length = [] := List.drop_of_length_le (by omega)
  simp -implicitDefEqProofs [loopS_eq, c28L0, out, this]

theorem tow25 {n : Nat} (hn : 1 ≤ n) (t : TowI) (hl : t.pull.length < 1000000) : RUN n 25 [twa t] = .ret (twa t) := by
 obtain ⟨d, rfl⟩ : ∃ d, n = d + 1 := ⟨n - 1, by omega⟩
 rw [RUN, call_eq fe25 _ rfl]
 have hlim : t.pull.length ≤ lim := by simp only [lim]; omega
 by_cases h0 : t.pull.length = 0
 ·have : t.pull = [] := List.eq_nil_of_length_eq_zero h0
  simp -implicitDefEqProofs [c25, this, stOp]
 ·simp -implicitDefEqProofs [c25, hlim, h0, stOp]
end Fw
end

section
set_option maxHeartbeats 16000000
set_option maxRecDepth 8000
namespace Fw
open Go

def earlyB (l : List ActI) : Bool := l.all fun x => decide (x.tick ≤ 300)
theorem ticks_loop {d : Nat} (l : List ActI) (hl : l.length < 1000000) (S0 : Sto) (h0 : loopS (evFn F C0 G0 d) C0 G0 0 true [39, 40, 41] c22L0 ⟨[(39, asl l), (40, iv l.length), (41, iv 0)], S0⟩ = loopS (evFn F C0 G0 d) C0 G0 0 true [39, 40, 41] c22L0 ⟨[(39, asl l), (40, iv l.length), (41, iv 0)], []⟩) :
  ∃ s, loopN (loopS (evFn F C0 G0 d) C0 G0 0 true [39, 40, 41] c22L0) loopFuel ⟨[(39, asl l), (40, iv l.length), (41, iv 0)], S0⟩ = .ret (if earlyB l = true then (.exit 0, ⟨[(39, asl l), (40, iv l.length), (41, iv l.length), (42, .p (.bool false))], []⟩) else (.ret, ⟨[(6, .p (.bool false))], s⟩)) := by
 let out : Nat → Ex × St := fun i => match (l.drop i).find? (fun x => decide (300 < x.tick)) with
  | none => (.exit 0, ⟨[(39, asl l), (40, iv l.length), (41, iv l.length), (42, .p (.bool false))], []⟩)
  | some y => (.ret, ⟨[(6, .p (.bool false))], [(0, .arr (ac y) 0 1)]⟩)
 have key := loop_rec' (step := loopS (evFn F C0 G0 d) C0 G0 0 true [39, 40, 41] c22L0) (fun i => ⟨[(39, asl l), (40, iv l.length), (41, iv i)], []⟩) out l.length (st0 := ⟨[(39, asl l), (40, iv l.length), (41, iv 0)], S0⟩) h0 ?_ ?_ (fuel := loopFuel) (by simp [loopFuel]; omega)
 ·cases hf : l.find? (fun x => decide (300 < x.tick)) with
  | none =>
   have hb : earlyB l = true := by
    rw [List.find?_eq_none] at hf
    simp only [earlyB, List.all_eq_true, decide_eq_true_eq]
    intro x hx
    have := hf x hx
    simp only [decide_eq_true_eq] at this
    omega
   refine ⟨[], ?_⟩
   rw [key, if_pos hb]
   simp [out, hf]
  | some y =>
   have h1 := List.find?_some hf
   have h2 := List.mem_of_find?_eq_some hf
   have hb : earlyB l = false := by
    rw [← Bool.not_eq_true]
    intro h
    simp only [earlyB, List.all_eq_true, decide_eq_true_eq] at h
    have := h y h2
    simp only [decide_eq_true_eq] at h1
    omega
   refine ⟨[(0, .arr (ac y) 0 1)], ?_⟩
   rw [key, hb]
   simp [out, hf]
 ·intro i hi
  have hlt' : (i : Int) < l.length := by omega
  have hw := wrap_succ (i := i) (by omega)
  have hR := aR_len l
  have hdr := rowC_drop ac_len l i hi
  have i0 : i * 6 < l.length * 6 := by omega
  have i6 : i * 6 + 6 ≤ l.length * 6 := by omega
  have hd : (l.drop i).find? (fun x => decide (300 < x.tick)) = if decide (300 < l[i].tick) = true then some l[i] else (l.drop (i + 1)).find? (fun x => decide (300 < x.tick)) := by
   rw [List.drop_eq_getElem_cons hi, List.find?_cons]
   split <;> rename_i h <;> simp [h]
  simp only [asl]
  generalize hA : rowC ac l = A at *
  generalize rowC ac (l.drop (i + 1)) = R2 at *
  generalize l[i] = s at *
  obtain ⟨t, nm, m, a, b, c⟩ := s
  simp only [ac, List.cons_append, List.nil_append] at hdr hd
  by_cases h1 : 300 < t
  ·have ho : out i = (.ret, ⟨[(6, .p (.bool false))], [(0, .arr (ac ⟨t, nm, m, a, b, c⟩) 0 1)]⟩) := by
    simp only [out, hd, h1, decide_true, if_true]
   refine .inr ⟨?_, by rw [ho]; simp⟩
   rw [ho]
   simp -implicitDefEqProofs [loopS_eq, c22L0, hlt', hdr, hR, i0, h1, ac]
  ·refine .inl ⟨⟨⟨[(39, .p (.sl A l.length)), (40, iv l.length), (41, iv (i + 1 : Nat))], [(0, .arr (ac ⟨t, nm, m, a, b, c⟩) 0 1)]⟩, ?_, loopS_same rfl (by simp)⟩, ?_⟩
   ·simp -implicitDefEqProofs [loopS_eq, c22L0, hlt', hdr, hR, i0, h1, hw, ac]
   ·simp only [out, hd, h1, decide_false, Bool.false_eq_true, if_false]
 ·have : l.drop l.length = [] := List.drop_of_length_le (by omega)
  simp -implicitDefEqProofs [loopS_eq, c22L0, out, this]

def readyB (t : TowI) (h : HallI) (l : List ActI) : Bool := decide (t.pull.length ≤ 24) && (decide (towE t = 0) && ((decide (h.t0.length ≤ 9) && (decide (h.t1.length ≤ 9) && decide (h.t2.length ≤ 9))) && ((decide (firstE (l.map lnA) = 0) && (decide (l.length ≤ 24) || decide (l.length = 1001))) && (decide (l.length ≤ 24) && (decide (chkE h l = 0) && earlyB l)))))
theorem ready22 {n : Nat} (hn : 12 ≤ n) (t : TowI) (h : HallI) (l : List ActI) (hl : l.length ≤ 9223372036854775807) : RUN n 22 [twa t, ha h, asl l] = .ret (.p (.bool (readyB t h l))) := by
 obtain ⟨d, rfl⟩ : ∃ d, n = d + 1 := ⟨n - 1, by omega⟩
 rw [RUN, call_eq fe22 _ rfl]
 have k7 := short7 (n := d) (by omega) h
 have k66 := short66 (n := d) (by omega) l hl
 unfold readyB
 by_cases c1 : t.pull.length ≤ 24
 ·have c1' : ¬ (24 : Int) < t.pull.length := by omega
  have k65 := tow65 (n := d) (by omega) t (by omega)
  by_cases c2 : towE t = 0
  ·rw [c2] at k65
   cases c3 : (decide (h.t0.length ≤ 9) && (decide (h.t1.length ≤ 9) && decide (h.t2.length ≤ 9))) with
   | false =>
    rw [c3] at k7
    simp only [twa, ha, csl, asl] at *
    generalize cI h.t0 = A0 at *
    generalize cI h.t1 = A1 at *
    generalize cI h.t2 = A2 at *
    simp -implicitDefEqProofs [c22, c1, c1', c2, k65, k7]
   | true =>
    rw [c3] at k7
    cases c4 : (decide (firstE (l.map lnA) = 0) && (decide (l.length ≤ 24) || decide (l.length = 1001))) with
    | false =>
     rw [c4] at k66
     simp only [twa, ha, csl, asl] at *
     generalize cI h.t0 = A0 at *
     generalize cI h.t1 = A1 at *
     generalize cI h.t2 = A2 at *
     simp -implicitDefEqProofs [c22, c1, c1', c2, k65, k7, k66]
    | true =>
     rw [c4] at k66
     by_cases c5 : l.length ≤ 24
     ·have c5' : ¬ (24 : Int) < l.length := by omega
      simp only [Bool.and_eq_true, decide_eq_true_eq] at c3
      have k67 := check67 (n := d) (by omega) h (by omega) (by omega) (by omega) l (by omega)
      by_cases c6 : chkE h l = 0
      ·rw [c6] at k67
       have kL := fun S0 h0 => ticks_loop (d := d) l (by omega) S0 h0
       obtain ⟨s, kL⟩ := kL [(1, .box [iv h.doors, iv h.base, csl h.t0, csl h.t1, csl h.t2]), (0, .box (twl t))] (loopS_same rfl (by simp))
       simp only [twa, ha, csl, asl] at *
       generalize cI h.t0 = A0 at *
       generalize cI h.t1 = A1 at *
       generalize cI h.t2 = A2 at *
       cases c7 : earlyB l with
       | false =>
        rw [c7] at kL
        simp only [Bool.false_eq_true, if_false] at kL
        simp -implicitDefEqProofs [c22, c1, c1', c2, k65, k7, k66, c5, c5', k67, c6]
        rw [show loopN _ _ _ = _ from kL]
        simp -implicitDefEqProofs
       | true =>
        rw [c7] at kL
        simp only [if_true] at kL
        simp -implicitDefEqProofs [c22, c1, c1', c2, k65, k7, k66, c5, c5', k67, c6]
        rw [show loopN _ _ _ = _ from kL]
        simp -implicitDefEqProofs
      ·have c6' : (chkE h l != 0) = true := by simpa using c6
       simp only [twa, ha, csl, asl] at *
       generalize cI h.t0 = A0 at *
       generalize cI h.t1 = A1 at *
       generalize cI h.t2 = A2 at *
       simp -implicitDefEqProofs [c22, c1, c1', c2, k65, k7, k66, c5, c5', k67, c6, c6']
     ·have c5' : (24 : Int) < l.length := by omega
      simp only [twa, ha, csl, asl] at *
      generalize cI h.t0 = A0 at *
      generalize cI h.t1 = A1 at *
      generalize cI h.t2 = A2 at *
      simp -implicitDefEqProofs [c22, c1, c1', c2, k65, k7, k66, c5, c5']
  ·have c2' : (towE t != 0) = true := by simpa using c2
   simp only [twa, ha, csl, asl] at *
   simp -implicitDefEqProofs [c22, c1, c1', c2, k65, c2']
 ·have c1' : (24 : Int) < t.pull.length := by omega
  simp only [twa, ha, csl, asl] at *
  simp -implicitDefEqProofs [c22, c1, c1']

theorem arm_loop {d : Nat} (l : List ActI) (hl : l.length < 1000000) (h0 : ∀ y ∈ l, 0 ≤ y.tick) (la : Int) (g : List (Int × Int)) (t : TowI) (S0 : Sto) (hS : loopS (evFn F C0 G0 d) C0 G0 0 true [3, 7, 9, 11, 63, 64, 65] c4L0 ⟨[(3, .ptr 0 0 0), (7, iv la), (9, csl g), (11, iv (-1)), (63, asl l), (64, iv l.length), (65, iv 0)], S0⟩ = loopS (evFn F C0 G0 d) C0 G0 0 true [3, 7, 9, 11, 63, 64, 65] c4L0 ⟨[(3, .ptr 0 0 0), (7, iv la), (9, csl g), (11, iv (-1)), (63, asl l), (64, iv l.length), (65, iv 0)], [(0, .box (twl t))]⟩) :
  loopN (loopS (evFn F C0 G0 d) C0 G0 0 true [3, 7, 9, 11, 63, 64, 65] c4L0) loopFuel ⟨[(3, .ptr 0 0 0), (7, iv la), (9, csl g), (11, iv (-1)), (63, asl l), (64, iv l.length), (65, iv 0)], S0⟩ = .ret (.exit 0, ⟨[(3, .ptr 0 0 0), (7, iv la), (9, csl g), (11, iv (armT l)), (63, asl l), (64, iv l.length), (65, iv l.length), (66, .p (.bool false))], [(0, .box (twl t))]⟩) := by
 have key := loop_run' (step := loopS (evFn F C0 G0 d) C0 G0 0 true [3, 7, 9, 11, 63, 64, 65] c4L0) (fun i => ⟨[(3, .ptr 0 0 0), (7, iv la), (9, csl g), (11, iv (armT (l.take i))), (63, asl l), (64, iv l.length), (65, iv i)], [(0, .box (twl t))]⟩) l.length (e := .exit 0) (st' := ⟨[(3, .ptr 0 0 0), (7, iv la), (9, csl g), (11, iv (armT (l.take l.length))), (63, asl l), (64, iv l.length), (65, iv l.length), (66, .p (.bool false))], [(0, .box (twl t))]⟩) (st0 := ⟨[(3, .ptr 0 0 0), (7, iv la), (9, csl g), (11, iv (-1)), (63, asl l), (64, iv l.length), (65, iv 0)], S0⟩) (fuel := loopFuel) (by simp) hS ?_ ?_ (by simp [loopFuel]; omega)
 ·rw [List.take_of_length_le (Nat.le_refl _)] at key
  exact key
 ·intro i hi
  have hlt' : (i : Int) < l.length := by omega
  have hw := wrap_succ (i := i) (by omega)
  have hR := aR_len l
  have hdr := rowC_drop ac_len l i hi
  have i0 : i * 6 < l.length * 6 := by omega
  have i6 : i * 6 + 6 ≤ l.length * 6 := by omega
  have hs := armT_snoc l[i] (l.take i) (fun y hy => h0 y (List.mem_of_mem_take hy))
  rw [← List.take_succ_eq_append_getElem hi] at hs
  have ht0 := h0 l[i] (List.getElem_mem hi)
  have hor := armT_or (l.take i) (fun y hy => h0 y (List.mem_of_mem_take hy))
  simp only [asl, csl, hs]
  generalize armT (l.take i) = u at *
  generalize armT (l.take (i + 1)) = u' at *
  generalize hA : rowC ac l = A at *
  generalize rowC ac (l.drop (i + 1)) = R2 at *
  generalize l[i] = s at *
  obtain ⟨tk, nm, m, a, b, c⟩ := s
  simp only [ac, List.cons_append, List.nil_append] at hdr ht0 ⊢
  by_cases hk : nm = kArm
  ·have hkb : (nm == [97, 114, 109]) = true := by simpa using hk
   by_cases hu : u < 0
   ·have e : (if u < 0 then if nm = kArm then tk else -1 else u) = tk := by rw [if_pos hu, if_pos hk]
    simp only [e]
    refine ⟨?_, ?h1, ?h2⟩
    case h1 =>
     simp -implicitDefEqProofs [loopS_eq, c4L0, hlt', hdr, hR, i0, strBin, hkb, hu, hw]
     exact rfl
    case h2 => exact loopS_same rfl (by simp)
   ·have e : (if u < 0 then if nm = kArm then tk else -1 else u) = u := by rw [if_neg hu]
    simp only [e]
    refine ⟨?_, ?h1, ?h2⟩
    case h1 =>
     simp -implicitDefEqProofs [loopS_eq, c4L0, hlt', hdr, hR, i0, strBin, hkb, hu, hw]
     exact rfl
    case h2 => exact loopS_same rfl (by simp)
  ·have hkb : (nm == [97, 114, 109]) = false := by simpa using hk
   have e : (if u < 0 then if nm = kArm then tk else -1 else u) = u := by
    by_cases hu : u < 0
    ·rw [if_pos hu, if_neg hk]
     omega
    ·rw [if_neg hu]
   simp only [e]
   refine ⟨?_, ?h1, ?h2⟩
   case h1 =>
    simp -implicitDefEqProofs [loopS_eq, c4L0, hlt', hdr, hR, i0, strBin, hkb, hw]
    exact rfl
   case h2 => exact loopS_same rfl (by simp)
 ·simp -implicitDefEqProofs [loopS_eq, c4L0]
end Fw
end

section
set_option maxHeartbeats 8000000
namespace Fw
open Go

def sumF (l : List Int) : Nat → Int
 | 0 => 0
 | i + 1 => sumF l i + l.getD i 0
structure Small (l : List Int) : Prop where
 len : l.length < 1000000
 sum : ∀ i, i ≤ l.length → -9223372036854775808 ≤ sumF l i ∧ sumF l i ≤ 9223372036854775807

/-! the law's own helpers -/

end Fw
end

section
set_option maxHeartbeats 8000000
namespace Fw
open Go

/-! the reference -/

/-! sleds: the interval of gains, the lag, the delay, the load -/

structure SledI where
 low : Int
 high : Int
 lag : Int
 delay : Int
 load : Int

abbrev sla (s : SledI) : AVal := .agg [iv s.low, iv s.high, iv s.lag, iv s.delay, iv s.load]
end Fw
end

section
set_option maxHeartbeats 16000000
namespace Fw
open Go

theorem minP2 (a b : Int) : minInt a [iv b] = some (min a b) := by
 simp only [minInt]; congr 1; split <;> omega

theorem cI_scal : ∀ (l : List (Int × Int)), ∀ x ∈ cI l, scalarP x = true
 | [], x, h => by cases h
 | a :: r, x, h => by
  simp only [cI, List.mem_cons] at h
  rcases h with rfl | rfl | h
  ·rfl
  ·rfl
  ·exact cI_scal r x h

end Fw
end

section
set_option maxHeartbeats 16000000
set_option maxRecDepth 8000
namespace Fw
open Go

theorem cell_while (g : List (Int × Int)) (hg : g.length < 1000000) (la : Int) (s c : Nat) (hs : s ≤ 300) (hc : c ≤ 100) (hP : ∀ k, k < c → (k : Int) ≤ la ∧ inB g ((s : Int) + k) = true) (hN : ¬ ((c : Int) ≤ la ∧ inB g ((s : Int) + c) = true)) (S : Sto) :
  loopN (loopS (evFn F C0 G0 60) C0 G0 0 false [3, 7, 9, 11, 14] c4L1) loopFuel ⟨[(3, .ptr 0 0 0), (7, iv la), (9, csl g), (11, iv s), (14, iv 0)], S⟩ = .ret (.exit 2, ⟨[(3, .ptr 0 0 0), (7, iv la), (9, csl g), (11, iv s), (14, iv c), (96, .p (.bool false))], S⟩) := by
 refine loop_run' (fun i => ⟨[(3, .ptr 0 0 0), (7, iv la), (9, csl g), (11, iv s), (14, iv i)], S⟩) c (by simp) rfl ?_ ?_ (by simp [loopFuel]; omega)
 ·intro i hi
  obtain ⟨h1, h2⟩ := hP i hi
  have k28 := in28 (n := 60) (by omega) g ((s : Int) + i) hg
  rw [h2] at k28
  have q1 := wrap64 (n := (s : Int) + i) (by omega) (by omega)
  have hw := wrap_succ (i := i) (by omega)
  refine ⟨?_, ?h1, ?h2⟩
  case h1 =>
   simp -implicitDefEqProofs [loopS_eq, c4L1, h1, q1, k28, hw]
   exact rfl
  case h2 => simp
 ·by_cases h1 : (c : Int) ≤ la
  ·have h2 : inB g ((s : Int) + c) = false := by
    cases hb : inB g ((s : Int) + c) with
    | false => rfl
    | true => exact absurd ⟨h1, hb⟩ hN
   have k28 := in28 (n := 60) (by omega) g ((s : Int) + c) hg
   rw [h2] at k28
   have q1 := wrap64 (n := (s : Int) + c) (by omega) (by omega)
   simp -implicitDefEqProofs [loopS_eq, c4L1, h1, q1, k28]
  ·simp -implicitDefEqProofs [loopS_eq, c4L1, h1]

theorem trace_loop (t : TowI) (g : List (Int × Int)) (s c : Nat) (f : Int) (b : Nat) (hs : s + b ≤ 1000) (F1 F2 : AVal) (i j : Nat) :
  loopN (loopS (evFn F C0 G0 60) C0 G0 0 false [3, 9, 11, 14, 16, 19, 21, 109, 110, 119, 120, 148, 149] c4L2) loopFuel ⟨[(3, .ptr 0 0 0), (9, csl g), (11, iv s), (14, iv c), (16, iv f), (19, iv b), (21, .sl 1 0 0 0), (109, F1), (110, iv i), (119, F2), (120, iv j), (148, iv ((s : Int) + b + 3)), (149, iv 0)], [(1, .arr [] 0 1), (0, .box (twl t))]⟩ =
   .ret (.exit 8, ⟨[(3, .ptr 0 0 0), (9, csl g), (11, iv s), (14, iv c), (16, iv f), (19, iv b), (21, .sl 1 (s + b + 3) 0 (s + b + 3)), (109, F1), (110, iv i), (119, F2), (120, iv j), (148, iv ((s : Int) + b + 3)), (149, iv ((s : Int) + b + 3)), (150, .p (.bool false))], [(1, .arr (pI (trL s b)) (s + b + 3) 1), (0, .box (twl t))]⟩) := by
 have key := loop_run' (step := loopS (evFn F C0 G0 60) C0 G0 0 false [3, 9, 11, 14, 16, 19, 21, 109, 110, 119, 120, 148, 149] c4L2) (fun k => ⟨[(3, .ptr 0 0 0), (9, csl g), (11, iv s), (14, iv c), (16, iv f), (19, iv b), (21, .sl 1 k 0 k), (109, F1), (110, iv i), (119, F2), (120, iv j), (148, iv ((s : Int) + b + 3)), (149, iv k)], [(1, .arr (pI ((trL s b).take k)) k 1), (0, .box (twl t))]⟩) (s + b + 3) (e := .exit 8)
  (st' := ⟨[(3, .ptr 0 0 0), (9, csl g), (11, iv s), (14, iv c), (16, iv f), (19, iv b), (21, .sl 1 (s + b + 3) 0 (s + b + 3)), (109, F1), (110, iv i), (119, F2), (120, iv j), (148, iv ((s : Int) + b + 3)), (149, iv ((s : Int) + b + 3)), (150, .p (.bool false))], [(1, .arr (pI ((trL s b).take (s + b + 3))) (s + b + 3) 1), (0, .box (twl t))]⟩) (st0 := ⟨[(3, .ptr 0 0 0), (9, csl g), (11, iv s), (14, iv c), (16, iv f), (19, iv b), (21, .sl 1 0 0 0), (109, F1), (110, iv i), (119, F2), (120, iv j), (148, iv ((s : Int) + b + 3)), (149, iv 0)], [(1, .arr [] 0 1), (0, .box (twl t))]⟩) (fuel := loopFuel) (by simp) rfl ?_ ?_ (by simp [loopFuel]; omega)
 ·rw [List.take_of_length_le (by rw [trL_length]; omega)] at key
  exact key
 ·intro k hk
  have hlt : (k : Int) < (s : Int) + b + 3 := by omega
  have hw := wrap_succ (i := k) (by omega)
  have hlim : k + 1 ≤ lim := by simp only [lim]; omega
  have hUl : (pI ((trL s b).take k)).length = k := by simp [pI, trL_length]; omega
  have hg := trL_getD s b hk
  have hb : k < (trL s b).length := by rw [trL_length]; exact hk
  have e : (trL s b)[k] = max 0 (min ((k : Int) - s) b) := by
   rw [← hg, List.getD_eq_getElem?_getD, List.getElem?_eq_getElem hb]
   rfl
  have ht : pI ((trL s b).take (k + 1)) = pI ((trL s b).take k) ++ [.int .i64 (max 0 (min ((k : Int) - s) b))] := by
   rw [List.take_succ_eq_append_getElem hb, e]
   simp [pI]
  have q1 := wrap64 (n := (k : Int) - s) (by omega) (by omega)
  have mn := minP2 ((k : Int) - s) b
  have mx : maxInt 0 [iv (min ((k : Int) - s) b)] = some (max 0 (min ((k : Int) - s) b)) := by simp only [maxInt]; congr 1; omega
  generalize pI ((trL s b).take k) = U at *
  generalize pI ((trL s b).take (k + 1)) = V at *
  refine ⟨?_, ?h1, ?h2⟩
  case h1 =>
   simp -implicitDefEqProofs [loopS_eq, c4L2, hlt, hw, hlim, hUl, q1, mn, mx]
   exact rfl
  case h2 => simp [ht]
 ·simp -implicitDefEqProofs [loopS_eq, c4L2]

theorem moved_loop (g : List (Int × Int)) (s c : Nat) (f : Int) (b : Nat) (hs : s + b ≤ 1000) (hc : c ≤ 1000) (L : List Int) (hL : L.length < 100000) (hin : ∀ v ∈ L, (s : Int) + c ≤ v ∧ v ≤ s + b) (F1 F2 : AVal) (i j : Nat) (S : Sto) :
  loopN (loopS (evFn F C0 G0 60) C0 G0 0 false [3, 9, 11, 14, 16, 19, 23, 109, 110, 119, 120, 181, 182, 183] c4L3) loopFuel ⟨[(3, .ptr 0 0 0), (9, csl g), (11, iv s), (14, iv c), (16, iv f), (19, iv b), (23, isl L), (109, F1), (110, iv i), (119, F2), (120, iv j), (181, isl L), (182, iv L.length), (183, iv 0)], S⟩ =
   .ret (.exit 10, ⟨[(3, .ptr 0 0 0), (9, csl g), (11, iv s), (14, iv c), (16, iv f), (19, iv b), (23, isl L), (109, F1), (110, iv i), (119, F2), (120, iv j), (181, isl L), (182, iv L.length), (183, iv L.length), (184, .p (.bool false))], S⟩) := by
 refine loop_run' (fun k => ⟨[(3, .ptr 0 0 0), (9, csl g), (11, iv s), (14, iv c), (16, iv f), (19, iv b), (23, isl L), (109, F1), (110, iv i), (119, F2), (120, iv j), (181, isl L), (182, iv L.length), (183, iv k)], S⟩) L.length (by simp) rfl ?_ (by simp -implicitDefEqProofs [loopS_eq, c4L3]) (by simp [loopFuel]; omega)
 intro k hk
 have hlt : (k : Int) < (L.length : Int) := by omega
 have hw := wrap_succ (i := k) (by omega)
 have hv := hin L[k] (List.getElem_mem hk)
 have hPg : ∀ q, (pI L)[k]'q = .int .i64 L[k] := fun q => by simp [pI]
 have hPl : (pI L).length = L.length := by simp [pI]
 have q1 := wrap64 (n := (s : Int) + c) (by omega) (by omega)
 have q2 := wrap64 (n := (s : Int) + b) (by omega) (by omega)
 simp only [isl]
 generalize pI L = P at *
 generalize L[k] = v at *
 have n1 : ¬ v < (s : Int) + c := by omega
 have n2 : ¬ (s : Int) + b < v := by omega
 refine ⟨?_, ?h1, ?h2⟩
 case h1 =>
  simp -implicitDefEqProofs [loopS_eq, c4L3, hlt, hk, hw, hPg, hPl, q1, q2, n1, n2]
  exact rfl
 case h2 => simp
end Fw
end

section
set_option maxHeartbeats 4000000
namespace Fw
open Go

theorem runF_nonneg (t : TowI) (f : Int) : ∀ i, 0 ≤ runFB t f i
 | 0 => by simp [runFB]
 | i + 1 => by simp only [runFB]; omega
theorem runF_anti (t : TowI) {f g : Int} (h : f ≤ g) : ∀ i, runFB t g i ≤ runFB t f i
 | 0 => by simp [runFB]
 | i + 1 => by
  have := runF_anti t h i
  simp only [runFB]; omega
theorem up_le {x den k : Int} (hd : 0 < den) : upI x den ≤ k ↔ x ≤ k * den := by
 unfold upI
 constructor
 ·intro h
  have h1 : -k ≤ (-x) / den := by omega
  have h2 := (Int.le_ediv_iff_mul_le hd).1 h1
  rw [Int.neg_mul] at h2; omega
 ·intro h
  have h2 : -k * den ≤ -x := by rw [Int.neg_mul]; omega
  have h1 := (Int.le_ediv_iff_mul_le hd).2 h2
  omega

theorem safe_iff {t : TowI} (h : TowOk t) {c : Nat} (hc : (c : Int) ≤ t.wall) : safeBB t c = true ↔ runFB t t.fl c ≤ (t.wall - c) * (t.bl + t.fl) := by
 have hfr := h.fr
 have hbr := h.br
 have hr := runF_nonneg t t.fl c
 have hprod : 0 ≤ (t.wall - c) * (t.bl + t.fl) := Int.mul_nonneg (by omega) (by omega)
 unfold safeBB brA
 by_cases c1 : runFB t t.fl c = 0
 ·rw [if_pos c1]
  simp only [Bool.and_eq_true, decide_eq_true_eq]
  constructor
  ·intro _; omega
  ·intro _; exact ⟨trivial, hc⟩
 ·rw [if_neg c1]
  by_cases c2 : t.fl + t.bl = 0
  ·rw [if_pos c2]
   have : t.bl + t.fl = 0 := by omega
   rw [this]
   simp only [Bool.and_eq_true, decide_eq_true_eq, Int.mul_zero]
   constructor
   ·intro h; exact absurd h.1 (by decide)
   ·intro h; omega
  ·rw [if_neg c2]
   have hd : 0 < t.fl + t.bl := by omega
   have hu := up_le (x := runFB t t.fl c) (k := t.wall - c) hd
   rw [Int.add_comm t.bl t.fl]
   simp only [Bool.and_eq_true, decide_eq_true_eq]
   constructor
   ·intro h; exact hu.1 (by omega)
   ·intro h; have := hu.2 h; exact ⟨trivial, by omega⟩

theorem lead_pre {e : Nat → Int} : ∀ n q, q < lead e n → e q = 0 := by
 intro n
 induction n with
 | zero => intro q h; simp [lead] at h
 | succ n ih =>
  intro q h
  simp only [lead] at h
  split at h
  ·rename_i hc
   by_cases hq : q = n
   ·subst hq; exact hc.2
   ·exact ih q (by omega)
  ·exact ih q h
theorem lead_stop {e : Nat → Int} : ∀ n, lead e n < n → e (lead e n) ≠ 0 := by
 intro n
 induction n with
 | zero => intro h; omega
 | succ n ih =>
  intro h
  simp only [lead] at h ⊢
  split at h
  ·omega
  ·rename_i hc
   rw [if_neg hc]
   by_cases hl : lead e n < n
   ·exact ih hl
   ·have h2 := lead_le e n
    have h3 : lead e n = n := by omega
    rw [h3]
    exact fun h4 => hc ⟨h3, h4⟩

theorem last_in {t : TowI} (h : TowOk t) : 0 ≤ lastI t ∧ lastI t ≤ t.wall := by
 have hw := h.wl
 have h1 := lead_le (unE t) (t.wall.toNat + 1)
 have h0 : lead (unE t) (t.wall.toNat + 1) ≠ 0 := fun hz => by
  have := lead_stop (e := unE t) (t.wall.toNat + 1) (by omega)
  rw [hz] at this
  exact this (safe_zero h)
 unfold lastI
 omega
theorem last_safe {t : TowI} {c : Nat} (hc : (c : Int) ≤ lastI t) : safeBB t c = true := by
 unfold lastI at hc
 have h := lead_pre (e := unE t) (t.wall.toNat + 1) c (by omega)
 unfold unE at h
 split at h
 ·assumption
 ·exact absurd h (by decide)
theorem stop_safe {t : TowI} (h : TowOk t) {c : Nat} (hc : (c : Int) ≤ t.wall) {f b : Int} (hf : t.fl ≤ f) (hb : t.bl ≤ b) (hs : safeBB t c = true) : (brA t c f b).2 = 0 ∧ (brA t c f b).1 ≤ t.wall := by
 have hfr := h.fr
 have hbr := h.br
 have hr := runF_nonneg t f c
 have ha := runF_anti t hf c
 have h1 := (safe_iff h hc).1 hs
 unfold brA
 by_cases c1 : runFB t f c = 0
 ·rw [if_pos c1]; exact ⟨rfl, hc⟩
 ·rw [if_neg c1]
  by_cases c2 : f + b = 0
  ·have : t.bl + t.fl = 0 := by omega
   rw [this, Int.mul_zero] at h1
   omega
  ·rw [if_neg c2]
   refine ⟨rfl, ?_⟩
   have hd : 0 < f + b := by omega
   have hm : (t.wall - c) * (t.bl + t.fl) ≤ (t.wall - c) * (f + b) := Int.mul_le_mul_of_nonneg_left (by omega) (by omega)
   have := (up_le (x := runFB t f c) (k := t.wall - c) hd).2 (by omega)
   show (c : Int) + upI (runFB t f c) (f + b) ≤ t.wall
   omega
end Fw
end

section
set_option maxHeartbeats 16000000
set_option maxRecDepth 8000
namespace Fw
open Go

theorem brake_at {t : TowI} (ht : TowOk t) {c : Nat} (hc : (c : Int) ≤ lastI t) {f b : Int} (hf : f = t.fl ∨ f = t.fh) (hb : b = t.bl ∨ b = t.bh) :
  towE t = 0 → ∃ s : Nat, RUN 60 29 [twa t, iv c, iv f, iv b] = .ret (.tup [iv s, iv 0]) ∧ c ≤ s ∧ (s : Int) ≤ t.wall := by
 intro hz
 have hl := last_in ht
 have hfr := ht.fr
 have hbr := ht.br
 have hfew := ht.few
 have hs := last_safe (t := t) hc
 obtain ⟨h1, h2⟩ := stop_safe ht (c := c) (by omega) (f := f) (b := b) (by rcases hf with rfl | rfl <;> omega) (by rcases hb with rfl | rfl <;> omega) hs
 have k := brake29 (n := 60) (by omega) t (by omega) c f b
 have hE : brE t c f b = 0 := firstE_zero.2 fun e he => by
  simp only [List.mem_cons, List.not_mem_nil, or_false] at he
  rcases he with rfl | rfl | rfl
  ·exact cellE_zero.2 (by omega)
  ·exact rangeE_zero.2 (by rcases hf with rfl | rfl <;> omega)
  ·exact rangeE_zero.2 (by rcases hb with rfl | rfl <;> omega)
 rw [if_pos hz, if_pos hE, Int.toNat_natCast, h1] at k
 have h3 : (c : Int) ≤ (brA t c f b).1 := by
  unfold brA at h1 ⊢
  by_cases q : runFB t f c = 0
  ·rw [if_pos q]
   exact Int.le_refl _
  ·rw [if_neg q] at h1 ⊢
   by_cases q2 : f + b = 0
   ·rw [if_pos q2] at h1
    cases h1
   ·rw [if_neg q2]
    have h0 := runF_nonneg t f c
    have hp : 0 < f + b := by
     have : 0 ≤ f := by rcases hf with rfl | rfl <;> omega
     have : 0 ≤ b := by rcases hb with rfl | rfl <;> omega
     omega
    have hu : 0 ≤ upI (runFB t f c) (f + b) := by
     rcases Int.lt_or_le (upI (runFB t f c) (f + b)) 0 with hneg | hpos
     ·have h5 := (up_le (x := runFB t f c) (den := f + b) (k := -1) hp).1 (by omega)
      omega
     ·exact hpos
    simp only
    omega
 exact ⟨(brA t c f b).1.toNat, by rw [Int.toNat_of_nonneg (by omega)]; exact k, by omega, by omega⟩

def V1 (g : List (Int × Int)) (s c : Nat) (f : Int) (F1 F2 : AVal) (i j : Nat) : Env := [(3, .ptr 0 0 0), (9, csl g), (11, iv s), (14, iv c), (16, iv f), (109, F1), (110, iv i), (119, F2), (120, iv j)]
theorem brake_round {t : TowI} (ht : TowOk t) (hz : towE t = 0) (hw24 : t.wall ≤ 24) {g : List (Int × Int)} (hgl : g.length ≤ 32) (hg : spnE g = 0) {s c : Nat} (hs : s ≤ 300) (hc : (c : Int) ≤ lastI t) (hin : ∀ k, k < c → inB g ((s : Int) + k) = true) (hout : inB g ((s : Int) + c) = false) {f : Int} (hf : f = t.fl ∨ f = t.fh) (i j : Nat) (hj : j < 2) :
  ∃ st1, loopS (evFn F C0 G0 60) C0 G0 0 true [3, 9, 11, 14, 16, 109, 110, 119, 120] c4L4 ⟨V1 g s c f (.agg [iv t.fl, iv t.fh]) (.agg [iv t.bl, iv t.bh]) i j, [(0, .box (twl t))]⟩ = .ret (.normal, st1) ∧ loopS (evFn F C0 G0 60) C0 G0 0 true [3, 9, 11, 14, 16, 109, 110, 119, 120] c4L4 st1 = loopS (evFn F C0 G0 60) C0 G0 0 true [3, 9, 11, 14, 16, 109, 110, 119, 120] c4L4 ⟨V1 g s c f (.agg [iv t.fl, iv t.fh]) (.agg [iv t.bl, iv t.bh]) i (j + 1), [(0, .box (twl t))]⟩ := by
 have hl := last_in ht
 have hfew := ht.few
 have key : ∀ b : Int, b = t.bl ∨ b = t.bh → (∀ q, ([iv t.bl, iv t.bh] : List AVal)[j]'q = iv b) → ∃ st1, loopS (evFn F C0 G0 60) C0 G0 0 true [3, 9, 11, 14, 16, 109, 110, 119, 120] c4L4 ⟨V1 g s c f (.agg [iv t.fl, iv t.fh]) (.agg [iv t.bl, iv t.bh]) i j, [(0, .box (twl t))]⟩ = .ret (.normal, st1) ∧ loopS (evFn F C0 G0 60) C0 G0 0 true [3, 9, 11, 14, 16, 109, 110, 119, 120] c4L4 st1 = loopS (evFn F C0 G0 60) C0 G0 0 true [3, 9, 11, 14, 16, 109, 110, 119, 120] c4L4 ⟨V1 g s c f (.agg [iv t.fl, iv t.fh]) (.agg [iv t.bl, iv t.bh]) i (j + 1), [(0, .box (twl t))]⟩ := by
  intro b hb hgq
  have hlt' : (j : Int) < 2 := by omega
  have hw := wrap_succ (i := j) (by omega)
  have k25 := tow25 (n := 60) (by omega) t (by omega)
  obtain ⟨p, k29, hp1, hp2⟩ := brake_at ht hc hf hb hz
  have kT := trace_loop t g s c f p (by omega) (.agg [iv t.fl, iv t.fh]) (.agg [iv t.bl, iv t.bh]) i j
  obtain ⟨m1, m2, m3⟩ := moved_facts (g := g) (s := s) (cell := c) (b := p) (by omega) hin hout
  obtain ⟨a, k30, hd⟩ := moved30 (n := 60) (by omega) (trL s p) (by rw [trL_length]; omega) g (by omega)
  have hE : movE (trL s p) g = 0 := firstE_zero.2 fun e he => by
   simp only [List.mem_cons, List.not_mem_nil, or_false] at he
   rcases he with rfl | rfl
   ·exact tra_of s p (by omega) (by omega)
   ·exact hg
  have hO : movO (trL s p) g = mvF (trL s p) g (s + p + 2) := by
   unfold movO
   rw [if_pos hE, trL_length]
   rfl
  rw [hE] at k30
  rw [hO] at hd
  have hLl : (mvF (trL s p) g (s + p + 2)).length < 100000 := by omega
  have kM := fun S => moved_loop g s c f p (by omega) (by omega) (mvF (trL s p) g (s + p + 2)) hLl m1 (.agg [iv t.fl, iv t.fh]) (.agg [iv t.bl, iv t.bh]) i j S
  have hsc : (pI (trL s p)).all scalarP = true := by simp [pI]
  have htl : (pI (trL s p)).length = s + p + 3 := by simp [pI, trL_length]
  have hgs : (cI g).all scalarP = true := by
   rw [List.all_eq_true]
   exact cI_scal g
  have hgc : (cI g).length = g.length * 2 := cI_len2 g
  have hlim : g.length ≤ lim := by simp only [lim]; omega
  have q1 := wrap64 (n := (s : Int) + p) (by omega) (by omega)
  have q2 := wrap64 (n := (s : Int) + p + 3) (by omega) (by omega)
  have q3 := wrap64 (n := (p : Int) - c) (by omega) (by omega)
  have q4 := wrap64 (n := (p : Int) - c + 1) (by omega) (by omega)
  have q5 := wrap64 (n := (s : Int) + c) (by omega) (by omega)
  have n1 : ¬ (p : Int) < c := by omega
  have n2 : ¬ t.wall < (p : Int) := by omega
  have n3 : ¬ (p : Int) - c + 1 < ((mvF (trL s p) g (s + p + 2)).length : Int) := by omega
  have hgn : g.length = 0 → g = [] := List.eq_nil_of_length_eq_zero
  have hm0 : 0 < c → ∃ r, pI (mvF (trL s p) g (s + p + 2)) = .int .i64 ((s : Int) + c) :: r ∧ ¬ ((mvF (trL s p) g (s + p + 2)).length : Int) = 0 := fun h0 => by
   obtain ⟨g1, g2⟩ := m3 h0
   cases hM : mvF (trL s p) g (s + p + 2) with
   | nil => rw [hM] at g1; simp at g1
   | cons v r =>
    rw [hM] at g2
    have : v = (s : Int) + c := g2
    exact ⟨pI r, by rw [this]; rfl, by simp; omega⟩
  simp only [isl, trL_length] at k30
  simp only [V1, isl, csl, twa, twl] at *
  generalize mvF (trL s p) g (s + p + 2) = L at *
  generalize pI (trL s p) = TR at *
  generalize hPL : pI L = PL at *
  have hPl : PL.length = L.length := by rw [← hPL]; simp [pI]
  have e3 : ((s + p + 3 : Nat) : Int) = (s : Int) + p + 3 := by omega
  by_cases hg0 : g.length = 0
  ·have hgE := hgn hg0
   rw [hgE, show (cI ([] : List (Int × Int))) = [] from rfl, List.length_nil] at k30
   rw [hgE, List.length_nil] at kM
   by_cases h0 : 0 < c
   ·obtain ⟨r, hr, hne⟩ := hm0 h0
    have h0i : (0 : Int) < c := by omega
    have hlp : 0 < L.length := by omega
    have hneb : ((L.length : Int) == 0) = false := by simpa using hne
    have hw' := hw
    refine ⟨?_, ?h1, ?h2⟩
    case h1 =>
     simp -implicitDefEqProofs [loopS_eq, c4L4, hlt', hj, hgq, k25, k29, n1, n2, q1, q2]
     rw [kT]
     simp -implicitDefEqProofs [htl, hgE, k30, n3, q3, q4, hd]
     rw [kM]
     simp -implicitDefEqProofs [h0, hr, hneb, hlp, q5, hw]
     exact rfl
    case h2 => rw [hgE]; exact loopS_same rfl (by simp)
   ·have h0i : ¬ (0 : Int) < c := by omega
    have hw' := hw
    refine ⟨?_, ?h1, ?h2⟩
    case h1 =>
     simp -implicitDefEqProofs [loopS_eq, c4L4, hlt', hj, hgq, k25, k29, n1, n2, q1, q2]
     rw [kT]
     simp -implicitDefEqProofs [htl, hgE, k30, n3, q3, q4, hd]
     rw [kM]
     simp -implicitDefEqProofs [h0, hw]
     exact rfl
    case h2 => rw [hgE]; exact loopS_same rfl (by simp)
  ·by_cases h0 : 0 < c
   ·obtain ⟨r, hr, hne⟩ := hm0 h0
    have h0i : (0 : Int) < c := by omega
    have hlp : 0 < L.length := by omega
    have hneb : ((L.length : Int) == 0) = false := by simpa using hne
    have hw' := hw
    refine ⟨?_, ?h1, ?h2⟩
    case h1 =>
     simp -implicitDefEqProofs [loopS_eq, c4L4, hlt', hj, hgq, k25, k29, n1, n2, q1, q2]
     rw [kT]
     simp -implicitDefEqProofs [htl, hg0, hgc, hlim, k30, n3, q3, q4, hd]
     rw [kM]
     simp -implicitDefEqProofs [h0, hr, hneb, hlp, q5, hw]
     exact rfl
    case h2 => exact loopS_same rfl (by simp [])
   ·have h0i : ¬ (0 : Int) < c := by omega
    have hw' := hw
    refine ⟨?_, ?h1, ?h2⟩
    case h1 =>
     simp -implicitDefEqProofs [loopS_eq, c4L4, hlt', hj, hgq, k25, k29, n1, n2, q1, q2]
     rw [kT]
     simp -implicitDefEqProofs [htl, hg0, hgc, hlim, k30, n3, q3, q4, hd]
     rw [kM]
     simp -implicitDefEqProofs [h0, hw]
     exact rfl
    case h2 => exact loopS_same rfl (by simp [])
 have hcase : j = 0 ∨ j = 1 := by omega
 rcases hcase with rfl | rfl
 ·exact key t.bl (.inl rfl) (fun _ => rfl)
 ·exact key t.bh (.inr rfl) (fun _ => rfl)
end Fw
end

