/- Several texts in one: steps of the proof, no condition of their own. -/
import Derived.Test.YtfkacogfieiccaaGreatDoorBaL2
import Derived.Test.YtfkacogfieiccaaGreatDoorBaA
import Derived.Test.YtfkacogfieiccaaGreatDoorFwC
attribute [local irreducible] Fw.evCode Fw.evOps Fw.evOpsD Fw.evOper Fw.evOperD Fw.evOp Fw.evFn Fw.loopN Fw.T.All Fw.T.bind Fw.callPure Fw.callOp Fw.opsK Fw.opsDK Fw.restK Fw.seqK Fw.blockK Fw.loopS Fw.setK Fw.setQ Fw.giveK Fw.scalK Fw.gcK Fw.finish Fw.finS Fw.rfunK Fw.yldK Fw.yldB Fw.loopK
section
set_option maxHeartbeats 8000000
namespace Fw
open Go

/-! what is reached -/
def reL (t : TowI) : List (Int × Int) := (List.range (t.pull.length + 1)).map fun i => (runF t t.fh i, runF t t.fl i)
@[simp] theorem reL_length (t : TowI) : (reL t).length = t.pull.length + 1 := by simp [reL]
/-! stops -/
def upI (x den : Int) : Int := -((-x) / den)
theorem up_eq {x den : Int} (hd : 0 < den) : (x + den - 1) / den = upI x den := by
 unfold upI
 have h1 := Int.mul_ediv_add_emod (-x) den
 have h2 := Int.emod_nonneg (-x) (show den ≠ 0 by omega)
 have h3 := Int.emod_lt_of_pos (-x) hd
 generalize (-x) / den = q at *
 generalize (-x) % den = r at *
 have e : x + den - 1 = (den - 1 - r) + den * (0 - q) - 0 := by
  have : den * (0 - q) = -(den * q) := by rw [Int.mul_sub]; omega
  omega
 have h4 : (x + den - 1) / den = ((den - 1 - r) + den * (0 - q)) / den := by rw [e]; simp
 rw [h4, Int.add_mul_ediv_left _ _ (by omega), Int.ediv_eq_zero_of_lt (by omega) (by omega)]
 omega
theorem upI_in {x den B : Int} (hd : 0 < den) (hx : 0 ≤ x) (hB : x ≤ B) : 0 ≤ upI x den ∧ upI x den ≤ B := by
 rw [← up_eq hd]
 constructor
 ·exact Int.ediv_nonneg (by omega) (by omega)
 ·have h1 : (x + den - 1) / den ≤ x := by
   rcases Int.lt_or_le 0 x with h | h
   ·have : (x + den - 1) / den < x + 1 := by
     apply Int.ediv_lt_of_lt_mul hd
     have h2 : x * 1 ≤ x * den := Int.mul_le_mul_of_nonneg_left (by omega) hx
     have h3 : (x + 1) * den = x * den + den := by rw [Int.add_mul, Int.one_mul]
     omega
    omega
   ·have : x = 0 := by omega
    subst this
    rw [Int.ediv_eq_zero_of_lt (by omega) (by omega)]
    omega
  omega

theorem up153 {n : Nat} (hn : 1 ≤ n) (x den : Int) (hd : 0 < den) (h1 : 0 ≤ x) (h2 : x ≤ 1000000000000) (h3 : den ≤ 1000000000000) : RUN n 153 [iv x, iv den] = .ret (iv (upI x den)) := by
 obtain ⟨d, rfl⟩ : ∃ d, n = d + 1 := ⟨n - 1, by omega⟩
 rw [RUN, call_eq fe153 _ rfl]
 have w1 := wrap64 (n := x + den) (by omega) (by omega)
 have w2 := wrap64 (n := x + den - 1) (by omega) (by omega)
 have hq := upI_in hd h1 h2
 have ht : (x + den - 1).tdiv den = upI x den := by rw [Int.tdiv_eq_ediv_of_nonneg (by omega)]; exact up_eq hd
 have w3 := wrap64 (n := upI x den) (by omega) (by omega)
 have hz : ¬ den = 0 := by omega
 have hm1 : ¬ den = -1 := by omega
 simp -implicitDefEqProofs [c153, w1, w2, ht, w3, hz]

def brA (t : TowI) (c : Nat) (f b : Int) : Int × Int := if runF t f c = 0 then (c, 0) else if f + b = 0 then (0, 7) else (c + upI (runF t f c) (f + b), 0)

theorem stop118 {n : Nat} (hn : 2 ≤ n) (c : Nat) (s f : Int) (hc : c ≤ 1000) (hs : 0 ≤ s ∧ s ≤ 100000000) (hf : 0 ≤ f ∧ f ≤ 200000) : RUN n 118 [iv c, iv s, iv f] = .ret (if s = 0 then .tup [iv c, .p (.bool true)] else if f = 0 then .tup [iv 0, .p (.bool false)] else .tup [iv (c + upI s f), .p (.bool true)]) := by
 obtain ⟨d, rfl⟩ : ∃ d, n = d + 2 := ⟨n - 2, by omega⟩
 rw [RUN, call_eq fe118 _ rfl]
 by_cases c1 : s = 0
 ·subst c1
  simp -implicitDefEqProofs [c118]
 ·have c1' : ¬ s ≤ 0 := by omega
  by_cases c2 : f = 0
  ·subst c2
   simp -implicitDefEqProofs [c118, c1, c1']
  ·have hb : (f == 0) = false := by simpa using c2
   have h1 := up153 (n := d + 1) (by omega) s f (by omega) hs.1 (by omega) (by omega)
   have hq := upI_in (x := s) (den := f) (B := 100000000) (by omega) hs.1 hs.2
   have w := wrap64 (n := (c : Int) + upI s f) (by omega) (by omega)
   simp -implicitDefEqProofs [c118, c1, c1', c2, hb, h1, w]

theorem runL_get (t : TowI) (f : Int) {c : Nat} (_ : c < t.pull.length + 1) (q : c < (runL t f).length) : (runL t f)[c]'q = runF t f c := by simp [runL]
theorem wrap_zero : IntKind.i64.wrap 0 = 0 := by decide

def safeB (t : TowI) (c : Nat) : Bool := decide ((brA t c t.fl t.bl).2 = 0) && decide ((brA t c t.fl t.bl).1 ≤ t.wall)

theorem safe119 {n : Nat} (hn : 3 ≤ n) {t : TowI} (h : TowOk t) {c : Nat} (hc : (c : Int) ≤ t.wall) : RUN n 119 [twa t, iv c] = .ret (.p (.bool (safeB t c))) := by
 obtain ⟨d, rfl⟩ : ∃ d, n = d + 3 := ⟨n - 3, by omega⟩
 rw [RUN, call_eq fe119 _ rfl]
 have hw := h.wl
 have hfew := h.few
 have hfr := h.fr
 have hbr := h.br
 have h1 := run116 (n := d + 2) (by omega) h (f := t.fl) (by omega)
 have hcl : c < t.pull.length + 1 := by omega
 have hci : (c : Int) < (t.pull.length : Int) + 1 := by omega
 have g := runL_get t t.fl hcl
 have hr := runF_in h hfr.1 c (by omega)
 have w := wrap64 (n := t.fl + t.bl) (by omega) (by omega)
 have h2 := stop118 (n := d + 2) (by omega) c (runF t t.fl c) (t.fl + t.bl) (by omega) (by omega) (by omega)
 have hB : safeB t c = (decide ((if runF t t.fl c = 0 then ((c : Int), (0 : Int)) else if t.fl + t.bl = 0 then (0, 7) else (c + upI (runF t t.fl c) (t.fl + t.bl), 0)).2 = 0) && decide ((if runF t t.fl c = 0 then ((c : Int), (0 : Int)) else if t.fl + t.bl = 0 then (0, 7) else (c + upI (runF t t.fl c) (t.fl + t.bl), 0)).1 ≤ t.wall)) := rfl
 rw [hB]
 generalize runF t t.fl c = s at *
 by_cases c1 : s = 0
 ·subst c1
  simp -implicitDefEqProofs at h2
  simp -implicitDefEqProofs [c119, h1, hcl, hci, g, w, h2]
 ·rw [if_neg c1] at h2
  by_cases c2 : t.fl + t.bl = 0
  ·rw [if_pos c2, c2] at h2
   simp -implicitDefEqProofs [c119, h1, hcl, hci, g, c2, h2, c1, wrap_zero]
  ·rw [if_neg c2] at h2
   simp -implicitDefEqProofs [c119, h1, hcl, hci, g, w, c2, h2, c1]

end Fw
end

section
set_option maxHeartbeats 8000000
namespace Fw
open Go

def lead (e : Nat → Int) : Nat → Nat
 | 0 => 0
 | n + 1 => if lead e n = n ∧ e n = 0 then n + 1 else lead e n
theorem lead_le (e : Nat → Int) : ∀ n, lead e n ≤ n := by
 intro n
 induction n with
 | zero => exact Nat.le_refl _
 | succ n ih => simp only [lead]; split <;> omega
theorem lead_all {e : Nat → Int} : ∀ n, (∀ q, q < n → e q = 0) → lead e n = n := by
 intro n
 induction n with
 | zero => intro _; rfl
 | succ n ih =>
  intro h
  simp only [lead]
  rw [if_pos ⟨ih (fun q hq => h q (by omega)), h n (by omega)⟩]
theorem lead_at {e : Nat → Int} {j : Nat} (hj : e j ≠ 0) (hq : ∀ q, q < j → e q = 0) : ∀ n, j < n → lead e n = j := by
 intro n
 induction n with
 | zero => intro h; omega
 | succ n ih =>
  intro h
  simp only [lead]
  by_cases hn : j = n
  ·subst hn
   rw [if_neg (fun h => hj h.2)]
   exact lead_all _ hq
  ·have := ih (by omega)
   rw [this, if_neg (by omega)]

def unE (t : TowI) (i : Nat) : Int := if safeB t i = true then 0 else 1
def lastI (t : TowI) : Int := (lead (unE t) (t.wall.toNat + 1) : Int) - 1

theorem all_zero {e : Nat → Int} {n : Nat} (h : firstE ((List.range n).map e) = 0) : ∀ q, q < n → e q = 0 := fun q hq =>
 firstE_zero.1 h (e q) (List.mem_map.2 ⟨q, by simpa using hq, rfl⟩)

theorem safe_zero {t : TowI} (h : TowOk t) : unE t 0 = 0 := by
 have hw := h.wl
 have : brA t 0 t.fl t.bl = (0, 0) := by simp [brA, runF]
 simp [unE, safeB, this]
 omega

theorem yldB_exit {call : CallF} {C : Nat → List AVal → Option (T AVal)} {G : Nat → Option (List PVal)} {id i : Nat} {st : St} {e3 : Env} {p3 : List Nat} {a3 b3 : ACode} {j : Option ACode} {n : Nat} (h : get st.sto id = some (.loop e3 p3 a3 b3 j n)) : yldB call C G id (.exit i, st) = .ret (.p (.bool false), put st.sto id (.loop e3 p3 a3 b3 (some (.exit i)) 2)) := by
 unfold yldB
 simp [jumpOf, h]
theorem rfunK_exit {lo : Nat} {env : Env} {id i : Nat} {a : AVal} {s : Sto} {e1 : Env} {p1 : List Nat} {a1 b1 : ACode} {n : Nat} (h : get s id = some (.loop e1 p1 a1 b1 (some (.exit i)) n)) (hn : n ≠ 1) : rfunK lo env id (a, s) = .ret (.exit i, ⟨env, gc lo env (put s id (.loop e1 p1 a1 b1 (some (.exit i)) 3))⟩) := by
 unfold rfunK
 simp [h, hn]

def lEnv (t : TowI) : Env := [(2, iv 0), (3, iv 0), (5, .ptr 1 0 0), (15, .p (.clo 160 [] [.pp (twc t)]))]
def lLoop (t : TowI) (j : Option ACode) (e : Nat) : Obj := .loop (lEnv t) [16] c39A0 c39B0 j e
def lS (t : TowI) (x : Int) (j : Option ACode) (e : Nat) : Sto := [(2, lLoop t j e), (1, .arr [.int .i64 x] 0 1), (0, .box (twl t))]

theorem yld39 {d : Nat} (t : TowI) (i : Nat) (hi : i < 1000) : evFn F C0 G0 (d + 1) (.yld 2) [iv i] (lS t t.wall none 0) = .ret (.p (.bool false), lS t ((i : Int) - 1) (some (.exit 0)) 2) := by
 rw [evFn_yld (by rfl) (by rfl)]
 have w := wrap64 (n := (i : Int) - 1) (by omega) (by omega)
 simp -implicitDefEqProofs [c39A0, lEnv]
 rw [yldK_eq (by rfl)]
 simp -implicitDefEqProofs [c39B0, lS, lLoop, w, -gc]
 rw [yldB_exit (by rfl)]
 simp -implicitDefEqProofs

theorem unsafe160 {d : Nat} {t : TowI} (h : TowOk t) : evFn F C0 G0 (d + 5) (.fn 160) [.yld 2, .p (.pp (twc t))] (lS t t.wall none 0) = .ret (.tup [], if lead (unE t) (t.wall.toNat + 1) = t.wall.toNat + 1 then lS t t.wall none 0 else lS t (lastI t) (some (.exit 0)) 2) := by
 rw [evFn_fn fe160]
 have hw := h.wl
 have hfew := h.few
 obtain ⟨k, hk⟩ : ∃ k : Nat, t.wall = k := ⟨t.wall.toNat, by omega⟩
 have hlast : lastI t = (lead (unE t) (k + 1) : Int) - 1 := by simp [lastI, hk]
 have hn3 : ∀ x j e, nextId (lS t x j e) = 3 := fun _ _ _ => rfl
 have hgc : ∀ env x j e, gc 3 env (lS t x j e) = lS t x j e := fun env x j e => gc_all (by simp [lS])
 let inv : Nat → St := fun i => ⟨[(0, .yld 2), (1, .p (.pp (twc t))), (6, iv ((k : Int) + 1)), (7, iv i)], lS t t.wall none 0⟩
 have key := loop_first (step := loopS (evFn F C0 G0 (d + 4)) C0 G0 3 true [0, 1, 6, 7] c160L0) inv (unE t) (k + 1) (.exit 0, ⟨[(0, .yld 2), (1, .p (.pp (twc t))), (6, iv ((k : Int) + 1)), (7, iv ((k : Int) + 1)), (8, .p (.bool false))], lS t t.wall none 0⟩) (fun i => (.ret, ⟨[(0, .yld 2), (1, .p (.pp (twc t))), (6, iv ((k : Int) + 1)), (7, iv i), (19, .p (.bool true))], lS t ((i : Int) - 1) (some (.exit 0)) 2⟩))
  (st0 := ⟨[(0, .yld 2), (1, .p (.pp (twc t))), (6, iv ((k : Int) + 1)), (7, iv 0)], lS t t.wall none 0⟩) rfl (fun i hi => by
   have hlt : (i : Int) < (k : Int) + 1 := by omega
   have h1 := safe119 (n := d + 4) (by omega) h (c := i) (by omega)
   have hy := yld39 (d := d + 3) t i (by omega)
   have hu : unE t i = if safeB t i = true then 0 else 1 := rfl
   rw [hu]
   cases hs : safeB t i with
   | true =>
    rw [hs] at h1
    refine ⟨fun _ => ⟨inv (i + 1), ?_, rfl⟩, fun hz => by simp at hz⟩
    simp -implicitDefEqProofs [inv, loopS_eq, c160L0, hlt, h1, hgc, -gc, -nextId, wrap_succ (i := i) (by omega)]
   | false =>
    rw [hs] at h1
    refine ⟨fun hz => by simp at hz, fun _ => ?_⟩
    simp -implicitDefEqProofs [inv, loopS_eq, c160L0, hlt, h1, hy, hgc, hn3, -gc, -nextId]) (fun i => by simp) (by
   simp -implicitDefEqProofs [inv, loopS_eq, c160L0, hgc, -gc, -nextId]) (by simp) (fuel := loopFuel) (by simp [loopFuel]; omega)
 have w := wrap64 (n := (k : Int) + 1) (by omega) (by omega)
 have hkt : t.wall.toNat = k := by omega
 rw [hkt]
 simp only [twc, hk] at key ⊢
 simp -implicitDefEqProofs [c160, w, hn3, -nextId]
 rcases key with ⟨k1, k2⟩ | ⟨j, hj, k1, k2, k3, k4⟩
 ·rw [k1]
  have := lead_all (k + 1) (all_zero k2)
  rw [this, if_pos rfl]
  simp -implicitDefEqProofs
 ·rw [k1]
  have := lead_at k3 k4 (k + 1) hj
  rw [hlast, this, if_neg (by omega)]
  simp -implicitDefEqProofs

theorem last39 {n : Nat} (hn : 7 ≤ n) (t : TowI) (hl : t.pull.length < 1000000) : RUN n 39 [twa t] = .ret (if towE t = 0 then .tup [iv (lastI t), iv 0] else .tup [iv 0, iv (towE t)]) := by
 obtain ⟨d, rfl⟩ : ∃ d, n = d + 7 := ⟨n - 7, by omega⟩
 rw [RUN, call_eq fe39 _ rfl]
 have h0 := tow48 (n := d + 6) (by omega) t hl
 by_cases z0 : towE t = 0
 ·rw [if_pos z0]
  have h := tow_of z0
  have hw := h.wl
  have h120 : RUN (d + 6) 120 [twa t] = .ret (.p (.clo 160 [] [.pp (twc t)])) := by
   rw [RUN, call_eq fe120 _ rfl]
   simp -implicitDefEqProofs [c120]
  have key := unsafe160 (d := d + 1) h
  have hlastw : lead (unE t) (t.wall.toNat + 1) = t.wall.toNat + 1 → lastI t = t.wall := fun e => by
   rw [lastI, e]; omega
  have hf : Obj.loop (lEnv t) [16] c39A0 c39B0 none 0 = lLoop t none 0 := rfl
  simp -implicitDefEqProofs [c39, h0, z0, h120, callee]
  simp only [lS, lLoop, lEnv, twc] at key
  rw [key]
  split
  ·rename_i e
   rw [hlastw e]
   rw [bind_ret, rfunK_none (by rfl) (by simp)]
   simp -implicitDefEqProofs
  ·rw [bind_ret, rfunK_exit (by rfl) (by simp)]
   simp -implicitDefEqProofs
 ·rw [if_neg z0]
  have hb : (towE t != 0) = true := by simpa using z0
  simp -implicitDefEqProofs [c39, h0, hb]
end Fw
end

section
set_option maxHeartbeats 4000000
namespace Fw
open Go

theorem runF_nonneg (t : TowI) (f : Int) : ∀ i, 0 ≤ runF t f i
 | 0 => by simp [runF]
 | i + 1 => by simp only [runF]; omega
theorem up_le {x den k : Int} (hd : 0 < den) : upI x den ≤ k ↔ x ≤ k * den := by
 unfold upI
 constructor
 ·intro h
  have h1 : -k ≤ (-x) / den := by omega
  have h2 := (Int.le_ediv_iff_mul_le hd).1 h1
  rw [Int.neg_mul] at h2; omega
 ·intro h
  have h2 : -k * den ≤ -x := by rw [Int.neg_mul]; omega
  have h1 := (Int.le_ediv_iff_mul_le hd).2 h2
  omega

theorem safe_iff {t : TowI} (h : TowOk t) {c : Nat} (hc : (c : Int) ≤ t.wall) : safeB t c = true ↔ runF t t.fl c ≤ (t.wall - c) * (t.bl + t.fl) := by
 have hfr := h.fr
 have hbr := h.br
 have hr := runF_nonneg t t.fl c
 have hprod : 0 ≤ (t.wall - c) * (t.bl + t.fl) := Int.mul_nonneg (by omega) (by omega)
 unfold safeB brA
 by_cases c1 : runF t t.fl c = 0
 ·rw [if_pos c1]
  simp only [Bool.and_eq_true, decide_eq_true_eq]
  constructor
  ·intro _; omega
  ·intro _; exact ⟨trivial, hc⟩
 ·rw [if_neg c1]
  by_cases c2 : t.fl + t.bl = 0
  ·rw [if_pos c2]
   have : t.bl + t.fl = 0 := by omega
   rw [this]
   simp only [Bool.and_eq_true, decide_eq_true_eq, Int.mul_zero]
   constructor
   ·intro h; exact absurd h.1 (by decide)
   ·intro h; omega
  ·rw [if_neg c2]
   have hd : 0 < t.fl + t.bl := by omega
   have hu := up_le (x := runF t t.fl c) (k := t.wall - c) hd
   rw [Int.add_comm t.bl t.fl]
   simp only [Bool.and_eq_true, decide_eq_true_eq]
   constructor
   ·intro h; exact hu.1 (by omega)
   ·intro h; have := hu.2 h; exact ⟨trivial, by omega⟩

theorem lead_pre {e : Nat → Int} : ∀ n q, q < lead e n → e q = 0 := by
 intro n
 induction n with
 | zero => intro q h; simp [lead] at h
 | succ n ih =>
  intro q h
  simp only [lead] at h
  split at h
  ·rename_i hc
   by_cases hq : q = n
   ·subst hq; exact hc.2
   ·exact ih q (by omega)
  ·exact ih q h
theorem lead_stop {e : Nat → Int} : ∀ n, lead e n < n → e (lead e n) ≠ 0 := by
 intro n
 induction n with
 | zero => intro h; omega
 | succ n ih =>
  intro h
  simp only [lead] at h ⊢
  split at h
  ·omega
  ·rename_i hc
   rw [if_neg hc]
   by_cases hl : lead e n < n
   ·exact ih hl
   ·have h2 := lead_le e n
    have h3 : lead e n = n := by omega
    rw [h3]
    exact fun h4 => hc ⟨h3, h4⟩

theorem last_in {t : TowI} (h : TowOk t) : 0 ≤ lastI t ∧ lastI t ≤ t.wall := by
 have hw := h.wl
 have h1 := lead_le (unE t) (t.wall.toNat + 1)
 have h0 : lead (unE t) (t.wall.toNat + 1) ≠ 0 := fun hz => by
  have := lead_stop (e := unE t) (t.wall.toNat + 1) (by omega)
  rw [hz] at this
  exact this (safe_zero h)
 unfold lastI
 omega
theorem last_safe {t : TowI} {c : Nat} (hc : (c : Int) ≤ lastI t) : safeB t c = true := by
 unfold lastI at hc
 have h := lead_pre (e := unE t) (t.wall.toNat + 1) c (by omega)
 unfold unE at h
 split at h
 ·assumption
 ·exact absurd h (by decide)
theorem last_next {t : TowI} {c : Nat} (hw : (c : Int) ≤ t.wall) (hc : (c : Int) = lastI t + 1) : safeB t c = false := by
 unfold lastI at hc
 have he : c = lead (unE t) (t.wall.toNat + 1) := by omega
 have h := lead_stop (e := unE t) (t.wall.toNat + 1) (by omega)
 rw [← he] at h
 unfold unE at h
 split at h
 ·exact absurd rfl h
 ·rename_i hs; simpa using hs

theorem tabL_get {t : TowI} (h : TowOk t) {i : Nat} (hi : (i : Int) ≤ t.wall) : (tabL t).getD i 0 = runF t t.fl i := by
 have hw := h.wl
 have hl := tabL_length h
 have h1 : i < (tabL t).length := by omega
 have h2 : i < t.pull.length + 1 := by omega
 rw [List.getD_eq_getElem?_getD, List.getElem?_eq_getElem h1]
 simp [tabL, runL]

theorem prov_iff {t : TowI} (h : TowOk t) {c : Nat} (hc : (c : Int) ≤ t.wall) : provB t (tabL t) c = true ↔ ∀ i, i ≤ c → safeB t i = true := by
 have hw := h.wl
 have hl := tabL_length h
 unfold provB
 have ha : firstE ((List.range ((tabL t).length - 1)).map (e1 t (tabL t))) = 0 := by
  refine firstE_zero.2 fun x hx => ?_
  obtain ⟨i, hi, rfl⟩ := List.mem_map.1 hx
  rw [List.mem_range] at hi
  have g1 := tabL_get h (i := i) (by omega)
  have g2 := tabL_get h (i := i + 1) (by omega)
  simp only [e1, bad1, g1, g2, runF]
  rw [if_neg]
  simp only [decide_eq_true_eq]
  omega
 rw [ha]
 simp only [decide_true, Bool.true_and, decide_eq_true_eq]
 constructor
 ·intro hz i hi
  have := all_zero hz i (by omega)
  rw [safe_iff h (by omega)]
  simp only [e2, bad2, tabL_get h (i := i) (by omega)] at this
  split at this
  ·exact absurd this (by decide)
  ·rename_i hb; simp only [decide_eq_true_eq] at hb; omega
 ·intro hs
  refine firstE_zero.2 fun x hx => ?_
  obtain ⟨i, hi, rfl⟩ := List.mem_map.1 hx
  rw [List.mem_range] at hi
  have h1 := (safe_iff h (c := i) (by omega)).1 (hs i (by omega))
  simp only [e2, bad2, tabL_get h (i := i) (by omega)]
  rw [if_neg]
  simp only [decide_eq_true_eq]
  omega

end Fw
end

section
set_option maxHeartbeats 4000000
namespace Fw
open Go

theorem tow_to {t : TowI} (h : TowOk t) : towE t = 0 := by
 have h1 := h.pos
 have h2 := h.few
 have h3 := h.fr
 have h4 := h.br
 refine firstE_zero.2 fun x hx => ?_
 simp only [List.mem_cons, List.not_mem_nil, or_false] at hx
 rcases hx with rfl | rfl | rfl | rfl | rfl | rfl
 ·exact (whenE_zero (by decide)).2 (by rw [beq_eq_false_iff_ne]; omega)
 ·exact (whenE_zero (by decide)).2 (by simp; omega)
 ·exact rangesE_zero.2 h.pulls
 ·exact ivE_zero.2 (by omega)
 ·exact ivE_zero.2 (by omega)
 ·exact rangeE_zero.2 h.wl

theorem last_mono {t u : TowI} (h : TowOk t) (g : TowOk u) (hs : ∀ c : Nat, (c : Int) ≤ t.wall → safeB t c = true → (c : Int) ≤ u.wall ∧ safeB u c = true) : lastI t ≤ lastI u := by
 have h1 := last_in h
 have h2 := last_in g
 by_cases hh : lastI t ≤ lastI u
 ·exact hh
 ·have hc : (((lastI u).toNat + 1 : Nat) : Int) = lastI u + 1 := by omega
  have k1 := last_safe (t := t) (c := (lastI u).toNat + 1) (by omega)
  obtain ⟨k2, k3⟩ := hs _ (by omega) k1
  have k4 := last_next (t := u) k2 hc
  rw [k3] at k4; cases k4

theorem runF_mono {t u : TowI} (f : Int) : ∀ i : Nat, (∀ j, j < i → t.pull.getD j 0 ≤ u.pull.getD j 0) → runF t f i ≤ runF u f i
 | 0, _ => by simp [runF]
 | i + 1, h => by
  have h1 := runF_mono f i (fun j hj => h j (by omega))
  have h2 := h i (by omega)
  simp only [runF]; omega

/-! a stronger brake -/
def strongT (t : TowI) (x : Int) : TowI := ⟨t.pull, t.fl, t.fh, min 100000 (t.bl + x), max (min 100000 (t.bl + x)) t.bh, t.wall⟩
theorem strong_ok {t : TowI} (h : TowOk t) {x : Int} (hx : 0 ≤ x) : TowOk (strongT t x) := by
 have h4 := h.br
 exact ⟨h.pos, h.few, h.pulls, h.fr, by simp only [strongT]; omega, h.wl⟩
theorem strong_last {t : TowI} (h : TowOk t) {x : Int} (hx : 0 ≤ x) : lastI t ≤ lastI (strongT t x) := by
 have g := strong_ok h hx
 refine last_mono h g fun c hc hs => ⟨hc, ?_⟩
 have h1 := (safe_iff h hc).1 hs
 refine (safe_iff g (c := c) hc).2 ?_
 have h2 := runF_mono (t := strongT t x) (u := t) t.fl c (fun _ _ => Int.le_refl _)
 have h4 := h.br
 have h5 : (t.wall - c) * (t.bl + t.fl) ≤ (t.wall - c) * (min 100000 (t.bl + x) + t.fl) := Int.mul_le_mul_of_nonneg_left (by omega) (by omega)
 simp only [strongT] at h2 ⊢
 omega

/-! a wall that is a cell farther away -/
def farT (t : TowI) : TowI := ⟨t.pull ++ [0], t.fl, t.fh, t.bl, t.bh, t.wall + 1⟩
theorem far_ok {t : TowI} (h : TowOk t) (hl : t.pull.length ≤ 12) : TowOk (farT t) := by
 have h1 := h.wl
 refine ⟨by simp [farT], by simp [farT]; omega, fun x hx => ?_, h.fr, h.br, ?_⟩
 ·simp only [farT, List.mem_append, List.mem_cons, List.not_mem_nil, or_false] at hx
  rcases hx with hx | rfl
  ·exact h.pulls x hx
  ·decide
 ·simp only [farT, List.length_append, List.length_cons, List.length_nil]
  omega
theorem far_last {t : TowI} (h : TowOk t) (hl : t.pull.length ≤ 12) : lastI t ≤ lastI (farT t) := by
 have g := far_ok h hl
 have hw := h.wl
 refine last_mono h g fun c hc hs => ?_
 have hc' : (c : Int) ≤ (farT t).wall := by simp only [farT]; omega
 refine ⟨hc', (safe_iff g hc').2 ?_⟩
 have h1 := (safe_iff h hc).1 hs
 have h2 := runF_mono (t := farT t) (u := t) t.fl c (fun j hj => by
  have : j < t.pull.length := by omega
  simp [farT, List.getD_eq_getElem?_getD, List.getElem?_append_left this])
 have h3 := h.fr
 have h4 := h.br
 have h5 : (t.wall - c) * (t.bl + t.fl) ≤ (t.wall + 1 - c) * (t.bl + t.fl) := Int.mul_le_mul_of_nonneg_right (by omega) (by omega)
 simp only [farT] at h2 ⊢
 omega

/-! more pull -/
def moreT (t : TowI) (k : Nat) (x : Int) : TowI := ⟨t.pull.set k (min 100000 (t.pull.getD k 0 + x)), t.fl, t.fh, t.bl, t.bh, t.wall⟩
theorem pull_in {t : TowI} (h : TowOk t) {k : Nat} (hk : k < t.pull.length) : 0 ≤ t.pull.getD k 0 ∧ t.pull.getD k 0 ≤ 100000 :=
 h.pulls _ (by rw [List.getD_eq_getElem?_getD, List.getElem?_eq_getElem hk]; simp)
theorem more_ok {t : TowI} (h : TowOk t) {k : Nat} (hk : k < t.pull.length) {x : Int} (hx : 0 ≤ x) : TowOk (moreT t k x) := by
 have h1 := pull_in h hk
 refine ⟨by simpa [moreT] using h.pos, by simpa [moreT] using h.few, fun y hy => ?_, h.fr, h.br, by simpa [moreT] using h.wl⟩
 simp only [moreT] at hy
 rcases List.mem_or_eq_of_mem_set hy with hy | rfl
 ·exact h.pulls y hy
 ·omega
theorem more_last {t : TowI} (h : TowOk t) {k : Nat} (hk : k < t.pull.length) {x : Int} (hx : 0 ≤ x) : lastI (moreT t k x) ≤ lastI t := by
 have g := more_ok h hk hx
 have hp := pull_in h hk
 refine last_mono g h fun c hc hs => ⟨hc, ?_⟩
 have h1 := (safe_iff g hc).1 hs
 refine (safe_iff h (c := c) hc).2 ?_
 have h2 := runF_mono (t := t) (u := moreT t k x) t.fl c (fun j _ => by
  simp only [moreT, List.getD_eq_getElem?_getD, List.getElem?_set]
  split
  ·rename_i e; subst e
   rw [List.getD_eq_getElem?_getD] at hp
   simp [hk] at hp ⊢
   omega
  ·exact Int.le_refl _)
 simp only [moreT] at h1 h2 ⊢
 omega

/-! tables -/
theorem tab_in {t : TowI} (h : TowOk t) {i : Nat} (hi : (i : Int) ≤ t.wall) : 0 ≤ (tabL t).getD i 0 ∧ (tabL t).getD i 0 ≤ 6400000 := by
 have hw := h.wl
 have hfew := h.few
 have hfr := h.fr
 rw [tabL_get h hi]
 have := runF_in h (f := t.fl) (by omega) i (by omega)
 omega

theorem shape_zero {t : TowI} {l : List Int} (hl : (l.length : Int) = t.wall + 1) : shapeE t l = 0 := by
 unfold shapeE
 have : ((l.length : Int) != t.wall + 1) = false := by simp; omega
 rw [this]; rfl

theorem cells_ok {t : TowI} {l : List Int} (hl : (l.length : Int) = t.wall + 1) (hr : ∀ i : Nat, (i : Int) ≤ t.wall → 0 ≤ l.getD i 0 ∧ l.getD i 0 ≤ 100000000) {c : Nat} (hc : (c : Int) ≤ t.wall) : cellsE t l c = 0 := by
 unfold cellsE
 have a2 : rangesE 0 100000000 l = 0 := by
  refine rangesE_zero.2 fun x hx => ?_
  obtain ⟨i, hi, rfl⟩ := List.getElem_of_mem hx
  have g := hr i (by omega)
  rw [List.getD_eq_getElem?_getD, List.getElem?_eq_getElem hi] at g
  simpa using g
 rw [shape_zero hl, a2, show cellE t c = 0 from cellE_zero.2 ⟨by omega, hc⟩]
 rfl

theorem tab_len {t : TowI} (h : TowOk t) : ((tabL t).length : Int) = t.wall + 1 := by
 have hw := h.wl
 have := tabL_length h
 omega

theorem check_tab {t : TowI} (h : TowOk t) {c : Nat} (hc : (c : Int) ≤ t.wall) : checkE t (tabL t) c = whenE (!provB t (tabL t) c) 19 := by
 unfold checkE
 rw [if_pos (tow_to h), if_pos (cells_ok (tab_len h) (fun i hi => by have := tab_in h hi; omega) hc), Int.toNat_natCast]

theorem check_down {t : TowI} (h : TowOk t) {c : Nat} (hc : ((c + 1 : Nat) : Int) ≤ t.wall) (hz : checkE t (tabL t) ((c + 1 : Nat) : Int) = 0) : checkE t (tabL t) c = 0 := by
 rw [check_tab h hc] at hz
 rw [check_tab h (by omega)]
 have h1 := (whenE_zero (by decide)).1 hz
 refine (whenE_zero (by decide)).2 ?_
 simp only [Bool.not_eq_false'] at h1 ⊢
 exact (prov_iff h (by omega)).2 fun i hi => (prov_iff h hc).1 h1 i (by omega)

theorem small_19 {t : TowI} (h : TowOk t) {k : Nat} (hk : ((k + 1 : Nat) : Int) ≤ t.wall) {x : Int} (hx : 0 ≤ x) (hv : 0 ≤ (tabL t).getD (k + 1) 0 - (1 + x)) :
  checkE t ((tabL t).set (k + 1) ((tabL t).getD (k + 1) 0 - (1 + x))) (0 : Nat) = 19 := by
 have hl := tab_len h
 have hw := h.wl
 have hg : ∀ i : Nat, (i : Int) ≤ t.wall → ((tabL t).set (k + 1) ((tabL t).getD (k + 1) 0 - (1 + x))).getD i 0 = if i = k + 1 then (tabL t).getD (k + 1) 0 - (1 + x) else (tabL t).getD i 0 := fun i hi => by
  rw [List.getD_eq_getElem?_getD, List.getElem?_set]
  by_cases he : i = k + 1
  ·subst he
   rw [if_pos rfl, if_pos (by omega), if_pos rfl]; rfl
  ·rw [if_neg (fun e => he e.symm), if_neg he, ← List.getD_eq_getElem?_getD]
 have hb := tab_in h hk
 unfold checkE
 rw [if_pos (tow_to h), if_pos (cells_ok (by simpa using hl) (fun i hi => by
  rw [hg i hi]
  have := tab_in h hi
  split <;> omega) (by omega))]
 have hp : provB t ((tabL t).set (k + 1) ((tabL t).getD (k + 1) 0 - (1 + x))) 0 = false := by
  unfold provB
  rw [Bool.and_eq_false_iff]
  left
  simp only [decide_eq_false_iff_not]
  intro hz
  have := all_zero hz k (by simp; omega)
  have g1 := hg k (by omega)
  have g2 := hg (k + 1) hk
  rw [if_neg (by omega)] at g1
  rw [if_pos rfl] at g2
  unfold e1 bad1 at this
  rw [g1, g2, tabL_get h hk, tabL_get h (i := k) (by omega)] at this
  rw [tabL_get h hk] at hv
  have hrec : runF t t.fl (k + 1) = max 0 (runF t t.fl k + t.pull.getD k 0 - t.fl) := rfl
  rw [if_pos (by simp only [decide_eq_true_eq]; omega)] at this
  exact absurd this (by decide)
 rw [Int.toNat_natCast, hp]
 rfl

theorem great_19 {t : TowI} (h : TowOk t) {n : Nat} (hn : (n : Int) = t.wall) : checkE t ((tabL t).set n ((tabL t).getD n 0 + 1)) n = 19 := by
 have hl := tab_len h
 have hb := tab_in h (i := n) (by omega)
 have hg : ∀ i : Nat, (i : Int) ≤ t.wall → ((tabL t).set n ((tabL t).getD n 0 + 1)).getD i 0 = if i = n then (tabL t).getD n 0 + 1 else (tabL t).getD i 0 := fun i hi => by
  rw [List.getD_eq_getElem?_getD, List.getElem?_set]
  by_cases he : i = n
  ·subst he
   rw [if_pos rfl, if_pos (by omega), if_pos rfl]; rfl
  ·rw [if_neg (fun e => he e.symm), if_neg he, ← List.getD_eq_getElem?_getD]
 unfold checkE
 rw [if_pos (tow_to h), if_pos (cells_ok (by simpa using hl) (fun i hi => by
  rw [hg i hi]
  have := tab_in h hi
  split <;> omega) (by omega)), Int.toNat_natCast]
 have hp : provB t ((tabL t).set n ((tabL t).getD n 0 + 1)) n = false := by
  unfold provB
  rw [Bool.and_eq_false_iff]
  right
  simp only [decide_eq_false_iff_not]
  intro hz
  have := all_zero hz n (by omega)
  unfold e2 bad2 at this
  rw [hg n (by omega), if_pos rfl, ← hn, Int.sub_self, Int.zero_mul, if_pos (by simp only [decide_eq_true_eq]; omega)] at this
  exact absurd this (by decide)
 rw [hp]
 rfl
end Fw
end

section
set_option maxHeartbeats 16000000
namespace Fw
open Go

theorem awake13 : RUN 60 13 [] = .ret (.p (.bool true)) := awake
end Fw
end

section
set_option maxHeartbeats 16000000
namespace Fw
open Go

def stF (t : TowI) (x y z : Int) : Sto := [(1, .arr [.int .u8 x, .int .u8 y, .int .u8 z] 0 1), (0, .box (twl t))]
def stG (B10 B6 B2 : List AVal) (A9 A5 : List PVal) (t : TowI) (x y z : Int) : Sto := [(10, .box B10), (9, .arr A9 0 1), (6, .box B6), (5, .arr A5 1 1), (2, .box B2), (1, .arr [.int .u8 x, .int .u8 y, .int .u8 z] 0 1), (0, .box (twl t))]
def wasB (t : TowI) : Nat → Bool
 | 0 => true
 | i + 1 => decide (checkE t (tabL t) (i : Nat) = 0)
def rF (t : TowI) (i : Nat) : Env := [(2, .ptr 0 0 0), (3, .ptr 1 0 0), (17, isl (tabL t)), (19, .p (.bool (wasB t i))), (159, iv (tabL t).length), (160, iv i)]

theorem far_loop {t : TowI} (h : TowOk t) (x y z : Int) (B10 B6 B2 : List AVal) (A9 A5 : List PVal) :
  loopN (loopS (evFn F C0 G0 60) C0 G0 0 false [2, 3, 17, 19, 159, 160] c11L0) loopFuel ⟨rF t 0, stG B10 B6 B2 A9 A5 t x y z⟩ = .ret (.exit 0, ⟨rF t (tabL t).length ++ [(161, .p (.bool false))], stG B10 B6 B2 A9 A5 t x y z⟩) := by
 have hfew := h.few
 have hw := h.wl
 have htl := tab_len h
 refine loop_run' (fun i => ⟨rF t i, stG B10 B6 B2 A9 A5 t x y z⟩) (tabL t).length (by simp) rfl ?_ (by simp -implicitDefEqProofs [rF, loopS_eq, c11L0]) (by simp [loopFuel]; omega)
 intro i hi
 have hlt' : (i : Int) < ((tabL t).length : Int) := by omega
 have k35 := given35 (n := 60) (by omega) t (by omega)
 have k52 := ints52 (n := 60) (by omega) (tabL t) (by omega)
 have k51 := check51 (n := 60) (by omega) t (by omega) (tabL t) (by omega) i
 have hws := wrap_succ (i := i) (by omega)
 have hE : checkE t (tabL t) i = 0 → wasB t i = true := fun hz => by
  cases i with
  | zero => rfl
  | succ j => simp only [wasB, decide_eq_true_eq]; exact check_down h (by omega) hz
 have hW : wasB t (i + 1) = decide (checkE t (tabL t) i = 0) := rfl
 generalize hB : wasB t i = b at *
 generalize checkE t (tabL t) i = E at *
 by_cases hz : E = 0
 ·subst hz
  have hb := hE rfl
  refine ⟨?_, ?h1, ?h2⟩
  case h1 =>
   simp -implicitDefEqProofs [rF, stG, loopS_eq, c11L0, hlt', hB, k35, k52, k51, hws, hb]
   exact rfl
  case h2 => simp [rF, stG, hW]
 ·have hz2 : (E == 0) = false := by simpa using hz
  refine ⟨?_, ?h1, ?h2⟩
  case h1 =>
   simp -implicitDefEqProofs [rF, stG, loopS_eq, c11L0, hlt', hB, k35, k52, k51, hws, hz2]
   exact rfl
  case h2 => simp [rF, stG, hW, hz]
end Fw
end

section
set_option maxHeartbeats 4000000
namespace Fw
open Go

def rowC {α : Type} (f : α → List PVal) : List α → List PVal
 | [] => []
 | x :: r => f x ++ rowC f r
section
variable {α : Type} {f : α → List PVal} {k : Nat}
@[simp] theorem rowC_nil : rowC f [] = [] := rfl
end
end Fw
end

section
set_option maxHeartbeats 8000000
namespace Fw
open Go

structure GateI where
 place : Int
 lo : Int
 hi : Int
 deriving Inhabited
abbrev gc3 (g : GateI) : List PVal := [.int .i64 g.place, .int .i64 g.lo, .int .i64 g.hi]
abbrev gsl (l : List GateI) : AVal := .p (.sl (rowC gc3 l) l.length)
def gt0 : GateI := ⟨0, 0, 0⟩
end Fw
end

section
set_option maxHeartbeats 8000000
namespace Fw
open Go

/-! speeds -/
structure GatesOk (l : List GateI) : Prop where
 len : 2 ≤ l.length ∧ l.length ≤ 8
 ok : ∀ i, (h : i < l.length) → 0 ≤ l[i].place ∧ l[i].place ≤ 1000000 ∧ 0 ≤ l[i].lo ∧ l[i].lo ≤ l[i].hi ∧ l[i].hi ≤ 100000000
 up : ∀ k, (h : k + 1 < l.length) → l[k].place < l[k + 1].place ∧ l[k].hi < l[k + 1].lo
def spF (l : List GateI) (k : Nat) : Int × Int := (((l.getD (k + 1) gt0).place - (l.getD k gt0).place) * 1000000 / ((l.getD (k + 1) gt0).hi - (l.getD k gt0).lo), upI (((l.getD (k + 1) gt0).place - (l.getD k gt0).place) * 1000000) ((l.getD (k + 1) gt0).lo - (l.getD k gt0).hi))
def spL (l : List GateI) : List (Int × Int) := (List.range (l.length - 1)).map (spF l)
@[simp] theorem spL_length (l : List GateI) : (spL l).length = l.length - 1 := by simp [spL]
end Fw
end

