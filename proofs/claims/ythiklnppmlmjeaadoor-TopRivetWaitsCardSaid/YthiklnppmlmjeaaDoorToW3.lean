/- Several texts in one: steps of the proof, no condition of their own. -/
import Derived.Test.YthiklnppmlmjeaaDoorTgSf2
import Derived.Test.YthiklnppmlmjeaaDoorTgH3
import Derived.Test.YthiklnppmlmjeaaDoorTgR2
import Derived.Test.YthiklnppmlmjeaaDoorTgS5
import Derived.Test.YthiklnppmlmjeaaDoorToA
import Derived.Test.YthiklnppmlmjeaaDoorFwC
attribute [local irreducible] Fw.evCode Fw.evOps Fw.evOpsD Fw.evOper Fw.evOperD Fw.evOp Fw.evFn Fw.loopN Fw.T.All Fw.T.bind Fw.callPure Fw.callOp Fw.opsK Fw.opsDK Fw.restK Fw.seqK Fw.blockK Fw.loopS Fw.setK Fw.setQ Fw.giveK Fw.scalK Fw.gcK Fw.finish Fw.finS Fw.rfunK Fw.yldK Fw.yldB Fw.loopK
section
set_option maxHeartbeats 8000000
namespace Fw
open Go


def badR (s : SledI) (l : List (Int × Int)) (g k : Int) : Int := firstE [sledE s, settingE l, rangeE s.low s.high g, rangeE 1 64 k]

theorem run13 {n : Nat} (hn : 5 ≤ n) (s : SledI) (l : List (Int × Int)) (g k : Int) (hl : l.length < 1000000) :
  RUN n 13 [sla s, csl l, iv g, iv k] = .ret (if badR s l g k = 0 then .tup [.p (.sl (pI (runL s l g k.toNat)) k.toNat), iv 0] else .tup [.p (.sl [] 0), iv (badR s l g k)]) := by
 obtain ⟨d, rfl⟩ : ∃ d, n = d + 5 := ⟨n - 5, by omega⟩
 rw [RUN, call_eq fe13 _ rfl]
 have h0 := sled51 (n := d + 4) (by omega) s
 have h1 := setting52 (n := d + 4) (by omega) l hl
 have h2 := ticks54 (n := d + 4) (by omega) k
 have h3 := within53 (n := d + 4) (by omega) g s.low s.high
 have h4 := first50_4 (n := d + 4) (by omega) (sledE s) (settingE l) (rangeE s.low s.high g) (rangeE 1 64 k)
 have hb : firstE [sledE s, settingE l, rangeE s.low s.high g, rangeE 1 64 k] = badR s l g k := rfl
 by_cases h : badR s l g k = 0
 ·have hz := firstE_zero.1 h
  have hs := sled_of (hz (sledE s) (by simp))
  have hv := valid_of (hz (settingE l) (by simp))
  have hg := rangeE_zero.1 (hz (rangeE s.low s.high g) (by simp))
  have hk := rangeE_zero.1 (hz (rangeE 1 64 k) (by simp))
  obtain ⟨m, rfl⟩ : ∃ m : Nat, k = m := ⟨k.toNat, by omega⟩
  have hr := run55 (n := d + 4) (by omega) hs hv (g := g) (by have := hs.low; omega) (by have := hs.high; omega) m (by omega)
  rw [if_pos h]
  simp only [Int.toNat_natCast]
  simp -implicitDefEqProofs [c13, h0, h1, h2, h3, h4, hb, h, hr]
 ·rw [if_neg h]
  simp -implicitDefEqProofs [c13, h0, h1, h2, h3, h4, hb, h]

def enclL (s : SledI) (l : List (Int × Int)) (k : Nat) : List (Int × Int) := (List.range k).map fun (i : Nat) => (runF s l s.low (i + 1), runF s l s.high (i + 1))
/-! is there one of which something holds? -/

abbrev slc (s : SledI) : List PVal := [.int .i64 s.low, .int .i64 s.high, .int .i64 s.lag, .int .i64 s.delay, .int .i64 s.load]

def safeB (s : SledI) (l : List (Int × Int)) (k : Nat) : Bool := !(enclL s l k).any fun x => decide (s.load < x.2)

end Fw
end

section
set_option maxHeartbeats 16000000
namespace Fw
open Go

end Fw
end

section
set_option maxHeartbeats 16000000
namespace Fw
open Go

abbrev twoP (k : Int × Int) : List PVal := [.int .i64 k.1, .int .i64 k.2]

end Fw
end

section
set_option maxHeartbeats 8000000
namespace Fw
open Go

def lsl (l : List Int) : PVal := .sl (pI l) l.length
def pL (ls : List (List Int)) : List PVal := ls.map lsl
abbrev llsl (ls : List (List Int)) : AVal := .p (.sl (pL ls) ls.length)
@[simp] theorem pL_length (ls : List (List Int)) : (pL ls).length = ls.length := by simp [pL]
@[simp] theorem pL_get (ls : List (List Int)) (i : Nat) : (pL ls)[i]? = (ls[i]?).map lsl := by simp [pL]
@[simp] theorem pL_getElem (ls : List (List Int)) (i : Nat) (h : i < (pL ls).length) : (pL ls)[i] = lsl (ls[i]'(by simpa using h)) := by simp [pL]
@[simp] theorem nrm_lsl (l : List Int) : nrm (lsl l) = lsl l := rfl
@[simp] theorem scalarP_lsl (l : List Int) : scalarP (lsl l) = false := rfl

end Fw
end

section
set_option maxHeartbeats 8000000
namespace Fw
open Go

end Fw
end

section
set_option maxHeartbeats 8000000
namespace Fw
open Go

end Fw
end

section
namespace Fw
open Go
theorem min2 (a b : Int) : minInt a [iv b] = some (min a b) := by
 simp only [minInt]; congr 1; split <;> omega
end Fw
end

section
set_option maxHeartbeats 8000000
namespace Fw
open Go



def csv (c : List (Int × Int)) : PVal := .sl (cI c) c.length
def pS (ls : List (List (Int × Int))) : List PVal := ls.map csv
abbrev ssl (ls : List (List (Int × Int))) : AVal := .p (.sl (pS ls) ls.length)
@[simp] theorem pS_length (ls : List (List (Int × Int))) : (pS ls).length = ls.length := by simp [pS]
@[simp] theorem pS_get (ls : List (List (Int × Int))) (i : Nat) : (pS ls)[i]? = (ls[i]?).map csv := by simp [pS]
@[simp] theorem pS_getElem (ls : List (List (Int × Int))) (i : Nat) (h : i < (pS ls).length) : (pS ls)[i] = csv (ls[i]'(by simpa using h)) := by simp [pS]
@[simp] theorem nrm_csv (l : List (Int × Int)) : nrm (csv l) = csv l := rfl
@[simp] theorem scalarP_csv (l : List (Int × Int)) : scalarP (csv l) = false := rfl

end Fw
end

section
set_option maxHeartbeats 8000000
namespace Fw
open Go

def twoF (p : List Int) (a : Nat) : Nat → Int
 | 0 => 0
 | t + 1 => if t < a then 0 else twoF p a t + 2 * p.getD t 0
def bothF (c : List (Int × Int)) (a : Nat) : Nat → Int
 | 0 => 0
 | t + 1 => if t < a then 0 else bothF c a t + ((c.getD t (0, 0)).1 + (c.getD t (0, 0)).2)

def fromN (s : SledI) (l : List (Int × Int)) (i : Nat) : Nat := ((l.getD i (0, 0)).1 + s.delay).toNat
def endN (s : SledI) (l : List (Int × Int)) (n i : Nat) : Nat := if i + 1 < l.length then min n (fromN s l (i + 1)) else n
def stopN (s : SledI) (l : List (Int × Int)) (n i : Nat) : Nat := max (fromN s l i) (endN s l n i)
def twoI (s : SledI) (l : List (Int × Int)) (p : List Int) (n i : Nat) : Int := twoF p (fromN s l i) (stopN s l n i)
def bothI (s : SledI) (l c : List (Int × Int)) (i : Nat) : Int := bothF c (fromN s l i) (stopN s l c.length i)
def wishI (s : SledI) (l c : List (Int × Int)) (p : List Int) (i : Nat) : Int :=
 if twoI s l p c.length i < bothI s l c i then 1 else if bothI s l c i < twoI s l p c.length i then -1 else 0

end Fw
end

section
set_option maxHeartbeats 8000000
namespace Fw
open Go

def moveL (out : List (Int × Int)) (i : Nat) (by' : Int) : List (Int × Int) := out.set i ((out.getD i (0, 0)).1, max 0 (min 100 ((out.getD i (0, 0)).2 + by')))
def learnS (s : SledI) (l c : List (Int × Int)) (p : List Int) (step : Int) (i : Nat) (out : List (Int × Int)) : List (Int × Int) :=
 if (c.length : Int) ≤ (l.getD i (0, 0)).1 then out else if safeB s (moveL out i (step * wishI s l c p i)) c.length = true then moveL out i (step * wishI s l c p i) else out
structure Keep (l out : List (Int × Int)) : Prop where
 len : out.length = l.length
 frm : ∀ i, (out.getD i (0, 0)).1 = (l.getD i (0, 0)).1
 val : ∀ i, i < l.length → 0 ≤ (out.getD i (0, 0)).2 ∧ (out.getD i (0, 0)).2 ≤ 100

theorem Keep.refl {l : List (Int × Int)} (h : Valid l) : Keep l l := ⟨rfl, fun _ => rfl, fun i hi => ⟨(h.val i hi).1, (h.val i hi).2.1⟩⟩

theorem Keep.valid {l out : List (Int × Int)} (k : Keep l out) (h : Valid l) : Valid out := by
 refine ⟨by rw [k.len]; exact h.pos, by rw [k.len]; exact h.small, by rw [k.frm]; exact h.zero, fun i hi => ?_, fun i h0 hi => ?_⟩
 ·rw [k.len] at hi
  have := k.val i hi
  have := h.val i hi
  rw [k.frm]
  omega
 ·rw [k.len] at hi
  rw [k.frm, k.frm]
  exact h.inc i h0 hi

theorem moveL_length (out : List (Int × Int)) (i : Nat) (b : Int) : (moveL out i b).length = out.length := by simp [moveL]

theorem moveL_get (out : List (Int × Int)) (i j : Nat) (b : Int) (hi : i < out.length) : (moveL out i b).getD j (0, 0) = if i = j then ((out.getD i (0, 0)).1, max 0 (min 100 ((out.getD i (0, 0)).2 + b))) else out.getD j (0, 0) := by
 simp only [moveL, List.getD_eq_getElem?_getD, List.getElem?_set]
 split
 ·rename_i h; subst h; simp [hi]
 ·rfl

theorem Keep.move {l out : List (Int × Int)} (k : Keep l out) (i : Nat) (b : Int) (hi : i < l.length) : Keep l (moveL out i b) := by
 have hio : i < out.length := by rw [k.len]; exact hi
 refine ⟨by rw [moveL_length, k.len], fun j => ?_, fun j hj => ?_⟩
 ·rw [moveL_get out i j b hio]
  split
  ·rename_i h; subst h; exact k.frm i
  ·exact k.frm j
 ·rw [moveL_get out i j b hio]
  split
  ·simp only; omega
  ·exact k.val j hj

theorem Keep.step {s : SledI} {l c out : List (Int × Int)} {p : List Int} {step : Int} {i : Nat} (k : Keep l out) (hi : i < l.length) : Keep l (learnS s l c p step i out) := by
 unfold learnS
 split
 ·exact k
 ·split
  ·exact k.move i _ hi
  ·exact k

end Fw
end

section
set_option maxHeartbeats 8000000
namespace Fw
open Go

abbrev wishesA : AVal := .agg [.p (.clo 145 [] []), iv 1, .p (.clo 146 [] []), iv (-1)]
end Fw
end

section
set_option maxHeartbeats 8000000
namespace Fw
open Go

end Fw
end

section
set_option maxHeartbeats 8000000
namespace Fw
open Go

end Fw
end

section
set_option maxHeartbeats 4000000
namespace Fw
open Go

theorem tw_len (tick : Int) : ∀ (l u : List (Int × Int)), l.map Prod.fst = u.map Prod.fst → (l.takeWhile fun x => decide (x.1 ≤ tick)).length = (u.takeWhile fun x => decide (x.1 ≤ tick)).length
 | [], u, h => by cases u with
  | nil => rfl
  | cons a r => cases h
 | a :: r, u, h => by
  cases u with
  | nil => cases h
  | cons b q =>
   simp only [List.map_cons, List.cons.injEq] at h
   have ih := tw_len tick r q h.2
   simp only [List.takeWhile_cons, h.1]
   split
   ·simp [ih]
   ·rfl

structure Wider (l u : List (Int × Int)) : Prop where
 len : u.length = l.length
 frm : ∀ i, (u.getD i (0, 0)).1 = (l.getD i (0, 0)).1
 val : ∀ i, (l.getD i (0, 0)).2 ≤ (u.getD i (0, 0)).2

theorem Wider.valve {l u : List (Int × Int)} (h : Wider l u) (tick : Int) : valveP l tick ≤ valveP u tick := by
 have hm : l.map Prod.fst = u.map Prod.fst := by
  refine List.ext_getElem (by simp [h.len]) fun i h1 h2 => ?_
  have a1 : i < l.length := by simpa using h1
  have a2 : i < u.length := by simpa using h2
  have := h.frm i
  simp only [List.getD_eq_getElem?_getD, List.getElem?_eq_getElem a1, List.getElem?_eq_getElem a2, Option.getD_some] at this
  simp [this]
 unfold valveP
 rw [tw_len tick l u hm]
 unfold accFP
 split
 ·exact Int.le_refl _
 ·exact h.val _

theorem step_mono {a b w v d : Int} (hd : 1 ≤ d) (hab : a ≤ b) (hwv : w ≤ v) : a + (w - a) / d ≤ b + (v - b) / d := by
 have h1 : (w - a) / d - (b - a) = (w - a + (-(b - a)) * d) / d := by
  rw [Int.add_mul_ediv_right _ _ (by omega)]; omega
 have h2 : (b - a) * 1 ≤ (b - a) * d := Int.mul_le_mul_of_nonneg_left hd (by omega)
 have h3 : w - a + (-(b - a)) * d ≤ v - b := by rw [Int.neg_mul]; omega
 have h4 := Int.ediv_le_ediv (show 0 < d by omega) h3
 omega

theorem wish_mono {s : SledI} {l u : List (Int × Int)} (h : Wider l u) (hl : Valid l) {g f : Int} (hg : 0 ≤ g) (hgf : g ≤ f) (i : Nat) : wishF s l g i ≤ wishF s u f i := by
 unfold wishF
 refine Int.ediv_le_ediv (by decide) ?_
 have h1 := h.valve (max 0 ((i : Int) - s.delay))
 have h2 := valveP_bound hl (max 0 ((i : Int) - s.delay))
 exact Int.mul_le_mul hgf h1 h2.1 (by omega)

theorem run_mono {s : SledI} (hs : SledOk s) {l u : List (Int × Int)} (h : Wider l u) (hl : Valid l) {g f : Int} (hg : 0 ≤ g) (hgf : g ≤ f) : ∀ i, runF s l g i ≤ runF s u f i
 | 0 => Int.le_refl _
 | i + 1 => step_mono hs.lag.1 (run_mono hs h hl hg hgf i) (wish_mono h hl hg hgf i)

theorem Wider.refl (l : List (Int × Int)) : Wider l l := ⟨rfl, fun _ => rfl, fun _ => Int.le_refl _⟩

/-! valves that are opened -/
/-! what is learned -/
end Fw
end

section
set_option maxHeartbeats 16000000
namespace Fw
open Go

def mosF (p : List Int) : Nat → Int
 | 0 => 0
 | i + 1 => max (mosF p i) (p.getD i 0)
theorem mosF_in {p : List Int} {b : Int} (hb : 0 ≤ b) (h : ∀ i, i < p.length → p.getD i 0 ≤ b) : ∀ k, k ≤ p.length → 0 ≤ mosF p k ∧ mosF p k ≤ b
 | 0, _ => ⟨Int.le_refl _, hb⟩
 | k + 1, hk => by
  have := mosF_in hb h k (by omega)
  have := h k (by omega)
  simp only [mosF]
  omega
theorem most_mono {p q : List Int} (hl : p.length = q.length) (h : ∀ i, i < p.length → p.getD i 0 ≤ q.getD i 0) : ∀ k, k ≤ p.length → mosF p k ≤ mosF q k ∧ sumF p k ≤ sumF q k
 | 0, _ => ⟨Int.le_refl _, Int.le_refl _⟩
 | k + 1, hk => by
  have := most_mono hl h k (by omega)
  have := h k (by omega)
  simp only [mosF, sumF]
  omega
theorem sumF_in {p : List Int} {b : Int} (h : ∀ i, i < p.length → 0 ≤ p.getD i 0 ∧ p.getD i 0 ≤ b) : ∀ k, k ≤ p.length → 0 ≤ sumF p k ∧ sumF p k ≤ k * b
 | 0, _ => by simp [sumF]
 | k + 1, hk => by
  have := sumF_in h k (by omega)
  have := h k (by omega)
  have e : ((k + 1 : Nat) : Int) * b = k * b + b := by rw [Int.natCast_add, Int.add_mul]; simp
  simp only [sumF, e]
  omega
def sumM (p : List Int) : Int := min 100000 (sumF p p.length / 10)
theorem runL_getD (s : SledI) (l : List (Int × Int)) (g : Int) (n : Nat) {i : Nat} (h : i < n) : (runL s l g n).getD i 0 = runF s l g (i + 1) := by
 simp [runL, List.getD_eq_getElem?_getD, h]
theorem meas_in {s : SledI} (hs : SledOk s) {l : List (Int × Int)} (hl : Valid l) {g : Int} (hg : 0 ≤ g) (hg2 : g ≤ 10000) (n : Nat) (hn : n ≤ 64) :
  (0 ≤ mosF (runL s l g n) n ∧ mosF (runL s l g n) n ≤ 10000) ∧ (0 ≤ sumF (runL s l g n) n ∧ sumF (runL s l g n) n ≤ 640000) ∧ 0 ≤ sumM (runL s l g n) ∧ sumM (runL s l g n) ≤ 100000 := by
 have hb : ∀ i, i < (runL s l g n).length → 0 ≤ (runL s l g n).getD i 0 ∧ (runL s l g n).getD i 0 ≤ 10000 := fun i hi => by
  rw [runL_length] at hi
  rw [runL_getD _ _ _ _ hi]
  have := runF_bound hl hg hs.lag.1 (i + 1)
  omega
 have hlen := runL_length s l g n
 have h1 := mosF_in (p := runL s l g n) (b := 10000) (by omega) (fun i hi => (hb i hi).2) n (by omega)
 have h2 := sumF_in hb n (by omega)
 unfold sumM
 rw [hlen]
 omega
theorem meas_mono {s : SledI} (hs : SledOk s) {l : List (Int × Int)} (hl : Valid l) {g f : Int} (hg : 0 ≤ g) (hgf : g ≤ f) (n : Nat) :
  mosF (runL s l g n) n ≤ mosF (runL s l f n) n ∧ sumM (runL s l g n) ≤ sumM (runL s l f n) := by
 have h1 := runL_length s l g n
 have h2 := runL_length s l f n
 have h := most_mono (p := runL s l g n) (q := runL s l f n) (by omega) (fun i hi => by
  rw [h1] at hi
  rw [runL_getD _ _ _ _ hi, runL_getD _ _ _ _ hi]
  exact run_mono hs (Wider.refl l) hl hg hgf (i + 1)) n (by omega)
 refine ⟨h.1, ?_⟩
 unfold sumM
 rw [h1, h2]
 omega

/-! the acts of a shot -/
abbrev shotL (t a b c : Int) : List ActI := [x1, x2, x3, x4, xm t a b c]
theorem r5w {t : Int} (ht : 5 ≤ t) (a b c : Int) : (reaL sS4 (xm t a b c)).length = 0 := by
 rw [reaL_nil]
 simp [stB, armB, dooB, peoB, keyR, waiB, sS4]
 omega
theorem a5w (t base W a b c : Int) : aftS base W sS4 (xm t a b c) = sSm t (max (5 + base) (t + W)) := by simp [aftS, sS4, sSm]
theorem runW (h : HallI) {t : Int} (ht : 5 ≤ t) (a b c : Int) : runH h (shotL t a b c) = ([sS1, sS2, sS3, sS4, sSm t (max (5 + h.base) (t + waitP h a b c))], true) := by
 simp only [runH, runG, r1, r2, r3, r4, r5w ht, a1, a2, a3, a4, a5w, if_true, wP]
theorem actsW {h : HallI} (hz : hallE h = 0) {t a b c : Int} (ht : 0 ≤ t ∧ t ≤ 100000000) (hv : valE a b c = 0) : actsE h (shotL t a b c) = 0 := by
 have hr : List.range 5 = [0, 1, 2, 3, 4] := rfl
 have e := actE_m (h := h) (t := t) ht hv
 simp [shotL, actsE, hz, firstE, whenE, hr, actE_1, actE_2, actE_3, actE_4, e]
theorem chkW {h : HallI} (hz : hallE h = 0) {t a b c : Int} (ht : 5 ≤ t ∧ t ≤ 100000000) (hv : valE a b c = 0) : chkE h (shotL t a b c) = 0 ∧ lastS (runH h (shotL t a b c)).1 = sSm t (max (5 + h.base) (t + waitP h a b c)) := by
 have hr := runW h ht.1 a b c
 exact ⟨chk_of (actsW hz (by omega) hv) (by rw [hr]), by rw [hr]; rfl⟩
theorem chk4 {h : HallI} (hz : hallE h = 0) : chkE h [x1, x2, x3, x4] = 0 ∧ lastS (runH h [x1, x2, x3, x4]).1 = sS4 := by
 have hr := run4 h
 exact ⟨chk_of (acts4 hz) (by rw [hr]), by rw [hr]; rfl⟩
abbrev tryA (t : Int) (k : List UInt8) : ActI := ⟨t, k, 0, 0, 0, 0⟩
theorem tryE {h : HallI} (hz : hallE h = 0) {t : Int} (ht : 0 ≤ t ∧ t ≤ 100000000) {k : List UInt8} (hk : k = kOpen ∨ k = kArm) : actE h (tryA t k) = 0 := by
 have hd := (doors_of hz)
 have h1 : rangeE 0 100000000 t = 0 := by unfold rangeE; rw [if_neg (by omega)]
 unfold actE
 rcases hk with rfl | rfl
 ·have hn : ¬ numsE h kOpen ≤ 0 := by
   have : numsE h kOpen = h.doors := rfl
   rw [this]
   omega
  simp only [h1, ne_eq, not_true_eq_false, if_false]
  rw [if_neg (by decide), if_neg (by omega), if_neg (by decide)]
  rfl
 ·have hn : numsE h kArm = 1 := rfl
  simp only [h1, ne_eq, not_true_eq_false, if_false]
  rw [if_neg (by decide), if_neg (by omega), if_neg (by decide)]
  rfl
theorem reaL_le (s : StaI) (x : ActI) : (reaL s x).length ≤ 7 := by
 have hb : ∀ b : Bool, b.toNat ≤ 1 := Bool.toNat_le
 have h1 := hb (decide (x.tick < s.tick))
 have h2 := hb (stB s x)
 have h3 := hb (armB s x)
 have h4 := hb (dooB s x)
 have h5 := hb (peoB s x)
 have h6 := hb (keyR s x)
 have h7 := hb (waiB s x)
 unfold reaL
 simp only [addR_len, List.length_nil]
 omega
theorem mem_wait {s : StaI} {x : ActI} (h : waiB s x = true) : wWait ∈ reaL s x := by
 unfold reaL
 rw [h]
 simp [addR]
theorem try_now {t m : Int} (ht : t ≤ m) (hm : 0 ≤ m) {k : List UInt8} (hk : k = kOpen ∨ k = kArm) : reaL (sSm t m) (tryA m k) = [] := by
 apply List.eq_nil_of_length_eq_zero
 rw [reaL_nil]
 have hm1 : ¬ m = -1 := by omega
 rcases hk with rfl | rfl
 ·simp [stB, armB, dooB, peoB, keyR, waiB, admB, sSm, ht, hm1, opn, anyO]
 ·simp [stB, armB, dooB, peoB, keyR, waiB, admB, sSm, ht, hm1, opn, anyO]
theorem try_early {t m : Int} {k : List UInt8} (hk : k = kOpen ∨ k = kArm) : wWait ∈ reaL (sSm t m) (tryA (m - 1) k) := by
 apply mem_wait
 have hm1 : ¬ m ≤ m - 1 := by omega
 rcases hk with rfl | rfl <;> simp [waiB, admB, sSm, hm1]
theorem try_held {m : Int} {k : List UInt8} (hk : k = kOpen ∨ k = kArm) : wWait ∈ reaL sS4 (tryA m k) := by
 apply mem_wait
 rcases hk with rfl | rfl <;> simp [waiB, admB, sS4]
end Fw
end

section
set_option maxHeartbeats 16000000
namespace Fw
open Go

theorem minP2 (a b : Int) : minInt a [iv b] = some (min a b) := by
 simp only [minInt]; congr 1; split <;> omega

theorem setting10a {n : Nat} (hn : 3 ≤ n) (l : List (Int × Int)) : RUN n 10 [csl l] = .ret (iv (settingE l)) := by
 by_cases hl : l.length < 1000000
 ·exact setting10 hn l hl
 ·obtain ⟨d, rfl⟩ : ∃ d, n = d + 3 := ⟨n - 3, by omega⟩
  rw [RUN, call_eq fe10 _ rfl]
  have hs : firstE [whenE ((l.length : Int) == 0) 12, whenE (decide ((12 : Int) < l.length)) 5] = sizedE l.length 12 := rfl
  have hz : ¬ sizedE l.length 12 = 0 := fun h => by have := sizedE_zero.1 h; omega
  have hzb : (sizedE l.length 12 != 0) = true := by simpa using hz
  unfold settingE
  rw [if_neg hz]
  simp -implicitDefEqProofs [c10, when47 (n := d + 2), first43_2 (n := d + 2), hs, hzb]

end Fw
end

section
set_option maxHeartbeats 16000000
set_option maxRecDepth 8000
namespace Fw
open Go

theorem sled12 {n : Nat} (hn : 1 ≤ n) (s : SledI) (l : List (Int × Int)) (hl : l.length < 1000000) : RUN n 12 [sla s, csl l] = .ret (.tup [sla s, .own (cI l) l.length 2]) := by
 obtain ⟨d, rfl⟩ : ∃ d, n = d + 1 := ⟨n - 1, by omega⟩
 rw [RUN, call_eq fe12 _ rfl]
 have hS : ∀ i, i ≤ l.length → (cI (l.take i)).length = i * 2 := fun i hi => by simp [cI_length]; omega
 have key := loop_run' (step := loopS (evFn F C0 G0 d) C0 G0 0 true [2, 4, 6, 9, 10, 11] c12L0) (fun i => ⟨[(2, .ptr 0 0 0), (4, .ptr 1 0 0), (6, .sl 2 i 0 i), (9, csl l), (10, iv l.length), (11, iv i)], [(2, .arr (cI (l.take i)) i 2), (1, .arr [.int .i64 0, .int .i64 0, .int .i64 0, .int .i64 0, .int .i64 0] 0 1), (0, .arr [.int .i64 s.low, .int .i64 s.high, .int .i64 s.lag, .int .i64 s.delay, .int .i64 s.load] 0 1)]⟩) l.length (e := .exit 0)
  (st' := ⟨[(2, .ptr 0 0 0), (4, .ptr 1 0 0), (6, .sl 2 l.length 0 l.length), (9, csl l), (10, iv l.length), (11, iv l.length)] ++ [(12, .p (.bool false))], [(2, .arr (cI (l.take l.length)) l.length 2), (1, .arr [.int .i64 0, .int .i64 0, .int .i64 0, .int .i64 0, .int .i64 0] 0 1), (0, .arr [.int .i64 s.low, .int .i64 s.high, .int .i64 s.lag, .int .i64 s.delay, .int .i64 s.load] 0 1)]⟩) (st0 := ⟨[(2, .ptr 0 0 0), (4, .ptr 1 0 0), (6, .sl 2 0 0 0), (9, csl l), (10, iv l.length), (11, iv 0)], [(2, .arr [] 0 2), (1, .arr [.int .i64 0, .int .i64 0, .int .i64 0, .int .i64 0, .int .i64 0] 0 1), (0, .arr [.int .i64 s.low, .int .i64 s.high, .int .i64 s.lag, .int .i64 s.delay, .int .i64 s.load] 0 1)]⟩) (fuel := loopFuel) (by simp) rfl ?_ ?_ (by simp [loopFuel]; omega)
 ·have htl : l.take l.length = l := List.take_of_length_le (by omega)
  rw [htl] at key
  simp -implicitDefEqProofs [c12]
  rw [key]
  simp -implicitDefEqProofs [cI_length]
 ·intro i hi
  have hlt' : (i : Int) < l.length := by omega
  have hx := cI_drop l i hi
  have hw := wrap_succ (i := i) (by omega)
  have hlim : i + 1 ≤ lim := by simp only [lim]; omega
  have i0 : i * 2 < l.length * 2 := by omega
  have i2 : i * 2 + 2 ≤ l.length * 2 := by omega
  have hcl : (cI l).length = l.length * 2 := cI_len2 l
  have hU := hS i (by omega)
  have ht : cI (l.take (i + 1)) = cI (l.take i) ++ [.int .i64 l[i].1, .int .i64 l[i].2] := by
   rw [List.take_succ_eq_append_getElem hi, cI_append]
   rfl
  simp only [csl]
  generalize hC : cI (l.take i) = U at *
  generalize cI (l.take (i + 1)) = V at *
  generalize hB : cI l = B at *
  generalize cI (l.drop (i + 1)) = R at *
  generalize l[i] = x at *
  obtain ⟨a, b⟩ := x
  simp only at hx ht
  refine ⟨?_, ?h1, ?h2⟩
  case h1 =>
   simp -implicitDefEqProofs [loopS_eq, c12L0, hlt', hx, hcl, i0, hlim, hU, hw]
   exact rfl
  case h2 => exact loopS_same rfl (by simp [ht])
 ·simp -implicitDefEqProofs [loopS_eq, c12L0]

theorem measured14 {n : Nat} (hn : 1 ≤ n) (p : List Int) (hp : p.length ≤ 64) (h0 : ∀ k, k ≤ p.length → 0 ≤ sumF p k ∧ sumF p k ≤ 1000000) : RUN n 14 [isl p] = .ret (v3 (mosF p p.length) (sumM p) p.length) := by
 obtain ⟨d, rfl⟩ : ∃ d, n = d + 1 := ⟨n - 1, by omega⟩
 rw [RUN, call_eq fe14 _ rfl]
 have key := loop_run' (step := loopS (evFn F C0 G0 d) C0 G0 0 false [0, 2, 3, 4, 7, 8, 9] c14L0) (fun i => ⟨[(0, isl p), (2, .ptr 0 0 0), (3, iv (mosF p i)), (4, iv (sumF p i)), (7, isl p), (8, iv p.length), (9, iv i)], [(0, .arr [.int .i64 0, .int .i64 0, .int .i64 0] 0 1)]⟩) p.length (e := .exit 0)
  (st' := ⟨[(0, isl p), (2, .ptr 0 0 0), (3, iv (mosF p p.length)), (4, iv (sumF p p.length)), (7, isl p), (8, iv p.length), (9, iv p.length)] ++ [(10, .p (.bool false))], [(0, .arr [.int .i64 0, .int .i64 0, .int .i64 0] 0 1)]⟩) (st0 := ⟨[(0, isl p), (2, .ptr 0 0 0), (3, iv 0), (4, iv 0), (7, isl p), (8, iv p.length), (9, iv 0)], [(0, .arr [.int .i64 0, .int .i64 0, .int .i64 0] 0 1)]⟩) (fuel := loopFuel) (by simp) rfl ?_ ?_ (by simp [loopFuel]; omega)
 ·have hs := h0 p.length (Nat.le_refl _)
  have hq : (sumF p p.length).tdiv 10 = sumF p p.length / 10 := Int.tdiv_eq_ediv_of_nonneg hs.1
  have hw := wrap64 (n := sumF p p.length / 10) (by omega) (by omega)
  have hm := minP2 100000 (sumF p p.length / 10)
  have hsm : sumM p = min 100000 (sumF p p.length / 10) := rfl
  simp -implicitDefEqProofs [c14]
  rw [key]
  simp -implicitDefEqProofs [hq, hw, hm, hsm]
 ·intro i hi
  have hlt' : (i : Int) < p.length := by omega
  have hw := wrap_succ (i := i) (by omega)
  have gp : p.getD i 0 = p[i] := by simp [List.getD_eq_getElem?_getD, List.getElem?_eq_getElem hi]
  have hPg : ∀ q, (pI p)[i]'q = .int .i64 (p.getD i 0) := fun q => by rw [gp]; simp [pI]
  have hPl : (pI p).length = p.length := by simp [pI]
  have hs := h0 (i + 1) (by omega)
  have e1 : sumF p (i + 1) = sumF p i + p.getD i 0 := rfl
  have e2 : mosF p (i + 1) = max (mosF p i) (p.getD i 0) := rfl
  have mx : maxInt (mosF p i) [iv (p.getD i 0)] = some (max (mosF p i) (p.getD i 0)) := by simp only [maxInt]; congr 1; omega
  rw [e1] at hs
  have q1 := wrap64 (n := sumF p i + p.getD i 0) (by omega) (by omega)
  simp only [e1, e2, isl]
  generalize pI p = P at *
  generalize p.getD i 0 = a at *
  generalize sumF p i = u at *
  generalize mosF p i = v at *
  refine ⟨?_, ?h1, ?h2⟩
  case h1 =>
   simp -implicitDefEqProofs [loopS_eq, c14L0, hlt', hi, hPg, hPl, mx, q1, hw]
   exact rfl
  case h2 => simp
 ·simp -implicitDefEqProofs [loopS_eq, c14L0]

theorem shot18 {n : Nat} (hn : 1 ≤ n) (t a b c : Int) : RUN n 18 [iv 5, iv t, v3 a b c] = .ret (asl (shotL t a b c)) := by
 obtain ⟨d, rfl⟩ : ∃ d, n = d + 1 := ⟨n - 1, by omega⟩
 rw [RUN, call_eq fe18 _ rfl]
 simp -implicitDefEqProofs [c18, rowC, ac]
end Fw
end

section
set_option maxHeartbeats 16000000
set_option maxRecDepth 8000
namespace Fw
open Go

def wO (h : HallI) (X : List AVal) (a b c : Int) (sl : List PVal) : Sto := [(3, .arr [.int .i64 a, .int .i64 b, .int .i64 c] 0 1), (2, .arr sl 0 1), (1, .box X), (0, .box [iv h.doors, iv h.base, csl h.t0, csl h.t1, csl h.t2])]
def W0 (n : Int) (la wa m : Int) (G : AVal) (i : Nat) (j : Nat) : Env := [(2, .ptr 0 0 0), (3, .ptr 1 0 0), (5, iv n), (10, iv la), (11, iv wa), (18, .ptr 3 0 0), (22, iv m), (111, G), (112, iv i), (197, .agg [sv kOpen, sv kArm]), (198, iv j)]

theorem try_round {h : HallI} (hz : hallE h = 0) (g0 : h.t0.length < 1000000) (g1 : h.t1.length < 1000000) (g2 : h.t2.length < 1000000) (X : List AVal) (sl : List PVal) {n a b c : Int} (hn : 1 ≤ n ∧ n ≤ 64) (hv : valE a b c = 0) {m : Int} (hm : m = max (5 + h.base) (5 + n + waitP h a b c)) (hmb : m ≤ 100000000) (la wa : Int) (G : AVal) (i j : Nat) (hj : j < 2) :
  ∃ st1, loopS (evFn F C0 G0 60) C0 G0 0 false [2, 3, 5, 10, 11, 18, 22, 111, 112, 197, 198] c3L0 ⟨W0 n la wa m G i j, wO h X a b c sl⟩ = .ret (.normal, st1) ∧ loopS (evFn F C0 G0 60) C0 G0 0 false [2, 3, 5, 10, 11, 18, 22, 111, 112, 197, 198] c3L0 st1 = loopS (evFn F C0 G0 60) C0 G0 0 false [2, 3, 5, 10, 11, 18, 22, 111, 112, 197, 198] c3L0 ⟨W0 n la wa m G i (j + 1), wO h X a b c sl⟩ := by
 obtain ⟨_, _, _, hb0, hb1, hwt⟩ := hall_ok hz g0 g1 g2
 have hwt := hwt a b c
 have key : ∀ k : List UInt8, k = kOpen ∨ k = kArm → (∀ q, ([sv kOpen, sv kArm] : List AVal)[j]'q = sv k) → ∃ st1, loopS (evFn F C0 G0 60) C0 G0 0 false [2, 3, 5, 10, 11, 18, 22, 111, 112, 197, 198] c3L0 ⟨W0 n la wa m G i j, wO h X a b c sl⟩ = .ret (.normal, st1) ∧ st1 = ⟨W0 n la wa m G i (j + 1), wO h X a b c sl⟩ := by
  intro k hk hg
  have hlt' : (j : Int) < 2 := by omega
  have hw := wrap_succ (i := j) (by omega)
  have k17 := own17 (n := 60) (by omega) h g0 g1 g2
  have k18 := shot18 (n := 60) (by omega) (5 + n) a b c
  obtain ⟨c5, l5⟩ := chkW hz (t := 5 + n) (by omega) hv
  obtain ⟨c4, l4⟩ := chk4 hz
  rw [← hm] at l5
  obtain ⟨r1, k20a, d1⟩ := reasons20 (n := 60) (by omega) h g0 g1 g2 (shotL (5 + n) a b c) (by simp) (tryA m k)
  obtain ⟨r2, k20b, d2⟩ := reasons20 (n := 60) (by omega) h g0 g1 g2 (shotL (5 + n) a b c) (by simp) (tryA (m - 1) k)
  obtain ⟨r3, k20c, d3⟩ := reasons20 (n := 60) (by omega) h g0 g1 g2 [x1, x2, x3, x4] (by simp) (tryA m k)
  have eA : ∀ l y, chkE h l = 0 → actE h y = 0 → reaE h l y = 0 ∧ reaO h l y = reaL (lastS (runH h l).1) y := fun l y hc hy => by
   have ha : actsE h l = 0 := by
    unfold chkE at hc
    by_cases q : actsE h l = 0
    ·exact q
    ·rw [if_pos q] at hc
     exact absurd hc q
   have e : reaE h l y = 0 := by unfold reaE; rw [if_neg (by simpa using ha), if_neg (by simpa using hy), hc]
   exact ⟨e, by unfold reaO; rw [if_pos e]⟩
  obtain ⟨ea, oa⟩ := eA _ (tryA m k) c5 (tryE hz (by omega) hk)
  obtain ⟨eb, ob⟩ := eA _ (tryA (m - 1) k) c5 (tryE hz (by omega) hk)
  obtain ⟨ec, oc⟩ := eA _ (tryA m k) c4 (tryE hz (by omega) hk)
  rw [ea] at k20a
  rw [eb] at k20b
  rw [ec] at k20c
  rw [oa, l5, try_now (by omega) (by omega) hk] at d1
  rw [ob, l5] at d2
  rw [oc, l4] at d3
  have rl := fun s y => reaL_le s y
  have w2 := word21 (n := 60) (by omega) (reaL (sSm (5 + n) m) (tryA (m - 1) k)) wWait (by have := rl (sSm (5 + n) m) (tryA (m - 1) k); omega)
  have w3 := word21 (n := 60) (by omega) (reaL sS4 (tryA m k)) wWait (by have := rl sS4 (tryA m k); omega)
  rw [decide_eq_true (try_early hk)] at w2
  rw [decide_eq_true (try_held hk)] at w3
  have q1 := wrap64 (n := 5 + n) (by omega) (by omega)
  have q2 := wrap64 (n := m - 1) (by omega) (by omega)
  have hT : (rowC ac (shotL (5 + n) a b c)).take 24 = rowC ac [x1, x2, x3, x4] := rfl
  have hT5 : (rowC ac (shotL (5 + n) a b c)).length = 30 := rfl
  have hl5 : (shotL (5 + n) a b c).length = 5 := rfl
  have hl4 : ([x1, x2, x3, x4] : List ActI).length = 4 := rfl
  refine ⟨_, ?_, rfl⟩
  simp only [W0, wO, ha, csl, asl, strL, tryA, aa, hl5, hl4] at *
  generalize rowC ac (shotL (5 + n) a b c) = R5 at *
  generalize rowC ac [x1, x2, x3, x4] = R4 at *
  generalize reaL (sSm (5 + n) m) ⟨m - 1, k, 0, 0, 0, 0⟩ = L2 at *
  generalize reaL sS4 ⟨m, k, 0, 0, 0, 0⟩ = L3 at *
  generalize cI h.t0 = A0 at *
  generalize cI h.t1 = A1 at *
  generalize cI h.t2 = A2 at *
  simp -implicitDefEqProofs [loopS_eq, c3L0, hlt', hj, hg, k17, k18, k20a, k20b, k20c, d1, d2, d3, w2, w3, q1, q2, hT, hT5, hw]
 have hcase : j = 0 ∨ j = 1 := by omega
 rcases hcase with rfl | rfl
 ·obtain ⟨st1, k1, k2⟩ := key kOpen (.inl rfl) (fun _ => rfl)
  exact ⟨st1, k1, by rw [k2]⟩
 ·obtain ⟨st1, k1, k2⟩ := key kArm (.inr rfl) (fun _ => rfl)
  exact ⟨st1, k1, by rw [k2]⟩
end Fw
end

