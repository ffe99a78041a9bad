/- Several texts in one: steps of the proof, no condition of their own. -/
import Derived.Test.YthiklnppmlmjeaaDoorTgRA
import Derived.Test.YthiklnppmlmjeaaDoorTgR2
import Derived.Test.YthiklnppmlmjeaaDoorTgH3
import Derived.Test.YthiklnppmlmjeaaDoorFwC
attribute [local irreducible] Fw.evCode Fw.evOps Fw.evOpsD Fw.evOper Fw.evOperD Fw.evOp Fw.evFn Fw.loopN Fw.T.All Fw.T.bind Fw.callPure Fw.callOp Fw.opsK Fw.opsDK Fw.restK Fw.seqK Fw.blockK Fw.loopS Fw.setK Fw.setQ Fw.giveK Fw.scalK Fw.gcK Fw.finish Fw.finS Fw.rfunK Fw.yldK Fw.yldB Fw.loopK
section
set_option maxHeartbeats 16000000
namespace Fw
open Go

def chkE (h : HallI) (l : List ActI) : Int := if actsE h l ≠ 0 then actsE h l else if (runH h l).2 = true then 0 else 21
theorem runH_lt (h : HallI) {l : List ActI} (hl : l.length < 50000) : (runH h l).1.length < 50000 := by
 have := (runG_len h.base (wP h) l bgS).1
 rw [show runG h.base (wP h) bgS l = runH h l from rfl] at this
 omega
end Fw
end

section
set_option maxHeartbeats 16000000
namespace Fw
open Go

theorem cI_len2 (l : List (Int × Int)) : (cI l).length = l.length * 2 := by
 induction l with
 | nil => rfl
 | cons x r ih => simp only [cI, List.length_cons, ih]; omega
theorem admitted19 {n : Nat} (hn : 10 ≤ n) (h : HallI) (q0 : h.t0.length < 1000000) (q1 : h.t1.length < 1000000) (q2 : h.t2.length < 1000000) (l : List ActI) (hl : l.length < 50000) : RUN n 19 [ha h, asl l] = .ret (.tup [iv (if chkE h l = 0 then (lastS (runH h l).1).adm else 0), iv (chkE h l)]) := by
 obtain ⟨d, rfl⟩ : ∃ d, n = d + 10 := ⟨n - 10, by omega⟩
 rw [RUN, call_eq fe19 _ rfl]
 have k88 := followed60 (n := d + 9) (by omega) h q0 q1 q2 l hl
 have k89 := last61 (n := d + 9) (by omega) (runH h l).1 (by have := runH_lt h hl; omega)
 unfold folR at k88
 unfold chkE
 by_cases h0 : actsE h l = 0
 ·rw [if_neg (by simp [h0])] at k88
  simp only [h0, ne_eq, not_true_eq_false, if_false]
  generalize lastS (runH h l).1 = s at *
  simp only [stl] at k89
  generalize rowC sc (runH h l).1 = B at *
  generalize (runH h l).1.length = y at *
  simp only [ha, csl, asl] at *
  generalize cI h.t0 = A0 at *
  generalize cI h.t1 = A1 at *
  generalize cI h.t2 = A2 at *
  generalize rowC ac l = A at *
  cases hw : (runH h l).2
  ·simp only [hw, Bool.false_eq_true, if_false] at k88 ⊢
   simp -implicitDefEqProofs [c19, k88]
  ·simp only [hw, if_true] at k88 ⊢
   obtain ⟨st, o0, o1, o2, o3, o4, o5, o6, o7, k0, k1, pp, ar, sh, ad⟩ := s
   simp -implicitDefEqProofs [c19, k88, k89]
 ·rw [if_pos h0] at k88
  simp only [h0, ne_eq, not_false_eq_true, if_true, if_false]
  generalize actsE h l = e at *
  simp only [ha, csl, asl] at *
  generalize cI h.t0 = A0 at *
  generalize cI h.t1 = A1 at *
  generalize cI h.t2 = A2 at *
  generalize rowC ac l = A at *
  simp -implicitDefEqProofs [c19, k88, h0]
end Fw
end

section
set_option maxHeartbeats 16000000
namespace Fw
open Go

end Fw
end

section
set_option maxHeartbeats 16000000
namespace Fw
open Go

abbrev sp2 (a b : Int) : AVal := .agg [iv a, iv b]
end Fw
end

section
set_option maxHeartbeats 16000000
namespace Fw
open Go

theorem short7 {n : Nat} (hn : 1 ≤ n) (h : HallI) : RUN n 7 [ha h] = .ret (.p (.bool (decide (h.t0.length ≤ 9) && (decide (h.t1.length ≤ 9) && decide (h.t2.length ≤ 9))))) := by
 obtain ⟨d, rfl⟩ : ∃ d, n = d + 1 := ⟨n - 1, by omega⟩
 rw [RUN, call_eq fe7 _ rfl]
 by_cases h0 : h.t0.length ≤ 9
 ·have h0' : (h.t0.length : Int) ≤ 9 := by omega
  by_cases h1 : h.t1.length ≤ 9
  ·have h1' : (h.t1.length : Int) ≤ 9 := by omega
   by_cases h2 : h.t2.length ≤ 9
   ·have h2' : (h.t2.length : Int) ≤ 9 := by omega
    simp -implicitDefEqProofs [c7, h0, h1, h2, h0', h1', h2']
   ·have h2' : ¬ (h.t2.length : Int) ≤ 9 := by omega
    simp -implicitDefEqProofs [c7, h0, h1, h2, h0', h1', h2']
  ·have h1' : ¬ (h.t1.length : Int) ≤ 9 := by omega
   simp -implicitDefEqProofs [c7, h0, h1, h0', h1']
 ·have h0' : ¬ (h.t0.length : Int) ≤ 9 := by omega
  simp -implicitDefEqProofs [c7, h0, h0']

end Fw
end

section
set_option maxHeartbeats 16000000
namespace Fw
open Go

end Fw
end

section
set_option maxHeartbeats 16000000
namespace Fw
open Go

end Fw
end

section
set_option maxHeartbeats 4000000
namespace Fw
open Go

theorem wtP_mono (l : List (Int × Int)) {v v' acc acc' : Int} (hv : v ≤ v') (ha : acc ≤ acc') : ∀ k, wtP l v acc k ≤ wtP l v' acc' k := by
 intro k
 induction k with
 | zero => exact ha
 | succ k ih =>
  simp only [wtP]
  by_cases h1 : (l.getD k (0, 0)).1 ≤ v
  ·rw [if_pos h1, if_pos (by omega)]; omega
  ·rw [if_neg h1]
   split <;> omega
theorem waitP_mono (h : HallI) {a b c a' b' c' : Int} (h1 : a ≤ a') (h2 : b ≤ b') (h3 : c ≤ c') : waitP h a b c ≤ waitP h a' b' c' :=
 wtP_mono _ h3 (wtP_mono _ h2 (wtP_mono _ h1 (Int.le_refl _) _) _) _
/-! the acts of a shot -/
abbrev x1 : ActI := ⟨0, kInsert, 0, 0, 0, 0⟩
abbrev x2 : ActI := ⟨0, kInsert, 1, 0, 0, 0⟩
abbrev x3 : ActI := ⟨1, kArm, 0, 0, 0, 0⟩
abbrev x4 : ActI := ⟨5, kShoot, 0, 0, 0, 0⟩
abbrev xm (t a b c : Int) : ActI := ⟨t, kMeasure, 0, a, b, c⟩
def sS1 : StaI := ⟨0, false, false, false, false, false, false, false, false, true, false, 0, false, -1, 0⟩
def sS2 : StaI := ⟨0, false, false, false, false, false, false, false, false, true, true, 0, false, -1, 0⟩
def sS3 : StaI := ⟨1, false, false, false, false, false, false, false, false, true, true, 0, true, -1, 0⟩
def sS4 : StaI := ⟨5, false, false, false, false, false, false, false, false, true, true, 0, false, 5, -1⟩
def sSm (t adm : Int) : StaI := ⟨t, false, false, false, false, false, false, false, false, true, true, 0, false, 5, adm⟩
theorem r1 : (reaL bgS x1).length = 0 := by decide
theorem r2 : (reaL sS1 x2).length = 0 := by decide
theorem r3 : (reaL sS2 x3).length = 0 := by decide
theorem r4 : (reaL sS3 x4).length = 0 := by decide
theorem r5 (a b c : Int) : (reaL sS4 (xm 9 a b c)).length = 0 := by rw [reaL_nil]; simp [stB, armB, dooB, peoB, keyR, waiB, sS4]
theorem r6 (m a b c : Int) : (reaL (sSm 9 m) (xm 30 a b c)).length = 0 := by rw [reaL_nil]; simp [stB, armB, dooB, peoB, keyR, waiB, sSm]
theorem a1 (base W : Int) : aftS base W bgS x1 = sS1 := by simp [aftS, bgS, sS1, setY]
theorem a2 (base W : Int) : aftS base W sS1 x2 = sS2 := by simp [aftS, sS1, sS2, setY]
theorem a3 (base W : Int) : aftS base W sS2 x3 = sS3 := by simp [aftS, sS2, sS3]
theorem a4 (base W : Int) : aftS base W sS3 x4 = sS4 := by simp [aftS, sS3, sS4]
theorem a5 (base W a b c : Int) : aftS base W sS4 (xm 9 a b c) = sSm 9 (max (5 + base) (9 + W)) := by simp [aftS, sS4, sSm]
theorem a6 (base W m a b c : Int) : aftS base W (sSm 9 m) (xm 30 a b c) = sSm 30 (max (5 + base) (30 + W)) := by simp [aftS, sSm]
theorem run4 (h : HallI) : runH h [x1, x2, x3, x4] = ([sS1, sS2, sS3, sS4], true) := by
 simp only [runH, runG, r1, r2, r3, r4, a1, a2, a3, a4, if_true]
theorem valE_ok {a b c : Int} (h1 : 0 ≤ a ∧ a ≤ 100000) (h2 : 0 ≤ b ∧ b ≤ 100000) (h3 : 0 ≤ c ∧ c ≤ 100000) : valE a b c = 0 := by
 have e1 : rangeE 0 100000 a = 0 := by unfold rangeE; rw [if_neg (by omega)]
 have e2 : rangeE 0 100000 b = 0 := by unfold rangeE; rw [if_neg (by omega)]
 have e3 : rangeE 0 100000 c = 0 := by unfold rangeE; rw [if_neg (by omega)]
 simp [valE, firstE, e1, e2, e3]
theorem actE_m {h : HallI} {t a b c : Int} (ht : 0 ≤ t ∧ t ≤ 100000000) (hv : valE a b c = 0) : actE h (xm t a b c) = 0 := by
 have e1 : rangeE 0 100000000 t = 0 := by unfold rangeE; rw [if_neg (by omega)]
 have e2 : numsE h kMeasure = 1 := rfl
 have e3 : kMeasure ∈ kindL := by decide
 simp only [actE, e1, e2, e3, hv]
 simp
theorem actE_1 (h : HallI) : actE h x1 = 0 := by
 have e2 : numsE h kInsert = 2 := rfl
 have e3 : kInsert ∈ kindL := by decide
 have e4 : ¬ kInsert = kMeasure := by decide
 simp only [actE, e2, e3, e4]
 decide
theorem actE_2 (h : HallI) : actE h x2 = 0 := by
 have e2 : numsE h kInsert = 2 := rfl
 have e3 : kInsert ∈ kindL := by decide
 have e4 : ¬ kInsert = kMeasure := by decide
 simp only [actE, e2, e3, e4]
 decide
theorem actE_3 (h : HallI) : actE h x3 = 0 := by
 have e2 : numsE h kArm = 1 := rfl
 have e3 : kArm ∈ kindL := by decide
 have e4 : ¬ kArm = kMeasure := by decide
 simp only [actE, e2, e3, e4]
 decide
theorem actE_4 (h : HallI) : actE h x4 = 0 := by
 have e2 : numsE h kShoot = 1 := rfl
 have e3 : kShoot ∈ kindL := by decide
 have e4 : ¬ kShoot = kMeasure := by decide
 simp only [actE, e2, e3, e4]
 decide
theorem acts4 {h : HallI} (hz : hallE h = 0) : actsE h [x1, x2, x3, x4] = 0 := by
 have hr : List.range 4 = [0, 1, 2, 3] := rfl
 simp [actsE, hz, firstE, whenE, hr, actE_1, actE_2, actE_3, actE_4]
/-! moves -/
end Fw
end

section
set_option maxHeartbeats 16000000
set_option maxRecDepth 8000
namespace Fw
open Go

end Fw
end

section
set_option maxHeartbeats 16000000
set_option maxRecDepth 8000
namespace Fw
open Go

structure ActP (x : ActI) : Prop where
 k : x.kind ∈ kindL
 t : 0 ≤ x.tick ∧ x.tick ≤ 100000000
 n : 0 ≤ x.num ∧ x.num ≤ 8
 a : 0 ≤ x.a ∧ x.a ≤ 100000
 b : 0 ≤ x.b ∧ x.b ≤ 100000
 c : 0 ≤ x.c ∧ x.c ≤ 100000
abbrev M129 (t m a b c : Int) (k : List UInt8) (S : List UInt8) (i : Nat) : St := ⟨[(1, .ptr 0 0 0), (3, sv S), (4, iv i)], [(0, .arr [.int .i64 t, .str k, .int .i64 m, .int .i64 a, .int .i64 b, .int .i64 c] 0 1)]⟩
end Fw
end

section
set_option maxHeartbeats 4000000
namespace Fw
open Go

end Fw
end

section
set_option maxHeartbeats 16000000
set_option maxRecDepth 8000
namespace Fw
open Go

end Fw
end

section
set_option maxHeartbeats 16000000
set_option maxRecDepth 8000
namespace Fw
open Go

abbrev iEnd (x : List UInt8) (v : Int) : Env := [(0, sv x), (4, iv v), (8, .it 0), (9, .tup [.p (.bool false)]), (10, .p (.bool false))]
abbrev rEnd : Env := [(2, iv 0), (3, .p (.bool false))]
end Fw
end

section
set_option maxHeartbeats 16000000
set_option maxRecDepth 8000
namespace Fw
open Go

abbrev tkA (ws : List (List UInt8)) (w : Bool) : Obj := .box [.p (.sl (pStr ws) ws.length), .p (.bool w)]
end Fw
end

section
set_option maxHeartbeats 16000000
set_option maxRecDepth 8000
namespace Fw
open Go

def wordsA : List (List UInt8) → Option ActI
 | [k, t] => if k ∈ [kArm, kDisarm, kShoot] ∧ digOk t = true then some ⟨digV t, k, 0, 0, 0, 0⟩ else none
 | [k, t, m] => if k ∈ kindL ∧ ¬ k = kMeasure ∧ ¬ k ∈ [kArm, kDisarm, kShoot] ∧ digOk t = true ∧ digOk m = true then some ⟨digV t, k, digV m, 0, 0, 0⟩ else none
 | [k, t, a, b, c] => if k = kMeasure ∧ digOk t = true ∧ digOk a = true ∧ digOk b = true ∧ digOk c = true then some ⟨digV t, k, 0, digV a, digV b, digV c⟩ else none
 | _ => none
def actW (w : List UInt8) : Option ActI := wordsA (splitS 32 w)
end Fw
end

section
set_option maxHeartbeats 16000000
set_option maxRecDepth 8000
namespace Fw
open Go

abbrev vsK : List PVal := [.int .i64 0, .int .i64 1, .int .i64 2, .int .i64 3, .int .i64 4, .int .i64 5, .int .i64 6, .int .i64 7, .int .i64 8, .int .i64 9]
abbrev mX (v : Int) (k : List UInt8) (a b c : Int) : Obj := .arr [.int .i64 v, .str k, .int .i64 0, .int .i64 a, .int .i64 b, .int .i64 c] 0 1
abbrev mZ : Obj := .arr [.int .i64 0, .str [], .int .i64 0, .int .i64 0, .int .i64 0, .int .i64 0] 0 1
end Fw
end

section
set_option maxHeartbeats 16000000
set_option maxRecDepth 8000
namespace Fw
open Go

def hc (h : HallI) : List AVal := [iv h.doors, iv h.base, csl h.t0, csl h.t1, csl h.t2]
end Fw
end

section
set_option maxHeartbeats 16000000
set_option maxRecDepth 8000
namespace Fw
open Go

def goL : List (List UInt8) → List ActI → Bool × List ActI
 | [], out => (true, out)
 | w :: q, out => match q with
  | [] => (decide (w = []), out)
  | _ :: _ => match actW w with
   | some x => goL q (out ++ [x])
   | none => (false, out)

def lE : Env := [(0, .yld 7), (1, .ptr 6 0 0)]

end Fw
end

section
set_option maxHeartbeats 16000000
set_option maxRecDepth 8000
namespace Fw
open Go

end Fw
end

section
set_option maxHeartbeats 16000000
set_option maxRecDepth 8000
namespace Fw
open Go

end Fw
end

section
set_option maxHeartbeats 16000000
set_option maxRecDepth 8000
namespace Fw
open Go

end Fw
end

section
set_option maxHeartbeats 16000000
set_option maxRecDepth 8000
namespace Fw
open Go

end Fw
end

