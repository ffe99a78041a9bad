/- Several texts in one: steps of the proof, no condition of their own. -/
import Derived.Test.YtdjkleaojdeepaaGreatDoorGaRB
import Derived.Test.YtdjkleaojdeepaaGreatDoorFwC
attribute [local irreducible] Fw.evCode Fw.evOps Fw.evOpsD Fw.evOper Fw.evOperD Fw.evOp Fw.evFn Fw.loopN Fw.T.All Fw.T.bind Fw.callPure Fw.callOp Fw.opsK Fw.opsDK Fw.restK Fw.seqK Fw.blockK Fw.loopS Fw.setK Fw.setQ Fw.giveK Fw.scalK Fw.gcK Fw.finish Fw.finS Fw.rfunK Fw.yldK Fw.yldB Fw.loopK
section
set_option maxHeartbeats 16000000
set_option maxRecDepth 8000
namespace Fw
open Go

end Fw
end

section
set_option maxHeartbeats 16000000
set_option maxRecDepth 8000
namespace Fw
open Go

structure ActP (x : ActI) : Prop where
 k : x.kind ∈ kindL
 t : 0 ≤ x.tick ∧ x.tick ≤ 100000000
 n : 0 ≤ x.num ∧ x.num ≤ 8
 a : 0 ≤ x.a ∧ x.a ≤ 100000
 b : 0 ≤ x.b ∧ x.b ≤ 100000
 c : 0 ≤ x.c ∧ x.c ≤ 100000
theorem actP_of {h : HallI} (hd : h.doors ≤ 8) {x : ActI} (he : actE h x = 0) : ActP x := by
 unfold actE at he
 split at he
 ·omega
 ·rename_i h0
  split at he
  ·cases he
  ·rename_i h1
   split at he
   ·cases he
   ·rename_i h2
    have h0 : rangeE 0 100000000 x.tick = 0 := by simpa using h0
    unfold rangeE at h0
    have hn : numsE h x.kind ≤ 8 := by
     unfold numsE
     repeat' split
     all_goals omega
    have h3 : (0 ≤ x.a ∧ x.a ≤ 100000) ∧ (0 ≤ x.b ∧ x.b ≤ 100000) ∧ (0 ≤ x.c ∧ x.c ≤ 100000) := by
     split at he
     ·unfold valE at he
      have v1 := firstE_zero.1 he (rangeE 0 100000 x.a) (by simp)
      have v2 := firstE_zero.1 he (rangeE 0 100000 x.b) (by simp)
      have v3 := firstE_zero.1 he (rangeE 0 100000 x.c) (by simp)
      unfold rangeE at v1 v2 v3
      split at v1
      ·cases v1
      ·split at v2
       ·cases v2
       ·split at v3
        ·cases v3
        ·omega
     ·cases hz : zerB x.a x.b x.c with
      | false => rw [hz] at he; cases he
      | true =>
       simp only [zerB, Bool.and_eq_true, beq_iff_eq] at hz
       omega
    split at h0
    ·cases h0
    ·exact ⟨by simpa using h1, by omega, by omega, h3.1, h3.2.1, h3.2.2⟩
theorem kinds3 {k : List UInt8} (h : k ∈ kindL) : k.length ≤ 7 ∧ ((k = kMeasure ∧ doorB k = false ∧ keyB k = false) ∨ (¬ k = kMeasure ∧ k ∈ [kArm, kDisarm, kShoot] ∧ doorB k = false ∧ keyB k = false) ∨ (¬ k = kMeasure ∧ ¬ k ∈ [kArm, kDisarm, kShoot] ∧ (doorB k = true ∨ (doorB k = false ∧ keyB k = true)))) := by
 simp only [kindL, List.mem_cons, List.not_mem_nil, or_false] at h
 rcases h with h | h | h | h | h | h | h | h | h | h <;> subst h <;> decide
abbrev M129 (t m a b c : Int) (k : List UInt8) (S : List UInt8) (i : Nat) : St := ⟨[(1, .ptr 0 0 0), (3, sv S), (4, iv i)], [(0, .arr [.int .i64 t, .str k, .int .i64 m, .int .i64 a, .int .i64 b, .int .i64 c] 0 1)]⟩
end Fw
end

section
set_option maxHeartbeats 16000000
set_option maxRecDepth 8000
namespace Fw
open Go

end Fw
end

section
set_option maxHeartbeats 16000000
set_option maxRecDepth 8000
namespace Fw
open Go

end Fw
end

section
set_option maxHeartbeats 16000000
set_option maxRecDepth 8000
namespace Fw
open Go

end Fw
end

section
set_option maxHeartbeats 16000000
set_option maxRecDepth 8000
namespace Fw
open Go

end Fw
end

section
set_option maxHeartbeats 16000000
set_option maxRecDepth 8000
namespace Fw
open Go

abbrev iEnd (x : List UInt8) (v : Int) : Env := [(0, sv x), (4, iv v), (8, .it 0), (9, .tup [.p (.bool false)]), (10, .p (.bool false))]
abbrev rEnd : Env := [(2, iv 0), (3, .p (.bool false))]
end Fw
end

section
set_option maxHeartbeats 16000000
set_option maxRecDepth 8000
namespace Fw
open Go

abbrev tkA (ws : List (List UInt8)) (w : Bool) : Obj := .box [.p (.sl (pStr ws) ws.length), .p (.bool w)]
end Fw
end

section
set_option maxHeartbeats 16000000
set_option maxRecDepth 8000
namespace Fw
open Go

def wordsA : List (List UInt8) → Option ActI
 | [k, t] => if k ∈ [kArm, kDisarm, kShoot] ∧ digOk t = true then some ⟨digV t, k, 0, 0, 0, 0⟩ else none
 | [k, t, m] => if k ∈ kindL ∧ ¬ k = kMeasure ∧ ¬ k ∈ [kArm, kDisarm, kShoot] ∧ digOk t = true ∧ digOk m = true then some ⟨digV t, k, digV m, 0, 0, 0⟩ else none
 | [k, t, a, b, c] => if k = kMeasure ∧ digOk t = true ∧ digOk a = true ∧ digOk b = true ∧ digOk c = true then some ⟨digV t, k, 0, digV a, digV b, digV c⟩ else none
 | _ => none
def actW (w : List UInt8) : Option ActI := wordsA (splitS 32 w)
end Fw
end

section
set_option maxHeartbeats 16000000
set_option maxRecDepth 8000
namespace Fw
open Go

abbrev vsK : List PVal := [.int .i64 0, .int .i64 1, .int .i64 2, .int .i64 3, .int .i64 4, .int .i64 5, .int .i64 6, .int .i64 7, .int .i64 8, .int .i64 9]
abbrev mE (i : Int) : Env := [(2, .ptr 0 0 0), (4, .ptr 1 0 0), (5, .clo 157 [.ptr 1 0 0] []), (6, .ptr 2 0 0), (26, iv i)]
abbrev mX (v : Int) (k : List UInt8) (a b c : Int) : Obj := .arr [.int .i64 v, .str k, .int .i64 0, .int .i64 a, .int .i64 b, .int .i64 c] 0 1
abbrev mZ : Obj := .arr [.int .i64 0, .str [], .int .i64 0, .int .i64 0, .int .i64 0, .int .i64 0] 0 1
end Fw
end

section
set_option maxHeartbeats 16000000
set_option maxRecDepth 8000
namespace Fw
open Go

def hc (h : HallI) : List AVal := [iv h.doors, iv h.base, csl h.t0, csl h.t1, csl h.t2]
end Fw
end

section
set_option maxHeartbeats 16000000
set_option maxRecDepth 8000
namespace Fw
open Go

def goL : List (List UInt8) → List ActI → Bool × List ActI
 | [], out => (true, out)
 | w :: q, out => match q with
  | [] => (decide (w = []), out)
  | _ :: _ => match actW w with
   | some x => goL q (out ++ [x])
   | none => (false, out)

def lE : Env := [(0, .yld 7), (1, .ptr 6 0 0)]

end Fw
end

section
set_option maxHeartbeats 16000000
set_option maxRecDepth 8000
namespace Fw
open Go

end Fw
end

section
set_option maxHeartbeats 4000000
namespace Fw
open Go

end Fw
end

section
set_option maxHeartbeats 16000000
namespace Fw
open Go

structure ShA (x : ActI) : Prop where
 k : x.kind ∈ kindL
 t : 0 ≤ x.tick ∧ x.tick ≤ 999999999
 n : 0 ≤ x.num ∧ x.num ≤ 999999999
 a : 0 ≤ x.a ∧ x.a ≤ 999999999
 b : 0 ≤ x.b ∧ x.b ≤ 999999999
 c : 0 ≤ x.c ∧ x.c ≤ 999999999
 z1 : x.kind = kMeasure → x.num = 0
 z2 : x.kind ∈ [kArm, kDisarm, kShoot] → x.num = 0
 z3 : ¬ x.kind = kMeasure → x.a = 0 ∧ x.b = 0 ∧ x.c = 0
theorem shA_of {h : HallI} (hd : h.doors ≤ 8) {x : ActI} (he : actE h x = 0) : ShA x := by
 obtain ⟨p1, p2, p3, p4, p5, p6⟩ := actP_of hd he
 have hn : (x.kind = kMeasure ∨ x.kind ∈ [kArm, kDisarm, kShoot]) → x.num = 0 := by
  intro hk
  have hno : numsE h x.kind = 1 := by
   have hh : doorB x.kind = false ∧ keyB x.kind = false := by
    rcases (kinds3 p1).2 with q | q | q
    ·exact q.2
    ·exact q.2.2
    ·rcases hk with e | e
     ·exact absurd e q.1
     ·exact absurd e q.2.1
   unfold numsE
   rw [hh.1, hh.2]; rfl
  unfold actE at he
  by_cases c1 : rangeE 0 100000000 x.tick ≠ 0
  ·rw [if_pos c1] at he; exact absurd he c1
  ·rw [if_neg c1, if_neg (by simpa using p1)] at he
   by_cases c2 : x.num < 0 ∨ numsE h x.kind ≤ x.num
   ·rw [if_pos c2] at he; cases he
   ·rw [hno] at c2; omega
 refine ⟨p1, by omega, by omega, by omega, by omega, by omega, fun e => hn (.inl e), fun e => hn (.inr e), fun hm => ?_⟩
 unfold actE at he
 by_cases c1 : rangeE 0 100000000 x.tick ≠ 0
 ·rw [if_pos c1] at he; exact absurd he c1
 ·rw [if_neg c1, if_neg (by simpa using p1)] at he
  by_cases c2 : x.num < 0 ∨ numsE h x.kind ≤ x.num
  ·rw [if_pos c2] at he; cases he
  ·rw [if_neg c2, if_neg hm] at he
   cases hz : zerB x.a x.b x.c with
   | false => rw [hz] at he; cases he
   | true =>
    simp only [zerB, Bool.and_eq_true, beq_iff_eq] at hz
    exact hz

theorem chk_parts {h : HallI} {l : List ActI} (hc : chkE h l = 0) : actsE h l = 0 ∧ (runH h l).2 = true ∧ ∀ x ∈ l, ShA x := by
 unfold chkE at hc
 split at hc
 ·rename_i q; exact absurd hc q
 ·rename_i q
  have q : actsE h l = 0 := by simpa using q
  obtain ⟨z1, z2, z3⟩ := acts_ok q
  refine ⟨q, ?_, fun x hx => shA_of (doors_of z1).2 (z3 x hx)⟩
  split at hc
  ·rename_i r; exact r
  ·cases hc
end Fw
end

