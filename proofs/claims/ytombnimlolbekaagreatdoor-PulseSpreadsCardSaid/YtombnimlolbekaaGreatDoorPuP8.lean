/- Runs that are alike: the pulse chapter and its reference. -/
import Derived.Test.YtombnimlolbekaaGreatDoorPuP7
set_option maxHeartbeats 8000000
namespace Fw
open Go
attribute [local irreducible] evCode evOps evOpsD evOper evOperD evOp evFn loopN T.All T.bind callPure callOp opsK opsDK restK seqK blockK loopS setK setQ giveK scalK gcK finish finS rfunK yldK yldB loopK

theorem loF_in {l : List Int} {b : Int} (h : ∀ a ∈ l, -b ≤ a ∧ a ≤ b) : ∀ (k : Nat), k < l.length → (-b ≤ loF l k ∧ loF l k ≤ b) ∧ (-b ≤ hiF l k ∧ hiF l k ≤ b) := by
  intro k
  induction k with
  | zero =>
    intro hk
    have hg : l.getD 0 0 = l[0] := by simp [List.getD_eq_getElem?_getD, List.getElem?_eq_getElem hk]
    have := h l[0] (List.getElem_mem hk)
    simp only [loF, hiF, hg]
    exact ⟨this, this⟩
  | succ k ih =>
    intro hk
    have hg : l.getD (k + 1) 0 = l[k + 1] := by simp [List.getD_eq_getElem?_getD, List.getElem?_eq_getElem hk]
    have h1 := h l[k + 1] (List.getElem_mem hk)
    have h2 := ih (by omega)
    simp only [loF, hiF, hg]
    omega

theorem RunsOk.spread {ls : List (List Int)} {m : Nat} (h : RunsOk ls m) : ∀ x ∈ spreadL ls m, -200000 ≤ x.2 - x.1 ∧ x.2 - x.1 ≤ 200000 := by
  intro x hx
  obtain ⟨k, hk, rfl⟩ := List.mem_map.1 hx
  have hk' := List.mem_range.1 hk
  have hp := h.pos
  have := loF_in (l := colL ls k) (b := 100000) (fun a ha => by
    obtain ⟨l, hl, rfl⟩ := List.mem_map.1 ha
    have : k < l.length := by rw [h.len l hl]; exact hk'
    have hg : l.getD k 0 = l[k] := by simp [List.getD_eq_getElem?_getD, List.getElem?_eq_getElem this]
    rw [hg]
    exact h.acc l hl _ (List.getElem_mem this)) (ls.length - 1) (by simp [colL]; omega)
  simp only [loC, hiC]
  omega

def alikeB (ls : List (List Int)) (m : Nat) (t : Int) : Bool := !(spreadL ls m).any fun x => decide (t < x.2 - x.1)
def badA (ls : List (List Int)) (t : Int) : Int := firstE [runsE ls, rangeE 0 100000 t]

theorem alike59 {n : Nat} (hn : 10 ≤ n) (ls : List (List Int)) (t : Int) (hl : ls.length < 1000000) (hi : ∀ l ∈ ls, l.length < 1000000) : RUN n 59 [llsl ls, iv t] = .ret (.tup [.p (.bool (if badA ls t = 0 then alikeB ls (m0 ls) t else false)), iv (badA ls t)]) := by
  obtain ⟨d, rfl⟩ : ∃ d, n = d + 10 := ⟨n - 10, by omega⟩
  rw [RUN, call_eq fe59 _ rfl]
  have h120 := runs120 (n := d + 9) (by omega) ls hl hi
  have h95 := within95 (n := d + 9) (by omega) t 0 100000
  have h92 := first92_2 (n := d + 9) (by omega) (runsE ls) (rangeE 0 100000 t)
  have hb : firstE [runsE ls, rangeE 0 100000 t] = badA ls t := rfl
  rw [hb] at h92
  by_cases hz : badA ls t = 0
  · have h := runs_of (firstE_zero.1 hz (runsE ls) (by simp))
    have hsm := h.small
    have h1 := spread121 (n := d + 9) (by omega) ls (m0 ls) h.pos hl h.len (by simp only [m0]; omega)
    have h2 := contains98 (d := d + 7) (spreadL ls (m0 ls)) 123 [.pp [.int .i64 t]] (fun x => decide (t < x.2 - x.1)) (by simp) (by rw [spreadL_length]; simp only [m0]; omega) (fun x hx => by
      have := h.spread x hx
      exact wide123 (n := d + 7) (by omega) t x (by omega) (by omega))
    simp only [csl, spreadL_length] at h2
    rw [if_pos hz]
    simp -implicitDefEqProofs [c59, h120, h95, h92, hz, h1, h2, alikeB]
  · rw [if_neg hz]
    simp -implicitDefEqProofs [c59, h120, h95, h92, hz]
end Fw
