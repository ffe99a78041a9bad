/- Spread, Mean and Alike: the pulse chapter. -/
import Derived.Test.YtombnimlolbekaaGreatDoorPuP5
set_option maxHeartbeats 8000000
namespace Fw
open Go
attribute [local irreducible] evCode evOps evOpsD evOper evOperD evOp evFn loopN T.All T.bind callPure callOp opsK opsDK restK seqK blockK loopS setK setQ giveK scalK gcK finish finS rfunK yldK yldB loopK

abbrev m0 (ls : List (List Int)) : Nat := (ls.getD 0 []).length

theorem mean58 {n : Nat} (hn : 10 ≤ n) (ls : List (List Int)) (hl : ls.length < 1000000) (hi : ∀ l ∈ ls, l.length < 1000000) : RUN n 58 [llsl ls] = .ret (if runsE ls = 0 then .tup [.own (pI (meanL ls (m0 ls))) (m0 ls) 1, iv 0] else .tup [.p (.sl [] 0), iv (runsE ls)]) := by
  obtain ⟨d, rfl⟩ : ∃ d, n = d + 10 := ⟨n - 10, by omega⟩
  rw [RUN, call_eq fe58 _ rfl]
  have h120 := runs120 (n := d + 9) (by omega) ls hl hi
  by_cases hz : runsE ls = 0
  · rw [if_pos hz]
    have h := runs_of hz
    have hg0 : ls.getD 0 [] = ls[0]'h.pos := by simp [List.getD_eq_getElem?_getD, List.getElem?_eq_getElem h.pos]
    generalize hm : m0 ls = m at *
    have h : RunsOk ls m := by rw [← hm]; exact h
    have hm2 := h.small
    have hfew := h.few
    have h0 := h.pos
    let inv : Nat → St := fun i => ⟨[(0, llsl ls), (5, .sl 0 i 0 i), (18, iv m), (19, iv i)], [(0, .arr (pI ((meanL ls m).take i)) i 1)]⟩
    have hvl := meanL_length ls m
    have htl : (meanL ls m).take m = meanL ls m := List.take_of_length_le (by omega)
    have hl0 : ls[0].length = m := h.len _ (List.getElem_mem h0)
    have hq0 : ls[0]? = some ls[0] := List.getElem?_eq_getElem h0
    simp -implicitDefEqProofs [c58, h120, hz, h0, hl0, lsl]
    rw [loop_run inv m (e := .exit 0) (st' := ⟨(inv m).env ++ [(20, .p (.bool false))], (inv m).sto⟩) (by simp)]
    · simp -implicitDefEqProofs [inv, htl, hvl]
    · rfl
    · intro i hi
      have hlim : i + 1 ≤ lim := by simp only [lim]; omega
      have hto : ((meanL ls m).take i).length = i := by simp [hvl]; omega
      have ht := take_mean ls m i hi
      let in2 : Nat → St := fun q => ⟨[(0, llsl ls), (5, .sl 0 i 0 i), (6, iv i), (7, iv (sumF (colL ls i) q)), (18, iv m), (19, iv i), (22, llsl ls), (23, iv ls.length), (24, iv q)], [(0, .arr (pI ((meanL ls m).take i)) i 1)]⟩
      have inner : loopN (loopS (evFn F C0 G0 (d + 9)) C0 G0 0 false [0, 5, 6, 7, 18, 19, 22, 23, 24] c58L0) loopFuel ⟨[(0, llsl ls), (5, .sl 0 i 0 i), (6, iv i), (7, iv 0), (18, iv m), (19, iv i), (22, llsl ls), (23, iv ls.length), (24, iv 0)], [(0, .arr (pI ((meanL ls m).take i)) i 1)]⟩ = .ret (.exit 2, ⟨(in2 ls.length).env ++ [(25, .p (.bool false))], (in2 ls.length).sto⟩) := by
        refine loop_run in2 ls.length (by simp) rfl ?_ ?_ (by simp [loopFuel]; omega)
        · intro q hq
          have hb : (q : Int) < ls.length := by omega
          have hlq : ls[q].length = m := h.len _ (List.getElem_mem hq)
          have hiq : i < ls[q].length := by omega
          have hiqb : (i : Int) < ls[q].length := by omega
          have hd := drop_lsl ls q hq
          have hc := col_get h hi hq
          have hs : sumF (colL ls i) (q + 1) = sumF (colL ls i) q + ls[q][i] := by simp only [sumF, hc]
          have hbd := h.sum hi (q + 1) (by omega)
          rw [hs] at hbd
          have w := wrap64 (n := sumF (colL ls i) q + ls[q][i]) (by omega) (by omega)
          simp -implicitDefEqProofs [in2, loopS_eq, c58L0, hq, hb, hlq, hd, hs, w, lsl, hi, wrap_succ (i := q) (by omega)]
        · simp -implicitDefEqProofs [in2, loopS_eq, c58L0]
      have hbs := h.sum hi ls.length (Nat.le_refl _)
      have w1 := wrap64 (n := 2 * sumF (colL ls i) ls.length) (by omega) (by omega)
      have w2 := wrap64 (n := 2 * sumF (colL ls i) ls.length + ls.length) (by omega) (by omega)
      have w3 := wrap64 (n := 2 * (ls.length : Int)) (by omega) (by omega)
      have hrd := floor122 (n := d + 9) (by omega) (2 * sumF (colL ls i) ls.length + ls.length) (2 * ls.length) (by omega) (by omega) (by omega)
      have e : (2 * sumF (colL ls i) ls.length + ls.length) / (2 * ls.length) = meanI ls i := rfl
      rw [e] at hrd
      simp -implicitDefEqProofs [inv, loopS_eq, c58L1, hi]
      rw [inner]
      simp -implicitDefEqProofs [in2, hlim, hto, w1, w2, w3, hrd, wrap_succ (i := i) (by omega), ht, ← pI_snoc]
    · simp -implicitDefEqProofs [inv, loopS_eq, c58L1]
    · simp [loopFuel]; omega
  · rw [if_neg hz]
    simp -implicitDefEqProofs [c58, h120, hz]
end Fw
