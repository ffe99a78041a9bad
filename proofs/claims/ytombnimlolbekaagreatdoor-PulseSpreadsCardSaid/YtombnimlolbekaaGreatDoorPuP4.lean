/- The spread of runs, by the reference. -/
import Derived.Test.YtombnimlolbekaaGreatDoorPuP3
set_option maxHeartbeats 8000000
namespace Fw
open Go
attribute [local irreducible] evCode evOps evOpsD evOper evOperD evOp evFn loopN T.All T.bind callPure callOp opsK opsDK restK seqK blockK loopS setK setQ giveK scalK gcK finish finS rfunK yldK yldB loopK

theorem drop_lsl (ls : List (List Int)) (i : Nat) (h : i < ls.length) : (pL ls).drop i = lsl ls[i] :: (pL ls).drop (i + 1) := by
  rw [List.drop_eq_getElem_cons (by simpa using h), pL_getElem]

theorem spread64 {n : Nat} (hn : 1 ≤ n) (ls : List (List Int)) (m : Nat) (h0 : 0 < ls.length) (hl : ls.length < 1000000) (hm : ∀ l ∈ ls, l.length = m) (hm2 : m < 1000000) : RUN n 64 [llsl ls] = .ret (.own (cI (spreadL ls m)) m 2) := by
  obtain ⟨d, rfl⟩ : ∃ d, n = d + 1 := ⟨n - 1, by omega⟩
  rw [RUN, call_eq fe64 _ rfl]
  let inv : Nat → St := fun i => ⟨[(0, llsl ls), (3, .sl 0 i 0 i), (4, iv i)], [(0, .arr (cI ((spreadL ls m).take i)) i 2)]⟩
  have hvl := spreadL_length ls m
  have htl : (spreadL ls m).take m = spreadL ls m := List.take_of_length_le (by omega)
  have hx0 : ∃ r, pL ls = lsl ls[0] :: r := by
    cases ls with
    | nil => simp at h0
    | cons x r => exact ⟨pL r, rfl⟩
  obtain ⟨r, hr⟩ := hx0
  have hl0 : ls[0].length = m := hm _ (List.getElem_mem h0)
  obtain ⟨z, hz⟩ : ∃ z, ls.length = z + 1 := ⟨ls.length - 1, by omega⟩
  have hz1 : ls.length - 1 = z := by omega
  simp -implicitDefEqProofs [c64]
  rw [loop_run' inv m (e := .exit 0) (st' := ⟨(inv m).env ++ [(12, .p (.bool false))], (inv m).sto⟩) (by simp)]
  · simp -implicitDefEqProofs [inv, htl, hvl]
  · rfl
  · intro i hi
    have hlim : i + 1 ≤ lim := by simp only [lim]; omega
    have hto : ((spreadL ls m).take i).length = i := by simp [hvl]; omega
    have ht : cI ((spreadL ls m).take (i + 1)) = cI ((spreadL ls m).take i) ++ [.int .i64 (loC ls i), .int .i64 (hiC ls i)] := by
      rw [take_spread ls m i hi, cI_append]; rfl
    have hi0 : i < ls[0].length := by omega
    have hib : (i : Int) < ls[0].length := by omega
    have hcg : ∀ q, (hq : q < ls.length) → (colL ls i).getD q 0 = ls[q][i]'(by rw [hm _ (List.getElem_mem hq)]; exact hi) := fun q hq => by
      have : i < ls[q].length := by rw [hm _ (List.getElem_mem hq)]; exact hi
      simp [colL, List.getElem?_eq_getElem hq, List.getElem?_eq_getElem this]
    let in2 : Nat → St := fun q => ⟨[(0, llsl ls), (3, .sl 0 i 0 i), (4, iv i), (5, .ptr 1 0 0), (6, iv (q + 1))], [(1, .arr [.int .i64 (loF (colL ls i) q), .int .i64 (hiF (colL ls i) q)] 0 1), (0, .arr (cI ((spreadL ls m).take i)) i 2)]⟩
    have hlo0 : loF (colL ls i) 0 = ls[0][i] := by simp only [loF]; exact hcg 0 h0
    have hhi0 : hiF (colL ls i) 0 = ls[0][i] := by simp only [hiF]; exact hcg 0 h0
    have inner : loopN (loopS (evFn F C0 G0 d) C0 G0 0 false [0, 3, 4, 5, 6] c64L0) loopFuel (in2 0) = .ret (.exit 2, ⟨(in2 z).env ++ [(31, .p (.bool false))], (in2 z).sto⟩) := by
      refine loop_run in2 z (by simp) rfl ?_ ?_ (by simp [loopFuel]; omega)
      · intro q hq
        have hq1 : q + 1 < ls.length := by omega
        have hb : (q : Int) + 1 < ls.length := by omega
        have hbp : (0 : Int) ≤ (q : Int) + 1 := by omega
        have ht1 : ((q : Int) + 1).toNat = q + 1 := by omega
        have w := wrap64 (n := (q : Int) + 1 + 1) (by omega) (by omega)
        have hlq : ls[q + 1].length = m := hm _ (List.getElem_mem hq1)
        have hiq : i < ls[q + 1].length := by omega
        have hiqb : (i : Int) < ls[q + 1].length := by omega
        have hd := drop_lsl ls (q + 1) hq1
        have hc := hcg (q + 1) hq1
        have hlo : loF (colL ls i) (q + 1) = min (loF (colL ls i) q) ls[q + 1][i] := by simp only [loF, hc]
        have hhi : hiF (colL ls i) (q + 1) = max (hiF (colL ls i) q) ls[q + 1][i] := by simp only [hiF, hc]
        have hmn : minInt (loF (colL ls i) q) [iv ls[q + 1][i]] = some (min (loF (colL ls i) q) ls[q + 1][i]) := by
          simp only [minInt]
          congr 1
          split <;> omega
        have hmx : maxInt (hiF (colL ls i) q) [iv ls[q + 1][i]] = some (max (hiF (colL ls i) q) ls[q + 1][i]) := by
          simp only [maxInt]
          congr 1
          split <;> omega
        simp -implicitDefEqProofs [in2, loopS_eq, c64L0, hq1, hb, hbp, ht1, hlq, hd, hmn, hmx, hlo, hhi, w, lsl, hi]
      · have hb : ¬ (z : Int) + 1 < ls.length := by omega
        simp -implicitDefEqProofs [in2, loopS_eq, c64L0, hb]
    have e2 : loF (colL ls i) z = loC ls i := by rw [← hz1]; rfl
    have e3 : hiF (colL ls i) z = hiC ls i := by rw [← hz1]; rfl
    refine ⟨⟨(inv (i + 1)).env, (1, .arr [.int .i64 (loC ls i), .int .i64 (hiC ls i)] 0 1) :: (inv (i + 1)).sto⟩, ?_, loopS_same rfl (by simp [inv])⟩
    simp only [in2, hlo0, hhi0, e2, e3] at inner
    have inner' : loopN (loopS (evFn F C0 G0 d) C0 G0 0 false [0, 3, 4, 5, 6] c64L0) loopFuel ⟨[(0, llsl ls), (3, .sl 0 i 0 i), (4, iv i), (5, .ptr 1 0 0), (6, iv 1)], [(1, .arr [.int .i64 ls[0][i], .int .i64 ls[0][i]] 0 1), (0, .arr (cI ((spreadL ls m).take i)) i 2)]⟩ = _ := inner
    simp -implicitDefEqProofs [inv, loopS_eq, c64L1, hi, hr, h0, hl0, lsl, ht]
    rw [inner']
    simp -implicitDefEqProofs [hlim, hto, wrap_succ (i := i) (by omega)]
  · simp -implicitDefEqProofs [inv, loopS_eq, c64L1, h0, hr, lsl, hl0]
  · simp [loopFuel]; omega
end Fw
