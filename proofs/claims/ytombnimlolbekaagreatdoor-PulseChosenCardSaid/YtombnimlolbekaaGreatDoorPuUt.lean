/- Small facts that several laws use. -/
import Derived.Test.YtombnimlolbekaaGreatDoorPuS5
set_option maxHeartbeats 16000000
namespace Fw
open Go
attribute [local irreducible] evCode evOps evOpsD evOper evOperD evOp evFn loopN T.All T.bind callPure callOp opsK opsDK restK seqK blockK loopS setK setQ giveK scalK gcK finish finS rfunK yldK yldB loopK

theorem minP2 (a b : Int) : minInt a [iv b] = some (min a b) := by
 simp only [minInt]; congr 1; split <;> omega

theorem setting19a {n : Nat} (hn : 3 ≤ n) (l : List (Int × Int)) : RUN n 19 [csl l] = .ret (iv (settingE l)) := by
 by_cases hl : l.length < 1000000
 ·exact setting19 hn l hl
 ·obtain ⟨d, rfl⟩ : ∃ d, n = d + 3 := ⟨n - 3, by omega⟩
  rw [RUN, call_eq fe19 _ rfl]
  have hs : firstE [whenE ((l.length : Int) == 0) 12, whenE (decide ((12 : Int) < l.length)) 5] = sizedE l.length 12 := rfl
  have hz : ¬ sizedE l.length 12 = 0 := fun h => by have := sizedE_zero.1 h; omega
  have hzb : (sizedE l.length 12 != 0) = true := by simpa using hz
  unfold settingE
  rw [if_neg hz]
  simp -implicitDefEqProofs [c19, when46 (n := d + 2), first100_2 (n := d + 2), hs, hzb]

theorem cI_scal : ∀ (l : List (Int × Int)), ∀ x ∈ cI l, scalarP x = true
 | [], x, h => by cases h
 | a :: r, x, h => by
  simp only [cI, List.mem_cons] at h
  rcases h with rfl | rfl | h
  ·rfl
  ·rfl
  ·exact cI_scal r x h

theorem to73 {n : Nat} (hn : 1 ≤ n) (a b : Int) : RUN n 73 [iv a, iv b] = .ret (.agg [iv a, iv b]) := by
 obtain ⟨d, rfl⟩ : ∃ d, n = d + 1 := ⟨n - 1, by omega⟩
 rw [RUN, call_eq fe73 _ rfl]
 simp -implicitDefEqProofs [c73]
end Fw
