/- The law on plans: what it returns at any input. -/
import Derived.Test.YtdjkleaojdeepaaGreatDoorGaPlD
set_option maxHeartbeats 16000000
set_option maxRecDepth 8000
namespace Fw
open Go
attribute [local irreducible] evCode evOps evOpsD evOper evOperD evOp evFn loopN T.All T.bind callPure callOp opsK opsDK restK seqK blockK loopS setK setQ giveK scalK gcK finish finS rfunK yldK yldB loopK

theorem bound60e {n : Nat} (hn : 1 ≤ n) (l : List JobI) (hJ : ¬ jobE l = 0) (k57 : RUN (n - 1) 57 [jsl l] = .ret (iv (jobE l))) : RUN n 60 [jsl l] = .ret (.tup [iv 0, iv (jobE l)]) := by
  obtain ⟨d, rfl⟩ : ∃ d, n = d + 1 := ⟨n - 1, by omega⟩
  rw [RUN, call_eq fe60 _ rfl]
  simp only [Nat.add_sub_cancel] at k57
  generalize jobE l = e at *
  simp only [jsl] at *
  generalize rowC jc l = J at *
  simp -implicitDefEqProofs [c60, k57, hJ]
theorem pla_at (ka : RUN 60 17 [] = .ret (.p (.bool true))) (l : List JobI) (hl : l.length ≤ 9223372036854775807) (hx : ∀ x ∈ l, x.name.length ≤ 9223372036854775807) : (RUN 61 7 [jsl l]).All (· = .p (.bool true)) := by
  rw [RUN, call_eq fe7 _ rfl]
  have k47 := short47 (n := 60) (by omega) l hl
  cases hsh : (decide (firstE (l.map lnJ) = 0) && (decide (l.length ≤ 6) || decide (l.length = 9))) with
  | false =>
    rw [hsh] at k47
    simp only [jsl] at *
    generalize rowC jc l = J at *
    simp -implicitDefEqProofs [c7, k47, ka]
  | true =>
    rw [hsh] at k47
    simp only [Bool.and_eq_true, Bool.or_eq_true, decide_eq_true_eq] at hsh
    have k49 := tests49 (n := 60) (by omega) l (by omega)
    have k51 := jobs51 (n := 60) (by omega) l hl
    have k57 := jobs57 (n := 59) (by omega) l hl hx
    have k38z : RUN 60 38 [.p (.sl [] 0), .p (.sl [] 0)] = .ret (.p (.bool (decide (([] : List Int) = [])))) := same38 (n := 60) (by omega) [] [] (by simp)
    by_cases h6 : (l.length : Int) = 6
    · simp only [jsl] at *
      generalize rowC jc l = J at *
      simp -implicitDefEqProofs [c7, k47, ka, h6]
    · have h6b : ((l.length : Int) == 6) = false := by simpa using h6
      by_cases hj : jobE l = 0
      · have h8 := (jobs_ok hj).1
        have h5 : l.length ≤ 5 := by omega
        have k60 := bound60 (n := 60) (by omega) l hj (by rw [k57, hj])
        have k61 := plan61 (n := 60) (by omega) l (jobs_ok hj) h5
        have k62 := bound62 (n := 60) (by omega) l (jobs_ok hj)
        by_cases h0 : 0 < l.length
        · have k59 := plan59 (n := 60) (by omega) l hl hx h0 (fun _ => h5)
          rw [if_pos hj] at k59
          have hbl : (bestO l).length = l.length := by
            have hok := prm_all h5
            have hb := bI_le l ((prm l.length).length - 1)
            exact (hok.2.2 _ (by omega)).1
          have k38 := same38 (n := 60) (by omega) (bestO l) (bestO l) (by omega)
          rw [hj] at k51
          simp only [jsl, isl, hbl, decide_true] at *
          generalize valO l (bestO l) = V at *
          generalize mxB l 17 = M at *
          generalize pI (bestO l) = PB at *
          generalize rowC jc l = J at *
          simp -implicitDefEqProofs [c7, k47, ka, h6b, k49, k51, k59, k60, k61, k62, k38]
        · have hz : l = [] := List.eq_nil_of_length_eq_zero (by omega)
          subst hz
          have ev : valO [] (bestO []) = 0 := by decide
          have eb : bestO [] = [] := by decide
          have em : mxB [] 17 = 0 := by decide
          rw [ev, eb] at k61
          rw [em] at k60 k62
          rw [hj] at k51
          have k47 : RUN 60 47 [.p (.sl [] 0)] = .ret (.p (.bool true)) := k47
          have k51 : RUN 60 51 [.p (.sl [] 0)] = .ret (iv 0) := k51
          have k60 : RUN 60 60 [.p (.sl [] 0)] = .ret (.tup [iv 0, iv 0]) := k60
          have k61 : RUN 60 61 [.p (.sl [] 0)] = .ret (.tup [.p (.sl [] 0), iv 0]) := k61
          have k62 : RUN 60 62 [.p (.sl [] 0)] = .ret (iv 0) := k62
          have k49 : RUN 60 49 [.p (.sl [] 0)] = .ret (.own [] 0 6) := k49
          have k59 := plan59z
          simp -implicitDefEqProofs [c7, k47, k49]
          simp only [T.All_bind]
          refine T.All_mono k59 (fun a ha => ?_)
          rcases ha with rfl | rfl
          · simp -implicitDefEqProofs [ka, k49, k51, k60, k61, k62, k38z]
          · simp -implicitDefEqProofs [ka, k49, k51, k60, k61, k62, k38z]
      · have k60 := bound60e (n := 60) (by omega) l hj k57
        have h0 : 0 < l.length := by
          rcases Nat.eq_zero_or_pos l.length with h | h
          · exact absurd (by rw [List.eq_nil_of_length_eq_zero h]; decide) hj
          · exact h
        have k59 := plan59 (n := 60) (by omega) l hl hx h0 (fun h => absurd h hj)
        rw [if_neg hj] at k59
        generalize jobE l = e at *
        simp only [jsl] at *
        generalize rowC jc l = J at *
        simp -implicitDefEqProofs [c7, k47, ka, h6b, k49, k51, k59, k60, k38z, hj]
end Fw
