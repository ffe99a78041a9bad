/- The law on runs: what it returns at any input. -/
import Derived.Test.YtdjkleaojdeepaaGreatDoorGaRB
import Derived.Test.YtdjkleaojdeepaaGreatDoorGaHal
set_option maxHeartbeats 16000000
namespace Fw
open Go
attribute [local irreducible] evCode evOps evOpsD evOper evOperD evOp evFn loopN T.All T.bind callPure callOp opsK opsDK restK seqK blockK loopS setK setQ giveK scalK gcK finish finS rfunK yldK yldB loopK

def shortA (l : List ActI) : Bool := decide (firstE (l.map lnA) = 0) && (decide (l.length ≤ 24) || decide (l.length = 1001))
def shortH (h : HallI) : Bool := decide (h.t0.length ≤ 9) && (decide (h.t1.length ≤ 9) && decide (h.t2.length ≤ 9))
theorem told_ok (h : HallI) {l : List ActI} (hl : l.length < 50000) : (okL h l).length < 1000000 := by
  unfold okL
  split
  · have := runH_lt h hl; omega
  · simp

theorem run_at (ka : RUN 60 17 [] = .ret (.p (.bool true))) (h : HallI) (l : List ActI) (hl : l.length ≤ 9223372036854775807) : RUN 61 13 [ha h, asl l] = .ret (.p (.bool true)) := by
  rw [RUN, call_eq fe13 _ rfl]
  have k15 : RUN 60 15 [ha h] = .ret (.p (.bool (shortH h))) := short15 (n := 60) (by omega) h
  have k16 : RUN 60 16 [asl l] = .ret (.p (.bool (shortA l))) := short16 (n := 60) (by omega) l hl
  cases hsh : shortH h with
  | false =>
    rw [hsh] at k15
    simp only [ha, csl, asl] at *
    generalize cI h.t0 = A0 at *
    generalize cI h.t1 = A1 at *
    generalize cI h.t2 = A2 at *
    simp -implicitDefEqProofs [c13, k15, ka]
  | true =>
    rw [hsh] at k15
    cases hsa : shortA l with
    | false =>
      rw [hsa] at k16
      simp only [ha, csl, asl] at *
      generalize cI h.t0 = A0 at *
      generalize cI h.t1 = A1 at *
      generalize cI h.t2 = A2 at *
      generalize rowC ac l = A at *
      simp -implicitDefEqProofs [c13, k15, k16, ka]
    | true =>
      rw [hsa] at k16
      simp only [shortH, shortA, Bool.and_eq_true, Bool.or_eq_true, decide_eq_true_eq] at hsh hsa
      obtain ⟨s0, s1, s2⟩ := hsh
      have hlen : l.length < 50000 := by omega
      have g0 : h.t0.length < 1000000 := by omega
      have g1 : h.t1.length < 1000000 := by omega
      have g2 : h.t2.length < 1000000 := by omega
      have k19 := own19 (n := 60) (by omega) h g0 g1 g2
      have k20 := done20 (n := 60) (by omega) l (by omega)
      have k70 := run70 (n := 60) (by omega) h g0 g1 g2 l hlen
      obtain ⟨a, k75, hda⟩ := states75 (n := 60) (by omega) h g0 g1 g2 l hlen
      have k22 := acts22 (n := 60) (by omega) h g0 g1 g2 l (by omega)
      have k78 := told78 (n := 60) (by omega) (okL h l) (told_ok h hlen)
      have k77 := same77 (n := 60) (by omega) (okL h l) (told_ok h hlen)
      have hO := sR_len (okL h l)
      by_cases h0 : actsE h l = 0
      · have R := run_ok g0 g1 g2 hlen h0
        have k76 := run76 (n := 60) (by omega) h l R
        have k28 := last28 (n := 60) (by omega) h l R
        rw [h0] at k22
        cases hw : (runH h l).2
        · simp only [runS, runI, okL, chkE, h0, hw, true_and, Bool.false_eq_true, if_false, if_true, ne_eq, not_true_eq_false] at *
          have hrs : rowC sc (runH h l).1 = rowC sc (runH h l).1 := rfl
          have hnb : (((runH h l).1.length : Int) == -1) = false := by simp
          generalize rowC sc (runH h l).1 = B at *
          generalize (runH h l).1.length = y at *
          simp only [ha, csl, asl, stl, rowC_nil, List.length_nil, zS] at *
          generalize cI h.t0 = A0 at *
          generalize cI h.t1 = A1 at *
          generalize cI h.t2 = A2 at *
          generalize rowC ac l = A at *
          simp -implicitDefEqProofs [c13, k15, k16, k19, k20, k70, k75, k22, k76, k78, k77, hda, hnb, ka]
        · simp only [runS, runI, okL, chkE, h0, hw, true_and, Bool.true_eq_false, if_false, if_true, ne_eq, not_true_eq_false] at *
          generalize lastS (runH h l).1 = s at *
          simp only [ha, csl, asl, stl] at *
          generalize rowC sc (runH h l).1 = B at *
          generalize (runH h l).1.length = y at *
          generalize cI h.t0 = A0 at *
          generalize cI h.t1 = A1 at *
          generalize cI h.t2 = A2 at *
          generalize rowC ac l = A at *
          obtain ⟨st, o0, o1, o2, o3, o4, o5, o6, o7, k0, k1, pp, ar, sh, ad⟩ := s
          simp -implicitDefEqProofs [c13, k15, k16, k19, k20, k70, k75, k22, k76, k28, k78, k77, hda, ka]
      · simp only [runS, runI, okL, chkE, h0, false_and, if_false, if_true, ne_eq, not_false_eq_true] at k70 k75 k78 k77 hda
        simp only [ha, csl, asl, stl, rowC_nil, List.length_nil, zS] at *
        generalize actsE h l = e at *
        generalize cI h.t0 = A0 at *
        generalize cI h.t1 = A1 at *
        generalize cI h.t2 = A2 at *
        generalize rowC ac l = A at *
        simp -implicitDefEqProofs [c13, k15, k16, k19, k20, k70, k75, k22, k78, k77, hda, ka, h0]
end Fw
