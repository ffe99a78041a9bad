/- The law on what is done: what it returns at any input. -/
import Derived.Test.YtdjkleaojdeepaaGreatDoorGaDon
set_option maxHeartbeats 16000000
namespace Fw
open Go
attribute [local irreducible] evCode evOps evOpsD evOper evOperD evOp evFn loopN T.All T.bind callPure callOp opsK opsDK restK seqK blockK loopS setK setQ giveK scalK gcK finish finS rfunK yldK yldB loopK

theorem don_at (ka : RUN 60 17 [] = .ret (.p (.bool true))) (h : HallI) (l : List ActI) (hl : l.length ≤ 9223372036854775807) : RUN 61 4 [ha h, asl l] = .ret (.p (.bool true)) := by
  rw [RUN, call_eq fe4 _ rfl]
  have k15 : RUN 60 15 [ha h] = .ret (.p (.bool (shortH h))) := short15 (n := 60) (by omega) h
  have k16 : RUN 60 16 [asl l] = .ret (.p (.bool (shortA l))) := short16 (n := 60) (by omega) l hl
  cases hsh : shortH h with
  | false =>
    rw [hsh] at k15
    simp only [ha, csl, asl] at *
    generalize cI h.t0 = A0 at *
    generalize cI h.t1 = A1 at *
    generalize cI h.t2 = A2 at *
    simp -implicitDefEqProofs [c4, k15, ka]
  | true =>
    rw [hsh] at k15
    cases hsa : shortA l with
    | false =>
      rw [hsa] at k16
      simp only [ha, csl, asl] at *
      generalize cI h.t0 = A0 at *
      generalize cI h.t1 = A1 at *
      generalize cI h.t2 = A2 at *
      generalize rowC ac l = A at *
      simp -implicitDefEqProofs [c4, k15, k16, ka]
    | true =>
      rw [hsa] at k16
      simp only [shortH, shortA, Bool.and_eq_true, Bool.or_eq_true, decide_eq_true_eq] at hsh hsa
      obtain ⟨s0, s1, s2⟩ := hsh
      have hlen : l.length < 50000 := by omega
      have g0 : h.t0.length < 1000000 := by omega
      have g1 : h.t1.length < 1000000 := by omega
      have g2 : h.t2.length < 1000000 := by omega
      have k19 := own19 (n := 60) (by omega) h g0 g1 g2
      have k20 := done20 (n := 60) (by omega) l (by omega)
      have k31 := admitted31 (n := 60) (by omega) h g0 g1 g2 l hlen
      have hz : chkE h l = 0 → ∀ x ∈ l, x.kind = kShoot → x.num = 0 ∧ x.a = 0 ∧ x.b = 0 ∧ x.c = 0 := fun e x hx hk => by
        have h0 : actsE h l = 0 := by
          unfold chkE at e
          split at e
          · rename_i q; exact absurd e q
          · rename_i q; simpa using q
        exact shoot_ok ((acts_ok h0).2.2 x hx) hk
      obtain ⟨a1, k32, hd1⟩ := shots32 (n := 60) (by omega) h g0 g1 g2 l hlen hz
      obtain ⟨a2, k33, hd2⟩ := occupied33 (n := 60) (by omega) h g0 g1 g2 l hlen
      obtain ⟨a3, k34, hd3⟩ := armed34 (n := 60) (by omega) h g0 g1 g2 l hlen
      have k26 := check26 (n := 60) (by omega) h g0 g1 g2 l hlen
      have hsl := shF_len l l.length
      have hol := runH_lt h hlen
      by_cases h0 : chkE h l = 0
      · have hA0 : actsE h l = 0 := by
          unfold chkE at h0
          split at h0
          · rename_i q; exact absurd h0 q
          · rename_i q; simpa using q
        have R := run_ok g0 g1 g2 hlen hA0
        have k28 := last28 (n := 60) (by omega) h l R
        have k35 := shots35 (n := 60) (by omega) l hlen
        obtain ⟨b2, k36, he2⟩ := occupied36 (n := 60) (by omega) h l R
        obtain ⟨b3, k37, he3⟩ := armed37 (n := 60) (by omega) h l R
        have s2 := spanF_len peoP (runH h l).1 (runH h l).1.length
        have s3 := spanF_len armP (runH h l).1 (runH h l).1.length
        have k38 := same38 (n := 60) (by omega) (shF l l.length) (shF l l.length) (by omega)
        have k39 := same39 (n := 60) (by omega) (spanF peoP (runH h l).1 (runH h l).1.length) (spanF peoP (runH h l).1 (runH h l).1.length) (by omega)
        have k39b := same39 (n := 60) (by omega) (spanF armP (runH h l).1 (runH h l).1.length) (spanF armP (runH h l).1 (runH h l).1.length) (by omega)
        simp only [h0, if_true, decide_true] at *
        generalize spanF peoP (runH h l).1 (runH h l).1.length = S2 at *
        generalize spanF armP (runH h l).1 (runH h l).1.length = S3 at *
        generalize shF l l.length = S1 at *
        generalize lastS (runH h l).1 = s at *
        simp only [ha, csl, asl, isl] at *
        generalize cI S2 = C2 at *
        generalize S2.length = n2 at *
        generalize cI S3 = C3 at *
        generalize S3.length = n3 at *
        generalize pI S1 = C1 at *
        generalize S1.length = n1 at *
        generalize cI h.t0 = A0 at *
        generalize cI h.t1 = A1 at *
        generalize cI h.t2 = A2 at *
        generalize rowC ac l = A at *
        obtain ⟨st, o0, o1, o2, o3, o4, o5, o6, o7, k0, k1, pp, ar, sh, ad⟩ := s
        simp -implicitDefEqProofs [c4, k15, k16, k19, k20, k31, k32, hd1, k33, hd2, k34, hd3, k26, k28, k35, k36, he2, k37, he3, k38, k39, k39b, ka]
      · have k38 : RUN 60 38 [.p (.sl [] 0), .p (.sl [] 0)] = .ret (bl (decide (([] : List Int) = []))) := same38 (n := 60) (by omega) [] [] (by simp)
        have k39 : RUN 60 39 [.p (.sl [] 0), .p (.sl [] 0)] = .ret (bl (decide (([] : List (Int × Int)) = []))) := same39 (n := 60) (by omega) [] [] (by simp)
        simp only [h0, if_false, decide_true] at k31 hd1 hd2 hd3 k38 k39
        simp only [csl, isl, cI, pI, List.map_nil, List.length_nil] at hd1 hd2 hd3
        simp only [ha, csl, asl] at *
        generalize chkE h l = e at *
        generalize cI h.t0 = A0 at *
        generalize cI h.t1 = A1 at *
        generalize cI h.t2 = A2 at *
        generalize rowC ac l = A at *
        simp -implicitDefEqProofs [c4, k15, k16, k19, k20, k31, k32, hd1, k33, hd2, k34, hd3, k26, k38, k39, h0, ka]
end Fw
