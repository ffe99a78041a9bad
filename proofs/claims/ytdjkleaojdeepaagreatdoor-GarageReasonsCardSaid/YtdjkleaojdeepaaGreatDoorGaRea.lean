/- The law on reasons: what it returns at any input. -/
import Derived.Test.YtdjkleaojdeepaaGreatDoorGaP4
import Derived.Test.YtdjkleaojdeepaaGreatDoorGaRun
set_option maxHeartbeats 16000000
namespace Fw
open Go
attribute [local irreducible] evCode evOps evOpsD evOper evOperD evOp evFn loopN T.All T.bind callPure callOp opsK opsDK restK seqK blockK loopS setK setQ giveK scalK gcK finish finS rfunK yldK yldB loopK

/-- a list of words equals itself -/
theorem words30 {n : Nat} (hn : 1 ≤ n) (l : List (List UInt8)) (hl : l.length < 1000000) : RUN n 30 [strL l, strL l] = .ret (.p (.bool true)) := by
  obtain ⟨d, rfl⟩ : ∃ d, n = d + 1 := ⟨n - 1, by omega⟩
  rw [RUN, call_eq fe30 _ rfl]
  let inv : Nat → St := fun i => ⟨[(0, strL l), (1, strL l), (5, iv i)], []⟩
  have hQ : (pStr l).length = l.length := by simp
  simp -implicitDefEqProofs [c30]
  rw [loop_run inv l.length (e := .exit 0) (st' := ⟨(inv l.length).env ++ [(14, .p (.bool false))], (inv l.length).sto⟩) (by simp)]
  · simp -implicitDefEqProofs [inv]
  · rfl
  · intro i hi
    have w := wrap_succ (i := i) (by omega)
    have hdr := pStr_drop l i hi
    simp only [inv]
    generalize hA : pStr l = A at *
    generalize l[i] = v at *
    simp -implicitDefEqProofs [loopS_eq, c30L0, hi, hA, hQ, hdr, w, strBin]
  · simp -implicitDefEqProofs [inv, loopS_eq, c30L0]
  · simp [loopFuel]; omega
def reaE (h : HallI) (l : List ActI) (x : ActI) : Int := if actsE h l ≠ 0 then actsE h l else if actE h x ≠ 0 then actE h x else chkE h l
def reaO (h : HallI) (l : List ActI) (x : ActI) : List (List UInt8) := if reaE h l x = 0 then reaL (lastS (runH h l).1) x else []
theorem reasons18 {n : Nat} (hn : 10 ≤ n) (h : HallI) (q0 : h.t0.length < 1000000) (q1 : h.t1.length < 1000000) (q2 : h.t2.length < 1000000) (l : List ActI) (hl : l.length < 50000) (x : ActI) :
    ∃ a, RUN n 18 [ha h, asl l, aa x] = .ret (.tup [a, iv (reaE h l x)]) ∧ disown a = strL (reaO h l x) := by
  obtain ⟨d, rfl⟩ : ∃ d, n = d + 7 := ⟨n - 7, by omega⟩
  rw [RUN, call_eq fe18 _ rfl]
  have k86 := acts86 (n := d + 6) (by omega) h q0 q1 q2 l (by omega)
  have k87 := check87 (n := d + 6) (by omega) h x
  by_cases h0 : actsE h l = 0
  · by_cases hx0 : actE h x = 0
    · have k88 := followed88 (n := d + 6) (by omega) h q0 q1 q2 l hl
      unfold folR at k88
      rw [if_neg (by simp [h0])] at k88
      rw [h0] at k86
      rw [hx0] at k87
      cases hw : (runH h l).2
      · have e1 : reaE h l x = 21 := by simp [reaE, h0, hx0, chkE, hw]
        refine ⟨nilS, ?_, by rw [reaO, e1]; rfl⟩
        rw [e1]
        simp only [hw, Bool.false_eq_true, if_false] at k88
        generalize (runH h l).1.length = y at *
        simp only [ha, csl, asl] at *
        generalize cI h.t0 = A0 at *
        generalize cI h.t1 = A1 at *
        generalize cI h.t2 = A2 at *
        generalize rowC ac l = A at *
        obtain ⟨t, k, m, a, b, c⟩ := x
        simp -implicitDefEqProofs [c18, k86, k87, k88]
      · have e1 : reaE h l x = 0 := by simp [reaE, h0, hx0, chkE, hw]
        obtain ⟨z1, z2, z3⟩ := acts_ok h0
        have hd := doors_of z1
        have k89 := last89 (n := d + 6) (by omega) (runH h l).1 (by have := runH_lt h hl; omega)
        have k90 := reasons90 (n := d + 6) (by omega) (lastS (runH h l).1) x (act_ok hd.2 hx0).1
        refine ⟨strL (reaO h l x), ?_, rfl⟩
        rw [e1]
        have e2 : reaO h l x = reaL (lastS (runH h l).1) x := by rw [reaO, if_pos e1]
        rw [e2]
        have hQ : (pStr (reaL (lastS (runH h l).1) x)).length = (reaL (lastS (runH h l).1) x).length := by simp
        generalize reaL (lastS (runH h l).1) x = L at *
        simp only [hw, if_true] at k88
        simp only [ha, csl, asl, stl] at *
        generalize lastS (runH h l).1 = s at *
        generalize rowC sc (runH h l).1 = B at *
        generalize (runH h l).1.length = y at *
        generalize cI h.t0 = A0 at *
        generalize cI h.t1 = A1 at *
        generalize cI h.t2 = A2 at *
        generalize rowC ac l = A at *
        obtain ⟨t, k, m, a, b, c⟩ := x
        obtain ⟨st, o0, o1, o2, o3, o4, o5, o6, o7, k0, k1, pp, ar, sh, ad⟩ := s
        simp -implicitDefEqProofs [c18, k86, k87, k88, k89, k90]
    · have e1 : reaE h l x = actE h x := by simp [reaE, h0, hx0]
      refine ⟨nilS, ?_, by rw [reaO, e1, if_neg hx0]; rfl⟩
      rw [e1]
      rw [h0] at k86
      generalize actE h x = e at *
      simp only [ha, csl, asl] at *
      generalize cI h.t0 = A0 at *
      generalize cI h.t1 = A1 at *
      generalize cI h.t2 = A2 at *
      generalize rowC ac l = A at *
      obtain ⟨t, k, m, a, b, c⟩ := x
      simp -implicitDefEqProofs [c18, k86, k87, hx0]
  · have e1 : reaE h l x = actsE h l := by simp [reaE, h0]
    refine ⟨nilS, ?_, by rw [reaO, e1, if_neg h0]; rfl⟩
    rw [e1]
    generalize actsE h l = e at *
    simp only [ha, csl, asl] at *
    generalize cI h.t0 = A0 at *
    generalize cI h.t1 = A1 at *
    generalize cI h.t2 = A2 at *
    generalize rowC ac l = A at *
    obtain ⟨t, k, m, a, b, c⟩ := x
    simp -implicitDefEqProofs [c18, k86, h0]
theorem reaO_len (h : HallI) (l : List ActI) (x : ActI) : (reaO h l x).length < 1000000 := by
  unfold reaO
  split
  · unfold reaL; simp only [addR_len, List.length_nil]
    have t1 := Bool.toNat_le (decide (x.tick < (lastS (runH h l).1).tick)); have t2 := Bool.toNat_le (stB (lastS (runH h l).1) x); have t3 := Bool.toNat_le (armB (lastS (runH h l).1) x); have t4 := Bool.toNat_le (dooB (lastS (runH h l).1) x); have t5 := Bool.toNat_le (peoB (lastS (runH h l).1) x); have t6 := Bool.toNat_le (keyR (lastS (runH h l).1) x); have t7 := Bool.toNat_le (waiB (lastS (runH h l).1) x)
    omega
  · simp
theorem permO_len (h : HallI) (l : List ActI) (t m : Int) : (permO h l t m).length < 1000000 := by
  unfold permO
  split
  · have := permL_len h (lastS (runH h l).1) t m; omega
  · simp
theorem rea_at (ka : RUN 60 17 [] = .ret (.p (.bool true))) (h : HallI) (l : List ActI) (hl : l.length ≤ 9223372036854775807) (x : ActI) (t m : Int) : RUN 61 3 [ha h, asl l, .agg [iv x.tick, sv x.kind, iv x.num, iv x.a, iv x.b, iv x.c, iv t, iv m]] = .ret (.p (.bool true)) := by
  rw [RUN, call_eq fe3 _ rfl]
  have k15 : RUN 60 15 [ha h] = .ret (.p (.bool (shortH h))) := short15 (n := 60) (by omega) h
  have k16 : RUN 60 16 [asl l] = .ret (.p (.bool (shortA l))) := short16 (n := 60) (by omega) l hl
  cases hsh : shortH h with
  | false =>
    rw [hsh] at k15
    simp only [ha, csl, asl] at *
    generalize cI h.t0 = A0 at *
    generalize cI h.t1 = A1 at *
    generalize cI h.t2 = A2 at *
    simp -implicitDefEqProofs [c3, k15, ka]
  | true =>
    rw [hsh] at k15
    cases hsa : shortA l with
    | false =>
      rw [hsa] at k16
      simp only [ha, csl, asl] at *
      generalize cI h.t0 = A0 at *
      generalize cI h.t1 = A1 at *
      generalize cI h.t2 = A2 at *
      generalize rowC ac l = A at *
      simp -implicitDefEqProofs [c3, k15, k16, ka]
    | true =>
      rw [hsa] at k16
      by_cases hk : x.kind.length ≤ 40
      · have hk' : ¬ (40 : Int) < x.kind.length := by omega
        simp only [shortH, shortA, Bool.and_eq_true, Bool.or_eq_true, decide_eq_true_eq] at hsh hsa
        obtain ⟨s0, s1, s2⟩ := hsh
        have hlen : l.length < 50000 := by omega
        have g0 : h.t0.length < 1000000 := by omega
        have g1 : h.t1.length < 1000000 := by omega
        have g2 : h.t2.length < 1000000 := by omega
        have k19 := own19 (n := 60) (by omega) h g0 g1 g2
        have k20 := done20 (n := 60) (by omega) l (by omega)
        obtain ⟨a, k18, hda⟩ := reasons18 (n := 60) (by omega) h g0 g1 g2 l hlen x
        obtain ⟨b, k21, hdb⟩ := permitted21 (n := 60) (by omega) h g0 g1 g2 l hlen t m
        have k22 := acts22 (n := 60) (by omega) h g0 g1 g2 l (by omega)
        have kr := fun x lo hi => range24 (n := 60) (by omega) x lo hi
        have kt := first23_3 (n := 60) (by omega) (actsE h l) (rangeE 0 100000000 t) (rangeE 0 7 m)
        have k26 := check26 (n := 60) (by omega) h g0 g1 g2 l hlen
        have kw := words30 (n := 60) (by omega) (reaO h l x) (reaO_len h l x)
        have kp := words30 (n := 60) (by omega) (permO h l t m) (permO_len h l t m)
        have kz : RUN 60 30 [.p (.sl [] 0), .p (.sl [] 0)] = .ret (bl true) := words30 (by omega) [] (by simp)
        by_cases h0 : actsE h l = 0
        · have R := run_ok g0 g1 g2 hlen h0
          have hd := doors_of R.hall
          have k25 := check25 (n := 60) (by omega) h hd.1 hd.2 x
          have k28 := last28 (n := 60) (by omega) h l R
          have k29 := permitted29 (n := 60) (by omega) h l R t m
          have k27 := fun e => reasons27 (n := 60) (by omega) (lastS (runH h l).1) x (act_ok hd.2 e).1 (last_ok R.acts).2.1
          have k2 := first23_2 (n := 60) (by omega) (actE h x) (chkE h l)
          have hE1 : reaE h l x = firstE [actE h x, chkE h l] := by simp only [reaE, h0, ne_eq, not_true_eq_false, if_false, firstE]; by_cases q : actE h x = 0 <;> simp [q]
          have hE2 : permE h l t m = if firstE [(0 : Int), rangeE 0 100000000 t, rangeE 0 7 m] = 0 then chkE h l else firstE [(0 : Int), rangeE 0 100000000 t, rangeE 0 7 m] := by
            have : firstE [(0 : Int), rangeE 0 100000000 t, rangeE 0 7 m] = firstE [rangeE 0 100000000 t, rangeE 0 7 m] := by simp [firstE]
            rw [this]
            by_cases q : firstE [rangeE 0 100000000 t, rangeE 0 7 m] = 0 <;> simp [permE, h0, q]
          have hx1 : reaE h l x = 0 → actE h x = 0 := fun e => by
            rw [hE1] at e
            exact firstE_zero.1 e _ (by simp)
          have hO1 : reaO h l x = if reaE h l x = 0 then reaL (lastS (runH h l).1) x else [] := rfl
          have hO2 : permO h l t m = if permE h l t m = 0 then permL h (lastS (runH h l).1) t m else [] := rfl
          rw [← hE1] at k2
          rw [h0] at k22 kt
          generalize chkE h l = c at *
          generalize firstE [(0 : Int), rangeE 0 100000000 t, rangeE 0 7 m] = f at *
          generalize hQ1 : reaL (lastS (runH h l).1) x = L1 at *
          generalize hQ2 : permL h (lastS (runH h l).1) t m = L2 at *
          generalize lastS (runH h l).1 = s at *
          generalize permE h l t m = pe at *
          generalize reaE h l x = re at *
          generalize reaO h l x = W1 at *
          generalize permO h l t m = W2 at *
          generalize actE h x = ae at *
          clear hE1
          obtain ⟨st, o0, o1, o2, o3, o4, o5, o6, o7, k0, k1, pp, ar, sh, ad⟩ := s
          by_cases hA : re = 0
          · have k27 := k27 (hx1 hA)
            rw [if_pos hA] at hO1
            subst hA
            subst hO1
            by_cases hF : f = 0
            · subst hF
              rw [if_pos rfl] at hE2
              subst hE2
              by_cases hC : pe = 0
              · rw [if_pos hC] at hO2
                subst hC
                subst hO2
                simp only [ha, csl, asl, strL] at *
                generalize cI h.t0 = A0 at *
                generalize cI h.t1 = A1 at *
                generalize cI h.t2 = A2 at *
                generalize rowC ac l = A at *
                obtain ⟨t', k', m', a', b', c'⟩ := x
                simp -implicitDefEqProofs [c3, k15, k16, hk', k19, k20, k18, k21, k22, kr, kt, kw, kp, hda, hdb, ka, k2, k25, k26, k28, k27, k29]
              · rw [if_neg hC] at hO2
                subst hO2
                simp only [ha, csl, asl, strL] at *
                generalize cI h.t0 = A0 at *
                generalize cI h.t1 = A1 at *
                generalize cI h.t2 = A2 at *
                generalize rowC ac l = A at *
                obtain ⟨t', k', m', a', b', c'⟩ := x
                simp -implicitDefEqProofs [c3, k15, k16, hk', k19, k20, k18, k21, k22, kr, kt, kw, kz, hda, hdb, ka, k2, k25, k26, k28, k27, hC]
            · rw [if_neg hF] at hE2
              subst hE2
              rw [if_neg hF] at hO2
              subst hO2
              simp only [ha, csl, asl, strL] at *
              generalize cI h.t0 = A0 at *
              generalize cI h.t1 = A1 at *
              generalize cI h.t2 = A2 at *
              generalize rowC ac l = A at *
              obtain ⟨t', k', m', a', b', c'⟩ := x
              simp -implicitDefEqProofs [c3, k15, k16, hk', k19, k20, k18, k21, k22, kr, kt, kw, kz, hda, hdb, ka, k2, k25, k26, k28, k27, hF]
          · rw [if_neg hA] at hO1
            subst hO1
            by_cases hF : f = 0
            · subst hF
              rw [if_pos rfl] at hE2
              subst hE2
              by_cases hC : pe = 0
              · rw [if_pos hC] at hO2
                subst hC
                subst hO2
                simp only [ha, csl, asl, strL] at *
                generalize cI h.t0 = A0 at *
                generalize cI h.t1 = A1 at *
                generalize cI h.t2 = A2 at *
                generalize rowC ac l = A at *
                obtain ⟨t', k', m', a', b', c'⟩ := x
                simp -implicitDefEqProofs [c3, k15, k16, hk', k19, k20, k18, k21, k22, kr, kt, kp, kz, hda, hdb, ka, k2, k25, k26, hA, k29]
              · rw [if_neg hC] at hO2
                subst hO2
                simp only [ha, csl, asl, strL] at *
                generalize cI h.t0 = A0 at *
                generalize cI h.t1 = A1 at *
                generalize cI h.t2 = A2 at *
                generalize rowC ac l = A at *
                obtain ⟨t', k', m', a', b', c'⟩ := x
                simp -implicitDefEqProofs [c3, k15, k16, hk', k19, k20, k18, k21, k22, kr, kt, kz, hda, hdb, ka, k2, k25, k26, hA, hC]
            · rw [if_neg hF] at hE2
              subst hE2
              rw [if_neg hF] at hO2
              subst hO2
              simp only [ha, csl, asl, strL] at *
              generalize cI h.t0 = A0 at *
              generalize cI h.t1 = A1 at *
              generalize cI h.t2 = A2 at *
              generalize rowC ac l = A at *
              obtain ⟨t', k', m', a', b', c'⟩ := x
              simp -implicitDefEqProofs [c3, k15, k16, hk', k19, k20, k18, k21, k22, kr, kt, kz, hda, hdb, ka, k2, k25, k26, hA, hF]
        · have hO1 : reaO h l x = [] := by unfold reaO; rw [if_neg (by simp [reaE, h0])]
          have hO2 : permO h l t m = [] := by unfold permO; rw [if_neg (by simp [permE, h0])]
          have e1 : reaE h l x = actsE h l := by simp [reaE, h0]
          have e2 : permE h l t m = actsE h l := by simp [permE, h0]
          rw [e1] at k18
          rw [e2] at k21
          rw [hO1] at hda kw
          rw [hO2] at hdb kp
          have e3 : firstE [actsE h l, rangeE 0 100000000 t, rangeE 0 7 m] = actsE h l := by simp [firstE, h0]
          rw [e3] at kt
          generalize actsE h l = e at *
          simp only [ha, csl, asl, strL] at *
          generalize cI h.t0 = A0 at *
          generalize cI h.t1 = A1 at *
          generalize cI h.t2 = A2 at *
          generalize rowC ac l = A at *
          obtain ⟨t', k', m', a', b', c'⟩ := x
          simp -implicitDefEqProofs [c3, k15, k16, hk', k19, k20, k18, k21, k22, kr, kt, kz, hda, hdb, ka, h0]
      · have hk' : (40 : Int) < x.kind.length := by omega
        obtain ⟨t', k', m', a', b', c'⟩ := x
        simp only [ha, csl, asl] at *
        generalize cI h.t0 = A0 at *
        generalize cI h.t1 = A1 at *
        generalize cI h.t2 = A2 at *
        generalize rowC ac l = A at *
        simp -implicitDefEqProofs [c3, k15, k16, hk', ka]
end Fw
