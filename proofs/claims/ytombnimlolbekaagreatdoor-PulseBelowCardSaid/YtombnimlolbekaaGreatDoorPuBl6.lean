/- The law on runs below. -/
import Derived.Test.YtombnimlolbekaaGreatDoorPuBl5
set_option maxHeartbeats 16000000
namespace Fw
open Go
attribute [local irreducible] evCode evOps evOpsD evOper evOperD evOp evFn loopN T.All T.bind callPure callOp opsK opsDK restK seqK blockK loopS setK setQ giveK scalK gcK finish finS rfunK yldK yldB loopK

theorem setting19a {n : Nat} (hn : 3 ≤ n) (l : List (Int × Int)) : RUN n 19 [csl l] = .ret (iv (settingE l)) := by
 by_cases hl : l.length < 1000000
 ·exact setting19 hn l hl
 ·obtain ⟨d, rfl⟩ : ∃ d, n = d + 3 := ⟨n - 3, by omega⟩
  rw [RUN, call_eq fe19 _ rfl]
  have hs : firstE [whenE ((l.length : Int) == 0) 12, whenE (decide ((12 : Int) < l.length)) 5] = sizedE l.length 12 := rfl
  have hz : ¬ sizedE l.length 12 = 0 := fun h => by have := sizedE_zero.1 h; omega
  have hzb : (sizedE l.length 12 != 0) = true := by simpa using hz
  unfold settingE
  rw [if_neg hz]
  simp -implicitDefEqProofs [c19, when46 (n := d + 2), first100_2 (n := d + 2), hs, hzb]

theorem settings_loop {s : SledI} (hs : SledOk s) {l c : List (Int × Int)} (hl : Valid l) (hc : corrE c = 0) (hsf : safeB s l c.length = true) {g st : Int} (hg1 : s.low ≤ g) (hg2 : g ≤ s.high) (hst : 1 ≤ st ∧ st ≤ 100) (r : Nat) (hr : r ≤ 4) (X : List PVal) (u v w : Int) :
  loopN (loopS (evFn F C0 G0 60) C0 G0 0 false [1, 3, 5, 7, 8, 10, 27, 285, 286, 287] c8L5) loopFuel ⟨B5 l c.length g st (pS (histL s l c g st r)) (r + 1) 0, oS X s c u v w⟩ =
   .ret (.exit 6, ⟨B5 l c.length g st (pS (histL s l c g st r)) (r + 1) (r + 1) ++ [(288, .p (.bool false))], oS X s c u v w⟩) := by
 have hHl : (pS (histL s l c g st r)).length = r + 1 := by simp [pS, histL]
 have hHg : ∀ k q, (pS (histL s l c g st r))[k]'q = csv (learnF s l c g st k) := fun k q => by simp [pS, histL]
 refine loop_run' (fun k => ⟨B5 l c.length g st (pS (histL s l c g st r)) (r + 1) k, oS X s c u v w⟩) (r + 1) (by simp) rfl ?_ (by simp -implicitDefEqProofs [B5, loopS_eq, c8L5]) (by simp [loopFuel]; omega)
 intro k hk
 have hy := learnF_valid (s := s) (c := c) (gain := g) (step := st) hl k
 have hz := learnF_valid (s := s) (c := c) (gain := g) (step := st) hl (k - 1)
 refine settings_round hs hl hy.1 hy.2 hz.2 (fun i => learnF_from hl i k) (fun i hi => ?_) hc (learnF_safe hsf k) hg1 hg2 hst _ (r + 1) k hk (by omega) hHl (fun q => hHg k q) (fun h q => hHg (k + 1) q) (z := learnF s l c g st (k - 1)) (fun h q => hHg (k - 1) q) (fun h i hi => ?_) X u v w
 ·have := hz.1.val i (by omega)
  omega
 ·obtain ⟨j, rfl⟩ : ∃ j, k = j + 1 := ⟨k - 1, by omega⟩
  exact learned_near hz.1 (by omega) i (by omega)

theorem cI_scal : ∀ (l : List (Int × Int)), ∀ x ∈ cI l, scalarP x = true
 | [], x, h => by cases h
 | a :: r, x, h => by
  simp only [cI, List.mem_cons] at h
  rcases h with rfl | rfl | h
  ·rfl
  ·rfl
  ·exact cI_scal r x h

theorem below_at (s : SledI) (l c : List (Int × Int)) (u v w : Int) (hu : 0 ≤ u ∧ u ≤ 65535) (hv : 0 ≤ v ∧ v ≤ 255) (hw : 0 ≤ w ∧ w ≤ 255) : RUN 61 8 [sla s, csl l, .agg [csl c, .p (.int .u16 u), .p (.int .u8 v), .p (.int .u8 w)]] = .ret (.p (.bool true)) := by
 rw [RUN, call_eq (d := 60) fe8 _ rfl]
 have ka := awake12
 have k21 := sled21 (n := 60) (by omega) s
 have k19 := setting19a (n := 60) (by omega) l
 by_cases z1 : sledE s = 0
 ·by_cases z2 : settingE l = 0
  ·by_cases z3 : (16 : Int) < c.length
   ·simp -implicitDefEqProofs [c8, ka, k21, k19, z1, z2, z3]
   ·have k37 := corr37 (n := 60) (by omega) c (by omega)
    by_cases z4 : corrE c = 0
    ·have hs := sled_of z1
     have hl := valid_of z2
     have hcc := corrE_zero z4
     have hlo := hs.low
     have hhi := hs.high
     have hle := hs.le
     have hsm := hl.small
     have hnn : 1 ≤ (c.length : Int) ∧ (c.length : Int) ≤ 64 := by omega
     rw [z1] at k21
     rw [z2] at k19
     rw [z4] at k37
     have q1 := wrap64 (n := u) (by omega) (by omega)
     have q2 := wrap64 (n := v) (by omega) (by omega)
     have q3 := wrap64 (n := w) (by omega) (by omega)
     have q4 := wrap64 (n := s.high - s.low) (by omega) (by omega)
     have q5 := wrap64 (n := s.high - s.low + 1) (by omega) (by omega)
     have q6 : ¬ s.high - s.low + 1 = 0 := by omega
     have t1 : u.tmod (s.high - s.low + 1) = u % (s.high - s.low + 1) := Int.tmod_eq_emod_of_nonneg hu.1
     have t2 : v.tmod 5 = v % 5 := Int.tmod_eq_emod_of_nonneg hv.1
     have t3 : w.tmod 100 = w % 100 := Int.tmod_eq_emod_of_nonneg hw.1
     have e1 := Int.emod_nonneg u (show s.high - s.low + 1 ≠ 0 by omega)
     have e2 := Int.emod_lt_of_pos u (show 0 < s.high - s.low + 1 by omega)
     have q7 := wrap64 (n := u % (s.high - s.low + 1)) (by omega) (by omega)
     have q8 := wrap64 (n := s.low + u % (s.high - s.low + 1)) (by omega) (by omega)
     have q9 := wrap64 (n := v % 5) (by omega) (by omega)
     have q10 := wrap64 (n := w % 100) (by omega) (by omega)
     have q11 := wrap64 (n := 1 + w % 100) (by omega) (by omega)
     have hst : 1 ≤ 1 + w % 100 ∧ 1 + w % 100 ≤ 100 := by omega
     obtain ⟨r, hr⟩ : ∃ r : Nat, v % 5 = r := ⟨(v % 5).toNat, by omega⟩
     have hr4 : r ≤ 4 := by omega
     have hg1 : s.low ≤ s.low + u % (s.high - s.low + 1) := by omega
     have hg2 : s.low + u % (s.high - s.low + 1) ≤ s.high := by omega
     generalize hg : s.low + u % (s.high - s.low + 1) = g at *
     generalize hstd : 1 + w % 100 = st at *
     have k14 := steps14 (n := 60) (by omega) l (by omega)
     have k15 := run15 (n := 60) (by omega) s l g c.length (by omega)
     have hbR : badR s l g c.length = 0 := by
      refine firstE_zero.2 fun e he => ?_
      simp only [List.mem_cons, List.not_mem_nil, or_false] at he
      rcases he with rfl | rfl | rfl | rfl
      ·exact z1
      ·exact z2
      ·exact rangeE_zero.2 ⟨hg1, hg2⟩
      ·exact rangeE_zero.2 hnn
     rw [if_pos hbR, Int.toNat_natCast] at k15
     have hbN : badN s l c.length = 0 := by
      refine firstE_zero.2 fun e he => ?_
      simp only [List.mem_cons, List.not_mem_nil, or_false] at he
      rcases he with rfl | rfl | rfl
      ·exact z1
      ·exact z2
      ·exact rangeE_zero.2 hnn
     have k16 := encl16 (n := 60) (by omega) s l c.length (by omega)
     rw [if_pos hbN, Int.toNat_natCast] at k16
     have k17 := safe17 (n := 60) (by omega) s l c.length (by omega)
     rw [hbN, if_pos rfl, Int.toNat_natCast] at k17
     have hh := highB_safe s l c.length
     generalize hsfv : safeB s l c.length = sf at *
     have kb := below_loop (c := c) hs hl c.length (by omega) hg1 hg2 r st u v w sf
     have z00 : ((0 : Nat) : Int) = 0 := rfl
     have r0 : runF s l g 0 = 0 := rfl
     have h0 : highB s l 0 = true := rfl
     simp only [B0, bS, z00, r0, h0, hh] at kb
     simp -implicitDefEqProofs [c8, k21, k19, k37, z3, q1, q2, q3, q4, q5, q6, q8, q11, t1, t2, t3, hg, hstd, hr, k14, k15, k16, k17]
     rw [kb]
     have hX := openL_keep hl (x := w % 7) (by omega)
     have hwd := openL_wider hl (x := w % 7) (by omega)
     have ho := hX.valid hl
     have hol : (openL l (w % 7)).length = l.length := hX.len
     have k14o := steps14 (n := 60) (by omega) (openL l (w % 7)) (by omega)
     have k15o := run15 (n := 60) (by omega) s (openL l (w % 7)) g c.length (by omega)
     have hbRo : badR s (openL l (w % 7)) g c.length = 0 := by
      refine firstE_zero.2 fun e he => ?_
      simp only [List.mem_cons, List.not_mem_nil, or_false] at he
      rcases he with rfl | rfl | rfl | rfl
      ·exact z1
      ·exact valid_to ho
      ·exact rangeE_zero.2 ⟨hg1, hg2⟩
      ·exact rangeE_zero.2 hnn
     rw [if_pos hbRo, Int.toNat_natCast] at k15o
     have ko := open_loop (s := s) (c := c) hl c.length g r st u v w hw.1 hw.2 sf
     have km := fun S => more_loop hs hl hwd c.length (by omega) (show 0 ≤ g by omega) r st sf S
     have hsc := eq_true (cI_scal (openL l (w % 7)))
     simp only [csl, hol] at k14o k15o
     simp only [B1, oS, bS, z00] at ko
     simp only [B2, z00] at km
     have k32 := spans32 (n := 60) (by omega) c (by omega)
     have k45 := learning45 (n := 60) (by omega) s l c g r st (by omega) (by omega)
     have hlim : l.length ≤ lim := by simp only [lim]; omega
     have hlpos : ¬ l.length = 0 := by have := hl.pos; omega
     have hCl : (cI l).length = l.length * 2 := by simp
     have hOl : (cI (openL l (w % 7))).length = l.length * 2 := by simp [hol]
     generalize hO : cI (openL l (w % 7)) = O at *
     generalize hQ : pI (runL s (openL l (w % 7)) g c.length) = Q at *
     have hb3 : bad3 s l c = 0 := by
      refine firstE_zero.2 fun e he => ?_
      simp only [List.mem_cons, List.not_mem_nil, or_false] at he
      rcases he with rfl | rfl | rfl
      ·exact z1
      ·exact z2
      ·exact z4
     cases sf with
     | false =>
      have hG : badG s l c g r st = 21 := by
       have hS : safeE s l c = 21 := by
        unfold safeE
        rw [if_pos hb3, hsfv]
        rfl
       unfold badG
       rw [firstE_cons, hS]
       rfl
      rw [hG] at k45
      simp -implicitDefEqProofs [hlim, hlpos, hCl]
      rw [ko]
      simp -implicitDefEqProofs [hsc, hOl, k14o, k15o]
      rw [km]
      simp -implicitDefEqProofs [k14, k32, k45, ka]
      done
     | true =>
      have hG : badG s l c g r st = 0 := by
       refine firstE_zero.2 fun e he => ?_
       simp only [List.mem_cons, List.not_mem_nil, or_false] at he
       rcases he with rfl | rfl | rfl | rfl
       ·unfold safeE
        rw [if_pos hb3, hsfv]
        rfl
       ·exact rangeE_zero.2 ⟨hg1, hg2⟩
       ·exact rangeE_zero.2 (by omega)
       ·exact rangeE_zero.2 hst
      rw [if_pos hG, Int.toNat_natCast] at k45
      have ks := settings_loop hs hl z4 hsfv hg1 hg2 hst r hr4 O u v w
      have hH0 : ∀ q, (pS (histL s l c g st r))[0]'q = csv l := fun q => by simp [pS, histL, learnF]
      have hHl : (pS (histL s l c g st r)).length = r + 1 := by simp [pS, histL]
      have k52 := told52 (n := 60) (by omega) l (by omega)
      have k51 := same51 (n := 60) (by omega) l l (by omega)
      have w1 := wrap64 (n := (r : Int) + 1) (by omega) (by omega)
      simp only [csv] at hH0
      have rc : ((r + 1 : Nat) : Int) = (r : Int) + 1 := by omega
      simp only [B5, oS, bS, z00, rc] at ks
      generalize pS (histL s l c g st r) = H at *
      simp -implicitDefEqProofs [hlim, hlpos, hCl]
      rw [ko]
      simp -implicitDefEqProofs [hsc, hOl, k14o, k15o]
      rw [km]
      simp -implicitDefEqProofs [k14, k32, k45, k52, k51, hH0, hHl, w1]
      rw [ks]
      simp -implicitDefEqProofs [ka]
      done
    ·have zb : (corrE c != 0) = true := by simpa using z4
     simp -implicitDefEqProofs [c8, ka, k21, k19, z1, z2, z3, k37, zb]
  ·have zb : (settingE l != 0) = true := by simpa using z2
   simp -implicitDefEqProofs [c8, ka, k21, k19, z1, zb]
 ·have zb : (sledE s != 0) = true := by simpa using z1
  simp -implicitDefEqProofs [c8, ka, k21, zb]
end Fw
