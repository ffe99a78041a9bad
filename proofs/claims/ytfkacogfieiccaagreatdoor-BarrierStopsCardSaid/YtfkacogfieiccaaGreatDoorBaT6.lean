/- The law on stops. -/
import Derived.Test.YtfkacogfieiccaaGreatDoorBaT4
import Derived.Test.YtfkacogfieiccaaGreatDoorBaT5
import Derived.Test.YtfkacogfieiccaaGreatDoorBaSC
set_option maxHeartbeats 16000000
namespace Fw
open Go
attribute [local irreducible] evCode evOps evOpsD evOper evOperD evOp evFn loopN T.All T.bind callPure callOp opsK opsDK restK seqK blockK loopS setK setQ giveK scalK gcK finish finS rfunK yldK yldB loopK

theorem pick_in {x a b : Int} (_hx : 0 ≤ x) (_hx2 : x ≤ 255) (h : a ≤ b) : a ≤ a + x % (b - a + 1) ∧ a + x % (b - a + 1) ≤ b := by
  have h1 := Int.emod_nonneg x (show b - a + 1 ≠ 0 by omega)
  have h2 := Int.emod_lt_of_pos x (show 0 < b - a + 1 by omega)
  omega

theorem stop_at (t : TowI) (x y : Int) (hx : 0 ≤ x ∧ x ≤ 255) (hy : 0 ≤ y ∧ y ≤ 255) : RUN 61 10 [twa t, .agg [.p (.int .u8 x), .p (.int .u8 y)]] = .ret (.p (.bool true)) := by
  rw [RUN, call_eq (d := 60) fe10 _ rfl]
  have ka := awake13
  by_cases h1 : (12 : Int) < t.pull.length
  · simp -implicitDefEqProofs [c10, ka, h1]
  · have k40 := tow40 (n := 60) (by omega) t (by omega)
    by_cases z0 : towE t = 0
    · rw [z0] at k40
      by_cases h2 : 60 < t.fh
      · simp -implicitDefEqProofs [c10, ka, h1, k40, h2]
      · by_cases h3 : 60 < t.bh
        · simp -implicitDefEqProofs [c10, ka, h1, k40, h2, h3]
        · have kl := pulls_loop t x y (by omega)
          have e60 : e0 t 0 = [(2, .ptr 0 0 0), (3, .ptr 1 0 0), (58, isl t.pull), (59, iv t.pull.length), (60, iv 0)] := rfl
          rw [e60] at kl
          simp only [stS] at kl
          rcases kl with ⟨hp, kl⟩ | kl
          · have h := tow_of z0
            have hfr := h.fr
            have hbr := h.br
            have hw := h.wl
            have hpo := h.pos
            have hsm : SmallT t := ⟨fun v hv => ⟨(h.pulls v hv).1, hp v hv⟩, by omega, hpo, by omega, by omega, by omega⟩
            simp -implicitDefEqProofs [c10, h1, k40, h2, h3]
            rw [kl]
            have q1 := wrap64 (n := t.fh - t.fl) (by omega) (by omega)
            have q2 := wrap64 (n := t.fh - t.fl + 1) (by omega) (by omega)
            have q3 := wrap64 (n := t.bh - t.bl) (by omega) (by omega)
            have q4 := wrap64 (n := t.bh - t.bl + 1) (by omega) (by omega)
            have q5 := wrap64 (n := x) (by omega) (by omega)
            have q6 := wrap64 (n := y) (by omega) (by omega)
            have q7 : ¬ t.fh - t.fl + 1 = 0 := by omega
            have q8 : ¬ t.bh - t.bl + 1 = 0 := by omega
            have p1 := pick_in (x := x) hx.1 hx.2 (show t.fl ≤ t.fh by omega)
            have p2 := pick_in (x := y) hy.1 hy.2 (show t.bl ≤ t.bh by omega)
            have m1 : x.tmod (t.fh - t.fl + 1) = x % (t.fh - t.fl + 1) := Int.tmod_eq_emod_of_nonneg hx.1
            have m2 : y.tmod (t.bh - t.bl + 1) = y % (t.bh - t.bl + 1) := Int.tmod_eq_emod_of_nonneg hy.1
            have q9 := wrap64 (n := t.fl + x % (t.fh - t.fl + 1)) (by omega) (by omega)
            have q10 := wrap64 (n := t.bl + y % (t.bh - t.bl + 1)) (by omega) (by omega)
            have q11 := wrap64 (n := x % (t.fh - t.fl + 1)) (by omega) (by omega)
            have q12 := wrap64 (n := y % (t.bh - t.bl + 1)) (by omega) (by omega)
            generalize hf : t.fl + x % (t.fh - t.fl + 1) = f at *
            generalize hb : t.bl + y % (t.bh - t.bl + 1) = b at *
            have k35 := given35 (n := 60) (by omega) t (by omega)
            have k34 := run34 (n := 60) (by omega) t (by omega) f
            have k36 := reach36 (n := 60) (by omega) t (by omega)
            have k39 := last39 (n := 60) (by omega) t (by omega)
            have k50 := table50 (n := 60) (by omega) t (by omega)
            rw [if_pos z0, if_pos (rangeE_zero.2 p1)] at k34
            rw [if_pos z0] at k36 k39 k50
            have htl := tabL_length h
            have htl2 : ((tabL t).length : Int) = t.wall + 1 := by omega
            have hli := last_in h
            have l1 : ¬ lastI t < 0 := by omega
            have l2 : ¬ t.wall < lastI t := by omega
            have u1 := wrap64 (n := (t.pull.length : Int) + 1) (by omega) (by omega)
            have u2 := wrap64 (n := t.wall + 1) (by omega) (by omega)
            have kr := run_loop h f b x y p1.1 p1.2
            have kc := cell_loop h z0 hp (by omega) p1.1 p1.2 p2.1 p2.2 x y
            have z00 : ((0 : Nat) : Int) = 0 := rfl
            simp only [r1, r3, stS, z00, isl, runL_length] at kr kc
            simp -implicitDefEqProofs [e0, q1, q2, q3, q4, q5, q6, q7, q8, m1, m2, q9, q10, hf, hb, k34, k35, k36, k39, k50, htl2, l1, l2, u1, u2]
            rw [kr]
            simp -implicitDefEqProofs []
            rw [kc]
            have k83 := print83 (n := 60) (by omega) t (by omega)
            rw [if_pos z0, z0] at k83
            have k84 := parse84 (n := 60) (by omega) (towS t)
            rw [parse_print hsm z0] at k84
            have k84c := parse84 (n := 60) (by omega) ((towS t).take ((towS t).length - 1))
            rw [parse_cut hsm] at k84c
            have hlen := small_len hsm
            have k89 : RUN 60 89 [sv (towS t), .p (.int .u8 10)] = _ := splitR89 (n := 60) (by omega) (towS t) 10 (by omega)
            have hsl : (splitS 10 (towS t)).length = t.pull.length + 4 := by rw [split_towS hsm]; simp [linesT, headL]
            rw [hsl] at k89
            have k87 := same87c (n := 60) (by omega) t (by omega)
            have k88 := told88c (n := 60) (by omega) t
            have v1 := wrap64 (n := ((towS t).length : Int) - 1) (by omega) (by omega)
            have v2 : (0 : Int) ≤ ((towS t).length : Int) - 1 := by omega
            have v3 : (((towS t).length : Int) - 1).toNat = (towS t).length - 1 := by omega
            have v4 : ((towS t).length : Int) - 1 ≤ (towS t).length := by omega
            have v5 := wrap64 (n := (t.pull.length : Int) + 4) (by omega) (by omega)
            have v6 := wrap64 (n := (t.pull.length : Int) + 2) (by omega) (by omega)
            generalize towS t = W at *
            have v7 : (1 : Int) ≤ W.length := by omega
            generalize hW2 : W.take (W.length - 1) = W2 at *
            generalize splitS 10 W = Z at *
            simp -implicitDefEqProofs [k35, k83, k84, k84c, k89, k87, k88, v1, v3, v4, v5, v6, v7, hW2, ka, zeroT]
          · simp -implicitDefEqProofs [c10, h1, k40, h2, h3]
            rw [kl]
            simp -implicitDefEqProofs
    · have zb : (towE t != 0) = true := by simpa using z0
      simp -implicitDefEqProofs [c10, ka, h1, k40, zb]
end Fw
