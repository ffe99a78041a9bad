/- The law on acts that are printed and read: what it returns at any input. -/
import Derived.Test.YtdjkleaojdeepaaGreatDoorGaBk1
import Derived.Test.YtdjkleaojdeepaaGreatDoorGaSH
set_option maxHeartbeats 16000000
set_option maxRecDepth 8000
namespace Fw
open Go
attribute [local irreducible] evCode evOps evOpsD evOper evOperD evOp evFn loopN T.All T.bind callPure callOp opsK opsDK restK seqK blockK loopS setK setQ giveK scalK gcK finish finS rfunK yldK yldB loopK

@[irreducible] def c12r : ACode := tlS (tlS c12.body)
theorem c12_body : c12.body = .seq (hdS c12.body) (.seq (hdS (tlS c12.body)) c12r) := by unfold c12r; rfl

theorem back_rest (ka : RUN 60 17 [] = .ret (.p (.bool true))) (h : HallI) (g0 : h.t0.length < 1000000) (g1 : h.t1.length < 1000000) (g2 : h.t2.length < 1000000) (l : List ActI) (s : List UInt8) (hl : l.length ≤ 24) (hs : s.length ≤ 400) (hc0 : chkE h l = 0) (tl : Env) :
  (evCode (evFn F C0 G0 60) C0 G0 0 c12r ⟨(1, asl l) :: (2, sv s) :: (3, .ptr 0 0 0) :: tl, [(0, .box (hc h))]⟩).bind (finish [.tmp 6]) = .ret (.p (.bool true)) := by
 have k19 := own19 (n := 60) (by omega) h g0 g1 g2
 have k20 := done20 (n := 60) (by omega) l (by omega)
 have k63 := print63 (n := 60) (by omega) h g0 g1 g2 l (by omega)
 have hP := acts_P (chk_parts hc0).1
 have hz : hallE h = 0 := (acts_ok (chk_parts hc0).1).1
 have ht := textA_len l hP
 have hpT : prT l = textA l := by unfold prT; rw [if_neg (by omega)]
 have hpE : prE l = 0 := by unfold prE; rw [if_neg (by omega)]
 rw [if_pos hc0, if_pos hc0, hpT, hpE] at k63
 have k64t := parse64 (n := 60) (by omega) h g0 g1 g2 (textA l)
 unfold parP at k64t
 rw [if_neg (by simpa using hz), if_neg (by omega), parse_text hc0, if_pos rfl] at k64t
 have k69 := back69 (n := 60) (by omega) l (by omega)
 have k68 := same68 (n := 60) (by omega) l (by omega)
 have k74 : RUN 60 74 [sv (textA l), .p (.int .u8 10)] = _ := splitR74 (n := 60) (by omega) (textA l) 10 (by omega)
 have hsl := split_text hc0
 have k64s := parse64 (n := 60) (by omega) h g0 g1 g2 s
 unfold parP at k64s
 rw [if_neg (by simpa using hz), if_neg (by omega)] at k64s
 have wl := wrap64 (n := (l.length : Int) + 1) (by omega) (by omega)
 have wl2 := wrap64 (n := (l.length : Int) - 1) (by omega) (by omega)
 have hy : (parseL h s).2.2 = 0 → RUN 60 20 [asl (parseL h s).1] = RUN 60 20 [asl (parseL h s).1] ∧ RUN 60 63 [ha h, asl (parseL h s).1] = .ret (.tup [sv s, iv 0]) := fun hp => by
  obtain ⟨y1, y2⟩ := text_parse hp
  have hyl := parseL_length h s (by omega)
  have k := print63 (n := 60) (by omega) h g0 g1 g2 (parseL h s).1 hyl
  have hpT : prT (parseL h s).1 = s := by unfold prT; rw [y2, if_neg (by omega)]
  have hpE : prE (parseL h s).1 = 0 := by unfold prE; rw [y2, if_neg (by omega)]
  rw [if_pos y1, if_pos y1, hpT, hpE] at k
  exact ⟨rfl, k⟩
 generalize parseL h s = PL at *
 have ww1 : IntKind.i64.wrap 1 = 1 := by decide
 by_cases h0 : l = []
 ·subst h0
  have hr0 : rowC ac [] = [] := rfl
  have ht0 : textA [] = [] := rfl
  unfold c12r
  simp only [asl, hr0, ht0, List.length_nil] at *
  simp only [ha, csl, hc] at *
  generalize cI h.t0 = A0 at *
  generalize cI h.t1 = A1 at *
  generalize cI h.t2 = A2 at *
  by_cases hp : PL.2.2 = 0
  ·obtain ⟨-, k63y⟩ := hy hp
   rw [if_pos hp, hp] at k64s
   simp -implicitDefEqProofs [tlS, c12, ka, k19, k20, k63, k64t, k69, k68, k74, k64s, k63y, hsl, ww1, strBin]
  ·have hpb : (PL.2.2 == 0) = false := by simpa using hp
   rw [if_neg hp] at k64s
   simp -implicitDefEqProofs [tlS, c12, ka, k19, k20, k63, k64t, k69, k68, k74, k64s, hsl, hpb, ww1, strBin]
 ·have hlp : 0 < l.length := List.length_pos_iff.2 h0
  obtain ⟨pc, htp⟩ := parse_cut hc0 h0
  have k64c := parse64 (n := 60) (by omega) h g0 g1 g2 ((textA l).take ((textA l).length - 1))
  unfold parP at k64c
  rw [if_neg (by simpa using hz), if_neg (by rw [List.length_take]; omega), pc, if_neg (show ¬ (25 : Int) = 0 by decide)] at k64c
  have w3 := wrap64 (n := ((textA l).length : Int) - 1) (by omega) (by omega)
  have t3 : (((textA l).length : Int) - 1).toNat = (textA l).length - 1 := by omega
  have b3 : (1 : Int) ≤ ((textA l).length : Int) := by omega
  have b6 : ((textA l).length : Int) - 1 ≤ ((textA l).length : Int) := by omega
  have b4 : ¬ (l.length : Int) = 0 := by omega
  have b5 : ((l.length : Int) == 0) = false := by simpa using b4
  generalize textA l = W at *
  generalize splitS 10 W = Ps at *
  unfold c12r
  simp only [ha, csl, hc, asl] at *
  generalize rowC ac l = A at *
  generalize l.length = L at *
  generalize cI h.t0 = A0 at *
  generalize cI h.t1 = A1 at *
  generalize cI h.t2 = A2 at *
  by_cases hp : PL.2.2 = 0
  ·obtain ⟨-, k63y⟩ := hy hp
   rw [if_pos hp, hp] at k64s
   simp -implicitDefEqProofs [tlS, c12, ka, k19, k20, k63, k64t, k69, k68, k74, k64s, k63y, k64c, hsl, wl, wl2, w3, t3, b3, b5, b6, strBin]
  ·have hpb : (PL.2.2 == 0) = false := by simpa using hp
   rw [if_neg hp] at k64s
   simp -implicitDefEqProofs [tlS, c12, ka, k19, k20, k63, k64t, k69, k68, k74, k64s, k64c, hsl, hpb, wl, wl2, w3, t3, b3, b5, b6]

theorem back_at (ka : RUN 60 17 [] = .ret (.p (.bool true))) (h : HallI) (l : List ActI) (hl : l.length ≤ 9223372036854775807) (s : List UInt8) : RUN 61 12 [ha h, asl l, sv s] = .ret (.p (.bool true)) := by
 rw [RUN, call_eq (d := 60) fe12 _ rfl, c12_body]
 have k15 : RUN 60 15 [ha h] = .ret (.p (.bool (shortH h))) := short15 (n := 60) (by omega) h
 have k16 : RUN 60 16 [asl l] = .ret (.p (.bool (shortA l))) := short16 (n := 60) (by omega) l hl
 cases hsh : shortH h with
 | false =>
  rw [hsh] at k15
  simp only [ha, csl, asl] at *
  generalize cI h.t0 = A0 at *
  generalize cI h.t1 = A1 at *
  generalize cI h.t2 = A2 at *
  simp -implicitDefEqProofs [hdS, tlS, c12, k15, ka]
 | true =>
  rw [hsh] at k15
  cases hsa : shortA l with
  | false =>
   rw [hsa] at k16
   simp only [ha, csl, asl] at *
   generalize cI h.t0 = A0 at *
   generalize cI h.t1 = A1 at *
   generalize cI h.t2 = A2 at *
   generalize rowC ac l = A at *
   simp -implicitDefEqProofs [hdS, tlS, c12, k15, k16, ka]
  | true =>
   rw [hsa] at k16
   simp only [shortH, shortA, Bool.and_eq_true, Bool.or_eq_true, decide_eq_true_eq] at hsh hsa
   obtain ⟨s0, s1, s2⟩ := hsh
   have k26 := check26 (n := 60) (by omega) h (by omega) (by omega) (by omega) l (by omega)
   by_cases h1 : (24 : Int) < l.length
   ·simp only [ha, csl, asl] at *
    generalize cI h.t0 = A0 at *
    generalize cI h.t1 = A1 at *
    generalize cI h.t2 = A2 at *
    generalize rowC ac l = A at *
    simp -implicitDefEqProofs [hdS, tlS, c12, h1, ka, k15, k16]
   ·by_cases h2 : (400 : Int) < s.length
    ·simp only [ha, csl, asl] at *
     generalize cI h.t0 = A0 at *
     generalize cI h.t1 = A1 at *
     generalize cI h.t2 = A2 at *
     generalize rowC ac l = A at *
     simp -implicitDefEqProofs [hdS, tlS, c12, h1, h2, ka, k15, k16]
    ·by_cases h3 : chkE h l = 0
     ·have hk := fun tl => back_rest ka h (by omega) (by omega) (by omega) l s (by omega) (by omega) h3 tl
      rw [h3] at k26
      simp only [ha, csl, asl, hc] at *
      generalize cI h.t0 = A0 at *
      generalize cI h.t1 = A1 at *
      generalize cI h.t2 = A2 at *
      generalize rowC ac l = A at *
      simp -implicitDefEqProofs [hdS, tlS, c12, h1, h2, k15, k16, k26, hk]
     ·have hb : (chkE h l == 0) = false := by simpa using h3
      simp only [ha, csl, asl] at *
      generalize cI h.t0 = A0 at *
      generalize cI h.t1 = A1 at *
      generalize cI h.t2 = A2 at *
      generalize rowC ac l = A at *
      simp -implicitDefEqProofs [hdS, tlS, c12, h1, h2, h3, k15, k16, k26, ka]
end Fw
