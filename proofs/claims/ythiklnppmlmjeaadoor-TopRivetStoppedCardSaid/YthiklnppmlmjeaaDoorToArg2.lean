/- Several texts in one: steps of the proof, no condition of their own. -/
import Derived.Test.YthiklnppmlmjeaaDoorToS6
import Derived.Test.YthiklnppmlmjeaaDoorTgMov
import Derived.Test.YthiklnppmlmjeaaDoorTgH8
import Derived.Test.YthiklnppmlmjeaaDoorTgSD
import Derived.Test.YthiklnppmlmjeaaDoorToArgs
import Derived.Test.YthiklnppmlmjeaaDoorTgJ3
attribute [local irreducible] Fw.evCode Fw.evOps Fw.evOpsD Fw.evOper Fw.evOperD Fw.evOp Fw.evFn Fw.loopN Fw.T.All Fw.T.bind Fw.callPure Fw.callOp Fw.opsK Fw.opsDK Fw.restK Fw.seqK Fw.blockK Fw.loopS Fw.setK Fw.setQ Fw.giveK Fw.scalK Fw.gcK Fw.finish Fw.finS Fw.rfunK Fw.yldK Fw.yldB Fw.loopK
section
set_option maxHeartbeats 16000000
set_option maxRecDepth 8000
namespace Fw
open Go

theorem brake_loop {t : TowI} (ht : TowOk t) (hz : towE t = 0) (hw24 : t.wall ≤ 24) {g : List (Int × Int)} (hgl : g.length ≤ 32) (hg : spnE g = 0) {s c : Nat} (hs : s ≤ 300) (hc : (c : Int) ≤ lastI t) (hin : ∀ k, k < c → inB g ((s : Int) + k) = true) (hout : inB g ((s : Int) + c) = false) {f : Int} (hf : f = t.fl ∨ f = t.fh) (i : Nat) :
  loopN (loopS (evFn F C0 G0 60) C0 G0 0 true [3, 9, 11, 14, 16, 109, 110, 119, 120] c4L4) loopFuel ⟨V1 g s c f (.agg [iv t.fl, iv t.fh]) (.agg [iv t.bl, iv t.bh]) i 0, [(0, .box (twl t))]⟩ = .ret (.exit 6, ⟨V1 g s c f (.agg [iv t.fl, iv t.fh]) (.agg [iv t.bl, iv t.bh]) i 2 ++ [(121, .p (.bool false))], [(0, .box (twl t))]⟩) := by
 refine loop_run' (fun j => ⟨V1 g s c f (.agg [iv t.fl, iv t.fh]) (.agg [iv t.bl, iv t.bh]) i j, [(0, .box (twl t))]⟩) 2 (e := .exit 6) (by simp) rfl (fun j hj => brake_round ht hz hw24 hgl hg hs hc hin hout hf i j hj) ?_ (by simp [loopFuel])
 simp -implicitDefEqProofs [V1, loopS_eq, c4L4]

def V5 (g : List (Int × Int)) (s c : Nat) (F1 : AVal) (i : Nat) : Env := [(3, .ptr 0 0 0), (9, csl g), (11, iv s), (14, iv c), (109, F1), (110, iv i)]
theorem fric_round {t : TowI} (ht : TowOk t) (hz : towE t = 0) (hw24 : t.wall ≤ 24) {g : List (Int × Int)} (hgl : g.length ≤ 32) (hg : spnE g = 0) {s c : Nat} (hs : s ≤ 300) (hc : (c : Int) ≤ lastI t) (hin : ∀ k, k < c → inB g ((s : Int) + k) = true) (hout : inB g ((s : Int) + c) = false) (i : Nat) (hi : i < 2) :
  ∃ st1, loopS (evFn F C0 G0 60) C0 G0 0 true [3, 9, 11, 14, 109, 110] c4L5 ⟨V5 g s c (.agg [iv t.fl, iv t.fh]) i, [(0, .box (twl t))]⟩ = .ret (.normal, st1) ∧ loopS (evFn F C0 G0 60) C0 G0 0 true [3, 9, 11, 14, 109, 110] c4L5 st1 = loopS (evFn F C0 G0 60) C0 G0 0 true [3, 9, 11, 14, 109, 110] c4L5 ⟨V5 g s c (.agg [iv t.fl, iv t.fh]) (i + 1), [(0, .box (twl t))]⟩ := by
 have hlt' : (i : Int) < 2 := by omega
 have hw := wrap_succ (i := i) (by omega)
 have z00 : ((0 : Nat) : Int) = 0 := rfl
 have key : ∀ f : Int, f = t.fl ∨ f = t.fh → (∀ q, ([iv t.fl, iv t.fh] : List AVal)[i]'q = iv f) → ∃ st1, loopS (evFn F C0 G0 60) C0 G0 0 true [3, 9, 11, 14, 109, 110] c4L5 ⟨V5 g s c (.agg [iv t.fl, iv t.fh]) i, [(0, .box (twl t))]⟩ = .ret (.normal, st1) ∧ loopS (evFn F C0 G0 60) C0 G0 0 true [3, 9, 11, 14, 109, 110] c4L5 st1 = loopS (evFn F C0 G0 60) C0 G0 0 true [3, 9, 11, 14, 109, 110] c4L5 ⟨V5 g s c (.agg [iv t.fl, iv t.fh]) (i + 1), [(0, .box (twl t))]⟩ := by
  intro f hf hgq
  have kL := brake_loop ht hz hw24 hgl hg hs hc hin hout hf i
  simp only [V1, V5, csl, twl, z00] at kL ⊢
  refine ⟨?_, ?h1, ?h2⟩
  case h1 =>
   simp -implicitDefEqProofs [loopS_eq, c4L5, hlt', hi, hgq]
   rw [show loopN _ _ _ = _ from kL]
   simp -implicitDefEqProofs [hw]
   exact rfl
  case h2 => exact loopS_same rfl (by simp)
 have hcase : i = 0 ∨ i = 1 := by omega
 rcases hcase with rfl | rfl
 ·exact key t.fl (.inl rfl) (fun _ => rfl)
 ·exact key t.fh (.inr rfl) (fun _ => rfl)
theorem fric_loop {t : TowI} (ht : TowOk t) (hz : towE t = 0) (hw24 : t.wall ≤ 24) {g : List (Int × Int)} (hgl : g.length ≤ 32) (hg : spnE g = 0) {s c : Nat} (hs : s ≤ 300) (hc : (c : Int) ≤ lastI t) (hin : ∀ k, k < c → inB g ((s : Int) + k) = true) (hout : inB g ((s : Int) + c) = false) :
  loopN (loopS (evFn F C0 G0 60) C0 G0 0 true [3, 9, 11, 14, 109, 110] c4L5) loopFuel ⟨V5 g s c (.agg [iv t.fl, iv t.fh]) 0, [(0, .box (twl t))]⟩ = .ret (.exit 4, ⟨V5 g s c (.agg [iv t.fl, iv t.fh]) 2 ++ [(111, .p (.bool false))], [(0, .box (twl t))]⟩) := by
 refine loop_run' (fun i => ⟨V5 g s c (.agg [iv t.fl, iv t.fh]) i, [(0, .box (twl t))]⟩) 2 (e := .exit 4) (by simp) rfl (fun i hi => fric_round ht hz hw24 hgl hg hs hc hin hout i hi) ?_ (by simp [loopFuel])
 simp -implicitDefEqProofs [V5, loopS_eq, c4L5]
end Fw
end

section
set_option maxHeartbeats 16000000
set_option maxRecDepth 8000
namespace Fw
open Go

theorem bg_len (h : HallI) (l : List ActI) : (runH h l).1.length ≤ l.length := (runG_len h.base (wP h) l bgS).1
theorem arm_spans {h : HallI} {l : List ActI} (hl : l.length ≤ 24) (hp : ∀ y ∈ l, 0 ≤ y.tick ∧ y.tick ≤ 300) : (spanF armP (runH h l).1 (runH h l).1.length).length ≤ 24 ∧ spnE (spanF armP (runH h l).1 (runH h l).1.length) = 0 := by
 have h1 := spanF_len armP (runH h l).1 (runH h l).1.length
 have h2 := bg_len h l
 have hasc := runH_asc h l
 have htk := run_ticks h.base (wP h) 300 l bgS hp
 rw [show (runG h.base (wP h) bgS l).1 = (runH h l).1 from rfl] at htk
 refine ⟨by omega, ?_⟩
 generalize (runH h l).1 = L at *
 by_cases h0 : L.length = 0
 ·have : L = [] := List.eq_nil_of_length_eq_zero h0
  subst this
  exact spn_of (m := 0) ⟨fun i hi => by simp [spanF] at hi, fun i hi => by simp [spanF] at hi⟩ (by omega) (by simp [spanF])
 ·have hg : ∀ i, i < L.length → 0 ≤ (L.getD i zS).tick ∧ (L.getD i zS).tick ≤ 300 := fun i hi => by
   have e : L.getD i zS = L[i] := by simp [List.getD_eq_getElem?_getD, List.getElem?_eq_getElem hi]
   rw [e]
   exact htk _ (List.getElem_mem hi)
  rw [span_all] at h1 ⊢
  have hk := span_ok armP hasc (fun i hi => (hg i hi).1) (L.length - 1) (by omega)
  have := hg (L.length - 1) (by omega)
  exact spn_of hk (by omega) (by omega)

theorem stopped_at (ka : RUN 60 23 [] = .ret (.p (.bool true))) (t : TowI) (h : HallI) (l : List ActI) (hl : l.length ≤ 9223372036854775807) :
  RUN 61 4 [twa t, ha h, asl l] = .ret (.p (.bool true)) := by
 rw [RUN, call_eq (d := 60) fe4 _ rfl]
 have k22 := ready22 (n := 60) (by omega) t h l hl
 cases hR : readyB t h l with
 | false =>
  rw [hR] at k22
  simp only [twa, ha, csl, asl] at *
  generalize cI h.t0 = A0 at *
  generalize cI h.t1 = A1 at *
  generalize cI h.t2 = A2 at *
  generalize rowC ac l = R at *
  simp -implicitDefEqProofs [c4, k22, ka]
 | true =>
  rw [hR] at k22
  simp only [readyB, Bool.and_eq_true, decide_eq_true_eq] at hR
  obtain ⟨p24, hz, ⟨b0, b1, b2⟩, _, l24, hc, he⟩ := hR
  have ht := tow_of hz
  have hli := last_in ht
  have hwl := ht.wl
  have k25 := tow25 (n := 60) (by omega) t (by omega)
  have k24 := last24 (n := 60) (by omega) t (by omega)
  rw [if_pos hz] at k24
  have k17 := own17 (n := 60) (by omega) h (by omega) (by omega) (by omega)
  have k27 := back27 (n := 60) (by omega) l (by omega)
  obtain ⟨a, k26, hd⟩ := armed26 (n := 60) (by omega) h (by omega) (by omega) (by omega) l (by omega)
  rw [hc] at k26
  rw [if_pos hc] at hd
  obtain ⟨hac, _, _⟩ := chk_parts hc
  have hro := run_ok (h := h) (by omega) (by omega) (by omega) (by omega) hac
  have hpos : ∀ y ∈ l, 0 ≤ y.tick := fun y hy => (hro.acts y hy).2.1
  have hear : ∀ y ∈ l, y.tick ≤ 300 := by
   simpa only [earlyB, List.all_eq_true, decide_eq_true_eq] using he
  obtain ⟨hgl, hgs⟩ := arm_spans (h := h) l24 (fun y hy => ⟨hpos y hy, hear y hy⟩)
  have hnone := fun q => armed_none (h := h) (l := l) q
  generalize spanF armP (runH h l).1 (runH h l).1.length = g at *
  have n1 : ¬ lastI t < 0 := by omega
  have n2 : ¬ t.wall < lastI t := by omega
  have kA := fun S0 hS => arm_loop (d := 60) l (by omega) hpos (lastI t) g t S0 hS
  have kA := kA [(1, .box [iv h.doors, iv h.base, csl h.t0, csl h.t1, csl h.t2]), (0, .box (twl t))] (loopS_same rfl (by simp))
  by_cases hs : armT l < 0
  ·have hg0 := hnone ((armT_neg l hpos).1 hs)
   have hgl0 : g.length = 0 := by rw [hg0]; rfl
   simp only [twa, twl, ha, csl, asl] at *
   generalize cI h.t0 = A0 at *
   generalize cI h.t1 = A1 at *
   generalize cI h.t2 = A2 at *
   generalize rowC ac l = R at *
   generalize cI g = GC at *
   simp -implicitDefEqProofs [c4, k22, k25, k24, k17, k27, k26, hd, n1, n2]
   rw [show loopN _ _ _ = _ from kA]
   simp -implicitDefEqProofs [hs, hgl0, ka]
  ·obtain ⟨y, hy, hyt⟩ := armT_in l hs
   obtain ⟨s, hs'⟩ : ∃ s : Nat, armT l = s := ⟨(armT l).toNat, by omega⟩
   have hs3 : s ≤ 300 := by have := hear y hy; omega
   obtain ⟨c, hcN, hPc, hPk⟩ := first_not (fun k => decide ((k : Int) ≤ lastI t) && inB g ((s : Int) + k)) ((lastI t + 1).toNat) (by
    have : ¬ (((lastI t + 1).toNat : Nat) : Int) ≤ lastI t := by omega
    simp only [decide_eq_false this, Bool.false_and])
   have hP : ∀ k, k < c → (k : Int) ≤ lastI t ∧ inB g ((s : Int) + k) = true := fun k hk => by
    have := hPk k hk
    simpa only [Bool.and_eq_true, decide_eq_true_eq] using this
   have hN : ¬ ((c : Int) ≤ lastI t ∧ inB g ((s : Int) + c) = true) := fun q => by
    simp only [q.1, q.2, decide_true, Bool.and_self] at hPc
    cases hPc
   have kW := cell_while g (by omega) (lastI t) s c hs3 (by omega) hP hN [(0, .box (twl t))]
   rw [hs'] at kA
   have n3 : ¬ (s : Int) < 0 := by omega
   have z00 : ((0 : Nat) : Int) = 0 := rfl
   by_cases hcl : lastI t < (c : Int)
   ·simp only [twa, twl, ha, csl, asl] at *
    generalize cI h.t0 = A0 at *
    generalize cI h.t1 = A1 at *
    generalize cI h.t2 = A2 at *
    generalize rowC ac l = R at *
    generalize cI g = GC at *
    simp -implicitDefEqProofs [c4, k22, k25, k24, k17, k27, k26, hd, n1, n2]
    rw [show loopN _ _ _ = _ from kA]
    simp -implicitDefEqProofs [n3]
    rw [show loopN _ _ _ = _ from kW]
    simp -implicitDefEqProofs [hcl, ka]
   ·have hc' : (c : Int) ≤ lastI t := by omega
    have hout : inB g ((s : Int) + c) = false := by
     cases hb : inB g ((s : Int) + c) with
     | false => rfl
     | true => exact absurd ⟨hc', hb⟩ hN
    have kF := fric_loop ht hz (by omega) (by omega) hgs hs3 hc' (fun k hk => (hP k hk).2) hout
    simp only [V5, z00] at kF
    simp only [twa, twl, ha, csl, asl] at *
    generalize cI h.t0 = A0 at *
    generalize cI h.t1 = A1 at *
    generalize cI h.t2 = A2 at *
    generalize rowC ac l = R at *
    generalize cI g = GC at *
    simp -implicitDefEqProofs [c4, k22, k25, k24, k17, k27, k26, hd, n1, n2]
    rw [show loopN _ _ _ = _ from kA]
    simp -implicitDefEqProofs [n3]
    rw [show loopN _ _ _ = _ from kW]
    simp -implicitDefEqProofs [hcl]
    rw [show loopN _ _ _ = _ from kF]
    simp -implicitDefEqProofs [ka]
end Fw
end

section
namespace Fw
open Go

theorem act_rows : ∀ (rows : List (List PVal)), (∀ r ∈ rows, HasTy actTy r ∧ r.length = actTy.size) → ∃ l : List ActI, rows.flatten = rowC ac l ∧ l.length = rows.length := by
 intro rows
 induction rows with
 | nil => intro _; exact ⟨[], rfl, rfl⟩
 | cons r rest ih =>
  intro h
  obtain ⟨l, h1, h2⟩ := ih (fun r hr => h r (by simp [hr]))
  obtain ⟨hr, _⟩ := h r (by simp)
  obtain ⟨_, r1, rfl, ⟨a, rfl, _⟩, _, _, r2, rfl, ⟨k, rfl, hk⟩, _, _, r3, rfl, ⟨b, rfl, _⟩, _, _, r4, rfl, ht, _, hr4⟩ := hr
  have hr' : r4 = [] := hr4
  subst hr'
  obtain ⟨x, y, z, rfl⟩ := three_args ht
  exact ⟨⟨a, k, b, x, y, z⟩ :: l, by simp [h1, rowC_cons, ac], by simp [h2]⟩
theorem acts_args {ps : List PVal} (h : HasTy (.sl actTy) ps) : ∃ l : List ActI, ps = [.sl (rowC ac l) l.length] ∧ l.length ≤ 9223372036854775807 := by
 obtain ⟨rows, rfl, b1, b2⟩ := h
 obtain ⟨l, s1, s2⟩ := act_rows rows b1
 exact ⟨l, by rw [s1, ← s2], by omega⟩

abbrev towTy : Ty := .st [.sl (.int .i64), bandTy, bandTy, .int .i64]
theorem tow_args {ps : List PVal} (h : HasTy towTy ps) : ∃ t : TowI, ps = twc t := by
 obtain ⟨s1, r1, rfl, ⟨rows, rfl, a1, a2⟩, _, f1, r2, rfl, hf, _, b1, r3, rfl, hb, _, _, r4, rfl, ⟨w, rfl, _⟩, _, hr⟩ := h
 have hr' : r4 = [] := hr
 subst hr'
 obtain ⟨l, l1, l2, _⟩ := rows_ints rows a1
 obtain ⟨fl, fh, rfl⟩ := band_args hf
 obtain ⟨bl, bh, rfl⟩ := band_args hb
 exact ⟨⟨l, fl, fh, bl, bh, w⟩, by simp [l1, l2, twc]⟩
end Fw
end

