/- Several texts in one: steps of the proof, no condition of their own. -/
import Derived.Test.YtdjkleaojdeepaaGreatDoorGaSf3
import Derived.Test.YtdjkleaojdeepaaGreatDoorGaDon2
attribute [local irreducible] Fw.evCode Fw.evOps Fw.evOpsD Fw.evOper Fw.evOperD Fw.evOp Fw.evFn Fw.loopN Fw.T.All Fw.T.bind Fw.callPure Fw.callOp Fw.opsK Fw.opsDK Fw.restK Fw.seqK Fw.blockK Fw.loopS Fw.setK Fw.setQ Fw.giveK Fw.scalK Fw.gcK Fw.finish Fw.finS Fw.rfunK Fw.yldK Fw.yldB Fw.loopK
section
set_option maxHeartbeats 16000000
set_option maxRecDepth 8000
namespace Fw
open Go

structure Inv9 (h : HallI) (D : List ActI) (S : StaI) (held : Bool) (fr sh : Int) : Prop where
 hc : chkE h D = 0
 hS : S = lastS (runH h D).1
 all : ∀ s ∈ (runH h D).1, SafeS s
 sf : SafeS S
 ok : StOk S
 hd : held = (S.adm == -1)
 hf : held = false → S.adm = fr
 hsh : sh = (shF D D.length).length
theorem inv9_0 {h : HallI} (hz : hallE h = 0) : Inv9 h [] bgS false 0 0 := by
 refine ⟨?_, rfl, fun s hs => by simp [runH, runG] at hs, bg_safe, ⟨by decide, by decide, by decide, by decide⟩, rfl, fun _ => rfl, rfl⟩
 have ha : actsE h [] = 0 := by simp [actsE, hz, firstE, whenE]
 exact chk_of ha rfl
theorem setO_adm (s : StaI) (m : Int) (b : Bool) : (setO s m b).adm = s.adm := by unfold setO; repeat (first | rfl | split)
theorem setY_adm (s : StaI) (m : Int) (b : Bool) : (setY s m b).adm = s.adm := by unfold setY; repeat (first | rfl | split)
theorem aft_adm (base W : Int) (s : StaI) (x : ActI) (hk : x.kind ∈ kindL) : (aftS base W s x).tick = x.tick ∧ (aftS base W s x).adm = (if x.kind = kShoot then -1 else if x.kind = kMeasure then max (s.shot + base) (x.tick + W) else s.adm) ∧ (x.kind = kMeasure → (aftS base W s x).shot = s.shot) := by
 obtain ⟨t, k, m, a, b, c⟩ := x
 simp only [kindL, List.mem_cons, List.not_mem_nil, or_false] at hk
 have n1 : ¬ kOpen = kMeasure := by decide
 have n2 : ¬ kClose = kMeasure := by decide
 have n3 : ¬ kInsert = kMeasure := by decide
 have n4 : ¬ kRemove = kMeasure := by decide
 have n5 : ¬ kEnter = kMeasure := by decide
 have n6 : ¬ kLeave = kMeasure := by decide
 have n7 : ¬ kArm = kMeasure := by decide
 have n8 : ¬ kDisarm = kMeasure := by decide
 have n9 : ¬ kShoot = kMeasure := by decide
 rcases hk with rfl | rfl | rfl | rfl | rfl | rfl | rfl | rfl | rfl | rfl
 ·exact ⟨setO_tick { s with tick := t } m true, setO_adm { s with tick := t } m true, fun h => absurd h n1⟩
 ·exact ⟨setO_tick { s with tick := t } m false, setO_adm { s with tick := t } m false, fun h => absurd h n2⟩
 ·exact ⟨setY_tick { s with tick := t } m true, setY_adm { s with tick := t } m true, fun h => absurd h n3⟩
 ·exact ⟨setY_tick { s with tick := t } m false, setY_adm { s with tick := t } m false, fun h => absurd h n4⟩
 ·exact ⟨rfl, rfl, fun h => absurd h n5⟩
 ·exact ⟨rfl, rfl, fun h => absurd h n6⟩
 ·exact ⟨rfl, rfl, fun h => absurd h n7⟩
 ·exact ⟨rfl, rfl, fun h => absurd h n8⟩
 ·exact ⟨rfl, rfl, fun h => absurd h n9⟩
 ·exact ⟨rfl, rfl, fun _ => rfl⟩
theorem inv9_snoc {h : HallI} {D : List ActI} {S : StaI} {held : Bool} {fr sh : Int} (I : Inv9 h D S held fr sh) (g0 : h.t0.length < 1000000) (g1 : h.t1.length < 1000000) (g2 : h.t2.length < 1000000) {x : ActI} (hx : actE h x = 0) (hD : D.length + 1 ≤ 1000) (hr : (reaL S x).length = 0) :
  Inv9 h (D ++ [x]) (aftS h.base (wP h x) S x) (heldF x held) (frF h x (aftS h.base (wP h x) S x) fr) (shF9 x sh) ∧ chkE h (D ++ [x]) = 0 ∧ runS h (D ++ [x]) = aftS h.base (wP h x) S x ∧ runI h (D ++ [x]) = 0 := by
 obtain ⟨hc, hS, hall, sf, ok, hd, hf, hsh⟩ := I
 obtain ⟨z1, z2, z3⟩ := chk_parts hc
 have hz := (acts_ok z1).1
 have hxo := actOk_of hz hx
 have ha := acts_snoc z1 hx hD
 have hrun := runH_snoc h z2 x
 rw [← hS, if_pos hr] at hrun
 have hk : x.kind ∈ kindL := (shA_of (doors_of hz).2 hx).k
 obtain ⟨b1, b2, b3⟩ := aft_adm h.base (wP h x) S x hk
 have hs2 := safe_aft sf ok hxo hr h.base (wP h x)
 have ho2 := aft_ok ok hxo hr h.base (wP h x)
 have hh := hall_ok hz g0 g1 g2
 have hW := (hh.2.2.2.2.2 x.a x.b x.c).1
 have hb := hh.2.2.2.1
 have ht := hxo.2.1
 refine ⟨⟨chk_of ha (by rw [hrun]), by rw [hrun]; exact (lastS_snoc _ _).symm, fun s hs => ?_, hs2, ho2, ?_, ?_, ?_⟩, chk_of ha (by rw [hrun]), ?_, ?_⟩
 ·rw [hrun] at hs
  rcases List.mem_append.1 hs with q | q
  ·exact hall s q
  ·have : s = aftS h.base (wP h x) S x := by simpa using q
   rw [this]; exact hs2
 ·rw [b2]
  unfold heldF
  split
  ·rfl
  ·split
   ·symm
    rw [beq_eq_false_iff_ne]
    have : wP h x = waitP h x.a x.b x.c := rfl
    omega
   ·exact hd
 ·intro hh2
  rw [b2]
  unfold heldF at hh2
  unfold frF
  split
  ·rename_i q; rw [if_pos q] at hh2; cases hh2
  ·rename_i q
   rw [if_neg q] at hh2
   split
   ·rename_i q2; rw [b3 q2]
   ·rename_i q2
    rw [if_neg q2] at hh2
    exact hf hh2
 ·rw [shots_snoc]
  unfold shF9
  by_cases q : x.kind = kShoot
  ·rw [if_pos q, hsh]; simp [q]
  ·have qb : (x.kind == kShoot) = false := by simpa using q
   rw [if_neg q, hsh, qb]; simp
 ·unfold runS; rw [if_pos ⟨ha, by rw [hrun]⟩, hrun]; exact lastS_snoc _ _
 ·unfold runI; rw [if_neg (by rw [hrun]; simp)]
theorem inv9_not {h : HallI} {D : List ActI} {S : StaI} {held : Bool} {fr sh : Int} (I : Inv9 h D S held fr sh) {x : ActI} (hx : actE h x = 0) (hD : D.length + 1 ≤ 1000) (hr : (reaL S x).length ≠ 0) : chkE h (D ++ [x]) = 21 ∧ runI h (D ++ [x]) = D.length := by
 obtain ⟨hc, hS, hall, sf, ok, hd, hf, hsh⟩ := I
 obtain ⟨z1, z2, z3⟩ := chk_parts hc
 have ha := acts_snoc z1 hx hD
 have hrun := runH_snoc h z2 x
 rw [← hS, if_neg hr] at hrun
 refine ⟨?_, ?_⟩
 ·unfold chkE; rw [if_neg (by simpa using ha), hrun]; rfl
 ·unfold runI; rw [if_pos ⟨ha, by rw [hrun]⟩, hrun]
  have := runs_all z2
  simp [this]

theorem start9_skip {d : Nat} (hd : 20 ≤ d) (h : HallI) (hd1 : 1 ≤ h.doors) (hd2 : h.doors ≤ 8) (n : Nat) (D : List ActI) (S : StaI) (held : Bool) (fr sh : Int) (l : List ActI) (i : Nat) (hi : i < l.length) (hc : 40 < l[i].kind.length ∨ actE h l[i] ≠ 0) :
  evCode (evFn F C0 G0 d) C0 G0 0 b9 ⟨e9 n held fr sh l i ++ [(51, bl true)], o9 h D S⟩ = .ret (.exit 1, ⟨[(2, .ptr 0 0 0), (5, .sl 1 n 0 n), (6, .ptr 2 0 0), (7, bl held), (8, iv fr), (9, iv sh), (11, .ptr 3 0 0), (48, asl l), (49, iv l.length), (50, iv i), (63, bl true)], (3, .arr (ac l[i]) 0 1) :: o9 h D S⟩) := by
 have k25 := check25 (n := d) (by omega) h hd1 hd2 l[i]
 have hR := aR_len l
 have hlt : i * 6 < l.length * 6 := by omega
 have hlt6 : i * 6 + 6 ≤ l.length * 6 := by omega
 have hdr := rowC_drop ac_len l i hi
 rw [b9_eq]
 generalize l[i] = x at *
 obtain ⟨t, k, m, a', b', c'⟩ := x
 simp only [o9, hB, e9, asl, csl, ha, List.cons_append, List.nil_append] at *
 generalize hA : rowC ac l = B at *
 generalize rowC ac (l.drop (i + 1)) = B2 at *
 generalize rowC ac D = A at *
 generalize cI h.t0 = A0 at *
 generalize cI h.t1 = A1 at *
 generalize cI h.t2 = A2 at *
 generalize actE h ⟨t, k, m, a', b', c'⟩ = e at *
 by_cases h4 : (40 : Int) < k.length
 ·simp -implicitDefEqProofs [b9, bdS, hdS, tlS, c9L0, hi, hR, hlt, hdr, ac, h4]
 ·have he : e ≠ 0 := by
   rcases hc with hc | hc
   ·omega
   ·exact hc
  have heb : (e != 0) = true := by simpa using he
  simp -implicitDefEqProofs [b9, bdS, hdS, tlS, c9L0, hi, hR, hlt, hdr, ac, h4, k25, heb]
theorem start9_go {d : Nat} (hd : 20 ≤ d) (h : HallI) (hd1 : 1 ≤ h.doors) (hd2 : h.doors ≤ 8) (n : Nat) (D : List ActI) (S : StaI) (held : Bool) (fr sh : Int) (l : List ActI) (i : Nat) (hi : i < l.length) (hc : ¬ 40 < l[i].kind.length) (hx : actE h l[i] = 0) :
  evCode (evFn F C0 G0 d) C0 G0 0 b9 ⟨e9 n held fr sh l i ++ [(51, bl true)], o9 h D S⟩ =
   evCode (evFn F C0 G0 d) C0 G0 0 p9 ⟨(2, .ptr 0 0 0) :: (5, .sl 1 n 0 n) :: (6, .ptr 2 0 0) :: (7, bl held) :: (8, iv fr) :: (9, iv sh) :: (11, .ptr 3 0 0) :: (48, asl l) :: (49, iv l.length) :: (50, iv i) :: [(63, bl false)], (3, .arr (ac l[i]) 0 1) :: o9 h D S⟩ := by
 have k25 := check25 (n := d) (by omega) h hd1 hd2 l[i]
 rw [hx] at k25
 have hR := aR_len l
 have hlt : i * 6 < l.length * 6 := by omega
 have hlt6 : i * 6 + 6 ≤ l.length * 6 := by omega
 have hdr := rowC_drop ac_len l i hi
 conv => lhs; rw [b9_eq]
 generalize l[i] = x at *
 obtain ⟨t, k, m, a', b', c'⟩ := x
 have h4 : ¬ (40 : Int) < k.length := by simp only at hc; omega
 simp only [o9, hB, e9, asl, csl, ha, List.cons_append, List.nil_append] at *
 generalize hA : rowC ac l = B at *
 generalize rowC ac (l.drop (i + 1)) = B2 at *
 generalize rowC ac D = A at *
 generalize cI h.t0 = A0 at *
 generalize cI h.t1 = A1 at *
 generalize cI h.t2 = A2 at *
 simp -implicitDefEqProofs [b9, bdS, hdS, tlS, c9L0, hi, hR, hlt, hdr, ac, h4, k25]
theorem step9 {d : Nat} (h : HallI) (D : List ActI) (S : StaI) (held : Bool) (fr sh : Int) (l : List ActI) (i : Nat) (hi : i < l.length) (hl : l.length < 1000) {n' : Nat} {held' : Bool} {fr' sh' : Int} {E : Env} {X : Sto} {e : Ex}
  (hb : evCode (evFn F C0 G0 d) C0 G0 0 b9 ⟨e9 D.length held fr sh l i ++ [(51, bl true)], o9 h D S⟩ = .ret (e, ⟨E, X⟩)) (he : e = .normal ∨ e = .exit 1) (hE : restrict E [2, 5, 6, 7, 8, 9, 48, 49, 50] = e9 n' held' fr' sh' l i) :
  loopS (evFn F C0 G0 d) C0 G0 0 true [2, 5, 6, 7, 8, 9, 48, 49, 50] c9L0 ⟨e9 D.length held fr sh l i, o9 h D S⟩ = .ret (.normal, ⟨e9 n' held' fr' sh' l ((i : Int) + 1), X⟩) := by
 have hlt : (i : Int) < l.length := by omega
 have wi := wrap_succ (i := i) (by omega)
 simp only [restrict, List.map_cons, List.map_nil, e9, List.cons.injEq, Prod.mk.injEq, true_and, and_true] at hE
 obtain ⟨h2, h5, h6, h7, h8, h9, h48, h49, h50⟩ := hE
 simp only [o9, hB, e9, asl, csl, List.cons_append, List.nil_append] at *
 rw [loopS_eq, c9L0_eq]
 generalize rowC ac l = B at *
 generalize rowC ac D = A at *
 generalize cI h.t0 = A0 at *
 generalize cI h.t1 = A1 at *
 generalize cI h.t2 = A2 at *
 simp -implicitDefEqProofs [hdS, tlS, c9L0, hi]
 rw [show evCode _ _ _ _ b9 _ = _ from hb]
 rcases he with rfl | rfl <;> simp -implicitDefEqProofs [wi, h2, h5, h6, h7, h8, h9, h48, h49, h50]
theorem round9 {d : Nat} (hd : 20 ≤ d) (h : HallI) (hz : hallE h = 0) (g0 : h.t0.length < 1000000) (g1 : h.t1.length < 1000000) (g2 : h.t2.length < 1000000) (l : List ActI) (hl : l.length ≤ 24) (i : Nat) (hi : i < l.length) (D : List ActI) (S : StaI) (held : Bool) (fr sh : Int) (hD : D.length ≤ i) (I : Inv9 h D S held fr sh) :
  ∃ D' S' held' fr' sh', D'.length ≤ i + 1 ∧ Inv9 h D' S' held' fr' sh' ∧ ∃ st1, loopS (evFn F C0 G0 d) C0 G0 0 true [2, 5, 6, 7, 8, 9, 48, 49, 50] c9L0 ⟨e9 D.length held fr sh l i, o9 h D S⟩ = .ret (.normal, st1) ∧
   loopS (evFn F C0 G0 d) C0 G0 0 true [2, 5, 6, 7, 8, 9, 48, 49, 50] c9L0 st1 = loopS (evFn F C0 G0 d) C0 G0 0 true [2, 5, 6, 7, 8, 9, 48, 49, 50] c9L0 ⟨e9 D'.length held' fr' sh' l ((i : Int) + 1), o9 h D' S'⟩ := by
 obtain ⟨hd1, hd2⟩ := doors_of hz
 by_cases hsk : 40 < l[i].kind.length ∨ actE h l[i] ≠ 0
 ·refine ⟨D, S, held, fr, sh, by omega, I, _, step9 h D S held fr sh l i hi (by omega) (start9_skip hd h hd1 hd2 D.length D S held fr sh l i hi hsk) (.inr rfl) rfl, ?_⟩
  generalize l[i] = x
  obtain ⟨t, k, m, a', b', c'⟩ := x
  exact loopS_same rfl (by simp [o9, hB])
 ·have hx : actE h l[i] = 0 := by
   by_cases q : actE h l[i] = 0
   ·exact q
   ·exact absurd (.inr q) hsk
  have h4 : ¬ 40 < l[i].kind.length := fun q => hsk (.inl q)
  have hgo := start9_go hd h hd1 hd2 D.length D S held fr sh l i hi h4 hx
  rw [calls9 hd h g0 g1 g2 D (by omega) I.hc l[i] hx S held fr sh l i _, ← I.hS] at hgo
  have hper := perm_has hz S hx
  have hKl := permL_len h S l[i].tick l[i].num
  by_cases hr : (reaL S l[i]).length = 0
  ·obtain ⟨I', c1, c2, c3⟩ := inv9_snoc I g0 g1 g2 hx (by omega) hr
   rw [c1, c2, c3] at hgo
   rw [decide_eq_true hr] at hper
   have hxo := actOk_of hz hx
   obtain ⟨r1, r2, r3, r4, r5, r6, r7⟩ := reaL_nil.1 hr
   have hkk := (shA_of hd2 hx).k
   obtain ⟨b1, b2, b3⟩ := aft_adm h.base (wP h l[i]) S l[i] hkk
   have hok := I'.ok
   have e1 := pass9 hd h D l[i] S (aftS h.base (wP h l[i]) S l[i]) held fr sh (reaL S l[i]) (permL h S l[i].tick l[i].num) (by omega) hr hper 0 l i (.arr (rowC ac (D ++ [l[i]])) 1 6)
   have hsh1000 : 0 ≤ sh ∧ sh ≤ 1000 := by
    have := shF_len D D.length
    have := I.hsh
    omega
   have hvm : l[i].kind = kMeasure → valE l[i].a l[i].b l[i].c = 0 := fun hm => by
    have hx' := hx
    unfold actE at hx'
    by_cases q1 : rangeE 0 100000000 l[i].tick ≠ 0
    ·rw [if_pos q1] at hx'; exact absurd hx' q1
    ·rw [if_neg q1, if_neg (by simpa using hkk)] at hx'
     by_cases q2 : l[i].num < 0 ∨ numsE h l[i].kind ≤ l[i].num
     ·rw [if_pos q2] at hx'; cases hx'
     ·rw [if_neg q2, if_pos hm] at hx'; exact hx'
   have hopn : l[i].kind ∈ [kOpen, kEnter, kArm] → held = false ∧ fr ≤ l[i].tick := fun hm => by
    unfold waiB at r7
    rw [decide_eq_true hm, Bool.true_and, Bool.not_eq_false'] at r7
    unfold admB at r7
    simp only [Bool.and_eq_true, bne_iff_ne, ne_eq, decide_eq_true_eq] at r7
    have hh : held = false := by rw [I.hd]; simpa using r7.1
    have := I.hf hh
    exact ⟨hh, by omega⟩
   have hsho : l[i].kind = kShoot → S.armed = true := fun hm => by
    generalize l[i] = x at *
    obtain ⟨t, k, m, a', b', c'⟩ := x
    simp only at hm
    subst hm
    have e : stB S ⟨t, kShoot, m, a', b', c'⟩ = !S.armed := rfl
    rw [e] at r2
    simpa using r2
   obtain ⟨tl2, e2⟩ := act9 hd h hz g0 g1 g2 D (by omega) l[i] S (aftS h.base (wP h l[i]) S l[i]) held fr sh l i (.arr (rowC ac (D ++ [l[i]])) 1 6) rfl b1 hok.1 I'.sf hkk hvm hopn hsho hsh1000 ⟨hok.2.2.1, hok.2.2.2⟩ ⟨hxo.2.1, hxo.2.2⟩ 0
   have e3 := add9 (d := d) h D (by omega) l[i] S (aftS h.base (wP h l[i]) S l[i]) (heldF l[i] held) (frF h l[i] (aftS h.base (wP h l[i]) S l[i]) fr) (shF9 l[i] sh) l i (.arr (rowC ac (D ++ [l[i]])) 1 6) rfl b1 hok.1 I'.sf tl2
   rw [e1, e2, e3] at hgo
   refine ⟨D ++ [l[i]], aftS h.base (wP h l[i]) S l[i], _, _, _, by simp; omega, I', _, step9 h D S held fr sh l i hi (by omega) (n' := D.length + 1) hgo (.inl rfl) rfl, ?_⟩
   have hl2 : (D ++ [l[i]]).length = D.length + 1 := by simp
   rw [hl2]
   generalize rowC ac (D ++ [l[i]]) = A2
   generalize aftS h.base (wP h l[i]) S l[i] = S'
   generalize heldF l[i] held = hh'
   generalize frF h l[i] S' fr = ff'
   generalize shF9 l[i] sh = ss'
   generalize l[i] = x
   obtain ⟨t, k, m, a', b', c'⟩ := x
   exact loopS_same rfl (by simp [o9, hB])
  ·obtain ⟨c1, c2⟩ := inv9_not I hx (by omega) hr
   rw [c1, c2] at hgo
   rw [decide_eq_false hr] at hper
   obtain ⟨tl1, e1⟩ := skip9 hd h D l[i] S (runS h (D ++ [l[i]])) held fr sh (reaL S l[i]) (permL h S l[i].tick l[i].num) (by omega) hr hper l i (.arr (rowC ac (D ++ [l[i]])) 1 6)
   rw [e1] at hgo
   refine ⟨D, S, held, fr, sh, by omega, I, _, step9 h D S held fr sh l i hi (by omega) hgo (.inr rfl) rfl, ?_⟩
   generalize runS h (D ++ [l[i]]) = S'
   generalize rowC ac (D ++ [l[i]]) = A2
   generalize l[i] = x
   obtain ⟨t, k, m, a', b', c'⟩ := x
   exact loopS_same rfl (by simp [o9, hB])
theorem all9 {d : Nat} (hd : 20 ≤ d) (h : HallI) (hz : hallE h = 0) (g0 : h.t0.length < 1000000) (g1 : h.t1.length < 1000000) (g2 : h.t2.length < 1000000) (l : List ActI) (hl : l.length ≤ 24) : ∀ (k i : Nat) (D : List ActI) (S : StaI) (held : Bool) (fr sh : Int), i + k = l.length → D.length ≤ i → Inv9 h D S held fr sh → ∀ fuel, k + 1 < fuel →
  ∃ D' S' held' fr' sh', D'.length ≤ l.length ∧ Inv9 h D' S' held' fr' sh' ∧ loopN (loopS (evFn F C0 G0 d) C0 G0 0 true [2, 5, 6, 7, 8, 9, 48, 49, 50] c9L0) fuel ⟨e9 D.length held fr sh l i, o9 h D S⟩ = .ret (.exit 0, ⟨e9 D'.length held' fr' sh' l l.length ++ [(51, bl false)], o9 h D' S'⟩) := by
 intro k
 induction k with
 | zero =>
  intro i D S held fr sh hi hD I fuel hf
  have : i = l.length := by omega
  subst this
  refine ⟨D, S, held, fr, sh, hD, I, loopN_end ?_ (by simp) (by omega)⟩
  simp only [o9, hB, e9, asl, csl, List.cons_append, List.nil_append]
  rw [loopS_eq, c9L0_eq]
  generalize rowC ac l = B at *
  generalize rowC ac D = A at *
  generalize cI h.t0 = A0 at *
  generalize cI h.t1 = A1 at *
  generalize cI h.t2 = A2 at *
  simp -implicitDefEqProofs [hdS, tlS, c9L0]
 | succ k ih =>
  intro i D S held fr sh hi hD I fuel hf
  obtain ⟨D', S', held', fr', sh', q1, q2, hst⟩ := round9 hd h hz g0 g1 g2 l hl i (by omega) D S held fr sh hD I
  rw [loopN_on' hst (by omega)]
  exact ih (i + 1) D' S' held' fr' sh' (by omega) q1 q2 (fuel - 1) (by omega)
end Fw
end

section
set_option maxHeartbeats 16000000
set_option maxRecDepth 8000
namespace Fw
open Go

theorem inner9 {d : Nat} (A O : List (Int × Int)) (hA : A.length < 100000) (p : Int × Int) (j : Int) (hp : ∀ q ∈ A, ¬ (p.1 < q.2 ∧ q.1 < p.2)) :
  loopN (loopS (evFn F C0 G0 d) C0 G0 0 true [23, 30, 305, 306, 307, 311, 312, 313] c9L1) loopFuel ⟨[(23, csl A), (30, .ptr 0 0 0), (305, csl O), (306, iv O.length), (307, iv j), (311, csl A), (312, iv A.length), (313, iv 0)], [(0, .arr [.int .i64 p.1, .int .i64 p.2] 0 1)]⟩ =
  .ret (.exit 4, ⟨[(23, csl A), (30, .ptr 0 0 0), (305, csl O), (306, iv O.length), (307, iv j), (311, csl A), (312, iv A.length), (313, iv A.length), (314, bl false)], [(0, .arr [.int .i64 p.1, .int .i64 p.2] 0 1)]⟩) := by
 refine loop_run' (fun i => ⟨[(23, csl A), (30, .ptr 0 0 0), (305, csl O), (306, iv O.length), (307, iv j), (311, csl A), (312, iv A.length), (313, iv i)], [(0, .arr [.int .i64 p.1, .int .i64 p.2] 0 1)]⟩) A.length (by simp) rfl ?_ ?_ (by simp [loopFuel]; omega)
 ·intro i hi
  have hx := cI_drop A i hi
  have wi := wrap_succ (i := i) (by omega)
  have hcl : (cI A).length = A.length * 2 := cI_len2 A
  have hlt : i * 2 < A.length * 2 := by omega
  have hlt2 : i * 2 + 2 ≤ A.length * 2 := by omega
  have hpq := hp A[i] (List.getElem_mem hi)
  simp only [csl]
  generalize hQ : cI A = B at *
  generalize cI O = B0 at *
  generalize cI (A.drop (i + 1)) = R2 at *
  generalize A[i] = q at *
  obtain ⟨a, b⟩ := q
  obtain ⟨c, e⟩ := p
  simp only at hx hpq ⊢
  by_cases h1 : c < b
  ·have h2 : ¬ a < e := fun h => hpq ⟨h1, h⟩
   refine ⟨?_, ?h1, ?h2⟩
   case h1 =>
    simp -implicitDefEqProofs [loopS_eq, c9L1, hi, hcl, hlt, hx, wi, h1, h2]
    exact rfl
   case h2 => exact loopS_same rfl (by simp)
  ·refine ⟨?_, ?h3, ?h4⟩
   case h3 =>
    simp -implicitDefEqProofs [loopS_eq, c9L1, hi, hcl, hlt, hx, wi, h1]
    exact rfl
   case h4 => exact loopS_same rfl (by simp)
 ·simp -implicitDefEqProofs [loopS_eq, c9L1]
theorem outer9 {d : Nat} (A O : List (Int × Int)) (hA : A.length < 100000) (hO : O.length < 100000) (hp : ∀ p ∈ O, ∀ q ∈ A, ¬ (p.1 < q.2 ∧ q.1 < p.2)) (c1 c2 : List PVal) (n1 : Nat) (cs : List AVal) (_hcs : refsL cs = []) :
  loopN (loopS (evFn F C0 G0 d) C0 G0 0 true [23, 305, 306, 307] c9L2) loopFuel ⟨[(23, csl A), (305, csl O), (306, iv O.length), (307, iv 0)], [(2, .arr c2 0 1), (1, .arr c1 n1 6), (0, .box cs)]⟩ =
  .ret (.exit 2, ⟨[(23, csl A), (305, csl O), (306, iv O.length), (307, iv O.length), (308, bl false)], []⟩) := by
 refine loop_run' (fun i => ⟨[(23, csl A), (305, csl O), (306, iv O.length), (307, iv i)], []⟩) O.length (by simp) ?_ ?_ ?_ (by simp [loopFuel]; omega)
 ·exact loopS_same rfl (by simp [csl])
 ·intro i hi
  have hx := cI_drop O i hi
  have wi := wrap_succ (i := i) (by omega)
  have hcl : (cI O).length = O.length * 2 := cI_len2 O
  have hlt : i * 2 < O.length * 2 := by omega
  have hlt2 : i * 2 + 2 ≤ O.length * 2 := by omega
  have ki := inner9 (d := d) A O hA O[i] i (hp O[i] (List.getElem_mem hi))
  simp only [csl] at ki ⊢
  generalize hQ : cI O = B at *
  generalize cI A = B0 at *
  generalize cI (O.drop (i + 1)) = R2 at *
  generalize O[i] = q at *
  obtain ⟨a, b⟩ := q
  simp only at hx ki ⊢
  refine ⟨?_, ?h1, ?h2⟩
  case h1 =>
   simp -implicitDefEqProofs [loopS_eq, c9L2, hi, hcl, hlt, hx]
   rw [show loopN _ _ _ = _ from ki]
   simp -implicitDefEqProofs [wi]
   exact rfl
  case h2 => exact loopS_same rfl (by simp)
 ·simp -implicitDefEqProofs [loopS_eq, c9L2, csl]
@[irreducible] def t9 : ACode := tlS (tlS (tlS (tlS (tlS (tlS c9.body)))))
theorem safe_rest (ka : RUN 60 17 [] = .ret (.p (.bool true))) (h : HallI) (_hz : hallE h = 0) (g0 : h.t0.length < 1000000) (g1 : h.t1.length < 1000000) (g2 : h.t2.length < 1000000) (D : List ActI) (hD : D.length ≤ 24) (S : StaI) (held : Bool) (fr sh : Int) (I : Inv9 h D S held fr sh) (tl : Env) :
  (evCode (evFn F C0 G0 60) C0 G0 0 t9 ⟨(2, .ptr 0 0 0) :: (5, .sl 1 D.length 0 D.length) :: (6, .ptr 2 0 0) :: (7, bl held) :: (8, iv fr) :: (9, iv sh) :: tl, o9 h D S⟩).bind (finish [.tmp 4]) = .ret (.p (.bool true)) := by
 have k19 := own19 (n := 60) (by omega) h g0 g1 g2
 have k20 := done20 (n := 60) (by omega) D (by omega)
 obtain ⟨a, k33, h33⟩ := occupied33 (n := 60) (by omega) h g0 g1 g2 D (by omega)
 obtain ⟨b, k34, h34⟩ := armed34 (n := 60) (by omega) h g0 g1 g2 D (by omega)
 obtain ⟨z1, z2, z3⟩ := chk_parts I.hc
 obtain ⟨c, k32, h32⟩ := shots32 (n := 60) (by omega) h g0 g1 g2 D (by omega) (fun _ x hx hk => shoot_ok ((acts_ok z1).2.2 x hx) hk)
 have k31 := admitted31 (n := 60) (by omega) h g0 g1 g2 D (by omega)
 rw [I.hc] at k33 k34 k32 k31
 rw [I.hc, if_pos rfl] at h33 h34 h32
 rw [if_pos rfl, ← I.hS] at k31
 have hsp : ∀ p ∈ spanF peoP (runH h D).1 (runH h D).1.length, ∀ q ∈ spanF armP (runH h D).1 (runH h D).1.length, ¬ (p.1 < q.2 ∧ q.1 < p.2) := fun p hp q hq => by
  have hPQ : ∀ s ∈ (runH h D).1, ¬ (peoP s = true ∧ armP s = true) := fun s hs ⟨q1, q2⟩ => by
   have := (I.all s hs q2).2.1
   simp only [peoP, decide_eq_true_eq] at q1
   omega
  rcases spans_apart (runH_asc h D) hPQ hp hq with r | r | r
  ·exact r
  ·have := span_pos _ _ _ p hp; omega
  ·have := span_pos _ _ _ q hq; omega
 have hlr := runs_all z2
 have ho1 := spanF_len peoP (runH h D).1 (runH h D).1.length
 have ho2 := spanF_len armP (runH h D).1 (runH h D).1.length
 have kO := outer9 (d := 60) (spanF armP (runH h D).1 (runH h D).1.length) (spanF peoP (runH h D).1 (runH h D).1.length) (by omega) (by omega) hsp (rowC ac D) (sc S) D.length [iv h.doors, iv h.base, csl h.t0, csl h.t1, csl h.t2] rfl
 have hsh := I.hsh
 have hhd := I.hd
 have hhf := I.hf
 have hsc : (rowC ac D).all scalarP = true := rowC_all (fun _ => rfl) D
 have hR := aR_len D
 generalize spanF armP (runH h D).1 (runH h D).1.length = AL at *
 generalize spanF peoP (runH h D).1 (runH h D).1.length = OL at *
 generalize shF D D.length = SH at *
 simp only [o9, hB, asl, csl, ha, isl] at *
 have hadm : ∃ ad, S.adm = ad := ⟨_, rfl⟩
 obtain ⟨ad, had⟩ := hadm
 rw [had] at hhd hhf k31
 generalize sc S = SC at *
 generalize rowC ac D = A at *
 generalize D.length = n at *
 generalize cI h.t0 = A0 at *
 generalize cI h.t1 = A1 at *
 generalize cI h.t2 = A2 at *
 generalize cI AL = CA at *
 generalize cI OL = CO at *
 generalize pI SH = PS at *
 subst hsh
 unfold t9
 cases held with
 | true =>
  simp -implicitDefEqProofs [tlS, c9, k19, k20, k33, k34, k32, k31, h33, h34, h32, hsc, hR, ← hhd]
  rw [kO]
  simp -implicitDefEqProofs [ka]
 | false =>
  have hf := hhf rfl
  subst hf
  by_cases hs0 : 0 < SH.length
  ·simp -implicitDefEqProofs [tlS, c9, k19, k20, k33, k34, k32, k31, h33, h34, h32, hsc, hR, ← hhd, hs0]
   rw [kO]
   simp -implicitDefEqProofs [ka]
  ·simp -implicitDefEqProofs [tlS, c9, k19, k20, k33, k34, k32, k31, h33, h34, h32, hsc, hR, ← hhd, hs0]
   rw [kO]
   simp -implicitDefEqProofs [ka]
theorem c9_body : c9.body = .seq (hdS c9.body) (.seq (hdS (tlS c9.body)) (.seq (hdS (tlS (tlS c9.body))) (.seq (hdS (tlS (tlS (tlS c9.body)))) (.seq (hdS (tlS (tlS (tlS (tlS c9.body))))) (.seq (hdS (tlS (tlS (tlS (tlS (tlS c9.body)))))) t9))))) := by unfold t9; rfl
theorem saf_at (ka : RUN 60 17 [] = .ret (.p (.bool true))) (h : HallI) (l : List ActI) (hl : l.length ≤ 9223372036854775807) : RUN 61 9 [ha h, asl l] = .ret (.p (.bool true)) := by
 rw [RUN, call_eq (d := 60) fe9 _ rfl, c9_body]
 have k15 : RUN 60 15 [ha h] = .ret (.p (.bool (shortH h))) := short15 (n := 60) (by omega) h
 cases hsh : shortH h with
 | false =>
  rw [hsh] at k15
  simp only [ha, csl, asl] at *
  generalize cI h.t0 = A0 at *
  generalize cI h.t1 = A1 at *
  generalize cI h.t2 = A2 at *
  simp -implicitDefEqProofs [hdS, tlS, c9, k15, ka]
 | true =>
  rw [hsh] at k15
  simp only [shortH, Bool.and_eq_true, decide_eq_true_eq] at hsh
  obtain ⟨s0, s1, s2⟩ := hsh
  have k65 := hall65 (n := 60) (by omega) h (by omega) (by omega) (by omega)
  by_cases hz : hallE h = 0
  ·rw [hz] at k65
   by_cases h1 : (24 : Int) < l.length
   ·simp only [ha, csl, asl] at *
    generalize cI h.t0 = A0 at *
    generalize cI h.t1 = A1 at *
    generalize cI h.t2 = A2 at *
    generalize rowC ac l = A at *
    simp -implicitDefEqProofs [hdS, tlS, c9, k15, k65, h1, ka]
   ·obtain ⟨D', S', held', fr', sh', q1, I', q2⟩ := all9 (d := 60) (by omega) h hz (by omega) (by omega) (by omega) l (by omega) l.length 0 [] bgS false 0 0 (by omega) (by simp) (inv9_0 hz) loopFuel (by simp [loopFuel]; omega)
    have hk := fun tl => safe_rest ka h hz (by omega) (by omega) (by omega) D' (by omega) S' held' fr' sh' I' tl
    have hr0 : rowC ac [] = [] := rfl
    have hbg : sc bgS = [.int .i64 0, .bool false, .bool false, .bool false, .bool false, .bool false, .bool false, .bool false, .bool false, .bool false, .bool false, .int .i64 0, .bool false, .int .i64 (-1), .int .i64 0] := rfl
    simp only [ha, csl, asl, o9, hB, e9, List.cons_append, List.nil_append, hr0, hbg, List.length_nil, Int.natCast_zero] at *
    generalize rowC ac D' = A' at *
    generalize sc S' = SS at *
    generalize cI h.t0 = A0 at *
    generalize cI h.t1 = A1 at *
    generalize cI h.t2 = A2 at *
    generalize rowC ac l = A at *
    simp -implicitDefEqProofs [hdS, tlS, c9, k15, k65, h1]
    rw [show loopN _ _ _ = _ from q2]
    simp -implicitDefEqProofs [hk]
  ·simp only [ha, csl, asl] at *
   generalize cI h.t0 = A0 at *
   generalize cI h.t1 = A1 at *
   generalize cI h.t2 = A2 at *
   generalize rowC ac l = A at *
   generalize hallE h = eh at *
   have hzb : (eh != 0) = true := by simpa using hz
   simp -implicitDefEqProofs [hdS, tlS, c9, k15, k65, hzb, ka]
end Fw
end

