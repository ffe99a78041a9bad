/- Several texts in one: steps of the proof, no condition of their own. -/
import Derived.Test.YtdjkleaojdeepaaGreatDoorGaMov
import Derived.Test.YtdjkleaojdeepaaGreatDoorGaDon
attribute [local irreducible] Fw.evCode Fw.evOps Fw.evOpsD Fw.evOper Fw.evOperD Fw.evOp Fw.evFn Fw.loopN Fw.T.All Fw.T.bind Fw.callPure Fw.callOp Fw.opsK Fw.opsDK Fw.restK Fw.seqK Fw.blockK Fw.loopS Fw.setK Fw.setQ Fw.giveK Fw.scalK Fw.gcK Fw.finish Fw.finS Fw.rfunK Fw.yldK Fw.yldB Fw.loopK
section
set_option maxHeartbeats 4000000
namespace Fw
open Go

theorem wtP_mono (l : List (Int × Int)) {v v' acc acc' : Int} (hv : v ≤ v') (ha : acc ≤ acc') : ∀ k, wtP l v acc k ≤ wtP l v' acc' k := by
 intro k
 induction k with
 | zero => exact ha
 | succ k ih =>
  simp only [wtP]
  by_cases h1 : (l.getD k (0, 0)).1 ≤ v
  ·rw [if_pos h1, if_pos (by omega)]; omega
  ·rw [if_neg h1]
   split <;> omega
theorem waitP_mono (h : HallI) {a b c a' b' c' : Int} (h1 : a ≤ a') (h2 : b ≤ b') (h3 : c ≤ c') : waitP h a b c ≤ waitP h a' b' c' :=
 wtP_mono _ h3 (wtP_mono _ h2 (wtP_mono _ h1 (Int.le_refl _) _) _) _
theorem wtP_at (l : List (Int × Int)) (v acc : Int) : ∀ k, wtP l v acc k = acc ∨ ∃ i, i < k ∧ wtP l v acc k = (l.getD i (0, 0)).2 := by
 intro k
 induction k with
 | zero => exact .inl rfl
 | succ k ih =>
  simp only [wtP]
  split
  ·rcases Int.le_total (wtP l v acc k) (l.getD k (0, 0)).2 with h | h
   ·exact .inr ⟨k, by omega, Int.max_eq_right h⟩
   ·rw [Int.max_eq_left h]
    rcases ih with e | ⟨i, hi, e⟩
    ·exact .inl e
    ·exact .inr ⟨i, by omega, e⟩
  ·rcases ih with e | ⟨i, hi, e⟩
   ·exact .inl e
   ·exact .inr ⟨i, by omega, e⟩
theorem wtP_ge (l : List (Int × Int)) (v acc : Int) : ∀ k i, i < k → (l.getD i (0, 0)).1 ≤ v → (l.getD i (0, 0)).2 ≤ wtP l v acc k := by
 intro k
 induction k with
 | zero => intro i hi; omega
 | succ k ih =>
  intro i hi hv
  simp only [wtP]
  by_cases e : i = k
  ·subst e; rw [if_pos hv]; omega
  ·have := ih i (by omega) hv
   split <;> omega
def hasW (l : List (Int × Int)) (w : Int) : Nat → Bool
 | 0 => false
 | k + 1 => hasW l w k || ((l.getD k (0, 0)).2 == w)
theorem hasW_at (l : List (Int × Int)) (w : Int) : ∀ k i, i < k → w = (l.getD i (0, 0)).2 → hasW l w k = true := by
 intro k
 induction k with
 | zero => intro i hi; omega
 | succ k ih =>
  intro i hi hw
  simp only [hasW, Bool.or_eq_true]
  by_cases e : i = k
  ·subst e; right; simpa using hw.symm
  ·exact .inl (ih i (by omega) hw)
theorem tab_first {l : List (Int × Int)} (h : tabE l = 0) : 0 < l.length ∧ (l.getD 0 (0, 0)).1 = 0 ∧ 0 ≤ (l.getD 0 (0, 0)).2 := by
 have h0 : 0 < l.length := by
  rcases Nat.eq_zero_or_pos l.length with e | e
  ·unfold tabE at h; rw [if_pos e] at h; cases h
  ·exact e
 refine ⟨h0, ?_, (tab_of h).1 0 h0⟩
 unfold tabE at h
 rw [if_neg (by omega)] at h
 split at h
 ·cases h
 ·have hst := firstE_zero.1 h (stE (prvL l 0) (l.getD 0 (0, 0)) (decide (0 = 0))) (by
   unfold stL
   exact List.mem_map.2 ⟨0, List.mem_range.2 h0, rfl⟩)
  have h3 := firstE_zero.1 hst (whenE (ordB (prvL l 0) (l.getD 0 (0, 0)) (decide (0 = 0))) 11) (by simp)
  cases ho : ordB (prvL l 0) (l.getD 0 (0, 0)) (decide (0 = 0)) with
  | true => rw [ho] at h3; cases h3
  | false =>
   simp only [ordB, Bool.or_eq_false_iff] at ho
   simpa using ho.1.1
def foundW (h : HallI) (w : Int) : Bool := (hasW h.t0 w h.t0.length || hasW h.t1 w h.t1.length) || hasW h.t2 w h.t2.length
theorem found_wait {h : HallI} (hz : hallE h = 0) {a b c : Int} (ha : 0 ≤ a) : foundW h (waitP h a b c) = true := by
 have hE := firstE_zero.1 hz
 obtain ⟨f0, f1, f2⟩ := tab_first (hE (tabE h.t0) (by simp))
 unfold foundW
 rcases wtP_at h.t2 c (wtP h.t1 b (wtP h.t0 a 0 h.t0.length) h.t1.length) h.t2.length with e2 | ⟨i, hi, e2⟩
 ·rcases wtP_at h.t1 b (wtP h.t0 a 0 h.t0.length) h.t1.length with e1 | ⟨i, hi, e1⟩
  ·rcases wtP_at h.t0 a 0 h.t0.length with e0 | ⟨i, hi, e0⟩
   ·have hg := wtP_ge h.t0 a 0 h.t0.length 0 f0 (by omega)
    rw [hasW_at h.t0 (waitP h a b c) _ 0 f0 (by unfold waitP; omega)]; rfl
   ·rw [hasW_at h.t0 (waitP h a b c) _ i hi (by unfold waitP; omega)]; rfl
  ·rw [hasW_at h.t1 (waitP h a b c) _ i hi (by unfold waitP; omega)]; simp
 ·rw [hasW_at h.t2 (waitP h a b c) _ i hi (by unfold waitP; omega)]; simp

/-! the acts of a shot -/
abbrev x1 : ActI := ⟨0, kInsert, 0, 0, 0, 0⟩
abbrev x2 : ActI := ⟨0, kInsert, 1, 0, 0, 0⟩
abbrev x3 : ActI := ⟨1, kArm, 0, 0, 0, 0⟩
abbrev x4 : ActI := ⟨5, kShoot, 0, 0, 0, 0⟩
abbrev xm (t a b c : Int) : ActI := ⟨t, kMeasure, 0, a, b, c⟩
def sS1 : StaI := ⟨0, false, false, false, false, false, false, false, false, true, false, 0, false, -1, 0⟩
def sS2 : StaI := ⟨0, false, false, false, false, false, false, false, false, true, true, 0, false, -1, 0⟩
def sS3 : StaI := ⟨1, false, false, false, false, false, false, false, false, true, true, 0, true, -1, 0⟩
def sS4 : StaI := ⟨5, false, false, false, false, false, false, false, false, true, true, 0, false, 5, -1⟩
def sSm (t adm : Int) : StaI := ⟨t, false, false, false, false, false, false, false, false, true, true, 0, false, 5, adm⟩
theorem r1 : (reaL bgS x1).length = 0 := by decide
theorem r2 : (reaL sS1 x2).length = 0 := by decide
theorem r3 : (reaL sS2 x3).length = 0 := by decide
theorem r4 : (reaL sS3 x4).length = 0 := by decide
theorem r5 (a b c : Int) : (reaL sS4 (xm 9 a b c)).length = 0 := by rw [reaL_nil]; simp [stB, armB, dooB, peoB, keyR, waiB, sS4]
theorem r6 (m a b c : Int) : (reaL (sSm 9 m) (xm 30 a b c)).length = 0 := by rw [reaL_nil]; simp [stB, armB, dooB, peoB, keyR, waiB, sSm]
theorem a1 (base W : Int) : aftS base W bgS x1 = sS1 := by simp [aftS, bgS, sS1, setY]
theorem a2 (base W : Int) : aftS base W sS1 x2 = sS2 := by simp [aftS, sS1, sS2, setY]
theorem a3 (base W : Int) : aftS base W sS2 x3 = sS3 := by simp [aftS, sS2, sS3]
theorem a4 (base W : Int) : aftS base W sS3 x4 = sS4 := by simp [aftS, sS3, sS4]
theorem a5 (base W a b c : Int) : aftS base W sS4 (xm 9 a b c) = sSm 9 (max (5 + base) (9 + W)) := by simp [aftS, sS4, sSm]
theorem a6 (base W m a b c : Int) : aftS base W (sSm 9 m) (xm 30 a b c) = sSm 30 (max (5 + base) (30 + W)) := by simp [aftS, sSm]
theorem run4 (h : HallI) : runH h [x1, x2, x3, x4] = ([sS1, sS2, sS3, sS4], true) := by
 simp only [runH, runG, r1, r2, r3, r4, a1, a2, a3, a4, if_true]
theorem run5 (h : HallI) (a b c : Int) : runH h [x1, x2, x3, x4, xm 9 a b c] = ([sS1, sS2, sS3, sS4, sSm 9 (max (5 + h.base) (9 + waitP h a b c))], true) := by
 simp only [runH, runG, r1, r2, r3, r4, r5, a1, a2, a3, a4, a5, if_true, wP]
theorem run6 (h : HallI) (a b c a' b' c' : Int) : runH h [x1, x2, x3, x4, xm 9 a b c, xm 30 a' b' c'] = ([sS1, sS2, sS3, sS4, sSm 9 (max (5 + h.base) (9 + waitP h a b c)), sSm 30 (max (5 + h.base) (30 + waitP h a' b' c'))], true) := by
 simp only [runH, runG, r1, r2, r3, r4, r5, r6, a1, a2, a3, a4, a5, a6, if_true, wP]
theorem valE_ok {a b c : Int} (h1 : 0 ≤ a ∧ a ≤ 100000) (h2 : 0 ≤ b ∧ b ≤ 100000) (h3 : 0 ≤ c ∧ c ≤ 100000) : valE a b c = 0 := by
 have e1 : rangeE 0 100000 a = 0 := by unfold rangeE; rw [if_neg (by omega)]
 have e2 : rangeE 0 100000 b = 0 := by unfold rangeE; rw [if_neg (by omega)]
 have e3 : rangeE 0 100000 c = 0 := by unfold rangeE; rw [if_neg (by omega)]
 simp [valE, firstE, e1, e2, e3]
theorem actE_m {h : HallI} {t a b c : Int} (ht : 0 ≤ t ∧ t ≤ 100000000) (hv : valE a b c = 0) : actE h (xm t a b c) = 0 := by
 have e1 : rangeE 0 100000000 t = 0 := by unfold rangeE; rw [if_neg (by omega)]
 have e2 : numsE h kMeasure = 1 := rfl
 have e3 : kMeasure ∈ kindL := by decide
 simp only [actE, e1, e2, e3, hv]
 simp
theorem actE_1 (h : HallI) : actE h x1 = 0 := by
 have e2 : numsE h kInsert = 2 := rfl
 have e3 : kInsert ∈ kindL := by decide
 have e4 : ¬ kInsert = kMeasure := by decide
 simp only [actE, e2, e3, e4]
 decide
theorem actE_2 (h : HallI) : actE h x2 = 0 := by
 have e2 : numsE h kInsert = 2 := rfl
 have e3 : kInsert ∈ kindL := by decide
 have e4 : ¬ kInsert = kMeasure := by decide
 simp only [actE, e2, e3, e4]
 decide
theorem actE_3 (h : HallI) : actE h x3 = 0 := by
 have e2 : numsE h kArm = 1 := rfl
 have e3 : kArm ∈ kindL := by decide
 have e4 : ¬ kArm = kMeasure := by decide
 simp only [actE, e2, e3, e4]
 decide
theorem actE_4 (h : HallI) : actE h x4 = 0 := by
 have e2 : numsE h kShoot = 1 := rfl
 have e3 : kShoot ∈ kindL := by decide
 have e4 : ¬ kShoot = kMeasure := by decide
 simp only [actE, e2, e3, e4]
 decide
theorem acts4 {h : HallI} (hz : hallE h = 0) : actsE h [x1, x2, x3, x4] = 0 := by
 have hr : List.range 4 = [0, 1, 2, 3] := rfl
 simp [actsE, hz, firstE, whenE, hr, actE_1, actE_2, actE_3, actE_4]
theorem acts5 {h : HallI} (hz : hallE h = 0) {a b c : Int} (hv : valE a b c = 0) : actsE h [x1, x2, x3, x4, xm 9 a b c] = 0 := by
 have hr : List.range 5 = [0, 1, 2, 3, 4] := rfl
 have e := actE_m (h := h) (t := 9) (by omega) hv
 simp [actsE, hz, firstE, whenE, hr, actE_1, actE_2, actE_3, actE_4, e]
theorem acts6 {h : HallI} (hz : hallE h = 0) {a b c a' b' c' : Int} (hv : valE a b c = 0) (hv' : valE a' b' c' = 0) : actsE h [x1, x2, x3, x4, xm 9 a b c, xm 30 a' b' c'] = 0 := by
 have hr : List.range 6 = [0, 1, 2, 3, 4, 5] := rfl
 have e := actE_m (h := h) (t := 9) (by omega) hv
 have e' := actE_m (h := h) (t := 30) (by omega) hv'
 simp [actsE, hz, firstE, whenE, hr, actE_1, actE_2, actE_3, actE_4, e, e']

/-! moves -/
theorem mem_mvF (l : List Int) (g : List (Int × Int)) (v : Int) : ∀ k, v ∈ mvF l g k ↔ ∃ j : Nat, j < k ∧ v = (j : Int) + 1 ∧ l.getD (j + 1) 0 ≠ l.getD j 0 ∧ freF g (j + 1) g.length = false := by
 intro k
 induction k with
 | zero => simp [mvF]
 | succ k ih =>
  simp only [mvF]
  constructor
  ·intro h
   split at h
   ·rename_i c
    rcases List.mem_append.1 h with h | h
    ·obtain ⟨j, h1, h2⟩ := ih.1 h
     exact ⟨j, by omega, h2⟩
    ·have e : v = (k : Int) + 1 := by simpa using h
     exact ⟨k, by omega, e, c.1, c.2⟩
   ·obtain ⟨j, h1, h2⟩ := ih.1 h
    exact ⟨j, by omega, h2⟩
  ·rintro ⟨j, h1, h2, h3, h4⟩
   by_cases e : j = k
   ·subst e
    rw [if_pos ⟨h3, h4⟩]
    simp [h2]
   ·have hm := ih.2 ⟨j, by omega, h2, h3, h4⟩
    split
    ·exact List.mem_append.2 (.inl hm)
    ·exact hm
theorem mem_mov {l : List Int} {g : List (Int × Int)} {k : Nat} (hk : k + 1 < l.length) : decide (((k : Int) + 1) ∈ mvF l g (l.length - 1)) = ((l.getD (k + 1) 0 != l.getD k 0) && !freF g (k + 1) g.length) := by
 have h := mem_mvF l g ((k : Int) + 1) (l.length - 1)
 cases hm : (l.getD (k + 1) 0 != l.getD k 0) && !freF g (k + 1) g.length with
 | true =>
  simp only [Bool.and_eq_true, bne_iff_ne, ne_eq, Bool.not_eq_true'] at hm
  exact decide_eq_true (h.2 ⟨k, by omega, rfl, hm.1, hm.2⟩)
 | false =>
  refine decide_eq_false (fun hc => ?_)
  obtain ⟨j, h1, h2, h3, h4⟩ := h.1 hc
  have e : j = k := by omega
  subst e
  simp [h4] at hm
  exact absurd hm h3
theorem fre_nil (v : Int) : freF [] v ([] : List (Int × Int)).length = false := rfl
theorem fre_one (a b v : Int) : freF [(a, b)] v [(a, b)].length = (decide (a ≤ v) && decide (v < b)) := by simp [freF]
theorem fre_two (a b c d v : Int) : freF [(a, b), (c, d)] v [(a, b), (c, d)].length = ((decide (a ≤ v) && decide (v < b)) || (decide (c ≤ v) && decide (v < d))) := by simp [freF]
theorem mov_none {l : List Int} (hl : l.length ≤ 40) : mvF l [(0, 100)] (l.length - 1) = [] := by
 apply List.eq_nil_iff_forall_not_mem.2
 intro v hv
 obtain ⟨j, h1, h2, h3, h4⟩ := (mem_mvF l [(0, 100)] v (l.length - 1)).1 hv
 rw [fre_one] at h4
 have : (decide ((0 : Int) ≤ (j : Int) + 1) && decide ((j : Int) + 1 < 100)) = true := by
  simp; omega
 rw [this] at h4; cases h4
theorem spn_one {a b : Int} (h1 : 0 ≤ a) (h2 : a < b) (h3 : b ≤ 100000000) : spnE [(a, b)] = 0 := by
 have hr : List.range 1 = [0] := rfl
 have e : gbad 100000000 (a, b) = false := by simp [gbad]; omega
 have e2 : ¬ a < 0 := by omega
 simp [spnE, spnL, hr, firstE, spn1, endG, e, whenE, e2]
theorem spn_two {a b c d : Int} (h1 : 0 ≤ a) (h2 : a < b) (h3 : b ≤ c) (h4 : c < d) (h5 : d ≤ 100000000) : spnE [(a, b), (c, d)] = 0 := by
 have hr : List.range 2 = [0, 1] := rfl
 have e : gbad 100000000 (a, b) = false := by simp [gbad]; omega
 have e' : gbad 100000000 (c, d) = false := by simp [gbad]; omega
 have e2 : ¬ a < 0 := by omega
 have e3 : ¬ c < b := by omega
 simp [spnE, spnL, hr, firstE, spn1, endG, e, e', whenE, e2, e3]
theorem tra_ok {l : List Int} (hl : l.length ≤ 40) (h : ∀ x ∈ l, 0 ≤ x ∧ x ≤ 2) : traE l = 0 := by
 unfold traE
 rw [if_neg (by omega)]
 apply firstE_zero.2
 intro e he
 obtain ⟨x, hx, rfl⟩ := List.mem_map.1 he
 have := h x hx
 unfold rangeE
 rw [if_neg (by omega)]
theorem mov_len (l : List Int) (k : Nat) : (mvF l [] (k + 1)).length = (mvF l [] k).length + (l.getD (k + 1) 0 != l.getD k 0).toNat := by
 simp only [mvF, fre_nil, and_true]
 generalize l.getD (k + 1) 0 = x
 generalize l.getD k 0 = y
 by_cases h : x = y
 ·subst h; simp
 ·rw [if_pos h, (by simpa using h : (x != y) = true)]; simp
end Fw
end

section
set_option maxHeartbeats 16000000
set_option maxRecDepth 8000
namespace Fw
open Go

theorem hasInt73 {n : Nat} (hn : 1 ≤ n) (l : List Int) (v : Int) (hl : l.length < 100000) : RUN n 73 [isl l, iv v] = .ret (.p (.bool (decide (v ∈ l)))) := by
 obtain ⟨d, rfl⟩ : ∃ d, n = d + 1 := ⟨n - 1, by omega⟩
 rw [RUN, call_eq fe73 _ rfl]
 let inv : Nat → St := fun i => ⟨[(0, isl l), (1, iv v), (5, iv i)], []⟩
 have key := loop_first (step := loopS (evFn F C0 G0 d) C0 G0 0 false [0, 1, 5] c73L0) inv (fun i => if v = l.getD i 0 then 1 else 0) l.length (.exit 0, ⟨(inv l.length).env ++ [(9, .p (.bool false))], []⟩) (fun _ => (.ret, ⟨[(4, .p (.bool true))], []⟩))
  (st0 := ⟨[(0, isl l), (1, iv v), (5, iv 0)], []⟩) (fuel := loopFuel) rfl (fun i hi => by
   have hlt : (i : Int) < l.length := by omega
   have hgd : l.getD i 0 = l[i] := by simp [List.getD_eq_getElem?_getD, List.getElem?_eq_getElem hi]
   have hgn : ∀ q, (pI l)[i]'q = .int .i64 l[i] := fun q => by simp [pI]
   have hpl : (pI l).length = l.length := by simp [pI]
   have hw := wrap_succ (i := i) (by omega)
   simp only [hgd]
   generalize hQ : pI l = Q at *
   by_cases h : v = l[i]
   ·rw [if_pos h]
    refine ⟨fun h0 => absurd h0 (by decide), fun _ => ?_⟩
    generalize l[i] = y at *
    subst h
    simp -implicitDefEqProofs [inv, hQ, loopS_eq, c73L0, hi, hlt, hgn, hpl]
   ·rw [if_neg h]
    have hne : (l[i] == v) = false := by simpa using fun e => h e.symm
    have h' : ¬ l[i] = v := fun e => h e.symm
    generalize l[i] = y at *
    refine ⟨fun _ => ⟨?_, ?h1, ?h2⟩, fun h0 => absurd rfl h0⟩
    case h1 =>
     simp -implicitDefEqProofs [inv, hQ, loopS_eq, c73L0, hi, hlt, hgn, hpl, hw, hne]
     exact rfl
    case h2 => simp [inv]) (fun _ => by simp) (by simp -implicitDefEqProofs [inv, loopS_eq, c73L0]) (by simp) (by simp [loopFuel]; omega)
 simp -implicitDefEqProofs [c73]
 rcases key with ⟨k1, k2⟩ | ⟨j, hj, k1, k2, k3, k4⟩
 ·rw [k1]
  have : ¬ v ∈ l := fun hm => by
   obtain ⟨i, hi, h⟩ := List.getElem_of_mem hm
   have := firstE_zero.1 k2 _ (List.mem_map.2 ⟨i, List.mem_range.2 hi, rfl⟩)
   rw [if_pos (by simp [List.getD_eq_getElem?_getD, hi, h])] at this
   cases this
  simp -implicitDefEqProofs [inv, this]
 ·rw [k1]
  have : v ∈ l := by
   have hx : v = l.getD j 0 := by
    by_cases h : v = l.getD j 0
    ·exact h
    ·rw [if_neg h] at k3; exact absurd rfl k3
   rw [hx]
   simp [List.getD_eq_getElem?_getD, hj]
  simp -implicitDefEqProofs [this]

abbrev wS (h : HallI) (X : List AVal) (l0 l1 l2 m0 m1 m2 : Int) : Sto := [(4, .arr [.int .i64 m0, .int .i64 m1, .int .i64 m2] 0 1), (3, .arr [.int .i64 l0, .int .i64 l1, .int .i64 l2] 0 1), (2, .box X), (0, .box [iv h.doors, iv h.base, csl h.t0, csl h.t1, csl h.t2])]
abbrev wE (w w2 : Int) (b : Bool) (t0 t1 t2 : List (Int × Int)) (k : Int) : Env := [(3, .ptr 0 0 0), (5, .ptr 2 0 0), (7, .ptr 3 0 0), (8, .ptr 4 0 0), (9, iv w), (11, iv w2), (13, bl b), (116, .agg [csl t0, csl t1, csl t2]), (117, iv k)]
theorem in10 {d : Nat} (h : HallI) (X : List AVal) (hX : refsL X = []) (l0 l1 l2 m0 m1 m2 w w2 : Int) (b : Bool) (t0 t1 t2 l : List (Int × Int)) (hl : l.length < 1000000) (k : Int) :
  loopN (loopS (evFn F C0 G0 d) C0 G0 0 true [3, 5, 7, 8, 9, 11, 13, 116, 117, 120, 121, 122] c10L0) loopFuel ⟨wE w w2 b t0 t1 t2 k ++ [(120, csl l), (121, iv l.length), (122, iv 0)], wS h X l0 l1 l2 m0 m1 m2⟩ =
  .ret (.exit 2, ⟨wE w w2 (b || hasW l w l.length) t0 t1 t2 k ++ [(120, csl l), (121, iv l.length), (122, iv l.length), (123, bl false)], wS h X l0 l1 l2 m0 m1 m2⟩) := by
 refine loop_run' (fun i => ⟨wE w w2 (b || hasW l w i) t0 t1 t2 k ++ [(120, csl l), (121, iv l.length), (122, iv i)], wS h X l0 l1 l2 m0 m1 m2⟩) l.length (by simp) ?_ ?_ ?_ (by simp [loopFuel]; omega)
 ·have e : (b || hasW l w 0) = b := by simp [hasW]
  simp only [e]; rfl
 ·intro i hi
  have hx := cI_drop l i hi
  have wi := wrap_succ (i := i) (by omega)
  have hcl : (cI l).length = l.length * 2 := cI_len' l
  have hlt : i * 2 < l.length * 2 := by omega
  have hlt2 : i * 2 + 2 ≤ l.length * 2 := by omega
  have hgd : l.getD i (0, 0) = l[i] := by simp [List.getD_eq_getElem?_getD, List.getElem?_eq_getElem hi]
  simp only [hasW, hgd, csl]
  generalize hA : cI l = A at *
  generalize cI t0 = A0 at *
  generalize cI t1 = A1 at *
  generalize cI t2 = A2 at *
  generalize cI h.t0 = B0 at *
  generalize cI h.t1 = B1 at *
  generalize cI h.t2 = B2 at *
  generalize hasW l w i = hb at *
  generalize cI (l.drop (i + 1)) = R2 at *
  generalize l[i] = x at *
  obtain ⟨p, q⟩ := x
  simp only at hx ⊢
  cases hbb : (b || hb) with
  | true =>
   have e : (b || (hb || q == w)) = true := by rw [← Bool.or_assoc, hbb]; rfl
   rw [e]
   refine ⟨?_, ?h1, ?h2⟩
   case h1 =>
    simp -implicitDefEqProofs [loopS_eq, c10L0, hi, hcl, hlt, hx, wi, hX]
    exact rfl
   case h2 => exact loopS_same (by simp) (by simp [hX])
  | false =>
   have e : (b || (hb || q == w)) = (q == w) := by rw [← Bool.or_assoc, hbb]; rfl
   rw [e]
   cases hqw : (q == w) with
   | true =>
    have hq' : q = w := by simpa using hqw
    refine ⟨?_, ?h3, ?h4⟩
    case h3 =>
     simp -implicitDefEqProofs [loopS_eq, c10L0, hi, hcl, hlt, hx, wi, hX, hq']
     exact rfl
    case h4 => exact loopS_same (by simp) (by simp [hX])
   | false =>
    have hq' : ¬ q = w := by simpa using hqw
    refine ⟨?_, ?h5, ?h6⟩
    case h5 =>
     simp -implicitDefEqProofs [loopS_eq, c10L0, hi, hcl, hlt, hx, wi, hX, hqw]
     exact rfl
    case h6 => exact loopS_same (by simp) (by simp [hX])
 ·simp -implicitDefEqProofs [loopS_eq, c10L0, hX]

theorem found10 {d : Nat} (h : HallI) (h0 : h.t0.length < 1000000) (h1 : h.t1.length < 1000000) (h2 : h.t2.length < 1000000) (X : List AVal) (hX : refsL X = []) (l0 l1 l2 m0 m1 m2 w w2 : Int) (O : Obj) (_hO : refsO O = []) :
  loopN (loopS (evFn F C0 G0 d) C0 G0 0 true [3, 5, 7, 8, 9, 11, 13, 116, 117] c10L1) loopFuel ⟨wE w w2 false h.t0 h.t1 h.t2 0, [(4, .arr [.int .i64 m0, .int .i64 m1, .int .i64 m2] 0 1), (3, .arr [.int .i64 l0, .int .i64 l1, .int .i64 l2] 0 1), (2, .box X), (1, O), (0, .box [iv h.doors, iv h.base, csl h.t0, csl h.t1, csl h.t2])]⟩ =
  .ret (.exit 0, ⟨wE w w2 (foundW h w) h.t0 h.t1 h.t2 3 ++ [(118, bl false)], wS h X l0 l1 l2 m0 m1 m2⟩) := by
 have i0 := in10 (d := d) h X hX l0 l1 l2 m0 m1 m2 w w2 false h.t0 h.t1 h.t2 h.t0 h0 0
 have i1 := in10 (d := d) h X hX l0 l1 l2 m0 m1 m2 w w2 (hasW h.t0 w h.t0.length) h.t0 h.t1 h.t2 h.t1 h1 1
 have i2 := in10 (d := d) h X hX l0 l1 l2 m0 m1 m2 w w2 (hasW h.t0 w h.t0.length || hasW h.t1 w h.t1.length) h.t0 h.t1 h.t2 h.t2 h2 2
 unfold foundW
 simp only [Bool.false_or] at i0
 generalize hasW h.t0 w h.t0.length = b0 at *
 generalize hasW h.t1 w h.t1.length = b1 at *
 generalize hasW h.t2 w h.t2.length = b2 at *
 simp only [wE, wS, csl, List.cons_append, List.nil_append] at i0 i1 i2
 simp only [wE, wS, csl]
 generalize cI h.t0 = A0 at *
 generalize cI h.t1 = A1 at *
 generalize cI h.t2 = A2 at *
 rw [loopN_on' (st2 := ⟨[(3, .ptr 0 0 0), (5, .ptr 2 0 0), (7, .ptr 3 0 0), (8, .ptr 4 0 0), (9, iv w), (11, iv w2), (13, bl b0), (116, .agg [.p (.sl A0 h.t0.length), .p (.sl A1 h.t1.length), .p (.sl A2 h.t2.length)]), (117, iv 1)], _⟩) ?s1 (by simp [loopFuel]),
  loopN_on' (st2 := ⟨[(3, .ptr 0 0 0), (5, .ptr 2 0 0), (7, .ptr 3 0 0), (8, .ptr 4 0 0), (9, iv w), (11, iv w2), (13, bl (b0 || b1)), (116, .agg [.p (.sl A0 h.t0.length), .p (.sl A1 h.t1.length), .p (.sl A2 h.t2.length)]), (117, iv 2)], _⟩) ?s2 (by simp [loopFuel]),
  loopN_on' (st2 := ⟨[(3, .ptr 0 0 0), (5, .ptr 2 0 0), (7, .ptr 3 0 0), (8, .ptr 4 0 0), (9, iv w), (11, iv w2), (13, bl ((b0 || b1) || b2)), (116, .agg [.p (.sl A0 h.t0.length), .p (.sl A1 h.t1.length), .p (.sl A2 h.t2.length)]), (117, iv 3)], _⟩) ?s3 (by simp [loopFuel]), loopN_end (e := .exit 0) ?s4 (by simp) (by simp [loopFuel])]
 case s1 =>
  refine ⟨?_, ?g1, ?g2⟩
  case g1 =>
   simp -implicitDefEqProofs [loopS_eq, c10L1, hX]
   rw [show loopN _ _ _ = _ from i0]
   simp -implicitDefEqProofs []
   exact rfl
  case g2 => exact rfl
 case s2 =>
  refine ⟨?_, ?g1, ?g2⟩
  case g1 =>
   simp -implicitDefEqProofs [loopS_eq, c10L1, hX]
   rw [show loopN _ _ _ = _ from i1]
   simp -implicitDefEqProofs []
   exact rfl
  case g2 => exact rfl
 case s3 =>
  refine ⟨?_, ?g1, ?g2⟩
  case g1 =>
   simp -implicitDefEqProofs [loopS_eq, c10L1, hX]
   rw [show loopN _ _ _ = _ from i2]
   simp -implicitDefEqProofs []
   exact rfl
  case g2 => exact rfl
 case s4 =>
  simp -implicitDefEqProofs [loopS_eq, c10L1, hX]

def trF (P : List UInt8) : List Int := P.map fun p => ((p.toNat : Int)).tmod 3
theorem tm3 (n : Nat) : ((n : Int)).tmod 3 = ((n % 3 : Nat) : Int) := rfl
theorem trF_len (P : List UInt8) : (trF P).length = P.length := by simp [trF]
theorem trF_rng (P : List UInt8) : ∀ x ∈ trF P, 0 ≤ x ∧ x ≤ 2 := by
 intro x hx
 obtain ⟨p, _, rfl⟩ := List.mem_map.1 hx
 rw [tm3]; omega
theorem trace10 {d : Nat} (P : List UInt8) (hP : P.length < 1000) (S : Sto) (_hS : ∀ o, get ((6, o) :: S) 6 = some o) :
  loopN (loopS (evFn F C0 G0 d) C0 G0 0 false [5, 25, 208, 209, 210] c10L2) loopFuel ⟨[(5, .ptr 2 0 0), (25, .sl 6 0 0 0), (208, .p (.sl (pB P) P.length)), (209, iv P.length), (210, iv 0)], (6, .arr [] 0 1) :: S⟩ =
  .ret (.exit 4, ⟨[(5, .ptr 2 0 0), (25, .sl 6 P.length 0 P.length), (208, .p (.sl (pB P) P.length)), (209, iv P.length), (210, iv P.length), (211, bl false)], (6, .arr (pI (trF P)) P.length 1) :: S⟩) := by
 have htl : (trF P).take P.length = trF P := List.take_of_length_le (by rw [trF_len]; omega)
 have key := loop_run' (step := loopS (evFn F C0 G0 d) C0 G0 0 false [5, 25, 208, 209, 210] c10L2) (fun i => ⟨[(5, .ptr 2 0 0), (25, .sl 6 i 0 i), (208, .p (.sl (pB P) P.length)), (209, iv P.length), (210, iv i)], (6, .arr (pI ((trF P).take i)) i 1) :: S⟩) P.length (e := .exit 4) (st' := ⟨[(5, .ptr 2 0 0), (25, .sl 6 P.length 0 P.length), (208, .p (.sl (pB P) P.length)), (209, iv P.length), (210, iv P.length), (211, bl false)], (6, .arr (pI ((trF P).take P.length)) P.length 1) :: S⟩)
  (st0 := ⟨[(5, .ptr 2 0 0), (25, .sl 6 0 0 0), (208, .p (.sl (pB P) P.length)), (209, iv P.length), (210, iv 0)], (6, .arr [] 0 1) :: S⟩) (by simp) rfl (fun i hi => by
   have hlt : (i : Int) < P.length := by omega
   have hgn : ∀ q, (pB P)[i]'q = .int .u8 (P[i].toNat : Int) := fun q => by simp [pB]
   have hpl : (pB P).length = P.length := by simp [pB]
   have hw := wrap_succ (i := i) (by omega)
   have hb : P[i].toNat < 256 := P[i].toNat_lt
   have w1 := wrap64 (n := (P[i].toNat : Int)) (by omega) (by omega)
   have w2 := wrap64 (n := (P[i].toNat : Int).tmod 3) (by rw [tm3]; omega) (by rw [tm3]; omega)
   have hi2 : i < (trF P).length := by rw [trF_len]; exact hi
   have hts : pI ((trF P).take (i + 1)) = pI ((trF P).take i) ++ [.int .i64 ((P[i].toNat : Int).tmod 3)] := by
    rw [List.take_add_one, List.getElem?_eq_getElem hi2]
    simp [pI, trF]
   have hln : (pI ((trF P).take i)).length = i := by simp [pI]; omega
   have hlim : i + 1 ≤ lim := by simp only [lim]; omega
   have hi3 : i < P.length := hi
   simp only [hts]
   generalize P[i].toNat = z at *
   generalize pI ((trF P).take i) = N at *
   generalize hQ : pB P = Q at *
   refine ⟨?_, ?h1, ?h2⟩
   case h1 =>
    simp -implicitDefEqProofs [loopS_eq, c10L2, hi, hlt, hgn, hpl, hw, w1, hln, hlim]
    exact rfl
   case h2 => exact rfl) (by
   simp -implicitDefEqProofs [loopS_eq, c10L2]) (fuel := loopFuel) (by simp [loopFuel]; omega)
 rw [htl] at key
 exact key
end Fw
end

section
set_option maxHeartbeats 16000000
set_option maxRecDepth 8000
namespace Fw
open Go

@[irreducible] def tA10 : ACode := tlS (tlS c10.body)
@[irreducible] def tB10 : ACode := tlS (tlS (tlS (tlS (tlS tA10))))
@[irreducible] def tC10 : ACode := tlS (tlS (tlS tB10))
@[irreducible] def tD10 : ACode := tlS (tlS (tlS (tlS (tlS tC10))))
@[irreducible] def tE10 : ACode := tlS (tlS (tlS (tlS (tlS (tlS (tlS (tlS (tlS (tlS tD10)))))))))
abbrev eE (n : Nat) (A Fi Se Bo : List Int) (cnt : Nat) (k : Nat) : Env := [(25, .sl 6 n 0 n), (28, isl A), (32, .ptr 7 0 0), (34, isl Fi), (36, isl Se), (38, isl Bo), (40, iv cnt), (41, iv ((k : Int) + 1))]
abbrev sE (T : List Int) (n : Nat) (a b : Int) (O8 : Obj) (S : Sto) : Sto := (8, O8) :: (7, .arr [.int .i64 a, .int .i64 b] 0 1) :: (6, .frz (pI T) n 1) :: S
theorem round10 {d : Nat} (T : List Int) (hT : T.length < 1000) (a b c e : Int) (ho : 0 ≤ a ∧ a < b ∧ b ≤ 1000) (O8 : Obj) (S : Sto) (k : Nat) (hk : k + 1 < T.length) :
  loopS (evFn F C0 G0 (d + 1)) C0 G0 0 false [25, 28, 32, 34, 36, 38, 40, 41] c10L3 ⟨eE T.length (mvF T [] (T.length - 1)) (mvF T [(a, b)] (T.length - 1)) (mvF T [(c, e)] (T.length - 1)) (mvF T [(a, b), (c, e)] (T.length - 1)) (mvF T [] k).length k, sE T T.length a b O8 S⟩ =
  .ret (.normal, ⟨eE T.length (mvF T [] (T.length - 1)) (mvF T [(a, b)] (T.length - 1)) (mvF T [(c, e)] (T.length - 1)) (mvF T [(a, b), (c, e)] (T.length - 1)) (mvF T [] (k + 1)).length (k + 1), sE T T.length a b O8 S⟩) := by
 have l0 := mvF_len T [] (T.length - 1)
 have l1 := mvF_len T [(a, b)] (T.length - 1)
 have l2 := mvF_len T [(c, e)] (T.length - 1)
 have l3 := mvF_len T [(a, b), (c, e)] (T.length - 1)
 have lk := mvF_len T [] k
 have i0 := hasInt73 (n := d + 1) (by omega) (mvF T [] (T.length - 1)) ((k : Int) + 1) (by omega)
 have i1 := hasInt73 (n := d + 1) (by omega) (mvF T [(a, b)] (T.length - 1)) ((k : Int) + 1) (by omega)
 have i2 := hasInt73 (n := d + 1) (by omega) (mvF T [(c, e)] (T.length - 1)) ((k : Int) + 1) (by omega)
 have i3 := hasInt73 (n := d + 1) (by omega) (mvF T [(a, b), (c, e)] (T.length - 1)) ((k : Int) + 1) (by omega)
 rw [mem_mov hk] at i0 i1 i2 i3
 rw [fre_nil] at i0
 rw [fre_one] at i1 i2
 rw [fre_two] at i3
 rw [mov_len]
 have hlt : (k : Int) + 1 < T.length := by omega
 have hg0 : T.getD k 0 = T[k] := by simp [List.getD_eq_getElem?_getD, List.getElem?_eq_getElem (show k < T.length by omega)]
 have hg1 : T.getD (k + 1) 0 = T[k + 1] := by simp [List.getD_eq_getElem?_getD, List.getElem?_eq_getElem hk]
 have hn0 : ∀ q, (pI T)[k]'q = .int .i64 T[k] := fun q => by simp [pI]
 have hn1 : ∀ q, (pI T)[k + 1]'q = .int .i64 T[k + 1] := fun q => by simp [pI]
 have hk0 : k < T.length := by omega
 have hpl : (pI T).length = T.length := by simp [pI]
 have w1 := wrap64 (n := (k : Int) + 1 + 1) (by omega) (by omega)
 have w2 := wrap64 (n := (k : Int)) (by omega) (by omega)
 have w3 := wrap64 (n := ((mvF T [] k).length : Int) + 1) (by omega) (by omega)
 have h0 : (0 : Int) ≤ (k : Int) + 1 := by omega
 have hz : ((k : Int) + 1).toNat = k + 1 := by omega
 have hs : (k : Int) + 1 - 1 = k := by omega
 simp only [hg0, hg1] at i0 i1 i2 i3 ⊢
 clear hg0 hg1
 simp only [eE, sE, isl] at *
 generalize pI (mvF T [] (T.length - 1)) = A0 at *
 generalize pI (mvF T [(a, b)] (T.length - 1)) = A1 at *
 generalize pI (mvF T [(c, e)] (T.length - 1)) = A2 at *
 generalize pI (mvF T [(a, b), (c, e)] (T.length - 1)) = A3 at *
 generalize (mvF T [] (T.length - 1)).length = z0 at *
 generalize (mvF T [(a, b)] (T.length - 1)).length = z1 at *
 generalize (mvF T [(c, e)] (T.length - 1)).length = z2 at *
 generalize (mvF T [(a, b), (c, e)] (T.length - 1)).length = z3 at *
 generalize (mvF T [] k).length = z at *
 generalize hQ : pI T = Q at *
 generalize T[k] = x at *
 generalize T[k + 1] = y at *
 generalize T.length = n at *
 generalize hg : (decide (c ≤ (k : Int) + 1) && decide ((k : Int) + 1 < e)) = g at *
 cases hm : (y != x) with
 | false =>
  rw [hm] at i0 i1 i2 i3
  simp only [Bool.false_and] at i0 i1 i2 i3
  simp -implicitDefEqProofs [loopS_eq, c10L3, hlt, hk, hk0, hn0, hn1, hpl, w1, w2, h0, hz, hs, hm, i0, i1, i3]
 | true =>
  rw [hm] at i0 i1 i2 i3
  simp only [Bool.true_and, Bool.not_false] at i0 i1 i2 i3
  by_cases ha : (k : Int) + 1 < a
  ·have hb : ¬ b ≤ (k : Int) + 1 := by omega
   have ha' : decide (a ≤ (k : Int) + 1) = false := decide_eq_false (by omega)
   rw [ha'] at i1 i3
   cases g <;> simp only [Bool.false_and, Bool.not_false, Bool.not_true, Bool.false_or] at i1 i2 i3 <;>
    simp -implicitDefEqProofs [loopS_eq, c10L3, hlt, hk, hk0, hn0, hn1, hpl, w1, w2, w3, h0, hz, hs, hm, i0, i1, i2, i3, ha]
  ·have ha' : decide (a ≤ (k : Int) + 1) = true := decide_eq_true (by omega)
   by_cases hb : b ≤ (k : Int) + 1
   ·have hb' : decide ((k : Int) + 1 < b) = false := decide_eq_false (by omega)
    rw [ha', hb'] at i1 i3
    cases g <;> simp only [Bool.and_false, Bool.not_false, Bool.not_true, Bool.false_or] at i1 i2 i3 <;>
     simp -implicitDefEqProofs [loopS_eq, c10L3, hlt, hk, hk0, hn0, hn1, hpl, w1, w2, w3, h0, hz, hs, hm, i0, i1, i2, i3, ha, hb]
   ·have hb' : decide ((k : Int) + 1 < b) = true := decide_eq_true (by omega)
    rw [ha', hb'] at i1 i3
    cases g <;> simp only [Bool.true_and, Bool.not_false, Bool.not_true, Bool.true_or] at i1 i2 i3 <;>
     simp -implicitDefEqProofs [loopS_eq, c10L3, hlt, hk, hk0, hn0, hn1, hpl, w1, w2, w3, h0, hz, hs, hm, i0, i1, i3, ha, hb]
theorem rE10 (ka : RUN 60 17 [] = .ret (.p (.bool true))) (T : List Int) (hT : T.length < 1000) (a b c e : Int) (ho : 0 ≤ a ∧ a < b ∧ b ≤ 1000) (O8 : Obj) (S : Sto) (tl : Env) :
  (evCode (evFn F C0 G0 60) C0 G0 0 tE10 ⟨[(25, .sl 6 T.length 0 T.length), (28, isl (mvF T [] (T.length - 1))), (32, .ptr 7 0 0), (34, isl (mvF T [(a, b)] (T.length - 1))), (36, isl (mvF T [(c, e)] (T.length - 1))), (38, isl (mvF T [(a, b), (c, e)] (T.length - 1)))] ++ tl, sE T T.length a b O8 S⟩).bind (finish [.tmp 6]) = .ret (.p (.bool true)) := by
 have key := loop_run' (step := loopS (evFn F C0 G0 60) C0 G0 0 false [25, 28, 32, 34, 36, 38, 40, 41] c10L3) (fun k => ⟨eE T.length (mvF T [] (T.length - 1)) (mvF T [(a, b)] (T.length - 1)) (mvF T [(c, e)] (T.length - 1)) (mvF T [(a, b), (c, e)] (T.length - 1)) (mvF T [] k).length k, sE T T.length a b O8 S⟩) (T.length - 1) (e := .exit 6)
  (st' := ⟨eE T.length (mvF T [] (T.length - 1)) (mvF T [(a, b)] (T.length - 1)) (mvF T [(c, e)] (T.length - 1)) (mvF T [(a, b), (c, e)] (T.length - 1)) (mvF T [] (T.length - 1)).length (T.length - 1) ++ [(328, bl false)], sE T T.length a b O8 S⟩)
  (st0 := ⟨eE T.length (mvF T [] (T.length - 1)) (mvF T [(a, b)] (T.length - 1)) (mvF T [(c, e)] (T.length - 1)) (mvF T [(a, b), (c, e)] (T.length - 1)) 0 0, sE T T.length a b O8 S⟩) (by simp) rfl (fun k hk => ⟨_, round10 (d := 59) T hT a b c e ho O8 S k (by omega), rfl⟩) (by
   have hnl : ¬ (((T.length - 1 : Nat) : Int) + 1 < T.length) := by omega
   simp only [eE, sE, isl]
   generalize pI (mvF T [] (T.length - 1)) = A0
   generalize pI (mvF T [(a, b)] (T.length - 1)) = A1
   generalize pI (mvF T [(c, e)] (T.length - 1)) = A2
   generalize pI (mvF T [(a, b), (c, e)] (T.length - 1)) = A3
   simp -implicitDefEqProofs [loopS_eq, c10L3, hnl]) (fuel := loopFuel) (by simp [loopFuel]; omega)
 simp only [eE, sE, isl, Int.natCast_zero, Int.zero_add] at key
 simp only [sE, isl]
 unfold tE10 tD10 tC10 tB10 tA10
 generalize pI (mvF T [] (T.length - 1)) = A0 at *
 generalize pI (mvF T [(a, b)] (T.length - 1)) = A1 at *
 generalize pI (mvF T [(c, e)] (T.length - 1)) = A2 at *
 generalize pI (mvF T [(a, b), (c, e)] (T.length - 1)) = A3 at *
 generalize (mvF T [] (T.length - 1)).length = z0 at *
 simp -implicitDefEqProofs [tlS, c10]
 rw [show loopN _ _ _ = _ from key]
 simp -implicitDefEqProofs [ka]
end Fw
end

