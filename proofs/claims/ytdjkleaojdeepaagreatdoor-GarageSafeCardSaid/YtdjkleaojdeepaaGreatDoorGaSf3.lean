/- Several texts in one: steps of the proof, no condition of their own. -/
import Derived.Test.YtdjkleaojdeepaaGreatDoorGaBk1
import Derived.Test.YtdjkleaojdeepaaGreatDoorGaDon
import Derived.Test.YtdjkleaojdeepaaGreatDoorGaP4
import Derived.Test.YtdjkleaojdeepaaGreatDoorGaHal
import Derived.Test.YtdjkleaojdeepaaGreatDoorGaRea
attribute [local irreducible] Fw.evCode Fw.evOps Fw.evOpsD Fw.evOper Fw.evOperD Fw.evOp Fw.evFn Fw.loopN Fw.T.All Fw.T.bind Fw.callPure Fw.callOp Fw.opsK Fw.opsDK Fw.restK Fw.seqK Fw.blockK Fw.loopS Fw.setK Fw.setQ Fw.giveK Fw.scalK Fw.gcK Fw.finish Fw.finS Fw.rfunK Fw.yldK Fw.yldB Fw.loopK
section
set_option maxHeartbeats 4000000
namespace Fw
open Go

theorem actOk_of {h : HallI} (hz : hallE h = 0) {x : ActI} (he : actE h x = 0) : ActOk x := act_ok (doors_of hz).2 he

def SafeS (s : StaI) : Prop := s.armed = true → anyO s = false ∧ s.people = 0 ∧ s.k0 = true ∧ s.k1 = true
theorem bg_safe : SafeS bgS := fun h => by cases h
theorem anyO_setO_false {s : StaI} (m : Int) (h : anyO s = false) : anyO (setO s m false) = false := by
 obtain ⟨t, o0, o1, o2, o3, o4, o5, o6, o7, k0, k1, pp, ar, sh, ad⟩ := s
 simp only [anyO, Bool.or_eq_false_iff] at h
 obtain ⟨rfl, rfl, rfl, rfl, rfl, rfl, rfl, rfl⟩ := h
 unfold setO
 repeat' split
 all_goals rfl
theorem safe_aft {s : StaI} {x : ActI} (hs : SafeS s) (ho : StOk s) (hx : ActOk x) (hr : (reaL s x).length = 0) (base W : Int) : SafeS (aftS base W s x) := by
 obtain ⟨hn, t1, t2⟩ := hx
 obtain ⟨-, g1, g2, g3, g4, g5, -⟩ := reaL_nil.1 hr
 have hk := numOk_cases hn
 obtain ⟨t, k, m, a, b, c⟩ := x
 simp only at hk t1 t2
 rcases hk with rfl | rfl | rfl | rfl | rfl | rfl | rfl | rfl | rfl | rfl
 ·intro ha
  have hb : s.armed = true := by
   have e : aftS base W s ⟨t, kOpen, m, a, b, c⟩ = setO { s with tick := t } m true := rfl
   rw [e] at ha; revert ha; unfold setO; repeat' split
   all_goals exact id
  have e : armB s ⟨t, kOpen, m, a, b, c⟩ = (s.armed && true) := rfl
  rw [e, hb] at g2; cases g2
 ·intro ha
  have e : aftS base W s ⟨t, kClose, m, a, b, c⟩ = setO { s with tick := t } m false := rfl
  have hb : s.armed = true := by
   rw [e] at ha; revert ha; unfold setO; repeat' split
   all_goals exact id
  obtain ⟨q1, q2, q3, q4⟩ := hs hb
  rw [e]
  refine ⟨anyO_setO_false m (s := { s with tick := t }) q1, ?_, ?_, ?_⟩
  ·unfold setO; repeat' split
   all_goals exact q2
  ·unfold setO; repeat' split
   all_goals exact q3
  ·unfold setO; repeat' split
   all_goals exact q4
 ·intro ha
  have e : aftS base W s ⟨t, kInsert, m, a, b, c⟩ = setY { s with tick := t } m true := rfl
  have hb : s.armed = true := by rw [e] at ha; revert ha; unfold setY; split <;> exact id
  obtain ⟨q1, q2, q3, q4⟩ := hs hb
  rw [e]
  unfold setY
  split
  ·exact ⟨q1, q2, rfl, q4⟩
  ·exact ⟨q1, q2, q3, rfl⟩
 ·intro ha
  have e : aftS base W s ⟨t, kRemove, m, a, b, c⟩ = setY { s with tick := t } m false := rfl
  have hb : s.armed = true := by rw [e] at ha; revert ha; unfold setY; split <;> exact id
  have e : armB s ⟨t, kRemove, m, a, b, c⟩ = (s.armed && true) := rfl
  rw [e, hb] at g2; cases g2
 ·intro ha
  have hb : s.armed = true := ha
  have e : armB s ⟨t, kEnter, m, a, b, c⟩ = (s.armed && true) := rfl
  rw [e, hb] at g2; cases g2
 ·intro ha
  have hb : s.armed = true := ha
  obtain ⟨q1, q2, q3, q4⟩ := hs hb
  have e : stB s ⟨t, kLeave, m, a, b, c⟩ = (s.people == 0) := rfl
  rw [e, q2] at g1; cases g1
 ·intro _
  have e1 : dooB s ⟨t, kArm, m, a, b, c⟩ = (false && !opn s m || (true && anyO s)) := rfl
  have e2 : peoB s ⟨t, kArm, m, a, b, c⟩ = (true && decide (0 < s.people)) := rfl
  have e3 : keyR s ⟨t, kArm, m, a, b, c⟩ = (true && (!s.k0 || !s.k1)) := rfl
  rw [e1] at g3
  rw [e2] at g4
  rw [e3] at g5
  simp only [Bool.false_and, Bool.true_and, Bool.false_or, decide_eq_false_iff_not, Bool.or_eq_false_iff, Bool.not_eq_false'] at g3 g4 g5
  exact ⟨g3, show s.people = 0 by have := ho.1; omega, g5.1, g5.2⟩
 ·intro ha; cases ha
 ·intro ha; cases ha
 ·exact hs

theorem runG_snoc (base : Int) (W : ActI → Int) (x : ActI) : ∀ (l : List ActI) (s : StaI), (runG base W s l).2 = true →
  runG base W s (l ++ [x]) = if (reaL ((runG base W s l).1.getLastD s) x).length = 0 then ((runG base W s l).1 ++ [aftS base (W x) ((runG base W s l).1.getLastD s) x], true) else ((runG base W s l).1, false) := by
 intro l
 induction l with
 | nil =>
  intro s _
  by_cases hq : (reaL s x).length = 0 <;> simp [runG, hq]
 | cons y r ih =>
  intro s h
  simp only [List.cons_append, runG] at h ⊢
  by_cases hy : (reaL s y).length = 0
  ·rw [if_pos hy] at h
   simp only [if_pos hy]
   rw [ih _ h]
   simp only [List.getLastD_cons]
   split <;> simp
  ·rw [if_neg hy] at h; cases h
theorem runH_snoc (h : HallI) {l : List ActI} (hr : (runH h l).2 = true) (x : ActI) :
  runH h (l ++ [x]) = if (reaL (lastS (runH h l).1) x).length = 0 then ((runH h l).1 ++ [aftS h.base (wP h x) (lastS (runH h l).1) x], true) else ((runH h l).1, false) := runG_snoc h.base (wP h) x l bgS hr
theorem lastS_snoc (L : List StaI) (s : StaI) : lastS (L ++ [s]) = s := by simp [lastS]
theorem acts_snoc {h : HallI} {l : List ActI} {x : ActI} (ha : actsE h l = 0) (hx : actE h x = 0) (hl : l.length + 1 ≤ 1000) : actsE h (l ++ [x]) = 0 := by
 obtain ⟨z1, z2, z3⟩ := acts_ok ha
 have hw : ¬ 1000 < (l ++ [x]).length := by simp; omega
 have hF : firstE [hallE h, whenE (decide (1000 < (l ++ [x]).length)) 5] = 0 := by rw [z1, decide_eq_false hw]; rfl
 unfold actsE
 rw [if_pos hF]
 apply firstE_zero.2
 intro e he
 obtain ⟨i, hi, rfl⟩ := List.mem_map.1 he
 have hi := List.mem_range.1 hi
 have hm : (l ++ [x]).getD i zA ∈ l ++ [x] := by
  rw [List.getD_eq_getElem?_getD, List.getElem?_eq_getElem hi]
  exact List.getElem_mem hi
 rcases List.mem_append.1 hm with q | q
 ·exact z3 _ q
 ·have : (l ++ [x]).getD i zA = x := by simpa using q
  rw [this]; exact hx
theorem runs_all {h : HallI} {l : List ActI} (hr : (runH h l).2 = true) : (runH h l).1.length = l.length := (runG_len h.base (wP h) l bgS).2.1 hr
theorem chk_of {h : HallI} {l : List ActI} (ha : actsE h l = 0) (hr : (runH h l).2 = true) : chkE h l = 0 := by unfold chkE; rw [if_neg (by simpa using ha), if_pos hr]

/-! the kinds that are permitted -/
theorem mem_permL (h : HallI) (s : StaI) (t n : Int) (k : List UInt8) : k ∈ permL h s t n ↔ k ∈ kindL ∧ permB h s t n k = true := by
 have key : ∀ (ks : List (List UInt8)) (L : List (List UInt8)), k ∈ ks.foldl (fun L k => addR L (permB h s t n k) k) L ↔ k ∈ L ∨ (k ∈ ks ∧ permB h s t n k = true) := by
  intro ks
  induction ks with
  | nil => intro L; simp
  | cons y r ih =>
   intro L
   rw [List.foldl_cons, ih]
   unfold addR
   by_cases hy : permB h s t n y = true
   ·rw [if_pos hy]
    simp only [List.mem_append, List.mem_cons, List.not_mem_nil, or_false]
    constructor
    ·rintro ((h1 | h1) | h1)
     ·exact .inl h1
     ·subst h1; exact .inr ⟨.inl rfl, hy⟩
     ·exact .inr ⟨.inr h1.1, h1.2⟩
    ·rintro (h1 | ⟨h1 | h1, h2⟩)
     ·exact .inl (.inl h1)
     ·exact .inl (.inr h1)
     ·exact .inr ⟨h1, h2⟩
   ·rw [if_neg hy]
    simp only [List.mem_cons]
    constructor
    ·rintro (h1 | h1)
     ·exact .inl h1
     ·exact .inr ⟨.inr h1.1, h1.2⟩
    ·rintro (h1 | ⟨h1 | h1, h2⟩)
     ·exact .inl h1
     ·subst h1; exact absurd h2 hy
     ·exact .inr ⟨h1, h2⟩
 have := key kindL []
 simpa [permL] using this
theorem perm_has {h : HallI} (hz : hallE h = 0) (s : StaI) {x : ActI} (hx : actE h x = 0) : decide (x.kind ∈ permL h s x.tick x.num) = decide ((reaL s x).length = 0) := by
 have hsh := shA_of (doors_of hz).2 hx
 have hnum : (if doorB x.kind = true ∨ keyB x.kind = true then x.num else 0) = x.num := by
  split
  ·rfl
  ·rename_i hc
   rcases (kinds3 hsh.k).2 with q | q | q
   ·exact (hsh.z1 q.1).symm
   ·exact (hsh.z2 q.2.1).symm
   ·rcases q.2.2 with q | q
    ·exact absurd (.inl q) hc
    ·exact absurd (.inr q.2) hc
 have hmk : mkA x.tick x.num x.kind = ⟨x.tick, x.kind, x.num, 0, 0, 0⟩ := by unfold mkA; rw [hnum]
 have he : actE h (mkA x.tick x.num x.kind) = 0 := by
  rw [hmk]
  unfold actE at hx ⊢
  simp only at hx ⊢
  by_cases c1 : rangeE 0 100000000 x.tick ≠ 0
  ·rw [if_pos c1] at hx; exact absurd hx c1
  ·rw [if_neg c1] at hx ⊢
   rw [if_neg (by simpa using hsh.k)] at hx ⊢
   by_cases c2 : x.num < 0 ∨ numsE h x.kind ≤ x.num
   ·rw [if_pos c2] at hx; cases hx
   ·rw [if_neg c2]
    split
    ·decide
    ·rfl
 have hr : reaL s (mkA x.tick x.num x.kind) = reaL s x := by rw [hmk]; rfl
 have hb : permB h s x.tick x.num x.kind = decide ((reaL s x).length = 0) := by
  unfold permB
  rw [decide_eq_true he, hr, Bool.true_and]
 have hm := mem_permL h s x.tick x.num x.kind
 rw [hb] at hm
 by_cases hc : (reaL s x).length = 0
 ·rw [decide_eq_true hc, decide_eq_true (hm.2 ⟨hsh.k, decide_eq_true hc⟩)]
 ·rw [decide_eq_false hc, decide_eq_false (fun hq => hc (by simpa using (hm.1 hq).2))]

/-! the spans -/
theorem span_cov (P : StaI → Bool) (L : List StaI) (_hasc : ∀ i, i + 1 < L.length → (L.getD i zS).tick ≤ (L.getD (i + 1) zS).tick) : ∀ k, ∀ p ∈ spanF P L k, ∀ t, p.1 ≤ t → t < p.2 → ∃ i, i < k ∧ i + 1 < L.length ∧ P (L.getD i zS) = true ∧ (L.getD i zS).tick ≤ t ∧ t < (L.getD (i + 1) zS).tick := by
 intro k
 induction k with
 | zero => intro p hp; simp [spanF] at hp
 | succ k ih =>
  intro p hp t h1 h2
  have old : ∀ p ∈ spanF P L k, p.1 ≤ t → t < p.2 → ∃ i, i < k + 1 ∧ i + 1 < L.length ∧ P (L.getD i zS) = true ∧ (L.getD i zS).tick ≤ t ∧ t < (L.getD (i + 1) zS).tick := fun p hp h1 h2 => by
   obtain ⟨i, g1, g2⟩ := ih p hp t h1 h2
   exact ⟨i, by omega, g2⟩
  simp only [spanF] at hp
  split at hp
  ·rename_i hc
   have new : (L.getD k zS).tick ≤ t → t < (L.getD (k + 1) zS).tick → ∃ i, i < k + 1 ∧ i + 1 < L.length ∧ P (L.getD i zS) = true ∧ (L.getD i zS).tick ≤ t ∧ t < (L.getD (i + 1) zS).tick := fun g1 g2 => ⟨k, by omega, hc.2, hc.1, g1, g2⟩
   unfold touchF at hp
   split at hp
   ·exact old p hp h1 h2
   ·split at hp
    ·rename_i hq
     rcases List.mem_append.1 hp with q | q
     ·exact old p ((List.dropLast_sublist _).subset q) h1 h2
     ·have e : p = ((((spanF P L k).getLastD (0, 0)).1, (L.getD (k + 1) zS).tick)) := by simpa using q
      rw [e] at h1 h2
      simp only at h1 h2
      by_cases c : t < (L.getD k zS).tick
      ·refine old ((spanF P L k).getLastD (0, 0)) ?_ h1 (by rw [hq.2]; exact c)
       rw [List.getLastD_eq_getLast?, List.getLast?_eq_some_getLast hq.1]
       exact List.getLast_mem hq.1
      ·exact new (by omega) h2
    ·rcases List.mem_append.1 hp with q | q
     ·exact old p q h1 h2
     ·have e : p = ((L.getD k zS).tick, (L.getD (k + 1) zS).tick) := by simpa using q
      rw [e] at h1 h2
      exact new h1 h2
  ·exact old p hp h1 h2
theorem asc_all {L : List StaI} (hasc : ∀ i, i + 1 < L.length → (L.getD i zS).tick ≤ (L.getD (i + 1) zS).tick) : ∀ d i, i + d < L.length → (L.getD i zS).tick ≤ (L.getD (i + d) zS).tick := by
 intro d
 induction d with
 | zero => intro i _; exact Int.le_refl _
 | succ d ih =>
  intro i h
  have h1 := ih i (by omega)
  have h2 := hasc (i + d) (by omega)
  have e : i + (d + 1) = i + d + 1 := by omega
  rw [e]; omega
theorem spans_apart {P Q : StaI → Bool} {L : List StaI} (hasc : ∀ i, i + 1 < L.length → (L.getD i zS).tick ≤ (L.getD (i + 1) zS).tick) (hPQ : ∀ s ∈ L, ¬ (P s = true ∧ Q s = true)) {k j : Nat} {p q : Int × Int} (hp : p ∈ spanF P L k) (hq : q ∈ spanF Q L j) : ¬ (p.1 < q.2 ∧ q.1 < p.2) ∨ p.2 ≤ p.1 ∨ q.2 ≤ q.1 := by
 by_cases hp0 : p.2 ≤ p.1
 ·exact .inr (.inl hp0)
 by_cases hq0 : q.2 ≤ q.1
 ·exact .inr (.inr hq0)
 refine .inl (fun hc => ?_)
 obtain ⟨i, a1, a2, a3, a4, a5⟩ := span_cov P L hasc k p hp (max p.1 q.1) (by omega) (by omega)
 obtain ⟨i', b1, b2, b3, b4, b5⟩ := span_cov Q L hasc j q hq (max p.1 q.1) (by omega) (by omega)
 have e : i = i' := by
  rcases Nat.lt_trichotomy i i' with c | c | c
  ·have := asc_all hasc (i' - (i + 1)) (i + 1) (by omega)
   rw [show i + 1 + (i' - (i + 1)) = i' by omega] at this
   omega
  ·exact c
  ·have := asc_all hasc (i - (i' + 1)) (i' + 1) (by omega)
   rw [show i' + 1 + (i - (i' + 1)) = i by omega] at this
   omega
 subst e
 have hm : L.getD i zS ∈ L := by
  rw [List.getD_eq_getElem?_getD, List.getElem?_eq_getElem (by omega)]
  exact List.getElem_mem _
 exact hPQ _ hm ⟨a3, b3⟩
theorem span_pos (P : StaI → Bool) (L : List StaI) : ∀ k, ∀ p ∈ spanF P L k, p.1 < p.2 := by
 intro k
 induction k with
 | zero => intro p hp; simp [spanF] at hp
 | succ k ih =>
  intro p hp
  simp only [spanF] at hp
  split at hp
  ·unfold touchF at hp
   split at hp
   ·exact ih p hp
   ·rename_i hab
    split at hp
    ·rename_i hq
     rcases List.mem_append.1 hp with q | q
     ·exact ih p ((List.dropLast_sublist _).subset q)
     ·have e : p = ((((spanF P L k).getLastD (0, 0)).1, (L.getD (k + 1) zS).tick)) := by simpa using q
      have hm : (spanF P L k).getLastD (0, 0) ∈ spanF P L k := by
       rw [List.getLastD_eq_getLast?, List.getLast?_eq_some_getLast hq.1]
       exact List.getLast_mem hq.1
      have := ih _ hm
      rw [e]
      show _ < _
      simp only
      omega
    ·rcases List.mem_append.1 hp with q | q
     ·exact ih p q
     ·have e : p = ((L.getD k zS).tick, (L.getD (k + 1) zS).tick) := by simpa using q
      rw [e]
      show _ < _
      simp only
      omega
  ·exact ih p hp

/-! the shots -/
theorem shF_app (l : List ActI) (x : ActI) : ∀ k, k ≤ l.length → shF (l ++ [x]) k = shF l k := by
 intro k
 induction k with
 | zero => intro _; rfl
 | succ k ih =>
  intro hk
  have e : (l ++ [x]).getD k zA = l.getD k zA := by
   simp only [List.getD_eq_getElem?_getD, List.getElem?_append_left (show k < l.length by omega)]
  simp only [shF, e, ih (by omega)]
theorem shots_snoc (l : List ActI) (x : ActI) : (shF (l ++ [x]) (l ++ [x]).length).length = (shF l l.length).length + (x.kind == kShoot).toNat := by
 have e : (l ++ [x]).length = l.length + 1 := by simp
 have e2 : (l ++ [x]).getD l.length zA = x := by simp [List.getD_eq_getElem?_getD]
 rw [e]
 simp only [shF, e2, shF_app l x l.length (Nat.le_refl _)]
 by_cases hk : x.kind = kShoot
 ·rw [if_pos hk]; simp [hk]
 ·rw [if_neg hk]; simp [hk]
end Fw
end

section
set_option maxHeartbeats 16000000
set_option maxRecDepth 8000
namespace Fw
open Go

def bdS : ACode → ACode
 | .block _ b => b
 | c => c
@[irreducible] def b9 : ACode := bdS (hdS (tlS (tlS c9L0)))
@[irreducible] def p9 : ACode := tlS (tlS b9)
@[irreducible] def q9 : ACode := tlS (tlS (tlS p9))
@[irreducible] def r9 : ACode := tlS (tlS q9)
@[irreducible] def s9 : ACode := tlS (tlS (tlS r9))
theorem c9L0_eq : c9L0 = .seq (hdS c9L0) (.seq (hdS (tlS c9L0)) (.seq (.block 1 b9) (tlS (tlS (tlS c9L0))))) := by unfold b9; rfl
theorem b9_eq : b9 = .seq (hdS b9) (.seq (hdS (tlS b9)) p9) := by unfold p9 b9; rfl
theorem p9_eq : p9 = .seq (hdS p9) (.seq (hdS (tlS p9)) (.seq (hdS (tlS (tlS p9))) q9)) := by unfold q9 p9 b9; rfl
theorem q9_eq : q9 = .seq (hdS q9) (.seq (hdS (tlS q9)) r9) := by unfold r9 q9 p9 b9; rfl
theorem r9_eq : r9 = .seq (hdS r9) (.seq (hdS (tlS r9)) (.seq (hdS (tlS (tlS r9))) s9)) := by unfold s9 r9 q9 p9 b9; rfl
theorem hidT65536 : hidT 65536 = [16] := by decide
theorem hidT2048 : hidT 2048 = [11] := by decide
abbrev hB (h : HallI) : Obj := .box [iv h.doors, iv h.base, csl h.t0, csl h.t1, csl h.t2]
abbrev o9 (h : HallI) (D : List ActI) (S : StaI) : Sto := [(2, .arr (sc S) 0 1), (1, .arr (rowC ac D) D.length 6), (0, hB h)]
abbrev e9 (n : Nat) (held : Bool) (fr : Int) (sh : Int) (l : List ActI) (i : Int) : Env := [(2, .ptr 0 0 0), (5, .sl 1 n 0 n), (6, .ptr 2 0 0), (7, bl held), (8, iv fr), (9, iv sh), (48, asl l), (49, iv l.length), (50, iv i)]
abbrev f9 (n : Nat) (held : Bool) (fr : Int) (sh : Int) (l : List ActI) (i : Int) (tl : Env) : Env := (2, .ptr 0 0 0) :: (5, .sl 1 n 0 n) :: (6, .ptr 2 0 0) :: (7, bl held) :: (8, iv fr) :: (9, iv sh) :: (11, .ptr 3 0 0) :: (16, .ptr 5 0 0) :: (48, asl l) :: (49, iv l.length) :: (50, iv i) :: tl

theorem add9 {d : Nat} (h : HallI) (D : List ActI) (hD : D.length < 1000) (x : ActI) (S S' : StaI) (held : Bool) (fr sh : Int) (l : List ActI) (i : Int) (O4 : Obj) (_hO : refsO O4 = []) (ht : S'.tick = x.tick) (hp : 0 ≤ S'.people) (hs : SafeS S') (tl : Env) :
  evCode (evFn F C0 G0 d) C0 G0 0 s9 ⟨f9 D.length held fr sh l i tl, (5, .arr (sc S') 0 1) :: (4, O4) :: (3, .arr (ac x) 0 1) :: o9 h D S⟩ =
  .ret (.normal, ⟨[(2, .ptr 0 0 0), (5, .sl 1 (D.length + 1) 0 (D.length + 1)), (6, .ptr 2 0 0), (7, bl held), (8, iv fr), (9, iv sh), (48, asl l), (49, iv l.length), (50, iv i), (232, bl false)], (5, .arr (sc S') 0 1) :: (4, O4) :: (3, .arr (ac x) 0 1) :: o9 h (D ++ [x]) S'⟩) := by
 have hR := aR_len D
 have hr : rowC ac (D ++ [x]) = rowC ac D ++ ac x := rowC_snoc ..
 have hl2 : (D ++ [x]).length = D.length + 1 := by simp
 have hlim : D.length + 1 ≤ lim := by simp only [lim]; omega
 obtain ⟨t, k, m, a, b, c⟩ := x
 obtain ⟨st, o0, o1, o2, o3, o4, o5, o6, o7, k0, k1, pp, ar, shh, ad⟩ := S'
 obtain ⟨st2, p0, p1, p2, p3, p4, p5, p6, p7, j0, j1, qq, ar2, shh2, ad2⟩ := S
 simp only at ht hp
 subst ht
 have hpn : ¬ pp < 0 := by omega
 simp only [f9, o9, hB, hr, hl2, asl, csl]
 generalize rowC ac D = A at *
 generalize rowC ac l = B at *
 generalize D.length = n at *
 generalize cI h.t0 = A0 at *
 generalize cI h.t1 = A1 at *
 generalize cI h.t2 = A2 at *
 unfold s9 r9 q9 p9 b9
 cases ar with
 | false => simp -implicitDefEqProofs [bdS, hdS, tlS, c9L0, hidI, hidT65536, hR, hlim, hpn, ac, sc]
 | true =>
  obtain ⟨q1, q2, q3, q4⟩ := hs rfl
  simp only [anyO, Bool.or_eq_false_iff] at q1 q2 q3 q4
  obtain ⟨rfl, rfl, rfl, rfl, rfl, rfl, rfl, rfl⟩ := q1
  subst q2 q3 q4
  simp -implicitDefEqProofs [bdS, hdS, tlS, c9L0, hidI, hidT65536, hR, hlim, ac, sc, eqK, keyOk, eqP]
end Fw
end

section
set_option maxHeartbeats 16000000
set_option maxRecDepth 8000
namespace Fw
open Go

abbrev g9 (n : Nat) (held : Bool) (fr : Int) (sh : Int) (R K : List (List UInt8)) (at' e3 : Int) (l : List ActI) (i : Int) : Env := [(2, .ptr 0 0 0), (5, .sl 1 n 0 n), (6, .ptr 2 0 0), (7, bl held), (8, iv fr), (9, iv sh), (11, .ptr 3 0 0), (12, strL R), (13, iv 0), (14, strL K), (15, iv 0), (16, .ptr 5 0 0), (17, iv at'), (18, iv e3), (48, asl l), (49, iv l.length), (50, iv i)]
theorem sc_all (x : ActI) : (ac x).all scalarP = true := rfl
theorem calls9 {d : Nat} (hd : 20 ≤ d) (h : HallI) (g0 : h.t0.length < 1000000) (g1 : h.t1.length < 1000000) (g2 : h.t2.length < 1000000) (D : List ActI) (hD : D.length < 1000) (hc : chkE h D = 0) (x : ActI) (hx : actE h x = 0) (S : StaI) (held : Bool) (fr sh : Int) (l : List ActI) (i : Int) (tl : Env) :
  evCode (evFn F C0 G0 d) C0 G0 0 p9 ⟨(2, .ptr 0 0 0) :: (5, .sl 1 D.length 0 D.length) :: (6, .ptr 2 0 0) :: (7, bl held) :: (8, iv fr) :: (9, iv sh) :: (11, .ptr 3 0 0) :: (48, asl l) :: (49, iv l.length) :: (50, iv i) :: tl, (3, .arr (ac x) 0 1) :: o9 h D S⟩ =
  evCode (evFn F C0 G0 d) C0 G0 0 q9 ⟨g9 D.length held fr sh (reaL (lastS (runH h D).1) x) (permL h (lastS (runH h D).1) x.tick x.num) (runI h (D ++ [x])) (chkE h (D ++ [x])) l i, (5, .arr (sc (runS h (D ++ [x]))) 0 1) :: (4, .arr (rowC ac (D ++ [x])) 1 6) :: (3, .arr (ac x) 0 1) :: o9 h D S⟩ := by
 have k19 := own19 (n := d) (by omega) h g0 g1 g2
 have k20 := done20 (n := d) (by omega) D (by omega)
 obtain ⟨a, k18, ha18⟩ := reasons18 (n := d) (by omega) h g0 g1 g2 D (by omega) x
 obtain ⟨b, k21, hb21⟩ := permitted21 (n := d) (by omega) h g0 g1 g2 D (by omega) x.tick x.num
 have k70 := run70 (n := d) (by omega) h g0 g1 g2 (D ++ [x]) (by simp; omega)
 obtain ⟨z1, z2, z3⟩ := chk_parts hc
 have hz := (acts_ok z1).1
 have hsh := shA_of (doors_of hz).2 hx
 have hr0 : reaE h D x = 0 := by unfold reaE; rw [if_neg (by simpa using z1), if_neg (by simpa using hx), hc]
 have hp0 : permE h D x.tick x.num = 0 := by
  have hp := actP_of (doors_of hz).2 hx
  have e1 : rangeE 0 100000000 x.tick = 0 := by unfold rangeE; rw [if_neg (by have := hp.t; omega)]
  have hn : x.num < 8 := by
   have hd8 := (doors_of hz).2
   have : x.num < numsE h x.kind := by
    unfold actE at hx
    by_cases c1 : rangeE 0 100000000 x.tick ≠ 0
    ·exact absurd e1 c1
    ·rw [if_neg c1, if_neg (by simpa using hsh.k)] at hx
     by_cases c2 : x.num < 0 ∨ numsE h x.kind ≤ x.num
     ·rw [if_pos c2] at hx; cases hx
     ·omega
   have h8 : numsE h x.kind ≤ 8 := by
    unfold numsE
    repeat' split
    all_goals omega
   omega
  have e2 : rangeE 0 7 x.num = 0 := by unfold rangeE; rw [if_neg (by have := hp.n; omega)]
  have e3 : firstE [rangeE 0 100000000 x.tick, rangeE 0 7 x.num] = 0 := by rw [e1, e2]; rfl
  unfold permE
  rw [if_neg (by simpa using z1), if_neg (by rw [e3]; decide), hc]
 have hrO : reaO h D x = reaL (lastS (runH h D).1) x := by unfold reaO; rw [if_pos hr0]
 have hpO : permO h D x.tick x.num = permL h (lastS (runH h D).1) x.tick x.num := by unfold permO; rw [if_pos hp0]
 rw [hr0] at k18
 rw [hp0] at k21
 rw [hrO] at ha18
 rw [hpO] at hb21
 have hsc : (rowC ac D).all scalarP = true := rowC_all sc_all D
 have hR := aR_len D
 have hr : rowC ac (D ++ [x]) = rowC ac D ++ ac x := rowC_snoc ..
 have hl2 : (D ++ [x]).length = D.length + 1 := by simp
 have hlim : D.length + 1 ≤ lim := by simp only [lim]; omega
 simp only [asl, hr, hl2] at k70
 simp only [o9, hB, g9, hr, asl, csl, ha, strL] at *
 rw [p9_eq]
 generalize reaL (lastS (runH h D).1) x = RL at *
 generalize permL h (lastS (runH h D).1) x.tick x.num = KL at *
 generalize runS h (D ++ [x]) = S' at *
 generalize runI h (D ++ [x]) = I' at *
 generalize chkE h (D ++ [x]) = C' at *
 obtain ⟨t, k, m, a', b', c'⟩ := x
 obtain ⟨st, o0, o1, o2, o3, o4, o5, o6, o7, k0, k1, pp, ar, shh, ad⟩ := S'
 generalize rowC ac D = A at *
 generalize rowC ac l = B at *
 generalize D.length = n at *
 generalize cI h.t0 = A0 at *
 generalize cI h.t1 = A1 at *
 generalize cI h.t2 = A2 at *
 have m1 : (n + 1) * 6 = n * 6 + 6 := by omega
 simp only [ac] at k70
 simp -implicitDefEqProofs [p9, b9, bdS, hdS, tlS, c9L0, hidI, hidT2048, stOp, m1, k19, k20, k18, k21, k70, ha18, hb21, hsc, hR, hlim, ac, sc]
abbrev k9 (n : Nat) (held : Bool) (fr : Int) (sh : Int) (at' : Int) (l : List ActI) (i : Int) : Env := [(2, .ptr 0 0 0), (5, .sl 1 n 0 n), (6, .ptr 2 0 0), (7, bl held), (8, iv fr), (9, iv sh), (11, .ptr 3 0 0), (16, .ptr 5 0 0), (17, iv at'), (18, iv 0), (48, asl l), (49, iv l.length), (50, iv i), (122, bl false)]
theorem pass9 {d : Nat} (hd : 20 ≤ d) (h : HallI) (D : List ActI) (x : ActI) (S S' : StaI) (held : Bool) (fr sh : Int) (R K : List (List UInt8)) (hK : K.length < 100000) (hr : R.length = 0) (hk : decide (x.kind ∈ K) = true) (at' : Int) (l : List ActI) (i : Int) (O4 : Obj) :
  evCode (evFn F C0 G0 d) C0 G0 0 q9 ⟨g9 D.length held fr sh R K at' 0 l i, (5, .arr (sc S') 0 1) :: (4, O4) :: (3, .arr (ac x) 0 1) :: o9 h D S⟩ =
  evCode (evFn F C0 G0 d) C0 G0 0 r9 ⟨k9 D.length held fr sh at' l i, (5, .arr (sc S') 0 1) :: (4, O4) :: (3, .arr (ac x) 0 1) :: o9 h D S⟩ := by
 have k71 := word71 (n := d) (by omega) K x.kind hK
 rw [hk] at k71
 obtain ⟨t, k, m, a', b', c'⟩ := x
 simp only [k9, o9, hB, g9, asl, csl, strL] at *
 rw [q9_eq]
 generalize pStr K = QK at *
 generalize K.length = lK at *
 generalize pStr R = QR at *
 generalize R.length = lR at *
 subst hr
 generalize rowC ac D = A at *
 generalize rowC ac l = B at *
 generalize D.length = n at *
 generalize cI h.t0 = A0 at *
 generalize cI h.t1 = A1 at *
 generalize cI h.t2 = A2 at *
 simp -implicitDefEqProofs [q9, p9, b9, bdS, hdS, tlS, c9L0, k71, ac]
theorem skip9 {d : Nat} (hd : 20 ≤ d) (h : HallI) (D : List ActI) (x : ActI) (S S' : StaI) (held : Bool) (fr sh : Int) (R K : List (List UInt8)) (hK : K.length < 100000) (hr : R.length ≠ 0) (hk : decide (x.kind ∈ K) = false) (l : List ActI) (i : Int) (O4 : Obj) :
  ∃ tl, evCode (evFn F C0 G0 d) C0 G0 0 q9 ⟨g9 D.length held fr sh R K D.length 21 l i, (5, .arr (sc S') 0 1) :: (4, O4) :: (3, .arr (ac x) 0 1) :: o9 h D S⟩ =
  .ret (.exit 1, ⟨e9 D.length held fr sh l i ++ tl, (5, .arr (sc S') 0 1) :: (4, O4) :: (3, .arr (ac x) 0 1) :: o9 h D S⟩) := by
 have k71 := word71 (n := d) (by omega) K x.kind hK
 rw [hk] at k71
 have hrb : ((R.length : Int) == 0) = false := by rw [beq_eq_false_iff_ne]; omega
 have hrn : ¬ R.length = 0 := hr
 refine ⟨[(130, bl false)], ?_⟩
 obtain ⟨t, k, m, a', b', c'⟩ := x
 simp only [o9, hB, g9, e9, asl, csl, strL] at *
 rw [q9_eq]
 generalize pStr K = QK at *
 generalize K.length = lK at *
 generalize pStr R = QR at *
 generalize R.length = lR at *
 generalize rowC ac D = A at *
 generalize rowC ac l = B at *
 generalize D.length = n at *
 generalize cI h.t0 = A0 at *
 generalize cI h.t1 = A1 at *
 generalize cI h.t2 = A2 at *
 simp -implicitDefEqProofs [q9, p9, b9, bdS, hdS, tlS, c9L0, k71, ac, hrb]
end Fw
end

section
set_option maxHeartbeats 16000000
set_option maxRecDepth 8000
namespace Fw
open Go

def heldF (x : ActI) (held : Bool) : Bool := if x.kind = kShoot then true else if x.kind = kMeasure then false else held
def frF (h : HallI) (x : ActI) (S' : StaI) (fr : Int) : Int := if x.kind = kMeasure then max (S'.shot + h.base) (x.tick + waitP h x.a x.b x.c) else fr
def shF9 (x : ActI) (sh : Int) : Int := if x.kind = kShoot then sh + 1 else sh
abbrev bE (k : List UInt8) : Bool := k == [111, 112, 101, 110]
theorem act9 {d : Nat} (hd : 20 ≤ d) (h : HallI) (hz : hallE h = 0) (g0 : h.t0.length < 1000000) (g1 : h.t1.length < 1000000) (g2 : h.t2.length < 1000000) (D : List ActI) (_hD : D.length < 1000) (x : ActI) (S S' : StaI) (held : Bool) (fr sh : Int) (l : List ActI) (i : Int) (O4 : Obj) (_hO : refsO O4 = []) (ht : S'.tick = x.tick) (hp : 0 ≤ S'.people) (hs : SafeS S')
  (hk : x.kind ∈ kindL) (hv : x.kind = kMeasure → valE x.a x.b x.c = 0) (hop : x.kind ∈ [kOpen, kEnter, kArm] → held = false ∧ fr ≤ x.tick) (hsh : x.kind = kShoot → S.armed = true) (hb1 : 0 ≤ sh ∧ sh ≤ 1000) (hb2 : -1 ≤ S'.shot ∧ S'.shot ≤ 100000000) (hb3 : 0 ≤ x.tick ∧ x.tick ≤ 100000000) (at' : Int) :
  ∃ tl', evCode (evFn F C0 G0 d) C0 G0 0 r9 ⟨k9 D.length held fr sh at' l i, (5, .arr (sc S') 0 1) :: (4, O4) :: (3, .arr (ac x) 0 1) :: o9 h D S⟩ =
   evCode (evFn F C0 G0 d) C0 G0 0 s9 ⟨f9 D.length (heldF x held) (frF h x S' fr) (shF9 x sh) l i tl', (5, .arr (sc S') 0 1) :: (4, O4) :: (3, .arr (ac x) 0 1) :: o9 h D S⟩ := by
 have k19 := own19 (n := d) (by omega) h g0 g1 g2
 have k72 := wait72 (n := d) (by omega) h g0 g1 g2 x.a x.b x.c
 have hh := hall_ok hz g0 g1 g2
 have hW := hh.2.2.2.2.2 x.a x.b x.c
 have hbb := hh.2.2.2
 have ws := wrap64 (n := sh + 1) (by omega) (by omega)
 have w1 := wrap64 (n := S'.shot + h.base) (by omega) (by omega)
 have w2 := wrap64 (n := x.tick + waitP h x.a x.b x.c) (by omega) (by omega)
 have mx := fun a b => max2 a b
 have hkl := hk
 obtain ⟨t, k, m, a, b, c⟩ := x
 simp only at hk hv hop hsh hb3 hkl k72 hW w2
 obtain ⟨st, o0, o1, o2, o3, o4, o5, o6, o7, k0, k1, pp, ar, shh, ad⟩ := S'
 obtain ⟨st2, p0, p1, p2, p3, p4, p5, p6, p7, j0, j1, qq, ar2, shh2, ad2⟩ := S
 simp only at hsh w1
 unfold heldF frF shF9
 simp only
 rw [r9_eq]
 simp only [kindL, List.mem_cons, List.not_mem_nil, or_false] at hk
 rcases hk with rfl | rfl | rfl | rfl | rfl | rfl | rfl | rfl | rfl | rfl
 ·obtain ⟨rfl, hf⟩ := hop (by simp)
  have hf' : ¬ t < fr := by omega
  refine ⟨[(170, bl false)], ?_⟩
  simp only [k9, f9, o9, hB, asl, csl, ha] at *
  generalize rowC ac D = A at *
  generalize rowC ac l = B at *
  generalize D.length = n at *
  generalize cI h.t0 = A0 at *
  generalize cI h.t1 = A1 at *
  generalize cI h.t2 = A2 at *
  simp -implicitDefEqProofs [r9, q9, p9, b9, bdS, hdS, tlS, c9L0, ac, sc, strBin, hf']
 ·refine ⟨[(170, bl false)], ?_⟩
  simp only [k9, f9, o9, hB, asl, csl, ha] at *
  generalize rowC ac D = A at *
  generalize rowC ac l = B at *
  generalize D.length = n at *
  generalize cI h.t0 = A0 at *
  generalize cI h.t1 = A1 at *
  generalize cI h.t2 = A2 at *
  simp -implicitDefEqProofs [r9, q9, p9, b9, bdS, hdS, tlS, c9L0, ac, sc, strBin]
 ·refine ⟨[(170, bl false)], ?_⟩
  simp only [k9, f9, o9, hB, asl, csl, ha] at *
  generalize rowC ac D = A at *
  generalize rowC ac l = B at *
  generalize D.length = n at *
  generalize cI h.t0 = A0 at *
  generalize cI h.t1 = A1 at *
  generalize cI h.t2 = A2 at *
  simp -implicitDefEqProofs [r9, q9, p9, b9, bdS, hdS, tlS, c9L0, ac, sc, strBin]
 ·refine ⟨[(170, bl false)], ?_⟩
  simp only [k9, f9, o9, hB, asl, csl, ha] at *
  generalize rowC ac D = A at *
  generalize rowC ac l = B at *
  generalize D.length = n at *
  generalize cI h.t0 = A0 at *
  generalize cI h.t1 = A1 at *
  generalize cI h.t2 = A2 at *
  simp -implicitDefEqProofs [r9, q9, p9, b9, bdS, hdS, tlS, c9L0, ac, sc, strBin]
 ·obtain ⟨rfl, hf⟩ := hop (by simp)
  have hf' : ¬ t < fr := by omega
  refine ⟨[(170, bl false)], ?_⟩
  simp only [k9, f9, o9, hB, asl, csl, ha] at *
  generalize rowC ac D = A at *
  generalize rowC ac l = B at *
  generalize D.length = n at *
  generalize cI h.t0 = A0 at *
  generalize cI h.t1 = A1 at *
  generalize cI h.t2 = A2 at *
  simp -implicitDefEqProofs [r9, q9, p9, b9, bdS, hdS, tlS, c9L0, ac, sc, strBin, hf']
 ·refine ⟨[(170, bl false)], ?_⟩
  simp only [k9, f9, o9, hB, asl, csl, ha] at *
  generalize rowC ac D = A at *
  generalize rowC ac l = B at *
  generalize D.length = n at *
  generalize cI h.t0 = A0 at *
  generalize cI h.t1 = A1 at *
  generalize cI h.t2 = A2 at *
  simp -implicitDefEqProofs [r9, q9, p9, b9, bdS, hdS, tlS, c9L0, ac, sc, strBin]
 ·obtain ⟨rfl, hf⟩ := hop (by simp)
  have hf' : ¬ t < fr := by omega
  refine ⟨[(170, bl false)], ?_⟩
  simp only [k9, f9, o9, hB, asl, csl, ha] at *
  generalize rowC ac D = A at *
  generalize rowC ac l = B at *
  generalize D.length = n at *
  generalize cI h.t0 = A0 at *
  generalize cI h.t1 = A1 at *
  generalize cI h.t2 = A2 at *
  simp -implicitDefEqProofs [r9, q9, p9, b9, bdS, hdS, tlS, c9L0, ac, sc, strBin, hf']
 ·refine ⟨[(170, bl false)], ?_⟩
  simp only [k9, f9, o9, hB, asl, csl, ha] at *
  generalize rowC ac D = A at *
  generalize rowC ac l = B at *
  generalize D.length = n at *
  generalize cI h.t0 = A0 at *
  generalize cI h.t1 = A1 at *
  generalize cI h.t2 = A2 at *
  simp -implicitDefEqProofs [r9, q9, p9, b9, bdS, hdS, tlS, c9L0, ac, sc, strBin]
 ·have hq := hsh rfl
  subst hq
  refine ⟨[(170, bl false)], ?_⟩
  simp only [k9, f9, o9, hB, asl, csl, ha] at *
  generalize rowC ac D = A at *
  generalize rowC ac l = B at *
  generalize D.length = n at *
  generalize cI h.t0 = A0 at *
  generalize cI h.t1 = A1 at *
  generalize cI h.t2 = A2 at *
  simp -implicitDefEqProofs [r9, q9, p9, b9, bdS, hdS, tlS, c9L0, ac, sc, strBin, ws]
 ·have hv0 := hv rfl
  rw [hz, hv0, show firstE [(0 : Int), 0] = 0 from rfl, if_pos rfl] at k72
  refine ⟨[], ?_⟩
  generalize waitP h a b c = w at *
  simp only [k9, f9, o9, hB, asl, csl, ha] at *
  generalize rowC ac D = A at *
  generalize rowC ac l = B at *
  generalize D.length = n at *
  generalize cI h.t0 = A0 at *
  generalize cI h.t1 = A1 at *
  generalize cI h.t2 = A2 at *
  simp -implicitDefEqProofs [r9, q9, p9, b9, bdS, hdS, tlS, c9L0, ac, sc, strBin, k19, k72, w1, w2, mx]
end Fw
end

