/- Several texts in one: steps of the proof, no condition of their own. -/
import Derived.Test.YthiklnppmlmjeaaDoorTgSD
import Derived.Test.YthiklnppmlmjeaaDoorTgR3
import Derived.Test.YthiklnppmlmjeaaDoorTgH4
attribute [local irreducible] Fw.evCode Fw.evOps Fw.evOpsD Fw.evOper Fw.evOperD Fw.evOp Fw.evFn Fw.loopN Fw.T.All Fw.T.bind Fw.callPure Fw.callOp Fw.opsK Fw.opsDK Fw.restK Fw.seqK Fw.blockK Fw.loopS Fw.setK Fw.setQ Fw.giveK Fw.scalK Fw.gcK Fw.finish Fw.finS Fw.rfunK Fw.yldK Fw.yldB Fw.loopK
section
set_option maxHeartbeats 16000000
set_option maxRecDepth 8000
namespace Fw
open Go

end Fw
end

section
set_option maxHeartbeats 16000000
set_option maxRecDepth 8000
namespace Fw
open Go

end Fw
end

section
set_option maxHeartbeats 16000000
set_option maxRecDepth 8000
namespace Fw
open Go

end Fw
end

section
set_option maxHeartbeats 16000000
namespace Fw
open Go

structure ShA (x : ActI) : Prop where
 k : x.kind ∈ kindL
 t : 0 ≤ x.tick ∧ x.tick ≤ 999999999
 n : 0 ≤ x.num ∧ x.num ≤ 999999999
 a : 0 ≤ x.a ∧ x.a ≤ 999999999
 b : 0 ≤ x.b ∧ x.b ≤ 999999999
 c : 0 ≤ x.c ∧ x.c ≤ 999999999
 z1 : x.kind = kMeasure → x.num = 0
 z2 : x.kind ∈ [kArm, kDisarm, kShoot] → x.num = 0
 z3 : ¬ x.kind = kMeasure → x.a = 0 ∧ x.b = 0 ∧ x.c = 0
theorem shA_of {h : HallI} (hd : h.doors ≤ 8) {x : ActI} (he : actE h x = 0) : ShA x := by
 obtain ⟨p1, p2, p3, p4, p5, p6⟩ := actP_of hd he
 have hn : (x.kind = kMeasure ∨ x.kind ∈ [kArm, kDisarm, kShoot]) → x.num = 0 := by
  intro hk
  have hno : numsE h x.kind = 1 := by
   have hh : doorB x.kind = false ∧ keyB x.kind = false := by
    rcases (kinds3 p1).2 with q | q | q
    ·exact q.2
    ·exact q.2.2
    ·rcases hk with e | e
     ·exact absurd e q.1
     ·exact absurd e q.2.1
   unfold numsE
   rw [hh.1, hh.2]; rfl
  unfold actE at he
  by_cases c1 : rangeE 0 100000000 x.tick ≠ 0
  ·rw [if_pos c1] at he; exact absurd he c1
  ·rw [if_neg c1, if_neg (by simpa using p1)] at he
   by_cases c2 : x.num < 0 ∨ numsE h x.kind ≤ x.num
   ·rw [if_pos c2] at he; cases he
   ·rw [hno] at c2; omega
 refine ⟨p1, by omega, by omega, by omega, by omega, by omega, fun e => hn (.inl e), fun e => hn (.inr e), fun hm => ?_⟩
 unfold actE at he
 by_cases c1 : rangeE 0 100000000 x.tick ≠ 0
 ·rw [if_pos c1] at he; exact absurd he c1
 ·rw [if_neg c1, if_neg (by simpa using p1)] at he
  by_cases c2 : x.num < 0 ∨ numsE h x.kind ≤ x.num
  ·rw [if_pos c2] at he; cases he
  ·rw [if_neg c2, if_neg hm] at he
   cases hz : zerB x.a x.b x.c with
   | false => rw [hz] at he; cases he
   | true =>
    simp only [zerB, Bool.and_eq_true, beq_iff_eq] at hz
    exact hz

theorem chk_parts {h : HallI} {l : List ActI} (hc : chkE h l = 0) : actsE h l = 0 ∧ (runH h l).2 = true ∧ ∀ x ∈ l, ShA x := by
 unfold chkE at hc
 split at hc
 ·rename_i q; exact absurd hc q
 ·rename_i q
  have q : actsE h l = 0 := by simpa using q
  obtain ⟨z1, z2, z3⟩ := acts_ok q
  refine ⟨q, ?_, fun x hx => shA_of (doors_of z1).2 (z3 x hx)⟩
  split at hc
  ·rename_i r; exact r
  ·cases hc
end Fw
end

section
set_option maxHeartbeats 16000000
namespace Fw
open Go

def touchF (acc : List (Int × Int)) (a b : Int) : List (Int × Int) :=
 if b ≤ a then acc else if acc ≠ [] ∧ (acc.getLastD (0, 0)).2 = a then acc.dropLast ++ [((acc.getLastD (0, 0)).1, b)] else acc ++ [(a, b)]
def spanF (P : StaI → Bool) (l : List StaI) : Nat → List (Int × Int)
 | 0 => []
 | i + 1 => if P (l.getD i zS) = true ∧ i + 1 < l.length then touchF (spanF P l i) (l.getD i zS).tick (l.getD (i + 1) zS).tick else spanF P l i
theorem touchF_len (acc : List (Int × Int)) (a b : Int) : (touchF acc a b).length ≤ acc.length + 1 := by
 unfold touchF
 split
 ·omega
 ·split
  ·simp only [List.length_append, List.length_dropLast, List.length_cons, List.length_nil]; omega
  ·simp
theorem spanF_len (P : StaI → Bool) (l : List StaI) : ∀ i, (spanF P l i).length ≤ i := by
 intro i
 induction i with
 | zero => simp [spanF]
 | succ i ih =>
  simp only [spanF]
  split
  ·have := touchF_len (spanF P l i) (l.getD i zS).tick (l.getD (i + 1) zS).tick; omega
  ·omega
theorem getS {l : List StaI} {i : Nat} (hi : i < l.length) : l.getD i zS = l[i] := by simp [List.getD_eq_getElem?_getD, hi]
theorem cI_snoc (acc : List (Int × Int)) (p q : Int) : cI (acc ++ [(p, q)]) = cI acc ++ [.int .i64 p, .int .i64 q] := by rw [cI_append]; rfl
theorem cI_len2 (l : List (Int × Int)) : (cI l).length = l.length * 2 := by
 induction l with
 | nil => rfl
 | cons x r ih => simp only [cI, List.length_cons, ih]; omega
theorem setC_last (A : List PVal) (n : Nat) (hA : A.length = n * 2) (p q b : Int) : (A ++ [PVal.int .i64 p, .int .i64 q]).set (n * 2 + 1) (.int .i64 b) = A ++ [.int .i64 p, .int .i64 b] := by
 rw [List.set_append_right _ _ (by omega), hA, show n * 2 + 1 - n * 2 = 1 from by omega]
 rfl

end Fw
end

section
set_option maxHeartbeats 16000000
namespace Fw
open Go

def Q99 (f : Nat) (l : List StaI) (acc : List (Int × Int)) (i : Nat) : St := ⟨[(2, .p (.clo f [] [])), (8, stl l), (11, .sl 1 acc.length 0 acc.length), (25, stl l), (26, iv l.length), (27, iv i)], [(1, .arr (cI acc) acc.length 2)]⟩

theorem round71 {d : Nat} (f : Nat) (P : StaI → Bool) (hP : ∀ s, RUN d f [sa s] = .ret (bl (P s))) (l : List StaI) (hl : l.length < 50000) (acc : List (Int × Int)) (ho : acc.length < 100000) (i : Nat) (hi : i < l.length) (hasc : i + 1 < l.length → (l.getD i zS).tick ≤ (l.getD (i + 1) zS).tick) :
  ∃ st1, loopS (evFn F C0 G0 d) C0 G0 0 true [2, 8, 11, 25, 26, 27] c71L0 (Q99 f l acc i) = .ret (.normal, st1) ∧
   loopS (evFn F C0 G0 d) C0 G0 0 true [2, 8, 11, 25, 26, 27] c71L0 st1 = loopS (evFn F C0 G0 d) C0 G0 0 true [2, 8, 11, 25, 26, 27] c71L0 (Q99 f l (if P (l.getD i zS) = true ∧ i + 1 < l.length then touchF acc (l.getD i zS).tick (l.getD (i + 1) zS).tick else acc) (i + 1)) := by
 have kP := hP l[i]
 have hR := sR_len l
 have hlt : i * 15 < l.length * 15 := by omega
 have hlt6 : i * 15 + 15 ≤ l.length * 15 := by omega
 have wi := wrap_succ (i := i) (by omega)
 have hdr := rowC_drop sc_len l i hi
 rw [getS hi]
 by_cases hp : P l[i] = true
 ·rw [hp] at kP
  by_cases h1 : i + 1 < l.length
  ·have hasc := hasc h1
   rw [if_pos ⟨hp, h1⟩]
   rw [getS hi, getS h1] at hasc
   rw [getS h1]
   have hdr2 := rowC_drop sc_len l (i + 1) h1
   have hltb : (i + 1) * 15 < l.length * 15 := by omega
   have h1i : ((i : Int) + 1) < l.length := by omega
   have hne : (((i : Int) + 1) == (l.length : Int)) = false := by simp; omega
   have hne2 : ¬ ((i : Int) + 1) = (l.length : Int) := by omega
   have hn1 : ((i : Int) + 1).toNat = i + 1 := by omega
   have h0i : 0 ≤ (i : Int) + 1 := by omega
   simp only [Q99, stl]
   generalize hA : rowC sc l = A at *
   generalize rowC sc (l.drop (i + 1)) = R2 at *
   generalize rowC sc (l.drop (i + 1 + 1)) = R3 at *
   generalize l[i] = x at *
   generalize l[i + 1] = y at *
   obtain ⟨st, o0, o1, o2, o3, o4, o5, o6, o7, k0, k1, pp, ar, sh, ad⟩ := x
   obtain ⟨st', o0', o1', o2', o3', o4', o5', o6', o7', k0', k1', pp', ar', sh', ad'⟩ := y
   simp only at hasc kP hdr hdr2 ⊢
   by_cases he : st = st'
   ·subst he
    have ht : touchF acc st st = acc := by simp [touchF]
    rw [ht]
    generalize cI acc = C at *
    generalize acc.length = n at *
    refine ⟨?_, ?h1, ?h2⟩
    case h1 =>
     simp -implicitDefEqProofs [loopS_eq, c71L0, hi, hR, hlt, hdr, hdr2, hltb, h1i, hne, hn1, h0i, sc, kP, wi]
     exact rfl
    case h2 => exact loopS_same (by simp) (by simp)
   ·have heb : (st == st') = false := by simpa using he
    have hlts : ¬ st' ≤ st := by omega
    rcases List.eq_nil_or_concat acc with e | ⟨pre, ⟨p, q⟩, e⟩
    ·subst e
     have ht : touchF [] st st' = [(st, st')] := by simp [touchF, hlts]
     rw [ht]
     have hl1 : 1 ≤ lim := by decide
     simp only [cI, List.length_nil, List.length_cons, Nat.zero_add]
     refine ⟨?_, ?h1, ?h2⟩
     case h1 =>
      simp -implicitDefEqProofs [loopS_eq, c71L0, hi, hR, hlt, hdr, hdr2, hltb, h1i, hne, hn1, h0i, sc, kP, wi, heb, hl1]
      exact rfl
     case h2 => exact loopS_same (by simp) (by simp)
    ·rw [List.concat_eq_append] at e
     subst e
     have hcl := cI_len2 pre
     have hpl : ((pre ++ [(p, q)]).length : Int) - 1 = pre.length := by simp
     have hln : (pre ++ [(p, q)]).length = pre.length + 1 := by simp
     have hw1 : IntKind.i64.wrap (pre.length : Int) = pre.length := wrap64 (by omega) (by simp at ho; omega)
     have hsn := cI_snoc pre p q
     have hdrp : (cI pre ++ [PVal.int .i64 p, .int .i64 q]).drop (pre.length * 2) = [.int .i64 p, .int .i64 q] := by rw [← hcl]; simp
     have hgl : (pre ++ [(p, q)]).getLastD (0, 0) = (p, q) := by simp
     have hgq : (cI pre ++ [PVal.int .i64 p, .int .i64 q])[pre.length * 2 + 1]? = some (.int .i64 q) := by rw [← hcl]; simp
     have hpos : (0 : Int) < (pre.length : Int) + 1 := by omega
     have hlim : pre.length + 1 + 1 ≤ lim := by simp only [lim]; simp at ho; omega
     have hsz : (cI pre ++ [PVal.int .i64 p, .int .i64 q]).length = (pre.length + 1) * 2 := by simp [hcl]; omega
     by_cases hq : q = st
     ·subst hq
      have ht : touchF (pre ++ [(p, q)]) q st' = pre ++ [(p, st')] := by simp [touchF, hlts]
      rw [ht]
      have hln2 : (pre ++ [(p, st')]).length = pre.length + 1 := by simp
      have hsn2 := cI_snoc pre p st'
      have hset := setC_last (cI pre) pre.length hcl p q st'
      simp only [hln, hln2, hsn, hsn2]
      generalize hC : cI pre ++ [PVal.int .i64 p, .int .i64 q] = C at *
      generalize cI pre ++ [PVal.int .i64 p, .int .i64 st'] = C' at *
      generalize pre.length = n at *
      have hnn : (n : Int) < n + 1 := by omega
      have hst : n * 2 + 1 + 1 ≤ (n + 1) * 2 := by omega
      refine ⟨?_, ?h1, ?h2⟩
      case h1 =>
       simp -implicitDefEqProofs [loopS_eq, c71L0, hi, hR, hlt, hdr, hdr2, hltb, h1i, hne, hn1, h0i, sc, kP, wi, heb, hw1, hgq, hpos, hsz, hset, hnn, hst]
       exact rfl
      case h2 => exact loopS_same (by simp) (by simp [])
     ·have hqb : (q == st) = false := by simpa using hq
      have ht : touchF (pre ++ [(p, q)]) st st' = pre ++ [(p, q)] ++ [(st, st')] := by simp [touchF, hlts, hq]
      rw [ht]
      have hln2 : (pre ++ [(p, q)] ++ [(st, st')]).length = pre.length + 1 + 1 := by simp
      have hsn2 := cI_snoc (pre ++ [(p, q)]) st st'
      simp only [hln, hln2, hsn, hsn2]
      generalize hC : cI pre ++ [PVal.int .i64 p, .int .i64 q] = C at *
      generalize pre.length = n at *
      have hnn : (n : Int) < n + 1 := by omega
      have hst : n * 2 + 1 + 1 ≤ (n + 1) * 2 := by omega
      refine ⟨?_, ?h1, ?h2⟩
      case h1 =>
       simp -implicitDefEqProofs [loopS_eq, c71L0, hi, hR, hlt, hdr, hdr2, hltb, h1i, hne, hn1, h0i, sc, kP, wi, heb, hw1, hgq, hpos, hsz, hqb, hlim, hnn]
       exact rfl
      case h2 => exact loopS_same (by simp) (by simp)
  ·rw [if_neg (fun c => h1 c.2)]
   have hee : (i : Int) + 1 = l.length := by omega
   have wl : IntKind.i64.wrap (l.length : Int) = l.length := wrap64 (by omega) (by omega)
   simp only [Q99, stl]
   generalize hA : rowC sc l = A at *
   generalize rowC sc (l.drop (i + 1)) = R2 at *
   generalize l[i] = x at *
   obtain ⟨st, o0, o1, o2, o3, o4, o5, o6, o7, k0, k1, pp, ar, sh, ad⟩ := x
   generalize cI acc = C at *
   generalize acc.length = n at *
   refine ⟨?_, ?h1, ?h2⟩
   case h1 =>
    simp -implicitDefEqProofs [loopS_eq, c71L0, hi, hR, hlt, hdr, sc, kP, wl, hee]
    exact rfl
   case h2 => exact loopS_same (by simp; omega) (by simp)
 ·rw [if_neg (fun c => hp c.1)]
  have hp : P l[i] = false := by simpa using hp
  rw [hp] at kP
  simp only [Q99, stl]
  generalize hA : rowC sc l = A at *
  generalize rowC sc (l.drop (i + 1)) = R2 at *
  generalize l[i] = x at *
  obtain ⟨st, o0, o1, o2, o3, o4, o5, o6, o7, k0, k1, pp, ar, sh, ad⟩ := x
  generalize cI acc = C at *
  generalize acc.length = n at *
  refine ⟨?_, ?h1, ?h2⟩
  case h1 =>
   simp -implicitDefEqProofs [loopS_eq, c71L0, hi, hR, hlt, hdr, sc, kP, wi]
   exact rfl
  case h2 => exact loopS_same (by simp) (by simp)
theorem dloop71 {d : Nat} (f : Nat) (P : StaI → Bool) (hP : ∀ s, RUN d f [sa s] = .ret (bl (P s))) (l : List StaI) (hl : l.length < 50000) (hasc : ∀ i, i + 1 < l.length → (l.getD i zS).tick ≤ (l.getD (i + 1) zS).tick) {st0 : St}
  (h0 : loopS (evFn F C0 G0 d) C0 G0 0 true [2, 8, 11, 25, 26, 27] c71L0 st0 = loopS (evFn F C0 G0 d) C0 G0 0 true [2, 8, 11, 25, 26, 27] c71L0 (Q99 f l [] 0)) :
  loopN (loopS (evFn F C0 G0 d) C0 G0 0 true [2, 8, 11, 25, 26, 27] c71L0) loopFuel st0 = .ret (.exit 0, ⟨(Q99 f l (spanF P l l.length) l.length).env ++ [(28, .p (.bool false))], (Q99 f l (spanF P l l.length) l.length).sto⟩) := by
 rw [loop_run' (fun i => Q99 f l (spanF P l i) i) l.length (e := .exit 0) (st' := ⟨(Q99 f l (spanF P l l.length) l.length).env ++ [(28, .p (.bool false))], (Q99 f l (spanF P l l.length) l.length).sto⟩) (by simp)]
 ·exact h0
 ·intro i hi
  have hsl := spanF_len P l i
  exact round71 f P hP l hl (spanF P l i) (by omega) i hi (hasc i)
 ·simp -implicitDefEqProofs [loopS_eq, c71L0, Q99]
 ·simp [loopFuel]; omega
theorem setO_tick (s : StaI) (n : Int) (b : Bool) : (setO s n b).tick = s.tick := by
 unfold setO
 repeat' split
 all_goals rfl
theorem setY_tick (s : StaI) (n : Int) (b : Bool) : (setY s n b).tick = s.tick := by
 unfold setY
 split <;> rfl
theorem runG_asc (base : Int) (W : ActI → Int) : ∀ (l : List ActI) (s : StaI), (∀ i, i + 1 < (runG base W s l).1.length → ((runG base W s l).1.getD i zS).tick ≤ ((runG base W s l).1.getD (i + 1) zS).tick) ∧ (0 < (runG base W s l).1.length → s.tick ≤ ((runG base W s l).1.getD 0 zS).tick) := by
 intro l
 induction l with
 | nil => intro s; simp [runG]
 | cons x r ih =>
  intro s
  by_cases hr : (reaL s x).length = 0
  ·have ht := (reaL_nil.1 hr).1
   have hta : (aftS base (W x) s x).tick = x.tick := by
    unfold aftS
    repeat' split
    all_goals first | rfl | exact setO_tick _ _ _ | exact setY_tick _ _ _
   obtain ⟨i1, i2⟩ := ih (aftS base (W x) s x)
   simp only [runG, hr, if_true, List.length_cons]
   refine ⟨fun i hi => ?_, fun _ => ?_⟩
   ·cases i with
    | zero => simpa using i2 (by omega)
    | succ i => simpa using i1 i (by omega)
   ·simp only [List.getD_cons_zero, hta]; exact ht
  ·simp [runG, hr]
theorem runH_asc (h : HallI) (l : List ActI) : ∀ i, i + 1 < (runH h l).1.length → ((runH h l).1.getD i zS).tick ≤ ((runH h l).1.getD (i + 1) zS).tick := (runG_asc h.base (wP h) l bgS).1
theorem during71 {n : Nat} (hn : 10 ≤ n) (f : Nat) (P : StaI → Bool) (hP : ∀ d s, RUN (d + 1) f [sa s] = .ret (bl (P s))) (h : HallI) (q0 : h.t0.length < 1000000) (q1 : h.t1.length < 1000000) (q2 : h.t2.length < 1000000) (l : List ActI) (hl : l.length < 50000) :
  ∃ a, RUN n 71 [ha h, asl l, .p (.clo f [] [])] = .ret (.tup [a, iv (chkE h l)]) ∧ disown a = csl (if chkE h l = 0 then spanF P (runH h l).1 (runH h l).1.length else []) := by
 obtain ⟨d, rfl⟩ : ∃ d, n = d + 10 := ⟨n - 10, by omega⟩
 rw [RUN, call_eq fe71 _ rfl]
 have k88 := followed60 (n := d + 9) (by omega) h q0 q1 q2 l hl
 unfold folR at k88
 by_cases h0 : actsE h l = 0
 ·rw [if_neg (by simp [h0])] at k88
  cases hw : (runH h l).2
  ·have e1 : chkE h l = 21 := by simp [chkE, h0, hw]
   refine ⟨nilS, ?_, by rw [e1]; rfl⟩
   rw [e1]
   simp only [hw, Bool.false_eq_true, if_false] at k88
   generalize (runH h l).1.length = y at *
   simp only [ha, csl, asl] at *
   generalize cI h.t0 = A0 at *
   generalize cI h.t1 = A1 at *
   generalize cI h.t2 = A2 at *
   generalize rowC ac l = A at *
   simp -implicitDefEqProofs [c71, k88]
  ·have e1 : chkE h l = 0 := by simp [chkE, h0, hw]
   refine ⟨.own (cI (spanF P (runH h l).1 (runH h l).1.length)) (spanF P (runH h l).1 (runH h l).1.length).length 2, ?_, by rw [e1]; rfl⟩
   rw [e1]
   simp only [hw, if_true] at k88
   have key := dloop71 (d := d + 9) f P (fun s => hP (d + 8) s) (runH h l).1 (runH_lt h hl) (runH_asc h l) (st0 := ⟨[(2, .p (.clo f [] [])), (8, stl (runH h l).1), (11, .sl 1 0 0 0), (25, stl (runH h l).1), (26, iv (runH h l).1.length), (27, iv 0)], [(1, .arr [] 0 2), (0, .box [iv h.doors, iv h.base, csl h.t0, csl h.t1, csl h.t2])]⟩) (by exact loopS_same rfl (by simp [Q99, cI]))
   have hcl := cI_len2 (spanF P (runH h l).1 (runH h l).1.length)
   simp only [Q99, stl, ha, csl, asl] at *
   generalize cI (spanF P (runH h l).1 (runH h l).1.length) = C at *
   generalize (spanF P (runH h l).1 (runH h l).1.length).length = z at *
   generalize rowC sc (runH h l).1 = B at *
   generalize (runH h l).1.length = y at *
   generalize cI h.t0 = A0 at *
   generalize cI h.t1 = A1 at *
   generalize cI h.t2 = A2 at *
   generalize rowC ac l = A at *
   simp -implicitDefEqProofs [c71, k88]
   rw [key]
   simp -implicitDefEqProofs [hcl]
 ·have e1 : chkE h l = actsE h l := by simp [chkE, h0]
  rw [if_pos h0] at k88
  refine ⟨nilS, ?_, by rw [e1, if_neg h0]; rfl⟩
  rw [e1]
  generalize actsE h l = e at *
  simp only [ha, csl, asl] at *
  generalize cI h.t0 = A0 at *
  generalize cI h.t1 = A1 at *
  generalize cI h.t2 = A2 at *
  generalize rowC ac l = A at *
  simp -implicitDefEqProofs [c71, k88, h0]
theorem arm72 (d : Nat) (s : StaI) : RUN (d + 1) 72 [sa s] = .ret (bl s.armed) := by
 rw [RUN, call_eq fe72 _ rfl]
 obtain ⟨st, o0, o1, o2, o3, o4, o5, o6, o7, k0, k1, pp, ar, sh, ad⟩ := s
 simp -implicitDefEqProofs [c72]
def armP (s : StaI) : Bool := s.armed
theorem armed26 {n : Nat} (hn : 11 ≤ n) (h : HallI) (q0 : h.t0.length < 1000000) (q1 : h.t1.length < 1000000) (q2 : h.t2.length < 1000000) (l : List ActI) (hl : l.length < 50000) :
  ∃ a, RUN n 26 [ha h, asl l] = .ret (.tup [a, iv (chkE h l)]) ∧ disown a = csl (if chkE h l = 0 then spanF armP (runH h l).1 (runH h l).1.length else []) := by
 obtain ⟨d, rfl⟩ : ∃ d, n = d + 11 := ⟨n - 11, by omega⟩
 rw [RUN, call_eq fe26 _ rfl]
 obtain ⟨a, k, hd⟩ := during71 (n := d + 10) (by omega) 72 armP (fun d s => arm72 d s) h q0 q1 q2 l hl
 refine ⟨csl (if chkE h l = 0 then spanF armP (runH h l).1 (runH h l).1.length else []), ?_, rfl⟩
 generalize (if chkE h l = 0 then spanF armP (runH h l).1 (runH h l).1.length else []) = Z at *
 generalize chkE h l = e at *
 simp only [ha, csl, asl] at *
 generalize cI Z = CZ at *
 generalize cI h.t0 = A0 at *
 generalize cI h.t1 = A1 at *
 generalize cI h.t2 = A2 at *
 generalize rowC ac l = A at *
 simp -implicitDefEqProofs [c26, k, hd]
end Fw
end

section
set_option maxHeartbeats 16000000
namespace Fw
open Go

abbrev sp2 (a b : Int) : AVal := .agg [iv a, iv b]
end Fw
end

section
set_option maxHeartbeats 16000000
namespace Fw
open Go

theorem short7 {n : Nat} (hn : 1 ≤ n) (h : HallI) : RUN n 7 [ha h] = .ret (.p (.bool (decide (h.t0.length ≤ 9) && (decide (h.t1.length ≤ 9) && decide (h.t2.length ≤ 9))))) := by
 obtain ⟨d, rfl⟩ : ∃ d, n = d + 1 := ⟨n - 1, by omega⟩
 rw [RUN, call_eq fe7 _ rfl]
 by_cases h0 : h.t0.length ≤ 9
 ·have h0' : (h.t0.length : Int) ≤ 9 := by omega
  by_cases h1 : h.t1.length ≤ 9
  ·have h1' : (h.t1.length : Int) ≤ 9 := by omega
   by_cases h2 : h.t2.length ≤ 9
   ·have h2' : (h.t2.length : Int) ≤ 9 := by omega
    simp -implicitDefEqProofs [c7, h0, h1, h2, h0', h1', h2']
   ·have h2' : ¬ (h.t2.length : Int) ≤ 9 := by omega
    simp -implicitDefEqProofs [c7, h0, h1, h2, h0', h1', h2']
  ·have h1' : ¬ (h.t1.length : Int) ≤ 9 := by omega
   simp -implicitDefEqProofs [c7, h0, h1, h0', h1']
 ·have h0' : ¬ (h.t0.length : Int) ≤ 9 := by omega
  simp -implicitDefEqProofs [c7, h0, h0']

end Fw
end

section
set_option maxHeartbeats 16000000
namespace Fw
open Go

end Fw
end

section
set_option maxHeartbeats 16000000
namespace Fw
open Go

end Fw
end

section
set_option maxHeartbeats 16000000
namespace Fw
open Go

end Fw
end

section
set_option maxHeartbeats 16000000
namespace Fw
open Go

end Fw
end

section
set_option maxHeartbeats 16000000
namespace Fw
open Go

end Fw
end

section
set_option maxHeartbeats 16000000
namespace Fw
open Go

end Fw
end

section
set_option maxHeartbeats 4000000
namespace Fw
open Go

/-! the kinds that are permitted -/
/-! the spans -/
/-! the shots -/
end Fw
end

section
set_option maxHeartbeats 16000000
namespace Fw
open Go

def gbad (n : Int) (x : Int × Int) : Bool := (decide (x.1 < 0) || decide (x.2 ≤ x.1)) || decide (n < x.2)
def spn1 (p : Int) (x : Int × Int) : Int := firstE [whenE (gbad 100000000 x) 14, whenE (decide (x.1 < p)) 15]
def endG (g : List (Int × Int)) (i : Nat) : Int := if i = 0 then 0 else (g.getD (i - 1) (0, 0)).2
def spnL (g : List (Int × Int)) : List Int := (List.range g.length).map fun i => spn1 (endG g i) (g.getD i (0, 0))
def spnE (g : List (Int × Int)) : Int := if 32 < g.length then 5 else firstE (spnL g)
def traE (l : List Int) : Int := if 1024 < l.length then 5 else firstE (l.map (rangeE (-100000) 100000))
theorem endG_succ (g : List (Int × Int)) (i : Nat) (h : i < g.length) : endG g (i + 1) = g[i].2 := by
 simp [endG, List.getD_eq_getElem?_getD, h]
theorem cI_len' (l : List (Int × Int)) : (cI l).length = l.length * 2 := by
 induction l with
 | nil => rfl
 | cons x r ih => simp only [cI, List.length_cons, ih]; omega
end Fw
end

section
set_option maxHeartbeats 16000000
namespace Fw
open Go

def freF (g : List (Int × Int)) (v : Int) : Nat → Bool
 | 0 => false
 | k + 1 => freF g v k || (decide ((g.getD k (0, 0)).1 ≤ v) && decide (v < (g.getD k (0, 0)).2))
def mvF (l : List Int) (g : List (Int × Int)) : Nat → List Int
 | 0 => []
 | k + 1 => if l.getD (k + 1) 0 ≠ l.getD k 0 ∧ freF g (k + 1) g.length = false then mvF l g k ++ [(k : Int) + 1] else mvF l g k
theorem mvF_len (l : List Int) (g : List (Int × Int)) : ∀ k, (mvF l g k).length ≤ k := by
 intro k
 induction k with
 | zero => simp [mvF]
 | succ k ih =>
  simp only [mvF]
  split
  ·simp only [List.length_append, List.length_cons, List.length_nil]; omega
  ·omega
end Fw
end

section
set_option maxHeartbeats 16000000
namespace Fw
open Go

theorem in83 {n : Nat} (hn : 1 ≤ n) (x : Int × Int) (v : Int) : RUN n 83 [.agg [iv x.1, iv x.2], .p (.pp [.int .i64 v])] = .ret (.p (.bool (decide (x.1 ≤ v) && decide (v < x.2)))) := by
 obtain ⟨d, rfl⟩ : ∃ d, n = d + 1 := ⟨n - 1, by omega⟩
 rw [RUN, call_eq fe83 _ rfl]
 obtain ⟨a, b⟩ := x
 by_cases h1 : a ≤ v
 ·simp -implicitDefEqProofs [c83, h1]
 ·simp -implicitDefEqProofs [c83, h1]
theorem freF_any (g : List (Int × Int)) (v : Int) : ∀ k, k ≤ g.length → (freF g v k = true ↔ ∃ j, j < k ∧ (decide ((g.getD j (0, 0)).1 ≤ v) && decide (v < (g.getD j (0, 0)).2)) = true) := by
 intro k
 induction k with
 | zero => intro _; simp [freF]
 | succ k ih =>
  intro hk
  have ih := ih (by omega)
  simp only [freF, Bool.or_eq_true]
  constructor
  ·rintro (h | h)
   ·obtain ⟨j, h1, h2⟩ := ih.1 h; exact ⟨j, by omega, h2⟩
   ·exact ⟨k, by omega, h⟩
  ·rintro ⟨j, h1, h2⟩
   by_cases e : j = k
   ·subst e; exact .inr h2
   ·exact .inl (ih.2 ⟨j, by omega, h2⟩)
theorem indexFunc120 {n : Nat} (hn : 2 ≤ n) (g : List (Int × Int)) (hg : g.length < 1000000) (v : Int) : ∃ r : Int, RUN n 120 [csl g, .p (.clo 83 [] [.pp [.int .i64 v]])] = .ret (iv r) ∧ decide (0 ≤ r) = freF g v g.length := by
 obtain ⟨d, rfl⟩ : ∃ d, n = d + 2 := ⟨n - 2, by omega⟩
 rw [RUN, call_eq fe120 _ rfl]
 let inv : Nat → St := fun i => ⟨[(0, csl g), (1, .p (.clo 83 [] [.pp [.int .i64 v]])), (7, iv g.length), (8, iv i)], []⟩
 have key := loop_first (step := loopS (evFn F C0 G0 (d + 1)) C0 G0 0 true [0, 1, 7, 8] c120L0) inv (fun i => if (decide ((g.getD i (0, 0)).1 ≤ v) && decide (v < (g.getD i (0, 0)).2)) = true then 1 else 0) g.length (.exit 0, ⟨(inv g.length).env ++ [(9, .p (.bool false))], []⟩) (fun i => (.ret, ⟨[(4, iv i)], []⟩))
  (st0 := ⟨[(0, csl g), (1, .p (.clo 83 [] [.pp [.int .i64 v]])), (7, iv g.length), (8, iv 0)], []⟩) (fuel := loopFuel) rfl (fun i hi => by
   have hw := wrap_succ (i := i) (by omega)
   have hlt : i * 2 < g.length * 2 := by omega
   have hlt2 : i * 2 + 2 ≤ g.length * 2 := by omega
   have hdr := cI_drop g i hi
   have hgi : g.getD i (0, 0) = g[i] := by simp [List.getD_eq_getElem?_getD, hi]
   have kc := in83 (n := d + 1) (by omega) g[i] v
   simp only [hgi]
   generalize hA : cI g = A at *
   have hAl : A.length = g.length * 2 := by rw [← hA]; exact cI_len' g
   generalize cI (g.drop (i + 1)) = R2 at *
   generalize g[i] = x at *
   obtain ⟨a, b⟩ := x
   simp only at hdr kc ⊢
   cases hf : (decide (a ≤ v) && decide (v < b)) with
   | true =>
    rw [hf] at kc
    refine ⟨fun h0 => absurd h0 (by simp), fun _ => ?_⟩
    simp -implicitDefEqProofs [inv, hA, hAl, loopS_eq, c120L0, hi, hlt, hdr, kc]
   | false =>
    rw [hf] at kc
    refine ⟨fun _ => ⟨?_, ?h1, ?h2⟩, fun h0 => absurd rfl h0⟩
    case h1 =>
     simp -implicitDefEqProofs [inv, hA, hAl, loopS_eq, c120L0, hi, hlt, hdr, kc, hw]
     exact rfl
    case h2 => exact loopS_same (by simp [inv]) (by simp [inv])) (fun _ => by simp) (by simp -implicitDefEqProofs [inv, loopS_eq, c120L0]) (by simp) (by simp [loopFuel]; omega)
 simp -implicitDefEqProofs [c120]
 rcases key with ⟨k1, k2⟩ | ⟨j, hj, k1, k2, k3, k4⟩
 ·rw [k1]
  have hno : freF g v g.length = false := by
   cases hf : freF g v g.length with
   | false => rfl
   | true =>
    obtain ⟨j, h1, h2⟩ := (freF_any g v _ (Nat.le_refl _)).1 hf
    have := firstE_zero.1 k2 _ (List.mem_map.2 ⟨j, List.mem_range.2 h1, rfl⟩)
    rw [if_pos h2] at this
    cases this
  refine ⟨-1, ?_, ?_⟩
  ·simp -implicitDefEqProofs [inv]
  ·rw [hno]; decide
 ·rw [k1]
  have hyes : freF g v g.length = true := by
   refine (freF_any g v _ (Nat.le_refl _)).2 ⟨j, hj, ?_⟩
   cases hb : (decide ((g.getD j (0, 0)).1 ≤ v) && decide (v < (g.getD j (0, 0)).2)) with
   | true => rfl
   | false => rw [if_neg (by rw [hb]; simp)] at k3; exact absurd rfl k3
  refine ⟨j, ?_, ?_⟩
  ·simp -implicitDefEqProofs []
  ·rw [hyes]; simp
theorem contains84 {n : Nat} (hn : 3 ≤ n) (g : List (Int × Int)) (hg : g.length < 1000000) (v : Int) : RUN n 84 [csl g, .p (.clo 83 [] [.pp [.int .i64 v]])] = .ret (.p (.bool (freF g v g.length))) := by
 obtain ⟨d, rfl⟩ : ∃ d, n = d + 3 := ⟨n - 3, by omega⟩
 rw [RUN, call_eq fe84 _ rfl]
 obtain ⟨r, k, hr⟩ := indexFunc120 (n := d + 2) (by omega) g hg v
 rw [← hr]
 simp only [csl] at k ⊢
 generalize cI g = A at *
 simp -implicitDefEqProofs [c84, k]
theorem check79 {n : Nat} (hn : 3 ≤ n) (x : Int) : RUN n 79 [iv x] = .ret (iv (rangeE (-100000) 100000 x)) := by
 obtain ⟨d, rfl⟩ : ∃ d, n = d + 3 := ⟨n - 3, by omega⟩
 rw [RUN, call_eq fe79 _ rfl]
 have k := within80 (n := d + 2) (by omega) x (-100000) 100000
 simp -implicitDefEqProofs [c79, k]
def trG : PVal → PVal
 | .int _ n => .int .i64 (rangeE (-100000) 100000 n)
 | c => c
theorem map82t {n : Nat} (hn : 4 ≤ n) (l : List Int) (hl : l.length < 1000000) : RUN n 82 [isl l, .p (.clo 79 [] [])] = .ret (.own (pI (l.map (rangeE (-100000) 100000))) l.length 1) := by
 obtain ⟨d, rfl⟩ : ∃ d, n = d + 4 := ⟨n - 4, by omega⟩
 have hPl : (pI l).length = l.length := by simp [pI]
 have k := map_ok (C := C0) (G := G0) (d := d + 3) fc82 (by decide) (fun _ => rfl) (pI l) 79 [] trG (by rw [hPl]; exact hl) (by simp) (by
  intro x hx
  simp only [pI, List.mem_map] at hx
  obtain ⟨y, hy, rfl⟩ := hx
  exact ⟨check79 (by omega) y, rfl⟩)
 rw [hPl] at k
 have e : (pI l).map trG = pI (l.map (rangeE (-100000) 100000)) := by simp [pI, trG, Function.comp_def]
 rw [e] at k
 exact k
theorem spans30 {d : Nat} (l : List Int) (g : List (Int × Int)) (hg : g.length < 1000000) :
  (loopN (loopS (evFn F C0 G0 (d + 3)) C0 G0 0 true [0, 1, 8, 32, 33, 34] c30L0) loopFuel ⟨[(0, isl l), (1, csl g), (8, iv 0), (32, csl g), (33, iv g.length), (34, iv 0)], []⟩ = .ret (.exit 0, ⟨[(0, isl l), (1, csl g), (8, iv (endG g g.length)), (32, csl g), (33, iv g.length), (34, iv g.length), (35, .p (.bool false))], []⟩) ∧ firstE (spnL g) = 0) ∨
  ∃ st, loopN (loopS (evFn F C0 G0 (d + 3)) C0 G0 0 true [0, 1, 8, 32, 33, 34] c30L0) loopFuel ⟨[(0, isl l), (1, csl g), (8, iv 0), (32, csl g), (33, iv g.length), (34, iv 0)], []⟩ = .ret (.ret, st) ∧ st.env = [(4, .p .nils), (5, iv (firstE (spnL g)))] ∧ firstE (spnL g) ≠ 0 := by
 let inv : Nat → St := fun i => ⟨[(0, isl l), (1, csl g), (8, iv (endG g i)), (32, csl g), (33, iv g.length), (34, iv i)], []⟩
 have key := loop_firstR (step := loopS (evFn F C0 G0 (d + 3)) C0 G0 0 true [0, 1, 8, 32, 33, 34] c30L0) inv (fun i => spn1 (endG g i) (g.getD i (0, 0))) g.length (.exit 0, ⟨(inv g.length).env ++ [(35, .p (.bool false))], []⟩) (fun i st => st.env = [(4, .p .nils), (5, iv (spn1 (endG g i) (g.getD i (0, 0))))])
  (st0 := ⟨[(0, isl l), (1, csl g), (8, iv 0), (32, csl g), (33, iv g.length), (34, iv 0)], []⟩) rfl (fun i hi => by
   have hw := wrap_succ (i := i) (by omega)
   have hlt : i * 2 < g.length * 2 := by omega
   have hlt2 : i * 2 + 2 ≤ g.length * 2 := by omega
   have hdr := cI_drop g i hi
   have hgi : g.getD i (0, 0) = g[i] := by simp [List.getD_eq_getElem?_getD, hi]
   have kw := fun b e => when81 (n := d + 3) (by omega) b e
   have k2 := fun a b => first56_2 (n := d + 3) (by omega) a b
   have hend := endG_succ g i hi
   simp only [hgi, inv, hend]
   unfold spn1 gbad
   generalize endG g i = p at *
   generalize hA : cI g = A at *
   have hAl : A.length = g.length * 2 := by rw [← hA]; exact cI_len' g
   generalize cI (g.drop (i + 1)) = R2 at *
   generalize g[i] = x at *
   obtain ⟨a, b⟩ := x
   simp only at hdr ⊢
   by_cases c1 : a < 0
   ·refine ⟨fun he => ?_, fun he => ⟨_, by simp -implicitDefEqProofs [loopS_eq, c30L0, hi, hA, hAl, hlt, hdr, kw, k2, firstE, whenE, c1]; exact rfl, ?_⟩⟩
    ·simp [c1, firstE, whenE] at he
    ·simp [c1, firstE, whenE]
   ·by_cases c2 : b ≤ a
    ·refine ⟨fun he => ?_, fun he => ⟨_, by simp -implicitDefEqProofs [loopS_eq, c30L0, hi, hA, hAl, hlt, hdr, kw, k2, firstE, whenE, c1, c2]; exact rfl, ?_⟩⟩
     ·simp [c1, c2, firstE, whenE] at he
     ·simp [c1, c2, firstE, whenE]
    ·by_cases c3 : 100000000 < b
     ·refine ⟨fun he => ?_, fun he => ⟨_, by simp -implicitDefEqProofs [loopS_eq, c30L0, hi, hA, hAl, hlt, hdr, kw, k2, firstE, whenE, c1, c2, c3]; exact rfl, ?_⟩⟩
      ·simp [c1, c2, c3, firstE, whenE] at he
      ·simp [c1, c2, c3, firstE, whenE]
     ·by_cases c4 : a < p
      ·refine ⟨fun he => ?_, fun he => ⟨_, by simp -implicitDefEqProofs [loopS_eq, c30L0, hi, hA, hAl, hlt, hdr, kw, k2, firstE, whenE, c1, c2, c3, c4]; exact rfl, ?_⟩⟩
       ·simp [c1, c2, c3, c4, firstE, whenE] at he
       ·simp [c1, c2, c3, c4, firstE, whenE]
      ·refine ⟨fun he => ⟨_, by simp -implicitDefEqProofs [loopS_eq, c30L0, hi, hA, hAl, hlt, hdr, kw, k2, firstE, whenE, c1, c2, c3, c4, hw]; exact rfl, ?_⟩, fun he => ?_⟩
       ·exact loopS_same (by simp) (by simp)
       ·simp [c1, c2, c3, c4, firstE, whenE] at he) (by simp -implicitDefEqProofs [inv, loopS_eq, c30L0]) (by simp) (fuel := loopFuel) (by simp [loopFuel]; omega)
 rcases key with ⟨k1, k2⟩ | ⟨j, st, hj, k1, k2, k3, k4, _⟩
 ·exact .inl ⟨k1, k2⟩
 ·refine .inr ⟨st, k1, ?_, ?_⟩
  ·rw [k2, ← k3]; rfl
  ·intro e; exact k4 (by rw [← k3]; exact e)
end Fw
end

section
set_option maxHeartbeats 16000000
namespace Fw
open Go

def V42 (l : List Int) (g : List (Int × Int)) (k : Nat) : St := ⟨[(0, isl l), (1, csl g), (12, .sl 0 (mvF l g k).length 0 (mvF l g k).length), (13, .ptr (k + 1) 0 0)], [(k + 1, .arr [.int .i64 ((k : Int) + 1)] 0 1), (0, .arr (pI (mvF l g k)) (mvF l g k).length 1)]⟩
theorem round30 {d : Nat} (l : List Int) (hl : l.length < 1000000) (g : List (Int × Int)) (hg : g.length < 1000000) (k : Nat) (hk1 : k + 1 < l.length) :
  ∃ st1, loopS (evFn F C0 G0 (d + 3)) C0 G0 0 true [0, 1, 12, 13] c30L1 (V42 l g k) = .ret (.normal, st1) ∧ loopS (evFn F C0 G0 (d + 3)) C0 G0 0 true [0, 1, 12, 13] c30L1 st1 = loopS (evFn F C0 G0 (d + 3)) C0 G0 0 true [0, 1, 12, 13] c30L1 (V42 l g (k + 1)) := by
 have hPl : ∀ a : List Int, (pI a).length = a.length := fun a => by simp [pI]
 have hk0 : k < l.length := by omega
 have hml := mvF_len l g k
 have hlim : (mvF l g k).length + 1 ≤ lim := by simp only [lim]; omega
 have w1 := wrap64 (n := (k : Int) + 1 - 1) (by omega) (by omega)
 have w2 := wrap64 (n := (k : Int) + 1 + 1) (by omega) (by omega)
 have hs : (k : Int) + 1 - 1 = k := by omega
 rw [hs] at w1
 have hlt : (k : Int) + 1 < l.length := by omega
 have hn1 : ((k : Int) + 1).toNat = k + 1 := by omega
 have h0i : 0 ≤ (k : Int) + 1 := by omega
 have hd0 : (pI l).drop k = .int .i64 l[k] :: (pI l).drop (k + 1) := by
  rw [List.drop_eq_getElem_cons (by rw [hPl]; exact hk0)]; simp [pI]
 have hd1 : (pI l).drop (k + 1) = .int .i64 l[k + 1] :: (pI l).drop (k + 2) := by
  rw [List.drop_eq_getElem_cons (by rw [hPl]; exact hk1)]; simp [pI]
 have hg0 : l.getD k 0 = l[k] := by simp [List.getD_eq_getElem?_getD, hk0]
 have hg1 : l.getD (k + 1) 0 = l[k + 1] := by simp [List.getD_eq_getElem?_getD, hk1]
 have kc := contains84 (n := d + 3) (by omega) g hg ((k : Int) + 1)
 have hPs : pI (mvF l g k ++ [(k : Int) + 1]) = pI (mvF l g k) ++ [.int .i64 ((k : Int) + 1)] := by simp [pI]
 have hPk := hPl (mvF l g k)
 have hPl := hPl l
 have hcast : (((k + 1 : Nat)) : Int) = (k : Int) + 1 := by omega
 simp only [V42, mvF, hg0, hg1, isl, csl, hcast] at *
 generalize hA : pI l = A at *
 generalize A.drop (k + 2) = R2 at *
 generalize cI g = G at *
 generalize hf : freF g ((k : Int) + 1) g.length = f at *
 rw [hd1] at hd0
 by_cases he : l[k + 1] = l[k]
 ·rw [if_neg (fun c => c.1 he)]
  generalize l[k] = x at *
  generalize l[k + 1] = y at *
  subst he
  generalize pI (mvF l g k) = Q at *
  generalize (mvF l g k).length = z at *
  refine ⟨?_, ?h1, ?h2⟩
  case h1 =>
   simp -implicitDefEqProofs [loopS_eq, c30L1, hk0, hk1, hlt, hn1, h0i, hPl, hd0, hd1, hs, w1, w2]
   exact rfl
  case h2 => exact loopS_same (by simp) (by simp)
 ·have heb : (l[k + 1] == l[k]) = false := by simpa using he
  generalize l[k] = x at *
  generalize l[k + 1] = y at *
  have heb2 : (y != x) = true := by simpa using he
  cases f with
  | true =>
   rw [if_neg (fun c => by cases c.2)]
   generalize pI (mvF l g k) = Q at *
   generalize (mvF l g k).length = z at *
   refine ⟨?_, ?h1, ?h2⟩
   case h1 =>
    simp -implicitDefEqProofs [loopS_eq, c30L1, hk0, hk1, hlt, hn1, h0i, hPl, hd0, hd1, hs, w1, w2, heb2, kc]
    exact rfl
   case h2 => exact loopS_same (by simp) (by simp)
  | false =>
   rw [if_pos ⟨he, rfl⟩]
   simp only [hPs, List.length_append, List.length_cons, List.length_nil, Nat.zero_add]
   generalize pI (mvF l g k) = Q at *
   generalize (mvF l g k).length = z at *
   refine ⟨?_, ?h1, ?h2⟩
   case h1 =>
    simp -implicitDefEqProofs [loopS_eq, c30L1, hk0, hk1, hlt, hn1, h0i, hPl, hd0, hd1, hs, w1, w2, heb2, kc, hlim, hPk]
    exact rfl
   case h2 => exact loopS_same (by simp) (by simp)
end Fw
end

section
set_option maxHeartbeats 16000000
namespace Fw
open Go

theorem vloop30 {d : Nat} (l : List Int) (hl : l.length < 1000000) (g : List (Int × Int)) (hg : g.length < 1000000) :
  loopN (loopS (evFn F C0 G0 (d + 3)) C0 G0 0 true [0, 1, 12, 13] c30L1) loopFuel ⟨[(0, isl l), (1, csl g), (12, .sl 0 0 0 0), (13, .ptr 1 0 0)], [(1, .arr [.int .i64 1] 0 1), (0, .arr [] 0 1)]⟩ = .ret (.exit 2, ⟨(V42 l g (l.length - 1)).env ++ [(70, .p (.bool false))], (V42 l g (l.length - 1)).sto⟩) := by
 rw [loop_run' (V42 l g) (l.length - 1) (e := .exit 2) (st' := ⟨(V42 l g (l.length - 1)).env ++ [(70, .p (.bool false))], (V42 l g (l.length - 1)).sto⟩) (by simp)]
 ·rfl
 ·intro k hk
  exact round30 l hl g hg k (by omega)
 ·have hnl : ¬ (((l.length - 1 : Nat) : Int) + 1 < l.length) := by omega
  simp -implicitDefEqProofs [loopS_eq, c30L1, V42, hnl]
 ·simp [loopFuel]; omega
def movE (l : List Int) (g : List (Int × Int)) : Int := firstE [traE l, spnE g]
def movO (l : List Int) (g : List (Int × Int)) : List Int := if movE l g = 0 then mvF l g (l.length - 1) else []
theorem moved30 {n : Nat} (hn : 5 ≤ n) (l : List Int) (hl : l.length < 1000000) (g : List (Int × Int)) (hg : g.length < 1000000) :
  ∃ a, RUN n 30 [isl l, csl g] = .ret (.tup [a, iv (movE l g)]) ∧ disown a = isl (movO l g) := by
 obtain ⟨d, rfl⟩ : ∃ d, n = d + 5 := ⟨n - 5, by omega⟩
 rw [RUN, call_eq fe30 _ rfl]
 have km := map82t (n := d + 4) (by omega) l hl
 have kf := first56 (n := d + 4) (by omega) (l.map (rangeE (-100000) 100000)) (by simpa using hl)
 have kw := fun b e => when81 (n := d + 4) (by omega) b e
 have k3 := fun a b c => first56_3 (n := d + 4) (by omega) a b c
 have ks := spans30 (d := d + 1) l g hg
 have kv := vloop30 (d := d + 1) l hl g hg
 have hA1 : decide ((1024 : Int) < l.length) = decide (1024 < l.length) := by
  by_cases h : 1024 < l.length
  ·have : (1024 : Int) < l.length := by omega
   simp [h, this]
  ·have : ¬ (1024 : Int) < l.length := by omega
   simp [h, this]
 have hB1 : decide ((32 : Int) < g.length) = decide (32 < g.length) := by
  by_cases h : 32 < g.length
  ·have : (32 : Int) < g.length := by omega
   simp [h, this]
  ·have : ¬ (32 : Int) < g.length := by omega
   simp [h, this]
 have hE : movE l g = if firstE [whenE (decide (1024 < l.length)) 5, firstE (l.map (rangeE (-100000) 100000)), whenE (decide (32 < g.length)) 5] = 0 then firstE (spnL g) else firstE [whenE (decide (1024 < l.length)) 5, firstE (l.map (rangeE (-100000) 100000)), whenE (decide (32 < g.length)) 5] := by
  unfold movE traE spnE
  by_cases hA : 1024 < l.length
  ·simp [hA, firstE, whenE]
  ·by_cases hr : firstE (l.map (rangeE (-100000) 100000)) = 0
   ·by_cases hB : 32 < g.length
    ·simp [hA, hr, hB, firstE, whenE]
    ·simp [hA, hr, hB, firstE, whenE]
     exact fun h => h.symm
   ·simp [hA, hr, firstE, whenE]
 have hlm : (l.map (rangeE (-100000) 100000)).length = l.length := by simp
 rw [hlm] at kf
 have hM := pI (mvF l g (l.length - 1))
 have hMl : (pI (mvF l g (l.length - 1))).length = (mvF l g (l.length - 1)).length := by simp [pI]
 unfold movO
 generalize hF : firstE [whenE (decide (1024 < l.length)) 5, firstE (l.map (rangeE (-100000) 100000)), whenE (decide (32 < g.length)) 5] = f at *
 by_cases hf : f = 0
 ·subst hf
  rw [if_pos rfl] at hE
  rw [hE]
  rcases ks with ⟨ks, hs⟩ | ⟨⟨env, sto⟩, ks, hs1, hs2⟩
  ·rw [if_pos hs, hs]
   refine ⟨.own (pI (mvF l g (l.length - 1))) (mvF l g (l.length - 1)).length 1, ?_, rfl⟩
   simp only [V42, isl, csl] at *
   generalize pI (mvF l g (l.length - 1)) = Q at *
   generalize (mvF l g (l.length - 1)).length = z at *
   generalize firstE (l.map (rangeE (-100000) 100000)) = fr at *
   generalize pI (l.map (rangeE (-100000) 100000)) = PR at *
   generalize pI l = A at *
   generalize cI g = G at *
   simp -implicitDefEqProofs [c30, km, kf, kw, k3, hA1, hB1, hF]
   rw [ks]
   simp -implicitDefEqProofs []
   rw [kv]
   simp -implicitDefEqProofs [hMl]
  ·simp only at hs1
   subst hs1
   rw [if_neg hs2]
   refine ⟨.p (.sl [] 0), ?_, rfl⟩
   generalize firstE (spnL g) = fs at *
   simp only [isl, csl] at *
   generalize firstE (l.map (rangeE (-100000) 100000)) = fr at *
   generalize pI (l.map (rangeE (-100000) 100000)) = PR at *
   generalize pI l = A at *
   generalize cI g = G at *
   simp -implicitDefEqProofs [c30, km, kf, kw, k3, hA1, hB1, hF]
   rw [ks]
   simp -implicitDefEqProofs []
 ·rw [if_neg hf] at hE
  rw [hE, if_neg hf]
  refine ⟨.p (.sl [] 0), ?_, rfl⟩
  simp only [isl, csl] at *
  generalize firstE (l.map (rangeE (-100000) 100000)) = fr at *
  generalize pI (l.map (rangeE (-100000) 100000)) = PR at *
  generalize pI l = A at *
  generalize cI g = G at *
  simp -implicitDefEqProofs [c30, km, kf, kw, k3, hA1, hB1, hF, hf]
end Fw
end

