/- Several texts in one: steps of the proof, no condition of their own. -/
import Derived.Test.YtdjkleaojdeepaaGreatDoorGaRB
import Derived.Test.YtdjkleaojdeepaaGreatDoorGaRun
attribute [local irreducible] Fw.evCode Fw.evOps Fw.evOpsD Fw.evOper Fw.evOperD Fw.evOp Fw.evFn Fw.loopN Fw.T.All Fw.T.bind Fw.callPure Fw.callOp Fw.opsK Fw.opsDK Fw.restK Fw.seqK Fw.blockK Fw.loopS Fw.setK Fw.setQ Fw.giveK Fw.scalK Fw.gcK Fw.finish Fw.finS Fw.rfunK Fw.yldK Fw.yldB Fw.loopK
section
set_option maxHeartbeats 16000000
namespace Fw
open Go

def shF (l : List ActI) : Nat → List Int
 | 0 => []
 | i + 1 => if (l.getD i zA).kind = kShoot then shF l i ++ [(l.getD i zA).tick] else shF l i
theorem shF_len (l : List ActI) : ∀ i, (shF l i).length ≤ i := by
 intro i
 induction i with
 | zero => simp [shF]
 | succ i ih =>
  simp only [shF]
  split
  ·simp only [List.length_append, List.length_cons, List.length_nil]; omega
  ·omega
def touchF (acc : List (Int × Int)) (a b : Int) : List (Int × Int) :=
 if b ≤ a then acc else if acc ≠ [] ∧ (acc.getLastD (0, 0)).2 = a then acc.dropLast ++ [((acc.getLastD (0, 0)).1, b)] else acc ++ [(a, b)]
def spanF (P : StaI → Bool) (l : List StaI) : Nat → List (Int × Int)
 | 0 => []
 | i + 1 => if P (l.getD i zS) = true ∧ i + 1 < l.length then touchF (spanF P l i) (l.getD i zS).tick (l.getD (i + 1) zS).tick else spanF P l i
theorem touchF_len (acc : List (Int × Int)) (a b : Int) : (touchF acc a b).length ≤ acc.length + 1 := by
 unfold touchF
 split
 ·omega
 ·split
  ·simp only [List.length_append, List.length_dropLast, List.length_cons, List.length_nil]; omega
  ·simp
theorem spanF_len (P : StaI → Bool) (l : List StaI) : ∀ i, (spanF P l i).length ≤ i := by
 intro i
 induction i with
 | zero => simp [spanF]
 | succ i ih =>
  simp only [spanF]
  split
  ·have := touchF_len (spanF P l i) (l.getD i zS).tick (l.getD (i + 1) zS).tick; omega
  ·omega
theorem getS {l : List StaI} {i : Nat} (hi : i < l.length) : l.getD i zS = l[i] := by simp [List.getD_eq_getElem?_getD, hi]
theorem cI_snoc (acc : List (Int × Int)) (p q : Int) : cI (acc ++ [(p, q)]) = cI acc ++ [.int .i64 p, .int .i64 q] := by rw [cI_append]; rfl
theorem cI_len2 (l : List (Int × Int)) : (cI l).length = l.length * 2 := by
 induction l with
 | nil => rfl
 | cons x r ih => simp only [cI, List.length_cons, ih]; omega
theorem setC_last (A : List PVal) (n : Nat) (hA : A.length = n * 2) (p q b : Int) : (A ++ [PVal.int .i64 p, .int .i64 q]).set (n * 2 + 1) (.int .i64 b) = A ++ [.int .i64 p, .int .i64 b] := by
 rw [List.set_append_right _ _ (by omega), hA, show n * 2 + 1 - n * 2 = 1 from by omega]
 rfl

theorem admitted31 {n : Nat} (hn : 10 ≤ n) (h : HallI) (q0 : h.t0.length < 1000000) (q1 : h.t1.length < 1000000) (q2 : h.t2.length < 1000000) (l : List ActI) (hl : l.length < 50000) : RUN n 31 [ha h, asl l] = .ret (.tup [iv (if chkE h l = 0 then (lastS (runH h l).1).adm else 0), iv (chkE h l)]) := by
 obtain ⟨d, rfl⟩ : ∃ d, n = d + 10 := ⟨n - 10, by omega⟩
 rw [RUN, call_eq fe31 _ rfl]
 have k88 := followed88 (n := d + 9) (by omega) h q0 q1 q2 l hl
 have k89 := last89 (n := d + 9) (by omega) (runH h l).1 (by have := runH_lt h hl; omega)
 unfold folR at k88
 unfold chkE
 by_cases h0 : actsE h l = 0
 ·rw [if_neg (by simp [h0])] at k88
  simp only [h0, ne_eq, not_true_eq_false, if_false]
  generalize lastS (runH h l).1 = s at *
  simp only [stl] at k89
  generalize rowC sc (runH h l).1 = B at *
  generalize (runH h l).1.length = y at *
  simp only [ha, csl, asl] at *
  generalize cI h.t0 = A0 at *
  generalize cI h.t1 = A1 at *
  generalize cI h.t2 = A2 at *
  generalize rowC ac l = A at *
  cases hw : (runH h l).2
  ·simp only [hw, Bool.false_eq_true, if_false] at k88 ⊢
   simp -implicitDefEqProofs [c31, k88]
  ·simp only [hw, if_true] at k88 ⊢
   obtain ⟨st, o0, o1, o2, o3, o4, o5, o6, o7, k0, k1, pp, ar, sh, ad⟩ := s
   simp -implicitDefEqProofs [c31, k88, k89]
 ·rw [if_pos h0] at k88
  simp only [h0, ne_eq, not_false_eq_true, if_true, if_false]
  generalize actsE h l = e at *
  simp only [ha, csl, asl] at *
  generalize cI h.t0 = A0 at *
  generalize cI h.t1 = A1 at *
  generalize cI h.t2 = A2 at *
  generalize rowC ac l = A at *
  simp -implicitDefEqProofs [c31, k88, h0]
theorem shots32 {n : Nat} (hn : 10 ≤ n) (h : HallI) (q0 : h.t0.length < 1000000) (q1 : h.t1.length < 1000000) (q2 : h.t2.length < 1000000) (l : List ActI) (hl : l.length < 50000) (hz : chkE h l = 0 → ∀ x ∈ l, x.kind = kShoot → x.num = 0 ∧ x.a = 0 ∧ x.b = 0 ∧ x.c = 0) :
  ∃ a, RUN n 32 [ha h, asl l] = .ret (.tup [a, iv (chkE h l)]) ∧ disown a = isl (if chkE h l = 0 then shF l l.length else []) := by
 obtain ⟨d, rfl⟩ : ∃ d, n = d + 10 := ⟨n - 10, by omega⟩
 rw [RUN, call_eq fe32 _ rfl]
 have k88 := followed88 (n := d + 9) (by omega) h q0 q1 q2 l hl
 unfold folR at k88
 by_cases h0 : actsE h l = 0
 ·rw [if_neg (by simp [h0])] at k88
  cases hw : (runH h l).2
  ·have e1 : chkE h l = 21 := by simp [chkE, h0, hw]
   refine ⟨nilS, ?_, by rw [e1]; rfl⟩
   rw [e1]
   simp only [hw, Bool.false_eq_true, if_false] at k88
   generalize (runH h l).1.length = y at *
   simp only [ha, csl, asl] at *
   generalize cI h.t0 = A0 at *
   generalize cI h.t1 = A1 at *
   generalize cI h.t2 = A2 at *
   generalize rowC ac l = A at *
   simp -implicitDefEqProofs [c32, k88]
  ·have e1 : chkE h l = 0 := by simp [chkE, h0, hw]
   have hz := hz e1
   refine ⟨.own (pI (shF l l.length)) (shF l l.length).length 1, ?_, by rw [e1]; rfl⟩
   rw [e1]
   simp only [hw, if_true] at k88
   generalize rowC sc (runH h l).1 = B at *
   generalize (runH h l).1.length = y at *
   let inv : Nat → St := fun i => ⟨[(9, .sl 1 (shF l i).length 0 (shF l i).length), (22, asl l), (23, iv l.length), (24, iv i)], [(1, .arr (pI (shF l i)) (shF l i).length 1)]⟩
   have hR := aR_len l
   have hloop : loopN (loopS (evFn F C0 G0 (d + 9)) C0 G0 0 true [9, 22, 23, 24] c32L0) loopFuel ⟨[(9, .sl 1 0 0 0), (22, asl l), (23, iv l.length), (24, iv 0)], [(1, .arr [] 0 1), (0, .box [iv h.doors, iv h.base, csl h.t0, csl h.t1, csl h.t2])]⟩ = .ret (.exit 0, ⟨(inv l.length).env ++ [(25, .p (.bool false))], (inv l.length).sto⟩) := by
    rw [loop_run' inv l.length (e := .exit 0) (st' := ⟨(inv l.length).env ++ [(25, .p (.bool false))], (inv l.length).sto⟩) (by simp)]
    ·exact loopS_same rfl (by simp [inv, shF])
    ·intro i hi
     have hsl := shF_len l i
     have hlim : (shF l i).length + 1 ≤ lim := by simp only [lim]; omega
     have wi := wrap_succ (i := i) (by omega)
     have hlt : i * 6 < l.length * 6 := by omega
     have hlt6 : i * 6 + 6 ≤ l.length * 6 := by omega
     have hdr := rowC_drop ac_len l i hi
     have hz := hz l[i] (List.getElem_mem hi)
     have hPl : (pI (shF l i)).length = (shF l i).length := by simp [pI]
     have hPs : ∀ v, pI (shF l i ++ [v]) = pI (shF l i) ++ [.int .i64 v] := fun v => by simp [pI]
     simp only [inv, shF, getA hi]
     generalize hA : rowC ac l = A at *
     generalize rowC ac (l.drop (i + 1)) = R2 at *
     generalize l[i] = x at *
     obtain ⟨t, k, m, a, b, c⟩ := x
     by_cases hk : k = kShoot
     ·obtain ⟨z1, z2, z3, z4⟩ := hz hk
      simp only at z1 z2 z3 z4 hk
      subst z1 z2 z3 z4 hk
      simp only [if_true, hPs, List.length_append, List.length_cons, List.length_nil, Nat.zero_add]
      generalize pI (shF l i) = Q at *
      generalize (shF l i).length = z at *
      refine ⟨?_, ?h1, ?h2⟩
      case h1 =>
       simp -implicitDefEqProofs [loopS_eq, c32L0, hi, hA, hR, hlt, hdr, ac, hlim, hPl, wi]
       exact rfl
      case h2 => exact loopS_same (by simp) (by simp)
     ·have hb : (k == kShoot) = false := by simpa using hk
      simp only [hk, if_false]
      generalize pI (shF l i) = Q at *
      generalize (shF l i).length = z at *
      refine ⟨?_, ?h1, ?h2⟩
      case h1 =>
       simp -implicitDefEqProofs [loopS_eq, c32L0, hi, hA, hR, hlt, hdr, ac, wi, hb]
       exact rfl
      case h2 => exact loopS_same (by simp) (by simp)
    ·simp -implicitDefEqProofs [inv, loopS_eq, c32L0]
    ·simp [loopFuel]; omega
   have hPl : (pI (shF l l.length)).length = (shF l l.length).length := by simp [pI]
   simp only [inv, ha, csl, asl] at *
   generalize pI (shF l l.length) = Q at *
   generalize (shF l l.length).length = z at *
   generalize cI h.t0 = A0 at *
   generalize cI h.t1 = A1 at *
   generalize cI h.t2 = A2 at *
   generalize rowC ac l = A at *
   simp -implicitDefEqProofs [c32, k88]
   rw [hloop]
   simp -implicitDefEqProofs [hPl]
 ·have e1 : chkE h l = actsE h l := by simp [chkE, h0]
  rw [if_pos h0] at k88
  refine ⟨nilS, ?_, by rw [e1, if_neg h0]; rfl⟩
  rw [e1]
  generalize actsE h l = e at *
  simp only [ha, csl, asl] at *
  generalize cI h.t0 = A0 at *
  generalize cI h.t1 = A1 at *
  generalize cI h.t2 = A2 at *
  generalize rowC ac l = A at *
  simp -implicitDefEqProofs [c32, k88, h0]
end Fw
end

section
set_option maxHeartbeats 16000000
namespace Fw
open Go

def Q99 (f : Nat) (l : List StaI) (acc : List (Int × Int)) (i : Nat) : St := ⟨[(2, .p (.clo f [] [])), (8, stl l), (11, .sl 1 acc.length 0 acc.length), (25, stl l), (26, iv l.length), (27, iv i)], [(1, .arr (cI acc) acc.length 2)]⟩

theorem round99 {d : Nat} (f : Nat) (P : StaI → Bool) (hP : ∀ s, RUN d f [sa s] = .ret (bl (P s))) (l : List StaI) (hl : l.length < 50000) (acc : List (Int × Int)) (ho : acc.length < 100000) (i : Nat) (hi : i < l.length) (hasc : i + 1 < l.length → (l.getD i zS).tick ≤ (l.getD (i + 1) zS).tick) :
  ∃ st1, loopS (evFn F C0 G0 d) C0 G0 0 true [2, 8, 11, 25, 26, 27] c99L0 (Q99 f l acc i) = .ret (.normal, st1) ∧
   loopS (evFn F C0 G0 d) C0 G0 0 true [2, 8, 11, 25, 26, 27] c99L0 st1 = loopS (evFn F C0 G0 d) C0 G0 0 true [2, 8, 11, 25, 26, 27] c99L0 (Q99 f l (if P (l.getD i zS) = true ∧ i + 1 < l.length then touchF acc (l.getD i zS).tick (l.getD (i + 1) zS).tick else acc) (i + 1)) := by
 have kP := hP l[i]
 have hR := sR_len l
 have hlt : i * 15 < l.length * 15 := by omega
 have hlt6 : i * 15 + 15 ≤ l.length * 15 := by omega
 have wi := wrap_succ (i := i) (by omega)
 have hdr := rowC_drop sc_len l i hi
 rw [getS hi]
 by_cases hp : P l[i] = true
 ·rw [hp] at kP
  by_cases h1 : i + 1 < l.length
  ·have hasc := hasc h1
   rw [if_pos ⟨hp, h1⟩]
   rw [getS hi, getS h1] at hasc
   rw [getS h1]
   have hdr2 := rowC_drop sc_len l (i + 1) h1
   have hltb : (i + 1) * 15 < l.length * 15 := by omega
   have h1i : ((i : Int) + 1) < l.length := by omega
   have hne : (((i : Int) + 1) == (l.length : Int)) = false := by simp; omega
   have hne2 : ¬ ((i : Int) + 1) = (l.length : Int) := by omega
   have hn1 : ((i : Int) + 1).toNat = i + 1 := by omega
   have h0i : 0 ≤ (i : Int) + 1 := by omega
   simp only [Q99, stl]
   generalize hA : rowC sc l = A at *
   generalize rowC sc (l.drop (i + 1)) = R2 at *
   generalize rowC sc (l.drop (i + 1 + 1)) = R3 at *
   generalize l[i] = x at *
   generalize l[i + 1] = y at *
   obtain ⟨st, o0, o1, o2, o3, o4, o5, o6, o7, k0, k1, pp, ar, sh, ad⟩ := x
   obtain ⟨st', o0', o1', o2', o3', o4', o5', o6', o7', k0', k1', pp', ar', sh', ad'⟩ := y
   simp only at hasc kP hdr hdr2 ⊢
   by_cases he : st = st'
   ·subst he
    have ht : touchF acc st st = acc := by simp [touchF]
    rw [ht]
    generalize cI acc = C at *
    generalize acc.length = n at *
    refine ⟨?_, ?h1, ?h2⟩
    case h1 =>
     simp -implicitDefEqProofs [loopS_eq, c99L0, hi, hR, hlt, hdr, hdr2, hltb, h1i, hne, hn1, h0i, sc, kP, wi]
     exact rfl
    case h2 => exact loopS_same (by simp) (by simp)
   ·have heb : (st == st') = false := by simpa using he
    have hlts : ¬ st' ≤ st := by omega
    rcases List.eq_nil_or_concat acc with e | ⟨pre, ⟨p, q⟩, e⟩
    ·subst e
     have ht : touchF [] st st' = [(st, st')] := by simp [touchF, hlts]
     rw [ht]
     have hl1 : 1 ≤ lim := by decide
     simp only [cI, List.length_nil, List.length_cons, Nat.zero_add]
     refine ⟨?_, ?h1, ?h2⟩
     case h1 =>
      simp -implicitDefEqProofs [loopS_eq, c99L0, hi, hR, hlt, hdr, hdr2, hltb, h1i, hne, hn1, h0i, sc, kP, wi, heb, hl1]
      exact rfl
     case h2 => exact loopS_same (by simp) (by simp)
    ·rw [List.concat_eq_append] at e
     subst e
     have hcl := cI_len2 pre
     have hpl : ((pre ++ [(p, q)]).length : Int) - 1 = pre.length := by simp
     have hln : (pre ++ [(p, q)]).length = pre.length + 1 := by simp
     have hw1 : IntKind.i64.wrap (pre.length : Int) = pre.length := wrap64 (by omega) (by simp at ho; omega)
     have hsn := cI_snoc pre p q
     have hdrp : (cI pre ++ [PVal.int .i64 p, .int .i64 q]).drop (pre.length * 2) = [.int .i64 p, .int .i64 q] := by rw [← hcl]; simp
     have hgl : (pre ++ [(p, q)]).getLastD (0, 0) = (p, q) := by simp
     have hgq : (cI pre ++ [PVal.int .i64 p, .int .i64 q])[pre.length * 2 + 1]? = some (.int .i64 q) := by rw [← hcl]; simp
     have hpos : (0 : Int) < (pre.length : Int) + 1 := by omega
     have hlim : pre.length + 1 + 1 ≤ lim := by simp only [lim]; simp at ho; omega
     have hsz : (cI pre ++ [PVal.int .i64 p, .int .i64 q]).length = (pre.length + 1) * 2 := by simp [hcl]; omega
     by_cases hq : q = st
     ·subst hq
      have ht : touchF (pre ++ [(p, q)]) q st' = pre ++ [(p, st')] := by simp [touchF, hlts]
      rw [ht]
      have hln2 : (pre ++ [(p, st')]).length = pre.length + 1 := by simp
      have hsn2 := cI_snoc pre p st'
      have hset := setC_last (cI pre) pre.length hcl p q st'
      simp only [hln, hln2, hsn, hsn2]
      generalize hC : cI pre ++ [PVal.int .i64 p, .int .i64 q] = C at *
      generalize cI pre ++ [PVal.int .i64 p, .int .i64 st'] = C' at *
      generalize pre.length = n at *
      have hnn : (n : Int) < n + 1 := by omega
      have hst : n * 2 + 1 + 1 ≤ (n + 1) * 2 := by omega
      refine ⟨?_, ?h1, ?h2⟩
      case h1 =>
       simp -implicitDefEqProofs [loopS_eq, c99L0, hi, hR, hlt, hdr, hdr2, hltb, h1i, hne, hn1, h0i, sc, kP, wi, heb, hw1, hgq, hpos, hsz, hset, hnn, hst]
       exact rfl
      case h2 => exact loopS_same (by simp) (by simp [])
     ·have hqb : (q == st) = false := by simpa using hq
      have ht : touchF (pre ++ [(p, q)]) st st' = pre ++ [(p, q)] ++ [(st, st')] := by simp [touchF, hlts, hq]
      rw [ht]
      have hln2 : (pre ++ [(p, q)] ++ [(st, st')]).length = pre.length + 1 + 1 := by simp
      have hsn2 := cI_snoc (pre ++ [(p, q)]) st st'
      simp only [hln, hln2, hsn, hsn2]
      generalize hC : cI pre ++ [PVal.int .i64 p, .int .i64 q] = C at *
      generalize pre.length = n at *
      have hnn : (n : Int) < n + 1 := by omega
      have hst : n * 2 + 1 + 1 ≤ (n + 1) * 2 := by omega
      refine ⟨?_, ?h1, ?h2⟩
      case h1 =>
       simp -implicitDefEqProofs [loopS_eq, c99L0, hi, hR, hlt, hdr, hdr2, hltb, h1i, hne, hn1, h0i, sc, kP, wi, heb, hw1, hgq, hpos, hsz, hqb, hlim, hnn]
       exact rfl
      case h2 => exact loopS_same (by simp) (by simp)
  ·rw [if_neg (fun c => h1 c.2)]
   have hee : (i : Int) + 1 = l.length := by omega
   have wl : IntKind.i64.wrap (l.length : Int) = l.length := wrap64 (by omega) (by omega)
   simp only [Q99, stl]
   generalize hA : rowC sc l = A at *
   generalize rowC sc (l.drop (i + 1)) = R2 at *
   generalize l[i] = x at *
   obtain ⟨st, o0, o1, o2, o3, o4, o5, o6, o7, k0, k1, pp, ar, sh, ad⟩ := x
   generalize cI acc = C at *
   generalize acc.length = n at *
   refine ⟨?_, ?h1, ?h2⟩
   case h1 =>
    simp -implicitDefEqProofs [loopS_eq, c99L0, hi, hR, hlt, hdr, sc, kP, wl, hee]
    exact rfl
   case h2 => exact loopS_same (by simp; omega) (by simp)
 ·rw [if_neg (fun c => hp c.1)]
  have hp : P l[i] = false := by simpa using hp
  rw [hp] at kP
  simp only [Q99, stl]
  generalize hA : rowC sc l = A at *
  generalize rowC sc (l.drop (i + 1)) = R2 at *
  generalize l[i] = x at *
  obtain ⟨st, o0, o1, o2, o3, o4, o5, o6, o7, k0, k1, pp, ar, sh, ad⟩ := x
  generalize cI acc = C at *
  generalize acc.length = n at *
  refine ⟨?_, ?h1, ?h2⟩
  case h1 =>
   simp -implicitDefEqProofs [loopS_eq, c99L0, hi, hR, hlt, hdr, sc, kP, wi]
   exact rfl
  case h2 => exact loopS_same (by simp) (by simp)
theorem dloop99 {d : Nat} (f : Nat) (P : StaI → Bool) (hP : ∀ s, RUN d f [sa s] = .ret (bl (P s))) (l : List StaI) (hl : l.length < 50000) (hasc : ∀ i, i + 1 < l.length → (l.getD i zS).tick ≤ (l.getD (i + 1) zS).tick) {st0 : St}
  (h0 : loopS (evFn F C0 G0 d) C0 G0 0 true [2, 8, 11, 25, 26, 27] c99L0 st0 = loopS (evFn F C0 G0 d) C0 G0 0 true [2, 8, 11, 25, 26, 27] c99L0 (Q99 f l [] 0)) :
  loopN (loopS (evFn F C0 G0 d) C0 G0 0 true [2, 8, 11, 25, 26, 27] c99L0) loopFuel st0 = .ret (.exit 0, ⟨(Q99 f l (spanF P l l.length) l.length).env ++ [(28, .p (.bool false))], (Q99 f l (spanF P l l.length) l.length).sto⟩) := by
 rw [loop_run' (fun i => Q99 f l (spanF P l i) i) l.length (e := .exit 0) (st' := ⟨(Q99 f l (spanF P l l.length) l.length).env ++ [(28, .p (.bool false))], (Q99 f l (spanF P l l.length) l.length).sto⟩) (by simp)]
 ·exact h0
 ·intro i hi
  have hsl := spanF_len P l i
  exact round99 f P hP l hl (spanF P l i) (by omega) i hi (hasc i)
 ·simp -implicitDefEqProofs [loopS_eq, c99L0, Q99]
 ·simp [loopFuel]; omega
theorem setO_tick (s : StaI) (n : Int) (b : Bool) : (setO s n b).tick = s.tick := by
 unfold setO
 repeat' split
 all_goals rfl
theorem setY_tick (s : StaI) (n : Int) (b : Bool) : (setY s n b).tick = s.tick := by
 unfold setY
 split <;> rfl
theorem runG_asc (base : Int) (W : ActI → Int) : ∀ (l : List ActI) (s : StaI), (∀ i, i + 1 < (runG base W s l).1.length → ((runG base W s l).1.getD i zS).tick ≤ ((runG base W s l).1.getD (i + 1) zS).tick) ∧ (0 < (runG base W s l).1.length → s.tick ≤ ((runG base W s l).1.getD 0 zS).tick) := by
 intro l
 induction l with
 | nil => intro s; simp [runG]
 | cons x r ih =>
  intro s
  by_cases hr : (reaL s x).length = 0
  ·have ht := (reaL_nil.1 hr).1
   have hta : (aftS base (W x) s x).tick = x.tick := by
    unfold aftS
    repeat' split
    all_goals first | rfl | exact setO_tick _ _ _ | exact setY_tick _ _ _
   obtain ⟨i1, i2⟩ := ih (aftS base (W x) s x)
   simp only [runG, hr, if_true, List.length_cons]
   refine ⟨fun i hi => ?_, fun _ => ?_⟩
   ·cases i with
    | zero => simpa using i2 (by omega)
    | succ i => simpa using i1 i (by omega)
   ·simp only [List.getD_cons_zero, hta]; exact ht
  ·simp [runG, hr]
theorem runH_asc (h : HallI) (l : List ActI) : ∀ i, i + 1 < (runH h l).1.length → ((runH h l).1.getD i zS).tick ≤ ((runH h l).1.getD (i + 1) zS).tick := (runG_asc h.base (wP h) l bgS).1
theorem during99 {n : Nat} (hn : 10 ≤ n) (f : Nat) (P : StaI → Bool) (hP : ∀ d s, RUN (d + 1) f [sa s] = .ret (bl (P s))) (h : HallI) (q0 : h.t0.length < 1000000) (q1 : h.t1.length < 1000000) (q2 : h.t2.length < 1000000) (l : List ActI) (hl : l.length < 50000) :
  ∃ a, RUN n 99 [ha h, asl l, .p (.clo f [] [])] = .ret (.tup [a, iv (chkE h l)]) ∧ disown a = csl (if chkE h l = 0 then spanF P (runH h l).1 (runH h l).1.length else []) := by
 obtain ⟨d, rfl⟩ : ∃ d, n = d + 10 := ⟨n - 10, by omega⟩
 rw [RUN, call_eq fe99 _ rfl]
 have k88 := followed88 (n := d + 9) (by omega) h q0 q1 q2 l hl
 unfold folR at k88
 by_cases h0 : actsE h l = 0
 ·rw [if_neg (by simp [h0])] at k88
  cases hw : (runH h l).2
  ·have e1 : chkE h l = 21 := by simp [chkE, h0, hw]
   refine ⟨nilS, ?_, by rw [e1]; rfl⟩
   rw [e1]
   simp only [hw, Bool.false_eq_true, if_false] at k88
   generalize (runH h l).1.length = y at *
   simp only [ha, csl, asl] at *
   generalize cI h.t0 = A0 at *
   generalize cI h.t1 = A1 at *
   generalize cI h.t2 = A2 at *
   generalize rowC ac l = A at *
   simp -implicitDefEqProofs [c99, k88]
  ·have e1 : chkE h l = 0 := by simp [chkE, h0, hw]
   refine ⟨.own (cI (spanF P (runH h l).1 (runH h l).1.length)) (spanF P (runH h l).1 (runH h l).1.length).length 2, ?_, by rw [e1]; rfl⟩
   rw [e1]
   simp only [hw, if_true] at k88
   have key := dloop99 (d := d + 9) f P (fun s => hP (d + 8) s) (runH h l).1 (runH_lt h hl) (runH_asc h l) (st0 := ⟨[(2, .p (.clo f [] [])), (8, stl (runH h l).1), (11, .sl 1 0 0 0), (25, stl (runH h l).1), (26, iv (runH h l).1.length), (27, iv 0)], [(1, .arr [] 0 2), (0, .box [iv h.doors, iv h.base, csl h.t0, csl h.t1, csl h.t2])]⟩) (by exact loopS_same rfl (by simp [Q99, cI]))
   have hcl := cI_len2 (spanF P (runH h l).1 (runH h l).1.length)
   simp only [Q99, stl, ha, csl, asl] at *
   generalize cI (spanF P (runH h l).1 (runH h l).1.length) = C at *
   generalize (spanF P (runH h l).1 (runH h l).1.length).length = z at *
   generalize rowC sc (runH h l).1 = B at *
   generalize (runH h l).1.length = y at *
   generalize cI h.t0 = A0 at *
   generalize cI h.t1 = A1 at *
   generalize cI h.t2 = A2 at *
   generalize rowC ac l = A at *
   simp -implicitDefEqProofs [c99, k88]
   rw [key]
   simp -implicitDefEqProofs [hcl]
 ·have e1 : chkE h l = actsE h l := by simp [chkE, h0]
  rw [if_pos h0] at k88
  refine ⟨nilS, ?_, by rw [e1, if_neg h0]; rfl⟩
  rw [e1]
  generalize actsE h l = e at *
  simp only [ha, csl, asl] at *
  generalize cI h.t0 = A0 at *
  generalize cI h.t1 = A1 at *
  generalize cI h.t2 = A2 at *
  generalize rowC ac l = A at *
  simp -implicitDefEqProofs [c99, k88, h0]
theorem peo100 (d : Nat) (s : StaI) : RUN (d + 1) 100 [sa s] = .ret (bl (decide (0 < s.people))) := by
 rw [RUN, call_eq fe100 _ rfl]
 obtain ⟨st, o0, o1, o2, o3, o4, o5, o6, o7, k0, k1, pp, ar, sh, ad⟩ := s
 simp -implicitDefEqProofs [c100]
theorem arm101 (d : Nat) (s : StaI) : RUN (d + 1) 101 [sa s] = .ret (bl s.armed) := by
 rw [RUN, call_eq fe101 _ rfl]
 obtain ⟨st, o0, o1, o2, o3, o4, o5, o6, o7, k0, k1, pp, ar, sh, ad⟩ := s
 simp -implicitDefEqProofs [c101]
def peoP (s : StaI) : Bool := decide (0 < s.people)
def armP (s : StaI) : Bool := s.armed
theorem occupied33 {n : Nat} (hn : 11 ≤ n) (h : HallI) (q0 : h.t0.length < 1000000) (q1 : h.t1.length < 1000000) (q2 : h.t2.length < 1000000) (l : List ActI) (hl : l.length < 50000) :
  ∃ a, RUN n 33 [ha h, asl l] = .ret (.tup [a, iv (chkE h l)]) ∧ disown a = csl (if chkE h l = 0 then spanF peoP (runH h l).1 (runH h l).1.length else []) := by
 obtain ⟨d, rfl⟩ : ∃ d, n = d + 11 := ⟨n - 11, by omega⟩
 rw [RUN, call_eq fe33 _ rfl]
 obtain ⟨a, k, hd⟩ := during99 (n := d + 10) (by omega) 100 peoP (fun d s => peo100 d s) h q0 q1 q2 l hl
 refine ⟨csl (if chkE h l = 0 then spanF peoP (runH h l).1 (runH h l).1.length else []), ?_, rfl⟩
 generalize (if chkE h l = 0 then spanF peoP (runH h l).1 (runH h l).1.length else []) = Z at *
 generalize chkE h l = e at *
 simp only [ha, csl, asl] at *
 generalize cI Z = CZ at *
 generalize cI h.t0 = A0 at *
 generalize cI h.t1 = A1 at *
 generalize cI h.t2 = A2 at *
 generalize rowC ac l = A at *
 simp -implicitDefEqProofs [c33, k, hd]
theorem armed34 {n : Nat} (hn : 11 ≤ n) (h : HallI) (q0 : h.t0.length < 1000000) (q1 : h.t1.length < 1000000) (q2 : h.t2.length < 1000000) (l : List ActI) (hl : l.length < 50000) :
  ∃ a, RUN n 34 [ha h, asl l] = .ret (.tup [a, iv (chkE h l)]) ∧ disown a = csl (if chkE h l = 0 then spanF armP (runH h l).1 (runH h l).1.length else []) := by
 obtain ⟨d, rfl⟩ : ∃ d, n = d + 11 := ⟨n - 11, by omega⟩
 rw [RUN, call_eq fe34 _ rfl]
 obtain ⟨a, k, hd⟩ := during99 (n := d + 10) (by omega) 101 armP (fun d s => arm101 d s) h q0 q1 q2 l hl
 refine ⟨csl (if chkE h l = 0 then spanF armP (runH h l).1 (runH h l).1.length else []), ?_, rfl⟩
 generalize (if chkE h l = 0 then spanF armP (runH h l).1 (runH h l).1.length else []) = Z at *
 generalize chkE h l = e at *
 simp only [ha, csl, asl] at *
 generalize cI Z = CZ at *
 generalize cI h.t0 = A0 at *
 generalize cI h.t1 = A1 at *
 generalize cI h.t2 = A2 at *
 generalize rowC ac l = A at *
 simp -implicitDefEqProofs [c34, k, hd]
end Fw
end

section
set_option maxHeartbeats 16000000
namespace Fw
open Go

abbrev sp2 (a b : Int) : AVal := .agg [iv a, iv b]
end Fw
end

section
set_option maxHeartbeats 16000000
namespace Fw
open Go

theorem shoot_ok {h : HallI} {x : ActI} (he : actE h x = 0) (hk : x.kind = kShoot) : x.num = 0 ∧ x.a = 0 ∧ x.b = 0 ∧ x.c = 0 := by
 unfold actE at he
 split at he
 ·omega
 ·split at he
  ·cases he
  ·split at he
   ·cases he
   ·rename_i h2
    have h3 : numsE h x.kind = 1 := by rw [hk]; rfl
    have h4 : ¬ x.kind = kMeasure := by rw [hk]; decide
    rw [if_neg h4] at he
    rw [h3] at h2
    have hz : zerB x.a x.b x.c = true := by
     cases hz : zerB x.a x.b x.c with
     | true => rfl
     | false => rw [hz] at he; cases he
    simp only [zerB, Bool.and_eq_true, beq_iff_eq] at hz
    omega
end Fw
end

