/- Several texts in one: steps of the proof, no condition of their own. -/
import Derived.Test.YthiklnppmlmjeaaDoorTgR3
import Derived.Test.YthiklnppmlmjeaaDoorFwC
attribute [local irreducible] Fw.evCode Fw.evOps Fw.evOpsD Fw.evOper Fw.evOperD Fw.evOp Fw.evFn Fw.loopN Fw.T.All Fw.T.bind Fw.callPure Fw.callOp Fw.opsK Fw.opsDK Fw.restK Fw.seqK Fw.blockK Fw.loopS Fw.setK Fw.setQ Fw.giveK Fw.scalK Fw.gcK Fw.finish Fw.finS Fw.rfunK Fw.yldK Fw.yldB Fw.loopK
section
set_option maxHeartbeats 16000000
namespace Fw
open Go

def aftS (base W : Int) (s : StaI) (x : ActI) : StaI :=
 if x.kind = kOpen then setO { s with tick := x.tick } x.num true else if x.kind = kClose then setO { s with tick := x.tick } x.num false
 else if x.kind = kInsert then setY { s with tick := x.tick } x.num true else if x.kind = kRemove then setY { s with tick := x.tick } x.num false
 else if x.kind = kEnter then { s with tick := x.tick, people := s.people + 1 } else if x.kind = kLeave then { s with tick := x.tick, people := s.people - 1 }
 else if x.kind = kArm then { s with tick := x.tick, armed := true } else if x.kind = kDisarm then { s with tick := x.tick, armed := false }
 else if x.kind = kShoot then { s with tick := x.tick, shot := x.tick, adm := -1, armed := false }
 else { s with tick := x.tick, adm := max (s.shot + base) (x.tick + W) }
def StOk (s : StaI) : Prop := 0 ≤ s.people ∧ s.people ≤ 100 ∧ -1 ≤ s.shot ∧ s.shot ≤ 100000000

theorem after136 {n : Nat} (hn : 4 ≤ n) (h : HallI) (g0' : h.t0.length < 1000000) (g1' : h.t1.length < 1000000) (g2' : h.t2.length < 1000000) (s : StaI) (x : ActI) (hx : NumOk x) (hs : StOk s) (hb : 0 ≤ h.base ∧ h.base ≤ 1000000) (ht : 0 ≤ x.tick ∧ x.tick ≤ 100000000) (hW : 0 ≤ waitP h x.a x.b x.c ∧ waitP h x.a x.b x.c ≤ 1000000) : RUN n 136 [sa s, ha h, aa x] = .ret (sa (aftS h.base (waitP h x.a x.b x.c) s x)) := by
 obtain ⟨d, rfl⟩ : ∃ d, n = d + 4 := ⟨n - 4, by omega⟩
 rw [RUN, call_eq fe136 _ rfl]
 have hk := numOk_cases hx
 have mx := fun a b => max2 a b
 have kb := byWord110 (n := d + 3) (by omega)
 have hG : G0 0 = some g0 := rfl
 have kq := wait59 (n := d + 2) (by omega) h g0' g1' g2' x.a x.b x.c
 obtain ⟨q1, q2, q3, q4⟩ := hs
 have w1 := wrap64 (n := s.people + 1) (by omega) (by omega)
 have w2 := wrap64 (n := s.people - 1) (by omega) (by omega)
 have w3 := wrap64 (n := s.shot + h.base) (by omega) (by omega)
 generalize hWW : waitP h x.a x.b x.c = W at *
 have w4 := wrap64 (n := x.tick + W) (by omega) (by omega)
 obtain ⟨t, k, m, a, b, c⟩ := x
 obtain ⟨st, o0, o1, o2, o3, o4, o5, o6, o7, k0, k1, pp, ar, sh, ad⟩ := s
 simp only at hk w1 w2 w3 w4
 simp only [ha, csl] at *
 generalize cI h.t0 = A0 at *
 generalize cI h.t1 = A1 at *
 generalize cI h.t2 = A2 at *
 rcases hk with rfl | rfl | rfl | rfl | rfl | rfl | rfl | rfl | rfl | rfl
 ·have hm : mapFind (.str kOpen) (pStr kindL) [.int .i64 0, .int .i64 1, .int .i64 2, .int .i64 3, .int .i64 4, .int .i64 5, .int .i64 6, .int .i64 7, .int .i64 8, .int .i64 9] = some (some (.int .i64 0)) := by kernel_rfl
  rcases eight (hx.2.1 (show doorB kOpen = true by decide)) with rfl | rfl | rfl | rfl | rfl | rfl | rfl | rfl <;> simp -implicitDefEqProofs [c136, kb, hm, hG, g0, evFn_fn fe176, c176, aftS, setO]
 ·have hm : mapFind (.str kClose) (pStr kindL) [.int .i64 0, .int .i64 1, .int .i64 2, .int .i64 3, .int .i64 4, .int .i64 5, .int .i64 6, .int .i64 7, .int .i64 8, .int .i64 9] = some (some (.int .i64 1)) := by kernel_rfl
  rcases eight (hx.2.1 (show doorB kClose = true by decide)) with rfl | rfl | rfl | rfl | rfl | rfl | rfl | rfl <;> simp -implicitDefEqProofs [c136, kb, hm, hG, g0, evFn_fn fe178, c178, aftS, setO]
 ·have hm : mapFind (.str kInsert) (pStr kindL) [.int .i64 0, .int .i64 1, .int .i64 2, .int .i64 3, .int .i64 4, .int .i64 5, .int .i64 6, .int .i64 7, .int .i64 8, .int .i64 9] = some (some (.int .i64 2)) := by kernel_rfl
  rcases two (hx.2.2 (show keyB kInsert = true by decide)) with rfl | rfl <;> simp -implicitDefEqProofs [c136, kb, hm, hG, g0, evFn_fn fe181, c181, aftS, setY]
 ·have hm : mapFind (.str kRemove) (pStr kindL) [.int .i64 0, .int .i64 1, .int .i64 2, .int .i64 3, .int .i64 4, .int .i64 5, .int .i64 6, .int .i64 7, .int .i64 8, .int .i64 9] = some (some (.int .i64 3)) := by kernel_rfl
  rcases two (hx.2.2 (show keyB kRemove = true by decide)) with rfl | rfl <;> simp -implicitDefEqProofs [c136, kb, hm, hG, g0, evFn_fn fe183, c183, aftS, setY]
 ·have hm : mapFind (.str kEnter) (pStr kindL) [.int .i64 0, .int .i64 1, .int .i64 2, .int .i64 3, .int .i64 4, .int .i64 5, .int .i64 6, .int .i64 7, .int .i64 8, .int .i64 9] = some (some (.int .i64 4)) := by kernel_rfl
  simp -implicitDefEqProofs [c136, kb, hm, hG, g0, evFn_fn fe185, c185, aftS, w1]
 ·have hm : mapFind (.str kLeave) (pStr kindL) [.int .i64 0, .int .i64 1, .int .i64 2, .int .i64 3, .int .i64 4, .int .i64 5, .int .i64 6, .int .i64 7, .int .i64 8, .int .i64 9] = some (some (.int .i64 5)) := by kernel_rfl
  simp -implicitDefEqProofs [c136, kb, hm, hG, g0, evFn_fn fe187, c187, aftS, w2]
 ·have hm : mapFind (.str kArm) (pStr kindL) [.int .i64 0, .int .i64 1, .int .i64 2, .int .i64 3, .int .i64 4, .int .i64 5, .int .i64 6, .int .i64 7, .int .i64 8, .int .i64 9] = some (some (.int .i64 6)) := by kernel_rfl
  simp -implicitDefEqProofs [c136, kb, hm, hG, g0, evFn_fn fe190, c190, aftS]
 ·have hm : mapFind (.str kDisarm) (pStr kindL) [.int .i64 0, .int .i64 1, .int .i64 2, .int .i64 3, .int .i64 4, .int .i64 5, .int .i64 6, .int .i64 7, .int .i64 8, .int .i64 9] = some (some (.int .i64 7)) := by kernel_rfl
  simp -implicitDefEqProofs [c136, kb, hm, hG, g0, evFn_fn fe192, c192, aftS]
 ·have hm : mapFind (.str kShoot) (pStr kindL) [.int .i64 0, .int .i64 1, .int .i64 2, .int .i64 3, .int .i64 4, .int .i64 5, .int .i64 6, .int .i64 7, .int .i64 8, .int .i64 9] = some (some (.int .i64 8)) := by kernel_rfl
  simp -implicitDefEqProofs [c136, kb, hm, hG, g0, evFn_fn fe194, c194, aftS]
 ·have hm : mapFind (.str kMeasure) (pStr kindL) [.int .i64 0, .int .i64 1, .int .i64 2, .int .i64 3, .int .i64 4, .int .i64 5, .int .i64 6, .int .i64 7, .int .i64 8, .int .i64 9] = some (some (.int .i64 9)) := by kernel_rfl
  simp -implicitDefEqProofs [c136, kb, hm, hG, g0, evFn_fn fe196, c196, aftS, w3, w4, mx, kq]

theorem after141 {n : Nat} (hn : 4 ≤ n) (h : HallI) (g0' : h.t0.length < 1000000) (g1' : h.t1.length < 1000000) (g2' : h.t2.length < 1000000) (s : StaI) (x : ActI) (hx : NumOk x) (hs : StOk s) (hb : 0 ≤ h.base ∧ h.base ≤ 1000000) (ht : 0 ≤ x.tick ∧ x.tick ≤ 100000000) (hW : 0 ≤ waitR h x.a x.b x.c ∧ waitR h x.a x.b x.c ≤ 1000000) : RUN n 141 [ha h, sa s, aa x] = .ret (sa (aftS h.base (waitR h x.a x.b x.c) s x)) := by
 obtain ⟨d, rfl⟩ : ∃ d, n = d + 4 := ⟨n - 4, by omega⟩
 rw [RUN, call_eq fe141 _ rfl]
 have hk := numOk_cases hx
 have mx := fun a b => max2 a b
 have kq := wait155 (n := d + 3) (by omega) h g0' g1' g2' x.a x.b x.c
 obtain ⟨q1, q2, q3, q4⟩ := hs
 have w1 := wrap64 (n := s.people + 1) (by omega) (by omega)
 have w2 := wrap64 (n := s.people - 1) (by omega) (by omega)
 have w3 := wrap64 (n := s.shot + h.base) (by omega) (by omega)
 generalize hWW : waitR h x.a x.b x.c = W at *
 have w4 := wrap64 (n := x.tick + W) (by omega) (by omega)
 obtain ⟨t, k, m, a, b, c⟩ := x
 obtain ⟨st, o0, o1, o2, o3, o4, o5, o6, o7, k0, k1, pp, ar, sh, ad⟩ := s
 simp only at hk w1 w2 w3 w4
 simp only [ha, csl] at *
 generalize cI h.t0 = A0 at *
 generalize cI h.t1 = A1 at *
 generalize cI h.t2 = A2 at *
 rcases hk with rfl | rfl | rfl | rfl | rfl | rfl | rfl | rfl | rfl | rfl
 ·rcases eight (hx.2.1 (show doorB kOpen = true by decide)) with rfl | rfl | rfl | rfl | rfl | rfl | rfl | rfl <;> simp -implicitDefEqProofs [c141, strBin, aftS, setO]
 ·rcases eight (hx.2.1 (show doorB kClose = true by decide)) with rfl | rfl | rfl | rfl | rfl | rfl | rfl | rfl <;> simp -implicitDefEqProofs [c141, strBin, aftS, setO]
 ·rcases two (hx.2.2 (show keyB kInsert = true by decide)) with rfl | rfl <;> simp -implicitDefEqProofs [c141, strBin, aftS, setY]
 ·rcases two (hx.2.2 (show keyB kRemove = true by decide)) with rfl | rfl <;> simp -implicitDefEqProofs [c141, strBin, aftS, setY]
 ·simp -implicitDefEqProofs [c141, strBin, aftS, w1]
 ·simp -implicitDefEqProofs [c141, strBin, aftS, w2]
 ·simp -implicitDefEqProofs [c141, strBin, aftS]
 ·simp -implicitDefEqProofs [c141, strBin, aftS]
 ·simp -implicitDefEqProofs [c141, strBin, aftS]
 ·simp -implicitDefEqProofs [c141, strBin, aftS, w3, w4, mx, kq]

end Fw
end

section
set_option maxHeartbeats 16000000
namespace Fw
open Go

def ac (x : ActI) : List PVal := [.int .i64 x.tick, .str x.kind, .int .i64 x.num, .int .i64 x.a, .int .i64 x.b, .int .i64 x.c]
abbrev asl (l : List ActI) : AVal := .p (.sl (rowC ac l) l.length)
theorem ac_len (x : ActI) : (ac x).length = 6 := rfl
theorem aR_len (l : List ActI) : (rowC ac l).length = l.length * 6 := rowC_len ac_len l
theorem sc_len (s : StaI) : (sc s).length = 15 := rfl
theorem sR_len (l : List StaI) : (rowC sc l).length = l.length * 15 := rowC_len sc_len l
abbrev stl (l : List StaI) : AVal := .p (.sl (rowC sc l) l.length)
def lnA (x : ActI) : Int := if 40 < x.kind.length then 1 else 0
def zA : ActI := ⟨0, [], 0, 0, 0, 0⟩
theorem getA {l : List ActI} {i : Nat} (hi : i < l.length) : l.getD i zA = l[i] := by simp [List.getD_eq_getElem?_getD, hi]

theorem short66 {n : Nat} (hn : 1 ≤ n) (l : List ActI) (hl : l.length ≤ 9223372036854775807) : RUN n 66 [asl l] = .ret (.p (.bool (decide (firstE (l.map lnA) = 0) && (decide (l.length ≤ 24) || decide (l.length = 1001))))) := by
 obtain ⟨d, rfl⟩ : ∃ d, n = d + 1 := ⟨n - 1, by omega⟩
 rw [RUN, call_eq fe66 _ rfl]
 have hR := aR_len l
 let inv : Nat → St := fun i => ⟨[(0, asl l), (3, iv i)], []⟩
 simp -implicitDefEqProofs [c66]
 rw [loop_errs (st0 := ⟨[(0, asl l), (3, .p (.int .i64 0))], []⟩) inv (l.map lnA) (.exit 0, ⟨(inv l.length).env ++ [(7, .p (.bool false))], []⟩) (fun _ => (.ret, ⟨[(2, .p (.bool false))], []⟩)) (by rfl)]
 ·by_cases y : firstE (l.map lnA) = 0
  ·by_cases a : (l.length : Int) ≤ 24
   ·have a' : l.length ≤ 24 := by omega
    simp -implicitDefEqProofs [y, inv, a, a']
   ·have a' : ¬ l.length ≤ 24 := by omega
    have : ((l.length : Int) == 1001) = decide (l.length = 1001) := by
     by_cases b : l.length = 1001
     ·simp [b]
     ·have : ¬ (l.length : Int) = 1001 := by omega
      simp [b, this]
    simp -implicitDefEqProofs [y, inv, a, a', this]
  ·simp -implicitDefEqProofs [y]
 ·intro i hi
  have hi' : i < l.length := by simpa using hi
  have w2 := wrap_succ (i := i) (by omega)
  have hlt : i * 6 < l.length * 6 := by omega
  have hlt1 : i * 6 + 1 < l.length * 6 := by omega
  have hdr := rowC_drop ac_len l i hi'
  have hdr1 : (rowC ac l).drop (i * 6 + 1) = [.str l[i].kind, .int .i64 l[i].num, .int .i64 l[i].a, .int .i64 l[i].b, .int .i64 l[i].c] ++ rowC ac (l.drop (i + 1)) := by
   rw [← List.drop_drop, hdr]; rfl
  simp only [List.getElem_map]
  unfold lnA
  generalize hA : rowC ac l = A at *
  generalize rowC ac (l.drop (i + 1)) = R2 at *
  generalize l[i] = s at *
  obtain ⟨t, nm, m, a, b, c⟩ := s
  simp only at hdr hdr1 ⊢
  by_cases c : 40 < nm.length
  ·have c' : (40 : Int) < nm.length := by omega
   refine ⟨fun he => ?_, fun he => ?_⟩
   ·simp [c] at he
   ·simp -implicitDefEqProofs [inv, loopS_eq, c66L0, hi', hA, hR, hlt, hdr, ac, c']
  ·have c' : ¬ (40 : Int) < nm.length := by omega
   refine ⟨fun he => ⟨_, ?_, rfl⟩, fun he => ?_⟩
   ·simp -implicitDefEqProofs [inv, loopS_eq, c66L0, hi', hA, hR, hlt, hdr, ac, c', w2]
   ·simp [c] at he
 ·intro e; simp
 ·simp -implicitDefEqProofs [inv, loopS_eq, c66L0]
 ·simp
 ·simp [loopFuel]; omega

def actsE (h : HallI) (l : List ActI) : Int := if firstE [hallE h, whenE (decide (1000 < l.length)) 5] = 0 then firstE ((List.range l.length).map fun i => actE h (l.getD i zA)) else firstE [hallE h, whenE (decide (1000 < l.length)) 5]

theorem acts62 {n : Nat} (hn : 7 ≤ n) (h : HallI) (q0 : h.t0.length < 1000000) (q1 : h.t1.length < 1000000) (q2 : h.t2.length < 1000000) (l : List ActI) (hl : l.length < 1000000) : RUN n 62 [ha h, asl l] = .ret (iv (actsE h l)) := by
 obtain ⟨d, rfl⟩ : ∃ d, n = d + 7 := ⟨n - 7, by omega⟩
 rw [RUN, call_eq fe62 _ rfl]
 have k81 := hall57 (n := d + 6) (by omega) h q0 q1 q2
 have kw := when81 (n := d + 6) (by omega) (decide (1000 < l.length)) 5
 have k2 := first56_2 (n := d + 6) (by omega) (hallE h) (whenE (decide (1000 < l.length)) 5)
 have hd : decide ((1000 : Int) < l.length) = decide (1000 < l.length) := by
  by_cases h : 1000 < l.length
  ·have : (1000 : Int) < l.length := by omega
   simp [h, this]
  ·have : ¬ (1000 : Int) < l.length := by omega
   simp [h, this]
 unfold actsE
 generalize hF : firstE [hallE h, whenE (decide (1000 < l.length)) 5] = f at *
 have hR := aR_len l
 by_cases hf : f = 0
 ·subst hf
  rw [if_pos rfl]
  have kc := fun x => check63 (n := d + 6) (by omega) h x
  let inv : Nat → St := fun i => ⟨[(2, .ptr 0 0 0), (20, asl l), (21, iv l.length), (22, iv i)], [(0, .box [iv h.doors, iv h.base, csl h.t0, csl h.t1, csl h.t2])]⟩
  have key := loop_firstR (step := loopS (evFn F C0 G0 (d + 6)) C0 G0 0 true [2, 20, 21, 22] c62L0) inv (fun i => actE h (l.getD i zA)) l.length (.exit 0, ⟨(inv l.length).env ++ [(23, .p (.bool false))], (inv l.length).sto⟩) (fun i st => st.env = [(4, iv (actE h (l.getD i zA)))])
   (st0 := ⟨[(2, .ptr 0 0 0), (20, asl l), (21, iv l.length), (22, iv 0)], [(0, .box [iv h.doors, iv h.base, csl h.t0, csl h.t1, csl h.t2])]⟩) rfl (fun i hi => by
   have hlt : i * 6 < l.length * 6 := by omega
   have hlt6 : i * 6 + 6 ≤ l.length * 6 := by omega
   have wi := wrap_succ (i := i) (by omega)
   have hdr := rowC_drop ac_len l i hi
   have kc := kc l[i]
   simp only [getA hi, inv]
   generalize hE : actE h l[i] = e at *
   generalize hA : rowC ac l = A at *
   generalize rowC ac (l.drop (i + 1)) = R2 at *
   generalize l[i] = x at *
   obtain ⟨t, k, m, a, b, c⟩ := x
   simp only [ha, csl] at kc ⊢
   generalize cI h.t0 = A0 at *
   generalize cI h.t1 = A1 at *
   generalize cI h.t2 = A2 at *
   refine ⟨fun he => ?_, fun he => ?_⟩
   ·subst he
    refine ⟨?_, ?h1, ?h2⟩
    case h1 =>
     simp -implicitDefEqProofs [loopS_eq, c62L0, hi, hA, hR, hlt, hdr, ac, kc, wi]
     exact rfl
    case h2 => exact loopS_same (by simp) (by simp)
   ·refine ⟨?_, ?h1, ?h2⟩
    case h1 =>
     simp -implicitDefEqProofs [loopS_eq, c62L0, hi, hA, hR, hlt, hdr, ac, kc, he]
     exact rfl
    case h2 => rfl) (by simp -implicitDefEqProofs [inv, loopS_eq, c62L0]) (by simp) (fuel := loopFuel) (by simp [loopFuel]; omega)
  simp only [inv, ha, csl] at key k81 ⊢
  generalize cI h.t0 = A0 at *
  generalize cI h.t1 = A1 at *
  generalize cI h.t2 = A2 at *
  rcases key with ⟨h1, h2⟩ | ⟨j, ⟨env, sto⟩, hj, h1, h2, h3, _, _⟩
  ·rw [show firstE _ = 0 from h2]
   simp only [iv] at h1
   simp -implicitDefEqProofs [c62, k81, kw, k2, hd]
   rw [h1]
   simp
  ·rw [show firstE _ = _ from h3]
   simp only at h2
   subst h2
   generalize actE h (l.getD j zA) = e at *
   simp only [iv] at h1
   simp -implicitDefEqProofs [c62, k81, kw, k2, hd]
   rw [h1]
   simp
 ·rw [if_neg hf]
  simp only [ha, csl] at k81 ⊢
  generalize cI h.t0 = A0 at *
  generalize cI h.t1 = A1 at *
  generalize cI h.t2 = A2 at *
  simp -implicitDefEqProofs [c62, k81, kw, k2, hd, hf]

theorem acts114 {n : Nat} (hn : 7 ≤ n) (h : HallI) (q0 : h.t0.length < 1000000) (q1 : h.t1.length < 1000000) (q2 : h.t2.length < 1000000) (l : List ActI) (hl : l.length < 1000000) : RUN n 114 [ha h, asl l] = .ret (iv (actsE h l)) := by
 obtain ⟨d, rfl⟩ : ∃ d, n = d + 7 := ⟨n - 7, by omega⟩
 rw [RUN, call_eq fe114 _ rfl]
 have k81 := hall8 (n := d + 6) (by omega) h q0 q1 q2
 have kw := when47 (n := d + 6) (by omega) (decide (1000 < l.length)) 5
 have k2 := first43_2 (n := d + 6) (by omega) (hallE h) (whenE (decide (1000 < l.length)) 5)
 have hd : decide ((1000 : Int) < l.length) = decide (1000 < l.length) := by
  by_cases h : 1000 < l.length
  ·have : (1000 : Int) < l.length := by omega
   simp [h, this]
  ·have : ¬ (1000 : Int) < l.length := by omega
   simp [h, this]
 have hz : firstE [hallE h, whenE (decide (1000 < l.length)) 5] = 0 → hallE h = 0 := fun hh => firstE_zero.1 hh _ (by simp)
 unfold actsE
 generalize hF : firstE [hallE h, whenE (decide (1000 < l.length)) 5] = f at *
 have hR := aR_len l
 by_cases hf : f = 0
 ·subst hf
  rw [if_pos rfl]
  obtain ⟨d1, d2⟩ := doors_of (hz rfl)
  have kc := fun x => check138 (n := d + 6) (by omega) h d1 d2 x
  let inv : Nat → St := fun i => ⟨[(1, asl l), (2, .ptr 0 0 0), (6, iv i)], [(0, .box [iv h.doors, iv h.base, csl h.t0, csl h.t1, csl h.t2])]⟩
  have key := loop_firstR (step := loopS (evFn F C0 G0 (d + 6)) C0 G0 0 false [1, 2, 6] c114L0) inv (fun i => actE h (l.getD i zA)) l.length (.exit 0, ⟨(inv l.length).env ++ [(22, .p (.bool false))], (inv l.length).sto⟩) (fun i st => st.env = [(4, iv (actE h (l.getD i zA)))])
   (st0 := ⟨[(1, asl l), (2, .ptr 0 0 0), (6, iv 0)], [(0, .box [iv h.doors, iv h.base, csl h.t0, csl h.t1, csl h.t2])]⟩) rfl (fun i hi => by
   have hlt : i * 6 < l.length * 6 := by omega
   have hlt6 : i * 6 + 6 ≤ l.length * 6 := by omega
   have wi := wrap_succ (i := i) (by omega)
   have hdr := rowC_drop ac_len l i hi
   have kc := kc l[i]
   simp only [getA hi, inv]
   generalize hE : actE h l[i] = e at *
   generalize hA : rowC ac l = A at *
   generalize rowC ac (l.drop (i + 1)) = R2 at *
   generalize l[i] = x at *
   obtain ⟨t, k, m, a, b, c⟩ := x
   simp only [ha, csl] at kc ⊢
   generalize cI h.t0 = A0 at *
   generalize cI h.t1 = A1 at *
   generalize cI h.t2 = A2 at *
   refine ⟨fun he => ?_, fun he => ?_⟩
   ·subst he
    refine ⟨?_, ?h1, ?h2⟩
    case h1 =>
     simp -implicitDefEqProofs [loopS_eq, c114L0, hi, hA, hR, hlt, hdr, ac, kc, wi]
     exact rfl
    case h2 => simp
   ·refine ⟨?_, ?h1, ?h2⟩
    case h1 =>
     simp -implicitDefEqProofs [loopS_eq, c114L0, hi, hA, hR, hlt, hdr, ac, kc, he]
     exact rfl
    case h2 => rfl) (by simp -implicitDefEqProofs [inv, loopS_eq, c114L0]) (by simp) (fuel := loopFuel) (by simp [loopFuel]; omega)
  simp only [inv, ha, csl] at key k81 ⊢
  generalize cI h.t0 = A0 at *
  generalize cI h.t1 = A1 at *
  generalize cI h.t2 = A2 at *
  rcases key with ⟨h1, h2⟩ | ⟨j, ⟨env, sto⟩, hj, h1, h2, h3, _, _⟩
  ·rw [show firstE _ = 0 from h2]
   simp only [iv] at h1
   simp -implicitDefEqProofs [c114, k81, kw, k2, hd]
   rw [h1]
   simp
  ·rw [show firstE _ = _ from h3]
   simp only at h2
   subst h2
   generalize actE h (l.getD j zA) = e at *
   simp only [iv] at h1
   simp -implicitDefEqProofs [c114, k81, kw, k2, hd]
   rw [h1]
   simp
 ·rw [if_neg hf]
  simp only [ha, csl] at k81 ⊢
  generalize cI h.t0 = A0 at *
  generalize cI h.t1 = A1 at *
  generalize cI h.t2 = A2 at *
  simp -implicitDefEqProofs [c114, k81, kw, k2, hd, hf]

def bgS : StaI := ⟨0, false, false, false, false, false, false, false, false, false, false, 0, false, -1, 0⟩
theorem begin109 {n : Nat} (hn : 1 ≤ n) : RUN n 109 [] = .ret (sa bgS) := by
 obtain ⟨d, rfl⟩ : ∃ d, n = d + 1 := ⟨n - 1, by omega⟩
 kernel_rfl
theorem begin139 {n : Nat} (hn : 1 ≤ n) : RUN n 139 [] = .ret (sa bgS) := by
 obtain ⟨d, rfl⟩ : ∃ d, n = d + 1 := ⟨n - 1, by omega⟩
 kernel_rfl
end Fw
end

section
set_option maxHeartbeats 16000000
namespace Fw
open Go

def runG (base : Int) (W : ActI → Int) : StaI → List ActI → List StaI × Bool
 | _, [] => ([], true)
 | s, x :: r => if (reaL s x).length = 0 then ((aftS base (W x) s x) :: (runG base W (aftS base (W x) s x) r).1, (runG base W (aftS base (W x) s x) r).2) else ([], false)
def capH (h : HallI) : PVal := .pp [.int .i64 h.doors, .int .i64 h.base, .sl (cI h.t0) h.t0.length, .sl (cI h.t1) h.t1.length, .sl (cI h.t2) h.t2.length]
def capL (l : List ActI) : PVal := .pp [.sl (rowC ac l) l.length]
def qLoop (h : HallI) (l : List ActI) (j : Option ACode) (e : Nat) : Obj := .loop [(1, asl l), (4, .p .nils), (5, iv 0), (6, iv 0), (8, .ptr 2 0 0), (19, .p (.clo 135 [] [capL l, capH h]))] [20, 21] c60A0 c60B0 j e
theorem qLoop_fold (h : HallI) (l : List ActI) (j : Option ACode) (e : Nat) : Obj.loop [(1, asl l), (4, .p .nils), (5, iv 0), (6, iv 0), (8, .ptr 2 0 0), (19, .p (.clo 135 [] [capL l, capH h]))] [20, 21] c60A0 c60B0 j e = qLoop h l j e := rfl
theorem refs_qLoop (h : HallI) (l : List ActI) (j : Option ACode) (e : Nat) : refsO (qLoop h l j e) = [2] := by simp [qLoop]
def pR (h : HallI) (out : List StaI) : Sto := [(2, .box [.sl 1 out.length 0 out.length]), (1, .arr (rowC sc out) out.length 15), (0, .box [iv h.doors, iv h.base, csl h.t0, csl h.t1, csl h.t2])]

theorem yield60 {d : Nat} (h : HallI) (l : List ActI) (out : List StaI) (s : StaI) (i : Int) (c5 c4 : List PVal) (hl : out.length < 100000) :
  evFn F C0 G0 (d + 1) (.yld 3) [iv i, sa s] ((5, .arr c5 0 1) :: (4, .arr c4 0 1) :: (3, qLoop h l none 0) :: pR h out) = .ret (bl true, (6, .arr (sc s) 0 1) :: (5, .arr c5 0 1) :: (4, .arr c4 0 1) :: (3, qLoop h l none 0) :: pR h (out ++ [s])) := by
 rw [evFn_yld (by rfl) (by rfl)]
 have hlim : out.length + 1 ≤ lim := by simp only [lim]; omega
 have hR := sR_len out
 have hr : rowC sc (out ++ [s]) = rowC sc out ++ sc s := rowC_snoc ..
 have hn : (out ++ [s]).length = out.length + 1 := by simp
 simp only [pR, hr, hn]
 generalize hA : rowC sc out = A at *
 generalize out.length = n at *
 obtain ⟨st, o0, o1, o2, o3, o4, o5, o6, o7, k0, k1, pp, ar, sh, ad⟩ := s
 simp -implicitDefEqProofs [c60A0]
 rw [yldK_eq (by rfl), qLoop_fold]
 simp -implicitDefEqProofs [c60B0, hlim, hR]
 rw [yldB_normal (by rfl), qLoop_fold]
 simp -implicitDefEqProofs [sc]
end Fw
end

section
set_option maxHeartbeats 16000000
namespace Fw
open Go

def P6 (h : HallI) (l : List ActI) (s : StaI) (out : List StaI) (i : Nat) : St := ⟨[(0, .yld 3), (2, .p (capH h)), (4, .ptr 4 0 0), (8, asl l), (9, iv l.length), (10, iv i)], (4, .arr (sc s) 0 1) :: (3, qLoop h l none 0) :: pR h out⟩
def ActOk (x : ActI) : Prop := NumOk x ∧ 0 ≤ x.tick ∧ x.tick ≤ 100000000

theorem gc6 (o : Obj) (c5 c4 : List PVal) (h : HallI) (l : List ActI) (out : List StaI) :
  gc 6 [(0, bl true)] ((6, o) :: (5, .arr c5 0 1) :: (4, .arr c4 0 1) :: (3, qLoop h l none 0) :: pR h out) = (5, .arr c5 0 1) :: (4, .arr c4 0 1) :: (3, qLoop h l none 0) :: pR h out := by
 have h := gc_new (lo := 6) (env := [(0, bl true)]) (X := [(6, o)]) (S := (5, .arr c5 0 1) :: (4, .arr c4 0 1) :: (3, qLoop h l none 0) :: pR h out) (by simp) (by simp [pR]) (by simp) (by simp [pR, refs_qLoop, refsO_arr, refsO_box, -refsO])
 simpa using h

theorem round135 {d : Nat} (h : HallI) (q0 : h.t0.length < 1000000) (q1 : h.t1.length < 1000000) (q2 : h.t2.length < 1000000) (hb : 0 ≤ h.base ∧ h.base ≤ 1000000) (l : List ActI) (hl : l.length < 100000) (s : StaI) (out : List StaI) (ho : out.length < 100000) (i : Nat) (hi : i < l.length) (hx : ActOk l[i]) (hs : StOk s) (hW : 0 ≤ waitP h l[i].a l[i].b l[i].c ∧ waitP h l[i].a l[i].b l[i].c ≤ 1000000) (hr : (reaL s l[i]).length = 0) :
  ∃ st1, loopS (evFn F C0 G0 (d + 6)) C0 G0 4 true [0, 2, 4, 8, 9, 10] c135L0 (P6 h l s out i) = .ret (.normal, st1) ∧
   loopS (evFn F C0 G0 (d + 6)) C0 G0 4 true [0, 2, 4, 8, 9, 10] c135L0 st1 = loopS (evFn F C0 G0 (d + 6)) C0 G0 4 true [0, 2, 4, 8, 9, 10] c135L0 (P6 h l (aftS h.base (waitP h l[i].a l[i].b l[i].c) s l[i]) (out ++ [aftS h.base (waitP h l[i].a l[i].b l[i].c) s l[i]]) (i + 1)) := by
 obtain ⟨hn, ht⟩ := hx
 have kr := reasons64 (n := d + 6) (by omega) s l[i] hn
 have ka := after136 (n := d + 6) (by omega) h q0 q1 q2 s l[i] hn hs hb ht hW
 rw [hr] at kr
 have hr0 : reaL s l[i] = [] := List.eq_nil_of_length_eq_zero hr
 rw [hr0] at kr
 generalize aftS h.base (waitP h l[i].a l[i].b l[i].c) s l[i] = s' at *
 have ky := yield60 (d := d + 5) h l out s' i (ac l[i]) (sc s') ho
 have kg := gc6 (.arr (sc s') 0 1) (ac l[i]) (sc s') h l (out ++ [s'])
 have hR := aR_len l
 have hlt : i * 6 < l.length * 6 := by omega
 have hlt6 : i * 6 + 6 ≤ l.length * 6 := by omega
 have wi := wrap_succ (i := i) (by omega)
 have hdr := rowC_drop ac_len l i hi
 simp only [P6, asl]
 have hrq := refs_qLoop h l none 0
 generalize qLoop h l none 0 = QL at *
 generalize hA : rowC ac l = A at *
 generalize rowC ac (l.drop (i + 1)) = R2 at *
 generalize l[i] = x at *
 obtain ⟨t, k, m, a, b, c⟩ := x
 obtain ⟨st, o0, o1, o2, o3, o4, o5, o6, o7, k0, k1, pp, ar, sh, ad⟩ := s
 obtain ⟨st', o0', o1', o2', o3', o4', o5', o6', o7', k0', k1', pp', ar', sh', ad'⟩ := s'
 simp only [pR, sc, ac, capH, ha, csl, pStr_nil] at *
 generalize cI h.t0 = A0 at *
 generalize cI h.t1 = A1 at *
 generalize cI h.t2 = A2 at *
 generalize rowC sc out = B at *
 generalize rowC sc (out ++ _) = B' at *
 generalize out.length = y at *
 generalize (out ++ _).length = y' at *
 refine ⟨?_, ?h1, ?h2⟩
 case h1 =>
  simp -implicitDefEqProofs [loopS_eq, c135L0, hi, hR, hlt, hdr, kr, ka, ky, wi, refsO_arr, refsO_box, hrq, -refsO]
  exact rfl
 case h2 => exact loopS_same (by simp) (by simp [refsO_arr, refsO_box, hrq, -refsO])
end Fw
end

section
set_option maxHeartbeats 16000000
namespace Fw
open Go

theorem addR_len (L : List (List UInt8)) (b : Bool) (w : List UInt8) : (addR L b w).length = L.length + b.toNat := by
 cases b <;> simp [addR]
theorem reaL_nil {s : StaI} {x : ActI} : (reaL s x).length = 0 ↔ s.tick ≤ x.tick ∧ stB s x = false ∧ armB s x = false ∧ dooB s x = false ∧ peoB s x = false ∧ keyR s x = false ∧ waiB s x = false := by
 unfold reaL
 simp only [addR_len, List.length_nil, Nat.zero_add]
 by_cases h : x.tick < s.tick
 ·have : ¬ s.tick ≤ x.tick := by omega
  simp [h, this]
 ·have : s.tick ≤ x.tick := by omega
  simp only [h, decide_false, Bool.toNat_false, this, true_and, Nat.zero_add]
  cases stB s x <;> cases armB s x <;> cases dooB s x <;> cases peoB s x <;> cases keyR s x <;> cases waiB s x <;> simp
theorem aft_ok {s : StaI} {x : ActI} (hs : StOk s) (hx : ActOk x) (hr : (reaL s x).length = 0) (base W : Int) : StOk (aftS base W s x) := by
 obtain ⟨a1, a2, a3, a4⟩ := hs
 obtain ⟨hn, t1, t2⟩ := hx
 obtain ⟨-, h1, -⟩ := reaL_nil.1 hr
 have hk := numOk_cases hn
 obtain ⟨t, k, m, a, b, c⟩ := x
 simp only at hk t1 t2
 rcases hk with rfl | rfl | rfl | rfl | rfl | rfl | rfl | rfl | rfl | rfl
 ·have e : aftS base W s ⟨t, kOpen, m, a, b, c⟩ = setO { s with tick := t } m true := rfl
  rw [e]; unfold setO; repeat' split
  all_goals exact ⟨a1, a2, a3, a4⟩
 ·have e : aftS base W s ⟨t, kClose, m, a, b, c⟩ = setO { s with tick := t } m false := rfl
  rw [e]; unfold setO; repeat' split
  all_goals exact ⟨a1, a2, a3, a4⟩
 ·have e : aftS base W s ⟨t, kInsert, m, a, b, c⟩ = setY { s with tick := t } m true := rfl
  rw [e]; unfold setY; split <;> exact ⟨a1, a2, a3, a4⟩
 ·have e : aftS base W s ⟨t, kRemove, m, a, b, c⟩ = setY { s with tick := t } m false := rfl
  rw [e]; unfold setY; split <;> exact ⟨a1, a2, a3, a4⟩
 ·have e : stB s ⟨t, kEnter, m, a, b, c⟩ = decide (100 ≤ s.people) := rfl
  rw [e] at h1
  simp only [decide_eq_false_iff_not] at h1
  exact ⟨show 0 ≤ s.people + 1 by omega, show s.people + 1 ≤ 100 by omega, a3, a4⟩
 ·have e : stB s ⟨t, kLeave, m, a, b, c⟩ = (s.people == 0) := rfl
  rw [e] at h1
  have h1 : ¬ s.people = 0 := by simpa using h1
  exact ⟨show 0 ≤ s.people - 1 by omega, show s.people - 1 ≤ 100 by omega, a3, a4⟩
 ·exact ⟨a1, a2, a3, a4⟩
 ·exact ⟨a1, a2, a3, a4⟩
 ·exact ⟨a1, a2, show -1 ≤ t by omega, t2⟩
 ·exact ⟨a1, a2, a3, a4⟩

theorem stop135 {d : Nat} (h : HallI) (l : List ActI) (_hl : l.length < 100000) (s : StaI) (out : List StaI) (i : Nat) (hi : i < l.length) (hx : ActOk l[i]) (hr : (reaL s l[i]).length ≠ 0) :
  ∃ env, loopS (evFn F C0 G0 (d + 6)) C0 G0 4 true [0, 2, 4, 8, 9, 10] c135L0 (P6 h l s out i) = .ret (.ret, ⟨env, (5, .arr (ac l[i]) 0 1) :: (4, .arr (sc s) 0 1) :: (3, qLoop h l none 0) :: pR h out⟩) := by
 obtain ⟨hn, ht⟩ := hx
 have kr := reasons64 (n := d + 6) (by omega) s l[i] hn
 have hR := aR_len l
 have hlt : i * 6 < l.length * 6 := by omega
 have hlt6 : i * 6 + 6 ≤ l.length * 6 := by omega
 have hdr := rowC_drop ac_len l i hi
 have hpos : 0 < (reaL s l[i]).length := by omega
 have hpi : (0 : Int) < (reaL s l[i]).length := by omega
 have hQ : (pStr (reaL s l[i])).length = (reaL s l[i]).length := by simp
 simp only [P6, asl]
 have hrq := refs_qLoop h l none 0
 generalize qLoop h l none 0 = QL at *
 generalize hA : rowC ac l = A at *
 generalize rowC ac (l.drop (i + 1)) = R2 at *
 generalize pStr (reaL s l[i]) = PQ at *
 generalize (reaL s l[i]).length = z at *
 generalize l[i] = x at *
 obtain ⟨t, k, m, a, b, c⟩ := x
 obtain ⟨st, o0, o1, o2, o3, o4, o5, o6, o7, k0, k1, pp, ar, sh, ad⟩ := s
 simp only [pR, sc, ac, capH, csl] at *
 generalize cI h.t0 = A0 at *
 generalize cI h.t1 = A1 at *
 generalize cI h.t2 = A2 at *
 generalize rowC sc out = B at *
 generalize out.length = y at *
 refine ⟨?_, ?h1⟩
 case h1 =>
  simp -implicitDefEqProofs [loopS_eq, c135L0, hi, hR, hlt, hdr, kr, hpos, refsO_arr, refsO_box, hrq, -refsO]
  exact rfl
theorem end135 {d : Nat} (h : HallI) (l : List ActI) (s : StaI) (out : List StaI) : ∃ env, loopS (evFn F C0 G0 (d + 6)) C0 G0 4 true [0, 2, 4, 8, 9, 10] c135L0 (P6 h l s out l.length) = .ret (.exit 0, ⟨env, (4, .arr (sc s) 0 1) :: (3, qLoop h l none 0) :: pR h out⟩) := by
 simp only [P6, asl]
 have hrq := refs_qLoop h l none 0
 generalize qLoop h l none 0 = QL at *
 simp only [pR, capH]
 refine ⟨?_, ?h1⟩
 case h1 =>
  simp -implicitDefEqProofs [loopS_eq, c135L0, refsO_arr, refsO_box, hrq, -refsO]
  exact rfl

def HallOk (h : HallI) : Prop := h.t0.length < 1000000 ∧ h.t1.length < 1000000 ∧ h.t2.length < 1000000 ∧ 0 ≤ h.base ∧ h.base ≤ 1000000 ∧ ∀ a b c, 0 ≤ waitP h a b c ∧ waitP h a b c ≤ 1000000
abbrev wP (h : HallI) (x : ActI) : Int := waitP h x.a x.b x.c

theorem loop135 {d : Nat} (h : HallI) (hh : HallOk h) (l : List ActI) (hl : l.length < 50000) (hx : ∀ x ∈ l, ActOk x) : ∀ (r : List ActI) (i : Nat) (s : StaI) (out : List StaI) (fuel : Nat), l.drop i = r → i + r.length = l.length → StOk s → out.length + r.length < 100000 → r.length + 1 < fuel →
  ∃ e env X, loopN (loopS (evFn F C0 G0 (d + 6)) C0 G0 4 true [0, 2, 4, 8, 9, 10] c135L0) fuel (P6 h l s out i) = .ret (e, ⟨env, X ++ (3, qLoop h l none 0) :: pR h (out ++ (runG h.base (wP h) s r).1)⟩) ∧ (e = .ret ∨ e = .exit 0) ∧ ((∃ c4, X = [(4, .arr c4 0 1)]) ∨ ∃ c5 c4, X = [(5, .arr c5 0 1), (4, .arr c4 0 1)]) := by
 obtain ⟨q0, q1, q2, b1, b2, hw⟩ := hh
 intro r
 induction r with
 | nil =>
  intro i s out fuel hd hi hs ho hf
  simp only [List.length_nil, Nat.add_zero] at hi
  subst hi
  obtain ⟨env, he⟩ := end135 (d := d) h l s out
  refine ⟨.exit 0, env, [(4, .arr (sc s) 0 1)], ?_, .inr rfl, .inl ⟨_, rfl⟩⟩
  rw [loopN_end he (by simp) (by omega)]
  simp [runG]
 | cons x r ih =>
  intro i s out fuel hd hi hs ho hf
  simp only [List.length_cons] at hi ho hf
  have hil : i < l.length := by omega
  rw [List.drop_eq_getElem_cons hil] at hd
  injection hd with h1 h2
  have hxo : ActOk l[i] := hx _ (List.getElem_mem hil)
  by_cases hr : (reaL s l[i]).length = 0
  ·have hstep := round135 (d := d) h q0 q1 q2 ⟨b1, b2⟩ l (by omega) s out (by omega) i hil hxo hs (hw _ _ _) hr
   rw [loopN_on' hstep (by omega)]
   obtain ⟨e, env, X, g1, g2, g3⟩ := ih (i + 1) (aftS h.base (wP h l[i]) s l[i]) (out ++ [aftS h.base (wP h l[i]) s l[i]]) (fuel - 1) h2 (by omega) (aft_ok hs hxo hr _ _) (by simp only [List.length_append, List.length_cons, List.length_nil]; omega) (by omega)
   refine ⟨e, env, X, ?_, g2, g3⟩
   rw [g1]
   rw [h1] at hr ⊢
   simp [runG, hr, wP]
  ·obtain ⟨env, he⟩ := stop135 (d := d) h l (by omega) s out i hil hxo hr
   refine ⟨.ret, env, [(5, .arr (ac l[i]) 0 1), (4, .arr (sc s) 0 1)], ?_, .inl rfl, .inr ⟨_, _, rfl⟩⟩
   rw [loopN_end he (by simp) (by omega)]
   rw [h1] at hr
   simp [runG, hr]
theorem states108 {n : Nat} (hn : 1 ≤ n) (h : HallI) (l : List ActI) : RUN n 108 [ha h, asl l] = .ret (.p (.clo 135 [] [capL l, capH h])) := by
 obtain ⟨d, rfl⟩ : ∃ d, n = d + 1 := ⟨n - 1, by omega⟩
 rw [RUN, call_eq fe108 _ rfl]
 simp only [ha, csl, asl, capL, capH]
 generalize cI h.t0 = A0 at *
 generalize cI h.t1 = A1 at *
 generalize cI h.t2 = A2 at *
 generalize rowC ac l = A at *
 simp -implicitDefEqProofs [c108]
def runH (h : HallI) (l : List ActI) : List StaI × Bool := runG h.base (wP h) bgS l
theorem runG_len (base : Int) (W : ActI → Int) : ∀ (l : List ActI) (s : StaI), (runG base W s l).1.length ≤ l.length ∧ ((runG base W s l).2 = true ↔ (runG base W s l).1.length = l.length) := by
 intro l
 induction l with
 | nil => intro s; simp [runG]
 | cons x r ih =>
  intro s
  by_cases hr : (reaL s x).length = 0
  ·have := ih (aftS base (W x) s x)
   simp only [runG, hr, if_true, List.length_cons, Nat.add_le_add_iff_right, Nat.add_right_cancel_iff]
   exact this
  ·simp [runG, hr]
end Fw
end

section
set_option maxHeartbeats 16000000
namespace Fw
open Go

theorem bg_ok : StOk bgS := ⟨by decide, by decide, by decide, by decide⟩
theorem run135 {d : Nat} (h : HallI) (hh : HallOk h) (l : List ActI) (hl : l.length < 50000) (hx : ∀ x ∈ l, ActOk x) :
  ∃ X, evFn F C0 G0 (d + 7) (.fn 135) [.yld 3, .p (capL l), .p (capH h)] ((3, qLoop h l none 0) :: pR h []) = .ret (.tup [], X ++ (3, qLoop h l none 0) :: pR h (runH h l).1) ∧ ((∃ c4, X = [(4, .arr c4 0 1)]) ∨ ∃ c5 c4, X = [(5, .arr c5 0 1), (4, .arr c4 0 1)]) := by
 obtain ⟨e, env, X, h1, h2, h3⟩ := loop135 (d := d) h hh l hl hx l 0 bgS [] loopFuel rfl (by omega) bg_ok (by simp; omega) (by simp [loopFuel]; omega)
 refine ⟨X, ?_, h3⟩
 rw [evFn_fn fe135]
 have kb := begin109 (n := d + 6) (by omega)
 simp only [List.nil_append] at h1
 rw [show runG h.base (wP h) bgS l = runH h l from rfl] at h1
 generalize hS : X ++ (3, qLoop h l none 0) :: pR h (runH h l).1 = S2 at *
 have hrq := refs_qLoop h l none 0
 simp only [P6] at h1
 generalize qLoop h l none 0 = QL at *
 have e0 : pR h [] = [(2, .box [.sl 1 0 0 0]), (1, .arr [] 0 15), (0, .box [iv h.doors, iv h.base, csl h.t0, csl h.t1, csl h.t2])] := rfl
 rw [e0] at h1 ⊢
 simp only [capH, capL, asl, csl, sc, bgS, iv] at *
 generalize cI h.t0 = A0 at *
 generalize cI h.t1 = A1 at *
 generalize cI h.t2 = A2 at *
 generalize rowC ac l = A at *
 simp only [Int.natCast_zero] at h1
 rcases h2 with rfl | rfl
 ·simp -implicitDefEqProofs [c135, kb, -refsO]
  rw [h1]
  simp
 ·simp -implicitDefEqProofs [c135, kb, -refsO]
  rw [h1]
  simp

abbrev nilS : AVal := .p (.sl [] 0)
def folR (h : HallI) (l : List ActI) : AVal :=
 if actsE h l ≠ 0 then .tup [nilS, iv 0, iv (actsE h l)] else if (runH h l).2 = true then .tup [.own (rowC sc (runH h l).1) (runH h l).1.length 15, iv 0, iv 0] else .tup [nilS, iv (runH h l).1.length, iv 21]
theorem act_ok {h : HallI} (hd : h.doors ≤ 8) {x : ActI} (he : actE h x = 0) : ActOk x := by
 unfold actE at he
 split at he
 ·omega
 ·rename_i h0
  split at he
  ·cases he
  ·rename_i h1
   split at he
   ·cases he
   ·rename_i h2
    have h0 : rangeE 0 100000000 x.tick = 0 := by simpa using h0
    unfold rangeE at h0
    split at h0
    ·cases h0
    ·refine ⟨⟨by simpa using h1, fun e => ?_, fun e => ?_⟩, by omega, by omega⟩
     ·simp only [numsE, e, if_true] at h2; omega
     ·have hd : doorB x.kind = false := by
       cases hq : doorB x.kind with
       | false => rfl
       | true =>
        unfold doorB at hq
        simp only [Bool.or_eq_true, beq_iff_eq] at hq
        rcases hq with ((hq | hq) | hq) | hq <;> rw [hq] at e <;> exact absurd e (by decide)
      simp only [numsE, hd, Bool.false_eq_true, if_false, e, if_true] at h2; omega
theorem acts_ok {h : HallI} {l : List ActI} (he : actsE h l = 0) : hallE h = 0 ∧ l.length ≤ 1000 ∧ ∀ x ∈ l, actE h x = 0 := by
 unfold actsE at he
 split at he
 ·rename_i h0
  have h1 := firstE_zero.1 h0 (hallE h) (by simp)
  have h2 := firstE_zero.1 h0 (whenE (decide (1000 < l.length)) 5) (by simp)
  refine ⟨h1, ?_, fun x hx => ?_⟩
  ·by_cases h3 : 1000 < l.length
   ·simp [whenE, h3] at h2
   ·omega
  ·obtain ⟨i, hi, rfl⟩ := List.getElem_of_mem hx
   have := firstE_zero.1 he _ (List.mem_map.2 ⟨i, List.mem_range.2 hi, rfl⟩)
   rwa [getA hi] at this
 ·rename_i h0; exact absurd he h0
theorem tab_le {l : List (Int × Int)} (h : tabE l = 0) : ∀ i, i < l.length → (l.getD i (0, 0)).2 ≤ 1000000 := by
 unfold tabE at h
 split at h
 ·cases h
 ·split at h
  ·cases h
  ·have hE := firstE_zero.1 h
   intro i hi
   have h2 := firstE_zero.1 (hE (stE (prvL l i) (l.getD i (0, 0)) (decide (i = 0))) (List.mem_map.2 ⟨i, List.mem_range.2 hi, rfl⟩)) (rangeE 0 1000000 (l.getD i (0, 0)).2) (by simp)
   unfold rangeE at h2
   split at h2
   ·cases h2
   ·omega
theorem wtP_le {l : List (Int × Int)} (h : ∀ i, i < l.length → (l.getD i (0, 0)).2 ≤ 1000000) (v acc : Int) (ha : 0 ≤ acc ∧ acc ≤ 1000000) : ∀ i, i ≤ l.length → 0 ≤ wtP l v acc i ∧ wtP l v acc i ≤ 1000000 := by
 intro i
 induction i with
 | zero => intro _; exact ha
 | succ i ih =>
  intro hi
  have h1 := ih (by omega)
  have h2 := h i (by omega)
  simp only [wtP]
  split <;> omega
theorem hall_ok {h : HallI} (hz : hallE h = 0) (q0 : h.t0.length < 1000000) (q1 : h.t1.length < 1000000) (q2 : h.t2.length < 1000000) : HallOk h := by
 have hE := firstE_zero.1 hz
 have hb := hE (rangeE 0 1000000 h.base) (by simp)
 unfold rangeE at hb
 split at hb
 ·cases hb
 ·refine ⟨q0, q1, q2, by omega, by omega, fun a b c => ?_⟩
  unfold waitP
  have h0 := wtP_le (tab_le (hE _ (by simp) : tabE h.t0 = 0)) a 0 (by omega) h.t0.length (Nat.le_refl _)
  have h1 := wtP_le (tab_le (hE _ (by simp) : tabE h.t1 = 0)) b _ h0 h.t1.length (Nat.le_refl _)
  exact wtP_le (tab_le (hE _ (by simp) : tabE h.t2 = 0)) c _ h1 h.t2.length (Nat.le_refl _)

theorem followed60 {n : Nat} (hn : 9 ≤ n) (h : HallI) (q0 : h.t0.length < 1000000) (q1 : h.t1.length < 1000000) (q2 : h.t2.length < 1000000) (l : List ActI) (hl : l.length < 50000) : RUN n 60 [ha h, asl l] = .ret (folR h l) := by
 obtain ⟨d, rfl⟩ : ∃ d, n = d + 9 := ⟨n - 9, by omega⟩
 rw [RUN, call_eq fe60 _ rfl]
 have ke := acts62 (n := d + 8) (by omega) h q0 q1 q2 l (by omega)
 have ks := states108 (n := d + 8) (by omega) h l
 unfold folR
 by_cases h0 : actsE h l = 0
 ·obtain ⟨z1, z2, z3⟩ := acts_ok h0
  have hd := (doors_of z1).2
  obtain ⟨X, r1, r2⟩ := run135 (d := d + 1) h (hall_ok z1 q0 q1 q2) l hl (fun x hx => act_ok hd (z3 x hx))
  have hlen := runG_len h.base (wP h) l bgS
  rw [show runG h.base (wP h) bgS l = runH h l from rfl] at hlen
  obtain ⟨g1, g2⟩ := hlen
  rw [h0] at ke
  rw [if_neg (by simpa using h0)]
  have r1 : evFn F C0 G0 (d + 8) (.fn 135) [.yld 3, .p (capL l), .p (capH h)] ((3, qLoop h l none 0) :: pR h []) = .ret (.tup [], X ++ (3, qLoop h l none 0) :: pR h (runH h l).1) := r1
  have e0 : pR h [] = [(2, .box [.sl 1 0 0 0]), (1, .arr [] 0 15), (0, .box [iv h.doors, iv h.base, csl h.t0, csl h.t1, csl h.t2])] := rfl
  rw [e0] at r1
  have hR := sR_len (runH h l).1
  have hlt : if (runH h l).2 = true then l.length ≤ (runH h l).1.length else (runH h l).1.length < l.length := by
   cases hb : (runH h l).2 with
   | true => have := g2.1 hb; simp only [if_true]; omega
   | false =>
    have : ¬ (runH h l).1.length = l.length := fun e => by rw [g2.2 e] at hb; cases hb
    simp only [Bool.false_eq_true, if_false]; omega
  simp only [qLoop, pR, capH, capL, ha, csl, asl] at *
  generalize cI h.t0 = A0 at *
  generalize cI h.t1 = A1 at *
  generalize cI h.t2 = A2 at *
  generalize rowC ac l = A at *
  generalize rowC sc (runH h l).1 = B at *
  generalize (runH h l).2 = w at *
  generalize (runH h l).1.length = y at *
  rcases r2 with ⟨c4, rfl⟩ | ⟨c5, c4, rfl⟩
  ·cases w <;> simp only [Bool.false_eq_true, if_false, if_true] at hlt <;> simp -implicitDefEqProofs [c60, ke, ks, r1, hlt, hR, rfunK, callee]
  ·cases w <;> simp only [Bool.false_eq_true, if_false, if_true] at hlt <;> simp -implicitDefEqProofs [c60, ke, ks, r1, hlt, hR, rfunK, callee]
 ·rw [if_pos h0]
  generalize actsE h l = e at *
  simp only [ha, csl, asl] at *
  generalize cI h.t0 = A0 at *
  generalize cI h.t1 = A1 at *
  generalize cI h.t2 = A2 at *
  generalize rowC ac l = A at *
  simp -implicitDefEqProofs [c60, ke, h0]
end Fw
end

section
set_option maxHeartbeats 16000000
namespace Fw
open Go

def S76 (h : HallI) (l : List ActI) (s : StaI) (out : List StaI) (i : Nat) : St := ⟨[(1, asl l), (2, .ptr 0 0 0), (6, .sl 1 out.length 0 out.length), (7, .ptr 2 0 0), (8, iv i)], [(2, .arr (sc s) 0 1), (1, .arr (rowC sc out) out.length 15), (0, .box [iv h.doors, iv h.base, csl h.t0, csl h.t1, csl h.t2])]⟩
structure RunOk (h : HallI) (l : List ActI) : Prop where
 hall : hallE h = 0
 q0 : h.t0.length < 1000000
 q1 : h.t1.length < 1000000
 q2 : h.t2.length < 1000000
 len : l.length < 50000
 acts : ∀ x ∈ l, ActOk x
theorem RunOk.ok {h : HallI} {l : List ActI} (r : RunOk h l) : HallOk h := hall_ok r.hall r.q0 r.q1 r.q2
theorem round115 {d : Nat} (h : HallI) (l : List ActI) (R : RunOk h l) (s : StaI) (out : List StaI) (ho : out.length < 100000) (i : Nat) (hi : i < l.length) (hs : StOk s) (hr : (reaL s l[i]).length = 0) :
  loopS (evFn F C0 G0 (d + 6)) C0 G0 0 false [1, 2, 6, 7, 8] c115L0 (S76 h l s out i) = .ret (.normal, S76 h l (aftS h.base (wP h l[i]) s l[i]) (out ++ [aftS h.base (wP h l[i]) s l[i]]) (i + 1)) := by
 obtain ⟨q0, q1, q2, b1, b2, hw⟩ := R.ok
 have hln := R.len
 obtain ⟨hn, ht⟩ := R.acts _ (List.getElem_mem hi)
 have kr := reasons140 (n := d + 6) (by omega) s l[i] hn hs.2.1
 have hws := wait_same h R.hall l[i].a l[i].b l[i].c
 have ka := after141 (n := d + 6) (by omega) h q0 q1 q2 s l[i] hn hs ⟨b1, b2⟩ ht (by rw [← hws]; exact hw _ _ _)
 rw [← hws] at ka
 rw [hr] at kr
 have hr0 : reaL s l[i] = [] := List.eq_nil_of_length_eq_zero hr
 rw [hr0] at kr
 simp only [wP]
 generalize aftS h.base (waitP h l[i].a l[i].b l[i].c) s l[i] = s' at *
 have hR := aR_len l
 have hlt : i * 6 < l.length * 6 := by omega
 have hlt6 : i * 6 + 6 ≤ l.length * 6 := by omega
 have wi := wrap_succ (i := i) (by omega)
 have hdr := rowC_drop ac_len l i hi
 have hlim : out.length + 1 ≤ lim := by simp only [lim]; omega
 have hO := sR_len out
 have ho2 : rowC sc (out ++ [s']) = rowC sc out ++ sc s' := rowC_snoc ..
 simp only [S76, asl, ho2]
 generalize hA : rowC ac l = A at *
 generalize rowC ac (l.drop (i + 1)) = R2 at *
 generalize l[i] = x at *
 obtain ⟨t, k, m, a, b, c⟩ := x
 obtain ⟨st, o0, o1, o2, o3, o4, o5, o6, o7, k0, k1, pp, ar, sh, ad⟩ := s
 obtain ⟨st', o0', o1', o2', o3', o4', o5', o6', o7', k0', k1', pp', ar', sh', ad'⟩ := s'
 simp only [sc, ac, ha, csl, pStr_nil] at *
 generalize cI h.t0 = A0 at *
 generalize cI h.t1 = A1 at *
 generalize cI h.t2 = A2 at *
 simp -implicitDefEqProofs [loopS_eq, c115L0, hi, hR, hlt, hdr, kr, ka, wi, hlim, hO]
theorem stop115 {d : Nat} (h : HallI) (l : List ActI) (R : RunOk h l) (s : StaI) (out : List StaI) (i : Nat) (hi : i < l.length) (hs : StOk s) (hr : (reaL s l[i]).length ≠ 0) :
  loopS (evFn F C0 G0 (d + 6)) C0 G0 0 false [1, 2, 6, 7, 8] c115L0 (S76 h l s out i) = .ret (.ret, ⟨[(4, .sl 1 out.length 0 out.length), (5, iv i)], (S76 h l s out i).sto⟩) := by
 obtain ⟨hn, ht⟩ := R.acts _ (List.getElem_mem hi)
 have hln := R.len
 have kr := reasons140 (n := d + 6) (by omega) s l[i] hn hs.2.1
 have hR := aR_len l
 have hlt : i * 6 < l.length * 6 := by omega
 have hlt6 : i * 6 + 6 ≤ l.length * 6 := by omega
 have hdr := rowC_drop ac_len l i hi
 have hpos : 0 < (reaL s l[i]).length := by omega
 have hpi : (0 : Int) < (reaL s l[i]).length := by omega
 have hQ : (pStr (reaL s l[i])).length = (reaL s l[i]).length := by simp
 simp only [S76, asl]
 generalize hA : rowC ac l = A at *
 generalize rowC ac (l.drop (i + 1)) = R2 at *
 generalize pStr (reaL s l[i]) = PQ at *
 generalize (reaL s l[i]).length = z at *
 generalize l[i] = x at *
 obtain ⟨t, k, m, a, b, c⟩ := x
 obtain ⟨st, o0, o1, o2, o3, o4, o5, o6, o7, k0, k1, pp, ar, sh, ad⟩ := s
 simp only [sc, ac, csl] at *
 simp -implicitDefEqProofs [loopS_eq, c115L0, hi, hR, hlt, hdr, kr, hpos]
theorem loop115 {d : Nat} (h : HallI) (l : List ActI) (R : RunOk h l) : ∀ (r : List ActI) (i : Nat) (s : StaI) (out : List StaI) (fuel : Nat), l.drop i = r → i + r.length = l.length → out.length = i → StOk s → r.length + 1 < fuel →
  ∃ s' , loopN (loopS (evFn F C0 G0 (d + 6)) C0 G0 0 false [1, 2, 6, 7, 8] c115L0) fuel (S76 h l s out i) = .ret (if (runG h.base (wP h) s r).2 = true then (.exit 0, ⟨(S76 h l s' (out ++ (runG h.base (wP h) s r).1) l.length).env ++ [(13, .p (.bool false))], (S76 h l s' (out ++ (runG h.base (wP h) s r).1) l.length).sto⟩)
   else (.ret, ⟨[(4, .sl 1 (out ++ (runG h.base (wP h) s r).1).length 0 (out ++ (runG h.base (wP h) s r).1).length), (5, iv (out ++ (runG h.base (wP h) s r).1).length)], (S76 h l s' (out ++ (runG h.base (wP h) s r).1) i).sto⟩)) := by
 intro r
 induction r with
 | nil =>
  intro i s out fuel hd hi ho hs hf
  simp only [List.length_nil, Nat.add_zero] at hi
  refine ⟨s, ?_⟩
  have he : loopS (evFn F C0 G0 (d + 6)) C0 G0 0 false [1, 2, 6, 7, 8] c115L0 (S76 h l s out i) = .ret (.exit 0, ⟨(S76 h l s out i).env ++ [(13, .p (.bool false))], (S76 h l s out i).sto⟩) := by
   subst hi
   simp -implicitDefEqProofs [loopS_eq, c115L0, S76]
  rw [loopN_end he (by simp) (by omega)]
  simp [runG, hi]
 | cons x r ih =>
  intro i s out fuel hd hi ho hs hf
  simp only [List.length_cons] at hi hf
  have hil : i < l.length := by omega
  rw [List.drop_eq_getElem_cons hil] at hd
  injection hd with h1 h2
  have hln := R.len
  by_cases hr : (reaL s l[i]).length = 0
  ·have hstep := round115 (d := d) h l R s out (by omega) i hil hs hr
   rw [loopN_on hstep (by omega)]
   obtain ⟨s', g1⟩ := ih (i + 1) (aftS h.base (wP h l[i]) s l[i]) (out ++ [aftS h.base (wP h l[i]) s l[i]]) (fuel - 1) h2 (by omega) (by simp [ho]) (aft_ok hs (R.acts _ (List.getElem_mem hil)) hr _ _) (by omega)
   refine ⟨s', ?_⟩
   rw [g1]
   rw [h1] at hr ⊢
   simp only [runG, hr, if_true, List.append_assoc, List.cons_append, List.nil_append]
   rfl
  ·have he := stop115 (d := d) h l R s out i hil hs hr
   refine ⟨s, ?_⟩
   rw [loopN_end he (by simp) (by omega)]
   rw [h1] at hr
   simp [runG, hr, ho]
theorem run115 {n : Nat} (hn : 8 ≤ n) (h : HallI) (l : List ActI) (R : RunOk h l) : RUN n 115 [ha h, asl l] = .ret (.tup [.own (rowC sc (runH h l).1) (runH h l).1.length 15, iv (if (runH h l).2 = true then -1 else (runH h l).1.length)]) := by
 obtain ⟨d, rfl⟩ : ∃ d, n = d + 7 := ⟨n - 7, by omega⟩
 rw [RUN, call_eq fe115 _ rfl]
 obtain ⟨s', key⟩ := loop115 (d := d) h l R l 0 bgS [] loopFuel rfl (by omega) rfl bg_ok (by have := R.len; simp [loopFuel]; omega)
 simp only [List.nil_append] at key
 rw [show runG h.base (wP h) bgS l = runH h l from rfl] at key
 have kb := begin139 (n := d + 6) (by omega)
 have hO := sR_len (runH h l).1
 generalize (runH h l).2 = w at *
 simp only [S76, asl, sc, bgS, iv, rowC_nil] at *
 generalize hB : rowC sc (runH h l).1 = B at *
 generalize (runH h l).1.length = y at *
 simp only [ha, csl] at *
 generalize cI h.t0 = A0 at *
 generalize cI h.t1 = A1 at *
 generalize cI h.t2 = A2 at *
 generalize rowC ac l = A at *
 simp only [Int.natCast_zero, List.length_nil] at key
 cases w
 ·simp only [Bool.false_eq_true, if_false] at key
  simp -implicitDefEqProofs [c115, kb]
  rw [key]
  simp -implicitDefEqProofs [hO]
 ·simp only [if_true] at key
  simp -implicitDefEqProofs [c115, kb]
  rw [key]
  simp -implicitDefEqProofs [hO]
end Fw
end

section
set_option maxHeartbeats 16000000
namespace Fw
open Go

def zS : StaI := ⟨0, false, false, false, false, false, false, false, false, false, false, 0, false, 0, 0⟩
def chkE (h : HallI) (l : List ActI) : Int := if actsE h l ≠ 0 then actsE h l else if (runH h l).2 = true then 0 else 21
theorem run_ok {h : HallI} (q0 : h.t0.length < 1000000) (q1 : h.t1.length < 1000000) (q2 : h.t2.length < 1000000) {l : List ActI} (hl : l.length < 50000) (he : actsE h l = 0) : RunOk h l := by
 obtain ⟨z1, z2, z3⟩ := acts_ok he
 exact ⟨z1, q0, q1, q2, hl, fun x hx => act_ok (doors_of z1).2 (z3 x hx)⟩
theorem runH_lt (h : HallI) {l : List ActI} (hl : l.length < 50000) : (runH h l).1.length < 50000 := by
 have := (runG_len h.base (wP h) l bgS).1
 rw [show runG h.base (wP h) bgS l = runH h l from rfl] at this
 omega
theorem check67 {n : Nat} (hn : 9 ≤ n) (h : HallI) (q0 : h.t0.length < 1000000) (q1 : h.t1.length < 1000000) (q2 : h.t2.length < 1000000) (l : List ActI) (hl : l.length < 50000) : RUN n 67 [ha h, asl l] = .ret (iv (chkE h l)) := by
 obtain ⟨d, rfl⟩ : ∃ d, n = d + 9 := ⟨n - 9, by omega⟩
 rw [RUN, call_eq fe67 _ rfl]
 have k22 := acts114 (n := d + 8) (by omega) h q0 q1 q2 l (by omega)
 unfold chkE
 by_cases h0 : actsE h l = 0
 ·have k76 := run115 (n := d + 8) (by omega) h l (run_ok q0 q1 q2 hl h0)
  have kw := fun b => when47 (n := d + 8) (by omega) b 21
  rw [h0] at k22
  rw [if_neg (by simp [h0])]
  have hnb : (((runH h l).1.length : Int) != -1) = true := by simp
  generalize rowC sc (runH h l).1 = B at *
  generalize (runH h l).2 = w at *
  generalize (runH h l).1.length = y at *
  simp only [ha, csl, asl] at *
  generalize cI h.t0 = A0 at *
  generalize cI h.t1 = A1 at *
  generalize cI h.t2 = A2 at *
  generalize rowC ac l = A at *
  cases w
  ·simp only [Bool.false_eq_true, if_false] at k76 ⊢
   simp -implicitDefEqProofs [c67, k22, k76, hnb, kw, whenE]
  ·simp only [if_true] at k76 ⊢
   simp -implicitDefEqProofs [c67, k22, k76, kw, whenE]
 ·rw [if_pos h0]
  generalize actsE h l = e at *
  simp only [ha, csl, asl] at *
  generalize cI h.t0 = A0 at *
  generalize cI h.t1 = A1 at *
  generalize cI h.t2 = A2 at *
  generalize rowC ac l = A at *
  simp -implicitDefEqProofs [c67, k22, h0]
end Fw
end

section
set_option maxHeartbeats 16000000
set_option maxRecDepth 8000
namespace Fw
open Go

end Fw
end

section
set_option maxHeartbeats 16000000
set_option maxRecDepth 8000
namespace Fw
open Go

structure ActP (x : ActI) : Prop where
 k : x.kind ∈ kindL
 t : 0 ≤ x.tick ∧ x.tick ≤ 100000000
 n : 0 ≤ x.num ∧ x.num ≤ 8
 a : 0 ≤ x.a ∧ x.a ≤ 100000
 b : 0 ≤ x.b ∧ x.b ≤ 100000
 c : 0 ≤ x.c ∧ x.c ≤ 100000
theorem actP_of {h : HallI} (hd : h.doors ≤ 8) {x : ActI} (he : actE h x = 0) : ActP x := by
 unfold actE at he
 split at he
 ·omega
 ·rename_i h0
  split at he
  ·cases he
  ·rename_i h1
   split at he
   ·cases he
   ·rename_i h2
    have h0 : rangeE 0 100000000 x.tick = 0 := by simpa using h0
    unfold rangeE at h0
    have hn : numsE h x.kind ≤ 8 := by
     unfold numsE
     repeat' split
     all_goals omega
    have h3 : (0 ≤ x.a ∧ x.a ≤ 100000) ∧ (0 ≤ x.b ∧ x.b ≤ 100000) ∧ (0 ≤ x.c ∧ x.c ≤ 100000) := by
     split at he
     ·unfold valE at he
      have v1 := firstE_zero.1 he (rangeE 0 100000 x.a) (by simp)
      have v2 := firstE_zero.1 he (rangeE 0 100000 x.b) (by simp)
      have v3 := firstE_zero.1 he (rangeE 0 100000 x.c) (by simp)
      unfold rangeE at v1 v2 v3
      split at v1
      ·cases v1
      ·split at v2
       ·cases v2
       ·split at v3
        ·cases v3
        ·omega
     ·cases hz : zerB x.a x.b x.c with
      | false => rw [hz] at he; cases he
      | true =>
       simp only [zerB, Bool.and_eq_true, beq_iff_eq] at hz
       omega
    split at h0
    ·cases h0
    ·exact ⟨by simpa using h1, by omega, by omega, h3.1, h3.2.1, h3.2.2⟩
theorem kinds3 {k : List UInt8} (h : k ∈ kindL) : k.length ≤ 7 ∧ ((k = kMeasure ∧ doorB k = false ∧ keyB k = false) ∨ (¬ k = kMeasure ∧ k ∈ [kArm, kDisarm, kShoot] ∧ doorB k = false ∧ keyB k = false) ∨ (¬ k = kMeasure ∧ ¬ k ∈ [kArm, kDisarm, kShoot] ∧ (doorB k = true ∨ (doorB k = false ∧ keyB k = true)))) := by
 simp only [kindL, List.mem_cons, List.not_mem_nil, or_false] at h
 rcases h with h | h | h | h | h | h | h | h | h | h <;> subst h <;> decide
abbrev M129 (t m a b c : Int) (k : List UInt8) (S : List UInt8) (i : Nat) : St := ⟨[(1, .ptr 0 0 0), (3, sv S), (4, iv i)], [(0, .arr [.int .i64 t, .str k, .int .i64 m, .int .i64 a, .int .i64 b, .int .i64 c] 0 1)]⟩
end Fw
end

section
set_option maxHeartbeats 4000000
namespace Fw
open Go

end Fw
end

section
set_option maxHeartbeats 16000000
set_option maxRecDepth 8000
namespace Fw
open Go

theorem back27 {n : Nat} (hn : 1 ≤ n) (l : List ActI) (hl : l.length < 1000000) : RUN n 27 [asl l] = .ret (.own (rowC ac l) l.length 6) := by
 obtain ⟨d, rfl⟩ : ∃ d, n = d + 1 := ⟨n - 1, by omega⟩
 rw [RUN, call_eq fe27 _ rfl]
 let inv : Nat → St := fun i => ⟨[(3, .sl 0 i 0 i), (6, asl l), (7, iv l.length), (8, iv i)], [(0, .arr (rowC ac (l.take i)) i 6)]⟩
 have hR := aR_len l
 simp -implicitDefEqProofs [c27]
 rw [loop_run' inv l.length (e := .exit 0) (st' := ⟨(inv l.length).env ++ [(9, .p (.bool false))], (inv l.length).sto⟩) (by simp)]
 ·simp -implicitDefEqProofs [inv, hR]
 ·exact loopS_same rfl (by simp [inv])
 ·intro i hi
  have hlim : i + 1 ≤ lim := by simp only [lim]; omega
  have wi := wrap_succ (i := i) (by omega)
  have hti : (l.take i).length = i := by simp; omega
  have hln := aR_len (l.take i)
  rw [hti] at hln
  have hr : rowC ac (l.take (i + 1)) = rowC ac (l.take i) ++ ac l[i] := rowC_take _ _ hi
  have hlt : i * 6 < l.length * 6 := by omega
  have hlt6 : i * 6 + 6 ≤ l.length * 6 := by omega
  have hdr := rowC_drop ac_len l i hi
  simp only [inv]
  generalize hA : rowC ac l = A at *
  generalize rowC ac (l.take i) = R' at *
  generalize rowC ac (l.drop (i + 1)) = R2 at *
  generalize hv : l[i] = v at *
  refine ⟨?_, ?h1, ?h2⟩
  case h1 =>
   simp -implicitDefEqProofs [loopS_eq, c27L0, hi, hA, hR, hlt, hdr, ac, hlim, hln, wi]
   exact rfl
  case h2 => exact loopS_same rfl (by simp [hr, ac])
 ·simp -implicitDefEqProofs [inv, loopS_eq, c27L0]
 ·simp [loopFuel]; omega
end Fw
end

section
set_option maxHeartbeats 16000000
set_option maxRecDepth 8000
namespace Fw
open Go

abbrev iEnd (x : List UInt8) (v : Int) : Env := [(0, sv x), (4, iv v), (8, .it 0), (9, .tup [.p (.bool false)]), (10, .p (.bool false))]
abbrev rEnd : Env := [(2, iv 0), (3, .p (.bool false))]
end Fw
end

section
set_option maxHeartbeats 16000000
set_option maxRecDepth 8000
namespace Fw
open Go

abbrev tkA (ws : List (List UInt8)) (w : Bool) : Obj := .box [.p (.sl (pStr ws) ws.length), .p (.bool w)]
end Fw
end

section
set_option maxHeartbeats 16000000
set_option maxRecDepth 8000
namespace Fw
open Go

def wordsA : List (List UInt8) → Option ActI
 | [k, t] => if k ∈ [kArm, kDisarm, kShoot] ∧ digOk t = true then some ⟨digV t, k, 0, 0, 0, 0⟩ else none
 | [k, t, m] => if k ∈ kindL ∧ ¬ k = kMeasure ∧ ¬ k ∈ [kArm, kDisarm, kShoot] ∧ digOk t = true ∧ digOk m = true then some ⟨digV t, k, digV m, 0, 0, 0⟩ else none
 | [k, t, a, b, c] => if k = kMeasure ∧ digOk t = true ∧ digOk a = true ∧ digOk b = true ∧ digOk c = true then some ⟨digV t, k, 0, digV a, digV b, digV c⟩ else none
 | _ => none
def actW (w : List UInt8) : Option ActI := wordsA (splitS 32 w)
end Fw
end

section
set_option maxHeartbeats 16000000
set_option maxRecDepth 8000
namespace Fw
open Go

abbrev vsK : List PVal := [.int .i64 0, .int .i64 1, .int .i64 2, .int .i64 3, .int .i64 4, .int .i64 5, .int .i64 6, .int .i64 7, .int .i64 8, .int .i64 9]
abbrev mX (v : Int) (k : List UInt8) (a b c : Int) : Obj := .arr [.int .i64 v, .str k, .int .i64 0, .int .i64 a, .int .i64 b, .int .i64 c] 0 1
abbrev mZ : Obj := .arr [.int .i64 0, .str [], .int .i64 0, .int .i64 0, .int .i64 0, .int .i64 0] 0 1
end Fw
end

section
set_option maxHeartbeats 16000000
set_option maxRecDepth 8000
namespace Fw
open Go

def hc (h : HallI) : List AVal := [iv h.doors, iv h.base, csl h.t0, csl h.t1, csl h.t2]
end Fw
end

section
set_option maxHeartbeats 16000000
set_option maxRecDepth 8000
namespace Fw
open Go

def goL : List (List UInt8) → List ActI → Bool × List ActI
 | [], out => (true, out)
 | w :: q, out => match q with
  | [] => (decide (w = []), out)
  | _ :: _ => match actW w with
   | some x => goL q (out ++ [x])
   | none => (false, out)

def lE : Env := [(0, .yld 7), (1, .ptr 6 0 0)]

end Fw
end

section
set_option maxHeartbeats 16000000
set_option maxRecDepth 8000
namespace Fw
open Go

end Fw
end

