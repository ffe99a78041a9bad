/- Several texts in one: steps of the proof, no condition of their own. -/
import Derived.Test.YthiklnppmlmjeaaDoorTgH3
attribute [local irreducible] Fw.evCode Fw.evOps Fw.evOpsD Fw.evOper Fw.evOperD Fw.evOp Fw.evFn Fw.loopN Fw.T.All Fw.T.bind Fw.callPure Fw.callOp Fw.opsK Fw.opsDK Fw.restK Fw.seqK Fw.blockK Fw.loopS Fw.setK Fw.setQ Fw.giveK Fw.scalK Fw.gcK Fw.finish Fw.finS Fw.rfunK Fw.yldK Fw.yldB Fw.loopK
section
set_option maxHeartbeats 16000000
namespace Fw
open Go

def wtP (l : List (Int × Int)) (v acc : Int) : Nat → Int
 | 0 => acc
 | i + 1 => if (l.getD i (0, 0)).1 ≤ v then max (wtP l v acc i) (l.getD i (0, 0)).2 else wtP l v acc i
def waitP (h : HallI) (a b c : Int) : Int := wtP h.t2 c (wtP h.t1 b (wtP h.t0 a 0 h.t0.length) h.t1.length) h.t2.length
theorem in59 {d : Nat} (l : List (Int × Int)) (hl : l.length < 1000000) (x y z : PVal) (a b c acc : Int) (k : Nat) (v : Int) (hv : (k = 0 ∧ v = a) ∨ (k = 1 ∧ v = b) ∨ (k = 2 ∧ v = c)) :
  loopN (loopS (evFn F C0 G0 d) C0 G0 0 true [3, 5, 6, 11, 12, 16, 17, 18] c59L0) loopFuel ⟨[(3, .ptr 1 0 0), (5, iv acc), (6, iv k), (11, .agg [.p x, .p y, .p z]), (12, iv k), (16, csl l), (17, iv l.length), (18, iv 0)], [(1, .arr [.int .i64 a, .int .i64 b, .int .i64 c] 0 1)]⟩ =
  .ret (.exit 2, ⟨[(3, .ptr 1 0 0), (5, iv (wtP l v acc l.length)), (6, iv k), (11, .agg [.p x, .p y, .p z]), (12, iv k), (16, csl l), (17, iv l.length), (18, iv l.length), (19, .p (.bool false))], [(1, .arr [.int .i64 a, .int .i64 b, .int .i64 c] 0 1)]⟩) := by
 refine loop_run' (fun i => ⟨[(3, .ptr 1 0 0), (5, iv (wtP l v acc i)), (6, iv k), (11, .agg [.p x, .p y, .p z]), (12, iv k), (16, csl l), (17, iv l.length), (18, iv i)], [(1, .arr [.int .i64 a, .int .i64 b, .int .i64 c] 0 1)]⟩) l.length (by simp) rfl ?_ ?_ (by simp [loopFuel]; omega)
 ·intro i hi
  have hx := cI_drop l i hi
  have hlt : i * 2 < l.length * 2 := by omega
  have wi := wrap_succ (i := i) (by omega)
  have hg : l.getD i (0, 0) = l[i] := by simp [List.getD_eq_getElem?_getD, hi]
  have hcl := cI_length l
  have mx := fun a b => max2 a b
  have hs : wtP l v acc (i + 1) = if l[i].1 ≤ v then max (wtP l v acc i) l[i].2 else wtP l v acc i := by simp only [wtP, hg]
  simp only [hs, csl]
  generalize wtP l v acc i = w at *
  generalize cI (l.drop (i + 1)) = R2 at *
  generalize cI l = A at *
  generalize l[i] = s at *
  obtain ⟨s1, s2⟩ := s
  simp only at hx ⊢
  rcases hv with ⟨rfl, rfl⟩ | ⟨rfl, rfl⟩ | ⟨rfl, rfl⟩
  all_goals
   by_cases c1 : s1 ≤ v
   all_goals
    refine ⟨?_, ?h1, ?h2⟩
    case h1 =>
     simp -implicitDefEqProofs [loopS_eq, c59L0, hi, hx, hlt, hcl, wi, mx, c1]
     exact rfl
    case h2 => exact loopS_same (by simp [c1]) (by simp [c1])
 ·simp -implicitDefEqProofs [loopS_eq, c59L0]
theorem wait59 {n : Nat} (hn : 1 ≤ n) (h : HallI) (h0 : h.t0.length < 1000000) (h1 : h.t1.length < 1000000) (h2 : h.t2.length < 1000000) (a b c : Int) : RUN n 59 [ha h, v3 a b c] = .ret (iv (waitP h a b c)) := by
 obtain ⟨d, rfl⟩ : ∃ d, n = d + 1 := ⟨n - 1, by omega⟩
 rw [RUN, call_eq fe59 _ rfl]
 have i0 := in59 (d := d) h.t0 h0 (.sl (cI h.t0) h.t0.length) (.sl (cI h.t1) h.t1.length) (.sl (cI h.t2) h.t2.length) a b c 0 0 a (.inl ⟨rfl, rfl⟩)
 generalize hw0 : wtP h.t0 a 0 h.t0.length = w0 at *
 have i1 := in59 (d := d) h.t1 h1 (.sl (cI h.t0) h.t0.length) (.sl (cI h.t1) h.t1.length) (.sl (cI h.t2) h.t2.length) a b c w0 1 b (.inr (.inl ⟨rfl, rfl⟩))
 generalize hw1 : wtP h.t1 b w0 h.t1.length = w1 at *
 have i2 := in59 (d := d) h.t2 h2 (.sl (cI h.t0) h.t0.length) (.sl (cI h.t1) h.t1.length) (.sl (cI h.t2) h.t2.length) a b c w1 2 c (.inr (.inr ⟨rfl, rfl⟩))
 generalize hw2 : wtP h.t2 c w1 h.t2.length = w2 at *
 have hP : waitP h a b c = w2 := by simp only [waitP, hw0, hw1, hw2]
 rw [hP]
 simp only [iv, csl, Int.natCast_zero, Int.natCast_one, show ((2 : Nat) : Int) = 2 from rfl] at i0 i1 i2
 simp only [ha, csl]
 generalize cI h.t0 = A0 at *
 generalize cI h.t1 = A1 at *
 generalize cI h.t2 = A2 at *
 have e1 : IntKind.i64.wrap 1 = 1 := by decide
 have e2 : IntKind.i64.wrap 2 = 2 := by decide
 have e3 : IntKind.i64.wrap 3 = 3 := by decide
 simp -implicitDefEqProofs [c59]
 have s0 : loopS (evFn F C0 G0 d) C0 G0 0 true [3, 5, 11, 12] c59L1 ⟨[(3, .ptr 1 0 0), (5, iv 0), (11, .agg [.p (.sl A0 h.t0.length), .p (.sl A1 h.t1.length), .p (.sl A2 h.t2.length)]), (12, iv 0)], [(1, .arr [.int .i64 a, .int .i64 b, .int .i64 c] 0 1), (0, .box [iv h.doors, iv h.base, .p (.sl A0 h.t0.length), .p (.sl A1 h.t1.length), .p (.sl A2 h.t2.length)])]⟩ = .ret (.normal, ⟨[(3, .ptr 1 0 0), (5, iv w0), (11, .agg [.p (.sl A0 h.t0.length), .p (.sl A1 h.t1.length), .p (.sl A2 h.t2.length)]), (12, iv 1)], [(1, .arr [.int .i64 a, .int .i64 b, .int .i64 c] 0 1)]⟩) := by
  simp -implicitDefEqProofs [loopS_eq, c59L1]
  rw [i0]
  simp -implicitDefEqProofs [e1]
 have s1 : loopS (evFn F C0 G0 d) C0 G0 0 true [3, 5, 11, 12] c59L1 ⟨[(3, .ptr 1 0 0), (5, iv w0), (11, .agg [.p (.sl A0 h.t0.length), .p (.sl A1 h.t1.length), .p (.sl A2 h.t2.length)]), (12, iv 1)], [(1, .arr [.int .i64 a, .int .i64 b, .int .i64 c] 0 1)]⟩ = .ret (.normal, ⟨[(3, .ptr 1 0 0), (5, iv w1), (11, .agg [.p (.sl A0 h.t0.length), .p (.sl A1 h.t1.length), .p (.sl A2 h.t2.length)]), (12, iv 2)], [(1, .arr [.int .i64 a, .int .i64 b, .int .i64 c] 0 1)]⟩) := by
  simp -implicitDefEqProofs [loopS_eq, c59L1]
  rw [i1]
  simp -implicitDefEqProofs [e2]
 have s2 : loopS (evFn F C0 G0 d) C0 G0 0 true [3, 5, 11, 12] c59L1 ⟨[(3, .ptr 1 0 0), (5, iv w1), (11, .agg [.p (.sl A0 h.t0.length), .p (.sl A1 h.t1.length), .p (.sl A2 h.t2.length)]), (12, iv 2)], [(1, .arr [.int .i64 a, .int .i64 b, .int .i64 c] 0 1)]⟩ = .ret (.normal, ⟨[(3, .ptr 1 0 0), (5, iv w2), (11, .agg [.p (.sl A0 h.t0.length), .p (.sl A1 h.t1.length), .p (.sl A2 h.t2.length)]), (12, iv 3)], [(1, .arr [.int .i64 a, .int .i64 b, .int .i64 c] 0 1)]⟩) := by
  simp -implicitDefEqProofs [loopS_eq, c59L1]
  rw [i2]
  simp -implicitDefEqProofs [e3]
 have s3 : loopS (evFn F C0 G0 d) C0 G0 0 true [3, 5, 11, 12] c59L1 ⟨[(3, .ptr 1 0 0), (5, iv w2), (11, .agg [.p (.sl A0 h.t0.length), .p (.sl A1 h.t1.length), .p (.sl A2 h.t2.length)]), (12, iv 3)], [(1, .arr [.int .i64 a, .int .i64 b, .int .i64 c] 0 1)]⟩ = .ret (.exit 0, ⟨[(3, .ptr 1 0 0), (5, iv w2), (11, .agg [.p (.sl A0 h.t0.length), .p (.sl A1 h.t1.length), .p (.sl A2 h.t2.length)]), (12, iv 3), (13, .p (.bool false))], [(1, .arr [.int .i64 a, .int .i64 b, .int .i64 c] 0 1)]⟩) := by
  simp -implicitDefEqProofs [loopS_eq, c59L1]
 rw [loopN_on s0 (by simp [loopFuel]), loopN_on s1 (by simp [loopFuel]), loopN_on s2 (by simp [loopFuel]), loopN_end s3 (by simp) (by simp [loopFuel])]
 simp -implicitDefEqProofs []
end Fw
end

section
set_option maxHeartbeats 16000000
namespace Fw
open Go

theorem cI_take (l : List (Int × Int)) (i : Nat) (hi : i < l.length) : cI (l.take (i + 1)) = cI (l.take i) ++ [.int .i64 l[i].1, .int .i64 l[i].2] := by
 rw [← List.take_append_getElem hi, cI_append]; rfl

abbrev z5 : Obj := .box [iv 0, iv 0, .p .nils, .p .nils, .p .nils]

theorem in17_0 {d : Nat} (l : List (Int × Int)) (hl : l.length < 1000000) (h0 : 0 < l.length) (x y z : PVal) (hd hb : Int) :
  loopN (loopS (evFn F C0 G0 d) C0 G0 0 true [2, 3, 4, 14, 15, 19, 20, 21] c17L0) loopFuel ⟨[(2, .ptr 1 0 0), (3, .ptr 2 0 0), (4, iv 0), (14, .agg [.p x, .p y, .p z]), (15, iv 0), (19, csl l), (20, iv l.length), (21, iv 0)], [(2, .box [iv hd, iv hb, .p .nils, .p .nils, .p .nils]), (1, z5)]⟩ =
  .ret (.exit 2, ⟨[(2, .ptr 1 0 0), (3, .ptr 2 0 0), (4, iv 0), (14, .agg [.p x, .p y, .p z]), (15, iv 0), (19, csl l), (20, iv l.length), (21, iv l.length), (22, .p (.bool false))], [(4, .arr (cI l) (l.length - 1) 2), (2, .box [iv hd, iv hb, .sl 4 (l.length - 1) 0 l.length, .p .nils, .p .nils]), (1, z5)]⟩) := by
 have htl : l.take l.length = l := List.take_of_length_le (by omega)
 have := loop_run' (step := loopS (evFn F C0 G0 d) C0 G0 0 true [2, 3, 4, 14, 15, 19, 20, 21] c17L0) (fun i => if i = 0 then ⟨[(2, .ptr 1 0 0), (3, .ptr 2 0 0), (4, iv 0), (14, .agg [.p x, .p y, .p z]), (15, iv 0), (19, csl l), (20, iv l.length), (21, iv 0)], [(2, .box [iv hd, iv hb, .p .nils, .p .nils, .p .nils]), (1, z5)]⟩ else ⟨[(2, .ptr 1 0 0), (3, .ptr 2 0 0), (4, iv 0), (14, .agg [.p x, .p y, .p z]), (15, iv 0), (19, csl l), (20, iv l.length), (21, iv i)], [(4, .arr (cI (l.take i)) (i - 1) 2), (2, .box [iv hd, iv hb, .sl 4 (i - 1) 0 i, .p .nils, .p .nils]), (1, z5)]⟩) l.length (e := .exit 2) (st' := ⟨[(2, .ptr 1 0 0), (3, .ptr 2 0 0), (4, iv 0), (14, .agg [.p x, .p y, .p z]), (15, iv 0), (19, csl l), (20, iv l.length), (21, iv l.length), (22, .p (.bool false))], [(4, .arr (cI l) (l.length - 1) 2), (2, .box [iv hd, iv hb, .sl 4 (l.length - 1) 0 l.length, .p .nils, .p .nils]), (1, z5)]⟩) (st0 := ⟨[(2, .ptr 1 0 0), (3, .ptr 2 0 0), (4, iv 0), (14, .agg [.p x, .p y, .p z]), (15, iv 0), (19, csl l), (20, iv l.length), (21, iv 0)], [(2, .box [iv hd, iv hb, .p .nils, .p .nils, .p .nils]), (1, z5)]⟩) (by simp) rfl (fun i hi => by
  have hx := cI_drop l i hi
  have hlt : i * 2 < l.length * 2 := by omega
  have wi := wrap_succ (i := i) (by omega)
  have hcl := cI_length l
  have htk := cI_take l i hi
  have hct := cI_length (l.take i)
  have hti : (l.take i).length = i := by simp; omega
  rw [hti] at hct
  have hlim : i + 1 ≤ lim := by simp only [lim]; omega
  simp only [csl]
  by_cases c0 : i = 0
  ·subst c0
   have w0 : IntKind.i64.wrap 1 = 1 := by decide
   have e1 : cI (l.take (0 + 1)) = [.int .i64 l[0].1, .int .i64 l[0].2] := by rw [htk]; rfl
   simp only [Nat.zero_mul, List.drop_zero] at hx
   rw [if_pos rfl, if_neg (by omega)]
   rw [e1]
   generalize cI (l.drop (0 + 1)) = R2 at *
   generalize cI l = A at *
   generalize l[0] = s at *
   have hlim1 : 1 ≤ lim := by decide
   refine ⟨?_, ?h1, ?h2⟩
   case h1 =>
    simp -implicitDefEqProofs [loopS_eq, c17L0, stOp, fresh, hi, hx, w0, hlim1]
    exact rfl
   case h2 => exact loopS_same (by simp [hx]) (by simp [hx])
  ·obtain ⟨j, rfl⟩ : ∃ j, i = j + 1 := ⟨i - 1, by omega⟩
   rw [if_neg c0, if_neg (by omega), htk]
   have ej : j + 1 - 1 = j := rfl
   have ej2 : j + 1 + 1 - 1 = j + 1 := rfl
   rw [ej, ej2]
   generalize cI (l.drop (j + 1 + 1)) = R2 at *
   generalize cI (l.take (j + 1)) = C at *
   generalize cI l = A at *
   generalize l[j + 1] = s at *
   generalize hij : j + 1 = i at *
   refine ⟨?_, ?h1, ?h2⟩
   case h1 =>
    simp -implicitDefEqProofs [loopS_eq, c17L0, stOp, fresh, hi, hx, hlt, hcl, hct, wi, hlim]
    exact rfl
   case h2 => exact loopS_same (by simp []) (by simp [hij])) (by
  rw [if_neg (by omega), htl]
  simp -implicitDefEqProofs [loopS_eq, c17L0]) (fuel := loopFuel) (by simp [loopFuel]; omega)
 exact this

theorem in17_1f {d : Nat} (l : List (Int × Int)) (hl : l.length < 1000000) (h0 : 0 < l.length) (x y z : PVal) (hd hb : Int) :
  loopN (loopS (evFn F C0 G0 d) C0 G0 0 true [2, 3, 4, 14, 15, 19, 20, 21] c17L0) loopFuel ⟨[(2, .ptr 1 0 0), (3, .ptr 2 0 0), (4, iv 1), (14, .agg [.p x, .p y, .p z]), (15, iv 1), (19, csl l), (20, iv l.length), (21, iv 0)], [(2, .box [iv hd, iv hb, .p .nils, .p .nils, .p .nils]), (1, z5)]⟩ =
  .ret (.exit 2, ⟨[(2, .ptr 1 0 0), (3, .ptr 2 0 0), (4, iv 1), (14, .agg [.p x, .p y, .p z]), (15, iv 1), (19, csl l), (20, iv l.length), (21, iv l.length), (22, .p (.bool false))], [(4, .arr (cI l) (l.length - 1) 2), (2, .box [iv hd, iv hb, .p .nils, .sl 4 (l.length - 1) 0 l.length, .p .nils]), (1, z5)]⟩) := by
 have htl : l.take l.length = l := List.take_of_length_le (by omega)
 have := loop_run' (step := loopS (evFn F C0 G0 d) C0 G0 0 true [2, 3, 4, 14, 15, 19, 20, 21] c17L0) (fun i => if i = 0 then ⟨[(2, .ptr 1 0 0), (3, .ptr 2 0 0), (4, iv 1), (14, .agg [.p x, .p y, .p z]), (15, iv 1), (19, csl l), (20, iv l.length), (21, iv 0)], [(2, .box [iv hd, iv hb, .p .nils, .p .nils, .p .nils]), (1, z5)]⟩ else ⟨[(2, .ptr 1 0 0), (3, .ptr 2 0 0), (4, iv 1), (14, .agg [.p x, .p y, .p z]), (15, iv 1), (19, csl l), (20, iv l.length), (21, iv i)], [(4, .arr (cI (l.take i)) (i - 1) 2), (2, .box [iv hd, iv hb, .p .nils, .sl 4 (i - 1) 0 i, .p .nils]), (1, z5)]⟩) l.length (e := .exit 2) (st' := ⟨[(2, .ptr 1 0 0), (3, .ptr 2 0 0), (4, iv 1), (14, .agg [.p x, .p y, .p z]), (15, iv 1), (19, csl l), (20, iv l.length), (21, iv l.length), (22, .p (.bool false))], [(4, .arr (cI l) (l.length - 1) 2), (2, .box [iv hd, iv hb, .p .nils, .sl 4 (l.length - 1) 0 l.length, .p .nils]), (1, z5)]⟩) (st0 := ⟨[(2, .ptr 1 0 0), (3, .ptr 2 0 0), (4, iv 1), (14, .agg [.p x, .p y, .p z]), (15, iv 1), (19, csl l), (20, iv l.length), (21, iv 0)], [(2, .box [iv hd, iv hb, .p .nils, .p .nils, .p .nils]), (1, z5)]⟩) (by simp) rfl (fun i hi => by
  have hx := cI_drop l i hi
  have hlt : i * 2 < l.length * 2 := by omega
  have wi := wrap_succ (i := i) (by omega)
  have hcl := cI_length l
  have htk := cI_take l i hi
  have hct := cI_length (l.take i)
  have hti : (l.take i).length = i := by simp; omega
  rw [hti] at hct
  have hlim : i + 1 ≤ lim := by simp only [lim]; omega
  simp only [csl]
  by_cases c0 : i = 0
  ·subst c0
   have w0 : IntKind.i64.wrap 1 = 1 := by decide
   have e1 : cI (l.take (0 + 1)) = [.int .i64 l[0].1, .int .i64 l[0].2] := by rw [htk]; rfl
   simp only [Nat.zero_mul, List.drop_zero] at hx
   rw [if_pos rfl, if_neg (by omega)]
   rw [e1]
   generalize cI (l.drop (0 + 1)) = R2 at *
   generalize cI l = A at *
   generalize l[0] = s at *
   have hlim1 : 1 ≤ lim := by decide
   refine ⟨?_, ?h1, ?h2⟩
   case h1 =>
    simp -implicitDefEqProofs [loopS_eq, c17L0, stOp, fresh, hi, hx, w0, hlim1]
    exact rfl
   case h2 => exact loopS_same (by simp [hx]) (by simp [hx])
  ·obtain ⟨j, rfl⟩ : ∃ j, i = j + 1 := ⟨i - 1, by omega⟩
   rw [if_neg c0, if_neg (by omega), htk]
   have ej : j + 1 - 1 = j := rfl
   have ej2 : j + 1 + 1 - 1 = j + 1 := rfl
   rw [ej, ej2]
   generalize cI (l.drop (j + 1 + 1)) = R2 at *
   generalize cI (l.take (j + 1)) = C at *
   generalize cI l = A at *
   generalize l[j + 1] = s at *
   generalize hij : j + 1 = i at *
   refine ⟨?_, ?h1, ?h2⟩
   case h1 =>
    simp -implicitDefEqProofs [loopS_eq, c17L0, stOp, fresh, hi, hx, hlt, hcl, hct, wi, hlim]
    exact rfl
   case h2 => exact loopS_same (by simp []) (by simp [hij])) (by
  rw [if_neg (by omega), htl]
  simp -implicitDefEqProofs [loopS_eq, c17L0]) (fuel := loopFuel) (by simp [loopFuel]; omega)
 exact this

theorem in17_1t {d : Nat} (l : List (Int × Int)) (hl : l.length < 1000000) (h0 : 0 < l.length) (x y z : PVal) (hd hb : Int) (A0 : List PVal) (v0 n0 : Nat) :
  loopN (loopS (evFn F C0 G0 d) C0 G0 0 true [2, 3, 4, 14, 15, 19, 20, 21] c17L0) loopFuel ⟨[(2, .ptr 1 0 0), (3, .ptr 2 0 0), (4, iv 1), (14, .agg [.p x, .p y, .p z]), (15, iv 1), (19, csl l), (20, iv l.length), (21, iv 0)], [(4, .arr A0 v0 2), (2, .box [iv hd, iv hb, .sl 4 v0 0 n0, .p .nils, .p .nils]), (1, z5)]⟩ =
  .ret (.exit 2, ⟨[(2, .ptr 1 0 0), (3, .ptr 2 0 0), (4, iv 1), (14, .agg [.p x, .p y, .p z]), (15, iv 1), (19, csl l), (20, iv l.length), (21, iv l.length), (22, .p (.bool false))], [(6, .arr (cI l) (l.length - 1) 2), (4, .arr A0 v0 2), (2, .box [iv hd, iv hb, .sl 4 v0 0 n0, .sl 6 (l.length - 1) 0 l.length, .p .nils]), (1, z5)]⟩) := by
 have htl : l.take l.length = l := List.take_of_length_le (by omega)
 have := loop_run' (step := loopS (evFn F C0 G0 d) C0 G0 0 true [2, 3, 4, 14, 15, 19, 20, 21] c17L0) (fun i => if i = 0 then ⟨[(2, .ptr 1 0 0), (3, .ptr 2 0 0), (4, iv 1), (14, .agg [.p x, .p y, .p z]), (15, iv 1), (19, csl l), (20, iv l.length), (21, iv 0)], [(4, .arr A0 v0 2), (2, .box [iv hd, iv hb, .sl 4 v0 0 n0, .p .nils, .p .nils]), (1, z5)]⟩ else ⟨[(2, .ptr 1 0 0), (3, .ptr 2 0 0), (4, iv 1), (14, .agg [.p x, .p y, .p z]), (15, iv 1), (19, csl l), (20, iv l.length), (21, iv i)], [(6, .arr (cI (l.take i)) (i - 1) 2), (4, .arr A0 v0 2), (2, .box [iv hd, iv hb, .sl 4 v0 0 n0, .sl 6 (i - 1) 0 i, .p .nils]), (1, z5)]⟩) l.length (e := .exit 2) (st' := ⟨[(2, .ptr 1 0 0), (3, .ptr 2 0 0), (4, iv 1), (14, .agg [.p x, .p y, .p z]), (15, iv 1), (19, csl l), (20, iv l.length), (21, iv l.length), (22, .p (.bool false))], [(6, .arr (cI l) (l.length - 1) 2), (4, .arr A0 v0 2), (2, .box [iv hd, iv hb, .sl 4 v0 0 n0, .sl 6 (l.length - 1) 0 l.length, .p .nils]), (1, z5)]⟩) (st0 := ⟨[(2, .ptr 1 0 0), (3, .ptr 2 0 0), (4, iv 1), (14, .agg [.p x, .p y, .p z]), (15, iv 1), (19, csl l), (20, iv l.length), (21, iv 0)], [(4, .arr A0 v0 2), (2, .box [iv hd, iv hb, .sl 4 v0 0 n0, .p .nils, .p .nils]), (1, z5)]⟩) (by simp) rfl (fun i hi => by
  have hx := cI_drop l i hi
  have hlt : i * 2 < l.length * 2 := by omega
  have wi := wrap_succ (i := i) (by omega)
  have hcl := cI_length l
  have htk := cI_take l i hi
  have hct := cI_length (l.take i)
  have hti : (l.take i).length = i := by simp; omega
  rw [hti] at hct
  have hlim : i + 1 ≤ lim := by simp only [lim]; omega
  simp only [csl]
  by_cases c0 : i = 0
  ·subst c0
   have w0 : IntKind.i64.wrap 1 = 1 := by decide
   have e1 : cI (l.take (0 + 1)) = [.int .i64 l[0].1, .int .i64 l[0].2] := by rw [htk]; rfl
   simp only [Nat.zero_mul, List.drop_zero] at hx
   rw [if_pos rfl, if_neg (by omega)]
   rw [e1]
   generalize cI (l.drop (0 + 1)) = R2 at *
   generalize cI l = A at *
   generalize l[0] = s at *
   have hlim1 : 1 ≤ lim := by decide
   refine ⟨?_, ?h1, ?h2⟩
   case h1 =>
    simp -implicitDefEqProofs [loopS_eq, c17L0, stOp, fresh, hi, hx, w0, hlim1]
    exact rfl
   case h2 => exact loopS_same (by simp [hx]) (by simp [hx])
  ·obtain ⟨j, rfl⟩ : ∃ j, i = j + 1 := ⟨i - 1, by omega⟩
   rw [if_neg c0, if_neg (by omega), htk]
   have ej : j + 1 - 1 = j := rfl
   have ej2 : j + 1 + 1 - 1 = j + 1 := rfl
   rw [ej, ej2]
   generalize cI (l.drop (j + 1 + 1)) = R2 at *
   generalize cI (l.take (j + 1)) = C at *
   generalize cI l = A at *
   generalize l[j + 1] = s at *
   generalize hij : j + 1 = i at *
   refine ⟨?_, ?h1, ?h2⟩
   case h1 =>
    simp -implicitDefEqProofs [loopS_eq, c17L0, stOp, fresh, hi, hx, hlt, hcl, hct, wi, hlim]
    exact rfl
   case h2 => exact loopS_same (by simp []) (by simp [hij])) (by
  rw [if_neg (by omega), htl]
  simp -implicitDefEqProofs [loopS_eq, c17L0]) (fuel := loopFuel) (by simp [loopFuel]; omega)
 exact this

theorem in17_2ff {d : Nat} (l : List (Int × Int)) (hl : l.length < 1000000) (h0 : 0 < l.length) (x y z : PVal) (hd hb : Int) :
  loopN (loopS (evFn F C0 G0 d) C0 G0 0 true [2, 3, 4, 14, 15, 19, 20, 21] c17L0) loopFuel ⟨[(2, .ptr 1 0 0), (3, .ptr 2 0 0), (4, iv 2), (14, .agg [.p x, .p y, .p z]), (15, iv 2), (19, csl l), (20, iv l.length), (21, iv 0)], [(2, .box [iv hd, iv hb, .p .nils, .p .nils, .p .nils]), (1, z5)]⟩ =
  .ret (.exit 2, ⟨[(2, .ptr 1 0 0), (3, .ptr 2 0 0), (4, iv 2), (14, .agg [.p x, .p y, .p z]), (15, iv 2), (19, csl l), (20, iv l.length), (21, iv l.length), (22, .p (.bool false))], [(4, .arr (cI l) (l.length - 1) 2), (2, .box [iv hd, iv hb, .p .nils, .p .nils, .sl 4 (l.length - 1) 0 l.length]), (1, z5)]⟩) := by
 have htl : l.take l.length = l := List.take_of_length_le (by omega)
 have := loop_run' (step := loopS (evFn F C0 G0 d) C0 G0 0 true [2, 3, 4, 14, 15, 19, 20, 21] c17L0) (fun i => if i = 0 then ⟨[(2, .ptr 1 0 0), (3, .ptr 2 0 0), (4, iv 2), (14, .agg [.p x, .p y, .p z]), (15, iv 2), (19, csl l), (20, iv l.length), (21, iv 0)], [(2, .box [iv hd, iv hb, .p .nils, .p .nils, .p .nils]), (1, z5)]⟩ else ⟨[(2, .ptr 1 0 0), (3, .ptr 2 0 0), (4, iv 2), (14, .agg [.p x, .p y, .p z]), (15, iv 2), (19, csl l), (20, iv l.length), (21, iv i)], [(4, .arr (cI (l.take i)) (i - 1) 2), (2, .box [iv hd, iv hb, .p .nils, .p .nils, .sl 4 (i - 1) 0 i]), (1, z5)]⟩) l.length (e := .exit 2) (st' := ⟨[(2, .ptr 1 0 0), (3, .ptr 2 0 0), (4, iv 2), (14, .agg [.p x, .p y, .p z]), (15, iv 2), (19, csl l), (20, iv l.length), (21, iv l.length), (22, .p (.bool false))], [(4, .arr (cI l) (l.length - 1) 2), (2, .box [iv hd, iv hb, .p .nils, .p .nils, .sl 4 (l.length - 1) 0 l.length]), (1, z5)]⟩) (st0 := ⟨[(2, .ptr 1 0 0), (3, .ptr 2 0 0), (4, iv 2), (14, .agg [.p x, .p y, .p z]), (15, iv 2), (19, csl l), (20, iv l.length), (21, iv 0)], [(2, .box [iv hd, iv hb, .p .nils, .p .nils, .p .nils]), (1, z5)]⟩) (by simp) rfl (fun i hi => by
  have hx := cI_drop l i hi
  have hlt : i * 2 < l.length * 2 := by omega
  have wi := wrap_succ (i := i) (by omega)
  have hcl := cI_length l
  have htk := cI_take l i hi
  have hct := cI_length (l.take i)
  have hti : (l.take i).length = i := by simp; omega
  rw [hti] at hct
  have hlim : i + 1 ≤ lim := by simp only [lim]; omega
  simp only [csl]
  by_cases c0 : i = 0
  ·subst c0
   have w0 : IntKind.i64.wrap 1 = 1 := by decide
   have e1 : cI (l.take (0 + 1)) = [.int .i64 l[0].1, .int .i64 l[0].2] := by rw [htk]; rfl
   simp only [Nat.zero_mul, List.drop_zero] at hx
   rw [if_pos rfl, if_neg (by omega)]
   rw [e1]
   generalize cI (l.drop (0 + 1)) = R2 at *
   generalize cI l = A at *
   generalize l[0] = s at *
   have hlim1 : 1 ≤ lim := by decide
   refine ⟨?_, ?h1, ?h2⟩
   case h1 =>
    simp -implicitDefEqProofs [loopS_eq, c17L0, stOp, fresh, hi, hx, w0, hlim1]
    exact rfl
   case h2 => exact loopS_same (by simp [hx]) (by simp [hx])
  ·obtain ⟨j, rfl⟩ : ∃ j, i = j + 1 := ⟨i - 1, by omega⟩
   rw [if_neg c0, if_neg (by omega), htk]
   have ej : j + 1 - 1 = j := rfl
   have ej2 : j + 1 + 1 - 1 = j + 1 := rfl
   rw [ej, ej2]
   generalize cI (l.drop (j + 1 + 1)) = R2 at *
   generalize cI (l.take (j + 1)) = C at *
   generalize cI l = A at *
   generalize l[j + 1] = s at *
   generalize hij : j + 1 = i at *
   refine ⟨?_, ?h1, ?h2⟩
   case h1 =>
    simp -implicitDefEqProofs [loopS_eq, c17L0, stOp, fresh, hi, hx, hlt, hcl, hct, wi, hlim]
    exact rfl
   case h2 => exact loopS_same (by simp []) (by simp [hij])) (by
  rw [if_neg (by omega), htl]
  simp -implicitDefEqProofs [loopS_eq, c17L0]) (fuel := loopFuel) (by simp [loopFuel]; omega)
 exact this

theorem in17_2ft {d : Nat} (l : List (Int × Int)) (hl : l.length < 1000000) (h0 : 0 < l.length) (x y z : PVal) (hd hb : Int) (A1 : List PVal) (v1 n1 : Nat) :
  loopN (loopS (evFn F C0 G0 d) C0 G0 0 true [2, 3, 4, 14, 15, 19, 20, 21] c17L0) loopFuel ⟨[(2, .ptr 1 0 0), (3, .ptr 2 0 0), (4, iv 2), (14, .agg [.p x, .p y, .p z]), (15, iv 2), (19, csl l), (20, iv l.length), (21, iv 0)], [(4, .arr A1 v1 2), (2, .box [iv hd, iv hb, .p .nils, .sl 4 v1 0 n1, .p .nils]), (1, z5)]⟩ =
  .ret (.exit 2, ⟨[(2, .ptr 1 0 0), (3, .ptr 2 0 0), (4, iv 2), (14, .agg [.p x, .p y, .p z]), (15, iv 2), (19, csl l), (20, iv l.length), (21, iv l.length), (22, .p (.bool false))], [(6, .arr (cI l) (l.length - 1) 2), (4, .arr A1 v1 2), (2, .box [iv hd, iv hb, .p .nils, .sl 4 v1 0 n1, .sl 6 (l.length - 1) 0 l.length]), (1, z5)]⟩) := by
 have htl : l.take l.length = l := List.take_of_length_le (by omega)
 have := loop_run' (step := loopS (evFn F C0 G0 d) C0 G0 0 true [2, 3, 4, 14, 15, 19, 20, 21] c17L0) (fun i => if i = 0 then ⟨[(2, .ptr 1 0 0), (3, .ptr 2 0 0), (4, iv 2), (14, .agg [.p x, .p y, .p z]), (15, iv 2), (19, csl l), (20, iv l.length), (21, iv 0)], [(4, .arr A1 v1 2), (2, .box [iv hd, iv hb, .p .nils, .sl 4 v1 0 n1, .p .nils]), (1, z5)]⟩ else ⟨[(2, .ptr 1 0 0), (3, .ptr 2 0 0), (4, iv 2), (14, .agg [.p x, .p y, .p z]), (15, iv 2), (19, csl l), (20, iv l.length), (21, iv i)], [(6, .arr (cI (l.take i)) (i - 1) 2), (4, .arr A1 v1 2), (2, .box [iv hd, iv hb, .p .nils, .sl 4 v1 0 n1, .sl 6 (i - 1) 0 i]), (1, z5)]⟩) l.length (e := .exit 2) (st' := ⟨[(2, .ptr 1 0 0), (3, .ptr 2 0 0), (4, iv 2), (14, .agg [.p x, .p y, .p z]), (15, iv 2), (19, csl l), (20, iv l.length), (21, iv l.length), (22, .p (.bool false))], [(6, .arr (cI l) (l.length - 1) 2), (4, .arr A1 v1 2), (2, .box [iv hd, iv hb, .p .nils, .sl 4 v1 0 n1, .sl 6 (l.length - 1) 0 l.length]), (1, z5)]⟩) (st0 := ⟨[(2, .ptr 1 0 0), (3, .ptr 2 0 0), (4, iv 2), (14, .agg [.p x, .p y, .p z]), (15, iv 2), (19, csl l), (20, iv l.length), (21, iv 0)], [(4, .arr A1 v1 2), (2, .box [iv hd, iv hb, .p .nils, .sl 4 v1 0 n1, .p .nils]), (1, z5)]⟩) (by simp) rfl (fun i hi => by
  have hx := cI_drop l i hi
  have hlt : i * 2 < l.length * 2 := by omega
  have wi := wrap_succ (i := i) (by omega)
  have hcl := cI_length l
  have htk := cI_take l i hi
  have hct := cI_length (l.take i)
  have hti : (l.take i).length = i := by simp; omega
  rw [hti] at hct
  have hlim : i + 1 ≤ lim := by simp only [lim]; omega
  simp only [csl]
  by_cases c0 : i = 0
  ·subst c0
   have w0 : IntKind.i64.wrap 1 = 1 := by decide
   have e1 : cI (l.take (0 + 1)) = [.int .i64 l[0].1, .int .i64 l[0].2] := by rw [htk]; rfl
   simp only [Nat.zero_mul, List.drop_zero] at hx
   rw [if_pos rfl, if_neg (by omega)]
   rw [e1]
   generalize cI (l.drop (0 + 1)) = R2 at *
   generalize cI l = A at *
   generalize l[0] = s at *
   have hlim1 : 1 ≤ lim := by decide
   refine ⟨?_, ?h1, ?h2⟩
   case h1 =>
    simp -implicitDefEqProofs [loopS_eq, c17L0, stOp, fresh, hi, hx, w0, hlim1]
    exact rfl
   case h2 => exact loopS_same (by simp [hx]) (by simp [hx])
  ·obtain ⟨j, rfl⟩ : ∃ j, i = j + 1 := ⟨i - 1, by omega⟩
   rw [if_neg c0, if_neg (by omega), htk]
   have ej : j + 1 - 1 = j := rfl
   have ej2 : j + 1 + 1 - 1 = j + 1 := rfl
   rw [ej, ej2]
   generalize cI (l.drop (j + 1 + 1)) = R2 at *
   generalize cI (l.take (j + 1)) = C at *
   generalize cI l = A at *
   generalize l[j + 1] = s at *
   generalize hij : j + 1 = i at *
   refine ⟨?_, ?h1, ?h2⟩
   case h1 =>
    simp -implicitDefEqProofs [loopS_eq, c17L0, stOp, fresh, hi, hx, hlt, hcl, hct, wi, hlim]
    exact rfl
   case h2 => exact loopS_same (by simp []) (by simp [hij])) (by
  rw [if_neg (by omega), htl]
  simp -implicitDefEqProofs [loopS_eq, c17L0]) (fuel := loopFuel) (by simp [loopFuel]; omega)
 exact this

theorem in17_2tf {d : Nat} (l : List (Int × Int)) (hl : l.length < 1000000) (h0 : 0 < l.length) (x y z : PVal) (hd hb : Int) (A0 : List PVal) (v0 n0 : Nat) :
  loopN (loopS (evFn F C0 G0 d) C0 G0 0 true [2, 3, 4, 14, 15, 19, 20, 21] c17L0) loopFuel ⟨[(2, .ptr 1 0 0), (3, .ptr 2 0 0), (4, iv 2), (14, .agg [.p x, .p y, .p z]), (15, iv 2), (19, csl l), (20, iv l.length), (21, iv 0)], [(4, .arr A0 v0 2), (2, .box [iv hd, iv hb, .sl 4 v0 0 n0, .p .nils, .p .nils]), (1, z5)]⟩ =
  .ret (.exit 2, ⟨[(2, .ptr 1 0 0), (3, .ptr 2 0 0), (4, iv 2), (14, .agg [.p x, .p y, .p z]), (15, iv 2), (19, csl l), (20, iv l.length), (21, iv l.length), (22, .p (.bool false))], [(6, .arr (cI l) (l.length - 1) 2), (4, .arr A0 v0 2), (2, .box [iv hd, iv hb, .sl 4 v0 0 n0, .p .nils, .sl 6 (l.length - 1) 0 l.length]), (1, z5)]⟩) := by
 have htl : l.take l.length = l := List.take_of_length_le (by omega)
 have := loop_run' (step := loopS (evFn F C0 G0 d) C0 G0 0 true [2, 3, 4, 14, 15, 19, 20, 21] c17L0) (fun i => if i = 0 then ⟨[(2, .ptr 1 0 0), (3, .ptr 2 0 0), (4, iv 2), (14, .agg [.p x, .p y, .p z]), (15, iv 2), (19, csl l), (20, iv l.length), (21, iv 0)], [(4, .arr A0 v0 2), (2, .box [iv hd, iv hb, .sl 4 v0 0 n0, .p .nils, .p .nils]), (1, z5)]⟩ else ⟨[(2, .ptr 1 0 0), (3, .ptr 2 0 0), (4, iv 2), (14, .agg [.p x, .p y, .p z]), (15, iv 2), (19, csl l), (20, iv l.length), (21, iv i)], [(6, .arr (cI (l.take i)) (i - 1) 2), (4, .arr A0 v0 2), (2, .box [iv hd, iv hb, .sl 4 v0 0 n0, .p .nils, .sl 6 (i - 1) 0 i]), (1, z5)]⟩) l.length (e := .exit 2) (st' := ⟨[(2, .ptr 1 0 0), (3, .ptr 2 0 0), (4, iv 2), (14, .agg [.p x, .p y, .p z]), (15, iv 2), (19, csl l), (20, iv l.length), (21, iv l.length), (22, .p (.bool false))], [(6, .arr (cI l) (l.length - 1) 2), (4, .arr A0 v0 2), (2, .box [iv hd, iv hb, .sl 4 v0 0 n0, .p .nils, .sl 6 (l.length - 1) 0 l.length]), (1, z5)]⟩) (st0 := ⟨[(2, .ptr 1 0 0), (3, .ptr 2 0 0), (4, iv 2), (14, .agg [.p x, .p y, .p z]), (15, iv 2), (19, csl l), (20, iv l.length), (21, iv 0)], [(4, .arr A0 v0 2), (2, .box [iv hd, iv hb, .sl 4 v0 0 n0, .p .nils, .p .nils]), (1, z5)]⟩) (by simp) rfl (fun i hi => by
  have hx := cI_drop l i hi
  have hlt : i * 2 < l.length * 2 := by omega
  have wi := wrap_succ (i := i) (by omega)
  have hcl := cI_length l
  have htk := cI_take l i hi
  have hct := cI_length (l.take i)
  have hti : (l.take i).length = i := by simp; omega
  rw [hti] at hct
  have hlim : i + 1 ≤ lim := by simp only [lim]; omega
  simp only [csl]
  by_cases c0 : i = 0
  ·subst c0
   have w0 : IntKind.i64.wrap 1 = 1 := by decide
   have e1 : cI (l.take (0 + 1)) = [.int .i64 l[0].1, .int .i64 l[0].2] := by rw [htk]; rfl
   simp only [Nat.zero_mul, List.drop_zero] at hx
   rw [if_pos rfl, if_neg (by omega)]
   rw [e1]
   generalize cI (l.drop (0 + 1)) = R2 at *
   generalize cI l = A at *
   generalize l[0] = s at *
   have hlim1 : 1 ≤ lim := by decide
   refine ⟨?_, ?h1, ?h2⟩
   case h1 =>
    simp -implicitDefEqProofs [loopS_eq, c17L0, stOp, fresh, hi, hx, w0, hlim1]
    exact rfl
   case h2 => exact loopS_same (by simp [hx]) (by simp [hx])
  ·obtain ⟨j, rfl⟩ : ∃ j, i = j + 1 := ⟨i - 1, by omega⟩
   rw [if_neg c0, if_neg (by omega), htk]
   have ej : j + 1 - 1 = j := rfl
   have ej2 : j + 1 + 1 - 1 = j + 1 := rfl
   rw [ej, ej2]
   generalize cI (l.drop (j + 1 + 1)) = R2 at *
   generalize cI (l.take (j + 1)) = C at *
   generalize cI l = A at *
   generalize l[j + 1] = s at *
   generalize hij : j + 1 = i at *
   refine ⟨?_, ?h1, ?h2⟩
   case h1 =>
    simp -implicitDefEqProofs [loopS_eq, c17L0, stOp, fresh, hi, hx, hlt, hcl, hct, wi, hlim]
    exact rfl
   case h2 => exact loopS_same (by simp []) (by simp [hij])) (by
  rw [if_neg (by omega), htl]
  simp -implicitDefEqProofs [loopS_eq, c17L0]) (fuel := loopFuel) (by simp [loopFuel]; omega)
 exact this

theorem in17_2tt {d : Nat} (l : List (Int × Int)) (hl : l.length < 1000000) (h0 : 0 < l.length) (x y z : PVal) (hd hb : Int) (A0 : List PVal) (v0 n0 : Nat) (A1 : List PVal) (v1 n1 : Nat) :
  loopN (loopS (evFn F C0 G0 d) C0 G0 0 true [2, 3, 4, 14, 15, 19, 20, 21] c17L0) loopFuel ⟨[(2, .ptr 1 0 0), (3, .ptr 2 0 0), (4, iv 2), (14, .agg [.p x, .p y, .p z]), (15, iv 2), (19, csl l), (20, iv l.length), (21, iv 0)], [(6, .arr A1 v1 2), (4, .arr A0 v0 2), (2, .box [iv hd, iv hb, .sl 4 v0 0 n0, .sl 6 v1 0 n1, .p .nils]), (1, z5)]⟩ =
  .ret (.exit 2, ⟨[(2, .ptr 1 0 0), (3, .ptr 2 0 0), (4, iv 2), (14, .agg [.p x, .p y, .p z]), (15, iv 2), (19, csl l), (20, iv l.length), (21, iv l.length), (22, .p (.bool false))], [(8, .arr (cI l) (l.length - 1) 2), (6, .arr A1 v1 2), (4, .arr A0 v0 2), (2, .box [iv hd, iv hb, .sl 4 v0 0 n0, .sl 6 v1 0 n1, .sl 8 (l.length - 1) 0 l.length]), (1, z5)]⟩) := by
 have htl : l.take l.length = l := List.take_of_length_le (by omega)
 have := loop_run' (step := loopS (evFn F C0 G0 d) C0 G0 0 true [2, 3, 4, 14, 15, 19, 20, 21] c17L0) (fun i => if i = 0 then ⟨[(2, .ptr 1 0 0), (3, .ptr 2 0 0), (4, iv 2), (14, .agg [.p x, .p y, .p z]), (15, iv 2), (19, csl l), (20, iv l.length), (21, iv 0)], [(6, .arr A1 v1 2), (4, .arr A0 v0 2), (2, .box [iv hd, iv hb, .sl 4 v0 0 n0, .sl 6 v1 0 n1, .p .nils]), (1, z5)]⟩ else ⟨[(2, .ptr 1 0 0), (3, .ptr 2 0 0), (4, iv 2), (14, .agg [.p x, .p y, .p z]), (15, iv 2), (19, csl l), (20, iv l.length), (21, iv i)], [(8, .arr (cI (l.take i)) (i - 1) 2), (6, .arr A1 v1 2), (4, .arr A0 v0 2), (2, .box [iv hd, iv hb, .sl 4 v0 0 n0, .sl 6 v1 0 n1, .sl 8 (i - 1) 0 i]), (1, z5)]⟩) l.length (e := .exit 2) (st' := ⟨[(2, .ptr 1 0 0), (3, .ptr 2 0 0), (4, iv 2), (14, .agg [.p x, .p y, .p z]), (15, iv 2), (19, csl l), (20, iv l.length), (21, iv l.length), (22, .p (.bool false))], [(8, .arr (cI l) (l.length - 1) 2), (6, .arr A1 v1 2), (4, .arr A0 v0 2), (2, .box [iv hd, iv hb, .sl 4 v0 0 n0, .sl 6 v1 0 n1, .sl 8 (l.length - 1) 0 l.length]), (1, z5)]⟩) (st0 := ⟨[(2, .ptr 1 0 0), (3, .ptr 2 0 0), (4, iv 2), (14, .agg [.p x, .p y, .p z]), (15, iv 2), (19, csl l), (20, iv l.length), (21, iv 0)], [(6, .arr A1 v1 2), (4, .arr A0 v0 2), (2, .box [iv hd, iv hb, .sl 4 v0 0 n0, .sl 6 v1 0 n1, .p .nils]), (1, z5)]⟩) (by simp) rfl (fun i hi => by
  have hx := cI_drop l i hi
  have hlt : i * 2 < l.length * 2 := by omega
  have wi := wrap_succ (i := i) (by omega)
  have hcl := cI_length l
  have htk := cI_take l i hi
  have hct := cI_length (l.take i)
  have hti : (l.take i).length = i := by simp; omega
  rw [hti] at hct
  have hlim : i + 1 ≤ lim := by simp only [lim]; omega
  simp only [csl]
  by_cases c0 : i = 0
  ·subst c0
   have w0 : IntKind.i64.wrap 1 = 1 := by decide
   have e1 : cI (l.take (0 + 1)) = [.int .i64 l[0].1, .int .i64 l[0].2] := by rw [htk]; rfl
   simp only [Nat.zero_mul, List.drop_zero] at hx
   rw [if_pos rfl, if_neg (by omega)]
   rw [e1]
   generalize cI (l.drop (0 + 1)) = R2 at *
   generalize cI l = A at *
   generalize l[0] = s at *
   have hlim1 : 1 ≤ lim := by decide
   refine ⟨?_, ?h1, ?h2⟩
   case h1 =>
    simp -implicitDefEqProofs [loopS_eq, c17L0, stOp, fresh, hi, hx, w0, hlim1]
    exact rfl
   case h2 => exact loopS_same (by simp [hx]) (by simp [hx])
  ·obtain ⟨j, rfl⟩ : ∃ j, i = j + 1 := ⟨i - 1, by omega⟩
   rw [if_neg c0, if_neg (by omega), htk]
   have ej : j + 1 - 1 = j := rfl
   have ej2 : j + 1 + 1 - 1 = j + 1 := rfl
   rw [ej, ej2]
   generalize cI (l.drop (j + 1 + 1)) = R2 at *
   generalize cI (l.take (j + 1)) = C at *
   generalize cI l = A at *
   generalize l[j + 1] = s at *
   generalize hij : j + 1 = i at *
   refine ⟨?_, ?h1, ?h2⟩
   case h1 =>
    simp -implicitDefEqProofs [loopS_eq, c17L0, stOp, fresh, hi, hx, hlt, hcl, hct, wi, hlim]
    exact rfl
   case h2 => exact loopS_same (by simp []) (by simp [hij])) (by
  rw [if_neg (by omega), htl]
  simp -implicitDefEqProofs [loopS_eq, c17L0]) (fuel := loopFuel) (by simp [loopFuel]; omega)
 exact this

end Fw
end

section
set_option maxHeartbeats 16000000
namespace Fw
open Go
theorem own_w1 : IntKind.i64.wrap 1 = 1 := by decide
theorem own_w2 : IntKind.i64.wrap 2 = 2 := by decide
theorem own_w3 : IntKind.i64.wrap 3 = 3 := by decide
theorem lenA (l : List (Int × Int)) (_h : 0 < l.length) : l.length * 2 = (cI l).length := (cI_length l).symm

theorem own17_fff {n : Nat} (hn : 1 ≤ n) (h : HallI) (_g0 : h.t0.length < 1000000) (_g1 : h.t1.length < 1000000) (_g2 : h.t2.length < 1000000) (h0 : h.t0 = []) (h1 : h.t1 = []) (h2 : h.t2 = []) : RUN n 17 [ha h] = .ret (ha h) := by
 obtain ⟨d, rfl⟩ : ∃ d, n = d + 1 := ⟨n - 1, by omega⟩
 rw [RUN, call_eq fe17 _ rfl]
 simp only [ha, csl, h0, h1, h2, show cI ([] : List (Int × Int)) = [] from rfl, List.length_nil]
 generalize h.doors = hd at *
 generalize h.base = hb at *
 have s0 : loopS (evFn F C0 G0 d) C0 G0 0 true [2, 3, 14, 15] c17L1 ⟨[(2, .ptr 1 0 0), (3, .ptr 2 0 0), (14, .agg [.p (.sl [] 0), .p (.sl [] 0), .p (.sl [] 0)]), (15, iv 0)], [(2, .box [iv hd, iv hb, .p .nils, .p .nils, .p .nils]), (1, z5), (0, .box [iv hd, iv hb, .p (.sl [] 0), .p (.sl [] 0), .p (.sl [] 0)])]⟩ = .ret (.normal, ⟨[(2, .ptr 1 0 0), (3, .ptr 2 0 0), (14, .agg [.p (.sl [] 0), .p (.sl [] 0), .p (.sl [] 0)]), (15, iv 1)], [(2, .box [iv hd, iv hb, .p .nils, .p .nils, .p .nils]), (1, z5)]⟩) := by
  simp -implicitDefEqProofs [loopS_eq, c17L1]
  have e : loopS (evFn F C0 G0 d) C0 G0 0 true [2, 3, 4, 14, 15, 19, 20, 21] c17L0 ⟨[(2, .ptr 1 0 0), (3, .ptr 2 0 0), (4, iv 0), (14, .agg [.p (.sl [] 0), .p (.sl [] 0), .p (.sl [] 0)]), (15, iv 0), (19, .p (.sl [] 0)), (20, iv 0), (21, iv 0)], [(2, .box [iv hd, iv hb, .p .nils, .p .nils, .p .nils]), (1, z5)]⟩ = .ret (.exit 2, ⟨[(2, .ptr 1 0 0), (3, .ptr 2 0 0), (4, iv 0), (14, .agg [.p (.sl [] 0), .p (.sl [] 0), .p (.sl [] 0)]), (15, iv 0), (19, .p (.sl [] 0)), (20, iv 0), (21, iv 0), (22, .p (.bool false))], [(2, .box [iv hd, iv hb, .p .nils, .p .nils, .p .nils]), (1, z5)]⟩) := by
   simp -implicitDefEqProofs [loopS_eq, c17L0]
  rw [loopN_end e (by simp) (by simp [loopFuel])]
  simp -implicitDefEqProofs [own_w1]
 have s1 : loopS (evFn F C0 G0 d) C0 G0 0 true [2, 3, 14, 15] c17L1 ⟨[(2, .ptr 1 0 0), (3, .ptr 2 0 0), (14, .agg [.p (.sl [] 0), .p (.sl [] 0), .p (.sl [] 0)]), (15, iv 1)], [(2, .box [iv hd, iv hb, .p .nils, .p .nils, .p .nils]), (1, z5)]⟩ = .ret (.normal, ⟨[(2, .ptr 1 0 0), (3, .ptr 2 0 0), (14, .agg [.p (.sl [] 0), .p (.sl [] 0), .p (.sl [] 0)]), (15, iv 2)], [(2, .box [iv hd, iv hb, .p .nils, .p .nils, .p .nils]), (1, z5)]⟩) := by
  simp -implicitDefEqProofs [loopS_eq, c17L1]
  have e : loopS (evFn F C0 G0 d) C0 G0 0 true [2, 3, 4, 14, 15, 19, 20, 21] c17L0 ⟨[(2, .ptr 1 0 0), (3, .ptr 2 0 0), (4, iv 1), (14, .agg [.p (.sl [] 0), .p (.sl [] 0), .p (.sl [] 0)]), (15, iv 1), (19, .p (.sl [] 0)), (20, iv 0), (21, iv 0)], [(2, .box [iv hd, iv hb, .p .nils, .p .nils, .p .nils]), (1, z5)]⟩ = .ret (.exit 2, ⟨[(2, .ptr 1 0 0), (3, .ptr 2 0 0), (4, iv 1), (14, .agg [.p (.sl [] 0), .p (.sl [] 0), .p (.sl [] 0)]), (15, iv 1), (19, .p (.sl [] 0)), (20, iv 0), (21, iv 0), (22, .p (.bool false))], [(2, .box [iv hd, iv hb, .p .nils, .p .nils, .p .nils]), (1, z5)]⟩) := by
   simp -implicitDefEqProofs [loopS_eq, c17L0]
  rw [loopN_end e (by simp) (by simp [loopFuel])]
  simp -implicitDefEqProofs [own_w2]
 have s2 : loopS (evFn F C0 G0 d) C0 G0 0 true [2, 3, 14, 15] c17L1 ⟨[(2, .ptr 1 0 0), (3, .ptr 2 0 0), (14, .agg [.p (.sl [] 0), .p (.sl [] 0), .p (.sl [] 0)]), (15, iv 2)], [(2, .box [iv hd, iv hb, .p .nils, .p .nils, .p .nils]), (1, z5)]⟩ = .ret (.normal, ⟨[(2, .ptr 1 0 0), (3, .ptr 2 0 0), (14, .agg [.p (.sl [] 0), .p (.sl [] 0), .p (.sl [] 0)]), (15, iv 3)], [(2, .box [iv hd, iv hb, .p .nils, .p .nils, .p .nils]), (1, z5)]⟩) := by
  simp -implicitDefEqProofs [loopS_eq, c17L1]
  have e : loopS (evFn F C0 G0 d) C0 G0 0 true [2, 3, 4, 14, 15, 19, 20, 21] c17L0 ⟨[(2, .ptr 1 0 0), (3, .ptr 2 0 0), (4, iv 2), (14, .agg [.p (.sl [] 0), .p (.sl [] 0), .p (.sl [] 0)]), (15, iv 2), (19, .p (.sl [] 0)), (20, iv 0), (21, iv 0)], [(2, .box [iv hd, iv hb, .p .nils, .p .nils, .p .nils]), (1, z5)]⟩ = .ret (.exit 2, ⟨[(2, .ptr 1 0 0), (3, .ptr 2 0 0), (4, iv 2), (14, .agg [.p (.sl [] 0), .p (.sl [] 0), .p (.sl [] 0)]), (15, iv 2), (19, .p (.sl [] 0)), (20, iv 0), (21, iv 0), (22, .p (.bool false))], [(2, .box [iv hd, iv hb, .p .nils, .p .nils, .p .nils]), (1, z5)]⟩) := by
   simp -implicitDefEqProofs [loopS_eq, c17L0]
  rw [loopN_end e (by simp) (by simp [loopFuel])]
  simp -implicitDefEqProofs [own_w3]
 have s3 : loopS (evFn F C0 G0 d) C0 G0 0 true [2, 3, 14, 15] c17L1 ⟨[(2, .ptr 1 0 0), (3, .ptr 2 0 0), (14, .agg [.p (.sl [] 0), .p (.sl [] 0), .p (.sl [] 0)]), (15, iv 3)], [(2, .box [iv hd, iv hb, .p .nils, .p .nils, .p .nils]), (1, z5)]⟩ = .ret (.exit 0, ⟨[(2, .ptr 1 0 0), (3, .ptr 2 0 0), (14, .agg [.p (.sl [] 0), .p (.sl [] 0), .p (.sl [] 0)]), (15, iv 3), (16, .p (.bool false))], [(2, .box [iv hd, iv hb, .p .nils, .p .nils, .p .nils]), (1, z5)]⟩) := by
  simp -implicitDefEqProofs [loopS_eq, c17L1]
 simp -implicitDefEqProofs [c17]
 rw [loopN_on s0 (by simp [loopFuel]), loopN_on s1 (by simp [loopFuel]), loopN_on s2 (by simp [loopFuel]), loopN_end s3 (by simp) (by simp [loopFuel])]
 simp -implicitDefEqProofs []

theorem own17_fft {n : Nat} (hn : 1 ≤ n) (h : HallI) (_g0 : h.t0.length < 1000000) (_g1 : h.t1.length < 1000000) (g2 : h.t2.length < 1000000) (h0 : h.t0 = []) (h1 : h.t1 = []) (h2 : 0 < h.t2.length) : RUN n 17 [ha h] = .ret (ha h) := by
 obtain ⟨d, rfl⟩ : ∃ d, n = d + 1 := ⟨n - 1, by omega⟩
 rw [RUN, call_eq fe17 _ rfl]
 have i2 := in17_2ff (d := d) h.t2 g2 h2 (.sl [] 0) (.sl [] 0) (.sl (cI h.t2) h.t2.length) h.doors h.base
 have l2 := lenA h.t2 h2
 have p2 : h.t2.length - 1 + 1 = h.t2.length := by omega
 simp only [ha, csl, h0, h1, show cI ([] : List (Int × Int)) = [] from rfl, List.length_nil]
 simp only [csl] at i2
 generalize cI h.t2 = A2 at *
 generalize h.doors = hd at *
 generalize h.base = hb at *
 have s0 : loopS (evFn F C0 G0 d) C0 G0 0 true [2, 3, 14, 15] c17L1 ⟨[(2, .ptr 1 0 0), (3, .ptr 2 0 0), (14, .agg [.p (.sl [] 0), .p (.sl [] 0), .p (.sl A2 h.t2.length)]), (15, iv 0)], [(2, .box [iv hd, iv hb, .p .nils, .p .nils, .p .nils]), (1, z5), (0, .box [iv hd, iv hb, .p (.sl [] 0), .p (.sl [] 0), .p (.sl A2 h.t2.length)])]⟩ = .ret (.normal, ⟨[(2, .ptr 1 0 0), (3, .ptr 2 0 0), (14, .agg [.p (.sl [] 0), .p (.sl [] 0), .p (.sl A2 h.t2.length)]), (15, iv 1)], [(2, .box [iv hd, iv hb, .p .nils, .p .nils, .p .nils]), (1, z5)]⟩) := by
  simp -implicitDefEqProofs [loopS_eq, c17L1]
  have e : loopS (evFn F C0 G0 d) C0 G0 0 true [2, 3, 4, 14, 15, 19, 20, 21] c17L0 ⟨[(2, .ptr 1 0 0), (3, .ptr 2 0 0), (4, iv 0), (14, .agg [.p (.sl [] 0), .p (.sl [] 0), .p (.sl A2 h.t2.length)]), (15, iv 0), (19, .p (.sl [] 0)), (20, iv 0), (21, iv 0)], [(2, .box [iv hd, iv hb, .p .nils, .p .nils, .p .nils]), (1, z5)]⟩ = .ret (.exit 2, ⟨[(2, .ptr 1 0 0), (3, .ptr 2 0 0), (4, iv 0), (14, .agg [.p (.sl [] 0), .p (.sl [] 0), .p (.sl A2 h.t2.length)]), (15, iv 0), (19, .p (.sl [] 0)), (20, iv 0), (21, iv 0), (22, .p (.bool false))], [(2, .box [iv hd, iv hb, .p .nils, .p .nils, .p .nils]), (1, z5)]⟩) := by
   simp -implicitDefEqProofs [loopS_eq, c17L0]
  rw [loopN_end e (by simp) (by simp [loopFuel])]
  simp -implicitDefEqProofs [own_w1]
 have s1 : loopS (evFn F C0 G0 d) C0 G0 0 true [2, 3, 14, 15] c17L1 ⟨[(2, .ptr 1 0 0), (3, .ptr 2 0 0), (14, .agg [.p (.sl [] 0), .p (.sl [] 0), .p (.sl A2 h.t2.length)]), (15, iv 1)], [(2, .box [iv hd, iv hb, .p .nils, .p .nils, .p .nils]), (1, z5)]⟩ = .ret (.normal, ⟨[(2, .ptr 1 0 0), (3, .ptr 2 0 0), (14, .agg [.p (.sl [] 0), .p (.sl [] 0), .p (.sl A2 h.t2.length)]), (15, iv 2)], [(2, .box [iv hd, iv hb, .p .nils, .p .nils, .p .nils]), (1, z5)]⟩) := by
  simp -implicitDefEqProofs [loopS_eq, c17L1]
  have e : loopS (evFn F C0 G0 d) C0 G0 0 true [2, 3, 4, 14, 15, 19, 20, 21] c17L0 ⟨[(2, .ptr 1 0 0), (3, .ptr 2 0 0), (4, iv 1), (14, .agg [.p (.sl [] 0), .p (.sl [] 0), .p (.sl A2 h.t2.length)]), (15, iv 1), (19, .p (.sl [] 0)), (20, iv 0), (21, iv 0)], [(2, .box [iv hd, iv hb, .p .nils, .p .nils, .p .nils]), (1, z5)]⟩ = .ret (.exit 2, ⟨[(2, .ptr 1 0 0), (3, .ptr 2 0 0), (4, iv 1), (14, .agg [.p (.sl [] 0), .p (.sl [] 0), .p (.sl A2 h.t2.length)]), (15, iv 1), (19, .p (.sl [] 0)), (20, iv 0), (21, iv 0), (22, .p (.bool false))], [(2, .box [iv hd, iv hb, .p .nils, .p .nils, .p .nils]), (1, z5)]⟩) := by
   simp -implicitDefEqProofs [loopS_eq, c17L0]
  rw [loopN_end e (by simp) (by simp [loopFuel])]
  simp -implicitDefEqProofs [own_w2]
 have s2 : loopS (evFn F C0 G0 d) C0 G0 0 true [2, 3, 14, 15] c17L1 ⟨[(2, .ptr 1 0 0), (3, .ptr 2 0 0), (14, .agg [.p (.sl [] 0), .p (.sl [] 0), .p (.sl A2 h.t2.length)]), (15, iv 2)], [(2, .box [iv hd, iv hb, .p .nils, .p .nils, .p .nils]), (1, z5)]⟩ = .ret (.normal, ⟨[(2, .ptr 1 0 0), (3, .ptr 2 0 0), (14, .agg [.p (.sl [] 0), .p (.sl [] 0), .p (.sl A2 h.t2.length)]), (15, iv 3)], [(4, .arr A2 (h.t2.length - 1) 2), (2, .box [iv hd, iv hb, .p .nils, .p .nils, .sl 4 (h.t2.length - 1) 0 h.t2.length]), (1, z5)]⟩) := by
  simp -implicitDefEqProofs [loopS_eq, c17L1]
  rw [i2]
  simp -implicitDefEqProofs [own_w3]
 have s3 : loopS (evFn F C0 G0 d) C0 G0 0 true [2, 3, 14, 15] c17L1 ⟨[(2, .ptr 1 0 0), (3, .ptr 2 0 0), (14, .agg [.p (.sl [] 0), .p (.sl [] 0), .p (.sl A2 h.t2.length)]), (15, iv 3)], [(4, .arr A2 (h.t2.length - 1) 2), (2, .box [iv hd, iv hb, .p .nils, .p .nils, .sl 4 (h.t2.length - 1) 0 h.t2.length]), (1, z5)]⟩ = .ret (.exit 0, ⟨[(2, .ptr 1 0 0), (3, .ptr 2 0 0), (14, .agg [.p (.sl [] 0), .p (.sl [] 0), .p (.sl A2 h.t2.length)]), (15, iv 3), (16, .p (.bool false))], [(4, .arr A2 (h.t2.length - 1) 2), (2, .box [iv hd, iv hb, .p .nils, .p .nils, .sl 4 (h.t2.length - 1) 0 h.t2.length]), (1, z5)]⟩) := by
  simp -implicitDefEqProofs [loopS_eq, c17L1]
 simp -implicitDefEqProofs [c17]
 rw [loopN_on s0 (by simp [loopFuel]), loopN_on s1 (by simp [loopFuel]), loopN_on s2 (by simp [loopFuel]), loopN_end s3 (by simp) (by simp [loopFuel])]
 simp -implicitDefEqProofs [l2]

theorem own17_ftf {n : Nat} (hn : 1 ≤ n) (h : HallI) (_g0 : h.t0.length < 1000000) (g1 : h.t1.length < 1000000) (_g2 : h.t2.length < 1000000) (h0 : h.t0 = []) (h1 : 0 < h.t1.length) (h2 : h.t2 = []) : RUN n 17 [ha h] = .ret (ha h) := by
 obtain ⟨d, rfl⟩ : ∃ d, n = d + 1 := ⟨n - 1, by omega⟩
 rw [RUN, call_eq fe17 _ rfl]
 have i1 := in17_1f (d := d) h.t1 g1 h1 (.sl [] 0) (.sl (cI h.t1) h.t1.length) (.sl [] 0) h.doors h.base
 have l1 := lenA h.t1 h1
 have p1 : h.t1.length - 1 + 1 = h.t1.length := by omega
 simp only [ha, csl, h0, h2, show cI ([] : List (Int × Int)) = [] from rfl, List.length_nil]
 simp only [csl] at i1
 generalize cI h.t1 = A1 at *
 generalize h.doors = hd at *
 generalize h.base = hb at *
 have s0 : loopS (evFn F C0 G0 d) C0 G0 0 true [2, 3, 14, 15] c17L1 ⟨[(2, .ptr 1 0 0), (3, .ptr 2 0 0), (14, .agg [.p (.sl [] 0), .p (.sl A1 h.t1.length), .p (.sl [] 0)]), (15, iv 0)], [(2, .box [iv hd, iv hb, .p .nils, .p .nils, .p .nils]), (1, z5), (0, .box [iv hd, iv hb, .p (.sl [] 0), .p (.sl A1 h.t1.length), .p (.sl [] 0)])]⟩ = .ret (.normal, ⟨[(2, .ptr 1 0 0), (3, .ptr 2 0 0), (14, .agg [.p (.sl [] 0), .p (.sl A1 h.t1.length), .p (.sl [] 0)]), (15, iv 1)], [(2, .box [iv hd, iv hb, .p .nils, .p .nils, .p .nils]), (1, z5)]⟩) := by
  simp -implicitDefEqProofs [loopS_eq, c17L1]
  have e : loopS (evFn F C0 G0 d) C0 G0 0 true [2, 3, 4, 14, 15, 19, 20, 21] c17L0 ⟨[(2, .ptr 1 0 0), (3, .ptr 2 0 0), (4, iv 0), (14, .agg [.p (.sl [] 0), .p (.sl A1 h.t1.length), .p (.sl [] 0)]), (15, iv 0), (19, .p (.sl [] 0)), (20, iv 0), (21, iv 0)], [(2, .box [iv hd, iv hb, .p .nils, .p .nils, .p .nils]), (1, z5)]⟩ = .ret (.exit 2, ⟨[(2, .ptr 1 0 0), (3, .ptr 2 0 0), (4, iv 0), (14, .agg [.p (.sl [] 0), .p (.sl A1 h.t1.length), .p (.sl [] 0)]), (15, iv 0), (19, .p (.sl [] 0)), (20, iv 0), (21, iv 0), (22, .p (.bool false))], [(2, .box [iv hd, iv hb, .p .nils, .p .nils, .p .nils]), (1, z5)]⟩) := by
   simp -implicitDefEqProofs [loopS_eq, c17L0]
  rw [loopN_end e (by simp) (by simp [loopFuel])]
  simp -implicitDefEqProofs [own_w1]
 have s1 : loopS (evFn F C0 G0 d) C0 G0 0 true [2, 3, 14, 15] c17L1 ⟨[(2, .ptr 1 0 0), (3, .ptr 2 0 0), (14, .agg [.p (.sl [] 0), .p (.sl A1 h.t1.length), .p (.sl [] 0)]), (15, iv 1)], [(2, .box [iv hd, iv hb, .p .nils, .p .nils, .p .nils]), (1, z5)]⟩ = .ret (.normal, ⟨[(2, .ptr 1 0 0), (3, .ptr 2 0 0), (14, .agg [.p (.sl [] 0), .p (.sl A1 h.t1.length), .p (.sl [] 0)]), (15, iv 2)], [(4, .arr A1 (h.t1.length - 1) 2), (2, .box [iv hd, iv hb, .p .nils, .sl 4 (h.t1.length - 1) 0 h.t1.length, .p .nils]), (1, z5)]⟩) := by
  simp -implicitDefEqProofs [loopS_eq, c17L1]
  rw [i1]
  simp -implicitDefEqProofs [own_w2]
 have s2 : loopS (evFn F C0 G0 d) C0 G0 0 true [2, 3, 14, 15] c17L1 ⟨[(2, .ptr 1 0 0), (3, .ptr 2 0 0), (14, .agg [.p (.sl [] 0), .p (.sl A1 h.t1.length), .p (.sl [] 0)]), (15, iv 2)], [(4, .arr A1 (h.t1.length - 1) 2), (2, .box [iv hd, iv hb, .p .nils, .sl 4 (h.t1.length - 1) 0 h.t1.length, .p .nils]), (1, z5)]⟩ = .ret (.normal, ⟨[(2, .ptr 1 0 0), (3, .ptr 2 0 0), (14, .agg [.p (.sl [] 0), .p (.sl A1 h.t1.length), .p (.sl [] 0)]), (15, iv 3)], [(4, .arr A1 (h.t1.length - 1) 2), (2, .box [iv hd, iv hb, .p .nils, .sl 4 (h.t1.length - 1) 0 h.t1.length, .p .nils]), (1, z5)]⟩) := by
  simp -implicitDefEqProofs [loopS_eq, c17L1]
  have e : loopS (evFn F C0 G0 d) C0 G0 0 true [2, 3, 4, 14, 15, 19, 20, 21] c17L0 ⟨[(2, .ptr 1 0 0), (3, .ptr 2 0 0), (4, iv 2), (14, .agg [.p (.sl [] 0), .p (.sl A1 h.t1.length), .p (.sl [] 0)]), (15, iv 2), (19, .p (.sl [] 0)), (20, iv 0), (21, iv 0)], [(4, .arr A1 (h.t1.length - 1) 2), (2, .box [iv hd, iv hb, .p .nils, .sl 4 (h.t1.length - 1) 0 h.t1.length, .p .nils]), (1, z5)]⟩ = .ret (.exit 2, ⟨[(2, .ptr 1 0 0), (3, .ptr 2 0 0), (4, iv 2), (14, .agg [.p (.sl [] 0), .p (.sl A1 h.t1.length), .p (.sl [] 0)]), (15, iv 2), (19, .p (.sl [] 0)), (20, iv 0), (21, iv 0), (22, .p (.bool false))], [(4, .arr A1 (h.t1.length - 1) 2), (2, .box [iv hd, iv hb, .p .nils, .sl 4 (h.t1.length - 1) 0 h.t1.length, .p .nils]), (1, z5)]⟩) := by
   simp -implicitDefEqProofs [loopS_eq, c17L0]
  rw [loopN_end e (by simp) (by simp [loopFuel])]
  simp -implicitDefEqProofs [own_w3]
 have s3 : loopS (evFn F C0 G0 d) C0 G0 0 true [2, 3, 14, 15] c17L1 ⟨[(2, .ptr 1 0 0), (3, .ptr 2 0 0), (14, .agg [.p (.sl [] 0), .p (.sl A1 h.t1.length), .p (.sl [] 0)]), (15, iv 3)], [(4, .arr A1 (h.t1.length - 1) 2), (2, .box [iv hd, iv hb, .p .nils, .sl 4 (h.t1.length - 1) 0 h.t1.length, .p .nils]), (1, z5)]⟩ = .ret (.exit 0, ⟨[(2, .ptr 1 0 0), (3, .ptr 2 0 0), (14, .agg [.p (.sl [] 0), .p (.sl A1 h.t1.length), .p (.sl [] 0)]), (15, iv 3), (16, .p (.bool false))], [(4, .arr A1 (h.t1.length - 1) 2), (2, .box [iv hd, iv hb, .p .nils, .sl 4 (h.t1.length - 1) 0 h.t1.length, .p .nils]), (1, z5)]⟩) := by
  simp -implicitDefEqProofs [loopS_eq, c17L1]
 simp -implicitDefEqProofs [c17]
 rw [loopN_on s0 (by simp [loopFuel]), loopN_on s1 (by simp [loopFuel]), loopN_on s2 (by simp [loopFuel]), loopN_end s3 (by simp) (by simp [loopFuel])]
 simp -implicitDefEqProofs [l1]

theorem own17_ftt {n : Nat} (hn : 1 ≤ n) (h : HallI) (_g0 : h.t0.length < 1000000) (g1 : h.t1.length < 1000000) (g2 : h.t2.length < 1000000) (h0 : h.t0 = []) (h1 : 0 < h.t1.length) (h2 : 0 < h.t2.length) : RUN n 17 [ha h] = .ret (ha h) := by
 obtain ⟨d, rfl⟩ : ∃ d, n = d + 1 := ⟨n - 1, by omega⟩
 rw [RUN, call_eq fe17 _ rfl]
 have i1 := in17_1f (d := d) h.t1 g1 h1 (.sl [] 0) (.sl (cI h.t1) h.t1.length) (.sl (cI h.t2) h.t2.length) h.doors h.base
 have l1 := lenA h.t1 h1
 have p1 : h.t1.length - 1 + 1 = h.t1.length := by omega
 have i2 := in17_2ft (d := d) h.t2 g2 h2 (.sl [] 0) (.sl (cI h.t1) h.t1.length) (.sl (cI h.t2) h.t2.length) h.doors h.base (cI h.t1) (h.t1.length - 1) h.t1.length
 have l2 := lenA h.t2 h2
 have p2 : h.t2.length - 1 + 1 = h.t2.length := by omega
 simp only [ha, csl, h0, show cI ([] : List (Int × Int)) = [] from rfl, List.length_nil]
 simp only [csl] at i1 i2
 generalize cI h.t1 = A1 at *
 generalize cI h.t2 = A2 at *
 generalize h.doors = hd at *
 generalize h.base = hb at *
 have s0 : loopS (evFn F C0 G0 d) C0 G0 0 true [2, 3, 14, 15] c17L1 ⟨[(2, .ptr 1 0 0), (3, .ptr 2 0 0), (14, .agg [.p (.sl [] 0), .p (.sl A1 h.t1.length), .p (.sl A2 h.t2.length)]), (15, iv 0)], [(2, .box [iv hd, iv hb, .p .nils, .p .nils, .p .nils]), (1, z5), (0, .box [iv hd, iv hb, .p (.sl [] 0), .p (.sl A1 h.t1.length), .p (.sl A2 h.t2.length)])]⟩ = .ret (.normal, ⟨[(2, .ptr 1 0 0), (3, .ptr 2 0 0), (14, .agg [.p (.sl [] 0), .p (.sl A1 h.t1.length), .p (.sl A2 h.t2.length)]), (15, iv 1)], [(2, .box [iv hd, iv hb, .p .nils, .p .nils, .p .nils]), (1, z5)]⟩) := by
  simp -implicitDefEqProofs [loopS_eq, c17L1]
  have e : loopS (evFn F C0 G0 d) C0 G0 0 true [2, 3, 4, 14, 15, 19, 20, 21] c17L0 ⟨[(2, .ptr 1 0 0), (3, .ptr 2 0 0), (4, iv 0), (14, .agg [.p (.sl [] 0), .p (.sl A1 h.t1.length), .p (.sl A2 h.t2.length)]), (15, iv 0), (19, .p (.sl [] 0)), (20, iv 0), (21, iv 0)], [(2, .box [iv hd, iv hb, .p .nils, .p .nils, .p .nils]), (1, z5)]⟩ = .ret (.exit 2, ⟨[(2, .ptr 1 0 0), (3, .ptr 2 0 0), (4, iv 0), (14, .agg [.p (.sl [] 0), .p (.sl A1 h.t1.length), .p (.sl A2 h.t2.length)]), (15, iv 0), (19, .p (.sl [] 0)), (20, iv 0), (21, iv 0), (22, .p (.bool false))], [(2, .box [iv hd, iv hb, .p .nils, .p .nils, .p .nils]), (1, z5)]⟩) := by
   simp -implicitDefEqProofs [loopS_eq, c17L0]
  rw [loopN_end e (by simp) (by simp [loopFuel])]
  simp -implicitDefEqProofs [own_w1]
 have s1 : loopS (evFn F C0 G0 d) C0 G0 0 true [2, 3, 14, 15] c17L1 ⟨[(2, .ptr 1 0 0), (3, .ptr 2 0 0), (14, .agg [.p (.sl [] 0), .p (.sl A1 h.t1.length), .p (.sl A2 h.t2.length)]), (15, iv 1)], [(2, .box [iv hd, iv hb, .p .nils, .p .nils, .p .nils]), (1, z5)]⟩ = .ret (.normal, ⟨[(2, .ptr 1 0 0), (3, .ptr 2 0 0), (14, .agg [.p (.sl [] 0), .p (.sl A1 h.t1.length), .p (.sl A2 h.t2.length)]), (15, iv 2)], [(4, .arr A1 (h.t1.length - 1) 2), (2, .box [iv hd, iv hb, .p .nils, .sl 4 (h.t1.length - 1) 0 h.t1.length, .p .nils]), (1, z5)]⟩) := by
  simp -implicitDefEqProofs [loopS_eq, c17L1]
  rw [i1]
  simp -implicitDefEqProofs [own_w2]
 have s2 : loopS (evFn F C0 G0 d) C0 G0 0 true [2, 3, 14, 15] c17L1 ⟨[(2, .ptr 1 0 0), (3, .ptr 2 0 0), (14, .agg [.p (.sl [] 0), .p (.sl A1 h.t1.length), .p (.sl A2 h.t2.length)]), (15, iv 2)], [(4, .arr A1 (h.t1.length - 1) 2), (2, .box [iv hd, iv hb, .p .nils, .sl 4 (h.t1.length - 1) 0 h.t1.length, .p .nils]), (1, z5)]⟩ = .ret (.normal, ⟨[(2, .ptr 1 0 0), (3, .ptr 2 0 0), (14, .agg [.p (.sl [] 0), .p (.sl A1 h.t1.length), .p (.sl A2 h.t2.length)]), (15, iv 3)], [(6, .arr A2 (h.t2.length - 1) 2), (4, .arr A1 (h.t1.length - 1) 2), (2, .box [iv hd, iv hb, .p .nils, .sl 4 (h.t1.length - 1) 0 h.t1.length, .sl 6 (h.t2.length - 1) 0 h.t2.length]), (1, z5)]⟩) := by
  simp -implicitDefEqProofs [loopS_eq, c17L1]
  rw [i2]
  simp -implicitDefEqProofs [own_w3]
 have s3 : loopS (evFn F C0 G0 d) C0 G0 0 true [2, 3, 14, 15] c17L1 ⟨[(2, .ptr 1 0 0), (3, .ptr 2 0 0), (14, .agg [.p (.sl [] 0), .p (.sl A1 h.t1.length), .p (.sl A2 h.t2.length)]), (15, iv 3)], [(6, .arr A2 (h.t2.length - 1) 2), (4, .arr A1 (h.t1.length - 1) 2), (2, .box [iv hd, iv hb, .p .nils, .sl 4 (h.t1.length - 1) 0 h.t1.length, .sl 6 (h.t2.length - 1) 0 h.t2.length]), (1, z5)]⟩ = .ret (.exit 0, ⟨[(2, .ptr 1 0 0), (3, .ptr 2 0 0), (14, .agg [.p (.sl [] 0), .p (.sl A1 h.t1.length), .p (.sl A2 h.t2.length)]), (15, iv 3), (16, .p (.bool false))], [(6, .arr A2 (h.t2.length - 1) 2), (4, .arr A1 (h.t1.length - 1) 2), (2, .box [iv hd, iv hb, .p .nils, .sl 4 (h.t1.length - 1) 0 h.t1.length, .sl 6 (h.t2.length - 1) 0 h.t2.length]), (1, z5)]⟩) := by
  simp -implicitDefEqProofs [loopS_eq, c17L1]
 simp -implicitDefEqProofs [c17]
 rw [loopN_on s0 (by simp [loopFuel]), loopN_on s1 (by simp [loopFuel]), loopN_on s2 (by simp [loopFuel]), loopN_end s3 (by simp) (by simp [loopFuel])]
 simp -implicitDefEqProofs [l1, l2]

theorem own17_tff {n : Nat} (hn : 1 ≤ n) (h : HallI) (g0 : h.t0.length < 1000000) (_g1 : h.t1.length < 1000000) (_g2 : h.t2.length < 1000000) (h0 : 0 < h.t0.length) (h1 : h.t1 = []) (h2 : h.t2 = []) : RUN n 17 [ha h] = .ret (ha h) := by
 obtain ⟨d, rfl⟩ : ∃ d, n = d + 1 := ⟨n - 1, by omega⟩
 rw [RUN, call_eq fe17 _ rfl]
 have i0 := in17_0 (d := d) h.t0 g0 h0 (.sl (cI h.t0) h.t0.length) (.sl [] 0) (.sl [] 0) h.doors h.base
 have l0 := lenA h.t0 h0
 have p0 : h.t0.length - 1 + 1 = h.t0.length := by omega
 simp only [ha, csl, h1, h2, show cI ([] : List (Int × Int)) = [] from rfl, List.length_nil]
 simp only [csl] at i0
 generalize cI h.t0 = A0 at *
 generalize h.doors = hd at *
 generalize h.base = hb at *
 have s0 : loopS (evFn F C0 G0 d) C0 G0 0 true [2, 3, 14, 15] c17L1 ⟨[(2, .ptr 1 0 0), (3, .ptr 2 0 0), (14, .agg [.p (.sl A0 h.t0.length), .p (.sl [] 0), .p (.sl [] 0)]), (15, iv 0)], [(2, .box [iv hd, iv hb, .p .nils, .p .nils, .p .nils]), (1, z5), (0, .box [iv hd, iv hb, .p (.sl A0 h.t0.length), .p (.sl [] 0), .p (.sl [] 0)])]⟩ = .ret (.normal, ⟨[(2, .ptr 1 0 0), (3, .ptr 2 0 0), (14, .agg [.p (.sl A0 h.t0.length), .p (.sl [] 0), .p (.sl [] 0)]), (15, iv 1)], [(4, .arr A0 (h.t0.length - 1) 2), (2, .box [iv hd, iv hb, .sl 4 (h.t0.length - 1) 0 h.t0.length, .p .nils, .p .nils]), (1, z5)]⟩) := by
  simp -implicitDefEqProofs [loopS_eq, c17L1]
  rw [i0]
  simp -implicitDefEqProofs [own_w1]
 have s1 : loopS (evFn F C0 G0 d) C0 G0 0 true [2, 3, 14, 15] c17L1 ⟨[(2, .ptr 1 0 0), (3, .ptr 2 0 0), (14, .agg [.p (.sl A0 h.t0.length), .p (.sl [] 0), .p (.sl [] 0)]), (15, iv 1)], [(4, .arr A0 (h.t0.length - 1) 2), (2, .box [iv hd, iv hb, .sl 4 (h.t0.length - 1) 0 h.t0.length, .p .nils, .p .nils]), (1, z5)]⟩ = .ret (.normal, ⟨[(2, .ptr 1 0 0), (3, .ptr 2 0 0), (14, .agg [.p (.sl A0 h.t0.length), .p (.sl [] 0), .p (.sl [] 0)]), (15, iv 2)], [(4, .arr A0 (h.t0.length - 1) 2), (2, .box [iv hd, iv hb, .sl 4 (h.t0.length - 1) 0 h.t0.length, .p .nils, .p .nils]), (1, z5)]⟩) := by
  simp -implicitDefEqProofs [loopS_eq, c17L1]
  have e : loopS (evFn F C0 G0 d) C0 G0 0 true [2, 3, 4, 14, 15, 19, 20, 21] c17L0 ⟨[(2, .ptr 1 0 0), (3, .ptr 2 0 0), (4, iv 1), (14, .agg [.p (.sl A0 h.t0.length), .p (.sl [] 0), .p (.sl [] 0)]), (15, iv 1), (19, .p (.sl [] 0)), (20, iv 0), (21, iv 0)], [(4, .arr A0 (h.t0.length - 1) 2), (2, .box [iv hd, iv hb, .sl 4 (h.t0.length - 1) 0 h.t0.length, .p .nils, .p .nils]), (1, z5)]⟩ = .ret (.exit 2, ⟨[(2, .ptr 1 0 0), (3, .ptr 2 0 0), (4, iv 1), (14, .agg [.p (.sl A0 h.t0.length), .p (.sl [] 0), .p (.sl [] 0)]), (15, iv 1), (19, .p (.sl [] 0)), (20, iv 0), (21, iv 0), (22, .p (.bool false))], [(4, .arr A0 (h.t0.length - 1) 2), (2, .box [iv hd, iv hb, .sl 4 (h.t0.length - 1) 0 h.t0.length, .p .nils, .p .nils]), (1, z5)]⟩) := by
   simp -implicitDefEqProofs [loopS_eq, c17L0]
  rw [loopN_end e (by simp) (by simp [loopFuel])]
  simp -implicitDefEqProofs [own_w2]
 have s2 : loopS (evFn F C0 G0 d) C0 G0 0 true [2, 3, 14, 15] c17L1 ⟨[(2, .ptr 1 0 0), (3, .ptr 2 0 0), (14, .agg [.p (.sl A0 h.t0.length), .p (.sl [] 0), .p (.sl [] 0)]), (15, iv 2)], [(4, .arr A0 (h.t0.length - 1) 2), (2, .box [iv hd, iv hb, .sl 4 (h.t0.length - 1) 0 h.t0.length, .p .nils, .p .nils]), (1, z5)]⟩ = .ret (.normal, ⟨[(2, .ptr 1 0 0), (3, .ptr 2 0 0), (14, .agg [.p (.sl A0 h.t0.length), .p (.sl [] 0), .p (.sl [] 0)]), (15, iv 3)], [(4, .arr A0 (h.t0.length - 1) 2), (2, .box [iv hd, iv hb, .sl 4 (h.t0.length - 1) 0 h.t0.length, .p .nils, .p .nils]), (1, z5)]⟩) := by
  simp -implicitDefEqProofs [loopS_eq, c17L1]
  have e : loopS (evFn F C0 G0 d) C0 G0 0 true [2, 3, 4, 14, 15, 19, 20, 21] c17L0 ⟨[(2, .ptr 1 0 0), (3, .ptr 2 0 0), (4, iv 2), (14, .agg [.p (.sl A0 h.t0.length), .p (.sl [] 0), .p (.sl [] 0)]), (15, iv 2), (19, .p (.sl [] 0)), (20, iv 0), (21, iv 0)], [(4, .arr A0 (h.t0.length - 1) 2), (2, .box [iv hd, iv hb, .sl 4 (h.t0.length - 1) 0 h.t0.length, .p .nils, .p .nils]), (1, z5)]⟩ = .ret (.exit 2, ⟨[(2, .ptr 1 0 0), (3, .ptr 2 0 0), (4, iv 2), (14, .agg [.p (.sl A0 h.t0.length), .p (.sl [] 0), .p (.sl [] 0)]), (15, iv 2), (19, .p (.sl [] 0)), (20, iv 0), (21, iv 0), (22, .p (.bool false))], [(4, .arr A0 (h.t0.length - 1) 2), (2, .box [iv hd, iv hb, .sl 4 (h.t0.length - 1) 0 h.t0.length, .p .nils, .p .nils]), (1, z5)]⟩) := by
   simp -implicitDefEqProofs [loopS_eq, c17L0]
  rw [loopN_end e (by simp) (by simp [loopFuel])]
  simp -implicitDefEqProofs [own_w3]
 have s3 : loopS (evFn F C0 G0 d) C0 G0 0 true [2, 3, 14, 15] c17L1 ⟨[(2, .ptr 1 0 0), (3, .ptr 2 0 0), (14, .agg [.p (.sl A0 h.t0.length), .p (.sl [] 0), .p (.sl [] 0)]), (15, iv 3)], [(4, .arr A0 (h.t0.length - 1) 2), (2, .box [iv hd, iv hb, .sl 4 (h.t0.length - 1) 0 h.t0.length, .p .nils, .p .nils]), (1, z5)]⟩ = .ret (.exit 0, ⟨[(2, .ptr 1 0 0), (3, .ptr 2 0 0), (14, .agg [.p (.sl A0 h.t0.length), .p (.sl [] 0), .p (.sl [] 0)]), (15, iv 3), (16, .p (.bool false))], [(4, .arr A0 (h.t0.length - 1) 2), (2, .box [iv hd, iv hb, .sl 4 (h.t0.length - 1) 0 h.t0.length, .p .nils, .p .nils]), (1, z5)]⟩) := by
  simp -implicitDefEqProofs [loopS_eq, c17L1]
 simp -implicitDefEqProofs [c17]
 rw [loopN_on s0 (by simp [loopFuel]), loopN_on s1 (by simp [loopFuel]), loopN_on s2 (by simp [loopFuel]), loopN_end s3 (by simp) (by simp [loopFuel])]
 simp -implicitDefEqProofs [l0]

theorem own17_tft {n : Nat} (hn : 1 ≤ n) (h : HallI) (g0 : h.t0.length < 1000000) (_g1 : h.t1.length < 1000000) (g2 : h.t2.length < 1000000) (h0 : 0 < h.t0.length) (h1 : h.t1 = []) (h2 : 0 < h.t2.length) : RUN n 17 [ha h] = .ret (ha h) := by
 obtain ⟨d, rfl⟩ : ∃ d, n = d + 1 := ⟨n - 1, by omega⟩
 rw [RUN, call_eq fe17 _ rfl]
 have i0 := in17_0 (d := d) h.t0 g0 h0 (.sl (cI h.t0) h.t0.length) (.sl [] 0) (.sl (cI h.t2) h.t2.length) h.doors h.base
 have l0 := lenA h.t0 h0
 have p0 : h.t0.length - 1 + 1 = h.t0.length := by omega
 have i2 := in17_2tf (d := d) h.t2 g2 h2 (.sl (cI h.t0) h.t0.length) (.sl [] 0) (.sl (cI h.t2) h.t2.length) h.doors h.base (cI h.t0) (h.t0.length - 1) h.t0.length
 have l2 := lenA h.t2 h2
 have p2 : h.t2.length - 1 + 1 = h.t2.length := by omega
 simp only [ha, csl, h1, show cI ([] : List (Int × Int)) = [] from rfl, List.length_nil]
 simp only [csl] at i0 i2
 generalize cI h.t0 = A0 at *
 generalize cI h.t2 = A2 at *
 generalize h.doors = hd at *
 generalize h.base = hb at *
 have s0 : loopS (evFn F C0 G0 d) C0 G0 0 true [2, 3, 14, 15] c17L1 ⟨[(2, .ptr 1 0 0), (3, .ptr 2 0 0), (14, .agg [.p (.sl A0 h.t0.length), .p (.sl [] 0), .p (.sl A2 h.t2.length)]), (15, iv 0)], [(2, .box [iv hd, iv hb, .p .nils, .p .nils, .p .nils]), (1, z5), (0, .box [iv hd, iv hb, .p (.sl A0 h.t0.length), .p (.sl [] 0), .p (.sl A2 h.t2.length)])]⟩ = .ret (.normal, ⟨[(2, .ptr 1 0 0), (3, .ptr 2 0 0), (14, .agg [.p (.sl A0 h.t0.length), .p (.sl [] 0), .p (.sl A2 h.t2.length)]), (15, iv 1)], [(4, .arr A0 (h.t0.length - 1) 2), (2, .box [iv hd, iv hb, .sl 4 (h.t0.length - 1) 0 h.t0.length, .p .nils, .p .nils]), (1, z5)]⟩) := by
  simp -implicitDefEqProofs [loopS_eq, c17L1]
  rw [i0]
  simp -implicitDefEqProofs [own_w1]
 have s1 : loopS (evFn F C0 G0 d) C0 G0 0 true [2, 3, 14, 15] c17L1 ⟨[(2, .ptr 1 0 0), (3, .ptr 2 0 0), (14, .agg [.p (.sl A0 h.t0.length), .p (.sl [] 0), .p (.sl A2 h.t2.length)]), (15, iv 1)], [(4, .arr A0 (h.t0.length - 1) 2), (2, .box [iv hd, iv hb, .sl 4 (h.t0.length - 1) 0 h.t0.length, .p .nils, .p .nils]), (1, z5)]⟩ = .ret (.normal, ⟨[(2, .ptr 1 0 0), (3, .ptr 2 0 0), (14, .agg [.p (.sl A0 h.t0.length), .p (.sl [] 0), .p (.sl A2 h.t2.length)]), (15, iv 2)], [(4, .arr A0 (h.t0.length - 1) 2), (2, .box [iv hd, iv hb, .sl 4 (h.t0.length - 1) 0 h.t0.length, .p .nils, .p .nils]), (1, z5)]⟩) := by
  simp -implicitDefEqProofs [loopS_eq, c17L1]
  have e : loopS (evFn F C0 G0 d) C0 G0 0 true [2, 3, 4, 14, 15, 19, 20, 21] c17L0 ⟨[(2, .ptr 1 0 0), (3, .ptr 2 0 0), (4, iv 1), (14, .agg [.p (.sl A0 h.t0.length), .p (.sl [] 0), .p (.sl A2 h.t2.length)]), (15, iv 1), (19, .p (.sl [] 0)), (20, iv 0), (21, iv 0)], [(4, .arr A0 (h.t0.length - 1) 2), (2, .box [iv hd, iv hb, .sl 4 (h.t0.length - 1) 0 h.t0.length, .p .nils, .p .nils]), (1, z5)]⟩ = .ret (.exit 2, ⟨[(2, .ptr 1 0 0), (3, .ptr 2 0 0), (4, iv 1), (14, .agg [.p (.sl A0 h.t0.length), .p (.sl [] 0), .p (.sl A2 h.t2.length)]), (15, iv 1), (19, .p (.sl [] 0)), (20, iv 0), (21, iv 0), (22, .p (.bool false))], [(4, .arr A0 (h.t0.length - 1) 2), (2, .box [iv hd, iv hb, .sl 4 (h.t0.length - 1) 0 h.t0.length, .p .nils, .p .nils]), (1, z5)]⟩) := by
   simp -implicitDefEqProofs [loopS_eq, c17L0]
  rw [loopN_end e (by simp) (by simp [loopFuel])]
  simp -implicitDefEqProofs [own_w2]
 have s2 : loopS (evFn F C0 G0 d) C0 G0 0 true [2, 3, 14, 15] c17L1 ⟨[(2, .ptr 1 0 0), (3, .ptr 2 0 0), (14, .agg [.p (.sl A0 h.t0.length), .p (.sl [] 0), .p (.sl A2 h.t2.length)]), (15, iv 2)], [(4, .arr A0 (h.t0.length - 1) 2), (2, .box [iv hd, iv hb, .sl 4 (h.t0.length - 1) 0 h.t0.length, .p .nils, .p .nils]), (1, z5)]⟩ = .ret (.normal, ⟨[(2, .ptr 1 0 0), (3, .ptr 2 0 0), (14, .agg [.p (.sl A0 h.t0.length), .p (.sl [] 0), .p (.sl A2 h.t2.length)]), (15, iv 3)], [(6, .arr A2 (h.t2.length - 1) 2), (4, .arr A0 (h.t0.length - 1) 2), (2, .box [iv hd, iv hb, .sl 4 (h.t0.length - 1) 0 h.t0.length, .p .nils, .sl 6 (h.t2.length - 1) 0 h.t2.length]), (1, z5)]⟩) := by
  simp -implicitDefEqProofs [loopS_eq, c17L1]
  rw [i2]
  simp -implicitDefEqProofs [own_w3]
 have s3 : loopS (evFn F C0 G0 d) C0 G0 0 true [2, 3, 14, 15] c17L1 ⟨[(2, .ptr 1 0 0), (3, .ptr 2 0 0), (14, .agg [.p (.sl A0 h.t0.length), .p (.sl [] 0), .p (.sl A2 h.t2.length)]), (15, iv 3)], [(6, .arr A2 (h.t2.length - 1) 2), (4, .arr A0 (h.t0.length - 1) 2), (2, .box [iv hd, iv hb, .sl 4 (h.t0.length - 1) 0 h.t0.length, .p .nils, .sl 6 (h.t2.length - 1) 0 h.t2.length]), (1, z5)]⟩ = .ret (.exit 0, ⟨[(2, .ptr 1 0 0), (3, .ptr 2 0 0), (14, .agg [.p (.sl A0 h.t0.length), .p (.sl [] 0), .p (.sl A2 h.t2.length)]), (15, iv 3), (16, .p (.bool false))], [(6, .arr A2 (h.t2.length - 1) 2), (4, .arr A0 (h.t0.length - 1) 2), (2, .box [iv hd, iv hb, .sl 4 (h.t0.length - 1) 0 h.t0.length, .p .nils, .sl 6 (h.t2.length - 1) 0 h.t2.length]), (1, z5)]⟩) := by
  simp -implicitDefEqProofs [loopS_eq, c17L1]
 simp -implicitDefEqProofs [c17]
 rw [loopN_on s0 (by simp [loopFuel]), loopN_on s1 (by simp [loopFuel]), loopN_on s2 (by simp [loopFuel]), loopN_end s3 (by simp) (by simp [loopFuel])]
 simp -implicitDefEqProofs [l0, l2]

theorem own17_ttf {n : Nat} (hn : 1 ≤ n) (h : HallI) (g0 : h.t0.length < 1000000) (g1 : h.t1.length < 1000000) (_g2 : h.t2.length < 1000000) (h0 : 0 < h.t0.length) (h1 : 0 < h.t1.length) (h2 : h.t2 = []) : RUN n 17 [ha h] = .ret (ha h) := by
 obtain ⟨d, rfl⟩ : ∃ d, n = d + 1 := ⟨n - 1, by omega⟩
 rw [RUN, call_eq fe17 _ rfl]
 have i0 := in17_0 (d := d) h.t0 g0 h0 (.sl (cI h.t0) h.t0.length) (.sl (cI h.t1) h.t1.length) (.sl [] 0) h.doors h.base
 have l0 := lenA h.t0 h0
 have p0 : h.t0.length - 1 + 1 = h.t0.length := by omega
 have i1 := in17_1t (d := d) h.t1 g1 h1 (.sl (cI h.t0) h.t0.length) (.sl (cI h.t1) h.t1.length) (.sl [] 0) h.doors h.base (cI h.t0) (h.t0.length - 1) h.t0.length
 have l1 := lenA h.t1 h1
 have p1 : h.t1.length - 1 + 1 = h.t1.length := by omega
 simp only [ha, csl, h2, show cI ([] : List (Int × Int)) = [] from rfl, List.length_nil]
 simp only [csl] at i0 i1
 generalize cI h.t0 = A0 at *
 generalize cI h.t1 = A1 at *
 generalize h.doors = hd at *
 generalize h.base = hb at *
 have s0 : loopS (evFn F C0 G0 d) C0 G0 0 true [2, 3, 14, 15] c17L1 ⟨[(2, .ptr 1 0 0), (3, .ptr 2 0 0), (14, .agg [.p (.sl A0 h.t0.length), .p (.sl A1 h.t1.length), .p (.sl [] 0)]), (15, iv 0)], [(2, .box [iv hd, iv hb, .p .nils, .p .nils, .p .nils]), (1, z5), (0, .box [iv hd, iv hb, .p (.sl A0 h.t0.length), .p (.sl A1 h.t1.length), .p (.sl [] 0)])]⟩ = .ret (.normal, ⟨[(2, .ptr 1 0 0), (3, .ptr 2 0 0), (14, .agg [.p (.sl A0 h.t0.length), .p (.sl A1 h.t1.length), .p (.sl [] 0)]), (15, iv 1)], [(4, .arr A0 (h.t0.length - 1) 2), (2, .box [iv hd, iv hb, .sl 4 (h.t0.length - 1) 0 h.t0.length, .p .nils, .p .nils]), (1, z5)]⟩) := by
  simp -implicitDefEqProofs [loopS_eq, c17L1]
  rw [i0]
  simp -implicitDefEqProofs [own_w1]
 have s1 : loopS (evFn F C0 G0 d) C0 G0 0 true [2, 3, 14, 15] c17L1 ⟨[(2, .ptr 1 0 0), (3, .ptr 2 0 0), (14, .agg [.p (.sl A0 h.t0.length), .p (.sl A1 h.t1.length), .p (.sl [] 0)]), (15, iv 1)], [(4, .arr A0 (h.t0.length - 1) 2), (2, .box [iv hd, iv hb, .sl 4 (h.t0.length - 1) 0 h.t0.length, .p .nils, .p .nils]), (1, z5)]⟩ = .ret (.normal, ⟨[(2, .ptr 1 0 0), (3, .ptr 2 0 0), (14, .agg [.p (.sl A0 h.t0.length), .p (.sl A1 h.t1.length), .p (.sl [] 0)]), (15, iv 2)], [(6, .arr A1 (h.t1.length - 1) 2), (4, .arr A0 (h.t0.length - 1) 2), (2, .box [iv hd, iv hb, .sl 4 (h.t0.length - 1) 0 h.t0.length, .sl 6 (h.t1.length - 1) 0 h.t1.length, .p .nils]), (1, z5)]⟩) := by
  simp -implicitDefEqProofs [loopS_eq, c17L1]
  rw [i1]
  simp -implicitDefEqProofs [own_w2]
 have s2 : loopS (evFn F C0 G0 d) C0 G0 0 true [2, 3, 14, 15] c17L1 ⟨[(2, .ptr 1 0 0), (3, .ptr 2 0 0), (14, .agg [.p (.sl A0 h.t0.length), .p (.sl A1 h.t1.length), .p (.sl [] 0)]), (15, iv 2)], [(6, .arr A1 (h.t1.length - 1) 2), (4, .arr A0 (h.t0.length - 1) 2), (2, .box [iv hd, iv hb, .sl 4 (h.t0.length - 1) 0 h.t0.length, .sl 6 (h.t1.length - 1) 0 h.t1.length, .p .nils]), (1, z5)]⟩ = .ret (.normal, ⟨[(2, .ptr 1 0 0), (3, .ptr 2 0 0), (14, .agg [.p (.sl A0 h.t0.length), .p (.sl A1 h.t1.length), .p (.sl [] 0)]), (15, iv 3)], [(6, .arr A1 (h.t1.length - 1) 2), (4, .arr A0 (h.t0.length - 1) 2), (2, .box [iv hd, iv hb, .sl 4 (h.t0.length - 1) 0 h.t0.length, .sl 6 (h.t1.length - 1) 0 h.t1.length, .p .nils]), (1, z5)]⟩) := by
  simp -implicitDefEqProofs [loopS_eq, c17L1]
  have e : loopS (evFn F C0 G0 d) C0 G0 0 true [2, 3, 4, 14, 15, 19, 20, 21] c17L0 ⟨[(2, .ptr 1 0 0), (3, .ptr 2 0 0), (4, iv 2), (14, .agg [.p (.sl A0 h.t0.length), .p (.sl A1 h.t1.length), .p (.sl [] 0)]), (15, iv 2), (19, .p (.sl [] 0)), (20, iv 0), (21, iv 0)], [(6, .arr A1 (h.t1.length - 1) 2), (4, .arr A0 (h.t0.length - 1) 2), (2, .box [iv hd, iv hb, .sl 4 (h.t0.length - 1) 0 h.t0.length, .sl 6 (h.t1.length - 1) 0 h.t1.length, .p .nils]), (1, z5)]⟩ = .ret (.exit 2, ⟨[(2, .ptr 1 0 0), (3, .ptr 2 0 0), (4, iv 2), (14, .agg [.p (.sl A0 h.t0.length), .p (.sl A1 h.t1.length), .p (.sl [] 0)]), (15, iv 2), (19, .p (.sl [] 0)), (20, iv 0), (21, iv 0), (22, .p (.bool false))], [(6, .arr A1 (h.t1.length - 1) 2), (4, .arr A0 (h.t0.length - 1) 2), (2, .box [iv hd, iv hb, .sl 4 (h.t0.length - 1) 0 h.t0.length, .sl 6 (h.t1.length - 1) 0 h.t1.length, .p .nils]), (1, z5)]⟩) := by
   simp -implicitDefEqProofs [loopS_eq, c17L0]
  rw [loopN_end e (by simp) (by simp [loopFuel])]
  simp -implicitDefEqProofs [own_w3]
 have s3 : loopS (evFn F C0 G0 d) C0 G0 0 true [2, 3, 14, 15] c17L1 ⟨[(2, .ptr 1 0 0), (3, .ptr 2 0 0), (14, .agg [.p (.sl A0 h.t0.length), .p (.sl A1 h.t1.length), .p (.sl [] 0)]), (15, iv 3)], [(6, .arr A1 (h.t1.length - 1) 2), (4, .arr A0 (h.t0.length - 1) 2), (2, .box [iv hd, iv hb, .sl 4 (h.t0.length - 1) 0 h.t0.length, .sl 6 (h.t1.length - 1) 0 h.t1.length, .p .nils]), (1, z5)]⟩ = .ret (.exit 0, ⟨[(2, .ptr 1 0 0), (3, .ptr 2 0 0), (14, .agg [.p (.sl A0 h.t0.length), .p (.sl A1 h.t1.length), .p (.sl [] 0)]), (15, iv 3), (16, .p (.bool false))], [(6, .arr A1 (h.t1.length - 1) 2), (4, .arr A0 (h.t0.length - 1) 2), (2, .box [iv hd, iv hb, .sl 4 (h.t0.length - 1) 0 h.t0.length, .sl 6 (h.t1.length - 1) 0 h.t1.length, .p .nils]), (1, z5)]⟩) := by
  simp -implicitDefEqProofs [loopS_eq, c17L1]
 simp -implicitDefEqProofs [c17]
 rw [loopN_on s0 (by simp [loopFuel]), loopN_on s1 (by simp [loopFuel]), loopN_on s2 (by simp [loopFuel]), loopN_end s3 (by simp) (by simp [loopFuel])]
 simp -implicitDefEqProofs [l0, l1]

theorem own17_ttt {n : Nat} (hn : 1 ≤ n) (h : HallI) (g0 : h.t0.length < 1000000) (g1 : h.t1.length < 1000000) (g2 : h.t2.length < 1000000) (h0 : 0 < h.t0.length) (h1 : 0 < h.t1.length) (h2 : 0 < h.t2.length) : RUN n 17 [ha h] = .ret (ha h) := by
 obtain ⟨d, rfl⟩ : ∃ d, n = d + 1 := ⟨n - 1, by omega⟩
 rw [RUN, call_eq fe17 _ rfl]
 have i0 := in17_0 (d := d) h.t0 g0 h0 (.sl (cI h.t0) h.t0.length) (.sl (cI h.t1) h.t1.length) (.sl (cI h.t2) h.t2.length) h.doors h.base
 have l0 := lenA h.t0 h0
 have p0 : h.t0.length - 1 + 1 = h.t0.length := by omega
 have i1 := in17_1t (d := d) h.t1 g1 h1 (.sl (cI h.t0) h.t0.length) (.sl (cI h.t1) h.t1.length) (.sl (cI h.t2) h.t2.length) h.doors h.base (cI h.t0) (h.t0.length - 1) h.t0.length
 have l1 := lenA h.t1 h1
 have p1 : h.t1.length - 1 + 1 = h.t1.length := by omega
 have i2 := in17_2tt (d := d) h.t2 g2 h2 (.sl (cI h.t0) h.t0.length) (.sl (cI h.t1) h.t1.length) (.sl (cI h.t2) h.t2.length) h.doors h.base (cI h.t0) (h.t0.length - 1) h.t0.length (cI h.t1) (h.t1.length - 1) h.t1.length
 have l2 := lenA h.t2 h2
 have p2 : h.t2.length - 1 + 1 = h.t2.length := by omega
 simp only [ha, csl]
 simp only [csl] at i0 i1 i2
 generalize cI h.t0 = A0 at *
 generalize cI h.t1 = A1 at *
 generalize cI h.t2 = A2 at *
 generalize h.doors = hd at *
 generalize h.base = hb at *
 have s0 : loopS (evFn F C0 G0 d) C0 G0 0 true [2, 3, 14, 15] c17L1 ⟨[(2, .ptr 1 0 0), (3, .ptr 2 0 0), (14, .agg [.p (.sl A0 h.t0.length), .p (.sl A1 h.t1.length), .p (.sl A2 h.t2.length)]), (15, iv 0)], [(2, .box [iv hd, iv hb, .p .nils, .p .nils, .p .nils]), (1, z5), (0, .box [iv hd, iv hb, .p (.sl A0 h.t0.length), .p (.sl A1 h.t1.length), .p (.sl A2 h.t2.length)])]⟩ = .ret (.normal, ⟨[(2, .ptr 1 0 0), (3, .ptr 2 0 0), (14, .agg [.p (.sl A0 h.t0.length), .p (.sl A1 h.t1.length), .p (.sl A2 h.t2.length)]), (15, iv 1)], [(4, .arr A0 (h.t0.length - 1) 2), (2, .box [iv hd, iv hb, .sl 4 (h.t0.length - 1) 0 h.t0.length, .p .nils, .p .nils]), (1, z5)]⟩) := by
  simp -implicitDefEqProofs [loopS_eq, c17L1]
  rw [i0]
  simp -implicitDefEqProofs [own_w1]
 have s1 : loopS (evFn F C0 G0 d) C0 G0 0 true [2, 3, 14, 15] c17L1 ⟨[(2, .ptr 1 0 0), (3, .ptr 2 0 0), (14, .agg [.p (.sl A0 h.t0.length), .p (.sl A1 h.t1.length), .p (.sl A2 h.t2.length)]), (15, iv 1)], [(4, .arr A0 (h.t0.length - 1) 2), (2, .box [iv hd, iv hb, .sl 4 (h.t0.length - 1) 0 h.t0.length, .p .nils, .p .nils]), (1, z5)]⟩ = .ret (.normal, ⟨[(2, .ptr 1 0 0), (3, .ptr 2 0 0), (14, .agg [.p (.sl A0 h.t0.length), .p (.sl A1 h.t1.length), .p (.sl A2 h.t2.length)]), (15, iv 2)], [(6, .arr A1 (h.t1.length - 1) 2), (4, .arr A0 (h.t0.length - 1) 2), (2, .box [iv hd, iv hb, .sl 4 (h.t0.length - 1) 0 h.t0.length, .sl 6 (h.t1.length - 1) 0 h.t1.length, .p .nils]), (1, z5)]⟩) := by
  simp -implicitDefEqProofs [loopS_eq, c17L1]
  rw [i1]
  simp -implicitDefEqProofs [own_w2]
 have s2 : loopS (evFn F C0 G0 d) C0 G0 0 true [2, 3, 14, 15] c17L1 ⟨[(2, .ptr 1 0 0), (3, .ptr 2 0 0), (14, .agg [.p (.sl A0 h.t0.length), .p (.sl A1 h.t1.length), .p (.sl A2 h.t2.length)]), (15, iv 2)], [(6, .arr A1 (h.t1.length - 1) 2), (4, .arr A0 (h.t0.length - 1) 2), (2, .box [iv hd, iv hb, .sl 4 (h.t0.length - 1) 0 h.t0.length, .sl 6 (h.t1.length - 1) 0 h.t1.length, .p .nils]), (1, z5)]⟩ = .ret (.normal, ⟨[(2, .ptr 1 0 0), (3, .ptr 2 0 0), (14, .agg [.p (.sl A0 h.t0.length), .p (.sl A1 h.t1.length), .p (.sl A2 h.t2.length)]), (15, iv 3)], [(8, .arr A2 (h.t2.length - 1) 2), (6, .arr A1 (h.t1.length - 1) 2), (4, .arr A0 (h.t0.length - 1) 2), (2, .box [iv hd, iv hb, .sl 4 (h.t0.length - 1) 0 h.t0.length, .sl 6 (h.t1.length - 1) 0 h.t1.length, .sl 8 (h.t2.length - 1) 0 h.t2.length]), (1, z5)]⟩) := by
  simp -implicitDefEqProofs [loopS_eq, c17L1]
  rw [i2]
  simp -implicitDefEqProofs [own_w3]
 have s3 : loopS (evFn F C0 G0 d) C0 G0 0 true [2, 3, 14, 15] c17L1 ⟨[(2, .ptr 1 0 0), (3, .ptr 2 0 0), (14, .agg [.p (.sl A0 h.t0.length), .p (.sl A1 h.t1.length), .p (.sl A2 h.t2.length)]), (15, iv 3)], [(8, .arr A2 (h.t2.length - 1) 2), (6, .arr A1 (h.t1.length - 1) 2), (4, .arr A0 (h.t0.length - 1) 2), (2, .box [iv hd, iv hb, .sl 4 (h.t0.length - 1) 0 h.t0.length, .sl 6 (h.t1.length - 1) 0 h.t1.length, .sl 8 (h.t2.length - 1) 0 h.t2.length]), (1, z5)]⟩ = .ret (.exit 0, ⟨[(2, .ptr 1 0 0), (3, .ptr 2 0 0), (14, .agg [.p (.sl A0 h.t0.length), .p (.sl A1 h.t1.length), .p (.sl A2 h.t2.length)]), (15, iv 3), (16, .p (.bool false))], [(8, .arr A2 (h.t2.length - 1) 2), (6, .arr A1 (h.t1.length - 1) 2), (4, .arr A0 (h.t0.length - 1) 2), (2, .box [iv hd, iv hb, .sl 4 (h.t0.length - 1) 0 h.t0.length, .sl 6 (h.t1.length - 1) 0 h.t1.length, .sl 8 (h.t2.length - 1) 0 h.t2.length]), (1, z5)]⟩) := by
  simp -implicitDefEqProofs [loopS_eq, c17L1]
 simp -implicitDefEqProofs [c17]
 rw [loopN_on s0 (by simp [loopFuel]), loopN_on s1 (by simp [loopFuel]), loopN_on s2 (by simp [loopFuel]), loopN_end s3 (by simp) (by simp [loopFuel])]
 simp -implicitDefEqProofs [l0, l1, l2]

theorem own17 {n : Nat} (hn : 1 ≤ n) (h : HallI) (g0 : h.t0.length < 1000000) (g1 : h.t1.length < 1000000) (g2 : h.t2.length < 1000000) : RUN n 17 [ha h] = .ret (ha h) := by
 have key : ∀ l : List (Int × Int), l = [] ∨ 0 < l.length := fun l => by cases l <;> simp
 rcases key h.t0 with a | a <;> rcases key h.t1 with b | b <;> rcases key h.t2 with c | c

 ·exact own17_fff hn h g0 g1 g2 a b c
 ·exact own17_fft hn h g0 g1 g2 a b c
 ·exact own17_ftf hn h g0 g1 g2 a b c
 ·exact own17_ftt hn h g0 g1 g2 a b c
 ·exact own17_tff hn h g0 g1 g2 a b c
 ·exact own17_tft hn h g0 g1 g2 a b c
 ·exact own17_ttf hn h g0 g1 g2 a b c
 ·exact own17_ttt hn h g0 g1 g2 a b c
end Fw
end

