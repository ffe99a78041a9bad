/- Several texts in one: steps of the proof, no condition of their own. -/
import Derived.Test.YthiklnppmlmjeaaDoorTgH4
import Derived.KernelRfl
attribute [local irreducible] Fw.evCode Fw.evOps Fw.evOpsD Fw.evOper Fw.evOperD Fw.evOp Fw.evFn Fw.loopN Fw.T.All Fw.T.bind Fw.callPure Fw.callOp Fw.opsK Fw.opsDK Fw.restK Fw.seqK Fw.blockK Fw.loopS Fw.setK Fw.setQ Fw.giveK Fw.scalK Fw.gcK Fw.finish Fw.finS Fw.rfunK Fw.yldK Fw.yldB Fw.loopK
section
set_option maxHeartbeats 16000000
namespace Fw
open Go

theorem cI_take (l : List (Int × Int)) (i : Nat) (hi : i < l.length) : cI (l.take (i + 1)) = cI (l.take i) ++ [.int .i64 l[i].1, .int .i64 l[i].2] := by
 rw [← List.take_append_getElem hi, cI_append]; rfl

abbrev z5 : Obj := .box [iv 0, iv 0, .p .nils, .p .nils, .p .nils]

theorem in17_0 {d : Nat} (l : List (Int × Int)) (hl : l.length < 1000000) (h0 : 0 < l.length) (x y z : PVal) (hd hb : Int) :
  loopN (loopS (evFn F C0 G0 d) C0 G0 0 true [2, 3, 4, 14, 15, 19, 20, 21] c17L0) loopFuel ⟨[(2, .ptr 1 0 0), (3, .ptr 2 0 0), (4, iv 0), (14, .agg [.p x, .p y, .p z]), (15, iv 0), (19, csl l), (20, iv l.length), (21, iv 0)], [(2, .box [iv hd, iv hb, .p .nils, .p .nils, .p .nils]), (1, z5)]⟩ =
  .ret (.exit 2, ⟨[(2, .ptr 1 0 0), (3, .ptr 2 0 0), (4, iv 0), (14, .agg [.p x, .p y, .p z]), (15, iv 0), (19, csl l), (20, iv l.length), (21, iv l.length), (22, .p (.bool false))], [(4, .arr (cI l) (l.length - 1) 2), (2, .box [iv hd, iv hb, .sl 4 (l.length - 1) 0 l.length, .p .nils, .p .nils]), (1, z5)]⟩) := by
 have htl : l.take l.length = l := List.take_of_length_le (by omega)
 have := loop_run' (step := loopS (evFn F C0 G0 d) C0 G0 0 true [2, 3, 4, 14, 15, 19, 20, 21] c17L0) (fun i => if i = 0 then ⟨[(2, .ptr 1 0 0), (3, .ptr 2 0 0), (4, iv 0), (14, .agg [.p x, .p y, .p z]), (15, iv 0), (19, csl l), (20, iv l.length), (21, iv 0)], [(2, .box [iv hd, iv hb, .p .nils, .p .nils, .p .nils]), (1, z5)]⟩ else ⟨[(2, .ptr 1 0 0), (3, .ptr 2 0 0), (4, iv 0), (14, .agg [.p x, .p y, .p z]), (15, iv 0), (19, csl l), (20, iv l.length), (21, iv i)], [(4, .arr (cI (l.take i)) (i - 1) 2), (2, .box [iv hd, iv hb, .sl 4 (i - 1) 0 i, .p .nils, .p .nils]), (1, z5)]⟩) l.length (e := .exit 2) (st' := ⟨[(2, .ptr 1 0 0), (3, .ptr 2 0 0), (4, iv 0), (14, .agg [.p x, .p y, .p z]), (15, iv 0), (19, csl l), (20, iv l.length), (21, iv l.length), (22, .p (.bool false))], [(4, .arr (cI l) (l.length - 1) 2), (2, .box [iv hd, iv hb, .sl 4 (l.length - 1) 0 l.length, .p .nils, .p .nils]), (1, z5)]⟩) (st0 := ⟨[(2, .ptr 1 0 0), (3, .ptr 2 0 0), (4, iv 0), (14, .agg [.p x, .p y, .p z]), (15, iv 0), (19, csl l), (20, iv l.length), (21, iv 0)], [(2, .box [iv hd, iv hb, .p .nils, .p .nils, .p .nils]), (1, z5)]⟩) (by simp) rfl (fun i hi => by
  have hx := cI_drop l i hi
  have hlt : i * 2 < l.length * 2 := by omega
  have wi := wrap_succ (i := i) (by omega)
  have hcl := cI_length l
  have htk := cI_take l i hi
  have hct := cI_length (l.take i)
  have hti : (l.take i).length = i := by simp; omega
  rw [hti] at hct
  have hlim : i + 1 ≤ lim := by simp only [lim]; omega
  simp only [csl]
  by_cases c0 : i = 0
  ·subst c0
   have w0 : IntKind.i64.wrap 1 = 1 := by decide
   have e1 : cI (l.take (0 + 1)) = [.int .i64 l[0].1, .int .i64 l[0].2] := by rw [htk]; rfl
   simp only [Nat.zero_mul, List.drop_zero] at hx
   rw [if_pos rfl, if_neg (by omega)]
   rw [e1]
   generalize cI (l.drop (0 + 1)) = R2 at *
   generalize cI l = A at *
   generalize l[0] = s at *
   have hlim1 : 1 ≤ lim := by decide
   refine ⟨?_, ?h1, ?h2⟩
   case h1 =>
    simp -implicitDefEqProofs [loopS_eq, c17L0, stOp, fresh, hi, hx, w0, hlim1]
    exact rfl
   case h2 => exact loopS_same (by simp [hx]) (by simp [hx])
  ·obtain ⟨j, rfl⟩ : ∃ j, i = j + 1 := ⟨i - 1, by omega⟩
   rw [if_neg c0, if_neg (by omega), htk]
   have ej : j + 1 - 1 = j := rfl
   have ej2 : j + 1 + 1 - 1 = j + 1 := rfl
   rw [ej, ej2]
   generalize cI (l.drop (j + 1 + 1)) = R2 at *
   generalize cI (l.take (j + 1)) = C at *
   generalize cI l = A at *
   generalize l[j + 1] = s at *
   generalize hij : j + 1 = i at *
   refine ⟨?_, ?h1, ?h2⟩
   case h1 =>
    simp -implicitDefEqProofs [loopS_eq, c17L0, stOp, fresh, hi, hx, hlt, hcl, hct, wi, hlim]
    exact rfl
   case h2 => exact loopS_same (by simp []) (by simp [hij])) (by
  rw [if_neg (by omega), htl]
  simp -implicitDefEqProofs [loopS_eq, c17L0]) (fuel := loopFuel) (by simp [loopFuel]; omega)
 exact this

theorem in17_1f {d : Nat} (l : List (Int × Int)) (hl : l.length < 1000000) (h0 : 0 < l.length) (x y z : PVal) (hd hb : Int) :
  loopN (loopS (evFn F C0 G0 d) C0 G0 0 true [2, 3, 4, 14, 15, 19, 20, 21] c17L0) loopFuel ⟨[(2, .ptr 1 0 0), (3, .ptr 2 0 0), (4, iv 1), (14, .agg [.p x, .p y, .p z]), (15, iv 1), (19, csl l), (20, iv l.length), (21, iv 0)], [(2, .box [iv hd, iv hb, .p .nils, .p .nils, .p .nils]), (1, z5)]⟩ =
  .ret (.exit 2, ⟨[(2, .ptr 1 0 0), (3, .ptr 2 0 0), (4, iv 1), (14, .agg [.p x, .p y, .p z]), (15, iv 1), (19, csl l), (20, iv l.length), (21, iv l.length), (22, .p (.bool false))], [(4, .arr (cI l) (l.length - 1) 2), (2, .box [iv hd, iv hb, .p .nils, .sl 4 (l.length - 1) 0 l.length, .p .nils]), (1, z5)]⟩) := by
 have htl : l.take l.length = l := List.take_of_length_le (by omega)
 have := loop_run' (step := loopS (evFn F C0 G0 d) C0 G0 0 true [2, 3, 4, 14, 15, 19, 20, 21] c17L0) (fun i => if i = 0 then ⟨[(2, .ptr 1 0 0), (3, .ptr 2 0 0), (4, iv 1), (14, .agg [.p x, .p y, .p z]), (15, iv 1), (19, csl l), (20, iv l.length), (21, iv 0)], [(2, .box [iv hd, iv hb, .p .nils, .p .nils, .p .nils]), (1, z5)]⟩ else ⟨[(2, .ptr 1 0 0), (3, .ptr 2 0 0), (4, iv 1), (14, .agg [.p x, .p y, .p z]), (15, iv 1), (19, csl l), (20, iv l.length), (21, iv i)], [(4, .arr (cI (l.take i)) (i - 1) 2), (2, .box [iv hd, iv hb, .p .nils, .sl 4 (i - 1) 0 i, .p .nils]), (1, z5)]⟩) l.length (e := .exit 2) (st' := ⟨[(2, .ptr 1 0 0), (3, .ptr 2 0 0), (4, iv 1), (14, .agg [.p x, .p y, .p z]), (15, iv 1), (19, csl l), (20, iv l.length), (21, iv l.length), (22, .p (.bool false))], [(4, .arr (cI l) (l.length - 1) 2), (2, .box [iv hd, iv hb, .p .nils, .sl 4 (l.length - 1) 0 l.length, .p .nils]), (1, z5)]⟩) (st0 := ⟨[(2, .ptr 1 0 0), (3, .ptr 2 0 0), (4, iv 1), (14, .agg [.p x, .p y, .p z]), (15, iv 1), (19, csl l), (20, iv l.length), (21, iv 0)], [(2, .box [iv hd, iv hb, .p .nils, .p .nils, .p .nils]), (1, z5)]⟩) (by simp) rfl (fun i hi => by
  have hx := cI_drop l i hi
  have hlt : i * 2 < l.length * 2 := by omega
  have wi := wrap_succ (i := i) (by omega)
  have hcl := cI_length l
  have htk := cI_take l i hi
  have hct := cI_length (l.take i)
  have hti : (l.take i).length = i := by simp; omega
  rw [hti] at hct
  have hlim : i + 1 ≤ lim := by simp only [lim]; omega
  simp only [csl]
  by_cases c0 : i = 0
  ·subst c0
   have w0 : IntKind.i64.wrap 1 = 1 := by decide
   have e1 : cI (l.take (0 + 1)) = [.int .i64 l[0].1, .int .i64 l[0].2] := by rw [htk]; rfl
   simp only [Nat.zero_mul, List.drop_zero] at hx
   rw [if_pos rfl, if_neg (by omega)]
   rw [e1]
   generalize cI (l.drop (0 + 1)) = R2 at *
   generalize cI l = A at *
   generalize l[0] = s at *
   have hlim1 : 1 ≤ lim := by decide
   refine ⟨?_, ?h1, ?h2⟩
   case h1 =>
    simp -implicitDefEqProofs [loopS_eq, c17L0, stOp, fresh, hi, hx, w0, hlim1]
    exact rfl
   case h2 => exact loopS_same (by simp [hx]) (by simp [hx])
  ·obtain ⟨j, rfl⟩ : ∃ j, i = j + 1 := ⟨i - 1, by omega⟩
   rw [if_neg c0, if_neg (by omega), htk]
   have ej : j + 1 - 1 = j := rfl
   have ej2 : j + 1 + 1 - 1 = j + 1 := rfl
   rw [ej, ej2]
   generalize cI (l.drop (j + 1 + 1)) = R2 at *
   generalize cI (l.take (j + 1)) = C at *
   generalize cI l = A at *
   generalize l[j + 1] = s at *
   generalize hij : j + 1 = i at *
   refine ⟨?_, ?h1, ?h2⟩
   case h1 =>
    simp -implicitDefEqProofs [loopS_eq, c17L0, stOp, fresh, hi, hx, hlt, hcl, hct, wi, hlim]
    exact rfl
   case h2 => exact loopS_same (by simp []) (by simp [hij])) (by
  rw [if_neg (by omega), htl]
  simp -implicitDefEqProofs [loopS_eq, c17L0]) (fuel := loopFuel) (by simp [loopFuel]; omega)
 exact this

theorem in17_1t {d : Nat} (l : List (Int × Int)) (hl : l.length < 1000000) (h0 : 0 < l.length) (x y z : PVal) (hd hb : Int) (A0 : List PVal) (v0 n0 : Nat) :
  loopN (loopS (evFn F C0 G0 d) C0 G0 0 true [2, 3, 4, 14, 15, 19, 20, 21] c17L0) loopFuel ⟨[(2, .ptr 1 0 0), (3, .ptr 2 0 0), (4, iv 1), (14, .agg [.p x, .p y, .p z]), (15, iv 1), (19, csl l), (20, iv l.length), (21, iv 0)], [(4, .arr A0 v0 2), (2, .box [iv hd, iv hb, .sl 4 v0 0 n0, .p .nils, .p .nils]), (1, z5)]⟩ =
  .ret (.exit 2, ⟨[(2, .ptr 1 0 0), (3, .ptr 2 0 0), (4, iv 1), (14, .agg [.p x, .p y, .p z]), (15, iv 1), (19, csl l), (20, iv l.length), (21, iv l.length), (22, .p (.bool false))], [(6, .arr (cI l) (l.length - 1) 2), (4, .arr A0 v0 2), (2, .box [iv hd, iv hb, .sl 4 v0 0 n0, .sl 6 (l.length - 1) 0 l.length, .p .nils]), (1, z5)]⟩) := by
 have htl : l.take l.length = l := List.take_of_length_le (by omega)
 have := loop_run' (step := loopS (evFn F C0 G0 d) C0 G0 0 true [2, 3, 4, 14, 15, 19, 20, 21] c17L0) (fun i => if i = 0 then ⟨[(2, .ptr 1 0 0), (3, .ptr 2 0 0), (4, iv 1), (14, .agg [.p x, .p y, .p z]), (15, iv 1), (19, csl l), (20, iv l.length), (21, iv 0)], [(4, .arr A0 v0 2), (2, .box [iv hd, iv hb, .sl 4 v0 0 n0, .p .nils, .p .nils]), (1, z5)]⟩ else ⟨[(2, .ptr 1 0 0), (3, .ptr 2 0 0), (4, iv 1), (14, .agg [.p x, .p y, .p z]), (15, iv 1), (19, csl l), (20, iv l.length), (21, iv i)], [(6, .arr (cI (l.take i)) (i - 1) 2), (4, .arr A0 v0 2), (2, .box [iv hd, iv hb, .sl 4 v0 0 n0, .sl 6 (i - 1) 0 i, .p .nils]), (1, z5)]⟩) l.length (e := .exit 2) (st' := ⟨[(2, .ptr 1 0 0), (3, .ptr 2 0 0), (4, iv 1), (14, .agg [.p x, .p y, .p z]), (15, iv 1), (19, csl l), (20, iv l.length), (21, iv l.length), (22, .p (.bool false))], [(6, .arr (cI l) (l.length - 1) 2), (4, .arr A0 v0 2), (2, .box [iv hd, iv hb, .sl 4 v0 0 n0, .sl 6 (l.length - 1) 0 l.length, .p .nils]), (1, z5)]⟩) (st0 := ⟨[(2, .ptr 1 0 0), (3, .ptr 2 0 0), (4, iv 1), (14, .agg [.p x, .p y, .p z]), (15, iv 1), (19, csl l), (20, iv l.length), (21, iv 0)], [(4, .arr A0 v0 2), (2, .box [iv hd, iv hb, .sl 4 v0 0 n0, .p .nils, .p .nils]), (1, z5)]⟩) (by simp) rfl (fun i hi => by
  have hx := cI_drop l i hi
  have hlt : i * 2 < l.length * 2 := by omega
  have wi := wrap_succ (i := i) (by omega)
  have hcl := cI_length l
  have htk := cI_take l i hi
  have hct := cI_length (l.take i)
  have hti : (l.take i).length = i := by simp; omega
  rw [hti] at hct
  have hlim : i + 1 ≤ lim := by simp only [lim]; omega
  simp only [csl]
  by_cases c0 : i = 0
  ·subst c0
   have w0 : IntKind.i64.wrap 1 = 1 := by decide
   have e1 : cI (l.take (0 + 1)) = [.int .i64 l[0].1, .int .i64 l[0].2] := by rw [htk]; rfl
   simp only [Nat.zero_mul, List.drop_zero] at hx
   rw [if_pos rfl, if_neg (by omega)]
   rw [e1]
   generalize cI (l.drop (0 + 1)) = R2 at *
   generalize cI l = A at *
   generalize l[0] = s at *
   have hlim1 : 1 ≤ lim := by decide
   refine ⟨?_, ?h1, ?h2⟩
   case h1 =>
    simp -implicitDefEqProofs [loopS_eq, c17L0, stOp, fresh, hi, hx, w0, hlim1]
    exact rfl
   case h2 => exact loopS_same (by simp [hx]) (by simp [hx])
  ·obtain ⟨j, rfl⟩ : ∃ j, i = j + 1 := ⟨i - 1, by omega⟩
   rw [if_neg c0, if_neg (by omega), htk]
   have ej : j + 1 - 1 = j := rfl
   have ej2 : j + 1 + 1 - 1 = j + 1 := rfl
   rw [ej, ej2]
   generalize cI (l.drop (j + 1 + 1)) = R2 at *
   generalize cI (l.take (j + 1)) = C at *
   generalize cI l = A at *
   generalize l[j + 1] = s at *
   generalize hij : j + 1 = i at *
   refine ⟨?_, ?h1, ?h2⟩
   case h1 =>
    simp -implicitDefEqProofs [loopS_eq, c17L0, stOp, fresh, hi, hx, hlt, hcl, hct, wi, hlim]
    exact rfl
   case h2 => exact loopS_same (by simp []) (by simp [hij])) (by
  rw [if_neg (by omega), htl]
  simp -implicitDefEqProofs [loopS_eq, c17L0]) (fuel := loopFuel) (by simp [loopFuel]; omega)
 exact this

theorem in17_2ff {d : Nat} (l : List (Int × Int)) (hl : l.length < 1000000) (h0 : 0 < l.length) (x y z : PVal) (hd hb : Int) :
  loopN (loopS (evFn F C0 G0 d) C0 G0 0 true [2, 3, 4, 14, 15, 19, 20, 21] c17L0) loopFuel ⟨[(2, .ptr 1 0 0), (3, .ptr 2 0 0), (4, iv 2), (14, .agg [.p x, .p y, .p z]), (15, iv 2), (19, csl l), (20, iv l.length), (21, iv 0)], [(2, .box [iv hd, iv hb, .p .nils, .p .nils, .p .nils]), (1, z5)]⟩ =
  .ret (.exit 2, ⟨[(2, .ptr 1 0 0), (3, .ptr 2 0 0), (4, iv 2), (14, .agg [.p x, .p y, .p z]), (15, iv 2), (19, csl l), (20, iv l.length), (21, iv l.length), (22, .p (.bool false))], [(4, .arr (cI l) (l.length - 1) 2), (2, .box [iv hd, iv hb, .p .nils, .p .nils, .sl 4 (l.length - 1) 0 l.length]), (1, z5)]⟩) := by
 have htl : l.take l.length = l := List.take_of_length_le (by omega)
 have := loop_run' (step := loopS (evFn F C0 G0 d) C0 G0 0 true [2, 3, 4, 14, 15, 19, 20, 21] c17L0) (fun i => if i = 0 then ⟨[(2, .ptr 1 0 0), (3, .ptr 2 0 0), (4, iv 2), (14, .agg [.p x, .p y, .p z]), (15, iv 2), (19, csl l), (20, iv l.length), (21, iv 0)], [(2, .box [iv hd, iv hb, .p .nils, .p .nils, .p .nils]), (1, z5)]⟩ else ⟨[(2, .ptr 1 0 0), (3, .ptr 2 0 0), (4, iv 2), (14, .agg [.p x, .p y, .p z]), (15, iv 2), (19, csl l), (20, iv l.length), (21, iv i)], [(4, .arr (cI (l.take i)) (i - 1) 2), (2, .box [iv hd, iv hb, .p .nils, .p .nils, .sl 4 (i - 1) 0 i]), (1, z5)]⟩) l.length (e := .exit 2) (st' := ⟨[(2, .ptr 1 0 0), (3, .ptr 2 0 0), (4, iv 2), (14, .agg [.p x, .p y, .p z]), (15, iv 2), (19, csl l), (20, iv l.length), (21, iv l.length), (22, .p (.bool false))], [(4, .arr (cI l) (l.length - 1) 2), (2, .box [iv hd, iv hb, .p .nils, .p .nils, .sl 4 (l.length - 1) 0 l.length]), (1, z5)]⟩) (st0 := ⟨[(2, .ptr 1 0 0), (3, .ptr 2 0 0), (4, iv 2), (14, .agg [.p x, .p y, .p z]), (15, iv 2), (19, csl l), (20, iv l.length), (21, iv 0)], [(2, .box [iv hd, iv hb, .p .nils, .p .nils, .p .nils]), (1, z5)]⟩) (by simp) rfl (fun i hi => by
  have hx := cI_drop l i hi
  have hlt : i * 2 < l.length * 2 := by omega
  have wi := wrap_succ (i := i) (by omega)
  have hcl := cI_length l
  have htk := cI_take l i hi
  have hct := cI_length (l.take i)
  have hti : (l.take i).length = i := by simp; omega
  rw [hti] at hct
  have hlim : i + 1 ≤ lim := by simp only [lim]; omega
  simp only [csl]
  by_cases c0 : i = 0
  ·subst c0
   have w0 : IntKind.i64.wrap 1 = 1 := by decide
   have e1 : cI (l.take (0 + 1)) = [.int .i64 l[0].1, .int .i64 l[0].2] := by rw [htk]; rfl
   simp only [Nat.zero_mul, List.drop_zero] at hx
   rw [if_pos rfl, if_neg (by omega)]
   rw [e1]
   generalize cI (l.drop (0 + 1)) = R2 at *
   generalize cI l = A at *
   generalize l[0] = s at *
   have hlim1 : 1 ≤ lim := by decide
   refine ⟨?_, ?h1, ?h2⟩
   case h1 =>
    simp -implicitDefEqProofs [loopS_eq, c17L0, stOp, fresh, hi, hx, w0, hlim1]
    exact rfl
   case h2 => exact loopS_same (by simp [hx]) (by simp [hx])
  ·obtain ⟨j, rfl⟩ : ∃ j, i = j + 1 := ⟨i - 1, by omega⟩
   rw [if_neg c0, if_neg (by omega), htk]
   have ej : j + 1 - 1 = j := rfl
   have ej2 : j + 1 + 1 - 1 = j + 1 := rfl
   rw [ej, ej2]
   generalize cI (l.drop (j + 1 + 1)) = R2 at *
   generalize cI (l.take (j + 1)) = C at *
   generalize cI l = A at *
   generalize l[j + 1] = s at *
   generalize hij : j + 1 = i at *
   refine ⟨?_, ?h1, ?h2⟩
   case h1 =>
    simp -implicitDefEqProofs [loopS_eq, c17L0, stOp, fresh, hi, hx, hlt, hcl, hct, wi, hlim]
    exact rfl
   case h2 => exact loopS_same (by simp []) (by simp [hij])) (by
  rw [if_neg (by omega), htl]
  simp -implicitDefEqProofs [loopS_eq, c17L0]) (fuel := loopFuel) (by simp [loopFuel]; omega)
 exact this

theorem in17_2ft {d : Nat} (l : List (Int × Int)) (hl : l.length < 1000000) (h0 : 0 < l.length) (x y z : PVal) (hd hb : Int) (A1 : List PVal) (v1 n1 : Nat) :
  loopN (loopS (evFn F C0 G0 d) C0 G0 0 true [2, 3, 4, 14, 15, 19, 20, 21] c17L0) loopFuel ⟨[(2, .ptr 1 0 0), (3, .ptr 2 0 0), (4, iv 2), (14, .agg [.p x, .p y, .p z]), (15, iv 2), (19, csl l), (20, iv l.length), (21, iv 0)], [(4, .arr A1 v1 2), (2, .box [iv hd, iv hb, .p .nils, .sl 4 v1 0 n1, .p .nils]), (1, z5)]⟩ =
  .ret (.exit 2, ⟨[(2, .ptr 1 0 0), (3, .ptr 2 0 0), (4, iv 2), (14, .agg [.p x, .p y, .p z]), (15, iv 2), (19, csl l), (20, iv l.length), (21, iv l.length), (22, .p (.bool false))], [(6, .arr (cI l) (l.length - 1) 2), (4, .arr A1 v1 2), (2, .box [iv hd, iv hb, .p .nils, .sl 4 v1 0 n1, .sl 6 (l.length - 1) 0 l.length]), (1, z5)]⟩) := by
 have htl : l.take l.length = l := List.take_of_length_le (by omega)
 have := loop_run' (step := loopS (evFn F C0 G0 d) C0 G0 0 true [2, 3, 4, 14, 15, 19, 20, 21] c17L0) (fun i => if i = 0 then ⟨[(2, .ptr 1 0 0), (3, .ptr 2 0 0), (4, iv 2), (14, .agg [.p x, .p y, .p z]), (15, iv 2), (19, csl l), (20, iv l.length), (21, iv 0)], [(4, .arr A1 v1 2), (2, .box [iv hd, iv hb, .p .nils, .sl 4 v1 0 n1, .p .nils]), (1, z5)]⟩ else ⟨[(2, .ptr 1 0 0), (3, .ptr 2 0 0), (4, iv 2), (14, .agg [.p x, .p y, .p z]), (15, iv 2), (19, csl l), (20, iv l.length), (21, iv i)], [(6, .arr (cI (l.take i)) (i - 1) 2), (4, .arr A1 v1 2), (2, .box [iv hd, iv hb, .p .nils, .sl 4 v1 0 n1, .sl 6 (i - 1) 0 i]), (1, z5)]⟩) l.length (e := .exit 2) (st' := ⟨[(2, .ptr 1 0 0), (3, .ptr 2 0 0), (4, iv 2), (14, .agg [.p x, .p y, .p z]), (15, iv 2), (19, csl l), (20, iv l.length), (21, iv l.length), (22, .p (.bool false))], [(6, .arr (cI l) (l.length - 1) 2), (4, .arr A1 v1 2), (2, .box [iv hd, iv hb, .p .nils, .sl 4 v1 0 n1, .sl 6 (l.length - 1) 0 l.length]), (1, z5)]⟩) (st0 := ⟨[(2, .ptr 1 0 0), (3, .ptr 2 0 0), (4, iv 2), (14, .agg [.p x, .p y, .p z]), (15, iv 2), (19, csl l), (20, iv l.length), (21, iv 0)], [(4, .arr A1 v1 2), (2, .box [iv hd, iv hb, .p .nils, .sl 4 v1 0 n1, .p .nils]), (1, z5)]⟩) (by simp) rfl (fun i hi => by
  have hx := cI_drop l i hi
  have hlt : i * 2 < l.length * 2 := by omega
  have wi := wrap_succ (i := i) (by omega)
  have hcl := cI_length l
  have htk := cI_take l i hi
  have hct := cI_length (l.take i)
  have hti : (l.take i).length = i := by simp; omega
  rw [hti] at hct
  have hlim : i + 1 ≤ lim := by simp only [lim]; omega
  simp only [csl]
  by_cases c0 : i = 0
  ·subst c0
   have w0 : IntKind.i64.wrap 1 = 1 := by decide
   have e1 : cI (l.take (0 + 1)) = [.int .i64 l[0].1, .int .i64 l[0].2] := by rw [htk]; rfl
   simp only [Nat.zero_mul, List.drop_zero] at hx
   rw [if_pos rfl, if_neg (by omega)]
   rw [e1]
   generalize cI (l.drop (0 + 1)) = R2 at *
   generalize cI l = A at *
   generalize l[0] = s at *
   have hlim1 : 1 ≤ lim := by decide
   refine ⟨?_, ?h1, ?h2⟩
   case h1 =>
    simp -implicitDefEqProofs [loopS_eq, c17L0, stOp, fresh, hi, hx, w0, hlim1]
    exact rfl
   case h2 => exact loopS_same (by simp [hx]) (by simp [hx])
  ·obtain ⟨j, rfl⟩ : ∃ j, i = j + 1 := ⟨i - 1, by omega⟩
   rw [if_neg c0, if_neg (by omega), htk]
   have ej : j + 1 - 1 = j := rfl
   have ej2 : j + 1 + 1 - 1 = j + 1 := rfl
   rw [ej, ej2]
   generalize cI (l.drop (j + 1 + 1)) = R2 at *
   generalize cI (l.take (j + 1)) = C at *
   generalize cI l = A at *
   generalize l[j + 1] = s at *
   generalize hij : j + 1 = i at *
   refine ⟨?_, ?h1, ?h2⟩
   case h1 =>
    simp -implicitDefEqProofs [loopS_eq, c17L0, stOp, fresh, hi, hx, hlt, hcl, hct, wi, hlim]
    exact rfl
   case h2 => exact loopS_same (by simp []) (by simp [hij])) (by
  rw [if_neg (by omega), htl]
  simp -implicitDefEqProofs [loopS_eq, c17L0]) (fuel := loopFuel) (by simp [loopFuel]; omega)
 exact this

theorem in17_2tf {d : Nat} (l : List (Int × Int)) (hl : l.length < 1000000) (h0 : 0 < l.length) (x y z : PVal) (hd hb : Int) (A0 : List PVal) (v0 n0 : Nat) :
  loopN (loopS (evFn F C0 G0 d) C0 G0 0 true [2, 3, 4, 14, 15, 19, 20, 21] c17L0) loopFuel ⟨[(2, .ptr 1 0 0), (3, .ptr 2 0 0), (4, iv 2), (14, .agg [.p x, .p y, .p z]), (15, iv 2), (19, csl l), (20, iv l.length), (21, iv 0)], [(4, .arr A0 v0 2), (2, .box [iv hd, iv hb, .sl 4 v0 0 n0, .p .nils, .p .nils]), (1, z5)]⟩ =
  .ret (.exit 2, ⟨[(2, .ptr 1 0 0), (3, .ptr 2 0 0), (4, iv 2), (14, .agg [.p x, .p y, .p z]), (15, iv 2), (19, csl l), (20, iv l.length), (21, iv l.length), (22, .p (.bool false))], [(6, .arr (cI l) (l.length - 1) 2), (4, .arr A0 v0 2), (2, .box [iv hd, iv hb, .sl 4 v0 0 n0, .p .nils, .sl 6 (l.length - 1) 0 l.length]), (1, z5)]⟩) := by
 have htl : l.take l.length = l := List.take_of_length_le (by omega)
 have := loop_run' (step := loopS (evFn F C0 G0 d) C0 G0 0 true [2, 3, 4, 14, 15, 19, 20, 21] c17L0) (fun i => if i = 0 then ⟨[(2, .ptr 1 0 0), (3, .ptr 2 0 0), (4, iv 2), (14, .agg [.p x, .p y, .p z]), (15, iv 2), (19, csl l), (20, iv l.length), (21, iv 0)], [(4, .arr A0 v0 2), (2, .box [iv hd, iv hb, .sl 4 v0 0 n0, .p .nils, .p .nils]), (1, z5)]⟩ else ⟨[(2, .ptr 1 0 0), (3, .ptr 2 0 0), (4, iv 2), (14, .agg [.p x, .p y, .p z]), (15, iv 2), (19, csl l), (20, iv l.length), (21, iv i)], [(6, .arr (cI (l.take i)) (i - 1) 2), (4, .arr A0 v0 2), (2, .box [iv hd, iv hb, .sl 4 v0 0 n0, .p .nils, .sl 6 (i - 1) 0 i]), (1, z5)]⟩) l.length (e := .exit 2) (st' := ⟨[(2, .ptr 1 0 0), (3, .ptr 2 0 0), (4, iv 2), (14, .agg [.p x, .p y, .p z]), (15, iv 2), (19, csl l), (20, iv l.length), (21, iv l.length), (22, .p (.bool false))], [(6, .arr (cI l) (l.length - 1) 2), (4, .arr A0 v0 2), (2, .box [iv hd, iv hb, .sl 4 v0 0 n0, .p .nils, .sl 6 (l.length - 1) 0 l.length]), (1, z5)]⟩) (st0 := ⟨[(2, .ptr 1 0 0), (3, .ptr 2 0 0), (4, iv 2), (14, .agg [.p x, .p y, .p z]), (15, iv 2), (19, csl l), (20, iv l.length), (21, iv 0)], [(4, .arr A0 v0 2), (2, .box [iv hd, iv hb, .sl 4 v0 0 n0, .p .nils, .p .nils]), (1, z5)]⟩) (by simp) rfl (fun i hi => by
  have hx := cI_drop l i hi
  have hlt : i * 2 < l.length * 2 := by omega
  have wi := wrap_succ (i := i) (by omega)
  have hcl := cI_length l
  have htk := cI_take l i hi
  have hct := cI_length (l.take i)
  have hti : (l.take i).length = i := by simp; omega
  rw [hti] at hct
  have hlim : i + 1 ≤ lim := by simp only [lim]; omega
  simp only [csl]
  by_cases c0 : i = 0
  ·subst c0
   have w0 : IntKind.i64.wrap 1 = 1 := by decide
   have e1 : cI (l.take (0 + 1)) = [.int .i64 l[0].1, .int .i64 l[0].2] := by rw [htk]; rfl
   simp only [Nat.zero_mul, List.drop_zero] at hx
   rw [if_pos rfl, if_neg (by omega)]
   rw [e1]
   generalize cI (l.drop (0 + 1)) = R2 at *
   generalize cI l = A at *
   generalize l[0] = s at *
   have hlim1 : 1 ≤ lim := by decide
   refine ⟨?_, ?h1, ?h2⟩
   case h1 =>
    simp -implicitDefEqProofs [loopS_eq, c17L0, stOp, fresh, hi, hx, w0, hlim1]
    exact rfl
   case h2 => exact loopS_same (by simp [hx]) (by simp [hx])
  ·obtain ⟨j, rfl⟩ : ∃ j, i = j + 1 := ⟨i - 1, by omega⟩
   rw [if_neg c0, if_neg (by omega), htk]
   have ej : j + 1 - 1 = j := rfl
   have ej2 : j + 1 + 1 - 1 = j + 1 := rfl
   rw [ej, ej2]
   generalize cI (l.drop (j + 1 + 1)) = R2 at *
   generalize cI (l.take (j + 1)) = C at *
   generalize cI l = A at *
   generalize l[j + 1] = s at *
   generalize hij : j + 1 = i at *
   refine ⟨?_, ?h1, ?h2⟩
   case h1 =>
    simp -implicitDefEqProofs [loopS_eq, c17L0, stOp, fresh, hi, hx, hlt, hcl, hct, wi, hlim]
    exact rfl
   case h2 => exact loopS_same (by simp []) (by simp [hij])) (by
  rw [if_neg (by omega), htl]
  simp -implicitDefEqProofs [loopS_eq, c17L0]) (fuel := loopFuel) (by simp [loopFuel]; omega)
 exact this

theorem in17_2tt {d : Nat} (l : List (Int × Int)) (hl : l.length < 1000000) (h0 : 0 < l.length) (x y z : PVal) (hd hb : Int) (A0 : List PVal) (v0 n0 : Nat) (A1 : List PVal) (v1 n1 : Nat) :
  loopN (loopS (evFn F C0 G0 d) C0 G0 0 true [2, 3, 4, 14, 15, 19, 20, 21] c17L0) loopFuel ⟨[(2, .ptr 1 0 0), (3, .ptr 2 0 0), (4, iv 2), (14, .agg [.p x, .p y, .p z]), (15, iv 2), (19, csl l), (20, iv l.length), (21, iv 0)], [(6, .arr A1 v1 2), (4, .arr A0 v0 2), (2, .box [iv hd, iv hb, .sl 4 v0 0 n0, .sl 6 v1 0 n1, .p .nils]), (1, z5)]⟩ =
  .ret (.exit 2, ⟨[(2, .ptr 1 0 0), (3, .ptr 2 0 0), (4, iv 2), (14, .agg [.p x, .p y, .p z]), (15, iv 2), (19, csl l), (20, iv l.length), (21, iv l.length), (22, .p (.bool false))], [(8, .arr (cI l) (l.length - 1) 2), (6, .arr A1 v1 2), (4, .arr A0 v0 2), (2, .box [iv hd, iv hb, .sl 4 v0 0 n0, .sl 6 v1 0 n1, .sl 8 (l.length - 1) 0 l.length]), (1, z5)]⟩) := by
 have htl : l.take l.length = l := List.take_of_length_le (by omega)
 have := loop_run' (step := loopS (evFn F C0 G0 d) C0 G0 0 true [2, 3, 4, 14, 15, 19, 20, 21] c17L0) (fun i => if i = 0 then ⟨[(2, .ptr 1 0 0), (3, .ptr 2 0 0), (4, iv 2), (14, .agg [.p x, .p y, .p z]), (15, iv 2), (19, csl l), (20, iv l.length), (21, iv 0)], [(6, .arr A1 v1 2), (4, .arr A0 v0 2), (2, .box [iv hd, iv hb, .sl 4 v0 0 n0, .sl 6 v1 0 n1, .p .nils]), (1, z5)]⟩ else ⟨[(2, .ptr 1 0 0), (3, .ptr 2 0 0), (4, iv 2), (14, .agg [.p x, .p y, .p z]), (15, iv 2), (19, csl l), (20, iv l.length), (21, iv i)], [(8, .arr (cI (l.take i)) (i - 1) 2), (6, .arr A1 v1 2), (4, .arr A0 v0 2), (2, .box [iv hd, iv hb, .sl 4 v0 0 n0, .sl 6 v1 0 n1, .sl 8 (i - 1) 0 i]), (1, z5)]⟩) l.length (e := .exit 2) (st' := ⟨[(2, .ptr 1 0 0), (3, .ptr 2 0 0), (4, iv 2), (14, .agg [.p x, .p y, .p z]), (15, iv 2), (19, csl l), (20, iv l.length), (21, iv l.length), (22, .p (.bool false))], [(8, .arr (cI l) (l.length - 1) 2), (6, .arr A1 v1 2), (4, .arr A0 v0 2), (2, .box [iv hd, iv hb, .sl 4 v0 0 n0, .sl 6 v1 0 n1, .sl 8 (l.length - 1) 0 l.length]), (1, z5)]⟩) (st0 := ⟨[(2, .ptr 1 0 0), (3, .ptr 2 0 0), (4, iv 2), (14, .agg [.p x, .p y, .p z]), (15, iv 2), (19, csl l), (20, iv l.length), (21, iv 0)], [(6, .arr A1 v1 2), (4, .arr A0 v0 2), (2, .box [iv hd, iv hb, .sl 4 v0 0 n0, .sl 6 v1 0 n1, .p .nils]), (1, z5)]⟩) (by simp) rfl (fun i hi => by
  have hx := cI_drop l i hi
  have hlt : i * 2 < l.length * 2 := by omega
  have wi := wrap_succ (i := i) (by omega)
  have hcl := cI_length l
  have htk := cI_take l i hi
  have hct := cI_length (l.take i)
  have hti : (l.take i).length = i := by simp; omega
  rw [hti] at hct
  have hlim : i + 1 ≤ lim := by simp only [lim]; omega
  simp only [csl]
  by_cases c0 : i = 0
  ·subst c0
   have w0 : IntKind.i64.wrap 1 = 1 := by decide
   have e1 : cI (l.take (0 + 1)) = [.int .i64 l[0].1, .int .i64 l[0].2] := by rw [htk]; rfl
   simp only [Nat.zero_mul, List.drop_zero] at hx
   rw [if_pos rfl, if_neg (by omega)]
   rw [e1]
   generalize cI (l.drop (0 + 1)) = R2 at *
   generalize cI l = A at *
   generalize l[0] = s at *
   have hlim1 : 1 ≤ lim := by decide
   refine ⟨?_, ?h1, ?h2⟩
   case h1 =>
    simp -implicitDefEqProofs [loopS_eq, c17L0, stOp, fresh, hi, hx, w0, hlim1]
    exact rfl
   case h2 => exact loopS_same (by simp [hx]) (by simp [hx])
  ·obtain ⟨j, rfl⟩ : ∃ j, i = j + 1 := ⟨i - 1, by omega⟩
   rw [if_neg c0, if_neg (by omega), htk]
   have ej : j + 1 - 1 = j := rfl
   have ej2 : j + 1 + 1 - 1 = j + 1 := rfl
   rw [ej, ej2]
   generalize cI (l.drop (j + 1 + 1)) = R2 at *
   generalize cI (l.take (j + 1)) = C at *
   generalize cI l = A at *
   generalize l[j + 1] = s at *
   generalize hij : j + 1 = i at *
   refine ⟨?_, ?h1, ?h2⟩
   case h1 =>
    simp -implicitDefEqProofs [loopS_eq, c17L0, stOp, fresh, hi, hx, hlt, hcl, hct, wi, hlim]
    exact rfl
   case h2 => exact loopS_same (by simp []) (by simp [hij])) (by
  rw [if_neg (by omega), htl]
  simp -implicitDefEqProofs [loopS_eq, c17L0]) (fuel := loopFuel) (by simp [loopFuel]; omega)
 exact this

end Fw
end

section
set_option maxHeartbeats 16000000
namespace Fw
open Go
theorem own_w1 : IntKind.i64.wrap 1 = 1 := by decide
theorem own_w2 : IntKind.i64.wrap 2 = 2 := by decide
theorem own_w3 : IntKind.i64.wrap 3 = 3 := by decide
theorem lenA (l : List (Int × Int)) (_h : 0 < l.length) : l.length * 2 = (cI l).length := (cI_length l).symm

theorem own17_fff {n : Nat} (hn : 1 ≤ n) (h : HallI) (_g0 : h.t0.length < 1000000) (_g1 : h.t1.length < 1000000) (_g2 : h.t2.length < 1000000) (h0 : h.t0 = []) (h1 : h.t1 = []) (h2 : h.t2 = []) : RUN n 17 [ha h] = .ret (ha h) := by
 obtain ⟨d, rfl⟩ : ∃ d, n = d + 1 := ⟨n - 1, by omega⟩
 rw [RUN, call_eq fe17 _ rfl]
 simp only [ha, csl, h0, h1, h2, show cI ([] : List (Int × Int)) = [] from rfl, List.length_nil]
 generalize h.doors = hd at *
 generalize h.base = hb at *
 have s0 : loopS (evFn F C0 G0 d) C0 G0 0 true [2, 3, 14, 15] c17L1 ⟨[(2, .ptr 1 0 0), (3, .ptr 2 0 0), (14, .agg [.p (.sl [] 0), .p (.sl [] 0), .p (.sl [] 0)]), (15, iv 0)], [(2, .box [iv hd, iv hb, .p .nils, .p .nils, .p .nils]), (1, z5), (0, .box [iv hd, iv hb, .p (.sl [] 0), .p (.sl [] 0), .p (.sl [] 0)])]⟩ = .ret (.normal, ⟨[(2, .ptr 1 0 0), (3, .ptr 2 0 0), (14, .agg [.p (.sl [] 0), .p (.sl [] 0), .p (.sl [] 0)]), (15, iv 1)], [(2, .box [iv hd, iv hb, .p .nils, .p .nils, .p .nils]), (1, z5)]⟩) := by
  simp -implicitDefEqProofs [loopS_eq, c17L1]
  have e : loopS (evFn F C0 G0 d) C0 G0 0 true [2, 3, 4, 14, 15, 19, 20, 21] c17L0 ⟨[(2, .ptr 1 0 0), (3, .ptr 2 0 0), (4, iv 0), (14, .agg [.p (.sl [] 0), .p (.sl [] 0), .p (.sl [] 0)]), (15, iv 0), (19, .p (.sl [] 0)), (20, iv 0), (21, iv 0)], [(2, .box [iv hd, iv hb, .p .nils, .p .nils, .p .nils]), (1, z5)]⟩ = .ret (.exit 2, ⟨[(2, .ptr 1 0 0), (3, .ptr 2 0 0), (4, iv 0), (14, .agg [.p (.sl [] 0), .p (.sl [] 0), .p (.sl [] 0)]), (15, iv 0), (19, .p (.sl [] 0)), (20, iv 0), (21, iv 0), (22, .p (.bool false))], [(2, .box [iv hd, iv hb, .p .nils, .p .nils, .p .nils]), (1, z5)]⟩) := by
   simp -implicitDefEqProofs [loopS_eq, c17L0]
  rw [loopN_end e (by simp) (by simp [loopFuel])]
  simp -implicitDefEqProofs [own_w1]
 have s1 : loopS (evFn F C0 G0 d) C0 G0 0 true [2, 3, 14, 15] c17L1 ⟨[(2, .ptr 1 0 0), (3, .ptr 2 0 0), (14, .agg [.p (.sl [] 0), .p (.sl [] 0), .p (.sl [] 0)]), (15, iv 1)], [(2, .box [iv hd, iv hb, .p .nils, .p .nils, .p .nils]), (1, z5)]⟩ = .ret (.normal, ⟨[(2, .ptr 1 0 0), (3, .ptr 2 0 0), (14, .agg [.p (.sl [] 0), .p (.sl [] 0), .p (.sl [] 0)]), (15, iv 2)], [(2, .box [iv hd, iv hb, .p .nils, .p .nils, .p .nils]), (1, z5)]⟩) := by
  simp -implicitDefEqProofs [loopS_eq, c17L1]
  have e : loopS (evFn F C0 G0 d) C0 G0 0 true [2, 3, 4, 14, 15, 19, 20, 21] c17L0 ⟨[(2, .ptr 1 0 0), (3, .ptr 2 0 0), (4, iv 1), (14, .agg [.p (.sl [] 0), .p (.sl [] 0), .p (.sl [] 0)]), (15, iv 1), (19, .p (.sl [] 0)), (20, iv 0), (21, iv 0)], [(2, .box [iv hd, iv hb, .p .nils, .p .nils, .p .nils]), (1, z5)]⟩ = .ret (.exit 2, ⟨[(2, .ptr 1 0 0), (3, .ptr 2 0 0), (4, iv 1), (14, .agg [.p (.sl [] 0), .p (.sl [] 0), .p (.sl [] 0)]), (15, iv 1), (19, .p (.sl [] 0)), (20, iv 0), (21, iv 0), (22, .p (.bool false))], [(2, .box [iv hd, iv hb, .p .nils, .p .nils, .p .nils]), (1, z5)]⟩) := by
   simp -implicitDefEqProofs [loopS_eq, c17L0]
  rw [loopN_end e (by simp) (by simp [loopFuel])]
  simp -implicitDefEqProofs [own_w2]
 have s2 : loopS (evFn F C0 G0 d) C0 G0 0 true [2, 3, 14, 15] c17L1 ⟨[(2, .ptr 1 0 0), (3, .ptr 2 0 0), (14, .agg [.p (.sl [] 0), .p (.sl [] 0), .p (.sl [] 0)]), (15, iv 2)], [(2, .box [iv hd, iv hb, .p .nils, .p .nils, .p .nils]), (1, z5)]⟩ = .ret (.normal, ⟨[(2, .ptr 1 0 0), (3, .ptr 2 0 0), (14, .agg [.p (.sl [] 0), .p (.sl [] 0), .p (.sl [] 0)]), (15, iv 3)], [(2, .box [iv hd, iv hb, .p .nils, .p .nils, .p .nils]), (1, z5)]⟩) := by
  simp -implicitDefEqProofs [loopS_eq, c17L1]
  have e : loopS (evFn F C0 G0 d) C0 G0 0 true [2, 3, 4, 14, 15, 19, 20, 21] c17L0 ⟨[(2, .ptr 1 0 0), (3, .ptr 2 0 0), (4, iv 2), (14, .agg [.p (.sl [] 0), .p (.sl [] 0), .p (.sl [] 0)]), (15, iv 2), (19, .p (.sl [] 0)), (20, iv 0), (21, iv 0)], [(2, .box [iv hd, iv hb, .p .nils, .p .nils, .p .nils]), (1, z5)]⟩ = .ret (.exit 2, ⟨[(2, .ptr 1 0 0), (3, .ptr 2 0 0), (4, iv 2), (14, .agg [.p (.sl [] 0), .p (.sl [] 0), .p (.sl [] 0)]), (15, iv 2), (19, .p (.sl [] 0)), (20, iv 0), (21, iv 0), (22, .p (.bool false))], [(2, .box [iv hd, iv hb, .p .nils, .p .nils, .p .nils]), (1, z5)]⟩) := by
   simp -implicitDefEqProofs [loopS_eq, c17L0]
  rw [loopN_end e (by simp) (by simp [loopFuel])]
  simp -implicitDefEqProofs [own_w3]
 have s3 : loopS (evFn F C0 G0 d) C0 G0 0 true [2, 3, 14, 15] c17L1 ⟨[(2, .ptr 1 0 0), (3, .ptr 2 0 0), (14, .agg [.p (.sl [] 0), .p (.sl [] 0), .p (.sl [] 0)]), (15, iv 3)], [(2, .box [iv hd, iv hb, .p .nils, .p .nils, .p .nils]), (1, z5)]⟩ = .ret (.exit 0, ⟨[(2, .ptr 1 0 0), (3, .ptr 2 0 0), (14, .agg [.p (.sl [] 0), .p (.sl [] 0), .p (.sl [] 0)]), (15, iv 3), (16, .p (.bool false))], [(2, .box [iv hd, iv hb, .p .nils, .p .nils, .p .nils]), (1, z5)]⟩) := by
  simp -implicitDefEqProofs [loopS_eq, c17L1]
 simp -implicitDefEqProofs [c17]
 rw [loopN_on s0 (by simp [loopFuel]), loopN_on s1 (by simp [loopFuel]), loopN_on s2 (by simp [loopFuel]), loopN_end s3 (by simp) (by simp [loopFuel])]
 simp -implicitDefEqProofs []

theorem own17_fft {n : Nat} (hn : 1 ≤ n) (h : HallI) (_g0 : h.t0.length < 1000000) (_g1 : h.t1.length < 1000000) (g2 : h.t2.length < 1000000) (h0 : h.t0 = []) (h1 : h.t1 = []) (h2 : 0 < h.t2.length) : RUN n 17 [ha h] = .ret (ha h) := by
 obtain ⟨d, rfl⟩ : ∃ d, n = d + 1 := ⟨n - 1, by omega⟩
 rw [RUN, call_eq fe17 _ rfl]
 have i2 := in17_2ff (d := d) h.t2 g2 h2 (.sl [] 0) (.sl [] 0) (.sl (cI h.t2) h.t2.length) h.doors h.base
 have l2 := lenA h.t2 h2
 have p2 : h.t2.length - 1 + 1 = h.t2.length := by omega
 simp only [ha, csl, h0, h1, show cI ([] : List (Int × Int)) = [] from rfl, List.length_nil]
 simp only [csl] at i2
 generalize cI h.t2 = A2 at *
 generalize h.doors = hd at *
 generalize h.base = hb at *
 have s0 : loopS (evFn F C0 G0 d) C0 G0 0 true [2, 3, 14, 15] c17L1 ⟨[(2, .ptr 1 0 0), (3, .ptr 2 0 0), (14, .agg [.p (.sl [] 0), .p (.sl [] 0), .p (.sl A2 h.t2.length)]), (15, iv 0)], [(2, .box [iv hd, iv hb, .p .nils, .p .nils, .p .nils]), (1, z5), (0, .box [iv hd, iv hb, .p (.sl [] 0), .p (.sl [] 0), .p (.sl A2 h.t2.length)])]⟩ = .ret (.normal, ⟨[(2, .ptr 1 0 0), (3, .ptr 2 0 0), (14, .agg [.p (.sl [] 0), .p (.sl [] 0), .p (.sl A2 h.t2.length)]), (15, iv 1)], [(2, .box [iv hd, iv hb, .p .nils, .p .nils, .p .nils]), (1, z5)]⟩) := by
  simp -implicitDefEqProofs [loopS_eq, c17L1]
  have e : loopS (evFn F C0 G0 d) C0 G0 0 true [2, 3, 4, 14, 15, 19, 20, 21] c17L0 ⟨[(2, .ptr 1 0 0), (3, .ptr 2 0 0), (4, iv 0), (14, .agg [.p (.sl [] 0), .p (.sl [] 0), .p (.sl A2 h.t2.length)]), (15, iv 0), (19, .p (.sl [] 0)), (20, iv 0), (21, iv 0)], [(2, .box [iv hd, iv hb, .p .nils, .p .nils, .p .nils]), (1, z5)]⟩ = .ret (.exit 2, ⟨[(2, .ptr 1 0 0), (3, .ptr 2 0 0), (4, iv 0), (14, .agg [.p (.sl [] 0), .p (.sl [] 0), .p (.sl A2 h.t2.length)]), (15, iv 0), (19, .p (.sl [] 0)), (20, iv 0), (21, iv 0), (22, .p (.bool false))], [(2, .box [iv hd, iv hb, .p .nils, .p .nils, .p .nils]), (1, z5)]⟩) := by
   simp -implicitDefEqProofs [loopS_eq, c17L0]
  rw [loopN_end e (by simp) (by simp [loopFuel])]
  simp -implicitDefEqProofs [own_w1]
 have s1 : loopS (evFn F C0 G0 d) C0 G0 0 true [2, 3, 14, 15] c17L1 ⟨[(2, .ptr 1 0 0), (3, .ptr 2 0 0), (14, .agg [.p (.sl [] 0), .p (.sl [] 0), .p (.sl A2 h.t2.length)]), (15, iv 1)], [(2, .box [iv hd, iv hb, .p .nils, .p .nils, .p .nils]), (1, z5)]⟩ = .ret (.normal, ⟨[(2, .ptr 1 0 0), (3, .ptr 2 0 0), (14, .agg [.p (.sl [] 0), .p (.sl [] 0), .p (.sl A2 h.t2.length)]), (15, iv 2)], [(2, .box [iv hd, iv hb, .p .nils, .p .nils, .p .nils]), (1, z5)]⟩) := by
  simp -implicitDefEqProofs [loopS_eq, c17L1]
  have e : loopS (evFn F C0 G0 d) C0 G0 0 true [2, 3, 4, 14, 15, 19, 20, 21] c17L0 ⟨[(2, .ptr 1 0 0), (3, .ptr 2 0 0), (4, iv 1), (14, .agg [.p (.sl [] 0), .p (.sl [] 0), .p (.sl A2 h.t2.length)]), (15, iv 1), (19, .p (.sl [] 0)), (20, iv 0), (21, iv 0)], [(2, .box [iv hd, iv hb, .p .nils, .p .nils, .p .nils]), (1, z5)]⟩ = .ret (.exit 2, ⟨[(2, .ptr 1 0 0), (3, .ptr 2 0 0), (4, iv 1), (14, .agg [.p (.sl [] 0), .p (.sl [] 0), .p (.sl A2 h.t2.length)]), (15, iv 1), (19, .p (.sl [] 0)), (20, iv 0), (21, iv 0), (22, .p (.bool false))], [(2, .box [iv hd, iv hb, .p .nils, .p .nils, .p .nils]), (1, z5)]⟩) := by
   simp -implicitDefEqProofs [loopS_eq, c17L0]
  rw [loopN_end e (by simp) (by simp [loopFuel])]
  simp -implicitDefEqProofs [own_w2]
 have s2 : loopS (evFn F C0 G0 d) C0 G0 0 true [2, 3, 14, 15] c17L1 ⟨[(2, .ptr 1 0 0), (3, .ptr 2 0 0), (14, .agg [.p (.sl [] 0), .p (.sl [] 0), .p (.sl A2 h.t2.length)]), (15, iv 2)], [(2, .box [iv hd, iv hb, .p .nils, .p .nils, .p .nils]), (1, z5)]⟩ = .ret (.normal, ⟨[(2, .ptr 1 0 0), (3, .ptr 2 0 0), (14, .agg [.p (.sl [] 0), .p (.sl [] 0), .p (.sl A2 h.t2.length)]), (15, iv 3)], [(4, .arr A2 (h.t2.length - 1) 2), (2, .box [iv hd, iv hb, .p .nils, .p .nils, .sl 4 (h.t2.length - 1) 0 h.t2.length]), (1, z5)]⟩) := by
  simp -implicitDefEqProofs [loopS_eq, c17L1]
  rw [i2]
  simp -implicitDefEqProofs [own_w3]
 have s3 : loopS (evFn F C0 G0 d) C0 G0 0 true [2, 3, 14, 15] c17L1 ⟨[(2, .ptr 1 0 0), (3, .ptr 2 0 0), (14, .agg [.p (.sl [] 0), .p (.sl [] 0), .p (.sl A2 h.t2.length)]), (15, iv 3)], [(4, .arr A2 (h.t2.length - 1) 2), (2, .box [iv hd, iv hb, .p .nils, .p .nils, .sl 4 (h.t2.length - 1) 0 h.t2.length]), (1, z5)]⟩ = .ret (.exit 0, ⟨[(2, .ptr 1 0 0), (3, .ptr 2 0 0), (14, .agg [.p (.sl [] 0), .p (.sl [] 0), .p (.sl A2 h.t2.length)]), (15, iv 3), (16, .p (.bool false))], [(4, .arr A2 (h.t2.length - 1) 2), (2, .box [iv hd, iv hb, .p .nils, .p .nils, .sl 4 (h.t2.length - 1) 0 h.t2.length]), (1, z5)]⟩) := by
  simp -implicitDefEqProofs [loopS_eq, c17L1]
 simp -implicitDefEqProofs [c17]
 rw [loopN_on s0 (by simp [loopFuel]), loopN_on s1 (by simp [loopFuel]), loopN_on s2 (by simp [loopFuel]), loopN_end s3 (by simp) (by simp [loopFuel])]
 simp -implicitDefEqProofs [l2]

theorem own17_ftf {n : Nat} (hn : 1 ≤ n) (h : HallI) (_g0 : h.t0.length < 1000000) (g1 : h.t1.length < 1000000) (_g2 : h.t2.length < 1000000) (h0 : h.t0 = []) (h1 : 0 < h.t1.length) (h2 : h.t2 = []) : RUN n 17 [ha h] = .ret (ha h) := by
 obtain ⟨d, rfl⟩ : ∃ d, n = d + 1 := ⟨n - 1, by omega⟩
 rw [RUN, call_eq fe17 _ rfl]
 have i1 := in17_1f (d := d) h.t1 g1 h1 (.sl [] 0) (.sl (cI h.t1) h.t1.length) (.sl [] 0) h.doors h.base
 have l1 := lenA h.t1 h1
 have p1 : h.t1.length - 1 + 1 = h.t1.length := by omega
 simp only [ha, csl, h0, h2, show cI ([] : List (Int × Int)) = [] from rfl, List.length_nil]
 simp only [csl] at i1
 generalize cI h.t1 = A1 at *
 generalize h.doors = hd at *
 generalize h.base = hb at *
 have s0 : loopS (evFn F C0 G0 d) C0 G0 0 true [2, 3, 14, 15] c17L1 ⟨[(2, .ptr 1 0 0), (3, .ptr 2 0 0), (14, .agg [.p (.sl [] 0), .p (.sl A1 h.t1.length), .p (.sl [] 0)]), (15, iv 0)], [(2, .box [iv hd, iv hb, .p .nils, .p .nils, .p .nils]), (1, z5), (0, .box [iv hd, iv hb, .p (.sl [] 0), .p (.sl A1 h.t1.length), .p (.sl [] 0)])]⟩ = .ret (.normal, ⟨[(2, .ptr 1 0 0), (3, .ptr 2 0 0), (14, .agg [.p (.sl [] 0), .p (.sl A1 h.t1.length), .p (.sl [] 0)]), (15, iv 1)], [(2, .box [iv hd, iv hb, .p .nils, .p .nils, .p .nils]), (1, z5)]⟩) := by
  simp -implicitDefEqProofs [loopS_eq, c17L1]
  have e : loopS (evFn F C0 G0 d) C0 G0 0 true [2, 3, 4, 14, 15, 19, 20, 21] c17L0 ⟨[(2, .ptr 1 0 0), (3, .ptr 2 0 0), (4, iv 0), (14, .agg [.p (.sl [] 0), .p (.sl A1 h.t1.length), .p (.sl [] 0)]), (15, iv 0), (19, .p (.sl [] 0)), (20, iv 0), (21, iv 0)], [(2, .box [iv hd, iv hb, .p .nils, .p .nils, .p .nils]), (1, z5)]⟩ = .ret (.exit 2, ⟨[(2, .ptr 1 0 0), (3, .ptr 2 0 0), (4, iv 0), (14, .agg [.p (.sl [] 0), .p (.sl A1 h.t1.length), .p (.sl [] 0)]), (15, iv 0), (19, .p (.sl [] 0)), (20, iv 0), (21, iv 0), (22, .p (.bool false))], [(2, .box [iv hd, iv hb, .p .nils, .p .nils, .p .nils]), (1, z5)]⟩) := by
   simp -implicitDefEqProofs [loopS_eq, c17L0]
  rw [loopN_end e (by simp) (by simp [loopFuel])]
  simp -implicitDefEqProofs [own_w1]
 have s1 : loopS (evFn F C0 G0 d) C0 G0 0 true [2, 3, 14, 15] c17L1 ⟨[(2, .ptr 1 0 0), (3, .ptr 2 0 0), (14, .agg [.p (.sl [] 0), .p (.sl A1 h.t1.length), .p (.sl [] 0)]), (15, iv 1)], [(2, .box [iv hd, iv hb, .p .nils, .p .nils, .p .nils]), (1, z5)]⟩ = .ret (.normal, ⟨[(2, .ptr 1 0 0), (3, .ptr 2 0 0), (14, .agg [.p (.sl [] 0), .p (.sl A1 h.t1.length), .p (.sl [] 0)]), (15, iv 2)], [(4, .arr A1 (h.t1.length - 1) 2), (2, .box [iv hd, iv hb, .p .nils, .sl 4 (h.t1.length - 1) 0 h.t1.length, .p .nils]), (1, z5)]⟩) := by
  simp -implicitDefEqProofs [loopS_eq, c17L1]
  rw [i1]
  simp -implicitDefEqProofs [own_w2]
 have s2 : loopS (evFn F C0 G0 d) C0 G0 0 true [2, 3, 14, 15] c17L1 ⟨[(2, .ptr 1 0 0), (3, .ptr 2 0 0), (14, .agg [.p (.sl [] 0), .p (.sl A1 h.t1.length), .p (.sl [] 0)]), (15, iv 2)], [(4, .arr A1 (h.t1.length - 1) 2), (2, .box [iv hd, iv hb, .p .nils, .sl 4 (h.t1.length - 1) 0 h.t1.length, .p .nils]), (1, z5)]⟩ = .ret (.normal, ⟨[(2, .ptr 1 0 0), (3, .ptr 2 0 0), (14, .agg [.p (.sl [] 0), .p (.sl A1 h.t1.length), .p (.sl [] 0)]), (15, iv 3)], [(4, .arr A1 (h.t1.length - 1) 2), (2, .box [iv hd, iv hb, .p .nils, .sl 4 (h.t1.length - 1) 0 h.t1.length, .p .nils]), (1, z5)]⟩) := by
  simp -implicitDefEqProofs [loopS_eq, c17L1]
  have e : loopS (evFn F C0 G0 d) C0 G0 0 true [2, 3, 4, 14, 15, 19, 20, 21] c17L0 ⟨[(2, .ptr 1 0 0), (3, .ptr 2 0 0), (4, iv 2), (14, .agg [.p (.sl [] 0), .p (.sl A1 h.t1.length), .p (.sl [] 0)]), (15, iv 2), (19, .p (.sl [] 0)), (20, iv 0), (21, iv 0)], [(4, .arr A1 (h.t1.length - 1) 2), (2, .box [iv hd, iv hb, .p .nils, .sl 4 (h.t1.length - 1) 0 h.t1.length, .p .nils]), (1, z5)]⟩ = .ret (.exit 2, ⟨[(2, .ptr 1 0 0), (3, .ptr 2 0 0), (4, iv 2), (14, .agg [.p (.sl [] 0), .p (.sl A1 h.t1.length), .p (.sl [] 0)]), (15, iv 2), (19, .p (.sl [] 0)), (20, iv 0), (21, iv 0), (22, .p (.bool false))], [(4, .arr A1 (h.t1.length - 1) 2), (2, .box [iv hd, iv hb, .p .nils, .sl 4 (h.t1.length - 1) 0 h.t1.length, .p .nils]), (1, z5)]⟩) := by
   simp -implicitDefEqProofs [loopS_eq, c17L0]
  rw [loopN_end e (by simp) (by simp [loopFuel])]
  simp -implicitDefEqProofs [own_w3]
 have s3 : loopS (evFn F C0 G0 d) C0 G0 0 true [2, 3, 14, 15] c17L1 ⟨[(2, .ptr 1 0 0), (3, .ptr 2 0 0), (14, .agg [.p (.sl [] 0), .p (.sl A1 h.t1.length), .p (.sl [] 0)]), (15, iv 3)], [(4, .arr A1 (h.t1.length - 1) 2), (2, .box [iv hd, iv hb, .p .nils, .sl 4 (h.t1.length - 1) 0 h.t1.length, .p .nils]), (1, z5)]⟩ = .ret (.exit 0, ⟨[(2, .ptr 1 0 0), (3, .ptr 2 0 0), (14, .agg [.p (.sl [] 0), .p (.sl A1 h.t1.length), .p (.sl [] 0)]), (15, iv 3), (16, .p (.bool false))], [(4, .arr A1 (h.t1.length - 1) 2), (2, .box [iv hd, iv hb, .p .nils, .sl 4 (h.t1.length - 1) 0 h.t1.length, .p .nils]), (1, z5)]⟩) := by
  simp -implicitDefEqProofs [loopS_eq, c17L1]
 simp -implicitDefEqProofs [c17]
 rw [loopN_on s0 (by simp [loopFuel]), loopN_on s1 (by simp [loopFuel]), loopN_on s2 (by simp [loopFuel]), loopN_end s3 (by simp) (by simp [loopFuel])]
 simp -implicitDefEqProofs [l1]

theorem own17_ftt {n : Nat} (hn : 1 ≤ n) (h : HallI) (_g0 : h.t0.length < 1000000) (g1 : h.t1.length < 1000000) (g2 : h.t2.length < 1000000) (h0 : h.t0 = []) (h1 : 0 < h.t1.length) (h2 : 0 < h.t2.length) : RUN n 17 [ha h] = .ret (ha h) := by
 obtain ⟨d, rfl⟩ : ∃ d, n = d + 1 := ⟨n - 1, by omega⟩
 rw [RUN, call_eq fe17 _ rfl]
 have i1 := in17_1f (d := d) h.t1 g1 h1 (.sl [] 0) (.sl (cI h.t1) h.t1.length) (.sl (cI h.t2) h.t2.length) h.doors h.base
 have l1 := lenA h.t1 h1
 have p1 : h.t1.length - 1 + 1 = h.t1.length := by omega
 have i2 := in17_2ft (d := d) h.t2 g2 h2 (.sl [] 0) (.sl (cI h.t1) h.t1.length) (.sl (cI h.t2) h.t2.length) h.doors h.base (cI h.t1) (h.t1.length - 1) h.t1.length
 have l2 := lenA h.t2 h2
 have p2 : h.t2.length - 1 + 1 = h.t2.length := by omega
 simp only [ha, csl, h0, show cI ([] : List (Int × Int)) = [] from rfl, List.length_nil]
 simp only [csl] at i1 i2
 generalize cI h.t1 = A1 at *
 generalize cI h.t2 = A2 at *
 generalize h.doors = hd at *
 generalize h.base = hb at *
 have s0 : loopS (evFn F C0 G0 d) C0 G0 0 true [2, 3, 14, 15] c17L1 ⟨[(2, .ptr 1 0 0), (3, .ptr 2 0 0), (14, .agg [.p (.sl [] 0), .p (.sl A1 h.t1.length), .p (.sl A2 h.t2.length)]), (15, iv 0)], [(2, .box [iv hd, iv hb, .p .nils, .p .nils, .p .nils]), (1, z5), (0, .box [iv hd, iv hb, .p (.sl [] 0), .p (.sl A1 h.t1.length), .p (.sl A2 h.t2.length)])]⟩ = .ret (.normal, ⟨[(2, .ptr 1 0 0), (3, .ptr 2 0 0), (14, .agg [.p (.sl [] 0), .p (.sl A1 h.t1.length), .p (.sl A2 h.t2.length)]), (15, iv 1)], [(2, .box [iv hd, iv hb, .p .nils, .p .nils, .p .nils]), (1, z5)]⟩) := by
  simp -implicitDefEqProofs [loopS_eq, c17L1]
  have e : loopS (evFn F C0 G0 d) C0 G0 0 true [2, 3, 4, 14, 15, 19, 20, 21] c17L0 ⟨[(2, .ptr 1 0 0), (3, .ptr 2 0 0), (4, iv 0), (14, .agg [.p (.sl [] 0), .p (.sl A1 h.t1.length), .p (.sl A2 h.t2.length)]), (15, iv 0), (19, .p (.sl [] 0)), (20, iv 0), (21, iv 0)], [(2, .box [iv hd, iv hb, .p .nils, .p .nils, .p .nils]), (1, z5)]⟩ = .ret (.exit 2, ⟨[(2, .ptr 1 0 0), (3, .ptr 2 0 0), (4, iv 0), (14, .agg [.p (.sl [] 0), .p (.sl A1 h.t1.length), .p (.sl A2 h.t2.length)]), (15, iv 0), (19, .p (.sl [] 0)), (20, iv 0), (21, iv 0), (22, .p (.bool false))], [(2, .box [iv hd, iv hb, .p .nils, .p .nils, .p .nils]), (1, z5)]⟩) := by
   simp -implicitDefEqProofs [loopS_eq, c17L0]
  rw [loopN_end e (by simp) (by simp [loopFuel])]
  simp -implicitDefEqProofs [own_w1]
 have s1 : loopS (evFn F C0 G0 d) C0 G0 0 true [2, 3, 14, 15] c17L1 ⟨[(2, .ptr 1 0 0), (3, .ptr 2 0 0), (14, .agg [.p (.sl [] 0), .p (.sl A1 h.t1.length), .p (.sl A2 h.t2.length)]), (15, iv 1)], [(2, .box [iv hd, iv hb, .p .nils, .p .nils, .p .nils]), (1, z5)]⟩ = .ret (.normal, ⟨[(2, .ptr 1 0 0), (3, .ptr 2 0 0), (14, .agg [.p (.sl [] 0), .p (.sl A1 h.t1.length), .p (.sl A2 h.t2.length)]), (15, iv 2)], [(4, .arr A1 (h.t1.length - 1) 2), (2, .box [iv hd, iv hb, .p .nils, .sl 4 (h.t1.length - 1) 0 h.t1.length, .p .nils]), (1, z5)]⟩) := by
  simp -implicitDefEqProofs [loopS_eq, c17L1]
  rw [i1]
  simp -implicitDefEqProofs [own_w2]
 have s2 : loopS (evFn F C0 G0 d) C0 G0 0 true [2, 3, 14, 15] c17L1 ⟨[(2, .ptr 1 0 0), (3, .ptr 2 0 0), (14, .agg [.p (.sl [] 0), .p (.sl A1 h.t1.length), .p (.sl A2 h.t2.length)]), (15, iv 2)], [(4, .arr A1 (h.t1.length - 1) 2), (2, .box [iv hd, iv hb, .p .nils, .sl 4 (h.t1.length - 1) 0 h.t1.length, .p .nils]), (1, z5)]⟩ = .ret (.normal, ⟨[(2, .ptr 1 0 0), (3, .ptr 2 0 0), (14, .agg [.p (.sl [] 0), .p (.sl A1 h.t1.length), .p (.sl A2 h.t2.length)]), (15, iv 3)], [(6, .arr A2 (h.t2.length - 1) 2), (4, .arr A1 (h.t1.length - 1) 2), (2, .box [iv hd, iv hb, .p .nils, .sl 4 (h.t1.length - 1) 0 h.t1.length, .sl 6 (h.t2.length - 1) 0 h.t2.length]), (1, z5)]⟩) := by
  simp -implicitDefEqProofs [loopS_eq, c17L1]
  rw [i2]
  simp -implicitDefEqProofs [own_w3]
 have s3 : loopS (evFn F C0 G0 d) C0 G0 0 true [2, 3, 14, 15] c17L1 ⟨[(2, .ptr 1 0 0), (3, .ptr 2 0 0), (14, .agg [.p (.sl [] 0), .p (.sl A1 h.t1.length), .p (.sl A2 h.t2.length)]), (15, iv 3)], [(6, .arr A2 (h.t2.length - 1) 2), (4, .arr A1 (h.t1.length - 1) 2), (2, .box [iv hd, iv hb, .p .nils, .sl 4 (h.t1.length - 1) 0 h.t1.length, .sl 6 (h.t2.length - 1) 0 h.t2.length]), (1, z5)]⟩ = .ret (.exit 0, ⟨[(2, .ptr 1 0 0), (3, .ptr 2 0 0), (14, .agg [.p (.sl [] 0), .p (.sl A1 h.t1.length), .p (.sl A2 h.t2.length)]), (15, iv 3), (16, .p (.bool false))], [(6, .arr A2 (h.t2.length - 1) 2), (4, .arr A1 (h.t1.length - 1) 2), (2, .box [iv hd, iv hb, .p .nils, .sl 4 (h.t1.length - 1) 0 h.t1.length, .sl 6 (h.t2.length - 1) 0 h.t2.length]), (1, z5)]⟩) := by
  simp -implicitDefEqProofs [loopS_eq, c17L1]
 simp -implicitDefEqProofs [c17]
 rw [loopN_on s0 (by simp [loopFuel]), loopN_on s1 (by simp [loopFuel]), loopN_on s2 (by simp [loopFuel]), loopN_end s3 (by simp) (by simp [loopFuel])]
 simp -implicitDefEqProofs [l1, l2]

theorem own17_tff {n : Nat} (hn : 1 ≤ n) (h : HallI) (g0 : h.t0.length < 1000000) (_g1 : h.t1.length < 1000000) (_g2 : h.t2.length < 1000000) (h0 : 0 < h.t0.length) (h1 : h.t1 = []) (h2 : h.t2 = []) : RUN n 17 [ha h] = .ret (ha h) := by
 obtain ⟨d, rfl⟩ : ∃ d, n = d + 1 := ⟨n - 1, by omega⟩
 rw [RUN, call_eq fe17 _ rfl]
 have i0 := in17_0 (d := d) h.t0 g0 h0 (.sl (cI h.t0) h.t0.length) (.sl [] 0) (.sl [] 0) h.doors h.base
 have l0 := lenA h.t0 h0
 have p0 : h.t0.length - 1 + 1 = h.t0.length := by omega
 simp only [ha, csl, h1, h2, show cI ([] : List (Int × Int)) = [] from rfl, List.length_nil]
 simp only [csl] at i0
 generalize cI h.t0 = A0 at *
 generalize h.doors = hd at *
 generalize h.base = hb at *
 have s0 : loopS (evFn F C0 G0 d) C0 G0 0 true [2, 3, 14, 15] c17L1 ⟨[(2, .ptr 1 0 0), (3, .ptr 2 0 0), (14, .agg [.p (.sl A0 h.t0.length), .p (.sl [] 0), .p (.sl [] 0)]), (15, iv 0)], [(2, .box [iv hd, iv hb, .p .nils, .p .nils, .p .nils]), (1, z5), (0, .box [iv hd, iv hb, .p (.sl A0 h.t0.length), .p (.sl [] 0), .p (.sl [] 0)])]⟩ = .ret (.normal, ⟨[(2, .ptr 1 0 0), (3, .ptr 2 0 0), (14, .agg [.p (.sl A0 h.t0.length), .p (.sl [] 0), .p (.sl [] 0)]), (15, iv 1)], [(4, .arr A0 (h.t0.length - 1) 2), (2, .box [iv hd, iv hb, .sl 4 (h.t0.length - 1) 0 h.t0.length, .p .nils, .p .nils]), (1, z5)]⟩) := by
  simp -implicitDefEqProofs [loopS_eq, c17L1]
  rw [i0]
  simp -implicitDefEqProofs [own_w1]
 have s1 : loopS (evFn F C0 G0 d) C0 G0 0 true [2, 3, 14, 15] c17L1 ⟨[(2, .ptr 1 0 0), (3, .ptr 2 0 0), (14, .agg [.p (.sl A0 h.t0.length), .p (.sl [] 0), .p (.sl [] 0)]), (15, iv 1)], [(4, .arr A0 (h.t0.length - 1) 2), (2, .box [iv hd, iv hb, .sl 4 (h.t0.length - 1) 0 h.t0.length, .p .nils, .p .nils]), (1, z5)]⟩ = .ret (.normal, ⟨[(2, .ptr 1 0 0), (3, .ptr 2 0 0), (14, .agg [.p (.sl A0 h.t0.length), .p (.sl [] 0), .p (.sl [] 0)]), (15, iv 2)], [(4, .arr A0 (h.t0.length - 1) 2), (2, .box [iv hd, iv hb, .sl 4 (h.t0.length - 1) 0 h.t0.length, .p .nils, .p .nils]), (1, z5)]⟩) := by
  simp -implicitDefEqProofs [loopS_eq, c17L1]
  have e : loopS (evFn F C0 G0 d) C0 G0 0 true [2, 3, 4, 14, 15, 19, 20, 21] c17L0 ⟨[(2, .ptr 1 0 0), (3, .ptr 2 0 0), (4, iv 1), (14, .agg [.p (.sl A0 h.t0.length), .p (.sl [] 0), .p (.sl [] 0)]), (15, iv 1), (19, .p (.sl [] 0)), (20, iv 0), (21, iv 0)], [(4, .arr A0 (h.t0.length - 1) 2), (2, .box [iv hd, iv hb, .sl 4 (h.t0.length - 1) 0 h.t0.length, .p .nils, .p .nils]), (1, z5)]⟩ = .ret (.exit 2, ⟨[(2, .ptr 1 0 0), (3, .ptr 2 0 0), (4, iv 1), (14, .agg [.p (.sl A0 h.t0.length), .p (.sl [] 0), .p (.sl [] 0)]), (15, iv 1), (19, .p (.sl [] 0)), (20, iv 0), (21, iv 0), (22, .p (.bool false))], [(4, .arr A0 (h.t0.length - 1) 2), (2, .box [iv hd, iv hb, .sl 4 (h.t0.length - 1) 0 h.t0.length, .p .nils, .p .nils]), (1, z5)]⟩) := by
   simp -implicitDefEqProofs [loopS_eq, c17L0]
  rw [loopN_end e (by simp) (by simp [loopFuel])]
  simp -implicitDefEqProofs [own_w2]
 have s2 : loopS (evFn F C0 G0 d) C0 G0 0 true [2, 3, 14, 15] c17L1 ⟨[(2, .ptr 1 0 0), (3, .ptr 2 0 0), (14, .agg [.p (.sl A0 h.t0.length), .p (.sl [] 0), .p (.sl [] 0)]), (15, iv 2)], [(4, .arr A0 (h.t0.length - 1) 2), (2, .box [iv hd, iv hb, .sl 4 (h.t0.length - 1) 0 h.t0.length, .p .nils, .p .nils]), (1, z5)]⟩ = .ret (.normal, ⟨[(2, .ptr 1 0 0), (3, .ptr 2 0 0), (14, .agg [.p (.sl A0 h.t0.length), .p (.sl [] 0), .p (.sl [] 0)]), (15, iv 3)], [(4, .arr A0 (h.t0.length - 1) 2), (2, .box [iv hd, iv hb, .sl 4 (h.t0.length - 1) 0 h.t0.length, .p .nils, .p .nils]), (1, z5)]⟩) := by
  simp -implicitDefEqProofs [loopS_eq, c17L1]
  have e : loopS (evFn F C0 G0 d) C0 G0 0 true [2, 3, 4, 14, 15, 19, 20, 21] c17L0 ⟨[(2, .ptr 1 0 0), (3, .ptr 2 0 0), (4, iv 2), (14, .agg [.p (.sl A0 h.t0.length), .p (.sl [] 0), .p (.sl [] 0)]), (15, iv 2), (19, .p (.sl [] 0)), (20, iv 0), (21, iv 0)], [(4, .arr A0 (h.t0.length - 1) 2), (2, .box [iv hd, iv hb, .sl 4 (h.t0.length - 1) 0 h.t0.length, .p .nils, .p .nils]), (1, z5)]⟩ = .ret (.exit 2, ⟨[(2, .ptr 1 0 0), (3, .ptr 2 0 0), (4, iv 2), (14, .agg [.p (.sl A0 h.t0.length), .p (.sl [] 0), .p (.sl [] 0)]), (15, iv 2), (19, .p (.sl [] 0)), (20, iv 0), (21, iv 0), (22, .p (.bool false))], [(4, .arr A0 (h.t0.length - 1) 2), (2, .box [iv hd, iv hb, .sl 4 (h.t0.length - 1) 0 h.t0.length, .p .nils, .p .nils]), (1, z5)]⟩) := by
   simp -implicitDefEqProofs [loopS_eq, c17L0]
  rw [loopN_end e (by simp) (by simp [loopFuel])]
  simp -implicitDefEqProofs [own_w3]
 have s3 : loopS (evFn F C0 G0 d) C0 G0 0 true [2, 3, 14, 15] c17L1 ⟨[(2, .ptr 1 0 0), (3, .ptr 2 0 0), (14, .agg [.p (.sl A0 h.t0.length), .p (.sl [] 0), .p (.sl [] 0)]), (15, iv 3)], [(4, .arr A0 (h.t0.length - 1) 2), (2, .box [iv hd, iv hb, .sl 4 (h.t0.length - 1) 0 h.t0.length, .p .nils, .p .nils]), (1, z5)]⟩ = .ret (.exit 0, ⟨[(2, .ptr 1 0 0), (3, .ptr 2 0 0), (14, .agg [.p (.sl A0 h.t0.length), .p (.sl [] 0), .p (.sl [] 0)]), (15, iv 3), (16, .p (.bool false))], [(4, .arr A0 (h.t0.length - 1) 2), (2, .box [iv hd, iv hb, .sl 4 (h.t0.length - 1) 0 h.t0.length, .p .nils, .p .nils]), (1, z5)]⟩) := by
  simp -implicitDefEqProofs [loopS_eq, c17L1]
 simp -implicitDefEqProofs [c17]
 rw [loopN_on s0 (by simp [loopFuel]), loopN_on s1 (by simp [loopFuel]), loopN_on s2 (by simp [loopFuel]), loopN_end s3 (by simp) (by simp [loopFuel])]
 simp -implicitDefEqProofs [l0]

theorem own17_tft {n : Nat} (hn : 1 ≤ n) (h : HallI) (g0 : h.t0.length < 1000000) (_g1 : h.t1.length < 1000000) (g2 : h.t2.length < 1000000) (h0 : 0 < h.t0.length) (h1 : h.t1 = []) (h2 : 0 < h.t2.length) : RUN n 17 [ha h] = .ret (ha h) := by
 obtain ⟨d, rfl⟩ : ∃ d, n = d + 1 := ⟨n - 1, by omega⟩
 rw [RUN, call_eq fe17 _ rfl]
 have i0 := in17_0 (d := d) h.t0 g0 h0 (.sl (cI h.t0) h.t0.length) (.sl [] 0) (.sl (cI h.t2) h.t2.length) h.doors h.base
 have l0 := lenA h.t0 h0
 have p0 : h.t0.length - 1 + 1 = h.t0.length := by omega
 have i2 := in17_2tf (d := d) h.t2 g2 h2 (.sl (cI h.t0) h.t0.length) (.sl [] 0) (.sl (cI h.t2) h.t2.length) h.doors h.base (cI h.t0) (h.t0.length - 1) h.t0.length
 have l2 := lenA h.t2 h2
 have p2 : h.t2.length - 1 + 1 = h.t2.length := by omega
 simp only [ha, csl, h1, show cI ([] : List (Int × Int)) = [] from rfl, List.length_nil]
 simp only [csl] at i0 i2
 generalize cI h.t0 = A0 at *
 generalize cI h.t2 = A2 at *
 generalize h.doors = hd at *
 generalize h.base = hb at *
 have s0 : loopS (evFn F C0 G0 d) C0 G0 0 true [2, 3, 14, 15] c17L1 ⟨[(2, .ptr 1 0 0), (3, .ptr 2 0 0), (14, .agg [.p (.sl A0 h.t0.length), .p (.sl [] 0), .p (.sl A2 h.t2.length)]), (15, iv 0)], [(2, .box [iv hd, iv hb, .p .nils, .p .nils, .p .nils]), (1, z5), (0, .box [iv hd, iv hb, .p (.sl A0 h.t0.length), .p (.sl [] 0), .p (.sl A2 h.t2.length)])]⟩ = .ret (.normal, ⟨[(2, .ptr 1 0 0), (3, .ptr 2 0 0), (14, .agg [.p (.sl A0 h.t0.length), .p (.sl [] 0), .p (.sl A2 h.t2.length)]), (15, iv 1)], [(4, .arr A0 (h.t0.length - 1) 2), (2, .box [iv hd, iv hb, .sl 4 (h.t0.length - 1) 0 h.t0.length, .p .nils, .p .nils]), (1, z5)]⟩) := by
  simp -implicitDefEqProofs [loopS_eq, c17L1]
  rw [i0]
  simp -implicitDefEqProofs [own_w1]
 have s1 : loopS (evFn F C0 G0 d) C0 G0 0 true [2, 3, 14, 15] c17L1 ⟨[(2, .ptr 1 0 0), (3, .ptr 2 0 0), (14, .agg [.p (.sl A0 h.t0.length), .p (.sl [] 0), .p (.sl A2 h.t2.length)]), (15, iv 1)], [(4, .arr A0 (h.t0.length - 1) 2), (2, .box [iv hd, iv hb, .sl 4 (h.t0.length - 1) 0 h.t0.length, .p .nils, .p .nils]), (1, z5)]⟩ = .ret (.normal, ⟨[(2, .ptr 1 0 0), (3, .ptr 2 0 0), (14, .agg [.p (.sl A0 h.t0.length), .p (.sl [] 0), .p (.sl A2 h.t2.length)]), (15, iv 2)], [(4, .arr A0 (h.t0.length - 1) 2), (2, .box [iv hd, iv hb, .sl 4 (h.t0.length - 1) 0 h.t0.length, .p .nils, .p .nils]), (1, z5)]⟩) := by
  simp -implicitDefEqProofs [loopS_eq, c17L1]
  have e : loopS (evFn F C0 G0 d) C0 G0 0 true [2, 3, 4, 14, 15, 19, 20, 21] c17L0 ⟨[(2, .ptr 1 0 0), (3, .ptr 2 0 0), (4, iv 1), (14, .agg [.p (.sl A0 h.t0.length), .p (.sl [] 0), .p (.sl A2 h.t2.length)]), (15, iv 1), (19, .p (.sl [] 0)), (20, iv 0), (21, iv 0)], [(4, .arr A0 (h.t0.length - 1) 2), (2, .box [iv hd, iv hb, .sl 4 (h.t0.length - 1) 0 h.t0.length, .p .nils, .p .nils]), (1, z5)]⟩ = .ret (.exit 2, ⟨[(2, .ptr 1 0 0), (3, .ptr 2 0 0), (4, iv 1), (14, .agg [.p (.sl A0 h.t0.length), .p (.sl [] 0), .p (.sl A2 h.t2.length)]), (15, iv 1), (19, .p (.sl [] 0)), (20, iv 0), (21, iv 0), (22, .p (.bool false))], [(4, .arr A0 (h.t0.length - 1) 2), (2, .box [iv hd, iv hb, .sl 4 (h.t0.length - 1) 0 h.t0.length, .p .nils, .p .nils]), (1, z5)]⟩) := by
   simp -implicitDefEqProofs [loopS_eq, c17L0]
  rw [loopN_end e (by simp) (by simp [loopFuel])]
  simp -implicitDefEqProofs [own_w2]
 have s2 : loopS (evFn F C0 G0 d) C0 G0 0 true [2, 3, 14, 15] c17L1 ⟨[(2, .ptr 1 0 0), (3, .ptr 2 0 0), (14, .agg [.p (.sl A0 h.t0.length), .p (.sl [] 0), .p (.sl A2 h.t2.length)]), (15, iv 2)], [(4, .arr A0 (h.t0.length - 1) 2), (2, .box [iv hd, iv hb, .sl 4 (h.t0.length - 1) 0 h.t0.length, .p .nils, .p .nils]), (1, z5)]⟩ = .ret (.normal, ⟨[(2, .ptr 1 0 0), (3, .ptr 2 0 0), (14, .agg [.p (.sl A0 h.t0.length), .p (.sl [] 0), .p (.sl A2 h.t2.length)]), (15, iv 3)], [(6, .arr A2 (h.t2.length - 1) 2), (4, .arr A0 (h.t0.length - 1) 2), (2, .box [iv hd, iv hb, .sl 4 (h.t0.length - 1) 0 h.t0.length, .p .nils, .sl 6 (h.t2.length - 1) 0 h.t2.length]), (1, z5)]⟩) := by
  simp -implicitDefEqProofs [loopS_eq, c17L1]
  rw [i2]
  simp -implicitDefEqProofs [own_w3]
 have s3 : loopS (evFn F C0 G0 d) C0 G0 0 true [2, 3, 14, 15] c17L1 ⟨[(2, .ptr 1 0 0), (3, .ptr 2 0 0), (14, .agg [.p (.sl A0 h.t0.length), .p (.sl [] 0), .p (.sl A2 h.t2.length)]), (15, iv 3)], [(6, .arr A2 (h.t2.length - 1) 2), (4, .arr A0 (h.t0.length - 1) 2), (2, .box [iv hd, iv hb, .sl 4 (h.t0.length - 1) 0 h.t0.length, .p .nils, .sl 6 (h.t2.length - 1) 0 h.t2.length]), (1, z5)]⟩ = .ret (.exit 0, ⟨[(2, .ptr 1 0 0), (3, .ptr 2 0 0), (14, .agg [.p (.sl A0 h.t0.length), .p (.sl [] 0), .p (.sl A2 h.t2.length)]), (15, iv 3), (16, .p (.bool false))], [(6, .arr A2 (h.t2.length - 1) 2), (4, .arr A0 (h.t0.length - 1) 2), (2, .box [iv hd, iv hb, .sl 4 (h.t0.length - 1) 0 h.t0.length, .p .nils, .sl 6 (h.t2.length - 1) 0 h.t2.length]), (1, z5)]⟩) := by
  simp -implicitDefEqProofs [loopS_eq, c17L1]
 simp -implicitDefEqProofs [c17]
 rw [loopN_on s0 (by simp [loopFuel]), loopN_on s1 (by simp [loopFuel]), loopN_on s2 (by simp [loopFuel]), loopN_end s3 (by simp) (by simp [loopFuel])]
 simp -implicitDefEqProofs [l0, l2]

theorem own17_ttf {n : Nat} (hn : 1 ≤ n) (h : HallI) (g0 : h.t0.length < 1000000) (g1 : h.t1.length < 1000000) (_g2 : h.t2.length < 1000000) (h0 : 0 < h.t0.length) (h1 : 0 < h.t1.length) (h2 : h.t2 = []) : RUN n 17 [ha h] = .ret (ha h) := by
 obtain ⟨d, rfl⟩ : ∃ d, n = d + 1 := ⟨n - 1, by omega⟩
 rw [RUN, call_eq fe17 _ rfl]
 have i0 := in17_0 (d := d) h.t0 g0 h0 (.sl (cI h.t0) h.t0.length) (.sl (cI h.t1) h.t1.length) (.sl [] 0) h.doors h.base
 have l0 := lenA h.t0 h0
 have p0 : h.t0.length - 1 + 1 = h.t0.length := by omega
 have i1 := in17_1t (d := d) h.t1 g1 h1 (.sl (cI h.t0) h.t0.length) (.sl (cI h.t1) h.t1.length) (.sl [] 0) h.doors h.base (cI h.t0) (h.t0.length - 1) h.t0.length
 have l1 := lenA h.t1 h1
 have p1 : h.t1.length - 1 + 1 = h.t1.length := by omega
 simp only [ha, csl, h2, show cI ([] : List (Int × Int)) = [] from rfl, List.length_nil]
 simp only [csl] at i0 i1
 generalize cI h.t0 = A0 at *
 generalize cI h.t1 = A1 at *
 generalize h.doors = hd at *
 generalize h.base = hb at *
 have s0 : loopS (evFn F C0 G0 d) C0 G0 0 true [2, 3, 14, 15] c17L1 ⟨[(2, .ptr 1 0 0), (3, .ptr 2 0 0), (14, .agg [.p (.sl A0 h.t0.length), .p (.sl A1 h.t1.length), .p (.sl [] 0)]), (15, iv 0)], [(2, .box [iv hd, iv hb, .p .nils, .p .nils, .p .nils]), (1, z5), (0, .box [iv hd, iv hb, .p (.sl A0 h.t0.length), .p (.sl A1 h.t1.length), .p (.sl [] 0)])]⟩ = .ret (.normal, ⟨[(2, .ptr 1 0 0), (3, .ptr 2 0 0), (14, .agg [.p (.sl A0 h.t0.length), .p (.sl A1 h.t1.length), .p (.sl [] 0)]), (15, iv 1)], [(4, .arr A0 (h.t0.length - 1) 2), (2, .box [iv hd, iv hb, .sl 4 (h.t0.length - 1) 0 h.t0.length, .p .nils, .p .nils]), (1, z5)]⟩) := by
  simp -implicitDefEqProofs [loopS_eq, c17L1]
  rw [i0]
  simp -implicitDefEqProofs [own_w1]
 have s1 : loopS (evFn F C0 G0 d) C0 G0 0 true [2, 3, 14, 15] c17L1 ⟨[(2, .ptr 1 0 0), (3, .ptr 2 0 0), (14, .agg [.p (.sl A0 h.t0.length), .p (.sl A1 h.t1.length), .p (.sl [] 0)]), (15, iv 1)], [(4, .arr A0 (h.t0.length - 1) 2), (2, .box [iv hd, iv hb, .sl 4 (h.t0.length - 1) 0 h.t0.length, .p .nils, .p .nils]), (1, z5)]⟩ = .ret (.normal, ⟨[(2, .ptr 1 0 0), (3, .ptr 2 0 0), (14, .agg [.p (.sl A0 h.t0.length), .p (.sl A1 h.t1.length), .p (.sl [] 0)]), (15, iv 2)], [(6, .arr A1 (h.t1.length - 1) 2), (4, .arr A0 (h.t0.length - 1) 2), (2, .box [iv hd, iv hb, .sl 4 (h.t0.length - 1) 0 h.t0.length, .sl 6 (h.t1.length - 1) 0 h.t1.length, .p .nils]), (1, z5)]⟩) := by
  simp -implicitDefEqProofs [loopS_eq, c17L1]
  rw [i1]
  simp -implicitDefEqProofs [own_w2]
 have s2 : loopS (evFn F C0 G0 d) C0 G0 0 true [2, 3, 14, 15] c17L1 ⟨[(2, .ptr 1 0 0), (3, .ptr 2 0 0), (14, .agg [.p (.sl A0 h.t0.length), .p (.sl A1 h.t1.length), .p (.sl [] 0)]), (15, iv 2)], [(6, .arr A1 (h.t1.length - 1) 2), (4, .arr A0 (h.t0.length - 1) 2), (2, .box [iv hd, iv hb, .sl 4 (h.t0.length - 1) 0 h.t0.length, .sl 6 (h.t1.length - 1) 0 h.t1.length, .p .nils]), (1, z5)]⟩ = .ret (.normal, ⟨[(2, .ptr 1 0 0), (3, .ptr 2 0 0), (14, .agg [.p (.sl A0 h.t0.length), .p (.sl A1 h.t1.length), .p (.sl [] 0)]), (15, iv 3)], [(6, .arr A1 (h.t1.length - 1) 2), (4, .arr A0 (h.t0.length - 1) 2), (2, .box [iv hd, iv hb, .sl 4 (h.t0.length - 1) 0 h.t0.length, .sl 6 (h.t1.length - 1) 0 h.t1.length, .p .nils]), (1, z5)]⟩) := by
  simp -implicitDefEqProofs [loopS_eq, c17L1]
  have e : loopS (evFn F C0 G0 d) C0 G0 0 true [2, 3, 4, 14, 15, 19, 20, 21] c17L0 ⟨[(2, .ptr 1 0 0), (3, .ptr 2 0 0), (4, iv 2), (14, .agg [.p (.sl A0 h.t0.length), .p (.sl A1 h.t1.length), .p (.sl [] 0)]), (15, iv 2), (19, .p (.sl [] 0)), (20, iv 0), (21, iv 0)], [(6, .arr A1 (h.t1.length - 1) 2), (4, .arr A0 (h.t0.length - 1) 2), (2, .box [iv hd, iv hb, .sl 4 (h.t0.length - 1) 0 h.t0.length, .sl 6 (h.t1.length - 1) 0 h.t1.length, .p .nils]), (1, z5)]⟩ = .ret (.exit 2, ⟨[(2, .ptr 1 0 0), (3, .ptr 2 0 0), (4, iv 2), (14, .agg [.p (.sl A0 h.t0.length), .p (.sl A1 h.t1.length), .p (.sl [] 0)]), (15, iv 2), (19, .p (.sl [] 0)), (20, iv 0), (21, iv 0), (22, .p (.bool false))], [(6, .arr A1 (h.t1.length - 1) 2), (4, .arr A0 (h.t0.length - 1) 2), (2, .box [iv hd, iv hb, .sl 4 (h.t0.length - 1) 0 h.t0.length, .sl 6 (h.t1.length - 1) 0 h.t1.length, .p .nils]), (1, z5)]⟩) := by
   simp -implicitDefEqProofs [loopS_eq, c17L0]
  rw [loopN_end e (by simp) (by simp [loopFuel])]
  simp -implicitDefEqProofs [own_w3]
 have s3 : loopS (evFn F C0 G0 d) C0 G0 0 true [2, 3, 14, 15] c17L1 ⟨[(2, .ptr 1 0 0), (3, .ptr 2 0 0), (14, .agg [.p (.sl A0 h.t0.length), .p (.sl A1 h.t1.length), .p (.sl [] 0)]), (15, iv 3)], [(6, .arr A1 (h.t1.length - 1) 2), (4, .arr A0 (h.t0.length - 1) 2), (2, .box [iv hd, iv hb, .sl 4 (h.t0.length - 1) 0 h.t0.length, .sl 6 (h.t1.length - 1) 0 h.t1.length, .p .nils]), (1, z5)]⟩ = .ret (.exit 0, ⟨[(2, .ptr 1 0 0), (3, .ptr 2 0 0), (14, .agg [.p (.sl A0 h.t0.length), .p (.sl A1 h.t1.length), .p (.sl [] 0)]), (15, iv 3), (16, .p (.bool false))], [(6, .arr A1 (h.t1.length - 1) 2), (4, .arr A0 (h.t0.length - 1) 2), (2, .box [iv hd, iv hb, .sl 4 (h.t0.length - 1) 0 h.t0.length, .sl 6 (h.t1.length - 1) 0 h.t1.length, .p .nils]), (1, z5)]⟩) := by
  simp -implicitDefEqProofs [loopS_eq, c17L1]
 simp -implicitDefEqProofs [c17]
 rw [loopN_on s0 (by simp [loopFuel]), loopN_on s1 (by simp [loopFuel]), loopN_on s2 (by simp [loopFuel]), loopN_end s3 (by simp) (by simp [loopFuel])]
 simp -implicitDefEqProofs [l0, l1]

theorem own17_ttt {n : Nat} (hn : 1 ≤ n) (h : HallI) (g0 : h.t0.length < 1000000) (g1 : h.t1.length < 1000000) (g2 : h.t2.length < 1000000) (h0 : 0 < h.t0.length) (h1 : 0 < h.t1.length) (h2 : 0 < h.t2.length) : RUN n 17 [ha h] = .ret (ha h) := by
 obtain ⟨d, rfl⟩ : ∃ d, n = d + 1 := ⟨n - 1, by omega⟩
 rw [RUN, call_eq fe17 _ rfl]
 have i0 := in17_0 (d := d) h.t0 g0 h0 (.sl (cI h.t0) h.t0.length) (.sl (cI h.t1) h.t1.length) (.sl (cI h.t2) h.t2.length) h.doors h.base
 have l0 := lenA h.t0 h0
 have p0 : h.t0.length - 1 + 1 = h.t0.length := by omega
 have i1 := in17_1t (d := d) h.t1 g1 h1 (.sl (cI h.t0) h.t0.length) (.sl (cI h.t1) h.t1.length) (.sl (cI h.t2) h.t2.length) h.doors h.base (cI h.t0) (h.t0.length - 1) h.t0.length
 have l1 := lenA h.t1 h1
 have p1 : h.t1.length - 1 + 1 = h.t1.length := by omega
 have i2 := in17_2tt (d := d) h.t2 g2 h2 (.sl (cI h.t0) h.t0.length) (.sl (cI h.t1) h.t1.length) (.sl (cI h.t2) h.t2.length) h.doors h.base (cI h.t0) (h.t0.length - 1) h.t0.length (cI h.t1) (h.t1.length - 1) h.t1.length
 have l2 := lenA h.t2 h2
 have p2 : h.t2.length - 1 + 1 = h.t2.length := by omega
 simp only [ha, csl]
 simp only [csl] at i0 i1 i2
 generalize cI h.t0 = A0 at *
 generalize cI h.t1 = A1 at *
 generalize cI h.t2 = A2 at *
 generalize h.doors = hd at *
 generalize h.base = hb at *
 have s0 : loopS (evFn F C0 G0 d) C0 G0 0 true [2, 3, 14, 15] c17L1 ⟨[(2, .ptr 1 0 0), (3, .ptr 2 0 0), (14, .agg [.p (.sl A0 h.t0.length), .p (.sl A1 h.t1.length), .p (.sl A2 h.t2.length)]), (15, iv 0)], [(2, .box [iv hd, iv hb, .p .nils, .p .nils, .p .nils]), (1, z5), (0, .box [iv hd, iv hb, .p (.sl A0 h.t0.length), .p (.sl A1 h.t1.length), .p (.sl A2 h.t2.length)])]⟩ = .ret (.normal, ⟨[(2, .ptr 1 0 0), (3, .ptr 2 0 0), (14, .agg [.p (.sl A0 h.t0.length), .p (.sl A1 h.t1.length), .p (.sl A2 h.t2.length)]), (15, iv 1)], [(4, .arr A0 (h.t0.length - 1) 2), (2, .box [iv hd, iv hb, .sl 4 (h.t0.length - 1) 0 h.t0.length, .p .nils, .p .nils]), (1, z5)]⟩) := by
  simp -implicitDefEqProofs [loopS_eq, c17L1]
  rw [i0]
  simp -implicitDefEqProofs [own_w1]
 have s1 : loopS (evFn F C0 G0 d) C0 G0 0 true [2, 3, 14, 15] c17L1 ⟨[(2, .ptr 1 0 0), (3, .ptr 2 0 0), (14, .agg [.p (.sl A0 h.t0.length), .p (.sl A1 h.t1.length), .p (.sl A2 h.t2.length)]), (15, iv 1)], [(4, .arr A0 (h.t0.length - 1) 2), (2, .box [iv hd, iv hb, .sl 4 (h.t0.length - 1) 0 h.t0.length, .p .nils, .p .nils]), (1, z5)]⟩ = .ret (.normal, ⟨[(2, .ptr 1 0 0), (3, .ptr 2 0 0), (14, .agg [.p (.sl A0 h.t0.length), .p (.sl A1 h.t1.length), .p (.sl A2 h.t2.length)]), (15, iv 2)], [(6, .arr A1 (h.t1.length - 1) 2), (4, .arr A0 (h.t0.length - 1) 2), (2, .box [iv hd, iv hb, .sl 4 (h.t0.length - 1) 0 h.t0.length, .sl 6 (h.t1.length - 1) 0 h.t1.length, .p .nils]), (1, z5)]⟩) := by
  simp -implicitDefEqProofs [loopS_eq, c17L1]
  rw [i1]
  simp -implicitDefEqProofs [own_w2]
 have s2 : loopS (evFn F C0 G0 d) C0 G0 0 true [2, 3, 14, 15] c17L1 ⟨[(2, .ptr 1 0 0), (3, .ptr 2 0 0), (14, .agg [.p (.sl A0 h.t0.length), .p (.sl A1 h.t1.length), .p (.sl A2 h.t2.length)]), (15, iv 2)], [(6, .arr A1 (h.t1.length - 1) 2), (4, .arr A0 (h.t0.length - 1) 2), (2, .box [iv hd, iv hb, .sl 4 (h.t0.length - 1) 0 h.t0.length, .sl 6 (h.t1.length - 1) 0 h.t1.length, .p .nils]), (1, z5)]⟩ = .ret (.normal, ⟨[(2, .ptr 1 0 0), (3, .ptr 2 0 0), (14, .agg [.p (.sl A0 h.t0.length), .p (.sl A1 h.t1.length), .p (.sl A2 h.t2.length)]), (15, iv 3)], [(8, .arr A2 (h.t2.length - 1) 2), (6, .arr A1 (h.t1.length - 1) 2), (4, .arr A0 (h.t0.length - 1) 2), (2, .box [iv hd, iv hb, .sl 4 (h.t0.length - 1) 0 h.t0.length, .sl 6 (h.t1.length - 1) 0 h.t1.length, .sl 8 (h.t2.length - 1) 0 h.t2.length]), (1, z5)]⟩) := by
  simp -implicitDefEqProofs [loopS_eq, c17L1]
  rw [i2]
  simp -implicitDefEqProofs [own_w3]
 have s3 : loopS (evFn F C0 G0 d) C0 G0 0 true [2, 3, 14, 15] c17L1 ⟨[(2, .ptr 1 0 0), (3, .ptr 2 0 0), (14, .agg [.p (.sl A0 h.t0.length), .p (.sl A1 h.t1.length), .p (.sl A2 h.t2.length)]), (15, iv 3)], [(8, .arr A2 (h.t2.length - 1) 2), (6, .arr A1 (h.t1.length - 1) 2), (4, .arr A0 (h.t0.length - 1) 2), (2, .box [iv hd, iv hb, .sl 4 (h.t0.length - 1) 0 h.t0.length, .sl 6 (h.t1.length - 1) 0 h.t1.length, .sl 8 (h.t2.length - 1) 0 h.t2.length]), (1, z5)]⟩ = .ret (.exit 0, ⟨[(2, .ptr 1 0 0), (3, .ptr 2 0 0), (14, .agg [.p (.sl A0 h.t0.length), .p (.sl A1 h.t1.length), .p (.sl A2 h.t2.length)]), (15, iv 3), (16, .p (.bool false))], [(8, .arr A2 (h.t2.length - 1) 2), (6, .arr A1 (h.t1.length - 1) 2), (4, .arr A0 (h.t0.length - 1) 2), (2, .box [iv hd, iv hb, .sl 4 (h.t0.length - 1) 0 h.t0.length, .sl 6 (h.t1.length - 1) 0 h.t1.length, .sl 8 (h.t2.length - 1) 0 h.t2.length]), (1, z5)]⟩) := by
  simp -implicitDefEqProofs [loopS_eq, c17L1]
 simp -implicitDefEqProofs [c17]
 rw [loopN_on s0 (by simp [loopFuel]), loopN_on s1 (by simp [loopFuel]), loopN_on s2 (by simp [loopFuel]), loopN_end s3 (by simp) (by simp [loopFuel])]
 simp -implicitDefEqProofs [l0, l1, l2]

theorem own17 {n : Nat} (hn : 1 ≤ n) (h : HallI) (g0 : h.t0.length < 1000000) (g1 : h.t1.length < 1000000) (g2 : h.t2.length < 1000000) : RUN n 17 [ha h] = .ret (ha h) := by
 have key : ∀ l : List (Int × Int), l = [] ∨ 0 < l.length := fun l => by cases l <;> simp
 rcases key h.t0 with a | a <;> rcases key h.t1 with b | b <;> rcases key h.t2 with c | c

 ·exact own17_fff hn h g0 g1 g2 a b c
 ·exact own17_fft hn h g0 g1 g2 a b c
 ·exact own17_ftf hn h g0 g1 g2 a b c
 ·exact own17_ftt hn h g0 g1 g2 a b c
 ·exact own17_tff hn h g0 g1 g2 a b c
 ·exact own17_tft hn h g0 g1 g2 a b c
 ·exact own17_ttf hn h g0 g1 g2 a b c
 ·exact own17_ttt hn h g0 g1 g2 a b c
end Fw
end

section
set_option maxHeartbeats 16000000
namespace Fw
open Go
abbrev kOpen : List UInt8 := [111, 112, 101, 110]
abbrev kClose : List UInt8 := [99, 108, 111, 115, 101]
abbrev kInsert : List UInt8 := [105, 110, 115, 101, 114, 116]
abbrev kRemove : List UInt8 := [114, 101, 109, 111, 118, 101]
abbrev kEnter : List UInt8 := [101, 110, 116, 101, 114]
abbrev kLeave : List UInt8 := [108, 101, 97, 118, 101]
abbrev kArm : List UInt8 := [97, 114, 109]
abbrev kDisarm : List UInt8 := [100, 105, 115, 97, 114, 109]
abbrev kShoot : List UInt8 := [115, 104, 111, 111, 116]
abbrev kMeasure : List UInt8 := [109, 101, 97, 115, 117, 114, 101]
def kindL : List (List UInt8) := [kOpen, kClose, kInsert, kRemove, kEnter, kLeave, kArm, kDisarm, kShoot, kMeasure]
abbrev strL (l : List (List UInt8)) : AVal := .p (.sl (pStr l) l.length)

theorem index151s {n : Nat} (hn : 1 ≤ n) (l : List (List UInt8)) (v : List UInt8) (hl : l.length < 100000) : ∃ r : Int, RUN n 151 [strL l, sv v] = .ret (iv r) ∧ decide (0 ≤ r) = decide (v ∈ l) := by
 obtain ⟨d, rfl⟩ : ∃ d, n = d + 1 := ⟨n - 1, by omega⟩
 rw [RUN, call_eq fe151 _ rfl]
 let inv : Nat → St := fun i => ⟨[(0, strL l), (1, sv v), (7, iv l.length), (8, iv i)], []⟩
 have key := loop_first (step := loopS (evFn F C0 G0 d) C0 G0 0 false [0, 1, 7, 8] c151L0) inv (fun i => if v = l.getD i [] then 1 else 0) l.length (.exit 0, ⟨(inv l.length).env ++ [(9, .p (.bool false))], []⟩) (fun i => (.ret, ⟨[(4, iv i)], []⟩))
  (st0 := ⟨[(0, strL l), (1, sv v), (7, iv l.length), (8, iv 0)], []⟩) (fuel := loopFuel) rfl (fun i hi => by
   have hlt : (i : Int) < l.length := by omega
   have hgd : l.getD i [] = l[i] := by simp [List.getD_eq_getElem?_getD, List.getElem?_eq_getElem hi]
   have hgn : ∀ q, (pStr l)[i]'q = .str l[i] := fun q => by simp [pStr]
   have hpl : (pStr l).length = l.length := by simp
   have hw := wrap_succ (i := i) (by omega)
   simp only [hgd]
   generalize hQ : pStr l = Q at *
   by_cases h : v = l[i]
   ·rw [if_pos h]
    refine ⟨fun h0 => absurd h0 (by decide), fun _ => ?_⟩
    generalize l[i] = y at *
    subst h
    simp -implicitDefEqProofs [inv, hQ, loopS_eq, c151L0, hi, hlt, hgn, hpl, strBin]
   ·rw [if_neg h]
    have hne : (v == l[i]) = false := by simpa using h
    generalize l[i] = y at *
    refine ⟨fun _ => ⟨?_, ?h1, ?h2⟩, fun h0 => absurd rfl h0⟩
    case h1 =>
     simp -implicitDefEqProofs [inv, hQ, loopS_eq, c151L0, hi, hlt, hgn, hpl, hw, hne, strBin]
     exact rfl
    case h2 => simp [inv]) (fun _ => by simp) (by simp -implicitDefEqProofs [inv, loopS_eq, c151L0]) (by simp) (by simp [loopFuel]; omega)
 simp -implicitDefEqProofs [c151]
 rcases key with ⟨k1, k2⟩ | ⟨j, hj, k1, k2, k3, k4⟩
 ·rw [k1]
  have : ¬ v ∈ l := fun hm => by
   obtain ⟨i, hi, h⟩ := List.getElem_of_mem hm
   have := firstE_zero.1 k2 _ (List.mem_map.2 ⟨i, List.mem_range.2 hi, rfl⟩)
   rw [if_pos (by simp [List.getD_eq_getElem?_getD, hi, h])] at this
   cases this
  refine ⟨-1, ?_, ?_⟩
  ·simp -implicitDefEqProofs [inv]
  ·simp [this]
 ·rw [k1]
  have : v ∈ l := by
   have hx : v = l.getD j [] := by
    by_cases h : v = l.getD j []
    ·exact h
    ·rw [if_neg h] at k3; exact absurd rfl k3
   rw [hx]
   simp [List.getD_eq_getElem?_getD, hj]
  refine ⟨j, ?_, ?_⟩
  ·simp -implicitDefEqProofs []
  ·simp [this]
theorem contains137 {n : Nat} (hn : 2 ≤ n) (l : List (List UInt8)) (v : List UInt8) (hl : l.length < 100000) : RUN n 137 [strL l, sv v] = .ret (.p (.bool (decide (v ∈ l)))) := by
 obtain ⟨d, rfl⟩ : ∃ d, n = d + 2 := ⟨n - 2, by omega⟩
 rw [RUN, call_eq fe137 _ rfl]
 obtain ⟨r, k, h⟩ := index151s (n := d + 1) (by omega) l v hl
 rw [← h]
 simp -implicitDefEqProofs [c137, k]
structure ActI where
 tick : Int
 kind : List UInt8
 num : Int
 a : Int
 b : Int
 c : Int
abbrev aa (x : ActI) : AVal := .agg [iv x.tick, sv x.kind, iv x.num, iv x.a, iv x.b, iv x.c]
theorem is111 {n : Nat} (hn : 3 ≤ n) (x : ActI) (l : List (List UInt8)) (hl : l.length < 100000) : RUN n 111 [aa x, strL l] = .ret (.p (.bool (decide (x.kind ∈ l)))) := by
 obtain ⟨d, rfl⟩ : ∃ d, n = d + 3 := ⟨n - 3, by omega⟩
 rw [RUN, call_eq fe111 _ rfl]
 have k := contains137 (n := d + 2) (by omega) l x.kind hl
 simp -implicitDefEqProofs [c111, k]
theorem word21 {n : Nat} (hn : 1 ≤ n) (l : List (List UInt8)) (v : List UInt8) (hl : l.length < 100000) : RUN n 21 [strL l, sv v] = .ret (.p (.bool (decide (v ∈ l)))) := by
 obtain ⟨d, rfl⟩ : ∃ d, n = d + 1 := ⟨n - 1, by omega⟩
 rw [RUN, call_eq fe21 _ rfl]
 let inv : Nat → St := fun i => ⟨[(0, strL l), (1, sv v), (5, iv i)], []⟩
 have key := loop_first (step := loopS (evFn F C0 G0 d) C0 G0 0 false [0, 1, 5] c21L0) inv (fun i => if v = l.getD i [] then 1 else 0) l.length (.exit 0, ⟨(inv l.length).env ++ [(9, .p (.bool false))], []⟩) (fun _ => (.ret, ⟨[(4, .p (.bool true))], []⟩))
  (st0 := ⟨[(0, strL l), (1, sv v), (5, iv 0)], []⟩) (fuel := loopFuel) rfl (fun i hi => by
   have hlt : (i : Int) < l.length := by omega
   have hgd : l.getD i [] = l[i] := by simp [List.getD_eq_getElem?_getD, List.getElem?_eq_getElem hi]
   have hgn : ∀ q, (pStr l)[i]'q = .str l[i] := fun q => by simp [pStr]
   have hpl : (pStr l).length = l.length := by simp
   have hw := wrap_succ (i := i) (by omega)
   simp only [hgd]
   generalize hQ : pStr l = Q at *
   by_cases h : v = l[i]
   ·rw [if_pos h]
    refine ⟨fun h0 => absurd h0 (by decide), fun _ => ?_⟩
    generalize l[i] = y at *
    subst h
    simp -implicitDefEqProofs [inv, hQ, loopS_eq, c21L0, hi, hlt, hgn, hpl, strBin]
   ·rw [if_neg h]
    have hne : (l[i] == v) = false := by simpa using fun e => h e.symm
    have h' : ¬ l[i] = v := fun e => h e.symm
    generalize l[i] = y at *
    refine ⟨fun _ => ⟨?_, ?h1, ?h2⟩, fun h0 => absurd rfl h0⟩
    case h1 =>
     simp -implicitDefEqProofs [inv, hQ, loopS_eq, c21L0, hi, hlt, hgn, hpl, hw, hne, strBin]
     exact rfl
    case h2 => simp [inv]) (fun _ => by simp) (by simp -implicitDefEqProofs [inv, loopS_eq, c21L0]) (by simp) (by simp [loopFuel]; omega)
 simp -implicitDefEqProofs [c21]
 rcases key with ⟨k1, k2⟩ | ⟨j, hj, k1, k2, k3, k4⟩
 ·rw [k1]
  have : ¬ v ∈ l := fun hm => by
   obtain ⟨i, hi, h⟩ := List.getElem_of_mem hm
   have := firstE_zero.1 k2 _ (List.mem_map.2 ⟨i, List.mem_range.2 hi, rfl⟩)
   rw [if_pos (by simp [List.getD_eq_getElem?_getD, hi, h])] at this
   cases this
  simp -implicitDefEqProofs [inv, this]
 ·rw [k1]
  have : v ∈ l := by
   have hx : v = l.getD j [] := by
    by_cases h : v = l.getD j []
    ·exact h
    ·rw [if_neg h] at k3; exact absurd rfl k3
   rw [hx]
   simp [List.getD_eq_getElem?_getD, hj]
  simp -implicitDefEqProofs [this]
theorem byWord110 {n : Nat} (hn : 1 ≤ n) : RUN n 110 [] = .ret (.p (.map (pStr kindL) [.int .i64 0, .int .i64 1, .int .i64 2, .int .i64 3, .int .i64 4, .int .i64 5, .int .i64 6, .int .i64 7, .int .i64 8, .int .i64 9])) := by
 obtain ⟨d, rfl⟩ : ∃ d, n = d + 1 := ⟨n - 1, by omega⟩
 kernel_rfl
theorem kinds152 {n : Nat} (hn : 1 ≤ n) : RUN n 152 [] = .ret (strL kindL) := by
 obtain ⟨d, rfl⟩ : ∃ d, n = d + 1 := ⟨n - 1, by omega⟩
 kernel_rfl
def doorB (k : List UInt8) : Bool := k == kOpen || k == kClose || k == kEnter || k == kLeave
def keyB (k : List UInt8) : Bool := k == kInsert || k == kRemove
theorem door153 {n : Nat} (hn : 1 ≤ n) (k : List UInt8) : RUN n 153 [sv k] = .ret (.p (.bool (doorB k))) := by
 obtain ⟨d, rfl⟩ : ∃ d, n = d + 1 := ⟨n - 1, by omega⟩
 rw [RUN, call_eq fe153 _ rfl]
 unfold doorB
 cases h1 : (k == kOpen) <;> cases h2 : (k == kClose) <;> cases h3 : (k == kEnter) <;> simp -implicitDefEqProofs [c153, strBin, h1, h2, h3]
theorem key154 {n : Nat} (hn : 1 ≤ n) (k : List UInt8) : RUN n 154 [sv k] = .ret (.p (.bool (keyB k))) := by
 obtain ⟨d, rfl⟩ : ∃ d, n = d + 1 := ⟨n - 1, by omega⟩
 rw [RUN, call_eq fe154 _ rfl]
 unfold keyB
 cases h1 : (k == kInsert) <;> simp -implicitDefEqProofs [c154, strBin, h1]
end Fw
end

section
set_option maxHeartbeats 16000000
namespace Fw
open Go

def numsE (h : HallI) (k : List UInt8) : Int := if doorB k = true then h.doors else if keyB k = true then 2 else 1
def zerB (a b c : Int) : Bool := a == 0 && (b == 0 && c == 0)
def actE (h : HallI) (x : ActI) : Int :=
 if rangeE 0 100000000 x.tick ≠ 0 then rangeE 0 100000000 x.tick else if ¬ x.kind ∈ kindL then 13 else if x.num < 0 ∨ numsE h x.kind ≤ x.num then 10
 else if x.kind = kMeasure then valE x.a x.b x.c else whenE (!zerB x.a x.b x.c) 1
theorem find_no (k : List UInt8) (vs : List PVal) : ∀ ns : List (List UInt8), vs.length = ns.length → ¬ k ∈ ns → mapFind (.str k) (pStr ns) vs = some none := by
 intro ns
 induction ns generalizing vs with
 | nil => intro h _; rw [List.eq_nil_of_length_eq_zero h]; rfl
 | cons a r ih =>
  intro h hn
  match vs, h with
  | v :: q, h =>
   have hb : (k == a) = false := by simpa using fun e => hn (by simp [e])
   have := ih q (by simpa using h) (fun e => hn (by simp [e]))
   simp only [pStr] at this
   simp [pStr, mapFind, keyEq, eqP, hb, this]
theorem call_door {n : Nat} (hn : 1 ≤ n) (h : HallI) : RUN n 174 [ha h] = .ret (iv h.doors) := by
 obtain ⟨d, rfl⟩ : ∃ d, n = d + 1 := ⟨n - 1, by omega⟩
 rw [RUN, call_eq fe174 _ rfl]
 simp -implicitDefEqProofs [c174]
theorem call_key {n : Nat} (hn : 1 ≤ n) (h : HallI) : RUN n 179 [ha h] = .ret (iv 2) := by
 obtain ⟨d, rfl⟩ : ∃ d, n = d + 1 := ⟨n - 1, by omega⟩
 rw [RUN, call_eq fe179 _ rfl]
 simp -implicitDefEqProofs [c179]
theorem call_none {n : Nat} (hn : 1 ≤ n) (h : HallI) : RUN n 188 [ha h] = .ret (iv 1) := by
 obtain ⟨d, rfl⟩ : ∃ d, n = d + 1 := ⟨n - 1, by omega⟩
 rw [RUN, call_eq fe188 _ rfl]
 simp -implicitDefEqProofs [c188]
theorem check63 {n : Nat} (hn : 6 ≤ n) (h : HallI) (x : ActI) : RUN n 63 [aa x, ha h] = .ret (iv (actE h x)) := by
 obtain ⟨d, rfl⟩ : ∃ d, n = d + 6 := ⟨n - 6, by omega⟩
 rw [RUN, call_eq fe63 _ rfl]
 have kr := within80 (n := d + 5) (by omega) x.tick 0 100000000
 by_cases h0 : rangeE 0 100000000 x.tick = 0
 ·have hE : actE h x = if ¬ x.kind ∈ kindL then 13 else if x.num < 0 ∨ numsE h x.kind ≤ x.num then 10 else if x.kind = kMeasure then valE x.a x.b x.c else whenE (!zerB x.a x.b x.c) 1 := by simp only [actE, h0, ne_eq, not_true_eq_false, if_false]
  rw [hE]
  rw [h0] at kr
  have kb := byWord110 (n := d + 5) (by omega)
  by_cases hk : x.kind ∈ kindL
  ·rw [if_neg (not_not_intro hk)]
   obtain ⟨t, k, m, a, b, c⟩ := x
   have ki := is111 (n := d + 5) (by omega) ⟨t, k, m, a, b, c⟩ [kMeasure] (by simp)
   have kd := call_door (n := d + 5) (by omega) h
   have kk := call_key (n := d + 5) (by omega) h
   have kn := call_none (n := d + 5) (by omega) h
   have kv := measures58 (n := d + 5) (by omega) a b c
   have kw := when81 (n := d + 5) (by omega) (!zerB a b c) 1
   have hz : (!zerB a b c) = (!a == 0 || (!b == 0 || !c == 0)) := by simp only [zerB, Bool.not_and]
   simp only [hz] at kw ⊢
   simp only [kindL, List.mem_cons, List.not_mem_nil, or_false] at hk
   simp only at kr h0 ⊢
   have hG : G0 0 = some g0 := rfl
   simp only [strL, pStr, List.map_cons, List.map_nil, List.length_cons, List.length_nil] at ki
   generalize valE a b c = V at *
   rcases hk with rfl | rfl | rfl | rfl | rfl | rfl | rfl | rfl | rfl | rfl
   ·have hm : mapFind (.str kOpen) (pStr kindL) [.int .i64 0, .int .i64 1, .int .i64 2, .int .i64 3, .int .i64 4, .int .i64 5, .int .i64 6, .int .i64 7, .int .i64 8, .int .i64 9] = some (some (.int .i64 0)) := by kernel_rfl
    rw [show numsE h kOpen = h.doors from rfl]
    by_cases c1 : m < 0
    ·simp -implicitDefEqProofs [c63, kr, kb, hm, c1]
    ·by_cases c2 : h.doors ≤ m
     ·simp -implicitDefEqProofs [c63, kr, kb, hm, c1, hG, g0, kd, c2]
     ·simp -implicitDefEqProofs [c63, kr, kb, hm, c1, hG, g0, kd, c2, ki, kw]
   ·have hm : mapFind (.str kClose) (pStr kindL) [.int .i64 0, .int .i64 1, .int .i64 2, .int .i64 3, .int .i64 4, .int .i64 5, .int .i64 6, .int .i64 7, .int .i64 8, .int .i64 9] = some (some (.int .i64 1)) := by kernel_rfl
    rw [show numsE h kClose = h.doors from rfl]
    by_cases c1 : m < 0
    ·simp -implicitDefEqProofs [c63, kr, kb, hm, c1]
    ·by_cases c2 : h.doors ≤ m
     ·simp -implicitDefEqProofs [c63, kr, kb, hm, c1, hG, g0, kd, c2]
     ·simp -implicitDefEqProofs [c63, kr, kb, hm, c1, hG, g0, kd, c2, ki, kw]
   ·have hm : mapFind (.str kInsert) (pStr kindL) [.int .i64 0, .int .i64 1, .int .i64 2, .int .i64 3, .int .i64 4, .int .i64 5, .int .i64 6, .int .i64 7, .int .i64 8, .int .i64 9] = some (some (.int .i64 2)) := by kernel_rfl
    rw [show numsE h kInsert = 2 from rfl]
    by_cases c1 : m < 0
    ·simp -implicitDefEqProofs [c63, kr, kb, hm, c1]
    ·by_cases c2 : 2 ≤ m
     ·simp -implicitDefEqProofs [c63, kr, kb, hm, c1, hG, g0, kk, c2]
     ·simp -implicitDefEqProofs [c63, kr, kb, hm, c1, hG, g0, kk, c2, ki, kw]
   ·have hm : mapFind (.str kRemove) (pStr kindL) [.int .i64 0, .int .i64 1, .int .i64 2, .int .i64 3, .int .i64 4, .int .i64 5, .int .i64 6, .int .i64 7, .int .i64 8, .int .i64 9] = some (some (.int .i64 3)) := by kernel_rfl
    rw [show numsE h kRemove = 2 from rfl]
    by_cases c1 : m < 0
    ·simp -implicitDefEqProofs [c63, kr, kb, hm, c1]
    ·by_cases c2 : 2 ≤ m
     ·simp -implicitDefEqProofs [c63, kr, kb, hm, c1, hG, g0, kk, c2]
     ·simp -implicitDefEqProofs [c63, kr, kb, hm, c1, hG, g0, kk, c2, ki, kw]
   ·have hm : mapFind (.str kEnter) (pStr kindL) [.int .i64 0, .int .i64 1, .int .i64 2, .int .i64 3, .int .i64 4, .int .i64 5, .int .i64 6, .int .i64 7, .int .i64 8, .int .i64 9] = some (some (.int .i64 4)) := by kernel_rfl
    rw [show numsE h kEnter = h.doors from rfl]
    by_cases c1 : m < 0
    ·simp -implicitDefEqProofs [c63, kr, kb, hm, c1]
    ·by_cases c2 : h.doors ≤ m
     ·simp -implicitDefEqProofs [c63, kr, kb, hm, c1, hG, g0, kd, c2]
     ·simp -implicitDefEqProofs [c63, kr, kb, hm, c1, hG, g0, kd, c2, ki, kw]
   ·have hm : mapFind (.str kLeave) (pStr kindL) [.int .i64 0, .int .i64 1, .int .i64 2, .int .i64 3, .int .i64 4, .int .i64 5, .int .i64 6, .int .i64 7, .int .i64 8, .int .i64 9] = some (some (.int .i64 5)) := by kernel_rfl
    rw [show numsE h kLeave = h.doors from rfl]
    by_cases c1 : m < 0
    ·simp -implicitDefEqProofs [c63, kr, kb, hm, c1]
    ·by_cases c2 : h.doors ≤ m
     ·simp -implicitDefEqProofs [c63, kr, kb, hm, c1, hG, g0, kd, c2]
     ·simp -implicitDefEqProofs [c63, kr, kb, hm, c1, hG, g0, kd, c2, ki, kw]
   ·have hm : mapFind (.str kArm) (pStr kindL) [.int .i64 0, .int .i64 1, .int .i64 2, .int .i64 3, .int .i64 4, .int .i64 5, .int .i64 6, .int .i64 7, .int .i64 8, .int .i64 9] = some (some (.int .i64 6)) := by kernel_rfl
    rw [show numsE h kArm = 1 from rfl]
    by_cases c1 : m < 0
    ·simp -implicitDefEqProofs [c63, kr, kb, hm, c1]
    ·by_cases c2 : 1 ≤ m
     ·simp -implicitDefEqProofs [c63, kr, kb, hm, c1, hG, g0, kn, c2]
     ·simp -implicitDefEqProofs [c63, kr, kb, hm, c1, hG, g0, kn, c2, ki, kw]
   ·have hm : mapFind (.str kDisarm) (pStr kindL) [.int .i64 0, .int .i64 1, .int .i64 2, .int .i64 3, .int .i64 4, .int .i64 5, .int .i64 6, .int .i64 7, .int .i64 8, .int .i64 9] = some (some (.int .i64 7)) := by kernel_rfl
    rw [show numsE h kDisarm = 1 from rfl]
    by_cases c1 : m < 0
    ·simp -implicitDefEqProofs [c63, kr, kb, hm, c1]
    ·by_cases c2 : 1 ≤ m
     ·simp -implicitDefEqProofs [c63, kr, kb, hm, c1, hG, g0, kn, c2]
     ·simp -implicitDefEqProofs [c63, kr, kb, hm, c1, hG, g0, kn, c2, ki, kw]
   ·have hm : mapFind (.str kShoot) (pStr kindL) [.int .i64 0, .int .i64 1, .int .i64 2, .int .i64 3, .int .i64 4, .int .i64 5, .int .i64 6, .int .i64 7, .int .i64 8, .int .i64 9] = some (some (.int .i64 8)) := by kernel_rfl
    rw [show numsE h kShoot = 1 from rfl]
    by_cases c1 : m < 0
    ·simp -implicitDefEqProofs [c63, kr, kb, hm, c1]
    ·by_cases c2 : 1 ≤ m
     ·simp -implicitDefEqProofs [c63, kr, kb, hm, c1, hG, g0, kn, c2]
     ·simp -implicitDefEqProofs [c63, kr, kb, hm, c1, hG, g0, kn, c2, ki, kw]
   ·have hm : mapFind (.str kMeasure) (pStr kindL) [.int .i64 0, .int .i64 1, .int .i64 2, .int .i64 3, .int .i64 4, .int .i64 5, .int .i64 6, .int .i64 7, .int .i64 8, .int .i64 9] = some (some (.int .i64 9)) := by kernel_rfl
    rw [show numsE h kMeasure = 1 from rfl]
    by_cases c1 : m < 0
    ·simp -implicitDefEqProofs [c63, kr, kb, hm, c1]
    ·by_cases c2 : 1 ≤ m
     ·simp -implicitDefEqProofs [c63, kr, kb, hm, c1, hG, g0, kn, c2]
     ·simp -implicitDefEqProofs [c63, kr, kb, hm, c1, hG, g0, kn, c2, ki, kv]
  ·rw [if_pos hk]
   have hm := find_no x.kind [.int .i64 0, .int .i64 1, .int .i64 2, .int .i64 3, .int .i64 4, .int .i64 5, .int .i64 6, .int .i64 7, .int .i64 8, .int .i64 9] kindL rfl hk
   simp -implicitDefEqProofs [c63, kr, kb, hm]
 ·have hE : actE h x = rangeE 0 100000000 x.tick := by simp only [actE, ne_eq, h0, not_false_eq_true, if_true]
  rw [hE]
  generalize rangeE 0 100000000 x.tick = e at *
  simp -implicitDefEqProofs [c63, kr, h0]
end Fw
end

