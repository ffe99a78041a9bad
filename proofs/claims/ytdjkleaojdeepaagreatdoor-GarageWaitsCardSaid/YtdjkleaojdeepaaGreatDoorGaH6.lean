/- Several texts in one: steps of the proof, no condition of their own. -/
import Derived.Test.YtdjkleaojdeepaaGreatDoorGaH4
attribute [local irreducible] Fw.evCode Fw.evOps Fw.evOpsD Fw.evOper Fw.evOperD Fw.evOp Fw.evFn Fw.loopN Fw.T.All Fw.T.bind Fw.callPure Fw.callOp Fw.opsK Fw.opsDK Fw.restK Fw.seqK Fw.blockK Fw.loopS Fw.setK Fw.setQ Fw.giveK Fw.scalK Fw.gcK Fw.finish Fw.finS Fw.rfunK Fw.yldK Fw.yldB Fw.loopK
section
set_option maxHeartbeats 16000000
namespace Fw
open Go

theorem cI_take (l : List (Int × Int)) (i : Nat) (hi : i < l.length) : cI (l.take (i + 1)) = cI (l.take i) ++ [.int .i64 l[i].1, .int .i64 l[i].2] := by
 rw [← List.take_append_getElem hi, cI_append]; rfl

abbrev z5 : Obj := .box [iv 0, iv 0, .p .nils, .p .nils, .p .nils]

theorem in19_0 {d : Nat} (l : List (Int × Int)) (hl : l.length < 1000000) (h0 : 0 < l.length) (x y z : PVal) (hd hb : Int) :
  loopN (loopS (evFn F C0 G0 d) C0 G0 0 true [2, 3, 4, 14, 15, 19, 20, 21] c19L0) loopFuel ⟨[(2, .ptr 1 0 0), (3, .ptr 2 0 0), (4, iv 0), (14, .agg [.p x, .p y, .p z]), (15, iv 0), (19, csl l), (20, iv l.length), (21, iv 0)], [(2, .box [iv hd, iv hb, .p .nils, .p .nils, .p .nils]), (1, z5)]⟩ =
  .ret (.exit 2, ⟨[(2, .ptr 1 0 0), (3, .ptr 2 0 0), (4, iv 0), (14, .agg [.p x, .p y, .p z]), (15, iv 0), (19, csl l), (20, iv l.length), (21, iv l.length), (22, .p (.bool false))], [(4, .arr (cI l) (l.length - 1) 2), (2, .box [iv hd, iv hb, .sl 4 (l.length - 1) 0 l.length, .p .nils, .p .nils]), (1, z5)]⟩) := by
 have htl : l.take l.length = l := List.take_of_length_le (by omega)
 have := loop_run' (step := loopS (evFn F C0 G0 d) C0 G0 0 true [2, 3, 4, 14, 15, 19, 20, 21] c19L0) (fun i => if i = 0 then ⟨[(2, .ptr 1 0 0), (3, .ptr 2 0 0), (4, iv 0), (14, .agg [.p x, .p y, .p z]), (15, iv 0), (19, csl l), (20, iv l.length), (21, iv 0)], [(2, .box [iv hd, iv hb, .p .nils, .p .nils, .p .nils]), (1, z5)]⟩ else ⟨[(2, .ptr 1 0 0), (3, .ptr 2 0 0), (4, iv 0), (14, .agg [.p x, .p y, .p z]), (15, iv 0), (19, csl l), (20, iv l.length), (21, iv i)], [(4, .arr (cI (l.take i)) (i - 1) 2), (2, .box [iv hd, iv hb, .sl 4 (i - 1) 0 i, .p .nils, .p .nils]), (1, z5)]⟩) l.length (e := .exit 2) (st' := ⟨[(2, .ptr 1 0 0), (3, .ptr 2 0 0), (4, iv 0), (14, .agg [.p x, .p y, .p z]), (15, iv 0), (19, csl l), (20, iv l.length), (21, iv l.length), (22, .p (.bool false))], [(4, .arr (cI l) (l.length - 1) 2), (2, .box [iv hd, iv hb, .sl 4 (l.length - 1) 0 l.length, .p .nils, .p .nils]), (1, z5)]⟩) (st0 := ⟨[(2, .ptr 1 0 0), (3, .ptr 2 0 0), (4, iv 0), (14, .agg [.p x, .p y, .p z]), (15, iv 0), (19, csl l), (20, iv l.length), (21, iv 0)], [(2, .box [iv hd, iv hb, .p .nils, .p .nils, .p .nils]), (1, z5)]⟩) (by simp) rfl (fun i hi => by
  have hx := cI_drop l i hi
  have hlt : i * 2 < l.length * 2 := by omega
  have wi := wrap_succ (i := i) (by omega)
  have hcl := cI_length l
  have htk := cI_take l i hi
  have hct := cI_length (l.take i)
  have hti : (l.take i).length = i := by simp; omega
  rw [hti] at hct
  have hlim : i + 1 ≤ lim := by simp only [lim]; omega
  simp only [csl]
  by_cases c0 : i = 0
  ·subst c0
   have w0 : IntKind.i64.wrap 1 = 1 := by decide
   have e1 : cI (l.take (0 + 1)) = [.int .i64 l[0].1, .int .i64 l[0].2] := by rw [htk]; rfl
   simp only [Nat.zero_mul, List.drop_zero] at hx
   rw [if_pos rfl, if_neg (by omega)]
   rw [e1]
   generalize cI (l.drop (0 + 1)) = R2 at *
   generalize cI l = A at *
   generalize l[0] = s at *
   have hlim1 : 1 ≤ lim := by decide
   refine ⟨?_, ?h1, ?h2⟩
   case h1 =>
    simp -implicitDefEqProofs [loopS_eq, c19L0, stOp, fresh, hi, hx, w0, hlim1]
    exact rfl
   case h2 => exact loopS_same (by simp [hx]) (by simp [hx])
  ·obtain ⟨j, rfl⟩ : ∃ j, i = j + 1 := ⟨i - 1, by omega⟩
   rw [if_neg c0, if_neg (by omega), htk]
   have ej : j + 1 - 1 = j := rfl
   have ej2 : j + 1 + 1 - 1 = j + 1 := rfl
   rw [ej, ej2]
   generalize cI (l.drop (j + 1 + 1)) = R2 at *
   generalize cI (l.take (j + 1)) = C at *
   generalize cI l = A at *
   generalize l[j + 1] = s at *
   generalize hij : j + 1 = i at *
   refine ⟨?_, ?h1, ?h2⟩
   case h1 =>
    simp -implicitDefEqProofs [loopS_eq, c19L0, stOp, fresh, hi, hx, hlt, hcl, hct, wi, hlim]
    exact rfl
   case h2 => exact loopS_same (by simp []) (by simp [hij])) (by
  rw [if_neg (by omega), htl]
  simp -implicitDefEqProofs [loopS_eq, c19L0]) (fuel := loopFuel) (by simp [loopFuel]; omega)
 exact this

theorem in19_1f {d : Nat} (l : List (Int × Int)) (hl : l.length < 1000000) (h0 : 0 < l.length) (x y z : PVal) (hd hb : Int) :
  loopN (loopS (evFn F C0 G0 d) C0 G0 0 true [2, 3, 4, 14, 15, 19, 20, 21] c19L0) loopFuel ⟨[(2, .ptr 1 0 0), (3, .ptr 2 0 0), (4, iv 1), (14, .agg [.p x, .p y, .p z]), (15, iv 1), (19, csl l), (20, iv l.length), (21, iv 0)], [(2, .box [iv hd, iv hb, .p .nils, .p .nils, .p .nils]), (1, z5)]⟩ =
  .ret (.exit 2, ⟨[(2, .ptr 1 0 0), (3, .ptr 2 0 0), (4, iv 1), (14, .agg [.p x, .p y, .p z]), (15, iv 1), (19, csl l), (20, iv l.length), (21, iv l.length), (22, .p (.bool false))], [(4, .arr (cI l) (l.length - 1) 2), (2, .box [iv hd, iv hb, .p .nils, .sl 4 (l.length - 1) 0 l.length, .p .nils]), (1, z5)]⟩) := by
 have htl : l.take l.length = l := List.take_of_length_le (by omega)
 have := loop_run' (step := loopS (evFn F C0 G0 d) C0 G0 0 true [2, 3, 4, 14, 15, 19, 20, 21] c19L0) (fun i => if i = 0 then ⟨[(2, .ptr 1 0 0), (3, .ptr 2 0 0), (4, iv 1), (14, .agg [.p x, .p y, .p z]), (15, iv 1), (19, csl l), (20, iv l.length), (21, iv 0)], [(2, .box [iv hd, iv hb, .p .nils, .p .nils, .p .nils]), (1, z5)]⟩ else ⟨[(2, .ptr 1 0 0), (3, .ptr 2 0 0), (4, iv 1), (14, .agg [.p x, .p y, .p z]), (15, iv 1), (19, csl l), (20, iv l.length), (21, iv i)], [(4, .arr (cI (l.take i)) (i - 1) 2), (2, .box [iv hd, iv hb, .p .nils, .sl 4 (i - 1) 0 i, .p .nils]), (1, z5)]⟩) l.length (e := .exit 2) (st' := ⟨[(2, .ptr 1 0 0), (3, .ptr 2 0 0), (4, iv 1), (14, .agg [.p x, .p y, .p z]), (15, iv 1), (19, csl l), (20, iv l.length), (21, iv l.length), (22, .p (.bool false))], [(4, .arr (cI l) (l.length - 1) 2), (2, .box [iv hd, iv hb, .p .nils, .sl 4 (l.length - 1) 0 l.length, .p .nils]), (1, z5)]⟩) (st0 := ⟨[(2, .ptr 1 0 0), (3, .ptr 2 0 0), (4, iv 1), (14, .agg [.p x, .p y, .p z]), (15, iv 1), (19, csl l), (20, iv l.length), (21, iv 0)], [(2, .box [iv hd, iv hb, .p .nils, .p .nils, .p .nils]), (1, z5)]⟩) (by simp) rfl (fun i hi => by
  have hx := cI_drop l i hi
  have hlt : i * 2 < l.length * 2 := by omega
  have wi := wrap_succ (i := i) (by omega)
  have hcl := cI_length l
  have htk := cI_take l i hi
  have hct := cI_length (l.take i)
  have hti : (l.take i).length = i := by simp; omega
  rw [hti] at hct
  have hlim : i + 1 ≤ lim := by simp only [lim]; omega
  simp only [csl]
  by_cases c0 : i = 0
  ·subst c0
   have w0 : IntKind.i64.wrap 1 = 1 := by decide
   have e1 : cI (l.take (0 + 1)) = [.int .i64 l[0].1, .int .i64 l[0].2] := by rw [htk]; rfl
   simp only [Nat.zero_mul, List.drop_zero] at hx
   rw [if_pos rfl, if_neg (by omega)]
   rw [e1]
   generalize cI (l.drop (0 + 1)) = R2 at *
   generalize cI l = A at *
   generalize l[0] = s at *
   have hlim1 : 1 ≤ lim := by decide
   refine ⟨?_, ?h1, ?h2⟩
   case h1 =>
    simp -implicitDefEqProofs [loopS_eq, c19L0, stOp, fresh, hi, hx, w0, hlim1]
    exact rfl
   case h2 => exact loopS_same (by simp [hx]) (by simp [hx])
  ·obtain ⟨j, rfl⟩ : ∃ j, i = j + 1 := ⟨i - 1, by omega⟩
   rw [if_neg c0, if_neg (by omega), htk]
   have ej : j + 1 - 1 = j := rfl
   have ej2 : j + 1 + 1 - 1 = j + 1 := rfl
   rw [ej, ej2]
   generalize cI (l.drop (j + 1 + 1)) = R2 at *
   generalize cI (l.take (j + 1)) = C at *
   generalize cI l = A at *
   generalize l[j + 1] = s at *
   generalize hij : j + 1 = i at *
   refine ⟨?_, ?h1, ?h2⟩
   case h1 =>
    simp -implicitDefEqProofs [loopS_eq, c19L0, stOp, fresh, hi, hx, hlt, hcl, hct, wi, hlim]
    exact rfl
   case h2 => exact loopS_same (by simp []) (by simp [hij])) (by
  rw [if_neg (by omega), htl]
  simp -implicitDefEqProofs [loopS_eq, c19L0]) (fuel := loopFuel) (by simp [loopFuel]; omega)
 exact this

theorem in19_1t {d : Nat} (l : List (Int × Int)) (hl : l.length < 1000000) (h0 : 0 < l.length) (x y z : PVal) (hd hb : Int) (A0 : List PVal) (v0 n0 : Nat) :
  loopN (loopS (evFn F C0 G0 d) C0 G0 0 true [2, 3, 4, 14, 15, 19, 20, 21] c19L0) loopFuel ⟨[(2, .ptr 1 0 0), (3, .ptr 2 0 0), (4, iv 1), (14, .agg [.p x, .p y, .p z]), (15, iv 1), (19, csl l), (20, iv l.length), (21, iv 0)], [(4, .arr A0 v0 2), (2, .box [iv hd, iv hb, .sl 4 v0 0 n0, .p .nils, .p .nils]), (1, z5)]⟩ =
  .ret (.exit 2, ⟨[(2, .ptr 1 0 0), (3, .ptr 2 0 0), (4, iv 1), (14, .agg [.p x, .p y, .p z]), (15, iv 1), (19, csl l), (20, iv l.length), (21, iv l.length), (22, .p (.bool false))], [(6, .arr (cI l) (l.length - 1) 2), (4, .arr A0 v0 2), (2, .box [iv hd, iv hb, .sl 4 v0 0 n0, .sl 6 (l.length - 1) 0 l.length, .p .nils]), (1, z5)]⟩) := by
 have htl : l.take l.length = l := List.take_of_length_le (by omega)
 have := loop_run' (step := loopS (evFn F C0 G0 d) C0 G0 0 true [2, 3, 4, 14, 15, 19, 20, 21] c19L0) (fun i => if i = 0 then ⟨[(2, .ptr 1 0 0), (3, .ptr 2 0 0), (4, iv 1), (14, .agg [.p x, .p y, .p z]), (15, iv 1), (19, csl l), (20, iv l.length), (21, iv 0)], [(4, .arr A0 v0 2), (2, .box [iv hd, iv hb, .sl 4 v0 0 n0, .p .nils, .p .nils]), (1, z5)]⟩ else ⟨[(2, .ptr 1 0 0), (3, .ptr 2 0 0), (4, iv 1), (14, .agg [.p x, .p y, .p z]), (15, iv 1), (19, csl l), (20, iv l.length), (21, iv i)], [(6, .arr (cI (l.take i)) (i - 1) 2), (4, .arr A0 v0 2), (2, .box [iv hd, iv hb, .sl 4 v0 0 n0, .sl 6 (i - 1) 0 i, .p .nils]), (1, z5)]⟩) l.length (e := .exit 2) (st' := ⟨[(2, .ptr 1 0 0), (3, .ptr 2 0 0), (4, iv 1), (14, .agg [.p x, .p y, .p z]), (15, iv 1), (19, csl l), (20, iv l.length), (21, iv l.length), (22, .p (.bool false))], [(6, .arr (cI l) (l.length - 1) 2), (4, .arr A0 v0 2), (2, .box [iv hd, iv hb, .sl 4 v0 0 n0, .sl 6 (l.length - 1) 0 l.length, .p .nils]), (1, z5)]⟩) (st0 := ⟨[(2, .ptr 1 0 0), (3, .ptr 2 0 0), (4, iv 1), (14, .agg [.p x, .p y, .p z]), (15, iv 1), (19, csl l), (20, iv l.length), (21, iv 0)], [(4, .arr A0 v0 2), (2, .box [iv hd, iv hb, .sl 4 v0 0 n0, .p .nils, .p .nils]), (1, z5)]⟩) (by simp) rfl (fun i hi => by
  have hx := cI_drop l i hi
  have hlt : i * 2 < l.length * 2 := by omega
  have wi := wrap_succ (i := i) (by omega)
  have hcl := cI_length l
  have htk := cI_take l i hi
  have hct := cI_length (l.take i)
  have hti : (l.take i).length = i := by simp; omega
  rw [hti] at hct
  have hlim : i + 1 ≤ lim := by simp only [lim]; omega
  simp only [csl]
  by_cases c0 : i = 0
  ·subst c0
   have w0 : IntKind.i64.wrap 1 = 1 := by decide
   have e1 : cI (l.take (0 + 1)) = [.int .i64 l[0].1, .int .i64 l[0].2] := by rw [htk]; rfl
   simp only [Nat.zero_mul, List.drop_zero] at hx
   rw [if_pos rfl, if_neg (by omega)]
   rw [e1]
   generalize cI (l.drop (0 + 1)) = R2 at *
   generalize cI l = A at *
   generalize l[0] = s at *
   have hlim1 : 1 ≤ lim := by decide
   refine ⟨?_, ?h1, ?h2⟩
   case h1 =>
    simp -implicitDefEqProofs [loopS_eq, c19L0, stOp, fresh, hi, hx, w0, hlim1]
    exact rfl
   case h2 => exact loopS_same (by simp [hx]) (by simp [hx])
  ·obtain ⟨j, rfl⟩ : ∃ j, i = j + 1 := ⟨i - 1, by omega⟩
   rw [if_neg c0, if_neg (by omega), htk]
   have ej : j + 1 - 1 = j := rfl
   have ej2 : j + 1 + 1 - 1 = j + 1 := rfl
   rw [ej, ej2]
   generalize cI (l.drop (j + 1 + 1)) = R2 at *
   generalize cI (l.take (j + 1)) = C at *
   generalize cI l = A at *
   generalize l[j + 1] = s at *
   generalize hij : j + 1 = i at *
   refine ⟨?_, ?h1, ?h2⟩
   case h1 =>
    simp -implicitDefEqProofs [loopS_eq, c19L0, stOp, fresh, hi, hx, hlt, hcl, hct, wi, hlim]
    exact rfl
   case h2 => exact loopS_same (by simp []) (by simp [hij])) (by
  rw [if_neg (by omega), htl]
  simp -implicitDefEqProofs [loopS_eq, c19L0]) (fuel := loopFuel) (by simp [loopFuel]; omega)
 exact this

theorem in19_2ff {d : Nat} (l : List (Int × Int)) (hl : l.length < 1000000) (h0 : 0 < l.length) (x y z : PVal) (hd hb : Int) :
  loopN (loopS (evFn F C0 G0 d) C0 G0 0 true [2, 3, 4, 14, 15, 19, 20, 21] c19L0) loopFuel ⟨[(2, .ptr 1 0 0), (3, .ptr 2 0 0), (4, iv 2), (14, .agg [.p x, .p y, .p z]), (15, iv 2), (19, csl l), (20, iv l.length), (21, iv 0)], [(2, .box [iv hd, iv hb, .p .nils, .p .nils, .p .nils]), (1, z5)]⟩ =
  .ret (.exit 2, ⟨[(2, .ptr 1 0 0), (3, .ptr 2 0 0), (4, iv 2), (14, .agg [.p x, .p y, .p z]), (15, iv 2), (19, csl l), (20, iv l.length), (21, iv l.length), (22, .p (.bool false))], [(4, .arr (cI l) (l.length - 1) 2), (2, .box [iv hd, iv hb, .p .nils, .p .nils, .sl 4 (l.length - 1) 0 l.length]), (1, z5)]⟩) := by
 have htl : l.take l.length = l := List.take_of_length_le (by omega)
 have := loop_run' (step := loopS (evFn F C0 G0 d) C0 G0 0 true [2, 3, 4, 14, 15, 19, 20, 21] c19L0) (fun i => if i = 0 then ⟨[(2, .ptr 1 0 0), (3, .ptr 2 0 0), (4, iv 2), (14, .agg [.p x, .p y, .p z]), (15, iv 2), (19, csl l), (20, iv l.length), (21, iv 0)], [(2, .box [iv hd, iv hb, .p .nils, .p .nils, .p .nils]), (1, z5)]⟩ else ⟨[(2, .ptr 1 0 0), (3, .ptr 2 0 0), (4, iv 2), (14, .agg [.p x, .p y, .p z]), (15, iv 2), (19, csl l), (20, iv l.length), (21, iv i)], [(4, .arr (cI (l.take i)) (i - 1) 2), (2, .box [iv hd, iv hb, .p .nils, .p .nils, .sl 4 (i - 1) 0 i]), (1, z5)]⟩) l.length (e := .exit 2) (st' := ⟨[(2, .ptr 1 0 0), (3, .ptr 2 0 0), (4, iv 2), (14, .agg [.p x, .p y, .p z]), (15, iv 2), (19, csl l), (20, iv l.length), (21, iv l.length), (22, .p (.bool false))], [(4, .arr (cI l) (l.length - 1) 2), (2, .box [iv hd, iv hb, .p .nils, .p .nils, .sl 4 (l.length - 1) 0 l.length]), (1, z5)]⟩) (st0 := ⟨[(2, .ptr 1 0 0), (3, .ptr 2 0 0), (4, iv 2), (14, .agg [.p x, .p y, .p z]), (15, iv 2), (19, csl l), (20, iv l.length), (21, iv 0)], [(2, .box [iv hd, iv hb, .p .nils, .p .nils, .p .nils]), (1, z5)]⟩) (by simp) rfl (fun i hi => by
  have hx := cI_drop l i hi
  have hlt : i * 2 < l.length * 2 := by omega
  have wi := wrap_succ (i := i) (by omega)
  have hcl := cI_length l
  have htk := cI_take l i hi
  have hct := cI_length (l.take i)
  have hti : (l.take i).length = i := by simp; omega
  rw [hti] at hct
  have hlim : i + 1 ≤ lim := by simp only [lim]; omega
  simp only [csl]
  by_cases c0 : i = 0
  ·subst c0
   have w0 : IntKind.i64.wrap 1 = 1 := by decide
   have e1 : cI (l.take (0 + 1)) = [.int .i64 l[0].1, .int .i64 l[0].2] := by rw [htk]; rfl
   simp only [Nat.zero_mul, List.drop_zero] at hx
   rw [if_pos rfl, if_neg (by omega)]
   rw [e1]
   generalize cI (l.drop (0 + 1)) = R2 at *
   generalize cI l = A at *
   generalize l[0] = s at *
   have hlim1 : 1 ≤ lim := by decide
   refine ⟨?_, ?h1, ?h2⟩
   case h1 =>
    simp -implicitDefEqProofs [loopS_eq, c19L0, stOp, fresh, hi, hx, w0, hlim1]
    exact rfl
   case h2 => exact loopS_same (by simp [hx]) (by simp [hx])
  ·obtain ⟨j, rfl⟩ : ∃ j, i = j + 1 := ⟨i - 1, by omega⟩
   rw [if_neg c0, if_neg (by omega), htk]
   have ej : j + 1 - 1 = j := rfl
   have ej2 : j + 1 + 1 - 1 = j + 1 := rfl
   rw [ej, ej2]
   generalize cI (l.drop (j + 1 + 1)) = R2 at *
   generalize cI (l.take (j + 1)) = C at *
   generalize cI l = A at *
   generalize l[j + 1] = s at *
   generalize hij : j + 1 = i at *
   refine ⟨?_, ?h1, ?h2⟩
   case h1 =>
    simp -implicitDefEqProofs [loopS_eq, c19L0, stOp, fresh, hi, hx, hlt, hcl, hct, wi, hlim]
    exact rfl
   case h2 => exact loopS_same (by simp []) (by simp [hij])) (by
  rw [if_neg (by omega), htl]
  simp -implicitDefEqProofs [loopS_eq, c19L0]) (fuel := loopFuel) (by simp [loopFuel]; omega)
 exact this

theorem in19_2ft {d : Nat} (l : List (Int × Int)) (hl : l.length < 1000000) (h0 : 0 < l.length) (x y z : PVal) (hd hb : Int) (A1 : List PVal) (v1 n1 : Nat) :
  loopN (loopS (evFn F C0 G0 d) C0 G0 0 true [2, 3, 4, 14, 15, 19, 20, 21] c19L0) loopFuel ⟨[(2, .ptr 1 0 0), (3, .ptr 2 0 0), (4, iv 2), (14, .agg [.p x, .p y, .p z]), (15, iv 2), (19, csl l), (20, iv l.length), (21, iv 0)], [(4, .arr A1 v1 2), (2, .box [iv hd, iv hb, .p .nils, .sl 4 v1 0 n1, .p .nils]), (1, z5)]⟩ =
  .ret (.exit 2, ⟨[(2, .ptr 1 0 0), (3, .ptr 2 0 0), (4, iv 2), (14, .agg [.p x, .p y, .p z]), (15, iv 2), (19, csl l), (20, iv l.length), (21, iv l.length), (22, .p (.bool false))], [(6, .arr (cI l) (l.length - 1) 2), (4, .arr A1 v1 2), (2, .box [iv hd, iv hb, .p .nils, .sl 4 v1 0 n1, .sl 6 (l.length - 1) 0 l.length]), (1, z5)]⟩) := by
 have htl : l.take l.length = l := List.take_of_length_le (by omega)
 have := loop_run' (step := loopS (evFn F C0 G0 d) C0 G0 0 true [2, 3, 4, 14, 15, 19, 20, 21] c19L0) (fun i => if i = 0 then ⟨[(2, .ptr 1 0 0), (3, .ptr 2 0 0), (4, iv 2), (14, .agg [.p x, .p y, .p z]), (15, iv 2), (19, csl l), (20, iv l.length), (21, iv 0)], [(4, .arr A1 v1 2), (2, .box [iv hd, iv hb, .p .nils, .sl 4 v1 0 n1, .p .nils]), (1, z5)]⟩ else ⟨[(2, .ptr 1 0 0), (3, .ptr 2 0 0), (4, iv 2), (14, .agg [.p x, .p y, .p z]), (15, iv 2), (19, csl l), (20, iv l.length), (21, iv i)], [(6, .arr (cI (l.take i)) (i - 1) 2), (4, .arr A1 v1 2), (2, .box [iv hd, iv hb, .p .nils, .sl 4 v1 0 n1, .sl 6 (i - 1) 0 i]), (1, z5)]⟩) l.length (e := .exit 2) (st' := ⟨[(2, .ptr 1 0 0), (3, .ptr 2 0 0), (4, iv 2), (14, .agg [.p x, .p y, .p z]), (15, iv 2), (19, csl l), (20, iv l.length), (21, iv l.length), (22, .p (.bool false))], [(6, .arr (cI l) (l.length - 1) 2), (4, .arr A1 v1 2), (2, .box [iv hd, iv hb, .p .nils, .sl 4 v1 0 n1, .sl 6 (l.length - 1) 0 l.length]), (1, z5)]⟩) (st0 := ⟨[(2, .ptr 1 0 0), (3, .ptr 2 0 0), (4, iv 2), (14, .agg [.p x, .p y, .p z]), (15, iv 2), (19, csl l), (20, iv l.length), (21, iv 0)], [(4, .arr A1 v1 2), (2, .box [iv hd, iv hb, .p .nils, .sl 4 v1 0 n1, .p .nils]), (1, z5)]⟩) (by simp) rfl (fun i hi => by
  have hx := cI_drop l i hi
  have hlt : i * 2 < l.length * 2 := by omega
  have wi := wrap_succ (i := i) (by omega)
  have hcl := cI_length l
  have htk := cI_take l i hi
  have hct := cI_length (l.take i)
  have hti : (l.take i).length = i := by simp; omega
  rw [hti] at hct
  have hlim : i + 1 ≤ lim := by simp only [lim]; omega
  simp only [csl]
  by_cases c0 : i = 0
  ·subst c0
   have w0 : IntKind.i64.wrap 1 = 1 := by decide
   have e1 : cI (l.take (0 + 1)) = [.int .i64 l[0].1, .int .i64 l[0].2] := by rw [htk]; rfl
   simp only [Nat.zero_mul, List.drop_zero] at hx
   rw [if_pos rfl, if_neg (by omega)]
   rw [e1]
   generalize cI (l.drop (0 + 1)) = R2 at *
   generalize cI l = A at *
   generalize l[0] = s at *
   have hlim1 : 1 ≤ lim := by decide
   refine ⟨?_, ?h1, ?h2⟩
   case h1 =>
    simp -implicitDefEqProofs [loopS_eq, c19L0, stOp, fresh, hi, hx, w0, hlim1]
    exact rfl
   case h2 => exact loopS_same (by simp [hx]) (by simp [hx])
  ·obtain ⟨j, rfl⟩ : ∃ j, i = j + 1 := ⟨i - 1, by omega⟩
   rw [if_neg c0, if_neg (by omega), htk]
   have ej : j + 1 - 1 = j := rfl
   have ej2 : j + 1 + 1 - 1 = j + 1 := rfl
   rw [ej, ej2]
   generalize cI (l.drop (j + 1 + 1)) = R2 at *
   generalize cI (l.take (j + 1)) = C at *
   generalize cI l = A at *
   generalize l[j + 1] = s at *
   generalize hij : j + 1 = i at *
   refine ⟨?_, ?h1, ?h2⟩
   case h1 =>
    simp -implicitDefEqProofs [loopS_eq, c19L0, stOp, fresh, hi, hx, hlt, hcl, hct, wi, hlim]
    exact rfl
   case h2 => exact loopS_same (by simp []) (by simp [hij])) (by
  rw [if_neg (by omega), htl]
  simp -implicitDefEqProofs [loopS_eq, c19L0]) (fuel := loopFuel) (by simp [loopFuel]; omega)
 exact this

theorem in19_2tf {d : Nat} (l : List (Int × Int)) (hl : l.length < 1000000) (h0 : 0 < l.length) (x y z : PVal) (hd hb : Int) (A0 : List PVal) (v0 n0 : Nat) :
  loopN (loopS (evFn F C0 G0 d) C0 G0 0 true [2, 3, 4, 14, 15, 19, 20, 21] c19L0) loopFuel ⟨[(2, .ptr 1 0 0), (3, .ptr 2 0 0), (4, iv 2), (14, .agg [.p x, .p y, .p z]), (15, iv 2), (19, csl l), (20, iv l.length), (21, iv 0)], [(4, .arr A0 v0 2), (2, .box [iv hd, iv hb, .sl 4 v0 0 n0, .p .nils, .p .nils]), (1, z5)]⟩ =
  .ret (.exit 2, ⟨[(2, .ptr 1 0 0), (3, .ptr 2 0 0), (4, iv 2), (14, .agg [.p x, .p y, .p z]), (15, iv 2), (19, csl l), (20, iv l.length), (21, iv l.length), (22, .p (.bool false))], [(6, .arr (cI l) (l.length - 1) 2), (4, .arr A0 v0 2), (2, .box [iv hd, iv hb, .sl 4 v0 0 n0, .p .nils, .sl 6 (l.length - 1) 0 l.length]), (1, z5)]⟩) := by
 have htl : l.take l.length = l := List.take_of_length_le (by omega)
 have := loop_run' (step := loopS (evFn F C0 G0 d) C0 G0 0 true [2, 3, 4, 14, 15, 19, 20, 21] c19L0) (fun i => if i = 0 then ⟨[(2, .ptr 1 0 0), (3, .ptr 2 0 0), (4, iv 2), (14, .agg [.p x, .p y, .p z]), (15, iv 2), (19, csl l), (20, iv l.length), (21, iv 0)], [(4, .arr A0 v0 2), (2, .box [iv hd, iv hb, .sl 4 v0 0 n0, .p .nils, .p .nils]), (1, z5)]⟩ else ⟨[(2, .ptr 1 0 0), (3, .ptr 2 0 0), (4, iv 2), (14, .agg [.p x, .p y, .p z]), (15, iv 2), (19, csl l), (20, iv l.length), (21, iv i)], [(6, .arr (cI (l.take i)) (i - 1) 2), (4, .arr A0 v0 2), (2, .box [iv hd, iv hb, .sl 4 v0 0 n0, .p .nils, .sl 6 (i - 1) 0 i]), (1, z5)]⟩) l.length (e := .exit 2) (st' := ⟨[(2, .ptr 1 0 0), (3, .ptr 2 0 0), (4, iv 2), (14, .agg [.p x, .p y, .p z]), (15, iv 2), (19, csl l), (20, iv l.length), (21, iv l.length), (22, .p (.bool false))], [(6, .arr (cI l) (l.length - 1) 2), (4, .arr A0 v0 2), (2, .box [iv hd, iv hb, .sl 4 v0 0 n0, .p .nils, .sl 6 (l.length - 1) 0 l.length]), (1, z5)]⟩) (st0 := ⟨[(2, .ptr 1 0 0), (3, .ptr 2 0 0), (4, iv 2), (14, .agg [.p x, .p y, .p z]), (15, iv 2), (19, csl l), (20, iv l.length), (21, iv 0)], [(4, .arr A0 v0 2), (2, .box [iv hd, iv hb, .sl 4 v0 0 n0, .p .nils, .p .nils]), (1, z5)]⟩) (by simp) rfl (fun i hi => by
  have hx := cI_drop l i hi
  have hlt : i * 2 < l.length * 2 := by omega
  have wi := wrap_succ (i := i) (by omega)
  have hcl := cI_length l
  have htk := cI_take l i hi
  have hct := cI_length (l.take i)
  have hti : (l.take i).length = i := by simp; omega
  rw [hti] at hct
  have hlim : i + 1 ≤ lim := by simp only [lim]; omega
  simp only [csl]
  by_cases c0 : i = 0
  ·subst c0
   have w0 : IntKind.i64.wrap 1 = 1 := by decide
   have e1 : cI (l.take (0 + 1)) = [.int .i64 l[0].1, .int .i64 l[0].2] := by rw [htk]; rfl
   simp only [Nat.zero_mul, List.drop_zero] at hx
   rw [if_pos rfl, if_neg (by omega)]
   rw [e1]
   generalize cI (l.drop (0 + 1)) = R2 at *
   generalize cI l = A at *
   generalize l[0] = s at *
   have hlim1 : 1 ≤ lim := by decide
   refine ⟨?_, ?h1, ?h2⟩
   case h1 =>
    simp -implicitDefEqProofs [loopS_eq, c19L0, stOp, fresh, hi, hx, w0, hlim1]
    exact rfl
   case h2 => exact loopS_same (by simp [hx]) (by simp [hx])
  ·obtain ⟨j, rfl⟩ : ∃ j, i = j + 1 := ⟨i - 1, by omega⟩
   rw [if_neg c0, if_neg (by omega), htk]
   have ej : j + 1 - 1 = j := rfl
   have ej2 : j + 1 + 1 - 1 = j + 1 := rfl
   rw [ej, ej2]
   generalize cI (l.drop (j + 1 + 1)) = R2 at *
   generalize cI (l.take (j + 1)) = C at *
   generalize cI l = A at *
   generalize l[j + 1] = s at *
   generalize hij : j + 1 = i at *
   refine ⟨?_, ?h1, ?h2⟩
   case h1 =>
    simp -implicitDefEqProofs [loopS_eq, c19L0, stOp, fresh, hi, hx, hlt, hcl, hct, wi, hlim]
    exact rfl
   case h2 => exact loopS_same (by simp []) (by simp [hij])) (by
  rw [if_neg (by omega), htl]
  simp -implicitDefEqProofs [loopS_eq, c19L0]) (fuel := loopFuel) (by simp [loopFuel]; omega)
 exact this

theorem in19_2tt {d : Nat} (l : List (Int × Int)) (hl : l.length < 1000000) (h0 : 0 < l.length) (x y z : PVal) (hd hb : Int) (A0 : List PVal) (v0 n0 : Nat) (A1 : List PVal) (v1 n1 : Nat) :
  loopN (loopS (evFn F C0 G0 d) C0 G0 0 true [2, 3, 4, 14, 15, 19, 20, 21] c19L0) loopFuel ⟨[(2, .ptr 1 0 0), (3, .ptr 2 0 0), (4, iv 2), (14, .agg [.p x, .p y, .p z]), (15, iv 2), (19, csl l), (20, iv l.length), (21, iv 0)], [(6, .arr A1 v1 2), (4, .arr A0 v0 2), (2, .box [iv hd, iv hb, .sl 4 v0 0 n0, .sl 6 v1 0 n1, .p .nils]), (1, z5)]⟩ =
  .ret (.exit 2, ⟨[(2, .ptr 1 0 0), (3, .ptr 2 0 0), (4, iv 2), (14, .agg [.p x, .p y, .p z]), (15, iv 2), (19, csl l), (20, iv l.length), (21, iv l.length), (22, .p (.bool false))], [(8, .arr (cI l) (l.length - 1) 2), (6, .arr A1 v1 2), (4, .arr A0 v0 2), (2, .box [iv hd, iv hb, .sl 4 v0 0 n0, .sl 6 v1 0 n1, .sl 8 (l.length - 1) 0 l.length]), (1, z5)]⟩) := by
 have htl : l.take l.length = l := List.take_of_length_le (by omega)
 have := loop_run' (step := loopS (evFn F C0 G0 d) C0 G0 0 true [2, 3, 4, 14, 15, 19, 20, 21] c19L0) (fun i => if i = 0 then ⟨[(2, .ptr 1 0 0), (3, .ptr 2 0 0), (4, iv 2), (14, .agg [.p x, .p y, .p z]), (15, iv 2), (19, csl l), (20, iv l.length), (21, iv 0)], [(6, .arr A1 v1 2), (4, .arr A0 v0 2), (2, .box [iv hd, iv hb, .sl 4 v0 0 n0, .sl 6 v1 0 n1, .p .nils]), (1, z5)]⟩ else ⟨[(2, .ptr 1 0 0), (3, .ptr 2 0 0), (4, iv 2), (14, .agg [.p x, .p y, .p z]), (15, iv 2), (19, csl l), (20, iv l.length), (21, iv i)], [(8, .arr (cI (l.take i)) (i - 1) 2), (6, .arr A1 v1 2), (4, .arr A0 v0 2), (2, .box [iv hd, iv hb, .sl 4 v0 0 n0, .sl 6 v1 0 n1, .sl 8 (i - 1) 0 i]), (1, z5)]⟩) l.length (e := .exit 2) (st' := ⟨[(2, .ptr 1 0 0), (3, .ptr 2 0 0), (4, iv 2), (14, .agg [.p x, .p y, .p z]), (15, iv 2), (19, csl l), (20, iv l.length), (21, iv l.length), (22, .p (.bool false))], [(8, .arr (cI l) (l.length - 1) 2), (6, .arr A1 v1 2), (4, .arr A0 v0 2), (2, .box [iv hd, iv hb, .sl 4 v0 0 n0, .sl 6 v1 0 n1, .sl 8 (l.length - 1) 0 l.length]), (1, z5)]⟩) (st0 := ⟨[(2, .ptr 1 0 0), (3, .ptr 2 0 0), (4, iv 2), (14, .agg [.p x, .p y, .p z]), (15, iv 2), (19, csl l), (20, iv l.length), (21, iv 0)], [(6, .arr A1 v1 2), (4, .arr A0 v0 2), (2, .box [iv hd, iv hb, .sl 4 v0 0 n0, .sl 6 v1 0 n1, .p .nils]), (1, z5)]⟩) (by simp) rfl (fun i hi => by
  have hx := cI_drop l i hi
  have hlt : i * 2 < l.length * 2 := by omega
  have wi := wrap_succ (i := i) (by omega)
  have hcl := cI_length l
  have htk := cI_take l i hi
  have hct := cI_length (l.take i)
  have hti : (l.take i).length = i := by simp; omega
  rw [hti] at hct
  have hlim : i + 1 ≤ lim := by simp only [lim]; omega
  simp only [csl]
  by_cases c0 : i = 0
  ·subst c0
   have w0 : IntKind.i64.wrap 1 = 1 := by decide
   have e1 : cI (l.take (0 + 1)) = [.int .i64 l[0].1, .int .i64 l[0].2] := by rw [htk]; rfl
   simp only [Nat.zero_mul, List.drop_zero] at hx
   rw [if_pos rfl, if_neg (by omega)]
   rw [e1]
   generalize cI (l.drop (0 + 1)) = R2 at *
   generalize cI l = A at *
   generalize l[0] = s at *
   have hlim1 : 1 ≤ lim := by decide
   refine ⟨?_, ?h1, ?h2⟩
   case h1 =>
    simp -implicitDefEqProofs [loopS_eq, c19L0, stOp, fresh, hi, hx, w0, hlim1]
    exact rfl
   case h2 => exact loopS_same (by simp [hx]) (by simp [hx])
  ·obtain ⟨j, rfl⟩ : ∃ j, i = j + 1 := ⟨i - 1, by omega⟩
   rw [if_neg c0, if_neg (by omega), htk]
   have ej : j + 1 - 1 = j := rfl
   have ej2 : j + 1 + 1 - 1 = j + 1 := rfl
   rw [ej, ej2]
   generalize cI (l.drop (j + 1 + 1)) = R2 at *
   generalize cI (l.take (j + 1)) = C at *
   generalize cI l = A at *
   generalize l[j + 1] = s at *
   generalize hij : j + 1 = i at *
   refine ⟨?_, ?h1, ?h2⟩
   case h1 =>
    simp -implicitDefEqProofs [loopS_eq, c19L0, stOp, fresh, hi, hx, hlt, hcl, hct, wi, hlim]
    exact rfl
   case h2 => exact loopS_same (by simp []) (by simp [hij])) (by
  rw [if_neg (by omega), htl]
  simp -implicitDefEqProofs [loopS_eq, c19L0]) (fuel := loopFuel) (by simp [loopFuel]; omega)
 exact this

end Fw
end

section
set_option maxHeartbeats 16000000
namespace Fw
open Go
theorem own_w1 : IntKind.i64.wrap 1 = 1 := by decide
theorem own_w2 : IntKind.i64.wrap 2 = 2 := by decide
theorem own_w3 : IntKind.i64.wrap 3 = 3 := by decide
theorem lenA (l : List (Int × Int)) (_h : 0 < l.length) : l.length * 2 = (cI l).length := (cI_length l).symm

theorem own19_fff {n : Nat} (hn : 1 ≤ n) (h : HallI) (_g0 : h.t0.length < 1000000) (_g1 : h.t1.length < 1000000) (_g2 : h.t2.length < 1000000) (h0 : h.t0 = []) (h1 : h.t1 = []) (h2 : h.t2 = []) : RUN n 19 [ha h] = .ret (ha h) := by
 obtain ⟨d, rfl⟩ : ∃ d, n = d + 1 := ⟨n - 1, by omega⟩
 rw [RUN, call_eq fe19 _ rfl]
 simp only [ha, csl, h0, h1, h2, show cI ([] : List (Int × Int)) = [] from rfl, List.length_nil]
 generalize h.doors = hd at *
 generalize h.base = hb at *
 have s0 : loopS (evFn F C0 G0 d) C0 G0 0 true [2, 3, 14, 15] c19L1 ⟨[(2, .ptr 1 0 0), (3, .ptr 2 0 0), (14, .agg [.p (.sl [] 0), .p (.sl [] 0), .p (.sl [] 0)]), (15, iv 0)], [(2, .box [iv hd, iv hb, .p .nils, .p .nils, .p .nils]), (1, z5), (0, .box [iv hd, iv hb, .p (.sl [] 0), .p (.sl [] 0), .p (.sl [] 0)])]⟩ = .ret (.normal, ⟨[(2, .ptr 1 0 0), (3, .ptr 2 0 0), (14, .agg [.p (.sl [] 0), .p (.sl [] 0), .p (.sl [] 0)]), (15, iv 1)], [(2, .box [iv hd, iv hb, .p .nils, .p .nils, .p .nils]), (1, z5)]⟩) := by
  simp -implicitDefEqProofs [loopS_eq, c19L1]
  have e : loopS (evFn F C0 G0 d) C0 G0 0 true [2, 3, 4, 14, 15, 19, 20, 21] c19L0 ⟨[(2, .ptr 1 0 0), (3, .ptr 2 0 0), (4, iv 0), (14, .agg [.p (.sl [] 0), .p (.sl [] 0), .p (.sl [] 0)]), (15, iv 0), (19, .p (.sl [] 0)), (20, iv 0), (21, iv 0)], [(2, .box [iv hd, iv hb, .p .nils, .p .nils, .p .nils]), (1, z5)]⟩ = .ret (.exit 2, ⟨[(2, .ptr 1 0 0), (3, .ptr 2 0 0), (4, iv 0), (14, .agg [.p (.sl [] 0), .p (.sl [] 0), .p (.sl [] 0)]), (15, iv 0), (19, .p (.sl [] 0)), (20, iv 0), (21, iv 0), (22, .p (.bool false))], [(2, .box [iv hd, iv hb, .p .nils, .p .nils, .p .nils]), (1, z5)]⟩) := by
   simp -implicitDefEqProofs [loopS_eq, c19L0]
  rw [loopN_end e (by simp) (by simp [loopFuel])]
  simp -implicitDefEqProofs [own_w1]
 have s1 : loopS (evFn F C0 G0 d) C0 G0 0 true [2, 3, 14, 15] c19L1 ⟨[(2, .ptr 1 0 0), (3, .ptr 2 0 0), (14, .agg [.p (.sl [] 0), .p (.sl [] 0), .p (.sl [] 0)]), (15, iv 1)], [(2, .box [iv hd, iv hb, .p .nils, .p .nils, .p .nils]), (1, z5)]⟩ = .ret (.normal, ⟨[(2, .ptr 1 0 0), (3, .ptr 2 0 0), (14, .agg [.p (.sl [] 0), .p (.sl [] 0), .p (.sl [] 0)]), (15, iv 2)], [(2, .box [iv hd, iv hb, .p .nils, .p .nils, .p .nils]), (1, z5)]⟩) := by
  simp -implicitDefEqProofs [loopS_eq, c19L1]
  have e : loopS (evFn F C0 G0 d) C0 G0 0 true [2, 3, 4, 14, 15, 19, 20, 21] c19L0 ⟨[(2, .ptr 1 0 0), (3, .ptr 2 0 0), (4, iv 1), (14, .agg [.p (.sl [] 0), .p (.sl [] 0), .p (.sl [] 0)]), (15, iv 1), (19, .p (.sl [] 0)), (20, iv 0), (21, iv 0)], [(2, .box [iv hd, iv hb, .p .nils, .p .nils, .p .nils]), (1, z5)]⟩ = .ret (.exit 2, ⟨[(2, .ptr 1 0 0), (3, .ptr 2 0 0), (4, iv 1), (14, .agg [.p (.sl [] 0), .p (.sl [] 0), .p (.sl [] 0)]), (15, iv 1), (19, .p (.sl [] 0)), (20, iv 0), (21, iv 0), (22, .p (.bool false))], [(2, .box [iv hd, iv hb, .p .nils, .p .nils, .p .nils]), (1, z5)]⟩) := by
   simp -implicitDefEqProofs [loopS_eq, c19L0]
  rw [loopN_end e (by simp) (by simp [loopFuel])]
  simp -implicitDefEqProofs [own_w2]
 have s2 : loopS (evFn F C0 G0 d) C0 G0 0 true [2, 3, 14, 15] c19L1 ⟨[(2, .ptr 1 0 0), (3, .ptr 2 0 0), (14, .agg [.p (.sl [] 0), .p (.sl [] 0), .p (.sl [] 0)]), (15, iv 2)], [(2, .box [iv hd, iv hb, .p .nils, .p .nils, .p .nils]), (1, z5)]⟩ = .ret (.normal, ⟨[(2, .ptr 1 0 0), (3, .ptr 2 0 0), (14, .agg [.p (.sl [] 0), .p (.sl [] 0), .p (.sl [] 0)]), (15, iv 3)], [(2, .box [iv hd, iv hb, .p .nils, .p .nils, .p .nils]), (1, z5)]⟩) := by
  simp -implicitDefEqProofs [loopS_eq, c19L1]
  have e : loopS (evFn F C0 G0 d) C0 G0 0 true [2, 3, 4, 14, 15, 19, 20, 21] c19L0 ⟨[(2, .ptr 1 0 0), (3, .ptr 2 0 0), (4, iv 2), (14, .agg [.p (.sl [] 0), .p (.sl [] 0), .p (.sl [] 0)]), (15, iv 2), (19, .p (.sl [] 0)), (20, iv 0), (21, iv 0)], [(2, .box [iv hd, iv hb, .p .nils, .p .nils, .p .nils]), (1, z5)]⟩ = .ret (.exit 2, ⟨[(2, .ptr 1 0 0), (3, .ptr 2 0 0), (4, iv 2), (14, .agg [.p (.sl [] 0), .p (.sl [] 0), .p (.sl [] 0)]), (15, iv 2), (19, .p (.sl [] 0)), (20, iv 0), (21, iv 0), (22, .p (.bool false))], [(2, .box [iv hd, iv hb, .p .nils, .p .nils, .p .nils]), (1, z5)]⟩) := by
   simp -implicitDefEqProofs [loopS_eq, c19L0]
  rw [loopN_end e (by simp) (by simp [loopFuel])]
  simp -implicitDefEqProofs [own_w3]
 have s3 : loopS (evFn F C0 G0 d) C0 G0 0 true [2, 3, 14, 15] c19L1 ⟨[(2, .ptr 1 0 0), (3, .ptr 2 0 0), (14, .agg [.p (.sl [] 0), .p (.sl [] 0), .p (.sl [] 0)]), (15, iv 3)], [(2, .box [iv hd, iv hb, .p .nils, .p .nils, .p .nils]), (1, z5)]⟩ = .ret (.exit 0, ⟨[(2, .ptr 1 0 0), (3, .ptr 2 0 0), (14, .agg [.p (.sl [] 0), .p (.sl [] 0), .p (.sl [] 0)]), (15, iv 3), (16, .p (.bool false))], [(2, .box [iv hd, iv hb, .p .nils, .p .nils, .p .nils]), (1, z5)]⟩) := by
  simp -implicitDefEqProofs [loopS_eq, c19L1]
 simp -implicitDefEqProofs [c19]
 rw [loopN_on s0 (by simp [loopFuel]), loopN_on s1 (by simp [loopFuel]), loopN_on s2 (by simp [loopFuel]), loopN_end s3 (by simp) (by simp [loopFuel])]
 simp -implicitDefEqProofs []

theorem own19_fft {n : Nat} (hn : 1 ≤ n) (h : HallI) (_g0 : h.t0.length < 1000000) (_g1 : h.t1.length < 1000000) (g2 : h.t2.length < 1000000) (h0 : h.t0 = []) (h1 : h.t1 = []) (h2 : 0 < h.t2.length) : RUN n 19 [ha h] = .ret (ha h) := by
 obtain ⟨d, rfl⟩ : ∃ d, n = d + 1 := ⟨n - 1, by omega⟩
 rw [RUN, call_eq fe19 _ rfl]
 have i2 := in19_2ff (d := d) h.t2 g2 h2 (.sl [] 0) (.sl [] 0) (.sl (cI h.t2) h.t2.length) h.doors h.base
 have l2 := lenA h.t2 h2
 have p2 : h.t2.length - 1 + 1 = h.t2.length := by omega
 simp only [ha, csl, h0, h1, show cI ([] : List (Int × Int)) = [] from rfl, List.length_nil]
 simp only [csl] at i2
 generalize cI h.t2 = A2 at *
 generalize h.doors = hd at *
 generalize h.base = hb at *
 have s0 : loopS (evFn F C0 G0 d) C0 G0 0 true [2, 3, 14, 15] c19L1 ⟨[(2, .ptr 1 0 0), (3, .ptr 2 0 0), (14, .agg [.p (.sl [] 0), .p (.sl [] 0), .p (.sl A2 h.t2.length)]), (15, iv 0)], [(2, .box [iv hd, iv hb, .p .nils, .p .nils, .p .nils]), (1, z5), (0, .box [iv hd, iv hb, .p (.sl [] 0), .p (.sl [] 0), .p (.sl A2 h.t2.length)])]⟩ = .ret (.normal, ⟨[(2, .ptr 1 0 0), (3, .ptr 2 0 0), (14, .agg [.p (.sl [] 0), .p (.sl [] 0), .p (.sl A2 h.t2.length)]), (15, iv 1)], [(2, .box [iv hd, iv hb, .p .nils, .p .nils, .p .nils]), (1, z5)]⟩) := by
  simp -implicitDefEqProofs [loopS_eq, c19L1]
  have e : loopS (evFn F C0 G0 d) C0 G0 0 true [2, 3, 4, 14, 15, 19, 20, 21] c19L0 ⟨[(2, .ptr 1 0 0), (3, .ptr 2 0 0), (4, iv 0), (14, .agg [.p (.sl [] 0), .p (.sl [] 0), .p (.sl A2 h.t2.length)]), (15, iv 0), (19, .p (.sl [] 0)), (20, iv 0), (21, iv 0)], [(2, .box [iv hd, iv hb, .p .nils, .p .nils, .p .nils]), (1, z5)]⟩ = .ret (.exit 2, ⟨[(2, .ptr 1 0 0), (3, .ptr 2 0 0), (4, iv 0), (14, .agg [.p (.sl [] 0), .p (.sl [] 0), .p (.sl A2 h.t2.length)]), (15, iv 0), (19, .p (.sl [] 0)), (20, iv 0), (21, iv 0), (22, .p (.bool false))], [(2, .box [iv hd, iv hb, .p .nils, .p .nils, .p .nils]), (1, z5)]⟩) := by
   simp -implicitDefEqProofs [loopS_eq, c19L0]
  rw [loopN_end e (by simp) (by simp [loopFuel])]
  simp -implicitDefEqProofs [own_w1]
 have s1 : loopS (evFn F C0 G0 d) C0 G0 0 true [2, 3, 14, 15] c19L1 ⟨[(2, .ptr 1 0 0), (3, .ptr 2 0 0), (14, .agg [.p (.sl [] 0), .p (.sl [] 0), .p (.sl A2 h.t2.length)]), (15, iv 1)], [(2, .box [iv hd, iv hb, .p .nils, .p .nils, .p .nils]), (1, z5)]⟩ = .ret (.normal, ⟨[(2, .ptr 1 0 0), (3, .ptr 2 0 0), (14, .agg [.p (.sl [] 0), .p (.sl [] 0), .p (.sl A2 h.t2.length)]), (15, iv 2)], [(2, .box [iv hd, iv hb, .p .nils, .p .nils, .p .nils]), (1, z5)]⟩) := by
  simp -implicitDefEqProofs [loopS_eq, c19L1]
  have e : loopS (evFn F C0 G0 d) C0 G0 0 true [2, 3, 4, 14, 15, 19, 20, 21] c19L0 ⟨[(2, .ptr 1 0 0), (3, .ptr 2 0 0), (4, iv 1), (14, .agg [.p (.sl [] 0), .p (.sl [] 0), .p (.sl A2 h.t2.length)]), (15, iv 1), (19, .p (.sl [] 0)), (20, iv 0), (21, iv 0)], [(2, .box [iv hd, iv hb, .p .nils, .p .nils, .p .nils]), (1, z5)]⟩ = .ret (.exit 2, ⟨[(2, .ptr 1 0 0), (3, .ptr 2 0 0), (4, iv 1), (14, .agg [.p (.sl [] 0), .p (.sl [] 0), .p (.sl A2 h.t2.length)]), (15, iv 1), (19, .p (.sl [] 0)), (20, iv 0), (21, iv 0), (22, .p (.bool false))], [(2, .box [iv hd, iv hb, .p .nils, .p .nils, .p .nils]), (1, z5)]⟩) := by
   simp -implicitDefEqProofs [loopS_eq, c19L0]
  rw [loopN_end e (by simp) (by simp [loopFuel])]
  simp -implicitDefEqProofs [own_w2]
 have s2 : loopS (evFn F C0 G0 d) C0 G0 0 true [2, 3, 14, 15] c19L1 ⟨[(2, .ptr 1 0 0), (3, .ptr 2 0 0), (14, .agg [.p (.sl [] 0), .p (.sl [] 0), .p (.sl A2 h.t2.length)]), (15, iv 2)], [(2, .box [iv hd, iv hb, .p .nils, .p .nils, .p .nils]), (1, z5)]⟩ = .ret (.normal, ⟨[(2, .ptr 1 0 0), (3, .ptr 2 0 0), (14, .agg [.p (.sl [] 0), .p (.sl [] 0), .p (.sl A2 h.t2.length)]), (15, iv 3)], [(4, .arr A2 (h.t2.length - 1) 2), (2, .box [iv hd, iv hb, .p .nils, .p .nils, .sl 4 (h.t2.length - 1) 0 h.t2.length]), (1, z5)]⟩) := by
  simp -implicitDefEqProofs [loopS_eq, c19L1]
  rw [i2]
  simp -implicitDefEqProofs [own_w3]
 have s3 : loopS (evFn F C0 G0 d) C0 G0 0 true [2, 3, 14, 15] c19L1 ⟨[(2, .ptr 1 0 0), (3, .ptr 2 0 0), (14, .agg [.p (.sl [] 0), .p (.sl [] 0), .p (.sl A2 h.t2.length)]), (15, iv 3)], [(4, .arr A2 (h.t2.length - 1) 2), (2, .box [iv hd, iv hb, .p .nils, .p .nils, .sl 4 (h.t2.length - 1) 0 h.t2.length]), (1, z5)]⟩ = .ret (.exit 0, ⟨[(2, .ptr 1 0 0), (3, .ptr 2 0 0), (14, .agg [.p (.sl [] 0), .p (.sl [] 0), .p (.sl A2 h.t2.length)]), (15, iv 3), (16, .p (.bool false))], [(4, .arr A2 (h.t2.length - 1) 2), (2, .box [iv hd, iv hb, .p .nils, .p .nils, .sl 4 (h.t2.length - 1) 0 h.t2.length]), (1, z5)]⟩) := by
  simp -implicitDefEqProofs [loopS_eq, c19L1]
 simp -implicitDefEqProofs [c19]
 rw [loopN_on s0 (by simp [loopFuel]), loopN_on s1 (by simp [loopFuel]), loopN_on s2 (by simp [loopFuel]), loopN_end s3 (by simp) (by simp [loopFuel])]
 simp -implicitDefEqProofs [l2]

theorem own19_ftf {n : Nat} (hn : 1 ≤ n) (h : HallI) (_g0 : h.t0.length < 1000000) (g1 : h.t1.length < 1000000) (_g2 : h.t2.length < 1000000) (h0 : h.t0 = []) (h1 : 0 < h.t1.length) (h2 : h.t2 = []) : RUN n 19 [ha h] = .ret (ha h) := by
 obtain ⟨d, rfl⟩ : ∃ d, n = d + 1 := ⟨n - 1, by omega⟩
 rw [RUN, call_eq fe19 _ rfl]
 have i1 := in19_1f (d := d) h.t1 g1 h1 (.sl [] 0) (.sl (cI h.t1) h.t1.length) (.sl [] 0) h.doors h.base
 have l1 := lenA h.t1 h1
 have p1 : h.t1.length - 1 + 1 = h.t1.length := by omega
 simp only [ha, csl, h0, h2, show cI ([] : List (Int × Int)) = [] from rfl, List.length_nil]
 simp only [csl] at i1
 generalize cI h.t1 = A1 at *
 generalize h.doors = hd at *
 generalize h.base = hb at *
 have s0 : loopS (evFn F C0 G0 d) C0 G0 0 true [2, 3, 14, 15] c19L1 ⟨[(2, .ptr 1 0 0), (3, .ptr 2 0 0), (14, .agg [.p (.sl [] 0), .p (.sl A1 h.t1.length), .p (.sl [] 0)]), (15, iv 0)], [(2, .box [iv hd, iv hb, .p .nils, .p .nils, .p .nils]), (1, z5), (0, .box [iv hd, iv hb, .p (.sl [] 0), .p (.sl A1 h.t1.length), .p (.sl [] 0)])]⟩ = .ret (.normal, ⟨[(2, .ptr 1 0 0), (3, .ptr 2 0 0), (14, .agg [.p (.sl [] 0), .p (.sl A1 h.t1.length), .p (.sl [] 0)]), (15, iv 1)], [(2, .box [iv hd, iv hb, .p .nils, .p .nils, .p .nils]), (1, z5)]⟩) := by
  simp -implicitDefEqProofs [loopS_eq, c19L1]
  have e : loopS (evFn F C0 G0 d) C0 G0 0 true [2, 3, 4, 14, 15, 19, 20, 21] c19L0 ⟨[(2, .ptr 1 0 0), (3, .ptr 2 0 0), (4, iv 0), (14, .agg [.p (.sl [] 0), .p (.sl A1 h.t1.length), .p (.sl [] 0)]), (15, iv 0), (19, .p (.sl [] 0)), (20, iv 0), (21, iv 0)], [(2, .box [iv hd, iv hb, .p .nils, .p .nils, .p .nils]), (1, z5)]⟩ = .ret (.exit 2, ⟨[(2, .ptr 1 0 0), (3, .ptr 2 0 0), (4, iv 0), (14, .agg [.p (.sl [] 0), .p (.sl A1 h.t1.length), .p (.sl [] 0)]), (15, iv 0), (19, .p (.sl [] 0)), (20, iv 0), (21, iv 0), (22, .p (.bool false))], [(2, .box [iv hd, iv hb, .p .nils, .p .nils, .p .nils]), (1, z5)]⟩) := by
   simp -implicitDefEqProofs [loopS_eq, c19L0]
  rw [loopN_end e (by simp) (by simp [loopFuel])]
  simp -implicitDefEqProofs [own_w1]
 have s1 : loopS (evFn F C0 G0 d) C0 G0 0 true [2, 3, 14, 15] c19L1 ⟨[(2, .ptr 1 0 0), (3, .ptr 2 0 0), (14, .agg [.p (.sl [] 0), .p (.sl A1 h.t1.length), .p (.sl [] 0)]), (15, iv 1)], [(2, .box [iv hd, iv hb, .p .nils, .p .nils, .p .nils]), (1, z5)]⟩ = .ret (.normal, ⟨[(2, .ptr 1 0 0), (3, .ptr 2 0 0), (14, .agg [.p (.sl [] 0), .p (.sl A1 h.t1.length), .p (.sl [] 0)]), (15, iv 2)], [(4, .arr A1 (h.t1.length - 1) 2), (2, .box [iv hd, iv hb, .p .nils, .sl 4 (h.t1.length - 1) 0 h.t1.length, .p .nils]), (1, z5)]⟩) := by
  simp -implicitDefEqProofs [loopS_eq, c19L1]
  rw [i1]
  simp -implicitDefEqProofs [own_w2]
 have s2 : loopS (evFn F C0 G0 d) C0 G0 0 true [2, 3, 14, 15] c19L1 ⟨[(2, .ptr 1 0 0), (3, .ptr 2 0 0), (14, .agg [.p (.sl [] 0), .p (.sl A1 h.t1.length), .p (.sl [] 0)]), (15, iv 2)], [(4, .arr A1 (h.t1.length - 1) 2), (2, .box [iv hd, iv hb, .p .nils, .sl 4 (h.t1.length - 1) 0 h.t1.length, .p .nils]), (1, z5)]⟩ = .ret (.normal, ⟨[(2, .ptr 1 0 0), (3, .ptr 2 0 0), (14, .agg [.p (.sl [] 0), .p (.sl A1 h.t1.length), .p (.sl [] 0)]), (15, iv 3)], [(4, .arr A1 (h.t1.length - 1) 2), (2, .box [iv hd, iv hb, .p .nils, .sl 4 (h.t1.length - 1) 0 h.t1.length, .p .nils]), (1, z5)]⟩) := by
  simp -implicitDefEqProofs [loopS_eq, c19L1]
  have e : loopS (evFn F C0 G0 d) C0 G0 0 true [2, 3, 4, 14, 15, 19, 20, 21] c19L0 ⟨[(2, .ptr 1 0 0), (3, .ptr 2 0 0), (4, iv 2), (14, .agg [.p (.sl [] 0), .p (.sl A1 h.t1.length), .p (.sl [] 0)]), (15, iv 2), (19, .p (.sl [] 0)), (20, iv 0), (21, iv 0)], [(4, .arr A1 (h.t1.length - 1) 2), (2, .box [iv hd, iv hb, .p .nils, .sl 4 (h.t1.length - 1) 0 h.t1.length, .p .nils]), (1, z5)]⟩ = .ret (.exit 2, ⟨[(2, .ptr 1 0 0), (3, .ptr 2 0 0), (4, iv 2), (14, .agg [.p (.sl [] 0), .p (.sl A1 h.t1.length), .p (.sl [] 0)]), (15, iv 2), (19, .p (.sl [] 0)), (20, iv 0), (21, iv 0), (22, .p (.bool false))], [(4, .arr A1 (h.t1.length - 1) 2), (2, .box [iv hd, iv hb, .p .nils, .sl 4 (h.t1.length - 1) 0 h.t1.length, .p .nils]), (1, z5)]⟩) := by
   simp -implicitDefEqProofs [loopS_eq, c19L0]
  rw [loopN_end e (by simp) (by simp [loopFuel])]
  simp -implicitDefEqProofs [own_w3]
 have s3 : loopS (evFn F C0 G0 d) C0 G0 0 true [2, 3, 14, 15] c19L1 ⟨[(2, .ptr 1 0 0), (3, .ptr 2 0 0), (14, .agg [.p (.sl [] 0), .p (.sl A1 h.t1.length), .p (.sl [] 0)]), (15, iv 3)], [(4, .arr A1 (h.t1.length - 1) 2), (2, .box [iv hd, iv hb, .p .nils, .sl 4 (h.t1.length - 1) 0 h.t1.length, .p .nils]), (1, z5)]⟩ = .ret (.exit 0, ⟨[(2, .ptr 1 0 0), (3, .ptr 2 0 0), (14, .agg [.p (.sl [] 0), .p (.sl A1 h.t1.length), .p (.sl [] 0)]), (15, iv 3), (16, .p (.bool false))], [(4, .arr A1 (h.t1.length - 1) 2), (2, .box [iv hd, iv hb, .p .nils, .sl 4 (h.t1.length - 1) 0 h.t1.length, .p .nils]), (1, z5)]⟩) := by
  simp -implicitDefEqProofs [loopS_eq, c19L1]
 simp -implicitDefEqProofs [c19]
 rw [loopN_on s0 (by simp [loopFuel]), loopN_on s1 (by simp [loopFuel]), loopN_on s2 (by simp [loopFuel]), loopN_end s3 (by simp) (by simp [loopFuel])]
 simp -implicitDefEqProofs [l1]

theorem own19_ftt {n : Nat} (hn : 1 ≤ n) (h : HallI) (_g0 : h.t0.length < 1000000) (g1 : h.t1.length < 1000000) (g2 : h.t2.length < 1000000) (h0 : h.t0 = []) (h1 : 0 < h.t1.length) (h2 : 0 < h.t2.length) : RUN n 19 [ha h] = .ret (ha h) := by
 obtain ⟨d, rfl⟩ : ∃ d, n = d + 1 := ⟨n - 1, by omega⟩
 rw [RUN, call_eq fe19 _ rfl]
 have i1 := in19_1f (d := d) h.t1 g1 h1 (.sl [] 0) (.sl (cI h.t1) h.t1.length) (.sl (cI h.t2) h.t2.length) h.doors h.base
 have l1 := lenA h.t1 h1
 have p1 : h.t1.length - 1 + 1 = h.t1.length := by omega
 have i2 := in19_2ft (d := d) h.t2 g2 h2 (.sl [] 0) (.sl (cI h.t1) h.t1.length) (.sl (cI h.t2) h.t2.length) h.doors h.base (cI h.t1) (h.t1.length - 1) h.t1.length
 have l2 := lenA h.t2 h2
 have p2 : h.t2.length - 1 + 1 = h.t2.length := by omega
 simp only [ha, csl, h0, show cI ([] : List (Int × Int)) = [] from rfl, List.length_nil]
 simp only [csl] at i1 i2
 generalize cI h.t1 = A1 at *
 generalize cI h.t2 = A2 at *
 generalize h.doors = hd at *
 generalize h.base = hb at *
 have s0 : loopS (evFn F C0 G0 d) C0 G0 0 true [2, 3, 14, 15] c19L1 ⟨[(2, .ptr 1 0 0), (3, .ptr 2 0 0), (14, .agg [.p (.sl [] 0), .p (.sl A1 h.t1.length), .p (.sl A2 h.t2.length)]), (15, iv 0)], [(2, .box [iv hd, iv hb, .p .nils, .p .nils, .p .nils]), (1, z5), (0, .box [iv hd, iv hb, .p (.sl [] 0), .p (.sl A1 h.t1.length), .p (.sl A2 h.t2.length)])]⟩ = .ret (.normal, ⟨[(2, .ptr 1 0 0), (3, .ptr 2 0 0), (14, .agg [.p (.sl [] 0), .p (.sl A1 h.t1.length), .p (.sl A2 h.t2.length)]), (15, iv 1)], [(2, .box [iv hd, iv hb, .p .nils, .p .nils, .p .nils]), (1, z5)]⟩) := by
  simp -implicitDefEqProofs [loopS_eq, c19L1]
  have e : loopS (evFn F C0 G0 d) C0 G0 0 true [2, 3, 4, 14, 15, 19, 20, 21] c19L0 ⟨[(2, .ptr 1 0 0), (3, .ptr 2 0 0), (4, iv 0), (14, .agg [.p (.sl [] 0), .p (.sl A1 h.t1.length), .p (.sl A2 h.t2.length)]), (15, iv 0), (19, .p (.sl [] 0)), (20, iv 0), (21, iv 0)], [(2, .box [iv hd, iv hb, .p .nils, .p .nils, .p .nils]), (1, z5)]⟩ = .ret (.exit 2, ⟨[(2, .ptr 1 0 0), (3, .ptr 2 0 0), (4, iv 0), (14, .agg [.p (.sl [] 0), .p (.sl A1 h.t1.length), .p (.sl A2 h.t2.length)]), (15, iv 0), (19, .p (.sl [] 0)), (20, iv 0), (21, iv 0), (22, .p (.bool false))], [(2, .box [iv hd, iv hb, .p .nils, .p .nils, .p .nils]), (1, z5)]⟩) := by
   simp -implicitDefEqProofs [loopS_eq, c19L0]
  rw [loopN_end e (by simp) (by simp [loopFuel])]
  simp -implicitDefEqProofs [own_w1]
 have s1 : loopS (evFn F C0 G0 d) C0 G0 0 true [2, 3, 14, 15] c19L1 ⟨[(2, .ptr 1 0 0), (3, .ptr 2 0 0), (14, .agg [.p (.sl [] 0), .p (.sl A1 h.t1.length), .p (.sl A2 h.t2.length)]), (15, iv 1)], [(2, .box [iv hd, iv hb, .p .nils, .p .nils, .p .nils]), (1, z5)]⟩ = .ret (.normal, ⟨[(2, .ptr 1 0 0), (3, .ptr 2 0 0), (14, .agg [.p (.sl [] 0), .p (.sl A1 h.t1.length), .p (.sl A2 h.t2.length)]), (15, iv 2)], [(4, .arr A1 (h.t1.length - 1) 2), (2, .box [iv hd, iv hb, .p .nils, .sl 4 (h.t1.length - 1) 0 h.t1.length, .p .nils]), (1, z5)]⟩) := by
  simp -implicitDefEqProofs [loopS_eq, c19L1]
  rw [i1]
  simp -implicitDefEqProofs [own_w2]
 have s2 : loopS (evFn F C0 G0 d) C0 G0 0 true [2, 3, 14, 15] c19L1 ⟨[(2, .ptr 1 0 0), (3, .ptr 2 0 0), (14, .agg [.p (.sl [] 0), .p (.sl A1 h.t1.length), .p (.sl A2 h.t2.length)]), (15, iv 2)], [(4, .arr A1 (h.t1.length - 1) 2), (2, .box [iv hd, iv hb, .p .nils, .sl 4 (h.t1.length - 1) 0 h.t1.length, .p .nils]), (1, z5)]⟩ = .ret (.normal, ⟨[(2, .ptr 1 0 0), (3, .ptr 2 0 0), (14, .agg [.p (.sl [] 0), .p (.sl A1 h.t1.length), .p (.sl A2 h.t2.length)]), (15, iv 3)], [(6, .arr A2 (h.t2.length - 1) 2), (4, .arr A1 (h.t1.length - 1) 2), (2, .box [iv hd, iv hb, .p .nils, .sl 4 (h.t1.length - 1) 0 h.t1.length, .sl 6 (h.t2.length - 1) 0 h.t2.length]), (1, z5)]⟩) := by
  simp -implicitDefEqProofs [loopS_eq, c19L1]
  rw [i2]
  simp -implicitDefEqProofs [own_w3]
 have s3 : loopS (evFn F C0 G0 d) C0 G0 0 true [2, 3, 14, 15] c19L1 ⟨[(2, .ptr 1 0 0), (3, .ptr 2 0 0), (14, .agg [.p (.sl [] 0), .p (.sl A1 h.t1.length), .p (.sl A2 h.t2.length)]), (15, iv 3)], [(6, .arr A2 (h.t2.length - 1) 2), (4, .arr A1 (h.t1.length - 1) 2), (2, .box [iv hd, iv hb, .p .nils, .sl 4 (h.t1.length - 1) 0 h.t1.length, .sl 6 (h.t2.length - 1) 0 h.t2.length]), (1, z5)]⟩ = .ret (.exit 0, ⟨[(2, .ptr 1 0 0), (3, .ptr 2 0 0), (14, .agg [.p (.sl [] 0), .p (.sl A1 h.t1.length), .p (.sl A2 h.t2.length)]), (15, iv 3), (16, .p (.bool false))], [(6, .arr A2 (h.t2.length - 1) 2), (4, .arr A1 (h.t1.length - 1) 2), (2, .box [iv hd, iv hb, .p .nils, .sl 4 (h.t1.length - 1) 0 h.t1.length, .sl 6 (h.t2.length - 1) 0 h.t2.length]), (1, z5)]⟩) := by
  simp -implicitDefEqProofs [loopS_eq, c19L1]
 simp -implicitDefEqProofs [c19]
 rw [loopN_on s0 (by simp [loopFuel]), loopN_on s1 (by simp [loopFuel]), loopN_on s2 (by simp [loopFuel]), loopN_end s3 (by simp) (by simp [loopFuel])]
 simp -implicitDefEqProofs [l1, l2]

theorem own19_tff {n : Nat} (hn : 1 ≤ n) (h : HallI) (g0 : h.t0.length < 1000000) (_g1 : h.t1.length < 1000000) (_g2 : h.t2.length < 1000000) (h0 : 0 < h.t0.length) (h1 : h.t1 = []) (h2 : h.t2 = []) : RUN n 19 [ha h] = .ret (ha h) := by
 obtain ⟨d, rfl⟩ : ∃ d, n = d + 1 := ⟨n - 1, by omega⟩
 rw [RUN, call_eq fe19 _ rfl]
 have i0 := in19_0 (d := d) h.t0 g0 h0 (.sl (cI h.t0) h.t0.length) (.sl [] 0) (.sl [] 0) h.doors h.base
 have l0 := lenA h.t0 h0
 have p0 : h.t0.length - 1 + 1 = h.t0.length := by omega
 simp only [ha, csl, h1, h2, show cI ([] : List (Int × Int)) = [] from rfl, List.length_nil]
 simp only [csl] at i0
 generalize cI h.t0 = A0 at *
 generalize h.doors = hd at *
 generalize h.base = hb at *
 have s0 : loopS (evFn F C0 G0 d) C0 G0 0 true [2, 3, 14, 15] c19L1 ⟨[(2, .ptr 1 0 0), (3, .ptr 2 0 0), (14, .agg [.p (.sl A0 h.t0.length), .p (.sl [] 0), .p (.sl [] 0)]), (15, iv 0)], [(2, .box [iv hd, iv hb, .p .nils, .p .nils, .p .nils]), (1, z5), (0, .box [iv hd, iv hb, .p (.sl A0 h.t0.length), .p (.sl [] 0), .p (.sl [] 0)])]⟩ = .ret (.normal, ⟨[(2, .ptr 1 0 0), (3, .ptr 2 0 0), (14, .agg [.p (.sl A0 h.t0.length), .p (.sl [] 0), .p (.sl [] 0)]), (15, iv 1)], [(4, .arr A0 (h.t0.length - 1) 2), (2, .box [iv hd, iv hb, .sl 4 (h.t0.length - 1) 0 h.t0.length, .p .nils, .p .nils]), (1, z5)]⟩) := by
  simp -implicitDefEqProofs [loopS_eq, c19L1]
  rw [i0]
  simp -implicitDefEqProofs [own_w1]
 have s1 : loopS (evFn F C0 G0 d) C0 G0 0 true [2, 3, 14, 15] c19L1 ⟨[(2, .ptr 1 0 0), (3, .ptr 2 0 0), (14, .agg [.p (.sl A0 h.t0.length), .p (.sl [] 0), .p (.sl [] 0)]), (15, iv 1)], [(4, .arr A0 (h.t0.length - 1) 2), (2, .box [iv hd, iv hb, .sl 4 (h.t0.length - 1) 0 h.t0.length, .p .nils, .p .nils]), (1, z5)]⟩ = .ret (.normal, ⟨[(2, .ptr 1 0 0), (3, .ptr 2 0 0), (14, .agg [.p (.sl A0 h.t0.length), .p (.sl [] 0), .p (.sl [] 0)]), (15, iv 2)], [(4, .arr A0 (h.t0.length - 1) 2), (2, .box [iv hd, iv hb, .sl 4 (h.t0.length - 1) 0 h.t0.length, .p .nils, .p .nils]), (1, z5)]⟩) := by
  simp -implicitDefEqProofs [loopS_eq, c19L1]
  have e : loopS (evFn F C0 G0 d) C0 G0 0 true [2, 3, 4, 14, 15, 19, 20, 21] c19L0 ⟨[(2, .ptr 1 0 0), (3, .ptr 2 0 0), (4, iv 1), (14, .agg [.p (.sl A0 h.t0.length), .p (.sl [] 0), .p (.sl [] 0)]), (15, iv 1), (19, .p (.sl [] 0)), (20, iv 0), (21, iv 0)], [(4, .arr A0 (h.t0.length - 1) 2), (2, .box [iv hd, iv hb, .sl 4 (h.t0.length - 1) 0 h.t0.length, .p .nils, .p .nils]), (1, z5)]⟩ = .ret (.exit 2, ⟨[(2, .ptr 1 0 0), (3, .ptr 2 0 0), (4, iv 1), (14, .agg [.p (.sl A0 h.t0.length), .p (.sl [] 0), .p (.sl [] 0)]), (15, iv 1), (19, .p (.sl [] 0)), (20, iv 0), (21, iv 0), (22, .p (.bool false))], [(4, .arr A0 (h.t0.length - 1) 2), (2, .box [iv hd, iv hb, .sl 4 (h.t0.length - 1) 0 h.t0.length, .p .nils, .p .nils]), (1, z5)]⟩) := by
   simp -implicitDefEqProofs [loopS_eq, c19L0]
  rw [loopN_end e (by simp) (by simp [loopFuel])]
  simp -implicitDefEqProofs [own_w2]
 have s2 : loopS (evFn F C0 G0 d) C0 G0 0 true [2, 3, 14, 15] c19L1 ⟨[(2, .ptr 1 0 0), (3, .ptr 2 0 0), (14, .agg [.p (.sl A0 h.t0.length), .p (.sl [] 0), .p (.sl [] 0)]), (15, iv 2)], [(4, .arr A0 (h.t0.length - 1) 2), (2, .box [iv hd, iv hb, .sl 4 (h.t0.length - 1) 0 h.t0.length, .p .nils, .p .nils]), (1, z5)]⟩ = .ret (.normal, ⟨[(2, .ptr 1 0 0), (3, .ptr 2 0 0), (14, .agg [.p (.sl A0 h.t0.length), .p (.sl [] 0), .p (.sl [] 0)]), (15, iv 3)], [(4, .arr A0 (h.t0.length - 1) 2), (2, .box [iv hd, iv hb, .sl 4 (h.t0.length - 1) 0 h.t0.length, .p .nils, .p .nils]), (1, z5)]⟩) := by
  simp -implicitDefEqProofs [loopS_eq, c19L1]
  have e : loopS (evFn F C0 G0 d) C0 G0 0 true [2, 3, 4, 14, 15, 19, 20, 21] c19L0 ⟨[(2, .ptr 1 0 0), (3, .ptr 2 0 0), (4, iv 2), (14, .agg [.p (.sl A0 h.t0.length), .p (.sl [] 0), .p (.sl [] 0)]), (15, iv 2), (19, .p (.sl [] 0)), (20, iv 0), (21, iv 0)], [(4, .arr A0 (h.t0.length - 1) 2), (2, .box [iv hd, iv hb, .sl 4 (h.t0.length - 1) 0 h.t0.length, .p .nils, .p .nils]), (1, z5)]⟩ = .ret (.exit 2, ⟨[(2, .ptr 1 0 0), (3, .ptr 2 0 0), (4, iv 2), (14, .agg [.p (.sl A0 h.t0.length), .p (.sl [] 0), .p (.sl [] 0)]), (15, iv 2), (19, .p (.sl [] 0)), (20, iv 0), (21, iv 0), (22, .p (.bool false))], [(4, .arr A0 (h.t0.length - 1) 2), (2, .box [iv hd, iv hb, .sl 4 (h.t0.length - 1) 0 h.t0.length, .p .nils, .p .nils]), (1, z5)]⟩) := by
   simp -implicitDefEqProofs [loopS_eq, c19L0]
  rw [loopN_end e (by simp) (by simp [loopFuel])]
  simp -implicitDefEqProofs [own_w3]
 have s3 : loopS (evFn F C0 G0 d) C0 G0 0 true [2, 3, 14, 15] c19L1 ⟨[(2, .ptr 1 0 0), (3, .ptr 2 0 0), (14, .agg [.p (.sl A0 h.t0.length), .p (.sl [] 0), .p (.sl [] 0)]), (15, iv 3)], [(4, .arr A0 (h.t0.length - 1) 2), (2, .box [iv hd, iv hb, .sl 4 (h.t0.length - 1) 0 h.t0.length, .p .nils, .p .nils]), (1, z5)]⟩ = .ret (.exit 0, ⟨[(2, .ptr 1 0 0), (3, .ptr 2 0 0), (14, .agg [.p (.sl A0 h.t0.length), .p (.sl [] 0), .p (.sl [] 0)]), (15, iv 3), (16, .p (.bool false))], [(4, .arr A0 (h.t0.length - 1) 2), (2, .box [iv hd, iv hb, .sl 4 (h.t0.length - 1) 0 h.t0.length, .p .nils, .p .nils]), (1, z5)]⟩) := by
  simp -implicitDefEqProofs [loopS_eq, c19L1]
 simp -implicitDefEqProofs [c19]
 rw [loopN_on s0 (by simp [loopFuel]), loopN_on s1 (by simp [loopFuel]), loopN_on s2 (by simp [loopFuel]), loopN_end s3 (by simp) (by simp [loopFuel])]
 simp -implicitDefEqProofs [l0]

theorem own19_tft {n : Nat} (hn : 1 ≤ n) (h : HallI) (g0 : h.t0.length < 1000000) (_g1 : h.t1.length < 1000000) (g2 : h.t2.length < 1000000) (h0 : 0 < h.t0.length) (h1 : h.t1 = []) (h2 : 0 < h.t2.length) : RUN n 19 [ha h] = .ret (ha h) := by
 obtain ⟨d, rfl⟩ : ∃ d, n = d + 1 := ⟨n - 1, by omega⟩
 rw [RUN, call_eq fe19 _ rfl]
 have i0 := in19_0 (d := d) h.t0 g0 h0 (.sl (cI h.t0) h.t0.length) (.sl [] 0) (.sl (cI h.t2) h.t2.length) h.doors h.base
 have l0 := lenA h.t0 h0
 have p0 : h.t0.length - 1 + 1 = h.t0.length := by omega
 have i2 := in19_2tf (d := d) h.t2 g2 h2 (.sl (cI h.t0) h.t0.length) (.sl [] 0) (.sl (cI h.t2) h.t2.length) h.doors h.base (cI h.t0) (h.t0.length - 1) h.t0.length
 have l2 := lenA h.t2 h2
 have p2 : h.t2.length - 1 + 1 = h.t2.length := by omega
 simp only [ha, csl, h1, show cI ([] : List (Int × Int)) = [] from rfl, List.length_nil]
 simp only [csl] at i0 i2
 generalize cI h.t0 = A0 at *
 generalize cI h.t2 = A2 at *
 generalize h.doors = hd at *
 generalize h.base = hb at *
 have s0 : loopS (evFn F C0 G0 d) C0 G0 0 true [2, 3, 14, 15] c19L1 ⟨[(2, .ptr 1 0 0), (3, .ptr 2 0 0), (14, .agg [.p (.sl A0 h.t0.length), .p (.sl [] 0), .p (.sl A2 h.t2.length)]), (15, iv 0)], [(2, .box [iv hd, iv hb, .p .nils, .p .nils, .p .nils]), (1, z5), (0, .box [iv hd, iv hb, .p (.sl A0 h.t0.length), .p (.sl [] 0), .p (.sl A2 h.t2.length)])]⟩ = .ret (.normal, ⟨[(2, .ptr 1 0 0), (3, .ptr 2 0 0), (14, .agg [.p (.sl A0 h.t0.length), .p (.sl [] 0), .p (.sl A2 h.t2.length)]), (15, iv 1)], [(4, .arr A0 (h.t0.length - 1) 2), (2, .box [iv hd, iv hb, .sl 4 (h.t0.length - 1) 0 h.t0.length, .p .nils, .p .nils]), (1, z5)]⟩) := by
  simp -implicitDefEqProofs [loopS_eq, c19L1]
  rw [i0]
  simp -implicitDefEqProofs [own_w1]
 have s1 : loopS (evFn F C0 G0 d) C0 G0 0 true [2, 3, 14, 15] c19L1 ⟨[(2, .ptr 1 0 0), (3, .ptr 2 0 0), (14, .agg [.p (.sl A0 h.t0.length), .p (.sl [] 0), .p (.sl A2 h.t2.length)]), (15, iv 1)], [(4, .arr A0 (h.t0.length - 1) 2), (2, .box [iv hd, iv hb, .sl 4 (h.t0.length - 1) 0 h.t0.length, .p .nils, .p .nils]), (1, z5)]⟩ = .ret (.normal, ⟨[(2, .ptr 1 0 0), (3, .ptr 2 0 0), (14, .agg [.p (.sl A0 h.t0.length), .p (.sl [] 0), .p (.sl A2 h.t2.length)]), (15, iv 2)], [(4, .arr A0 (h.t0.length - 1) 2), (2, .box [iv hd, iv hb, .sl 4 (h.t0.length - 1) 0 h.t0.length, .p .nils, .p .nils]), (1, z5)]⟩) := by
  simp -implicitDefEqProofs [loopS_eq, c19L1]
  have e : loopS (evFn F C0 G0 d) C0 G0 0 true [2, 3, 4, 14, 15, 19, 20, 21] c19L0 ⟨[(2, .ptr 1 0 0), (3, .ptr 2 0 0), (4, iv 1), (14, .agg [.p (.sl A0 h.t0.length), .p (.sl [] 0), .p (.sl A2 h.t2.length)]), (15, iv 1), (19, .p (.sl [] 0)), (20, iv 0), (21, iv 0)], [(4, .arr A0 (h.t0.length - 1) 2), (2, .box [iv hd, iv hb, .sl 4 (h.t0.length - 1) 0 h.t0.length, .p .nils, .p .nils]), (1, z5)]⟩ = .ret (.exit 2, ⟨[(2, .ptr 1 0 0), (3, .ptr 2 0 0), (4, iv 1), (14, .agg [.p (.sl A0 h.t0.length), .p (.sl [] 0), .p (.sl A2 h.t2.length)]), (15, iv 1), (19, .p (.sl [] 0)), (20, iv 0), (21, iv 0), (22, .p (.bool false))], [(4, .arr A0 (h.t0.length - 1) 2), (2, .box [iv hd, iv hb, .sl 4 (h.t0.length - 1) 0 h.t0.length, .p .nils, .p .nils]), (1, z5)]⟩) := by
   simp -implicitDefEqProofs [loopS_eq, c19L0]
  rw [loopN_end e (by simp) (by simp [loopFuel])]
  simp -implicitDefEqProofs [own_w2]
 have s2 : loopS (evFn F C0 G0 d) C0 G0 0 true [2, 3, 14, 15] c19L1 ⟨[(2, .ptr 1 0 0), (3, .ptr 2 0 0), (14, .agg [.p (.sl A0 h.t0.length), .p (.sl [] 0), .p (.sl A2 h.t2.length)]), (15, iv 2)], [(4, .arr A0 (h.t0.length - 1) 2), (2, .box [iv hd, iv hb, .sl 4 (h.t0.length - 1) 0 h.t0.length, .p .nils, .p .nils]), (1, z5)]⟩ = .ret (.normal, ⟨[(2, .ptr 1 0 0), (3, .ptr 2 0 0), (14, .agg [.p (.sl A0 h.t0.length), .p (.sl [] 0), .p (.sl A2 h.t2.length)]), (15, iv 3)], [(6, .arr A2 (h.t2.length - 1) 2), (4, .arr A0 (h.t0.length - 1) 2), (2, .box [iv hd, iv hb, .sl 4 (h.t0.length - 1) 0 h.t0.length, .p .nils, .sl 6 (h.t2.length - 1) 0 h.t2.length]), (1, z5)]⟩) := by
  simp -implicitDefEqProofs [loopS_eq, c19L1]
  rw [i2]
  simp -implicitDefEqProofs [own_w3]
 have s3 : loopS (evFn F C0 G0 d) C0 G0 0 true [2, 3, 14, 15] c19L1 ⟨[(2, .ptr 1 0 0), (3, .ptr 2 0 0), (14, .agg [.p (.sl A0 h.t0.length), .p (.sl [] 0), .p (.sl A2 h.t2.length)]), (15, iv 3)], [(6, .arr A2 (h.t2.length - 1) 2), (4, .arr A0 (h.t0.length - 1) 2), (2, .box [iv hd, iv hb, .sl 4 (h.t0.length - 1) 0 h.t0.length, .p .nils, .sl 6 (h.t2.length - 1) 0 h.t2.length]), (1, z5)]⟩ = .ret (.exit 0, ⟨[(2, .ptr 1 0 0), (3, .ptr 2 0 0), (14, .agg [.p (.sl A0 h.t0.length), .p (.sl [] 0), .p (.sl A2 h.t2.length)]), (15, iv 3), (16, .p (.bool false))], [(6, .arr A2 (h.t2.length - 1) 2), (4, .arr A0 (h.t0.length - 1) 2), (2, .box [iv hd, iv hb, .sl 4 (h.t0.length - 1) 0 h.t0.length, .p .nils, .sl 6 (h.t2.length - 1) 0 h.t2.length]), (1, z5)]⟩) := by
  simp -implicitDefEqProofs [loopS_eq, c19L1]
 simp -implicitDefEqProofs [c19]
 rw [loopN_on s0 (by simp [loopFuel]), loopN_on s1 (by simp [loopFuel]), loopN_on s2 (by simp [loopFuel]), loopN_end s3 (by simp) (by simp [loopFuel])]
 simp -implicitDefEqProofs [l0, l2]

theorem own19_ttf {n : Nat} (hn : 1 ≤ n) (h : HallI) (g0 : h.t0.length < 1000000) (g1 : h.t1.length < 1000000) (_g2 : h.t2.length < 1000000) (h0 : 0 < h.t0.length) (h1 : 0 < h.t1.length) (h2 : h.t2 = []) : RUN n 19 [ha h] = .ret (ha h) := by
 obtain ⟨d, rfl⟩ : ∃ d, n = d + 1 := ⟨n - 1, by omega⟩
 rw [RUN, call_eq fe19 _ rfl]
 have i0 := in19_0 (d := d) h.t0 g0 h0 (.sl (cI h.t0) h.t0.length) (.sl (cI h.t1) h.t1.length) (.sl [] 0) h.doors h.base
 have l0 := lenA h.t0 h0
 have p0 : h.t0.length - 1 + 1 = h.t0.length := by omega
 have i1 := in19_1t (d := d) h.t1 g1 h1 (.sl (cI h.t0) h.t0.length) (.sl (cI h.t1) h.t1.length) (.sl [] 0) h.doors h.base (cI h.t0) (h.t0.length - 1) h.t0.length
 have l1 := lenA h.t1 h1
 have p1 : h.t1.length - 1 + 1 = h.t1.length := by omega
 simp only [ha, csl, h2, show cI ([] : List (Int × Int)) = [] from rfl, List.length_nil]
 simp only [csl] at i0 i1
 generalize cI h.t0 = A0 at *
 generalize cI h.t1 = A1 at *
 generalize h.doors = hd at *
 generalize h.base = hb at *
 have s0 : loopS (evFn F C0 G0 d) C0 G0 0 true [2, 3, 14, 15] c19L1 ⟨[(2, .ptr 1 0 0), (3, .ptr 2 0 0), (14, .agg [.p (.sl A0 h.t0.length), .p (.sl A1 h.t1.length), .p (.sl [] 0)]), (15, iv 0)], [(2, .box [iv hd, iv hb, .p .nils, .p .nils, .p .nils]), (1, z5), (0, .box [iv hd, iv hb, .p (.sl A0 h.t0.length), .p (.sl A1 h.t1.length), .p (.sl [] 0)])]⟩ = .ret (.normal, ⟨[(2, .ptr 1 0 0), (3, .ptr 2 0 0), (14, .agg [.p (.sl A0 h.t0.length), .p (.sl A1 h.t1.length), .p (.sl [] 0)]), (15, iv 1)], [(4, .arr A0 (h.t0.length - 1) 2), (2, .box [iv hd, iv hb, .sl 4 (h.t0.length - 1) 0 h.t0.length, .p .nils, .p .nils]), (1, z5)]⟩) := by
  simp -implicitDefEqProofs [loopS_eq, c19L1]
  rw [i0]
  simp -implicitDefEqProofs [own_w1]
 have s1 : loopS (evFn F C0 G0 d) C0 G0 0 true [2, 3, 14, 15] c19L1 ⟨[(2, .ptr 1 0 0), (3, .ptr 2 0 0), (14, .agg [.p (.sl A0 h.t0.length), .p (.sl A1 h.t1.length), .p (.sl [] 0)]), (15, iv 1)], [(4, .arr A0 (h.t0.length - 1) 2), (2, .box [iv hd, iv hb, .sl 4 (h.t0.length - 1) 0 h.t0.length, .p .nils, .p .nils]), (1, z5)]⟩ = .ret (.normal, ⟨[(2, .ptr 1 0 0), (3, .ptr 2 0 0), (14, .agg [.p (.sl A0 h.t0.length), .p (.sl A1 h.t1.length), .p (.sl [] 0)]), (15, iv 2)], [(6, .arr A1 (h.t1.length - 1) 2), (4, .arr A0 (h.t0.length - 1) 2), (2, .box [iv hd, iv hb, .sl 4 (h.t0.length - 1) 0 h.t0.length, .sl 6 (h.t1.length - 1) 0 h.t1.length, .p .nils]), (1, z5)]⟩) := by
  simp -implicitDefEqProofs [loopS_eq, c19L1]
  rw [i1]
  simp -implicitDefEqProofs [own_w2]
 have s2 : loopS (evFn F C0 G0 d) C0 G0 0 true [2, 3, 14, 15] c19L1 ⟨[(2, .ptr 1 0 0), (3, .ptr 2 0 0), (14, .agg [.p (.sl A0 h.t0.length), .p (.sl A1 h.t1.length), .p (.sl [] 0)]), (15, iv 2)], [(6, .arr A1 (h.t1.length - 1) 2), (4, .arr A0 (h.t0.length - 1) 2), (2, .box [iv hd, iv hb, .sl 4 (h.t0.length - 1) 0 h.t0.length, .sl 6 (h.t1.length - 1) 0 h.t1.length, .p .nils]), (1, z5)]⟩ = .ret (.normal, ⟨[(2, .ptr 1 0 0), (3, .ptr 2 0 0), (14, .agg [.p (.sl A0 h.t0.length), .p (.sl A1 h.t1.length), .p (.sl [] 0)]), (15, iv 3)], [(6, .arr A1 (h.t1.length - 1) 2), (4, .arr A0 (h.t0.length - 1) 2), (2, .box [iv hd, iv hb, .sl 4 (h.t0.length - 1) 0 h.t0.length, .sl 6 (h.t1.length - 1) 0 h.t1.length, .p .nils]), (1, z5)]⟩) := by
  simp -implicitDefEqProofs [loopS_eq, c19L1]
  have e : loopS (evFn F C0 G0 d) C0 G0 0 true [2, 3, 4, 14, 15, 19, 20, 21] c19L0 ⟨[(2, .ptr 1 0 0), (3, .ptr 2 0 0), (4, iv 2), (14, .agg [.p (.sl A0 h.t0.length), .p (.sl A1 h.t1.length), .p (.sl [] 0)]), (15, iv 2), (19, .p (.sl [] 0)), (20, iv 0), (21, iv 0)], [(6, .arr A1 (h.t1.length - 1) 2), (4, .arr A0 (h.t0.length - 1) 2), (2, .box [iv hd, iv hb, .sl 4 (h.t0.length - 1) 0 h.t0.length, .sl 6 (h.t1.length - 1) 0 h.t1.length, .p .nils]), (1, z5)]⟩ = .ret (.exit 2, ⟨[(2, .ptr 1 0 0), (3, .ptr 2 0 0), (4, iv 2), (14, .agg [.p (.sl A0 h.t0.length), .p (.sl A1 h.t1.length), .p (.sl [] 0)]), (15, iv 2), (19, .p (.sl [] 0)), (20, iv 0), (21, iv 0), (22, .p (.bool false))], [(6, .arr A1 (h.t1.length - 1) 2), (4, .arr A0 (h.t0.length - 1) 2), (2, .box [iv hd, iv hb, .sl 4 (h.t0.length - 1) 0 h.t0.length, .sl 6 (h.t1.length - 1) 0 h.t1.length, .p .nils]), (1, z5)]⟩) := by
   simp -implicitDefEqProofs [loopS_eq, c19L0]
  rw [loopN_end e (by simp) (by simp [loopFuel])]
  simp -implicitDefEqProofs [own_w3]
 have s3 : loopS (evFn F C0 G0 d) C0 G0 0 true [2, 3, 14, 15] c19L1 ⟨[(2, .ptr 1 0 0), (3, .ptr 2 0 0), (14, .agg [.p (.sl A0 h.t0.length), .p (.sl A1 h.t1.length), .p (.sl [] 0)]), (15, iv 3)], [(6, .arr A1 (h.t1.length - 1) 2), (4, .arr A0 (h.t0.length - 1) 2), (2, .box [iv hd, iv hb, .sl 4 (h.t0.length - 1) 0 h.t0.length, .sl 6 (h.t1.length - 1) 0 h.t1.length, .p .nils]), (1, z5)]⟩ = .ret (.exit 0, ⟨[(2, .ptr 1 0 0), (3, .ptr 2 0 0), (14, .agg [.p (.sl A0 h.t0.length), .p (.sl A1 h.t1.length), .p (.sl [] 0)]), (15, iv 3), (16, .p (.bool false))], [(6, .arr A1 (h.t1.length - 1) 2), (4, .arr A0 (h.t0.length - 1) 2), (2, .box [iv hd, iv hb, .sl 4 (h.t0.length - 1) 0 h.t0.length, .sl 6 (h.t1.length - 1) 0 h.t1.length, .p .nils]), (1, z5)]⟩) := by
  simp -implicitDefEqProofs [loopS_eq, c19L1]
 simp -implicitDefEqProofs [c19]
 rw [loopN_on s0 (by simp [loopFuel]), loopN_on s1 (by simp [loopFuel]), loopN_on s2 (by simp [loopFuel]), loopN_end s3 (by simp) (by simp [loopFuel])]
 simp -implicitDefEqProofs [l0, l1]

theorem own19_ttt {n : Nat} (hn : 1 ≤ n) (h : HallI) (g0 : h.t0.length < 1000000) (g1 : h.t1.length < 1000000) (g2 : h.t2.length < 1000000) (h0 : 0 < h.t0.length) (h1 : 0 < h.t1.length) (h2 : 0 < h.t2.length) : RUN n 19 [ha h] = .ret (ha h) := by
 obtain ⟨d, rfl⟩ : ∃ d, n = d + 1 := ⟨n - 1, by omega⟩
 rw [RUN, call_eq fe19 _ rfl]
 have i0 := in19_0 (d := d) h.t0 g0 h0 (.sl (cI h.t0) h.t0.length) (.sl (cI h.t1) h.t1.length) (.sl (cI h.t2) h.t2.length) h.doors h.base
 have l0 := lenA h.t0 h0
 have p0 : h.t0.length - 1 + 1 = h.t0.length := by omega
 have i1 := in19_1t (d := d) h.t1 g1 h1 (.sl (cI h.t0) h.t0.length) (.sl (cI h.t1) h.t1.length) (.sl (cI h.t2) h.t2.length) h.doors h.base (cI h.t0) (h.t0.length - 1) h.t0.length
 have l1 := lenA h.t1 h1
 have p1 : h.t1.length - 1 + 1 = h.t1.length := by omega
 have i2 := in19_2tt (d := d) h.t2 g2 h2 (.sl (cI h.t0) h.t0.length) (.sl (cI h.t1) h.t1.length) (.sl (cI h.t2) h.t2.length) h.doors h.base (cI h.t0) (h.t0.length - 1) h.t0.length (cI h.t1) (h.t1.length - 1) h.t1.length
 have l2 := lenA h.t2 h2
 have p2 : h.t2.length - 1 + 1 = h.t2.length := by omega
 simp only [ha, csl]
 simp only [csl] at i0 i1 i2
 generalize cI h.t0 = A0 at *
 generalize cI h.t1 = A1 at *
 generalize cI h.t2 = A2 at *
 generalize h.doors = hd at *
 generalize h.base = hb at *
 have s0 : loopS (evFn F C0 G0 d) C0 G0 0 true [2, 3, 14, 15] c19L1 ⟨[(2, .ptr 1 0 0), (3, .ptr 2 0 0), (14, .agg [.p (.sl A0 h.t0.length), .p (.sl A1 h.t1.length), .p (.sl A2 h.t2.length)]), (15, iv 0)], [(2, .box [iv hd, iv hb, .p .nils, .p .nils, .p .nils]), (1, z5), (0, .box [iv hd, iv hb, .p (.sl A0 h.t0.length), .p (.sl A1 h.t1.length), .p (.sl A2 h.t2.length)])]⟩ = .ret (.normal, ⟨[(2, .ptr 1 0 0), (3, .ptr 2 0 0), (14, .agg [.p (.sl A0 h.t0.length), .p (.sl A1 h.t1.length), .p (.sl A2 h.t2.length)]), (15, iv 1)], [(4, .arr A0 (h.t0.length - 1) 2), (2, .box [iv hd, iv hb, .sl 4 (h.t0.length - 1) 0 h.t0.length, .p .nils, .p .nils]), (1, z5)]⟩) := by
  simp -implicitDefEqProofs [loopS_eq, c19L1]
  rw [i0]
  simp -implicitDefEqProofs [own_w1]
 have s1 : loopS (evFn F C0 G0 d) C0 G0 0 true [2, 3, 14, 15] c19L1 ⟨[(2, .ptr 1 0 0), (3, .ptr 2 0 0), (14, .agg [.p (.sl A0 h.t0.length), .p (.sl A1 h.t1.length), .p (.sl A2 h.t2.length)]), (15, iv 1)], [(4, .arr A0 (h.t0.length - 1) 2), (2, .box [iv hd, iv hb, .sl 4 (h.t0.length - 1) 0 h.t0.length, .p .nils, .p .nils]), (1, z5)]⟩ = .ret (.normal, ⟨[(2, .ptr 1 0 0), (3, .ptr 2 0 0), (14, .agg [.p (.sl A0 h.t0.length), .p (.sl A1 h.t1.length), .p (.sl A2 h.t2.length)]), (15, iv 2)], [(6, .arr A1 (h.t1.length - 1) 2), (4, .arr A0 (h.t0.length - 1) 2), (2, .box [iv hd, iv hb, .sl 4 (h.t0.length - 1) 0 h.t0.length, .sl 6 (h.t1.length - 1) 0 h.t1.length, .p .nils]), (1, z5)]⟩) := by
  simp -implicitDefEqProofs [loopS_eq, c19L1]
  rw [i1]
  simp -implicitDefEqProofs [own_w2]
 have s2 : loopS (evFn F C0 G0 d) C0 G0 0 true [2, 3, 14, 15] c19L1 ⟨[(2, .ptr 1 0 0), (3, .ptr 2 0 0), (14, .agg [.p (.sl A0 h.t0.length), .p (.sl A1 h.t1.length), .p (.sl A2 h.t2.length)]), (15, iv 2)], [(6, .arr A1 (h.t1.length - 1) 2), (4, .arr A0 (h.t0.length - 1) 2), (2, .box [iv hd, iv hb, .sl 4 (h.t0.length - 1) 0 h.t0.length, .sl 6 (h.t1.length - 1) 0 h.t1.length, .p .nils]), (1, z5)]⟩ = .ret (.normal, ⟨[(2, .ptr 1 0 0), (3, .ptr 2 0 0), (14, .agg [.p (.sl A0 h.t0.length), .p (.sl A1 h.t1.length), .p (.sl A2 h.t2.length)]), (15, iv 3)], [(8, .arr A2 (h.t2.length - 1) 2), (6, .arr A1 (h.t1.length - 1) 2), (4, .arr A0 (h.t0.length - 1) 2), (2, .box [iv hd, iv hb, .sl 4 (h.t0.length - 1) 0 h.t0.length, .sl 6 (h.t1.length - 1) 0 h.t1.length, .sl 8 (h.t2.length - 1) 0 h.t2.length]), (1, z5)]⟩) := by
  simp -implicitDefEqProofs [loopS_eq, c19L1]
  rw [i2]
  simp -implicitDefEqProofs [own_w3]
 have s3 : loopS (evFn F C0 G0 d) C0 G0 0 true [2, 3, 14, 15] c19L1 ⟨[(2, .ptr 1 0 0), (3, .ptr 2 0 0), (14, .agg [.p (.sl A0 h.t0.length), .p (.sl A1 h.t1.length), .p (.sl A2 h.t2.length)]), (15, iv 3)], [(8, .arr A2 (h.t2.length - 1) 2), (6, .arr A1 (h.t1.length - 1) 2), (4, .arr A0 (h.t0.length - 1) 2), (2, .box [iv hd, iv hb, .sl 4 (h.t0.length - 1) 0 h.t0.length, .sl 6 (h.t1.length - 1) 0 h.t1.length, .sl 8 (h.t2.length - 1) 0 h.t2.length]), (1, z5)]⟩ = .ret (.exit 0, ⟨[(2, .ptr 1 0 0), (3, .ptr 2 0 0), (14, .agg [.p (.sl A0 h.t0.length), .p (.sl A1 h.t1.length), .p (.sl A2 h.t2.length)]), (15, iv 3), (16, .p (.bool false))], [(8, .arr A2 (h.t2.length - 1) 2), (6, .arr A1 (h.t1.length - 1) 2), (4, .arr A0 (h.t0.length - 1) 2), (2, .box [iv hd, iv hb, .sl 4 (h.t0.length - 1) 0 h.t0.length, .sl 6 (h.t1.length - 1) 0 h.t1.length, .sl 8 (h.t2.length - 1) 0 h.t2.length]), (1, z5)]⟩) := by
  simp -implicitDefEqProofs [loopS_eq, c19L1]
 simp -implicitDefEqProofs [c19]
 rw [loopN_on s0 (by simp [loopFuel]), loopN_on s1 (by simp [loopFuel]), loopN_on s2 (by simp [loopFuel]), loopN_end s3 (by simp) (by simp [loopFuel])]
 simp -implicitDefEqProofs [l0, l1, l2]

theorem own19 {n : Nat} (hn : 1 ≤ n) (h : HallI) (g0 : h.t0.length < 1000000) (g1 : h.t1.length < 1000000) (g2 : h.t2.length < 1000000) : RUN n 19 [ha h] = .ret (ha h) := by
 have key : ∀ l : List (Int × Int), l = [] ∨ 0 < l.length := fun l => by cases l <;> simp
 rcases key h.t0 with a | a <;> rcases key h.t1 with b | b <;> rcases key h.t2 with c | c

 ·exact own19_fff hn h g0 g1 g2 a b c
 ·exact own19_fft hn h g0 g1 g2 a b c
 ·exact own19_ftf hn h g0 g1 g2 a b c
 ·exact own19_ftt hn h g0 g1 g2 a b c
 ·exact own19_tff hn h g0 g1 g2 a b c
 ·exact own19_tft hn h g0 g1 g2 a b c
 ·exact own19_ttf hn h g0 g1 g2 a b c
 ·exact own19_ttt hn h g0 g1 g2 a b c
end Fw
end

