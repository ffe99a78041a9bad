/- Halls: a hall with tables of its own (printed by gen19.py). -/
import Derived.Test.YtdjkleaojdeepaaGreatDoorGaH4
set_option maxHeartbeats 16000000
namespace Fw
open Go
attribute [local irreducible] evCode evOps evOpsD evOper evOperD evOp evFn loopN T.All T.bind callPure callOp opsK opsDK restK seqK blockK loopS setK setQ giveK scalK gcK finish finS rfunK yldK yldB loopK

theorem cI_take (l : List (Int × Int)) (i : Nat) (hi : i < l.length) : cI (l.take (i + 1)) = cI (l.take i) ++ [.int .i64 l[i].1, .int .i64 l[i].2] := by
  rw [← List.take_append_getElem hi, cI_append]; rfl

abbrev z5 : Obj := .box [iv 0, iv 0, .p .nils, .p .nils, .p .nils]

theorem in19_0 {d : Nat} (l : List (Int × Int)) (hl : l.length < 1000000) (h0 : 0 < l.length) (x y z : PVal) (hd hb : Int) :
    loopN (loopS (evFn F C0 G0 d) C0 G0 0 true [2, 3, 4, 14, 15, 19, 20, 21] c19L0) loopFuel ⟨[(2, .ptr 1 0 0), (3, .ptr 2 0 0), (4, iv 0), (14, .agg [.p x, .p y, .p z]), (15, iv 0), (19, csl l), (20, iv l.length), (21, iv 0)], [(2, .box [iv hd, iv hb, .p .nils, .p .nils, .p .nils]), (1, z5)]⟩ =
    .ret (.exit 2, ⟨[(2, .ptr 1 0 0), (3, .ptr 2 0 0), (4, iv 0), (14, .agg [.p x, .p y, .p z]), (15, iv 0), (19, csl l), (20, iv l.length), (21, iv l.length), (22, .p (.bool false))], [(4, .arr (cI l) (l.length - 1) 2), (2, .box [iv hd, iv hb, .sl 4 (l.length - 1) 0 l.length, .p .nils, .p .nils]), (1, z5)]⟩) := by
  have htl : l.take l.length = l := List.take_of_length_le (by omega)
  have := loop_run' (step := loopS (evFn F C0 G0 d) C0 G0 0 true [2, 3, 4, 14, 15, 19, 20, 21] c19L0) (fun i => if i = 0 then ⟨[(2, .ptr 1 0 0), (3, .ptr 2 0 0), (4, iv 0), (14, .agg [.p x, .p y, .p z]), (15, iv 0), (19, csl l), (20, iv l.length), (21, iv 0)], [(2, .box [iv hd, iv hb, .p .nils, .p .nils, .p .nils]), (1, z5)]⟩ else ⟨[(2, .ptr 1 0 0), (3, .ptr 2 0 0), (4, iv 0), (14, .agg [.p x, .p y, .p z]), (15, iv 0), (19, csl l), (20, iv l.length), (21, iv i)], [(4, .arr (cI (l.take i)) (i - 1) 2), (2, .box [iv hd, iv hb, .sl 4 (i - 1) 0 i, .p .nils, .p .nils]), (1, z5)]⟩) l.length (e := .exit 2) (st' := ⟨[(2, .ptr 1 0 0), (3, .ptr 2 0 0), (4, iv 0), (14, .agg [.p x, .p y, .p z]), (15, iv 0), (19, csl l), (20, iv l.length), (21, iv l.length), (22, .p (.bool false))], [(4, .arr (cI l) (l.length - 1) 2), (2, .box [iv hd, iv hb, .sl 4 (l.length - 1) 0 l.length, .p .nils, .p .nils]), (1, z5)]⟩) (st0 := ⟨[(2, .ptr 1 0 0), (3, .ptr 2 0 0), (4, iv 0), (14, .agg [.p x, .p y, .p z]), (15, iv 0), (19, csl l), (20, iv l.length), (21, iv 0)], [(2, .box [iv hd, iv hb, .p .nils, .p .nils, .p .nils]), (1, z5)]⟩) (by simp) rfl (fun i hi => by
    have hx := cI_drop l i hi
    have hlt : i * 2 < l.length * 2 := by omega
    have wi := wrap_succ (i := i) (by omega)
    have hcl := cI_length l
    have htk := cI_take l i hi
    have hct := cI_length (l.take i)
    have hti : (l.take i).length = i := by simp; omega
    rw [hti] at hct
    have hlim : i + 1 ≤ lim := by simp only [lim]; omega
    simp only [csl]
    by_cases c0 : i = 0
    · subst c0
      have w0 : IntKind.i64.wrap 1 = 1 := by decide
      have e1 : cI (l.take (0 + 1)) = [.int .i64 l[0].1, .int .i64 l[0].2] := by rw [htk]; rfl
      simp only [Nat.zero_mul, List.drop_zero] at hx
      rw [if_pos rfl, if_neg (by omega)]
      rw [e1]
      generalize cI (l.drop (0 + 1)) = R2 at *
      generalize cI l = A at *
      generalize l[0] = s at *
      have hlim1 : 1 ≤ lim := by decide
      refine ⟨?_, ?h1, ?h2⟩
      case h1 =>
        simp -implicitDefEqProofs [loopS_eq, c19L0, stOp, fresh, hi, hx, w0, hlim1]
        exact rfl
      case h2 => exact loopS_same (by simp [hx]) (by simp [hx])
    · obtain ⟨j, rfl⟩ : ∃ j, i = j + 1 := ⟨i - 1, by omega⟩
      rw [if_neg c0, if_neg (by omega), htk]
      have ej : j + 1 - 1 = j := rfl
      have ej2 : j + 1 + 1 - 1 = j + 1 := rfl
      rw [ej, ej2]
      generalize cI (l.drop (j + 1 + 1)) = R2 at *
      generalize cI (l.take (j + 1)) = C at *
      generalize cI l = A at *
      generalize l[j + 1] = s at *
      generalize hij : j + 1 = i at *
      refine ⟨?_, ?h1, ?h2⟩
      case h1 =>
        simp -implicitDefEqProofs [loopS_eq, c19L0, stOp, fresh, hi, hx, hlt, hcl, hct, wi, hlim]
        exact rfl
      case h2 => exact loopS_same (by simp []) (by simp [hij])) (by
    rw [if_neg (by omega), htl]
    simp -implicitDefEqProofs [loopS_eq, c19L0]) (fuel := loopFuel) (by simp [loopFuel]; omega)
  exact this

theorem in19_1f {d : Nat} (l : List (Int × Int)) (hl : l.length < 1000000) (h0 : 0 < l.length) (x y z : PVal) (hd hb : Int) :
    loopN (loopS (evFn F C0 G0 d) C0 G0 0 true [2, 3, 4, 14, 15, 19, 20, 21] c19L0) loopFuel ⟨[(2, .ptr 1 0 0), (3, .ptr 2 0 0), (4, iv 1), (14, .agg [.p x, .p y, .p z]), (15, iv 1), (19, csl l), (20, iv l.length), (21, iv 0)], [(2, .box [iv hd, iv hb, .p .nils, .p .nils, .p .nils]), (1, z5)]⟩ =
    .ret (.exit 2, ⟨[(2, .ptr 1 0 0), (3, .ptr 2 0 0), (4, iv 1), (14, .agg [.p x, .p y, .p z]), (15, iv 1), (19, csl l), (20, iv l.length), (21, iv l.length), (22, .p (.bool false))], [(4, .arr (cI l) (l.length - 1) 2), (2, .box [iv hd, iv hb, .p .nils, .sl 4 (l.length - 1) 0 l.length, .p .nils]), (1, z5)]⟩) := by
  have htl : l.take l.length = l := List.take_of_length_le (by omega)
  have := loop_run' (step := loopS (evFn F C0 G0 d) C0 G0 0 true [2, 3, 4, 14, 15, 19, 20, 21] c19L0) (fun i => if i = 0 then ⟨[(2, .ptr 1 0 0), (3, .ptr 2 0 0), (4, iv 1), (14, .agg [.p x, .p y, .p z]), (15, iv 1), (19, csl l), (20, iv l.length), (21, iv 0)], [(2, .box [iv hd, iv hb, .p .nils, .p .nils, .p .nils]), (1, z5)]⟩ else ⟨[(2, .ptr 1 0 0), (3, .ptr 2 0 0), (4, iv 1), (14, .agg [.p x, .p y, .p z]), (15, iv 1), (19, csl l), (20, iv l.length), (21, iv i)], [(4, .arr (cI (l.take i)) (i - 1) 2), (2, .box [iv hd, iv hb, .p .nils, .sl 4 (i - 1) 0 i, .p .nils]), (1, z5)]⟩) l.length (e := .exit 2) (st' := ⟨[(2, .ptr 1 0 0), (3, .ptr 2 0 0), (4, iv 1), (14, .agg [.p x, .p y, .p z]), (15, iv 1), (19, csl l), (20, iv l.length), (21, iv l.length), (22, .p (.bool false))], [(4, .arr (cI l) (l.length - 1) 2), (2, .box [iv hd, iv hb, .p .nils, .sl 4 (l.length - 1) 0 l.length, .p .nils]), (1, z5)]⟩) (st0 := ⟨[(2, .ptr 1 0 0), (3, .ptr 2 0 0), (4, iv 1), (14, .agg [.p x, .p y, .p z]), (15, iv 1), (19, csl l), (20, iv l.length), (21, iv 0)], [(2, .box [iv hd, iv hb, .p .nils, .p .nils, .p .nils]), (1, z5)]⟩) (by simp) rfl (fun i hi => by
    have hx := cI_drop l i hi
    have hlt : i * 2 < l.length * 2 := by omega
    have wi := wrap_succ (i := i) (by omega)
    have hcl := cI_length l
    have htk := cI_take l i hi
    have hct := cI_length (l.take i)
    have hti : (l.take i).length = i := by simp; omega
    rw [hti] at hct
    have hlim : i + 1 ≤ lim := by simp only [lim]; omega
    simp only [csl]
    by_cases c0 : i = 0
    · subst c0
      have w0 : IntKind.i64.wrap 1 = 1 := by decide
      have e1 : cI (l.take (0 + 1)) = [.int .i64 l[0].1, .int .i64 l[0].2] := by rw [htk]; rfl
      simp only [Nat.zero_mul, List.drop_zero] at hx
      rw [if_pos rfl, if_neg (by omega)]
      rw [e1]
      generalize cI (l.drop (0 + 1)) = R2 at *
      generalize cI l = A at *
      generalize l[0] = s at *
      have hlim1 : 1 ≤ lim := by decide
      refine ⟨?_, ?h1, ?h2⟩
      case h1 =>
        simp -implicitDefEqProofs [loopS_eq, c19L0, stOp, fresh, hi, hx, w0, hlim1]
        exact rfl
      case h2 => exact loopS_same (by simp [hx]) (by simp [hx])
    · obtain ⟨j, rfl⟩ : ∃ j, i = j + 1 := ⟨i - 1, by omega⟩
      rw [if_neg c0, if_neg (by omega), htk]
      have ej : j + 1 - 1 = j := rfl
      have ej2 : j + 1 + 1 - 1 = j + 1 := rfl
      rw [ej, ej2]
      generalize cI (l.drop (j + 1 + 1)) = R2 at *
      generalize cI (l.take (j + 1)) = C at *
      generalize cI l = A at *
      generalize l[j + 1] = s at *
      generalize hij : j + 1 = i at *
      refine ⟨?_, ?h1, ?h2⟩
      case h1 =>
        simp -implicitDefEqProofs [loopS_eq, c19L0, stOp, fresh, hi, hx, hlt, hcl, hct, wi, hlim]
        exact rfl
      case h2 => exact loopS_same (by simp []) (by simp [hij])) (by
    rw [if_neg (by omega), htl]
    simp -implicitDefEqProofs [loopS_eq, c19L0]) (fuel := loopFuel) (by simp [loopFuel]; omega)
  exact this

theorem in19_1t {d : Nat} (l : List (Int × Int)) (hl : l.length < 1000000) (h0 : 0 < l.length) (x y z : PVal) (hd hb : Int) (A0 : List PVal) (v0 n0 : Nat) :
    loopN (loopS (evFn F C0 G0 d) C0 G0 0 true [2, 3, 4, 14, 15, 19, 20, 21] c19L0) loopFuel ⟨[(2, .ptr 1 0 0), (3, .ptr 2 0 0), (4, iv 1), (14, .agg [.p x, .p y, .p z]), (15, iv 1), (19, csl l), (20, iv l.length), (21, iv 0)], [(4, .arr A0 v0 2), (2, .box [iv hd, iv hb, .sl 4 v0 0 n0, .p .nils, .p .nils]), (1, z5)]⟩ =
    .ret (.exit 2, ⟨[(2, .ptr 1 0 0), (3, .ptr 2 0 0), (4, iv 1), (14, .agg [.p x, .p y, .p z]), (15, iv 1), (19, csl l), (20, iv l.length), (21, iv l.length), (22, .p (.bool false))], [(6, .arr (cI l) (l.length - 1) 2), (4, .arr A0 v0 2), (2, .box [iv hd, iv hb, .sl 4 v0 0 n0, .sl 6 (l.length - 1) 0 l.length, .p .nils]), (1, z5)]⟩) := by
  have htl : l.take l.length = l := List.take_of_length_le (by omega)
  have := loop_run' (step := loopS (evFn F C0 G0 d) C0 G0 0 true [2, 3, 4, 14, 15, 19, 20, 21] c19L0) (fun i => if i = 0 then ⟨[(2, .ptr 1 0 0), (3, .ptr 2 0 0), (4, iv 1), (14, .agg [.p x, .p y, .p z]), (15, iv 1), (19, csl l), (20, iv l.length), (21, iv 0)], [(4, .arr A0 v0 2), (2, .box [iv hd, iv hb, .sl 4 v0 0 n0, .p .nils, .p .nils]), (1, z5)]⟩ else ⟨[(2, .ptr 1 0 0), (3, .ptr 2 0 0), (4, iv 1), (14, .agg [.p x, .p y, .p z]), (15, iv 1), (19, csl l), (20, iv l.length), (21, iv i)], [(6, .arr (cI (l.take i)) (i - 1) 2), (4, .arr A0 v0 2), (2, .box [iv hd, iv hb, .sl 4 v0 0 n0, .sl 6 (i - 1) 0 i, .p .nils]), (1, z5)]⟩) l.length (e := .exit 2) (st' := ⟨[(2, .ptr 1 0 0), (3, .ptr 2 0 0), (4, iv 1), (14, .agg [.p x, .p y, .p z]), (15, iv 1), (19, csl l), (20, iv l.length), (21, iv l.length), (22, .p (.bool false))], [(6, .arr (cI l) (l.length - 1) 2), (4, .arr A0 v0 2), (2, .box [iv hd, iv hb, .sl 4 v0 0 n0, .sl 6 (l.length - 1) 0 l.length, .p .nils]), (1, z5)]⟩) (st0 := ⟨[(2, .ptr 1 0 0), (3, .ptr 2 0 0), (4, iv 1), (14, .agg [.p x, .p y, .p z]), (15, iv 1), (19, csl l), (20, iv l.length), (21, iv 0)], [(4, .arr A0 v0 2), (2, .box [iv hd, iv hb, .sl 4 v0 0 n0, .p .nils, .p .nils]), (1, z5)]⟩) (by simp) rfl (fun i hi => by
    have hx := cI_drop l i hi
    have hlt : i * 2 < l.length * 2 := by omega
    have wi := wrap_succ (i := i) (by omega)
    have hcl := cI_length l
    have htk := cI_take l i hi
    have hct := cI_length (l.take i)
    have hti : (l.take i).length = i := by simp; omega
    rw [hti] at hct
    have hlim : i + 1 ≤ lim := by simp only [lim]; omega
    simp only [csl]
    by_cases c0 : i = 0
    · subst c0
      have w0 : IntKind.i64.wrap 1 = 1 := by decide
      have e1 : cI (l.take (0 + 1)) = [.int .i64 l[0].1, .int .i64 l[0].2] := by rw [htk]; rfl
      simp only [Nat.zero_mul, List.drop_zero] at hx
      rw [if_pos rfl, if_neg (by omega)]
      rw [e1]
      generalize cI (l.drop (0 + 1)) = R2 at *
      generalize cI l = A at *
      generalize l[0] = s at *
      have hlim1 : 1 ≤ lim := by decide
      refine ⟨?_, ?h1, ?h2⟩
      case h1 =>
        simp -implicitDefEqProofs [loopS_eq, c19L0, stOp, fresh, hi, hx, w0, hlim1]
        exact rfl
      case h2 => exact loopS_same (by simp [hx]) (by simp [hx])
    · obtain ⟨j, rfl⟩ : ∃ j, i = j + 1 := ⟨i - 1, by omega⟩
      rw [if_neg c0, if_neg (by omega), htk]
      have ej : j + 1 - 1 = j := rfl
      have ej2 : j + 1 + 1 - 1 = j + 1 := rfl
      rw [ej, ej2]
      generalize cI (l.drop (j + 1 + 1)) = R2 at *
      generalize cI (l.take (j + 1)) = C at *
      generalize cI l = A at *
      generalize l[j + 1] = s at *
      generalize hij : j + 1 = i at *
      refine ⟨?_, ?h1, ?h2⟩
      case h1 =>
        simp -implicitDefEqProofs [loopS_eq, c19L0, stOp, fresh, hi, hx, hlt, hcl, hct, wi, hlim]
        exact rfl
      case h2 => exact loopS_same (by simp []) (by simp [hij])) (by
    rw [if_neg (by omega), htl]
    simp -implicitDefEqProofs [loopS_eq, c19L0]) (fuel := loopFuel) (by simp [loopFuel]; omega)
  exact this

theorem in19_2ff {d : Nat} (l : List (Int × Int)) (hl : l.length < 1000000) (h0 : 0 < l.length) (x y z : PVal) (hd hb : Int) :
    loopN (loopS (evFn F C0 G0 d) C0 G0 0 true [2, 3, 4, 14, 15, 19, 20, 21] c19L0) loopFuel ⟨[(2, .ptr 1 0 0), (3, .ptr 2 0 0), (4, iv 2), (14, .agg [.p x, .p y, .p z]), (15, iv 2), (19, csl l), (20, iv l.length), (21, iv 0)], [(2, .box [iv hd, iv hb, .p .nils, .p .nils, .p .nils]), (1, z5)]⟩ =
    .ret (.exit 2, ⟨[(2, .ptr 1 0 0), (3, .ptr 2 0 0), (4, iv 2), (14, .agg [.p x, .p y, .p z]), (15, iv 2), (19, csl l), (20, iv l.length), (21, iv l.length), (22, .p (.bool false))], [(4, .arr (cI l) (l.length - 1) 2), (2, .box [iv hd, iv hb, .p .nils, .p .nils, .sl 4 (l.length - 1) 0 l.length]), (1, z5)]⟩) := by
  have htl : l.take l.length = l := List.take_of_length_le (by omega)
  have := loop_run' (step := loopS (evFn F C0 G0 d) C0 G0 0 true [2, 3, 4, 14, 15, 19, 20, 21] c19L0) (fun i => if i = 0 then ⟨[(2, .ptr 1 0 0), (3, .ptr 2 0 0), (4, iv 2), (14, .agg [.p x, .p y, .p z]), (15, iv 2), (19, csl l), (20, iv l.length), (21, iv 0)], [(2, .box [iv hd, iv hb, .p .nils, .p .nils, .p .nils]), (1, z5)]⟩ else ⟨[(2, .ptr 1 0 0), (3, .ptr 2 0 0), (4, iv 2), (14, .agg [.p x, .p y, .p z]), (15, iv 2), (19, csl l), (20, iv l.length), (21, iv i)], [(4, .arr (cI (l.take i)) (i - 1) 2), (2, .box [iv hd, iv hb, .p .nils, .p .nils, .sl 4 (i - 1) 0 i]), (1, z5)]⟩) l.length (e := .exit 2) (st' := ⟨[(2, .ptr 1 0 0), (3, .ptr 2 0 0), (4, iv 2), (14, .agg [.p x, .p y, .p z]), (15, iv 2), (19, csl l), (20, iv l.length), (21, iv l.length), (22, .p (.bool false))], [(4, .arr (cI l) (l.length - 1) 2), (2, .box [iv hd, iv hb, .p .nils, .p .nils, .sl 4 (l.length - 1) 0 l.length]), (1, z5)]⟩) (st0 := ⟨[(2, .ptr 1 0 0), (3, .ptr 2 0 0), (4, iv 2), (14, .agg [.p x, .p y, .p z]), (15, iv 2), (19, csl l), (20, iv l.length), (21, iv 0)], [(2, .box [iv hd, iv hb, .p .nils, .p .nils, .p .nils]), (1, z5)]⟩) (by simp) rfl (fun i hi => by
    have hx := cI_drop l i hi
    have hlt : i * 2 < l.length * 2 := by omega
    have wi := wrap_succ (i := i) (by omega)
    have hcl := cI_length l
    have htk := cI_take l i hi
    have hct := cI_length (l.take i)
    have hti : (l.take i).length = i := by simp; omega
    rw [hti] at hct
    have hlim : i + 1 ≤ lim := by simp only [lim]; omega
    simp only [csl]
    by_cases c0 : i = 0
    · subst c0
      have w0 : IntKind.i64.wrap 1 = 1 := by decide
      have e1 : cI (l.take (0 + 1)) = [.int .i64 l[0].1, .int .i64 l[0].2] := by rw [htk]; rfl
      simp only [Nat.zero_mul, List.drop_zero] at hx
      rw [if_pos rfl, if_neg (by omega)]
      rw [e1]
      generalize cI (l.drop (0 + 1)) = R2 at *
      generalize cI l = A at *
      generalize l[0] = s at *
      have hlim1 : 1 ≤ lim := by decide
      refine ⟨?_, ?h1, ?h2⟩
      case h1 =>
        simp -implicitDefEqProofs [loopS_eq, c19L0, stOp, fresh, hi, hx, w0, hlim1]
        exact rfl
      case h2 => exact loopS_same (by simp [hx]) (by simp [hx])
    · obtain ⟨j, rfl⟩ : ∃ j, i = j + 1 := ⟨i - 1, by omega⟩
      rw [if_neg c0, if_neg (by omega), htk]
      have ej : j + 1 - 1 = j := rfl
      have ej2 : j + 1 + 1 - 1 = j + 1 := rfl
      rw [ej, ej2]
      generalize cI (l.drop (j + 1 + 1)) = R2 at *
      generalize cI (l.take (j + 1)) = C at *
      generalize cI l = A at *
      generalize l[j + 1] = s at *
      generalize hij : j + 1 = i at *
      refine ⟨?_, ?h1, ?h2⟩
      case h1 =>
        simp -implicitDefEqProofs [loopS_eq, c19L0, stOp, fresh, hi, hx, hlt, hcl, hct, wi, hlim]
        exact rfl
      case h2 => exact loopS_same (by simp []) (by simp [hij])) (by
    rw [if_neg (by omega), htl]
    simp -implicitDefEqProofs [loopS_eq, c19L0]) (fuel := loopFuel) (by simp [loopFuel]; omega)
  exact this

theorem in19_2ft {d : Nat} (l : List (Int × Int)) (hl : l.length < 1000000) (h0 : 0 < l.length) (x y z : PVal) (hd hb : Int) (A1 : List PVal) (v1 n1 : Nat) :
    loopN (loopS (evFn F C0 G0 d) C0 G0 0 true [2, 3, 4, 14, 15, 19, 20, 21] c19L0) loopFuel ⟨[(2, .ptr 1 0 0), (3, .ptr 2 0 0), (4, iv 2), (14, .agg [.p x, .p y, .p z]), (15, iv 2), (19, csl l), (20, iv l.length), (21, iv 0)], [(4, .arr A1 v1 2), (2, .box [iv hd, iv hb, .p .nils, .sl 4 v1 0 n1, .p .nils]), (1, z5)]⟩ =
    .ret (.exit 2, ⟨[(2, .ptr 1 0 0), (3, .ptr 2 0 0), (4, iv 2), (14, .agg [.p x, .p y, .p z]), (15, iv 2), (19, csl l), (20, iv l.length), (21, iv l.length), (22, .p (.bool false))], [(6, .arr (cI l) (l.length - 1) 2), (4, .arr A1 v1 2), (2, .box [iv hd, iv hb, .p .nils, .sl 4 v1 0 n1, .sl 6 (l.length - 1) 0 l.length]), (1, z5)]⟩) := by
  have htl : l.take l.length = l := List.take_of_length_le (by omega)
  have := loop_run' (step := loopS (evFn F C0 G0 d) C0 G0 0 true [2, 3, 4, 14, 15, 19, 20, 21] c19L0) (fun i => if i = 0 then ⟨[(2, .ptr 1 0 0), (3, .ptr 2 0 0), (4, iv 2), (14, .agg [.p x, .p y, .p z]), (15, iv 2), (19, csl l), (20, iv l.length), (21, iv 0)], [(4, .arr A1 v1 2), (2, .box [iv hd, iv hb, .p .nils, .sl 4 v1 0 n1, .p .nils]), (1, z5)]⟩ else ⟨[(2, .ptr 1 0 0), (3, .ptr 2 0 0), (4, iv 2), (14, .agg [.p x, .p y, .p z]), (15, iv 2), (19, csl l), (20, iv l.length), (21, iv i)], [(6, .arr (cI (l.take i)) (i - 1) 2), (4, .arr A1 v1 2), (2, .box [iv hd, iv hb, .p .nils, .sl 4 v1 0 n1, .sl 6 (i - 1) 0 i]), (1, z5)]⟩) l.length (e := .exit 2) (st' := ⟨[(2, .ptr 1 0 0), (3, .ptr 2 0 0), (4, iv 2), (14, .agg [.p x, .p y, .p z]), (15, iv 2), (19, csl l), (20, iv l.length), (21, iv l.length), (22, .p (.bool false))], [(6, .arr (cI l) (l.length - 1) 2), (4, .arr A1 v1 2), (2, .box [iv hd, iv hb, .p .nils, .sl 4 v1 0 n1, .sl 6 (l.length - 1) 0 l.length]), (1, z5)]⟩) (st0 := ⟨[(2, .ptr 1 0 0), (3, .ptr 2 0 0), (4, iv 2), (14, .agg [.p x, .p y, .p z]), (15, iv 2), (19, csl l), (20, iv l.length), (21, iv 0)], [(4, .arr A1 v1 2), (2, .box [iv hd, iv hb, .p .nils, .sl 4 v1 0 n1, .p .nils]), (1, z5)]⟩) (by simp) rfl (fun i hi => by
    have hx := cI_drop l i hi
    have hlt : i * 2 < l.length * 2 := by omega
    have wi := wrap_succ (i := i) (by omega)
    have hcl := cI_length l
    have htk := cI_take l i hi
    have hct := cI_length (l.take i)
    have hti : (l.take i).length = i := by simp; omega
    rw [hti] at hct
    have hlim : i + 1 ≤ lim := by simp only [lim]; omega
    simp only [csl]
    by_cases c0 : i = 0
    · subst c0
      have w0 : IntKind.i64.wrap 1 = 1 := by decide
      have e1 : cI (l.take (0 + 1)) = [.int .i64 l[0].1, .int .i64 l[0].2] := by rw [htk]; rfl
      simp only [Nat.zero_mul, List.drop_zero] at hx
      rw [if_pos rfl, if_neg (by omega)]
      rw [e1]
      generalize cI (l.drop (0 + 1)) = R2 at *
      generalize cI l = A at *
      generalize l[0] = s at *
      have hlim1 : 1 ≤ lim := by decide
      refine ⟨?_, ?h1, ?h2⟩
      case h1 =>
        simp -implicitDefEqProofs [loopS_eq, c19L0, stOp, fresh, hi, hx, w0, hlim1]
        exact rfl
      case h2 => exact loopS_same (by simp [hx]) (by simp [hx])
    · obtain ⟨j, rfl⟩ : ∃ j, i = j + 1 := ⟨i - 1, by omega⟩
      rw [if_neg c0, if_neg (by omega), htk]
      have ej : j + 1 - 1 = j := rfl
      have ej2 : j + 1 + 1 - 1 = j + 1 := rfl
      rw [ej, ej2]
      generalize cI (l.drop (j + 1 + 1)) = R2 at *
      generalize cI (l.take (j + 1)) = C at *
      generalize cI l = A at *
      generalize l[j + 1] = s at *
      generalize hij : j + 1 = i at *
      refine ⟨?_, ?h1, ?h2⟩
      case h1 =>
        simp -implicitDefEqProofs [loopS_eq, c19L0, stOp, fresh, hi, hx, hlt, hcl, hct, wi, hlim]
        exact rfl
      case h2 => exact loopS_same (by simp []) (by simp [hij])) (by
    rw [if_neg (by omega), htl]
    simp -implicitDefEqProofs [loopS_eq, c19L0]) (fuel := loopFuel) (by simp [loopFuel]; omega)
  exact this

theorem in19_2tf {d : Nat} (l : List (Int × Int)) (hl : l.length < 1000000) (h0 : 0 < l.length) (x y z : PVal) (hd hb : Int) (A0 : List PVal) (v0 n0 : Nat) :
    loopN (loopS (evFn F C0 G0 d) C0 G0 0 true [2, 3, 4, 14, 15, 19, 20, 21] c19L0) loopFuel ⟨[(2, .ptr 1 0 0), (3, .ptr 2 0 0), (4, iv 2), (14, .agg [.p x, .p y, .p z]), (15, iv 2), (19, csl l), (20, iv l.length), (21, iv 0)], [(4, .arr A0 v0 2), (2, .box [iv hd, iv hb, .sl 4 v0 0 n0, .p .nils, .p .nils]), (1, z5)]⟩ =
    .ret (.exit 2, ⟨[(2, .ptr 1 0 0), (3, .ptr 2 0 0), (4, iv 2), (14, .agg [.p x, .p y, .p z]), (15, iv 2), (19, csl l), (20, iv l.length), (21, iv l.length), (22, .p (.bool false))], [(6, .arr (cI l) (l.length - 1) 2), (4, .arr A0 v0 2), (2, .box [iv hd, iv hb, .sl 4 v0 0 n0, .p .nils, .sl 6 (l.length - 1) 0 l.length]), (1, z5)]⟩) := by
  have htl : l.take l.length = l := List.take_of_length_le (by omega)
  have := loop_run' (step := loopS (evFn F C0 G0 d) C0 G0 0 true [2, 3, 4, 14, 15, 19, 20, 21] c19L0) (fun i => if i = 0 then ⟨[(2, .ptr 1 0 0), (3, .ptr 2 0 0), (4, iv 2), (14, .agg [.p x, .p y, .p z]), (15, iv 2), (19, csl l), (20, iv l.length), (21, iv 0)], [(4, .arr A0 v0 2), (2, .box [iv hd, iv hb, .sl 4 v0 0 n0, .p .nils, .p .nils]), (1, z5)]⟩ else ⟨[(2, .ptr 1 0 0), (3, .ptr 2 0 0), (4, iv 2), (14, .agg [.p x, .p y, .p z]), (15, iv 2), (19, csl l), (20, iv l.length), (21, iv i)], [(6, .arr (cI (l.take i)) (i - 1) 2), (4, .arr A0 v0 2), (2, .box [iv hd, iv hb, .sl 4 v0 0 n0, .p .nils, .sl 6 (i - 1) 0 i]), (1, z5)]⟩) l.length (e := .exit 2) (st' := ⟨[(2, .ptr 1 0 0), (3, .ptr 2 0 0), (4, iv 2), (14, .agg [.p x, .p y, .p z]), (15, iv 2), (19, csl l), (20, iv l.length), (21, iv l.length), (22, .p (.bool false))], [(6, .arr (cI l) (l.length - 1) 2), (4, .arr A0 v0 2), (2, .box [iv hd, iv hb, .sl 4 v0 0 n0, .p .nils, .sl 6 (l.length - 1) 0 l.length]), (1, z5)]⟩) (st0 := ⟨[(2, .ptr 1 0 0), (3, .ptr 2 0 0), (4, iv 2), (14, .agg [.p x, .p y, .p z]), (15, iv 2), (19, csl l), (20, iv l.length), (21, iv 0)], [(4, .arr A0 v0 2), (2, .box [iv hd, iv hb, .sl 4 v0 0 n0, .p .nils, .p .nils]), (1, z5)]⟩) (by simp) rfl (fun i hi => by
    have hx := cI_drop l i hi
    have hlt : i * 2 < l.length * 2 := by omega
    have wi := wrap_succ (i := i) (by omega)
    have hcl := cI_length l
    have htk := cI_take l i hi
    have hct := cI_length (l.take i)
    have hti : (l.take i).length = i := by simp; omega
    rw [hti] at hct
    have hlim : i + 1 ≤ lim := by simp only [lim]; omega
    simp only [csl]
    by_cases c0 : i = 0
    · subst c0
      have w0 : IntKind.i64.wrap 1 = 1 := by decide
      have e1 : cI (l.take (0 + 1)) = [.int .i64 l[0].1, .int .i64 l[0].2] := by rw [htk]; rfl
      simp only [Nat.zero_mul, List.drop_zero] at hx
      rw [if_pos rfl, if_neg (by omega)]
      rw [e1]
      generalize cI (l.drop (0 + 1)) = R2 at *
      generalize cI l = A at *
      generalize l[0] = s at *
      have hlim1 : 1 ≤ lim := by decide
      refine ⟨?_, ?h1, ?h2⟩
      case h1 =>
        simp -implicitDefEqProofs [loopS_eq, c19L0, stOp, fresh, hi, hx, w0, hlim1]
        exact rfl
      case h2 => exact loopS_same (by simp [hx]) (by simp [hx])
    · obtain ⟨j, rfl⟩ : ∃ j, i = j + 1 := ⟨i - 1, by omega⟩
      rw [if_neg c0, if_neg (by omega), htk]
      have ej : j + 1 - 1 = j := rfl
      have ej2 : j + 1 + 1 - 1 = j + 1 := rfl
      rw [ej, ej2]
      generalize cI (l.drop (j + 1 + 1)) = R2 at *
      generalize cI (l.take (j + 1)) = C at *
      generalize cI l = A at *
      generalize l[j + 1] = s at *
      generalize hij : j + 1 = i at *
      refine ⟨?_, ?h1, ?h2⟩
      case h1 =>
        simp -implicitDefEqProofs [loopS_eq, c19L0, stOp, fresh, hi, hx, hlt, hcl, hct, wi, hlim]
        exact rfl
      case h2 => exact loopS_same (by simp []) (by simp [hij])) (by
    rw [if_neg (by omega), htl]
    simp -implicitDefEqProofs [loopS_eq, c19L0]) (fuel := loopFuel) (by simp [loopFuel]; omega)
  exact this

theorem in19_2tt {d : Nat} (l : List (Int × Int)) (hl : l.length < 1000000) (h0 : 0 < l.length) (x y z : PVal) (hd hb : Int) (A0 : List PVal) (v0 n0 : Nat) (A1 : List PVal) (v1 n1 : Nat) :
    loopN (loopS (evFn F C0 G0 d) C0 G0 0 true [2, 3, 4, 14, 15, 19, 20, 21] c19L0) loopFuel ⟨[(2, .ptr 1 0 0), (3, .ptr 2 0 0), (4, iv 2), (14, .agg [.p x, .p y, .p z]), (15, iv 2), (19, csl l), (20, iv l.length), (21, iv 0)], [(6, .arr A1 v1 2), (4, .arr A0 v0 2), (2, .box [iv hd, iv hb, .sl 4 v0 0 n0, .sl 6 v1 0 n1, .p .nils]), (1, z5)]⟩ =
    .ret (.exit 2, ⟨[(2, .ptr 1 0 0), (3, .ptr 2 0 0), (4, iv 2), (14, .agg [.p x, .p y, .p z]), (15, iv 2), (19, csl l), (20, iv l.length), (21, iv l.length), (22, .p (.bool false))], [(8, .arr (cI l) (l.length - 1) 2), (6, .arr A1 v1 2), (4, .arr A0 v0 2), (2, .box [iv hd, iv hb, .sl 4 v0 0 n0, .sl 6 v1 0 n1, .sl 8 (l.length - 1) 0 l.length]), (1, z5)]⟩) := by
  have htl : l.take l.length = l := List.take_of_length_le (by omega)
  have := loop_run' (step := loopS (evFn F C0 G0 d) C0 G0 0 true [2, 3, 4, 14, 15, 19, 20, 21] c19L0) (fun i => if i = 0 then ⟨[(2, .ptr 1 0 0), (3, .ptr 2 0 0), (4, iv 2), (14, .agg [.p x, .p y, .p z]), (15, iv 2), (19, csl l), (20, iv l.length), (21, iv 0)], [(6, .arr A1 v1 2), (4, .arr A0 v0 2), (2, .box [iv hd, iv hb, .sl 4 v0 0 n0, .sl 6 v1 0 n1, .p .nils]), (1, z5)]⟩ else ⟨[(2, .ptr 1 0 0), (3, .ptr 2 0 0), (4, iv 2), (14, .agg [.p x, .p y, .p z]), (15, iv 2), (19, csl l), (20, iv l.length), (21, iv i)], [(8, .arr (cI (l.take i)) (i - 1) 2), (6, .arr A1 v1 2), (4, .arr A0 v0 2), (2, .box [iv hd, iv hb, .sl 4 v0 0 n0, .sl 6 v1 0 n1, .sl 8 (i - 1) 0 i]), (1, z5)]⟩) l.length (e := .exit 2) (st' := ⟨[(2, .ptr 1 0 0), (3, .ptr 2 0 0), (4, iv 2), (14, .agg [.p x, .p y, .p z]), (15, iv 2), (19, csl l), (20, iv l.length), (21, iv l.length), (22, .p (.bool false))], [(8, .arr (cI l) (l.length - 1) 2), (6, .arr A1 v1 2), (4, .arr A0 v0 2), (2, .box [iv hd, iv hb, .sl 4 v0 0 n0, .sl 6 v1 0 n1, .sl 8 (l.length - 1) 0 l.length]), (1, z5)]⟩) (st0 := ⟨[(2, .ptr 1 0 0), (3, .ptr 2 0 0), (4, iv 2), (14, .agg [.p x, .p y, .p z]), (15, iv 2), (19, csl l), (20, iv l.length), (21, iv 0)], [(6, .arr A1 v1 2), (4, .arr A0 v0 2), (2, .box [iv hd, iv hb, .sl 4 v0 0 n0, .sl 6 v1 0 n1, .p .nils]), (1, z5)]⟩) (by simp) rfl (fun i hi => by
    have hx := cI_drop l i hi
    have hlt : i * 2 < l.length * 2 := by omega
    have wi := wrap_succ (i := i) (by omega)
    have hcl := cI_length l
    have htk := cI_take l i hi
    have hct := cI_length (l.take i)
    have hti : (l.take i).length = i := by simp; omega
    rw [hti] at hct
    have hlim : i + 1 ≤ lim := by simp only [lim]; omega
    simp only [csl]
    by_cases c0 : i = 0
    · subst c0
      have w0 : IntKind.i64.wrap 1 = 1 := by decide
      have e1 : cI (l.take (0 + 1)) = [.int .i64 l[0].1, .int .i64 l[0].2] := by rw [htk]; rfl
      simp only [Nat.zero_mul, List.drop_zero] at hx
      rw [if_pos rfl, if_neg (by omega)]
      rw [e1]
      generalize cI (l.drop (0 + 1)) = R2 at *
      generalize cI l = A at *
      generalize l[0] = s at *
      have hlim1 : 1 ≤ lim := by decide
      refine ⟨?_, ?h1, ?h2⟩
      case h1 =>
        simp -implicitDefEqProofs [loopS_eq, c19L0, stOp, fresh, hi, hx, w0, hlim1]
        exact rfl
      case h2 => exact loopS_same (by simp [hx]) (by simp [hx])
    · obtain ⟨j, rfl⟩ : ∃ j, i = j + 1 := ⟨i - 1, by omega⟩
      rw [if_neg c0, if_neg (by omega), htk]
      have ej : j + 1 - 1 = j := rfl
      have ej2 : j + 1 + 1 - 1 = j + 1 := rfl
      rw [ej, ej2]
      generalize cI (l.drop (j + 1 + 1)) = R2 at *
      generalize cI (l.take (j + 1)) = C at *
      generalize cI l = A at *
      generalize l[j + 1] = s at *
      generalize hij : j + 1 = i at *
      refine ⟨?_, ?h1, ?h2⟩
      case h1 =>
        simp -implicitDefEqProofs [loopS_eq, c19L0, stOp, fresh, hi, hx, hlt, hcl, hct, wi, hlim]
        exact rfl
      case h2 => exact loopS_same (by simp []) (by simp [hij])) (by
    rw [if_neg (by omega), htl]
    simp -implicitDefEqProofs [loopS_eq, c19L0]) (fuel := loopFuel) (by simp [loopFuel]; omega)
  exact this

end Fw
