/- Halls: the wait after three values; both sides. -/
import Derived.Test.YtdjkleaojdeepaaGreatDoorGaH3
set_option maxHeartbeats 16000000
namespace Fw
open Go
attribute [local irreducible] evCode evOps evOpsD evOper evOperD evOp evFn loopN T.All T.bind callPure callOp opsK opsDK restK seqK blockK loopS setK setQ giveK scalK gcK finish finS rfunK yldK yldB loopK

/-- the greatest wait of a table's steps up to a value -/
def wtP (l : List (Int × Int)) (v acc : Int) : Nat → Int
  | 0 => acc
  | i + 1 => if (l.getD i (0, 0)).1 ≤ v then max (wtP l v acc i) (l.getD i (0, 0)).2 else wtP l v acc i
/-- the last one -/
def wtR (l : List (Int × Int)) (v : Int) : Nat → Int
  | 0 => 0
  | i + 1 => if (l.getD i (0, 0)).1 ≤ v then (l.getD i (0, 0)).2 else wtR l v i
def waitP (h : HallI) (a b c : Int) : Int := wtP h.t2 c (wtP h.t1 b (wtP h.t0 a 0 h.t0.length) h.t1.length) h.t2.length
def waitR (h : HallI) (a b c : Int) : Int := max (max (max 0 (wtR h.t0 a h.t0.length)) (wtR h.t1 b h.t1.length)) (wtR h.t2 c h.t2.length)

theorem in132 {d : Nat} (l : List (Int × Int)) (hl : l.length < 1000000) (x y z : PVal) (a b c acc : Int) (k : Nat) (v : Int) (hv : (k = 0 ∧ v = a) ∨ (k = 1 ∧ v = b) ∨ (k = 2 ∧ v = c)) :
    loopN (loopS (evFn F C0 G0 d) C0 G0 0 true [3, 5, 6, 11, 12, 16, 17, 18] c132L0) loopFuel ⟨[(3, .ptr 1 0 0), (5, iv acc), (6, iv k), (11, .agg [.p x, .p y, .p z]), (12, iv k), (16, csl l), (17, iv l.length), (18, iv 0)], [(1, .arr [.int .i64 a, .int .i64 b, .int .i64 c] 0 1)]⟩ =
    .ret (.exit 2, ⟨[(3, .ptr 1 0 0), (5, iv (wtP l v acc l.length)), (6, iv k), (11, .agg [.p x, .p y, .p z]), (12, iv k), (16, csl l), (17, iv l.length), (18, iv l.length), (19, .p (.bool false))], [(1, .arr [.int .i64 a, .int .i64 b, .int .i64 c] 0 1)]⟩) := by
  refine loop_run' (fun i => ⟨[(3, .ptr 1 0 0), (5, iv (wtP l v acc i)), (6, iv k), (11, .agg [.p x, .p y, .p z]), (12, iv k), (16, csl l), (17, iv l.length), (18, iv i)], [(1, .arr [.int .i64 a, .int .i64 b, .int .i64 c] 0 1)]⟩) l.length (by simp) rfl ?_ ?_ (by simp [loopFuel]; omega)
  · intro i hi
    have hx := cI_drop l i hi
    have hlt : i * 2 < l.length * 2 := by omega
    have wi := wrap_succ (i := i) (by omega)
    have hg : l.getD i (0, 0) = l[i] := by simp [List.getD_eq_getElem?_getD, hi]
    have hcl := cI_length l
    have mx := fun a b => max2 a b
    have hs : wtP l v acc (i + 1) = if l[i].1 ≤ v then max (wtP l v acc i) l[i].2 else wtP l v acc i := by simp only [wtP, hg]
    simp only [hs, csl]
    generalize wtP l v acc i = w at *
    generalize cI (l.drop (i + 1)) = R2 at *
    generalize cI l = A at *
    generalize l[i] = s at *
    obtain ⟨s1, s2⟩ := s
    simp only at hx ⊢
    rcases hv with ⟨rfl, rfl⟩ | ⟨rfl, rfl⟩ | ⟨rfl, rfl⟩
    all_goals
      by_cases c1 : s1 ≤ v
      all_goals
        refine ⟨?_, ?h1, ?h2⟩
        case h1 =>
          simp -implicitDefEqProofs [loopS_eq, c132L0, hi, hx, hlt, hcl, wi, mx, c1]
          exact rfl
        case h2 => exact loopS_same (by simp [c1]) (by simp [c1])
  · simp -implicitDefEqProofs [loopS_eq, c132L0]
theorem wait132 {n : Nat} (hn : 1 ≤ n) (h : HallI) (h0 : h.t0.length < 1000000) (h1 : h.t1.length < 1000000) (h2 : h.t2.length < 1000000) (a b c : Int) : RUN n 132 [ha h, v3 a b c] = .ret (iv (waitP h a b c)) := by
  obtain ⟨d, rfl⟩ : ∃ d, n = d + 1 := ⟨n - 1, by omega⟩
  rw [RUN, call_eq fe132 _ rfl]
  have i0 := in132 (d := d) h.t0 h0 (.sl (cI h.t0) h.t0.length) (.sl (cI h.t1) h.t1.length) (.sl (cI h.t2) h.t2.length) a b c 0 0 a (.inl ⟨rfl, rfl⟩)
  generalize hw0 : wtP h.t0 a 0 h.t0.length = w0 at *
  have i1 := in132 (d := d) h.t1 h1 (.sl (cI h.t0) h.t0.length) (.sl (cI h.t1) h.t1.length) (.sl (cI h.t2) h.t2.length) a b c w0 1 b (.inr (.inl ⟨rfl, rfl⟩))
  generalize hw1 : wtP h.t1 b w0 h.t1.length = w1 at *
  have i2 := in132 (d := d) h.t2 h2 (.sl (cI h.t0) h.t0.length) (.sl (cI h.t1) h.t1.length) (.sl (cI h.t2) h.t2.length) a b c w1 2 c (.inr (.inr ⟨rfl, rfl⟩))
  generalize hw2 : wtP h.t2 c w1 h.t2.length = w2 at *
  have hP : waitP h a b c = w2 := by simp only [waitP, hw0, hw1, hw2]
  rw [hP]
  simp only [iv, csl, Int.natCast_zero, Int.natCast_one, show ((2 : Nat) : Int) = 2 from rfl] at i0 i1 i2
  simp only [ha, csl]
  generalize cI h.t0 = A0 at *
  generalize cI h.t1 = A1 at *
  generalize cI h.t2 = A2 at *
  have e1 : IntKind.i64.wrap 1 = 1 := by decide
  have e2 : IntKind.i64.wrap 2 = 2 := by decide
  have e3 : IntKind.i64.wrap 3 = 3 := by decide
  simp -implicitDefEqProofs [c132]
  have s0 : loopS (evFn F C0 G0 d) C0 G0 0 true [3, 5, 11, 12] c132L1 ⟨[(3, .ptr 1 0 0), (5, iv 0), (11, .agg [.p (.sl A0 h.t0.length), .p (.sl A1 h.t1.length), .p (.sl A2 h.t2.length)]), (12, iv 0)], [(1, .arr [.int .i64 a, .int .i64 b, .int .i64 c] 0 1), (0, .box [iv h.doors, iv h.base, .p (.sl A0 h.t0.length), .p (.sl A1 h.t1.length), .p (.sl A2 h.t2.length)])]⟩ = .ret (.normal, ⟨[(3, .ptr 1 0 0), (5, iv w0), (11, .agg [.p (.sl A0 h.t0.length), .p (.sl A1 h.t1.length), .p (.sl A2 h.t2.length)]), (12, iv 1)], [(1, .arr [.int .i64 a, .int .i64 b, .int .i64 c] 0 1)]⟩) := by
    simp -implicitDefEqProofs [loopS_eq, c132L1]
    rw [i0]
    simp -implicitDefEqProofs [e1]
  have s1 : loopS (evFn F C0 G0 d) C0 G0 0 true [3, 5, 11, 12] c132L1 ⟨[(3, .ptr 1 0 0), (5, iv w0), (11, .agg [.p (.sl A0 h.t0.length), .p (.sl A1 h.t1.length), .p (.sl A2 h.t2.length)]), (12, iv 1)], [(1, .arr [.int .i64 a, .int .i64 b, .int .i64 c] 0 1)]⟩ = .ret (.normal, ⟨[(3, .ptr 1 0 0), (5, iv w1), (11, .agg [.p (.sl A0 h.t0.length), .p (.sl A1 h.t1.length), .p (.sl A2 h.t2.length)]), (12, iv 2)], [(1, .arr [.int .i64 a, .int .i64 b, .int .i64 c] 0 1)]⟩) := by
    simp -implicitDefEqProofs [loopS_eq, c132L1]
    rw [i1]
    simp -implicitDefEqProofs [e2]
  have s2 : loopS (evFn F C0 G0 d) C0 G0 0 true [3, 5, 11, 12] c132L1 ⟨[(3, .ptr 1 0 0), (5, iv w1), (11, .agg [.p (.sl A0 h.t0.length), .p (.sl A1 h.t1.length), .p (.sl A2 h.t2.length)]), (12, iv 2)], [(1, .arr [.int .i64 a, .int .i64 b, .int .i64 c] 0 1)]⟩ = .ret (.normal, ⟨[(3, .ptr 1 0 0), (5, iv w2), (11, .agg [.p (.sl A0 h.t0.length), .p (.sl A1 h.t1.length), .p (.sl A2 h.t2.length)]), (12, iv 3)], [(1, .arr [.int .i64 a, .int .i64 b, .int .i64 c] 0 1)]⟩) := by
    simp -implicitDefEqProofs [loopS_eq, c132L1]
    rw [i2]
    simp -implicitDefEqProofs [e3]
  have s3 : loopS (evFn F C0 G0 d) C0 G0 0 true [3, 5, 11, 12] c132L1 ⟨[(3, .ptr 1 0 0), (5, iv w2), (11, .agg [.p (.sl A0 h.t0.length), .p (.sl A1 h.t1.length), .p (.sl A2 h.t2.length)]), (12, iv 3)], [(1, .arr [.int .i64 a, .int .i64 b, .int .i64 c] 0 1)]⟩ = .ret (.exit 0, ⟨[(3, .ptr 1 0 0), (5, iv w2), (11, .agg [.p (.sl A0 h.t0.length), .p (.sl A1 h.t1.length), .p (.sl A2 h.t2.length)]), (12, iv 3), (13, .p (.bool false))], [(1, .arr [.int .i64 a, .int .i64 b, .int .i64 c] 0 1)]⟩) := by
    simp -implicitDefEqProofs [loopS_eq, c132L1]
  rw [loopN_on s0 (by simp [loopFuel]), loopN_on s1 (by simp [loopFuel]), loopN_on s2 (by simp [loopFuel]), loopN_end s3 (by simp) (by simp [loopFuel])]
  simp -implicitDefEqProofs []
theorem in80 {d : Nat} (h : HallI) (l : List (Int × Int)) (hl : l.length < 1000000) (a b c acc : Int) (k : Nat) (v : Int) (hv : (k = 0 ∧ v = a ∧ l = h.t0) ∨ (k = 1 ∧ v = b ∧ l = h.t1) ∨ (k = 2 ∧ v = c ∧ l = h.t2)) :
    loopN (loopS (evFn F C0 G0 d) C0 G0 0 false [2, 3, 5, 6, 7, 8] c80L0) loopFuel ⟨[(2, .ptr 0 0 0), (3, .ptr 1 0 0), (5, iv acc), (6, iv k), (7, iv 0), (8, iv 0)], [(1, .arr [.int .i64 a, .int .i64 b, .int .i64 c] 0 1), (0, .box [iv h.doors, iv h.base, csl h.t0, csl h.t1, csl h.t2])]⟩ =
    .ret (.exit 2, ⟨[(2, .ptr 0 0 0), (3, .ptr 1 0 0), (5, iv acc), (6, iv k), (7, iv (wtR l v l.length)), (8, iv l.length), (19, .p (.bool false))], [(1, .arr [.int .i64 a, .int .i64 b, .int .i64 c] 0 1), (0, .box [iv h.doors, iv h.base, csl h.t0, csl h.t1, csl h.t2])]⟩) := by
  refine loop_run' (fun i => ⟨[(2, .ptr 0 0 0), (3, .ptr 1 0 0), (5, iv acc), (6, iv k), (7, iv (wtR l v i)), (8, iv i)], [(1, .arr [.int .i64 a, .int .i64 b, .int .i64 c] 0 1), (0, .box [iv h.doors, iv h.base, csl h.t0, csl h.t1, csl h.t2])]⟩) l.length (by simp) rfl ?_ ?_ (by simp [loopFuel]; omega)
  · intro i hi
    have hx := cI_drop l i hi
    have hx1 := cI_drop1 l i hi
    have hlt : i * 2 < l.length * 2 := by omega
    have hlt1 : i * 2 + 1 < l.length * 2 := by omega
    have wi := wrap_succ (i := i) (by omega)
    have hg : l.getD i (0, 0) = l[i] := by simp [List.getD_eq_getElem?_getD, hi]
    have hcl := cI_length l
    have hs : wtR l v (i + 1) = if l[i].1 ≤ v then l[i].2 else wtR l v i := by simp only [wtR, hg]
    simp only [hs]
    generalize wtR l v i = w at *
    generalize cI (l.drop (i + 1)) = R2 at *
    generalize l[i] = s at *
    obtain ⟨s1, s2⟩ := s
    simp only at hx hx1 ⊢
    obtain ⟨hd, hb, t0, t1, t2⟩ := h
    simp only at hv ⊢
    rcases hv with ⟨rfl, rfl, rfl⟩ | ⟨rfl, rfl, rfl⟩ | ⟨rfl, rfl, rfl⟩
    all_goals
      generalize hA : cI l = A at *
      simp only [csl, hA]
      by_cases c1 : s1 ≤ v
      all_goals
        refine ⟨?_, ?h1, ?h2⟩
        case h1 =>
          simp -implicitDefEqProofs [loopS_eq, c80L0, hi, hx, hlt, hcl, wi, c1]
          exact rfl
        case h2 => simp [c1]
  · rcases hv with ⟨rfl, rfl, rfl⟩ | ⟨rfl, rfl, rfl⟩ | ⟨rfl, rfl, rfl⟩ <;> simp -implicitDefEqProofs [loopS_eq, c80L0]
theorem wait80 {n : Nat} (hn : 1 ≤ n) (h : HallI) (h0 : h.t0.length < 1000000) (h1 : h.t1.length < 1000000) (h2 : h.t2.length < 1000000) (a b c : Int) : RUN n 80 [ha h, v3 a b c] = .ret (iv (waitR h a b c)) := by
  obtain ⟨d, rfl⟩ : ∃ d, n = d + 1 := ⟨n - 1, by omega⟩
  rw [RUN, call_eq fe80 _ rfl]
  have mx := fun a b => max2 a b
  have i0 := in80 (d := d) h h.t0 h0 a b c 0 0 a (.inl ⟨rfl, rfl, rfl⟩)
  have i1 := fun acc => in80 (d := d) h h.t1 h1 a b c acc 1 b (.inr (.inl ⟨rfl, rfl, rfl⟩))
  have i2 := fun acc => in80 (d := d) h h.t2 h2 a b c acc 2 c (.inr (.inr ⟨rfl, rfl, rfl⟩))
  have hP : waitR h a b c = max (max (max 0 (wtR h.t0 a h.t0.length)) (wtR h.t1 b h.t1.length)) (wtR h.t2 c h.t2.length) := rfl
  rw [hP]
  generalize wtR h.t0 a h.t0.length = w0 at *
  generalize wtR h.t1 b h.t1.length = w1 at *
  generalize wtR h.t2 c h.t2.length = w2 at *
  generalize hm0 : max 0 w0 = m0
  generalize hm1 : max m0 w1 = m1
  generalize hm2 : max m1 w2 = m2
  simp only [iv, csl, Int.natCast_zero, Int.natCast_one, show ((2 : Nat) : Int) = 2 from rfl] at i0 i1 i2
  simp only [ha, csl]
  generalize cI h.t0 = A0 at *
  generalize cI h.t1 = A1 at *
  generalize cI h.t2 = A2 at *
  generalize h.doors = hd at *
  generalize h.base = hb at *
  have e1 : IntKind.i64.wrap 1 = 1 := by decide
  have e2 : IntKind.i64.wrap 2 = 2 := by decide
  have e3 : IntKind.i64.wrap 3 = 3 := by decide
  simp -implicitDefEqProofs [c80]
  have s0 : loopS (evFn F C0 G0 d) C0 G0 0 false [2, 3, 5, 6] c80L1 ⟨[(2, .ptr 0 0 0), (3, .ptr 1 0 0), (5, iv 0), (6, iv 0)], [(1, .arr [.int .i64 a, .int .i64 b, .int .i64 c] 0 1), (0, .box [iv hd, iv hb, .p (.sl A0 h.t0.length), .p (.sl A1 h.t1.length), .p (.sl A2 h.t2.length)])]⟩ = .ret (.normal, ⟨[(2, .ptr 0 0 0), (3, .ptr 1 0 0), (5, iv m0), (6, iv 1)], [(1, .arr [.int .i64 a, .int .i64 b, .int .i64 c] 0 1), (0, .box [iv hd, iv hb, .p (.sl A0 h.t0.length), .p (.sl A1 h.t1.length), .p (.sl A2 h.t2.length)])]⟩) := by
    simp -implicitDefEqProofs [loopS_eq, c80L1]
    rw [i0]
    simp -implicitDefEqProofs [e1, mx, hm0]
  have s1 : loopS (evFn F C0 G0 d) C0 G0 0 false [2, 3, 5, 6] c80L1 ⟨[(2, .ptr 0 0 0), (3, .ptr 1 0 0), (5, iv m0), (6, iv 1)], [(1, .arr [.int .i64 a, .int .i64 b, .int .i64 c] 0 1), (0, .box [iv hd, iv hb, .p (.sl A0 h.t0.length), .p (.sl A1 h.t1.length), .p (.sl A2 h.t2.length)])]⟩ = .ret (.normal, ⟨[(2, .ptr 0 0 0), (3, .ptr 1 0 0), (5, iv m1), (6, iv 2)], [(1, .arr [.int .i64 a, .int .i64 b, .int .i64 c] 0 1), (0, .box [iv hd, iv hb, .p (.sl A0 h.t0.length), .p (.sl A1 h.t1.length), .p (.sl A2 h.t2.length)])]⟩) := by
    simp -implicitDefEqProofs [loopS_eq, c80L1]
    rw [i1]
    simp -implicitDefEqProofs [e2, mx, hm1]
  have s2 : loopS (evFn F C0 G0 d) C0 G0 0 false [2, 3, 5, 6] c80L1 ⟨[(2, .ptr 0 0 0), (3, .ptr 1 0 0), (5, iv m1), (6, iv 2)], [(1, .arr [.int .i64 a, .int .i64 b, .int .i64 c] 0 1), (0, .box [iv hd, iv hb, .p (.sl A0 h.t0.length), .p (.sl A1 h.t1.length), .p (.sl A2 h.t2.length)])]⟩ = .ret (.normal, ⟨[(2, .ptr 0 0 0), (3, .ptr 1 0 0), (5, iv m2), (6, iv 3)], [(1, .arr [.int .i64 a, .int .i64 b, .int .i64 c] 0 1), (0, .box [iv hd, iv hb, .p (.sl A0 h.t0.length), .p (.sl A1 h.t1.length), .p (.sl A2 h.t2.length)])]⟩) := by
    simp -implicitDefEqProofs [loopS_eq, c80L1]
    rw [i2]
    simp -implicitDefEqProofs [e3, mx, hm2]
  have s3 : loopS (evFn F C0 G0 d) C0 G0 0 false [2, 3, 5, 6] c80L1 ⟨[(2, .ptr 0 0 0), (3, .ptr 1 0 0), (5, iv m2), (6, iv 3)], [(1, .arr [.int .i64 a, .int .i64 b, .int .i64 c] 0 1), (0, .box [iv hd, iv hb, .p (.sl A0 h.t0.length), .p (.sl A1 h.t1.length), .p (.sl A2 h.t2.length)])]⟩ = .ret (.exit 0, ⟨[(2, .ptr 0 0 0), (3, .ptr 1 0 0), (5, iv m2), (6, iv 3), (10, .p (.bool false))], [(1, .arr [.int .i64 a, .int .i64 b, .int .i64 c] 0 1), (0, .box [iv hd, iv hb, .p (.sl A0 h.t0.length), .p (.sl A1 h.t1.length), .p (.sl A2 h.t2.length)])]⟩) := by
    simp -implicitDefEqProofs [loopS_eq, c80L1]
  rw [loopN_on s0 (by simp [loopFuel]), loopN_on s1 (by simp [loopFuel]), loopN_on s2 (by simp [loopFuel]), loopN_end s3 (by simp) (by simp [loopFuel])]
  simp -implicitDefEqProofs []
end Fw
