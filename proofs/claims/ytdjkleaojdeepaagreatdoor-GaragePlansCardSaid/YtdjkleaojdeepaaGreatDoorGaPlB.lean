/- The bound of a best plan: by the chapter. -/
import Derived.Test.YtdjkleaojdeepaaGreatDoorGaPlA
set_option maxHeartbeats 16000000
set_option maxRecDepth 8000
namespace Fw
open Go
attribute [local irreducible] evCode evOps evOpsD evOper evOperD evOp evFn loopN T.All T.bind callPure callOp opsK opsDK restK seqK blockK loopS setK setQ giveK scalK gcK finish finS rfunK yldK yldB loopK

def arrL (f : Int → Int) : List PVal := (List.range 17).map (fun (i : Nat) => PVal.int .i64 (f i))
theorem arr_len (f : Int → Int) : (arrL f).length = 17 := by simp [arrL]
theorem arr_get {f : Int → Int} {c : Int} (h : 0 ≤ c ∧ c ≤ 16) : ∀ q, (arrL f)[c.toNat]'q = .int .i64 (f c) := by
  intro q
  simp only [arrL, List.getElem_map, List.getElem_range]
  rw [show ((c.toNat : Nat) : Int) = c from by omega]
theorem arr_set {f f' : Int → Int} {c v : Int} (h : 0 ≤ c ∧ c ≤ 16) (hv : f' c = v) (ho : ∀ x, x ≠ c → f' x = f x) : (arrL f).set c.toNat (.int .i64 v) = arrL f' := by
  refine List.ext_getElem (by simp [arrL]) (fun i h1 h2 => ?_)
  simp only [arrL, List.getElem_set, List.getElem_map, List.getElem_range]
  split
  · rename_i e
    rw [show (i : Int) = c from by omega, hv]
  · rename_i e
    rw [ho _ (by omega)]
def P60 (l : List JobI) (k : Nat) : St := ⟨[(5, .ptr 0 0 0), (6, .ptr 1 0 0), (7, .ptr 2 0 0), (8, .ptr 3 0 0), (19, jsl l), (20, iv l.length), (21, iv k)], [(3, .arr (arrL (fun h => sS l h k)) 0 1), (2, .arr (arrL (fun h => sD l h k)) 0 1), (1, .arr (arrL (fun h => sH l h k)) 0 1), (0, .arr (arrL (fun h => sC l h k)) 0 1)]⟩
theorem round60 {d : Nat} (l : List JobI) (hl : JobsOk l) (hr : Rng16 l) (k : Nat) (hk : k < l.length) :
    ∃ st1, loopS (evFn F C0 G0 d) C0 G0 0 true [5, 6, 7, 8, 19, 20, 21] c60L0 (P60 l k) = .ret (.normal, st1) ∧
      loopS (evFn F C0 G0 d) C0 G0 0 true [5, 6, 7, 8, 19, 20, 21] c60L0 st1 = loopS (evFn F C0 G0 d) C0 G0 0 true [5, 6, 7, 8, 19, 20, 21] c60L0 (P60 l (k + 1)) := by
  have h8 := hl.1
  have wk := wrap_succ (i := k) (by omega)
  have hj := hl.2 _ (List.getElem_mem hk)
  obtain ⟨g1, g2, g3⟩ := hr _ (List.getElem_mem hk)
  have hJ := jR_len l
  have hlt : k * 6 < l.length * 6 := by omega
  have hrow := rowC_drop jc_len l k hk
  have mx := fun a b => max2 a b
  have b1 := (s_le hl l[k].crew k (by omega)).1
  have b2 := (s_le hl l[k].hall k (by omega)).2.1
  have b3 := (s_le hl l[k].dummy k (by omega)).2.2.1
  have w1 := wrap64 (n := sC l l[k].crew k + l[k].time) (by omega) (by omega)
  have w2 := wrap64 (n := sH l l[k].hall k + l[k].time) (by omega) (by omega)
  have w3 := wrap64 (n := l[k].time + l[k].soak) (by omega) (by omega)
  have w4 := wrap64 (n := sD l l[k].dummy k + (l[k].time + l[k].soak)) (by omega) (by omega)
  have s1 : (arrL (fun h => sC l h k)).set l[k].crew.toNat (.int .i64 (sC l l[k].crew k + l[k].time)) = arrL (fun h => sC l h (k + 1)) := arr_set g2 (by simp only [sC, getJ hk, if_true]) (fun x hx => by simp only [sC, getJ hk]; rw [if_neg (fun e => hx e.symm)])
  have s2 : (arrL (fun h => sH l h k)).set l[k].hall.toNat (.int .i64 (sH l l[k].hall k + l[k].time)) = arrL (fun h => sH l h (k + 1)) := arr_set g3 (by simp only [sH, getJ hk, if_true]) (fun x hx => by simp only [sH, getJ hk]; rw [if_neg (fun e => hx e.symm)])
  have s3 : (arrL (fun h => sD l h k)).set l[k].dummy.toNat (.int .i64 (sD l l[k].dummy k + (l[k].time + l[k].soak))) = arrL (fun h => sD l h (k + 1)) := arr_set g1 (by simp only [sD, getJ hk, if_true]; omega) (fun x hx => by simp only [sD, getJ hk]; rw [if_neg (fun e => hx e.symm)])
  have s4 : (arrL (fun h => sS l h k)).set l[k].dummy.toNat (.int .i64 (max (sS l l[k].dummy k) l[k].soak)) = arrL (fun h => sS l h (k + 1)) := arr_set g1 (by simp only [sS, getJ hk, if_true]) (fun x hx => by simp only [sS, getJ hk]; rw [if_neg (fun e => hx e.symm)])
  have r1 := arr_get (f := fun h => sC l h k) g2
  have r2 := arr_get (f := fun h => sH l h k) g3
  have r3 := arr_get (f := fun h => sD l h k) g1
  have r4 := arr_get (f := fun h => sS l h k) g1
  have n1 := arr_len (fun h => sC l h k)
  have n2 := arr_len (fun h => sH l h k)
  have n3 := arr_len (fun h => sD l h k)
  have n4 := arr_len (fun h => sS l h k)
  simp only [P60, jsl]
  generalize rowC jc (l.drop (k + 1)) = R3 at *
  generalize rowC jc l = J at *
  generalize l[k] = x at *
  obtain ⟨nm, a1, a2, a3, a4, a5⟩ := x
  simp only [jc] at *
  generalize sC l a2 k = q1 at *
  generalize sH l a3 k = q2 at *
  generalize sD l a1 k = q3 at *
  generalize sS l a1 k = q4 at *
  generalize arrL (fun h => sC l h k) = A1 at *
  generalize arrL (fun h => sH l h k) = A2 at *
  generalize arrL (fun h => sD l h k) = A3 at *
  generalize arrL (fun h => sS l h k) = A4 at *
  generalize arrL (fun h => sC l h (k + 1)) = B1 at *
  generalize arrL (fun h => sH l h (k + 1)) = B2 at *
  generalize arrL (fun h => sD l h (k + 1)) = B3 at *
  generalize arrL (fun h => sS l h (k + 1)) = B4 at *
  obtain ⟨p1, p2⟩ := g1
  obtain ⟨p3, p4⟩ := g2
  obtain ⟨p5, p6⟩ := g3
  have u1 : a1 < 17 := by omega
  have u2 : a2 < 17 := by omega
  have u3 : a3 < 17 := by omega
  have v1 : a1.toNat < 17 := by omega
  have v2 : a2.toNat < 17 := by omega
  have v3 : a3.toNat < 17 := by omega
  have m1 : a1.toNat + 1 ≤ 17 := by omega
  have m2 : a2.toNat + 1 ≤ 17 := by omega
  have m3 : a3.toNat + 1 ≤ 17 := by omega
  refine ⟨?_, ?h1, ?h2⟩
  case h1 =>
    simp -implicitDefEqProofs [loopS_eq, c60L0, hk, hJ, hlt, hrow, mx, w1, w2, w3, w4, wk, s1, s2, s3, s4, r1, r2, r3, r4, n1, n2, n3, n4, p1, p3, p5, u1, u2, u3, v1, v2, v3, m1, m2, m3]
    exact rfl
  case h2 => exact loopS_same (by simp) (by simp)
end Fw
