/- The bound of a best plan: by the chapter, whole. -/
import Derived.Test.YtdjkleaojdeepaaGreatDoorGaPlB
set_option maxHeartbeats 16000000
set_option maxRecDepth 8000
namespace Fw
open Go
attribute [local irreducible] evCode evOps evOpsD evOper evOperD evOp evFn loopN T.All T.bind callPure callOp opsK opsDK restK seqK blockK loopS setK setQ giveK scalK gcK finish finS rfunK yldK yldB loopK

def A60 (l : List JobI) (g : List JobI → Int → Nat → Int) : List PVal := arrL (fun h => g l h l.length)
theorem A60q (l : List JobI) (g : List JobI → Int → Nat → Int) (h : Nat) (hh : h < 17) : (A60 l g)[h]? = some (.int .i64 (g l h l.length)) := by
  simp [A60, arrL, hh]
def Q60 (l : List JobI) (i : Nat) : St := ⟨[(5, .ptr 0 0 0), (6, .ptr 1 0 0), (8, .ptr 3 0 0), (11, iv (mxB l i)), (63, .agg ((A60 l sD).map .p)), (64, iv i)], [(3, .arr (A60 l sS) 0 1), (2, .arr (A60 l sD) 0 1), (1, .arr (A60 l sH) 0 1), (0, .arr (A60 l sC) 0 1)]⟩
theorem round60b {d : Nat} (l : List JobI) (hl : JobsOk l) (i : Nat) (hi : i < 17) :
    ∃ st1, loopS (evFn F C0 G0 d) C0 G0 0 false [5, 6, 8, 11, 63, 64] c60L1 (Q60 l i) = .ret (.normal, st1) ∧
      loopS (evFn F C0 G0 d) C0 G0 0 false [5, 6, 8, 11, 63, 64] c60L1 st1 = loopS (evFn F C0 G0 d) C0 G0 0 false [5, 6, 8, 11, 63, 64] c60L1 (Q60 l (i + 1)) := by
  have h8 := hl.1
  have hi' : (i : Int) < 17 := by omega
  have wi := wrap_succ (i := i) (by omega)
  have hb := s_le hl (i : Int) l.length (by omega)
  have w := wrap64 (n := sD l i l.length - sS l i l.length) (by omega) (by omega)
  have mx := fun a b c d => max4 a b c d
  have r1 := A60q l sC i hi
  have r2 := A60q l sH i hi
  have r3 := A60q l sD i hi
  have r4 := A60q l sS i hi
  have n1 : (A60 l sC).length = 17 := arr_len _
  have n2 : (A60 l sH).length = 17 := arr_len _
  have n3 : (A60 l sD).length = 17 := arr_len _
  have n4 : (A60 l sS).length = 17 := arr_len _
  have t1 : ∀ q, (A60 l sC)[i]'q = .int .i64 (sC l i l.length) := fun q => by rw [List.getElem?_eq_getElem q] at r1; exact Option.some.inj r1
  have t2 : ∀ q, (A60 l sH)[i]'q = .int .i64 (sH l i l.length) := fun q => by rw [List.getElem?_eq_getElem q] at r2; exact Option.some.inj r2
  have t3 : ∀ q, (A60 l sD)[i]'q = .int .i64 (sD l i l.length) := fun q => by rw [List.getElem?_eq_getElem q] at r3; exact Option.some.inj r3
  have t4 : ∀ q, (A60 l sS)[i]'q = .int .i64 (sS l i l.length) := fun q => by rw [List.getElem?_eq_getElem q] at r4; exact Option.some.inj r4
  simp only [Q60, mxB]
  generalize sC l i l.length = q1 at *
  generalize sH l i l.length = q2 at *
  generalize sD l i l.length = q3 at *
  generalize sS l i l.length = q4 at *
  generalize mxB l i = m at *
  generalize A60 l sC = A1 at *
  generalize A60 l sH = A2 at *
  generalize A60 l sD = A3 at *
  generalize A60 l sS = A4 at *
  refine ⟨?_, ?h1, ?h2⟩
  case h1 =>
    simp -implicitDefEqProofs [loopS_eq, c60L1, hi, hi', mx, w, wi, t1, t2, t3, t4, n1, n2, n3, n4]
    exact rfl
  case h2 => rfl
theorem bound60 {n : Nat} (hn : 1 ≤ n) (l : List JobI) (hJ : jobE l = 0) (k57 : RUN (n - 1) 57 [jsl l] = .ret (iv 0)) : RUN n 60 [jsl l] = .ret (.tup [iv (mxB l 17), iv 0]) := by
  obtain ⟨d, rfl⟩ : ∃ d, n = d + 1 := ⟨n - 1, by omega⟩
  rw [RUN, call_eq fe60 _ rfl]
  have hl := jobs_ok hJ
  have hr := rng16 hJ
  have h8 := hl.1
  have kA : loopN (loopS (evFn F C0 G0 d) C0 G0 0 true [5, 6, 7, 8, 19, 20, 21] c60L0) loopFuel (P60 l 0) = .ret (.exit 0, ⟨(P60 l l.length).env ++ [(22, .p (.bool false))], (P60 l l.length).sto⟩) := by
    rw [loop_run' (P60 l) l.length (e := .exit 0) (st' := ⟨(P60 l l.length).env ++ [(22, .p (.bool false))], (P60 l l.length).sto⟩) (by simp)]
    · rfl
    · intro k hk
      exact round60 l hl hr k hk
    · simp -implicitDefEqProofs [loopS_eq, c60L0, P60]
    · simp [loopFuel]; omega
  have kB : loopN (loopS (evFn F C0 G0 d) C0 G0 0 false [5, 6, 8, 11, 63, 64] c60L1) loopFuel (Q60 l 0) = .ret (.exit 2, ⟨(Q60 l 17).env ++ [(65, .p (.bool false))], (Q60 l 17).sto⟩) := by
    rw [loop_run' (Q60 l) 17 (e := .exit 2) (st' := ⟨(Q60 l 17).env ++ [(65, .p (.bool false))], (Q60 l 17).sto⟩) (by simp)]
    · rfl
    · intro k hk
      exact round60b l hl k hk
    · simp -implicitDefEqProofs [loopS_eq, c60L1, Q60]
    · simp [loopFuel]
  have n3 : (A60 l sD).length = 17 := arr_len _
  have e1 : arrL (fun h => sC l h 0) = List.replicate 17 (.int .i64 0) := by simp [sC]; rfl
  have e2 : arrL (fun h => sH l h 0) = List.replicate 17 (.int .i64 0) := by simp [sH]; rfl
  have e3 : arrL (fun h => sD l h 0) = List.replicate 17 (.int .i64 0) := by simp [sD]; rfl
  have e4 : arrL (fun h => sS l h 0) = List.replicate 17 (.int .i64 0) := by simp [sS]; rfl
  simp only [P60, e1, e2, e3, e4, Int.natCast_zero, List.replicate_succ, List.replicate_zero] at kA
  simp only [show arrL (fun h => sC l h l.length) = A60 l sC from rfl, show arrL (fun h => sH l h l.length) = A60 l sH from rfl, show arrL (fun h => sD l h l.length) = A60 l sD from rfl, show arrL (fun h => sS l h l.length) = A60 l sS from rfl] at kA
  simp only [Q60, jsl] at *
  generalize mxB l 17 = m at *
  simp only [Int.natCast_zero, mxB] at kB
  generalize rowC jc l = J at *
  generalize A60 l sC = A1 at *
  generalize A60 l sH = A2 at *
  generalize A60 l sD = A3 at *
  generalize A60 l sS = A4 at *
  simp only [Nat.add_sub_cancel] at k57
  simp -implicitDefEqProofs [c60, k57]
  rw [show loopN _ _ _ = _ from kA]
  have htk : (List.map AVal.p A3).take 17 = List.map AVal.p A3 := List.take_of_length_le (by simp [n3])
  simp -implicitDefEqProofs [n3, htk]
  rw [show loopN _ _ _ = _ from kB]
  simp
end Fw
