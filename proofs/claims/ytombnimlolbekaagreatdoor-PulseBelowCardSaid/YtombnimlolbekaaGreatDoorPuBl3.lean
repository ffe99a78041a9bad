/- The law on runs below: valves that are opened, and two loops more. -/
import Derived.Test.YtombnimlolbekaaGreatDoorPuBl2
set_option maxHeartbeats 16000000
namespace Fw
open Go
attribute [local irreducible] evCode evOps evOpsD evOper evOperD evOp evFn loopN T.All T.bind callPure callOp opsK opsDK restK seqK blockK loopS setK setQ giveK scalK gcK finish finS rfunK yldK yldB loopK

theorem minP2 (a b : Int) : minInt a [iv b] = some (min a b) := by
 simp only [minInt]; congr 1; split <;> omega

def oF (l : List (Int × Int)) (x : Int) (i : Nat) : List (Int × Int) := openL (l.take i) x ++ l.drop i
theorem oF_length (l : List (Int × Int)) (x : Int) (i : Nat) : (oF l x i).length = l.length := by
 simp only [oF, openL, List.length_append, List.length_map, List.length_take, List.length_drop]; omega
theorem oF_all (l : List (Int × Int)) (x : Int) : oF l x l.length = openL l x := by simp [oF]
theorem oF_zero (l : List (Int × Int)) (x : Int) : oF l x 0 = l := by simp [oF, openL]
theorem oF_at (l : List (Int × Int)) (x : Int) (i : Nat) (h : i < l.length) (q : i < (oF l x i).length) : (oF l x i)[i]'q = l[i] := by
 have hl : (openL (l.take i) x).length = i := by simp only [openL, List.length_map, List.length_take]; omega
 simp only [oF]
 rw [List.getElem_append_right (by omega)]
 simp [hl]
theorem oF_succ (l : List (Int × Int)) (x : Int) (i : Nat) (h : i < l.length) : (oF l x i).set i (l[i].1, min 100 (l[i].2 + x)) = oF l x (i + 1) := by
 have hl : (openL (l.take i) x).length = i := by simp only [openL, List.length_map, List.length_take]; omega
 simp only [oF]
 rw [List.set_append_right _ _ (by omega), hl, Nat.sub_self, List.drop_eq_getElem_cons h, List.set_cons_zero, List.take_succ_eq_append_getElem h]
 simp only [openL, List.map_append, List.map_cons, List.map_nil, List.append_assoc, List.cons_append, List.nil_append]

def oS (X : List PVal) (s : SledI) (c : List (Int × Int)) (u v w : Int) : Sto := (2, .arr X 1 2) :: bS s c u v w
def B1 (l : List (Int × Int)) (s : SledI) (n : Nat) (g r st : Int) (sf : Bool) (i : Nat) : Env := [(1, csl l), (3, .ptr 0 0 0), (5, .ptr 1 0 0), (7, iv n), (8, iv g), (9, iv r), (10, iv st), (11, .p (.sl (pI (runL s l g n)) n)), (15, .p (.bool sf)), (21, .sl 2 1 0 l.length), (190, iv l.length), (191, iv i)]

theorem open_loop {s : SledI} {l c : List (Int × Int)} (hl : Valid l) (n : Nat) (g r st u v w : Int) (hw0 : 0 ≤ w) (hw1 : w ≤ 255) (sf : Bool) :
  loopN (loopS (evFn F C0 G0 60) C0 G0 0 false [1, 3, 5, 7, 8, 9, 10, 11, 15, 21, 190, 191] c8L1) loopFuel ⟨B1 l s n g r st sf 0, oS (cI l) s c u v w⟩ = .ret (.exit 2, ⟨B1 l s n g r st sf l.length ++ [(192, .p (.bool false))], oS (cI (openL l (w % 7))) s c u v w⟩) := by
 have hsm := hl.small
 have key := loop_run' (step := loopS (evFn F C0 G0 60) C0 G0 0 false [1, 3, 5, 7, 8, 9, 10, 11, 15, 21, 190, 191] c8L1) (fun i => ⟨B1 l s n g r st sf i, oS (cI (oF l (w % 7) i)) s c u v w⟩) l.length (e := .exit 2) (st' := ⟨B1 l s n g r st sf l.length ++ [(192, .p (.bool false))], oS (cI (oF l (w % 7) l.length)) s c u v w⟩) (st0 := ⟨B1 l s n g r st sf 0, oS (cI (oF l (w % 7) 0)) s c u v w⟩) (fuel := loopFuel) (by simp) rfl ?_ (by simp -implicitDefEqProofs [B1, loopS_eq, c8L1]) (by simp [loopFuel]; omega)
 ·rw [oF_zero, oF_all] at key
  exact key
 intro i hi
 have hlt' : (i : Int) < (l.length : Int) := by omega
 have hXl := oF_length l (w % 7) i
 have hat := oF_at l (w % 7) i hi
 have hsu := oF_succ l (w % 7) i hi
 have hs1 := cI_set1 (oF l (w % 7) i) i (by omega) (min 100 (l[i].2 + w % 7))
 have hg1 := cI_get1 (oF l (w % 7) i) i (by omega)
 rw [hat (by omega), hsu] at hs1
 rw [hat (by omega)] at hg1
 have hCl : (cI (oF l (w % 7) i)).length = l.length * 2 := by simp [hXl]
 have hgd : l.getD i (0, 0) = l[i] := by simp [List.getD_eq_getElem?_getD, List.getElem?_eq_getElem hi]
 have hv := hl.val i hi
 rw [hgd] at hv
 have hwm : w.tmod 7 = w % 7 := Int.tmod_eq_emod_of_nonneg hw0
 have hw := wrap_succ (i := i) (by omega)
 have q1 := wrap64 (n := w) (by omega) (by omega)
 have q2 := wrap64 (n := w % 7) (by omega) (by omega)
 have q3 := wrap64 (n := l[i].2 + w % 7) (by omega) (by omega)
 have mn := minP2 100 (l[i].2 + w % 7)
 have hi2 : i * 2 + 1 < l.length * 2 := by omega
 have hi3 : i * 2 + 1 + 1 ≤ l.length * 2 := by omega
 have hg2 : ∀ q, (cI (oF l (w % 7) i))[i * 2 + 1]'q = .int .i64 l[i].2 := fun q => by
  rw [List.getElem?_eq_getElem q] at hg1
  exact Option.some.inj hg1
 clear hg1 hat hsu
 generalize hC : cI (oF l (w % 7) i) = C at *
 generalize hD : cI (oF l (w % 7) (i + 1)) = D at *
 generalize l[i].2 = y at *
 refine ⟨?_, ?h1, ?h2⟩
 case h1 =>
  simp -implicitDefEqProofs [B1, oS, bS, loopS_eq, c8L1, hlt', hCl, hg2, hs1, hwm, hw, q1, q3, mn, hi2, hi3]
  exact rfl
 case h2 => simp [B1, oS, bS]

def B2 (l : List (Int × Int)) (s : SledI) (n : Nat) (g r st : Int) (sf : Bool) (u : List (Int × Int)) (i : Nat) : Env := [(1, csl l), (3, .ptr 0 0 0), (5, .ptr 1 0 0), (7, iv n), (8, iv g), (9, iv r), (10, iv st), (11, .p (.sl (pI (runL s l g n)) n)), (15, .p (.bool sf)), (227, .p (.sl (pI (runL s u g n)) n)), (228, iv n), (229, iv i)]

theorem more_loop {s : SledI} (hs : SledOk s) {l o : List (Int × Int)} (hl : Valid l) (ho : Wider l o) (n : Nat) (hn : n ≤ 64) {g : Int} (hg : 0 ≤ g) (r st : Int) (sf : Bool) (S : Sto) :
  loopN (loopS (evFn F C0 G0 60) C0 G0 0 false [1, 3, 5, 7, 8, 9, 10, 11, 15, 227, 228, 229] c8L2) loopFuel ⟨B2 l s n g r st sf o 0, S⟩ = .ret (.exit 4, ⟨B2 l s n g r st sf o n ++ [(230, .p (.bool false))], S⟩) := by
 refine loop_run' (fun i => ⟨B2 l s n g r st sf o i, S⟩) n (by simp) rfl ?_ (by simp -implicitDefEqProofs [B2, loopS_eq, c8L2]) (by simp [loopFuel]; omega)
 intro i hi
 have hlt' : (i : Int) < (n : Int) := by omega
 have hPl : (pI (runL s l g n)).length = n := by simp [runL_length]
 have hQl : (pI (runL s o g n)).length = n := by simp [runL_length]
 have hPg : ∀ q, (pI (runL s l g n))[i]'q = .int .i64 (runF s l g (i + 1)) := fun q => by simp [pI, runL]
 have hQg : ∀ q, (pI (runL s o g n))[i]'q = .int .i64 (runF s o g (i + 1)) := fun q => by simp [pI, runL]
 have hw := wrap_succ (i := i) (by omega)
 have m1 := run_mono hs ho hl hg (Int.le_refl g) (i + 1)
 have n1 : ¬ runF s o g (i + 1) < runF s l g (i + 1) := by omega
 generalize hP : pI (runL s l g n) = P at *
 generalize hQ : pI (runL s o g n) = Q at *
 generalize runF s l g (i + 1) = a1 at *
 generalize runF s o g (i + 1) = a2 at *
 refine ⟨?_, ?h1, ?h2⟩
 case h1 =>
  simp -implicitDefEqProofs [B2, hP, hQ, loopS_eq, c8L2, hlt', hi, hPl, hQl, hPg, hQg, hw, n1]
  exact rfl
 case h2 => simp [B2, hP, hQ]
end Fw
