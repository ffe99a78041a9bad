/- The law on what is chosen: its loops over the packs. -/
import Derived.Test.YtombnimlolbekaaGreatDoorPuCh2
import Derived.Test.YtombnimlolbekaaGreatDoorPuLanes
import Derived.Test.YtombnimlolbekaaGreatDoorPuUt
set_option maxHeartbeats 16000000
set_option maxRecDepth 8000
namespace Fw
open Go
attribute [local irreducible] evCode evOps evOpsD evOper evOperD evOp evFn loopN T.All T.bind callPure callOp opsK opsDK restK seqK blockK loopS setK setQ giveK scalK gcK finish finS rfunK yldK yldB loopK

theorem hidT131072 : hidT 131072 = [17] := by decide
abbrev moreN : List UInt8 := [109, 111, 114, 101]
def cS (x : Int × Int) (n0 n1 : Int) : Sto := [(1, .arr [.int .i16 n0, .int .i16 n1] 0 1), (0, .arr [.int .i64 x.1, .int .i64 x.2] 0 1)]
def D0 (l : List PackI) (i : Nat) : Env := [(0, psl l), (4, .ptr 0 0 0), (5, .ptr 1 0 0), (50, psl l), (51, iv l.length), (52, iv i)]
def noM (l : List PackI) : Bool := l.all fun y => y.name != moreN
def isM (y : PackI) : Bool := y.name == moreN
theorem name_loop {l : List PackI} (hl : l.length ≤ 8) (x : Int × Int) (n0 n1 : Int) :
  ∃ s, loopN (loopS (evFn F C0 G0 60) C0 G0 0 true [0, 4, 5, 50, 51, 52] c11L0) loopFuel ⟨D0 l 0, cS x n0 n1⟩ = .ret (if noM l = true then (.exit 0, ⟨D0 l l.length ++ [(53, .p (.bool false))], cS x n0 n1⟩) else (.ret, ⟨[(6, .p (.bool true))], s⟩)) := by
 have ka := awake12
 let out : Nat → Ex × St := fun i => match (l.drop i).find? isM with
  | none => (.exit 0, ⟨D0 l l.length ++ [(53, .p (.bool false))], cS x n0 n1⟩)
  | some y => (.ret, ⟨[(6, .p (.bool true))], (2, .arr (pkc y) 0 1) :: cS x n0 n1⟩)
 have key := loop_rec' (step := loopS (evFn F C0 G0 60) C0 G0 0 true [0, 4, 5, 50, 51, 52] c11L0) (fun i => ⟨D0 l i, cS x n0 n1⟩) out l.length (st0 := ⟨D0 l 0, cS x n0 n1⟩) rfl ?_ ?_ (fuel := loopFuel) (by simp [loopFuel]; omega)
 ·cases hf : l.find? isM with
  | none =>
   have hn : noM l = true := by
    rw [List.find?_eq_none] at hf
    simp only [noM, List.all_eq_true, bne_iff_ne, ne_eq]
    intro y hy e
    exact hf y hy (by simp [isM, e])
   refine ⟨[], ?_⟩
   rw [key, if_pos hn]
   simp [out, hf]
  | some y =>
   have hy := List.find?_some hf
   have hm := List.mem_of_find?_eq_some hf
   have hn : noM l = false := by
    rw [← Bool.not_eq_true]
    intro h
    simp only [noM, List.all_eq_true, bne_iff_ne, ne_eq] at h
    exact h y hm (by simpa [isM] using hy)
   refine ⟨(2, .arr (pkc y) 0 1) :: cS x n0 n1, ?_⟩
   rw [key, hn]
   simp [out, hf]
 ·intro i hi
  have hlt' : (i : Int) < l.length := by omega
  have hx := cP_drop l i hi
  have hw := wrap_succ (i := i) (by omega)
  have hlt : i * 4 < l.length * 4 := by omega
  have hlt4 : i * 4 + 4 ≤ l.length * 4 := by omega
  have hd : (l.drop i).find? isM = if isM l[i] = true then some l[i] else (l.drop (i + 1)).find? isM := by
   rw [List.drop_eq_getElem_cons hi, List.find?_cons]
   split <;> rename_i h <;> simp [h]
  generalize l[i] = y at *
  obtain ⟨nm, fo, ti, co⟩ := y
  simp only at hx
  generalize cP (l.drop (i + 1)) = R at *
  cases hm : isM ⟨nm, fo, ti, co⟩ with
  | true =>
   have hb : (nm == moreN) = true := hm
   refine .inr ⟨?_, ?_⟩
   ·simp -implicitDefEqProofs [D0, cS, loopS_eq, c11L0, hlt', hx, hlt, strBin, hb, ka, out, hd, hm]
   ·simp [out, hd, hm]
  | false =>
   have hb : (nm == moreN) = false := hm
   refine .inl ⟨⟨⟨D0 l (i + 1), (2, .arr (pkc ⟨nm, fo, ti, co⟩) 0 1) :: cS x n0 n1⟩, ?_, loopS_same rfl (by simp [D0, cS])⟩, ?_⟩
   ·simp -implicitDefEqProofs [D0, cS, loopS_eq, c11L0, hlt', hx, hlt, strBin, hb, hw]
   ·simp [out, hd, hm]
 ·have : l.drop l.length = [] := List.drop_of_length_le (by omega)
  simp -implicitDefEqProofs [D0, cS, loopS_eq, c11L0, out, this]

def D1 (l : List PackI) (out : List Int) (co e : Int) (N b i : Nat) : Env := [(0, psl l), (4, .ptr 0 0 0), (5, .ptr 1 0 0), (9, .p (.sl (pI out) out.length)), (10, iv co), (11, iv e), (12, iv b), (13, .sl 2 (selF b i).length 0 (selF b i).length), (14, iv (cst l (selF b i))), (15, iv (impS l (selF b i))), (87, iv N), (88, iv b), (91, psl l), (92, iv l.length), (93, iv i)]
theorem sets_loop11 {l : List PackI} (hp : PksOk l) (x : Int × Int) (n0 n1 : Int) (out : List Int) (co e : Int) (N b : Nat) :
  loopN (loopS (evFn F C0 G0 60) C0 G0 0 true [0, 4, 5, 9, 10, 11, 12, 13, 14, 15, 87, 88, 91, 92, 93] c11L1) loopFuel ⟨D1 l out co e N b 0, (2, .arr [] 0 1) :: cS x n0 n1⟩ =
   .ret (.exit 4, ⟨D1 l out co e N b l.length ++ [(94, .p (.bool false))], (2, .arr (pI (selF b l.length)) (selF b l.length).length 1) :: cS x n0 n1⟩) := by
 have hfew := hp.few
 refine loop_run' (fun i => ⟨D1 l out co e N b i, (2, .arr (pI (selF b i)) (selF b i).length 1) :: cS x n0 n1⟩) l.length (e := .exit 4) (by simp) rfl (fun i hi => ?_) ?_ (by simp [loopFuel]; omega)
 ·have hlt' : (i : Int) < l.length := by omega
  have hx := cP_drop l i hi
  have hlt : i * 4 < l.length * 4 := by omega
  have hlt4 : i * 4 + 4 ≤ l.length * 4 := by omega
  have hpk := hp.all _ (List.getElem_mem hi)
  have him := imp_in hpk
  have hco := hpk.cost
  obtain ⟨r1, r2⟩ := selF_in b i
  have hlim : (selF b i).length + 1 ≤ lim := by simp only [lim]; omega
  have hin : InR l.length (selF b i) := fun y hy => by have := r1 y hy; omega
  have hsum := sums_in hp hin (selF b i).length (Nat.le_refl _)
  obtain ⟨s1, s2⟩ := sums_snoc l (selF b i) i hi
  have hi1 : impF l (selF b i) (selF b i).length = impS l (selF b i) := rfl
  have hc1 : cstF l (selF b i) (selF b i).length = cst l (selF b i) := rfl
  rw [hi1, hc1] at hsum
  have hs : selF b (i + 1) = if b / 2 ^ i % 2 = 1 then selF b i ++ [(i : Int)] else selF b i := rfl
  have hmin : Nat.min i 64 = i := Nat.min_eq_left (by omega)
  have hfd : shiftP false (iv b) (iv i) = some (iv (b / 2 ^ i : Nat)) := by
   have h0 : ¬ (i : Int) < 0 := by omega
   simp only [shiftP, h0, if_false, Bool.false_eq_true, Int.toNat_natCast, IntKind.bits]
   rw [hmin, Int.fdiv_eq_ediv_of_nonneg _ (Int.pow_nonneg (by omega))]
   norm_cast
  have hw := wrap_succ (i := i) (by omega)
  have hpl : (pI (selF b i)).length = (selF b i).length := by simp
  simp only [impI] at s1 him
  generalize b / 2 ^ i = q at *
  generalize hS1 : selF b (i + 1) = S1 at *
  generalize hS : selF b i = S at *
  generalize l[i] = y at *
  obtain ⟨nm, fo, ti, cc⟩ := y
  simp only at hx s1 s2 him hco
  have w1 : IntKind.i64.wrap (cst l S + cc) = cst l S + cc := wrap64 (by omega) (by omega)
  have w2 : IntKind.i64.wrap (fo * ti) = fo * ti := wrap64 (by omega) (by omega)
  have w3 : IntKind.i64.wrap (impS l S + fo * ti) = impS l S + fo * ti := wrap64 (by omega) (by omega)
  generalize cP (l.drop (i + 1)) = R at *
  by_cases hc : q % 2 = 1
  ·rw [if_pos hc] at hs
   have hand1 := and_one' hc
   subst hs
   refine ⟨⟨D1 l out co e N b (i + 1), (3, .arr (pkc ⟨nm, fo, ti, cc⟩) 0 1) :: (2, .arr (pI (S ++ [(i : Int)])) (S.length + 1) 1) :: cS x n0 n1⟩, ?_, ?_⟩
   ·simp -implicitDefEqProofs [D1, cS, hS, hS1, loopS_eq, c11L1, hlt', hx, hlt, hfd, hand1, s1, s2, hlim, hw, w1, w2, w3, hpl, pI_snoc, hidI, hidT131072]
   ·exact loopS_same rfl (by simp [D1, cS, hS1])
  ·rw [if_neg hc] at hs
   have hand0 := and_one' (show q % 2 = 0 by omega)
   subst hs
   refine ⟨⟨D1 l out co e N b (i + 1), (3, .arr (pkc ⟨nm, fo, ti, cc⟩) 0 1) :: (2, .arr (pI S1) S1.length 1) :: cS x n0 n1⟩, ?_, ?_⟩
   ·simp -implicitDefEqProofs [D1, cS, hS, hS1, loopS_eq, c11L1, hlt', hx, hlt, hfd, hand0, hw]
   ·exact loopS_same rfl (by simp [D1, cS, hS1])
 ·simp -implicitDefEqProofs [D1, cS, loopS_eq, c11L1]
end Fw
