/- The law on runs below: what is learned, its inner loops. -/
import Derived.Test.YtombnimlolbekaaGreatDoorPuBl3
set_option maxHeartbeats 16000000
namespace Fw
open Go
attribute [local irreducible] evCode evOps evOpsD evOper evOperD evOp evFn loopN T.All T.bind callPure callOp opsK opsDK restK seqK blockK loopS setK setQ giveK scalK gcK finish finS rfunK yldK yldB loopK

def B3 (s : SledI) (l y : List (Int × Int)) (n : Nat) (g st : Int) (H : List PVal) (R k i : Nat) : Env := [(1, csl l), (3, .ptr 0 0 0), (5, .ptr 1 0 0), (7, iv n), (8, iv g), (10, iv st), (27, .p (.sl H R)), (29, iv k), (30, csl y), (33, .p (.sl (pI (runL s y g n)) n)), (285, .p (.sl H R)), (286, iv R), (287, iv k), (338, .p (.sl (pI (runL s y g n)) n)), (339, iv n), (340, iv i)]

theorem load_loop {s : SledI} (hs : SledOk s) {l y c : List (Int × Int)} (hy : Valid y) (n : Nat) (hn : n ≤ 64) {g : Int} (hg : 0 ≤ g) (hgh : g ≤ s.high) (hsf : safeB s y n = true) (st : Int) (H : List PVal) (R k : Nat) (X : List PVal) (u v w : Int) :
  loopN (loopS (evFn F C0 G0 60) C0 G0 0 false [1, 3, 5, 7, 8, 10, 27, 29, 30, 33, 285, 286, 287, 338, 339, 340] c8L3) loopFuel ⟨B3 s l y n g st H R k 0, oS X s c u v w⟩ = .ret (.exit 8, ⟨B3 s l y n g st H R k n ++ [(341, .p (.bool false))], oS X s c u v w⟩) := by
 refine loop_run' (fun i => ⟨B3 s l y n g st H R k i, oS X s c u v w⟩) n (by simp) rfl ?_ (by simp -implicitDefEqProofs [B3, loopS_eq, c8L3]) (by simp [loopFuel]; omega)
 intro i hi
 have hlt' : (i : Int) < (n : Int) := by omega
 have hPl : (pI (runL s y g n)).length = n := by simp [runL_length]
 have hPg : ∀ q, (pI (runL s y g n))[i]'q = .int .i64 (runF s y g (i + 1)) := fun q => by simp [pI, runL]
 have hw := wrap_succ (i := i) (by omega)
 have m1 := run_load hs hy hsf hg hgh i hi
 have n1 : ¬ s.load < runF s y g (i + 1) := by omega
 generalize hP : pI (runL s y g n) = P at *
 generalize runF s y g (i + 1) = a1 at *
 refine ⟨?_, ?h1, ?h2⟩
 case h1 =>
  simp -implicitDefEqProofs [B3, oS, bS, hP, loopS_eq, c8L3, hlt', hi, hPl, hPg, hw, n1]
  exact rfl
 case h2 => simp [B3, oS, bS, hP]

def B4 (s : SledI) (l y : List (Int × Int)) (n : Nat) (g st : Int) (H : List PVal) (R k i : Nat) : Env := [(1, csl l), (3, .ptr 0 0 0), (5, .ptr 1 0 0), (7, iv n), (8, iv g), (10, iv st), (27, .p (.sl H R)), (29, iv k), (30, csl y), (33, .p (.sl (pI (runL s y g n)) n)), (285, .p (.sl H R)), (286, iv R), (287, iv k), (350, iv y.length), (351, iv i)]

theorem near_loop (s : SledI) {l y z : List (Int × Int)} (hl : l.length ≤ 12) (hy : y.length = l.length) (hz : z.length = l.length) (hf : ∀ i, (y.getD i (0, 0)).1 = (l.getD i (0, 0)).1) (hb : ∀ i, i < l.length → (0 ≤ (y.getD i (0, 0)).2 ∧ (y.getD i (0, 0)).2 ≤ 100) ∧ 0 ≤ (z.getD i (0, 0)).2 ∧ (z.getD i (0, 0)).2 ≤ 100)
  (n : Nat) (g st : Int) (H : List PVal) (R k : Nat) (hk : k < R) (hR : R ≤ 10) (hH : H.length = R) (hzk : 0 < k → ∀ q, H[k - 1]'q = csv z) (hn : 0 < k → ∀ i, i < l.length → max ((y.getD i (0, 0)).2 - (z.getD i (0, 0)).2) ((z.getD i (0, 0)).2 - (y.getD i (0, 0)).2) ≤ st) (S : Sto) :
  loopN (loopS (evFn F C0 G0 60) C0 G0 0 false [1, 3, 5, 7, 8, 10, 27, 29, 30, 33, 285, 286, 287, 350, 351] c8L4) loopFuel ⟨B4 s l y n g st H R k 0, S⟩ = .ret (.exit 10, ⟨B4 s l y n g st H R k y.length ++ [(352, .p (.bool false))], S⟩) := by
 refine loop_run' (fun i => ⟨B4 s l y n g st H R k i, S⟩) y.length (by simp) rfl ?_ (by simp -implicitDefEqProofs [B4, loopS_eq, c8L4]) (by simp [loopFuel]; omega)
 intro i hi
 have hil : i < l.length := by omega
 have hiz : i < z.length := by omega
 have hlt' : (i : Int) < (y.length : Int) := by omega
 have hlt2 : (i : Int) < (l.length : Int) := by omega
 have hlt3 : (i : Int) < (z.length : Int) := by omega
 have hw := wrap_succ (i := i) (by omega)
 have d1 := cI_drop y i hi
 have d2 := cI_drop l i hil
 have d3 := cI_drop z i hiz
 have gy : y.getD i (0, 0) = y[i] := by simp [List.getD_eq_getElem?_getD, List.getElem?_eq_getElem hi]
 have gl : l.getD i (0, 0) = l[i] := by simp [List.getD_eq_getElem?_getD, List.getElem?_eq_getElem hil]
 have gz : z.getD i (0, 0) = z[i] := by simp [List.getD_eq_getElem?_getD, List.getElem?_eq_getElem hiz]
 have e1 := hf i
 have b1 := hb i hil
 rw [gy, gl] at e1
 rw [gy, gz] at b1
 have c1 : (cI y).length = y.length * 2 := by simp
 have c2 : (cI l).length = l.length * 2 := by simp
 have c3 : (cI z).length = z.length * 2 := by simp
 have i1 : i * 2 < y.length * 2 := by omega
 have i2 : i * 2 < l.length * 2 := by omega
 have i3 : i * 2 < z.length * 2 := by omega
 rw [e1] at d1
 cases k with
 | zero =>
  generalize hY : cI y = Y at *
  generalize hL : cI l = L at *
  refine ⟨?_, ?h1, ?h2⟩
  case h1 =>
   simp -implicitDefEqProofs [B4, hY, hL, loopS_eq, c8L4, hlt', hlt2, d1, d2, c1, c2, i1, i2, hw]
   exact rfl
  case h2 => simp [B4]
 | succ j =>
  have hz1 := hzk (by omega)
  have hn1 := hn (by omega) i hil
  rw [gy, gz] at hn1
  simp only [Nat.add_sub_cancel] at hz1
  have k0 : (0 : Int) < (j : Int) + 1 := by omega
  have w1 := wrap64 (n := (j : Int) + 1 - 1) (by omega) (by omega)
  have w1e : (j : Int) + 1 - 1 = j := by omega
  have jR : j < R := by omega
  have jR2 : (j : Int) < (R : Int) := by omega
  have w2 := wrap64 (n := y[i].2 - z[i].2) (by omega) (by omega)
  have w3 := wrap64 (n := z[i].2 - y[i].2) (by omega) (by omega)
  have mx := max2 (y[i].2 - z[i].2) (z[i].2 - y[i].2)
  have n1 : ¬ st < max (y[i].2 - z[i].2) (z[i].2 - y[i].2) := by omega
  have w1' := wrap64 (n := (j : Int)) (by omega) (by omega)
  simp only [csv] at hz1
  generalize hY : cI y = Y at *
  generalize hL : cI l = L at *
  generalize hZ : cI z = Z at *
  refine ⟨?_, ?h1, ?h2⟩
  case h1 =>
   simp -implicitDefEqProofs [B4, hY, hL, loopS_eq, c8L4, hlt', hlt2, hlt3, d1, d2, d3, c1, c2, c3, i1, i2, i3, hw, k0, w1e, w1', jR, jR2, hH, hz1, w2, w3, mx, n1]
   exact rfl
  case h2 => simp [B4]
end Fw
