/- The law on runs below: its first loops. -/
import Derived.Test.YtombnimlolbekaaGreatDoorPuBl1
import Derived.Test.YtombnimlolbekaaGreatDoorPuRuns
set_option maxHeartbeats 16000000
namespace Fw
open Go
attribute [local irreducible] evCode evOps evOpsD evOper evOperD evOp evFn loopN T.All T.bind callPure callOp opsK opsDK restK seqK blockK loopS setK setQ giveK scalK gcK finish finS rfunK yldK yldB loopK

def bS (s : SledI) (c : List (Int × Int)) (u v w : Int) : Sto := [(1, .box [csl c, .p (.int .u16 u), .p (.int .u8 v), .p (.int .u8 w)]), (0, .arr (slc s) 0 1)]
def highB (s : SledI) (l : List (Int × Int)) (i : Nat) : Bool := (List.range i).all fun j => decide (runF s l s.high (j + 1) ≤ s.load)
theorem highB_succ (s : SledI) (l : List (Int × Int)) (i : Nat) : highB s l (i + 1) = (highB s l i && decide (runF s l s.high (i + 1) ≤ s.load)) := by
 simp [highB, List.range_succ]
theorem highB_safe (s : SledI) (l : List (Int × Int)) (k : Nat) : highB s l k = safeB s l k := by
 have h := safeB_iff s l k
 have g : highB s l k = true ↔ ∀ j, j < k → runF s l s.high (j + 1) ≤ s.load := by simp [highB]
 exact Bool.eq_iff_iff.2 (g.trans h.symm)

def B0 (l : List (Int × Int)) (s : SledI) (n : Nat) (g r st : Int) (sf : Bool) (i : Nat) : Env := [(1, csl l), (3, .ptr 0 0 0), (5, .ptr 1 0 0), (7, iv n), (8, iv g), (9, iv r), (10, iv st), (11, .p (.sl (pI (runL s l g n)) n)), (13, .p (.sl (cI (enclL s l n)) n)), (15, .p (.bool sf)), (17, iv (runF s l g i)), (18, .p (.bool (highB s l i))), (136, .p (.sl (pI (runL s l g n)) n)), (137, iv n), (138, iv i)]

theorem below_loop {s : SledI} (hs : SledOk s) {l c : List (Int × Int)} (hl : Valid l) (n : Nat) (hn : n ≤ 64) {g : Int} (hg1 : s.low ≤ g) (hg2 : g ≤ s.high) (r st u v w : Int) (sf : Bool) :
  loopN (loopS (evFn F C0 G0 60) C0 G0 0 false [1, 3, 5, 7, 8, 9, 10, 11, 13, 15, 17, 18, 136, 137, 138] c8L0) loopFuel ⟨B0 l s n g r st sf 0, bS s c u v w⟩ = .ret (.exit 0, ⟨B0 l s n g r st sf n ++ [(139, .p (.bool false))], bS s c u v w⟩) := by
 refine loop_run' (fun i => ⟨B0 l s n g r st sf i, bS s c u v w⟩) n (by simp) rfl ?_ (by simp -implicitDefEqProofs [B0, loopS_eq, c8L0]) (by simp [loopFuel]; omega)
 intro i hi
 have hlo := hs.low
 have hlt' : (i : Int) < (n : Int) := by omega
 have hi2 : i * 2 < n * 2 := by omega
 have hPl : (pI (runL s l g n)).length = n := by simp [runL_length]
 have hQl : (cI (enclL s l n)).length = n * 2 := by simp [enclL_length]
 have hPg : ∀ q, (pI (runL s l g n))[i]'q = .int .i64 (runF s l g (i + 1)) := fun q => by simp [pI, runL]
 have hcd := cI_drop (enclL s l n) i (by simpa [enclL_length] using hi)
 have hre : ∀ q, (enclL s l n)[i]'q = (runF s l s.low (i + 1), runF s l s.high (i + 1)) := fun q => by simp [enclL]
 rw [hre] at hcd
 have hw := wrap_succ (i := i) (by omega)
 have m1 := run_mono hs (Wider.refl l) hl (show 0 ≤ s.low by omega) hg1 (i + 1)
 have m2 := run_mono hs (Wider.refl l) hl (show 0 ≤ g by omega) hg2 (i + 1)
 have m3 := run_ahead hs hl (show 0 ≤ g by omega) i
 have m4 := (runF_bound (s := s) hl (show 0 ≤ g by omega) hs.lag.1 (i + 1)).1
 have hh := highB_succ s l i
 have mx := max2 (runF s l g i) g
 generalize hP : pI (runL s l g n) = P at *
 generalize hQ : cI (enclL s l n) = Q at *
 generalize hA : runF s l g (i + 1) = a1 at *
 generalize runF s l s.low (i + 1) = a2 at *
 generalize runF s l s.high (i + 1) = a3 at *
 generalize hN : runF s l g i = a0 at *
 generalize hB : highB s l i = b at *
 have n1 : ¬ a1 < a2 := by omega
 have n2 : ¬ a3 < a1 := by omega
 have n3 : ¬ max a0 g < a1 := by omega
 have n4 : ¬ a1 < 0 := by omega
 cases b
 ·refine ⟨?_, ?h1, ?h2⟩
  case h1 =>
   simp -implicitDefEqProofs [B0, bS, hP, hQ, hN, hB, loopS_eq, c8L0, hlt', hi, hi2, hPl, hQl, hPg, hcd, hw, n1, n2, n3, n4, mx]
   exact rfl
  case h2 => simp [B0, bS, hP, hQ, hA, hh]
 ·refine ⟨?_, ?h1, ?h2⟩
  case h1 =>
   simp -implicitDefEqProofs [B0, bS, hP, hQ, hN, hB, loopS_eq, c8L0, hlt', hi, hi2, hPl, hQl, hPg, hcd, hw, n1, n2, n3, n4, mx]
   exact rfl
  case h2 => simp [B0, bS, hP, hQ, hA, hh]
end Fw
