/- The law on runs below: the loop over what is learned. -/
import Derived.Test.YtombnimlolbekaaGreatDoorPuBl4
set_option maxHeartbeats 16000000
namespace Fw
open Go
attribute [local irreducible] evCode evOps evOpsD evOper evOperD evOp evFn loopN T.All T.bind callPure callOp opsK opsDK restK seqK blockK loopS setK setQ giveK scalK gcK finish finS rfunK yldK yldB loopK

def B5 (l : List (Int × Int)) (n : Nat) (g st : Int) (H : List PVal) (R k : Nat) : Env := [(1, csl l), (3, .ptr 0 0 0), (5, .ptr 1 0 0), (7, iv n), (8, iv g), (10, iv st), (27, .p (.sl H R)), (285, .p (.sl H R)), (286, iv R), (287, iv k)]

theorem sled_to {s : SledI} (h : SledOk s) : sledE s = 0 := by
 have h1 := h.low
 have h2 := h.high
 have h3 := h.le
 have h4 := h.lag
 have h5 := h.delay
 have h6 := h.load
 refine firstE_zero.2 fun e he => ?_
 simp only [List.mem_cons, List.not_mem_nil, or_false] at he
 rcases he with rfl | rfl | rfl | rfl
 ·exact ivE_zero.2 (by omega)
 ·exact rangeE_zero.2 (by omega)
 ·exact rangeE_zero.2 (by omega)
 ·exact rangeE_zero.2 (by omega)

theorem badL_zero {s : SledI} (hs : SledOk s) {y c : List (Int × Int)} (hy : Valid y) (hc : corrE c = 0) (hsf : safeB s y c.length = true) {g st : Int} (hg : 0 ≤ g) (hg2 : g ≤ 10000) (hst : 1 ≤ st ∧ st ≤ 100) : badL s y c (runL s y g c.length) st = 0 := by
 refine firstE_zero.2 fun e he => ?_
 simp only [List.mem_cons, List.not_mem_nil, or_false] at he
 rcases he with rfl | rfl | rfl
 ·have h3 : bad3 s y c = 0 := by
   refine firstE_zero.2 fun e he => ?_
   simp only [List.mem_cons, List.not_mem_nil, or_false] at he
   rcases he with rfl | rfl | rfl
   ·exact sled_to hs
   ·exact valid_to hy
   ·exact hc
  unfold safeE
  rw [if_pos h3, hsf]
  rfl
 ·refine firstE_zero.2 fun e he => ?_
  simp only [List.mem_cons, List.not_mem_nil, or_false] at he
  rcases he with rfl | rfl
  ·refine (whenE_zero (by decide)).2 ?_
   simp [runL_length]
  ·refine accE_zero.2 fun a ha => ?_
   obtain ⟨i, _, rfl⟩ := List.mem_map.1 ha
   have := runF_bound (s := s) hy hg hs.lag.1 (i + 1)
   omega
 ·exact rangeE_zero.2 hst

theorem settings_round {s : SledI} (hs : SledOk s) {l y z c : List (Int × Int)} (hl : Valid l) (hy : Valid y) (hyl : y.length = l.length) (hzl : z.length = l.length) (hf : ∀ i, (y.getD i (0, 0)).1 = (l.getD i (0, 0)).1)
  (hzv : ∀ i, i < l.length → 0 ≤ (z.getD i (0, 0)).2 ∧ (z.getD i (0, 0)).2 ≤ 100) (hc : corrE c = 0) (hsf : safeB s y c.length = true) {g st : Int} (hg1 : s.low ≤ g) (hg2 : g ≤ s.high) (hst : 1 ≤ st ∧ st ≤ 100)
  (H : List PVal) (R k : Nat) (hk : k < R) (hR : R ≤ 10) (hH : H.length = R) (hHk : ∀ q, H[k]'q = csv y) (hHn : k + 1 < R → ∀ q, H[k + 1]'q = csv (learnedL s y c (runL s y g c.length) st))
  (hzk : 0 < k → ∀ q, H[k - 1]'q = csv z) (hn : 0 < k → ∀ i, i < l.length → max ((y.getD i (0, 0)).2 - (z.getD i (0, 0)).2) ((z.getD i (0, 0)).2 - (y.getD i (0, 0)).2) ≤ st) (X : List PVal) (u v w : Int) :
  ∃ st1, loopS (evFn F C0 G0 60) C0 G0 0 false [1, 3, 5, 7, 8, 10, 27, 285, 286, 287] c8L5 ⟨B5 l c.length g st H R k, oS X s c u v w⟩ = .ret (.normal, st1) ∧
   loopS (evFn F C0 G0 60) C0 G0 0 false [1, 3, 5, 7, 8, 10, 27, 285, 286, 287] c8L5 st1 = loopS (evFn F C0 G0 60) C0 G0 0 false [1, 3, 5, 7, 8, 10, 27, 285, 286, 287] c8L5 ⟨B5 l c.length g st H R (k + 1), oS X s c u v w⟩ := by
 have hlo := hs.low
 have hhi := hs.high
 have hsm := hl.small
 have hcc := corrE_zero hc
 have hnn : 1 ≤ (c.length : Int) ∧ (c.length : Int) ≤ 64 := by omega
 have k52 := told52 (n := 60) (by omega) y (by omega)
 have k19 := setting19 (n := 60) (by omega) y (by omega)
 rw [valid_to hy] at k19
 have k14 := steps14 (n := 60) (by omega) y (by omega)
 have k17 := safe17 (n := 60) (by omega) s y c.length (by omega)
 have hbN : badN s y c.length = 0 := by
  refine firstE_zero.2 fun e he => ?_
  simp only [List.mem_cons, List.not_mem_nil, or_false] at he
  rcases he with rfl | rfl | rfl
  ·exact sled_to hs
  ·exact valid_to hy
  ·exact rangeE_zero.2 hnn
 rw [hbN, if_pos rfl, Int.toNat_natCast, hsf] at k17
 have k15 := run15 (n := 60) (by omega) s y g c.length (by omega)
 have hbR : badR s y g c.length = 0 := by
  refine firstE_zero.2 fun e he => ?_
  simp only [List.mem_cons, List.not_mem_nil, or_false] at he
  rcases he with rfl | rfl | rfl | rfl
  ·exact sled_to hs
  ·exact valid_to hy
  ·exact rangeE_zero.2 ⟨hg1, hg2⟩
  ·exact rangeE_zero.2 hnn
 rw [if_pos hbR, Int.toNat_natCast] at k15
 have k32 := spans32 (n := 60) (by omega) c (by omega)
 obtain ⟨p, k33, rfl⟩ := ints33 (n := 60) (by omega) (runL s y g c.length) (by rw [runL_length]; omega)
 have k44 := learned44 (n := 60) (by omega) s y c (runL s y g c.length) st (by omega) (by omega) (by rw [runL_length]; omega)
 rw [if_pos (badL_zero hs hy hc hsf (by omega) (by omega) hst)] at k44
 simp only [isl, runL_length] at k33 k44
 have hzl2 : (learnedL s y c (runL s y g c.length) st).length = y.length := (learnedL_keep hy).len
 have k52b := told52 (n := 60) (by omega) (learnedL s y c (runL s y g c.length) st) (by omega)
 have k51 := same51 (n := 60) (by omega) (learnedL s y c (runL s y g c.length) st) (learnedL s y c (runL s y g c.length) st) (by omega)
 simp only [csl, hzl2, decide_true] at k52b k51
 have kl3 := load_loop (l := l) (c := c) hs hy c.length (by omega) (show 0 ≤ g by omega) hg2 hsf st H R k X u v w
 have kl4 := near_loop s (by omega) hyl hzl hf (fun i hi => ⟨by have := hy.val i (by omega); omega, hzv i hi⟩) c.length g st H R k hk hR hH hzk hn (oS X s c u v w)
 simp only [csv] at hHk
 simp only [csv, hzl2] at hHn
 have z00 : ((0 : Nat) : Int) = 0 := rfl
 simp only [B3, B4, z00, oS, bS] at kl3 kl4
 have hlt' : (k : Int) < (R : Int) := by omega
 have hw := wrap_succ (i := k) (by omega)
 have hyl2 : (y.length : Int) = l.length := by omega
 simp only [hyl2] at kl4
 generalize hY : learnedL s y c (runL s y g c.length) st = Y at *
 by_cases hlast : k + 1 < R
 ·have hHn := hHn hlast
  have hl1 : (k : Int) + 1 < (R : Int) := by omega
  refine ⟨?_, ?h1, ?h2⟩
  case h1 =>
   simp -implicitDefEqProofs [B5, oS, bS, loopS_eq, c8L5, hlt', hk, hH, hHk, k52, k19, k14, k17, k15, hyl2]
   rw [kl3]
   simp -implicitDefEqProofs [hyl2]
   rw [kl4]
   simp -implicitDefEqProofs [hw, hl1, hlast, k52, k14, k32, k33, k44, k52b, k51, hH, hHn]
   exact rfl
  case h2 => simp [B5, oS, bS]
 ·have hl1 : ¬ (k : Int) + 1 < (R : Int) := by omega
  refine ⟨?_, ?h1, ?h2⟩
  case h1 =>
   simp -implicitDefEqProofs [B5, oS, bS, loopS_eq, c8L5, hlt', hk, hH, hHk, k52, k19, k14, k17, k15, hyl2]
   rw [kl3]
   simp -implicitDefEqProofs [hyl2]
   rw [kl4]
   simp -implicitDefEqProofs [hw, hl1]
   exact rfl
  case h2 => simp [B5, oS, bS]
end Fw
