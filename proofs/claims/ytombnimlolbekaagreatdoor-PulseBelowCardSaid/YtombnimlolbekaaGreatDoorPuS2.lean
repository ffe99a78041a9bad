/- Valves and runs of settings: the pulse chapter and its reference. -/
import Derived.Test.YtombnimlolbekaaGreatDoorPuS1
set_option maxHeartbeats 8000000
namespace Fw
open Go
attribute [local irreducible] evCode evOps evOpsD evOper evOperD evOp evFn loopN T.All T.bind callPure callOp opsK opsDK restK seqK blockK loopS setK setQ giveK scalK gcK finish finS rfunK yldK yldB loopK

def accF (l : List (Int × Int)) (i : Nat) : Int := if i = 0 then 0 else (l.getD (i - 1) (0, 0)).2
def valveP (l : List (Int × Int)) (tick : Int) : Int := accF l (l.takeWhile fun x => decide (x.1 ≤ tick)).length

theorem takeWhile_at (l : List (Int × Int)) (tick : Int) : ∀ (j : Nat), j ≤ l.length → (∀ q, q < j → (l.getD q (0, 0)).1 ≤ tick) → (j = l.length ∨ tick < (l.getD j (0, 0)).1) → (l.takeWhile fun x => decide (x.1 ≤ tick)).length = j := by
 induction l with
 | nil => intro j hj _ _; simp at hj; subst hj; rfl
 | cons x r ih =>
  intro j hj h1 h2
  cases j with
  | zero =>
   have : tick < x.1 := by
    rcases h2 with h2 | h2
    ·simp at h2
    ·simpa using h2
   rw [List.takeWhile_cons_of_neg (by simpa using this)]
   rfl
  | succ j =>
   have h0 : x.1 ≤ tick := by simpa using h1 0 (by omega)
   rw [List.takeWhile_cons_of_pos (by simpa using h0)]
   simp only [List.length_cons]
   rw [ih j (by simpa using hj) (fun q hq => by simpa using h1 (q + 1) (by omega)) (by simpa using h2)]

theorem valve94 {n : Nat} (hn : 1 ≤ n) (l : List (Int × Int)) (tick : Int) (hl : l.length < 1000000) : RUN n 94 [csl l, iv tick] = .ret (iv (valveP l tick)) := by
 obtain ⟨d, rfl⟩ : ∃ d, n = d + 1 := ⟨n - 1, by omega⟩
 rw [RUN, call_eq fe94 _ rfl]
 let inv : Nat → St := fun i => ⟨[(1, iv tick), (5, iv (accF l i)), (8, csl l), (9, iv l.length), (10, iv i)], []⟩
 let sto : Nat → Sto := fun i => [(0, .arr [.int .i64 (l.getD i (0, 0)).1, .int .i64 (l.getD i (0, 0)).2] 0 1)]
 let e : Nat → Int := fun i => if tick < (l.getD i (0, 0)).1 then 1 else 0
 simp -implicitDefEqProofs [c94]
 have key := loop_first (step := loopS (evFn F C0 G0 d) C0 G0 0 true [1, 5, 8, 9, 10] c94L0) inv e l.length (.exit 0, ⟨(inv l.length).env ++ [(11, .p (.bool false))], []⟩)
  (fun i => (.exit 0, ⟨[(1, iv tick), (5, iv (accF l i)), (7, .ptr 0 0 0), (8, csl l), (9, iv l.length), (10, iv i), (17, .p (.bool true))], sto i⟩))
  (st0 := ⟨[(1, iv tick), (5, iv 0), (8, csl l), (9, iv l.length), (10, iv 0)], []⟩) rfl ?_ (fun i => by simp) (by simp [inv, loopS_eq, c94L0]) (by simp) (fuel := loopFuel) (by simp [loopFuel]; omega)
 ·rcases key with ⟨k1, k2⟩ | ⟨j, hj, k1, k2, k3, k4⟩
  ·have h0 : ∀ q, q < l.length → (l.getD q (0, 0)).1 ≤ tick := fun q hq => by
    have := firstE_zero.1 k2 (e q) (List.mem_map.2 ⟨q, by simpa using hq, rfl⟩)
    simp only [e] at this
    split at this <;> omega
   have hv : valveP l tick = accF l l.length := by rw [valveP, takeWhile_at l tick l.length (Nat.le_refl _) h0 (.inl rfl)]
   rw [k1, hv]
   simp -implicitDefEqProofs [inv]
  ·have h0 : ∀ q, q < j → (l.getD q (0, 0)).1 ≤ tick := fun q hq => by
    have := k4 q hq
    simp only [e] at this
    split at this <;> omega
   have h1 : tick < (l.getD j (0, 0)).1 := by
    simp only [e] at k3
    split at k3
    ·assumption
    ·exact absurd rfl k3
   have hv : valveP l tick = accF l j := by rw [valveP, takeWhile_at l tick j (by omega) h0 (.inr h1)]
   rw [k1, hv]
   simp -implicitDefEqProofs
 ·intro i hi
  have hx := cI_drop l i hi
  have hlt : i * 2 < l.length * 2 := by omega
  have hlt' : (i : Int) < l.length := by omega
  have hgi : l.getD i (0, 0) = l[i] := by simp [List.getD_eq_getElem?_getD, List.getElem?_eq_getElem hi]
  have ha : accF l (i + 1) = l[i].2 := by simp only [accF, Nat.add_sub_cancel, hgi]; rfl
  refine ⟨fun hz => ⟨⟨(inv (i + 1)).env, sto i⟩, ?_, loopS_same rfl (by simp [inv, sto])⟩, fun hz => ?_⟩
  ·have h1 : ¬ tick < l[i].1 := by
    intro hc
    simp only [e, hgi, hc, if_true] at hz
    omega
   simp -implicitDefEqProofs [inv, sto, loopS_eq, c94L0, hi, hx, hlt, hlt', h1, ha, wrap_succ (i := i) (by omega)]
  ·have h1 : tick < l[i].1 := by
    refine Classical.byContradiction (fun hc => hz ?_)
    simp only [e, hgi, hc, if_false]
   simp -implicitDefEqProofs [inv, sto, loopS_eq, c94L0, hi, hx, hlt, hlt', h1]

structure Valid (l : List (Int × Int)) : Prop where
 pos : 0 < l.length
 small : l.length ≤ 12
 zero : (l.getD 0 (0, 0)).1 = 0
 val : ∀ i, i < l.length → 0 ≤ (l.getD i (0, 0)).2 ∧ (l.getD i (0, 0)).2 ≤ 100 ∧ 0 ≤ (l.getD i (0, 0)).1 ∧ (l.getD i (0, 0)).1 ≤ 64
 inc : ∀ i, 0 < i → i < l.length → (l.getD (i - 1) (0, 0)).1 < (l.getD i (0, 0)).1

theorem valid_of {l : List (Int × Int)} (h : settingE l = 0) : Valid l := by
 unfold settingE at h
 split at h
 ·rename_i hs
  obtain ⟨h1, h2⟩ := sizedE_zero.1 hs
  have hx : ∀ i, i < l.length → rangeE 0 64 (l.getD i (0, 0)).1 = 0 ∧ rangeE 0 100 (l.getD i (0, 0)).2 = 0 ∧ whenE (apartB l i) 11 = 0 := fun i hi => by
   have := firstE_zero.1 h (stepE l i) (List.mem_map.2 ⟨i, by simpa using hi, rfl⟩)
   have h3 := firstE_zero.1 this
   exact ⟨h3 _ (by simp), h3 _ (by simp), h3 _ (by simp)⟩
  have hp : 0 < l.length := by omega
  refine ⟨hp, by omega, ?_, fun i hi => ?_, fun i h0 hi => ?_⟩
  ·have := (whenE_zero (by decide)).1 (hx 0 hp).2.2
   simpa [apartB] using this
  ·obtain ⟨a, b, _⟩ := hx i hi
   have := rangeE_zero.1 a
   have := rangeE_zero.1 b
   omega
  ·have := (whenE_zero (by decide)).1 (hx i hi).2.2
   simp only [apartB, if_neg (show ¬ i = 0 by omega), decide_eq_false_iff_not] at this
   omega
 ·rename_i hs; exact absurd h hs

theorem Valid.mono {l : List (Int × Int)} (h : Valid l) : ∀ (j i : Nat), i ≤ j → j < l.length → (l.getD i (0, 0)).1 ≤ (l.getD j (0, 0)).1 := by
 intro j
 induction j with
 | zero => intro i hi _; rw [show i = 0 by omega]; exact Int.le_refl _
 | succ j ih =>
  intro i hi hj
  by_cases he : i = j + 1
  ·subst he; exact Int.le_refl _
  ·have h1 := ih i (by omega) (by omega)
   have h2 := h.inc (j + 1) (by omega) hj
   rw [Nat.add_sub_cancel] at h2
   omega

theorem cI_append (a b : List (Int × Int)) : cI (a ++ b) = cI a ++ cI b := by
 induction a with
 | nil => rfl
 | cons x r ih => simp [cI, ih]
theorem cI_snoc (l : List (Int × Int)) (x : Int × Int) : cI l ++ [.int .i64 x.1, .int .i64 x.2] = cI (l ++ [x]) := by rw [cI_append]; rfl

end Fw
