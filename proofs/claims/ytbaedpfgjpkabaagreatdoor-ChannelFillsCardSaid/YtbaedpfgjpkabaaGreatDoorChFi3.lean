/- Gaps of a record: the nearest sample that is known. -/
import Derived.Test.YtbaedpfgjpkabaaGreatDoorChFi2
set_option maxHeartbeats 8000000
namespace Fw
open Go
attribute [local irreducible] evCode evOps evOpsD evOper evOperD evOp evFn loopN T.All T.bind callPure callOp opsK opsDK restK seqK blockK loopS setK setQ giveK scalK gcK finish finS rfunK yldK yldB loopK

def lftL (L : List Bool) (i : Nat) : List Int := (List.range (i + 1)).map fun t => if L.getD (i - t) true then 0 else ((i - t : Nat) : Int) + 1
def lft (L : List Bool) (i : Nat) : Int := firstE (lftL L i) - 1
def rgtL (L : List Bool) (i : Nat) : List Int := (List.range (L.length - i)).map fun t => if L.getD (i + t) true then 0 else ((i + t : Nat) : Int) + 1
def rgt (L : List Bool) (i : Nat) : Int := firstE (rgtL L i) - 1

theorem toward_l {n : Nat} (hn : 1 ≤ n) (l : List Bool) (hl : l.length < 1000000) (i : Nat) (hi : i < l.length) : RUN n 150 [bsl l, iv i, .p (.int .i64 (-1))] = .ret (iv (lft l i)) := by
  obtain ⟨d, rfl⟩ : ∃ d, n = d + 1 := ⟨n - 1, by omega⟩
  rw [RUN, call_eq fe150 _ rfl]
  let inv : Nat → St := fun t => ⟨[(0, bsl l), (2, .p (.int .i64 (-1))), (7, .p (.int .i64 (-1))), (8, iv ((i : Int) - t))], []⟩
  have hes : (lftL l i).length = i + 1 := by simp [lftL]
  simp -implicitDefEqProofs [c150]
  rw [loop_errs (st0 := ⟨[(0, bsl l), (2, .p (.int .i64 (-1))), (7, .p (.int .i64 (-1))), (8, .p (.int .i64 i))], []⟩) inv (lftL l i) (.exit 0, ⟨(inv (i + 1)).env ++ [(17, .p (.bool false))], []⟩) (fun e => (.exit 0, ⟨[(7, iv (e - 1))], []⟩)) (by simp only [inv]; rw [show (i : Int) - ((0 : Nat) : Int) = i by omega])]
  · unfold lft
    by_cases y : firstE (lftL l i) = 0
    · simp -implicitDefEqProofs [y, inv]
    · simp -implicitDefEqProofs [y]
  · intro t ht
    rw [hes] at ht
    have hit : i - t < l.length := by omega
    have hc : (i : Int) - t = ((i - t : Nat) : Int) := by omega
    have he : (lftL l i)[t] = if l.getD (i - t) true then 0 else ((i - t : Nat) : Int) + 1 := by simp [lftL]
    have hg : l.getD (i - t) true = l[i - t] := by rw [List.getD_eq_getElem?_getD, List.getElem?_eq_getElem hit]; rfl
    have hin : inv (t + 1) = ⟨[(0, bsl l), (2, .p (.int .i64 (-1))), (7, .p (.int .i64 (-1))), (8, iv (((i - t : Nat) : Int) + (-1)))], []⟩ := by
      simp only [inv]
      rw [show (i : Int) - ((t + 1 : Nat) : Int) = ((i - t : Nat) : Int) + (-1) by omega]
    have w2 := wrap64 (n := ((i - t : Nat) : Int) + (-1)) (by omega) (by omega)
    rw [he, hg, hin]
    simp only [inv, hc]
    generalize hj : i - t = j at *
    generalize hb : l[j] = b at *
    cases b with
    | true =>
      refine ⟨fun he => ⟨_, ?_, rfl⟩, fun he => ?_⟩
      · simp -implicitDefEqProofs [loopS_eq, c150L0, hit, hb, w2]
      · simp at he
    | false =>
      refine ⟨fun he => ?_, fun he => ?_⟩
      · simp at he; omega
      · have : (j : Int) + 1 - 1 = j := by omega
        simp -implicitDefEqProofs [loopS_eq, c150L0, hit, hb, this]
  · intro e; simp
  · rw [hes]
    have hlt : ¬ (0 : Int) ≤ (i : Int) - ((i + 1 : Nat) : Int) := by omega
    simp only [inv]
    generalize (i : Int) - ((i + 1 : Nat) : Int) = z at *
    simp -implicitDefEqProofs [loopS_eq, c150L0, hlt]
  · simp
  · rw [hes]; simp [loopFuel]; omega

theorem toward_r {n : Nat} (hn : 1 ≤ n) (l : List Bool) (hl : l.length < 1000000) (i : Nat) (hi : i < l.length) : RUN n 150 [bsl l, iv i, .p (.int .i64 1)] = .ret (iv (rgt l i)) := by
  obtain ⟨d, rfl⟩ : ∃ d, n = d + 1 := ⟨n - 1, by omega⟩
  rw [RUN, call_eq fe150 _ rfl]
  let inv : Nat → St := fun t => ⟨[(0, bsl l), (2, .p (.int .i64 1)), (7, .p (.int .i64 (-1))), (8, iv (i + t : Nat))], []⟩
  have hes : (rgtL l i).length = l.length - i := by simp [rgtL]
  simp -implicitDefEqProofs [c150]
  rw [loop_errs (st0 := ⟨[(0, bsl l), (2, .p (.int .i64 1)), (7, .p (.int .i64 (-1))), (8, .p (.int .i64 i))], []⟩) inv (rgtL l i) (.exit 0, ⟨[(0, bsl l), (2, .p (.int .i64 1)), (7, .p (.int .i64 (-1))), (8, iv l.length), (17, .p (.bool false))], []⟩) (fun e => (.exit 0, ⟨[(7, iv (e - 1))], []⟩)) (by rfl)]
  · unfold rgt
    by_cases y : firstE (rgtL l i) = 0
    · simp -implicitDefEqProofs [y]
    · simp -implicitDefEqProofs [y]
  · intro t ht
    rw [hes] at ht
    have hit : i + t < l.length := by omega
    have he : (rgtL l i)[t] = if l.getD (i + t) true then 0 else ((i + t : Nat) : Int) + 1 := by simp [rgtL]
    have hg : l.getD (i + t) true = l[i + t] := by rw [List.getD_eq_getElem?_getD, List.getElem?_eq_getElem hit]; rfl
    have hin : inv (t + 1) = ⟨[(0, bsl l), (2, .p (.int .i64 1)), (7, .p (.int .i64 (-1))), (8, iv (((i + t : Nat) : Int) + 1))], []⟩ := by
      simp only [inv]
      rw [show ((i + (t + 1) : Nat) : Int) = ((i + t : Nat) : Int) + 1 by omega]
    have w2 := wrap_succ (i := i + t) (by omega)
    rw [he, hg, hin]
    simp only [inv]
    generalize hj : i + t = j at *
    generalize hb : l[j] = b at *
    cases b with
    | true =>
      refine ⟨fun he => ⟨_, ?_, rfl⟩, fun he => ?_⟩
      · simp -implicitDefEqProofs [loopS_eq, c150L0, hit, hb, w2]
      · simp at he
    | false =>
      refine ⟨fun he => ?_, fun he => ?_⟩
      · simp at he; omega
      · have : (j : Int) + 1 - 1 = j := by omega
        simp -implicitDefEqProofs [loopS_eq, c150L0, hit, hb, this]
  · intro e; simp
  · rw [hes]
    have h2 : i + (l.length - i) = l.length := by omega
    simp only [inv, h2]
    simp -implicitDefEqProofs [loopS_eq, c150L0]
  · simp
  · rw [hes]; simp [loopFuel]; omega

/-! what they find -/
theorem firstE_at : ∀ (L : List Int), firstE L ≠ 0 → ∃ t, ∃ h : t < L.length, L[t] = firstE L ∧ ∀ s (hs : s < t), L[s] = 0 := by
  intro L
  induction L with
  | nil => intro h; exact absurd rfl h
  | cons x r ih =>
    intro h
    rw [firstE_cons] at h ⊢
    by_cases hx : x = 0
    · simp only [hx, if_true] at h ⊢
      obtain ⟨t, ht, h1, h2⟩ := ih h
      refine ⟨t + 1, by simp; omega, by simpa using h1, fun s hs => ?_⟩
      cases s with
      | zero => simp
      | succ s => simpa using h2 s (by omega)
    · simp only [hx, if_false]
      exact ⟨0, by simp, by simp, fun s hs => by omega⟩
theorem lft_spec (L : List Bool) (i : Nat) (_hi : i < L.length) : (lft L i = -1 ∧ ∀ j ≤ i, L.getD j true = true) ∨ ∃ k : Nat, lft L i = k ∧ k ≤ i ∧ L.getD k true = false ∧ ∀ j, k < j → j ≤ i → L.getD j true = true := by
  have hes : (lftL L i).length = i + 1 := by simp [lftL]
  have hat : ∀ t (ht : t < (lftL L i).length), (lftL L i)[t] = if L.getD (i - t) true then 0 else ((i - t : Nat) : Int) + 1 := fun t ht => by simp [lftL]
  have hz : ∀ t (ht : t < (lftL L i).length), (lftL L i)[t] = 0 → L.getD (i - t) true = true := fun t ht h => by
    rw [hat t ht] at h
    split at h
    · assumption
    · omega
  by_cases y : firstE (lftL L i) = 0
  · left
    refine ⟨by unfold lft; omega, fun j hj => ?_⟩
    have h := firstE_zero.1 y _ (List.getElem_mem (l := lftL L i) (n := i - j) (by omega))
    have := hz (i - j) (by omega) h
    rwa [show i - (i - j) = j by omega] at this
  · right
    obtain ⟨t, ht, h1, h2⟩ := firstE_at _ y
    have h3 := hat t ht
    rw [h1] at h3
    split at h3
    · exact absurd h3 y
    · rename_i hq
      refine ⟨i - t, by unfold lft; omega, by omega, by simpa using hq, fun j hj1 hj2 => ?_⟩
      have := hz (i - j) (by omega) (h2 (i - j) (by omega))
      rwa [show i - (i - j) = j by omega] at this
theorem rgt_spec (L : List Bool) (i : Nat) (hi : i < L.length) : (rgt L i = -1 ∧ ∀ j, i ≤ j → j < L.length → L.getD j true = true) ∨ ∃ k : Nat, rgt L i = k ∧ i ≤ k ∧ k < L.length ∧ L.getD k true = false ∧ ∀ j, i ≤ j → j < k → L.getD j true = true := by
  have hes : (rgtL L i).length = L.length - i := by simp [rgtL]
  have hat : ∀ t (ht : t < (rgtL L i).length), (rgtL L i)[t] = if L.getD (i + t) true then 0 else ((i + t : Nat) : Int) + 1 := fun t ht => by simp [rgtL]
  have hz : ∀ t (ht : t < (rgtL L i).length), (rgtL L i)[t] = 0 → L.getD (i + t) true = true := fun t ht h => by
    rw [hat t ht] at h
    split at h
    · assumption
    · omega
  by_cases y : firstE (rgtL L i) = 0
  · left
    refine ⟨by unfold rgt; omega, fun j hj hj2 => ?_⟩
    have h := firstE_zero.1 y _ (List.getElem_mem (l := rgtL L i) (n := j - i) (by omega))
    have := hz (j - i) (by omega) h
    rwa [show i + (j - i) = j by omega] at this
  · right
    obtain ⟨t, ht, h1, h2⟩ := firstE_at _ y
    have h3 := hat t ht
    rw [h1] at h3
    split at h3
    · exact absurd h3 y
    · rename_i hq
      refine ⟨i + t, by unfold rgt; omega, by omega, by omega, by simpa using hq, fun j hj1 hj2 => ?_⟩
      have := hz (j - i) (by omega) (h2 (j - i) (by omega))
      rwa [show i + (j - i) = j by omega] at this
end Fw
