/- Values of which those that are below are taken out. -/
import Derived.Test.YtbaedpfgjpkabaaGreatDoorChWi2
set_option maxHeartbeats 16000000
namespace Fw
open Go
attribute [local irreducible] evCode evOps evOpsD evOper evOperD evOp evFn loopN T.All T.bind callPure callOp opsK opsDK restK seqK blockK loopS setK setQ giveK scalK gcK finish finS rfunK yldK yldB loopK

abbrev zV : ValI := ⟨0, 0, false, false⟩
/-- where the next value that is kept goes, and the values as they stand, after some of them were looked at -/
def dS (l : List ValI) : Nat → Nat × List ValI
  | 0 => (0, l)
  | r + 1 => if (l.getD r zV).under = true then dS l r else ((dS l r).1 + 1, (dS l r).2.set (dS l r).1 (l.getD r zV))
theorem dS_inv (l : List ValI) : ∀ r, r ≤ l.length → (dS l r).1 ≤ r ∧ (dS l r).2.length = l.length ∧ (dS l r).2.take (dS l r).1 = (l.take r).filter (fun v => !v.under) ∧ ∀ j, r ≤ j → (dS l r).2[j]? = l[j]? := by
  intro r
  induction r with
  | zero => intro _; exact ⟨Nat.le_refl _, rfl, by simp [dS], fun _ _ => rfl⟩
  | succ r ih =>
    intro hr
    obtain ⟨h1, h2, h3, h4⟩ := ih (by omega)
    have hg : l.getD r zV = l[r] := by simp [List.getD_eq_getElem?_getD, List.getElem?_eq_getElem (show r < l.length by omega)]
    have ht : l.take (r + 1) = l.take r ++ [l[r]] := by rw [List.take_add_one, List.getElem?_eq_getElem (show r < l.length by omega)]; rfl
    simp only [dS, hg]
    by_cases hu : l[r].under = true
    · rw [if_pos hu]
      refine ⟨by omega, h2, ?_, fun j hj => h4 j (by omega)⟩
      rw [h3, ht, List.filter_append]
      simp [hu]
    · rw [if_neg hu]
      have hw : (dS l r).1 < (dS l r).2.length := by omega
      refine ⟨by simp only; omega, by simp [h2], ?_, fun j hj => ?_⟩
      · rw [ht, List.filter_append, ← h3]
        simp only [List.take_add_one, List.getElem?_set_self hw]
        rw [List.take_set_of_le (Nat.le_refl _)]
        simp [hu]
      · simp only
        rw [List.getElem?_set_ne (by omega)]
        exact h4 j (by omega)
theorem dS_start (l : List ValI) : ∀ j, j ≤ l.length → (∀ q, q < j → (l.getD q zV).under = false) → dS l j = (j, l) := by
  intro j
  induction j with
  | zero => intro _ _; rfl
  | succ j ih =>
    intro hj h
    have h1 := ih (by omega) (fun q hq => h q (by omega))
    have hu := h j (by omega)
    simp only [dS, h1, hu]
    have hg : l.getD j zV = l[j] := by simp [List.getD_eq_getElem?_getD, List.getElem?_eq_getElem (show j < l.length by omega)]
    rw [hg, List.set_getElem_self]; rfl
theorem idx_first {p : ValI → Bool} {l : List ValI} (h : firstE (idxL p l) ≠ 0) : ∃ j, j < l.length ∧ firstE (idxL p l) = (j : Int) + 1 ∧ p (l.getD j zV) = true ∧ ∀ q, q < j → p (l.getD q zV) = false := by
  have key : ∀ (L : List Int), firstE L ≠ 0 → ∃ t, ∃ h : t < L.length, L[t] = firstE L ∧ ∀ s (hs : s < t), L[s]'(Nat.lt_trans hs h) = 0 := by
    intro L
    induction L with
    | nil => intro h; exact absurd rfl h
    | cons e r ih =>
      intro h
      rw [firstE_cons] at h ⊢
      by_cases h0 : e = 0
      · rw [if_pos h0] at h ⊢
        obtain ⟨t, ht, h1, h2⟩ := ih h
        refine ⟨t + 1, by simp; omega, by simpa using h1, fun s hs => ?_⟩
        cases s with
        | zero => exact h0
        | succ s => exact h2 s (by omega)
      · rw [if_neg h0] at h ⊢
        exact ⟨0, by simp, rfl, fun s hs => by omega⟩
  obtain ⟨t, ht, h1, h2⟩ := key _ h
  have hl : t < l.length := by simpa [idxL] using ht
  have e : ∀ s (hs : s < (idxL p l).length), (idxL p l)[s] = if p (l.getD s zV) = true then (s : Int) + 1 else 0 := fun s hs => by simp [idxL]
  rw [e t ht] at h1
  refine ⟨t, hl, ?_, ?_, fun q hq => ?_⟩
  · split at h1
    · exact h1.symm
    · exact absurd h1.symm h
  · split at h1
    · rename_i hp; exact hp
    · exact absurd h1.symm h
  · have := h2 q hq
    rw [e] at this
    split at this
    · omega
    · rename_i hp; simpa using hp

theorem setC_mid (l : List PVal) : ∀ (q p r : List PVal), l.length = q.length → setCells (p ++ q ++ r) p.length l = p ++ l ++ r := by
  induction l with
  | nil => intro q p r h; have : q = [] := List.eq_nil_of_length_eq_zero (by simpa using h.symm)
           subst this; simp [setCells]
  | cons v l ih =>
    intro q p r h
    cases q with
    | nil => simp at h
    | cons x q =>
      have e : (p ++ x :: q ++ r).set p.length v = (p ++ [v]) ++ q ++ r := by simp
      have hp : p.length + 1 = (p ++ [v]).length := by simp
      rw [setCells, e, hp, ih q (p ++ [v]) r (by simpa using h)]
      simp
theorem row_parts (L : List ValI) (w : Nat) (h : w < L.length) : rowC vc L = rowC vc (L.take w) ++ vc L[w] ++ rowC vc (L.drop (w + 1)) := by
  conv => lhs; rw [← List.take_append_drop w L, List.drop_eq_getElem_cons h]
  rw [rowC_append, rowC_cons, List.append_assoc]
theorem row_set (L : List ValI) (w : Nat) (h : w < L.length) (v : ValI) : setCells (rowC vc L) (w * 4) (vc v) = rowC vc (L.set w v) := by
  have hl : (rowC vc (L.take w)).length = w * 4 := by rw [vR_len, List.length_take]; congr 1; omega
  have h2 : w < (L.set w v).length := by simpa using h
  rw [row_parts L w h, ← hl, setC_mid (vc v) (vc L[w]) (rowC vc (L.take w)) (rowC vc (L.drop (w + 1))) rfl, row_parts (L.set w v) w h2]
  simp
  rw [List.take_set_of_le (Nat.le_refl _), List.drop_set_of_lt (by omega)]
theorem row_clear (L : List ValI) (w : Nat) (h : w ≤ L.length) (Z : List PVal) (hZ : Z.length = (L.length - w) * 4) : setCells (rowC vc L) (w * 4) Z = rowC vc (L.take w) ++ Z := by
  have hl : (rowC vc (L.take w)).length = w * 4 := by rw [vR_len, List.length_take]; congr 1; omega
  have e : rowC vc L = rowC vc (L.take w) ++ rowC vc (L.drop w) ++ [] := by
    conv => lhs; rw [← List.take_append_drop w L, rowC_append]
    simp
  rw [e, ← hl, setC_mid _ _ _ _ (by rw [hZ, vR_len, List.length_drop])]
  simp

/-- the values that are kept, in the place of all -/
theorem delete138 {d : Nat} (l : List ValI) (hl : l.length ≤ 5000) (cs0 : List PVal) :
    ∃ cells, cells.length = l.length * 4 ∧ cells.take ((l.filter fun v => !v.under).length * 4) = rowC vc (l.filter fun v => !v.under) ∧ evFn F C0 G0 (d + 4) (.fn 138) [.sl 1 0 0 l.length, .p (.clo 140 [] [])] [(1, .arr (rowC vc l) 0 4), (0, .arr cs0 0 1)] = .ret (.sl 1 0 0 (l.filter fun v => !v.under).length, [(1, .arr cells 0 4), (0, .arr cs0 0 1)]) := by
  rw [evFn_fn fe138]
  have hR := vR_len l
  have k := index185 (n := d + 3) (by omega) 140 (·.under) (fun v => under140 (by omega) v) l (by omega)
  by_cases hz : firstE (idxL (·.under) l) = 0
  · have hall := idx_none.1 hz
    have hf : l.filter (fun v => !v.under) = l := List.filter_eq_self.2 (fun v hv => by simp [hall v hv])
    rw [hf]
    refine ⟨rowC vc l, hR, by rw [← hR]; exact List.take_length, ?_⟩
    rw [hz] at k
    have e : (0 : Int) - 1 = -1 := by decide
    rw [e] at k
    simp only [vsl] at k
    generalize hA : rowC vc l = A at *
    simp -implicitDefEqProofs [c138, hR, k]
  · obtain ⟨j, hj, e1, e2, e3⟩ := idx_first hz
    have hst := dS_start l j (by omega) e3
    have hst1 : dS l (j + 1) = (j, l) := by simp only [dS, e2, if_true]; exact hst
    rw [e1] at k
    have e : (j : Int) + 1 - 1 = j := by omega
    rw [e] at k
    let inv : Nat → St := fun i => ⟨[(0, .sl 1 0 0 l.length), (1, .p (.clo 140 [] [])), (5, iv (dS l (j + 1 + i)).1), (6, iv (j + 1 + i : Nat))], [(1, .arr (rowC vc (dS l (j + 1 + i)).2) 0 4), (0, .arr cs0 0 1)]⟩
    have hloop : loopN (loopS (evFn F C0 G0 (d + 3)) C0 G0 2 true [0, 1, 5, 6] c138L0) loopFuel ⟨[(0, .sl 1 0 0 l.length), (1, .p (.clo 140 [] [])), (5, iv j), (6, iv ((j : Int) + 1))], [(1, .arr (rowC vc l) 0 4), (0, .arr cs0 0 1)]⟩ = .ret (.exit 0, ⟨(inv (l.length - (j + 1))).env ++ [(19, .p (.bool false))], (inv (l.length - (j + 1))).sto⟩) := by
      refine loop_run' inv (l.length - (j + 1)) (by simp) (by simp only [inv, Nat.add_zero, hst1]; rfl) ?_ ?_ (by simp [loopFuel]; omega)
      · intro i hi
        obtain ⟨r, hr⟩ : ∃ r, j + 1 + i = r := ⟨_, rfl⟩
        have hr1 : j + 1 + (i + 1) = r + 1 := by omega
        have hrl : r < l.length := by omega
        obtain ⟨i1, i2, i3, i4⟩ := dS_inv l r (by omega)
        have hgr := i4 r (Nat.le_refl _)
        rw [List.getElem?_eq_getElem hrl] at hgr
        have hg : l.getD r zV = l[r] := by simp [List.getD_eq_getElem?_getD, List.getElem?_eq_getElem hrl]
        have wr := wrap_succ (i := r) (by omega)
        have ww := wrap_succ (i := (dS l r).1) (by omega)
        have kf := under140 (n := d + 3) (by omega) l[r]
        have hds : dS l (r + 1) = if l[r].under = true then dS l r else ((dS l r).1 + 1, (dS l r).2.set (dS l r).1 l[r]) := by simp only [dS, hg]
        simp only [inv, hr, hr1, hds]
        generalize hW : dS l r = W at *
        obtain ⟨w, L⟩ := W
        simp only at i1 i2 i3 i4 hgr ww ⊢
        have hLr : r < L.length := by omega
        have hdr := rowC_drop vc_len L r hLr
        have hLg : L[r] = l[r] := by rw [List.getElem?_eq_getElem hLr] at hgr; exact Option.some.inj hgr
        rw [hLg] at hdr
        have hset := row_set L w (by omega) l[r]
        have hLl := vR_len L
        rw [i2] at hLl
        have hlt : r * 4 < l.length * 4 := by omega
        have hltw : w * 4 < l.length * 4 := by omega
        have hwl : w < l.length := by omega
        have hlt4 : r * 4 + 4 ≤ l.length * 4 := by omega
        have hltw4 : w * 4 + 4 ≤ l.length * 4 := by omega
        generalize rowC vc (L.drop (r + 1)) = R2 at *
        generalize hv : l[r] = v at *
        generalize hA2 : rowC vc (L.set w v) = A2 at *
        generalize hA : rowC vc L = A at *
        obtain ⟨a, b, u, o⟩ := v
        simp only [vc, setCells] at hset
        cases u with
        | true =>
          refine ⟨?_, ?h1, ?h2⟩
          case h1 =>
            simp -implicitDefEqProofs [loopS_eq, c138L0, hrl, hLl, hlt4, hdr, vc, kf, wr]
            exact rfl
          case h2 => exact loopS_same (by simp) (by simp [hA])
        | false =>
          refine ⟨?_, ?h3, ?h4⟩
          case h3 =>
            simp -implicitDefEqProofs [loopS_eq, c138L0, hrl, hLl, hlt4, hdr, vc, kf, wr, ww, hwl, hltw4, hset]
            exact rfl
          case h4 => exact loopS_same (by simp) (by simp [hA2])
      · have hr : j + 1 + (l.length - (j + 1)) = l.length := by omega
        simp only [inv, hr]
        generalize dS l l.length = W at *
        obtain ⟨w, L⟩ := W
        generalize rowC vc L = A at *
        simp -implicitDefEqProofs [loopS_eq, c138L0]
    obtain ⟨i1, i2, i3, _⟩ := dS_inv l l.length (Nat.le_refl _)
    rw [List.take_length] at i3
    have hr : j + 1 + (l.length - (j + 1)) = l.length := by omega
    simp only [inv, hr] at hloop
    have wj := wrap64 (n := (j : Int) + 1) (by omega) (by omega)
    have hlen : (l.filter fun v => !v.under).length = (dS l l.length).1 := by rw [← i3, List.length_take]; omega
    rw [hlen]
    generalize hW : dS l l.length = W at *
    obtain ⟨w, L⟩ := W
    simp only at i1 i2 i3 hloop ⊢
    have zl : (List.replicate (l.length - w) [PVal.int .i64 0, .int .i64 0, .bool false, .bool false]).flatten.length = (L.length - w) * 4 := by
      rw [List.length_flatten]; simp [i2]
    have hcl := row_clear L w (by omega) _ zl
    have hkl : (rowC vc (L.take w)).length = w * 4 := by rw [vR_len, List.length_take]; congr 1; omega
    refine ⟨rowC vc (L.take w) ++ (List.replicate (l.length - w) [PVal.int .i64 0, .int .i64 0, .bool false, .bool false]).flatten, ?_, ?_, ?_⟩
    · rw [List.length_append, hkl, zl, i2]
      have : (l.length - w) * 4 = l.length * 4 - w * 4 := by omega
      omega
    · rw [← i3, ← hkl, List.take_left]
    · simp only [vsl] at k
      have hLl := vR_len L
      rw [i2] at hLl
      have hwl : w ≤ l.length := by omega
      have hwi : (w : Int) ≤ l.length := by omega
      have hw4 : w * 4 + (l.length - w) * 4 ≤ l.length * 4 := by omega
      generalize rowC vc (L.take w) = KC at *
      generalize rowC vc L = A2 at *
      generalize hA : rowC vc l = A at *
      simp -implicitDefEqProofs [c138, hR, k, wj, -setCells]
      rw [hloop]
      simp -implicitDefEqProofs [hLl, hwi, hw4, hcl, -setCells]
end Fw
