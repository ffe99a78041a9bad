/- A tow's text, parsed by the reference. -/
import Derived.Test.YtfkacogfieiccaaGreatDoorBaS8
set_option maxHeartbeats 16000000
namespace Fw
open Go
attribute [local irreducible] evCode evOps evOpsD evOper evOperD evOp evFn loopN T.All T.bind callPure callOp opsK opsDK restK seqK blockK loopS setK setQ giveK scalK gcK finish finS rfunK yldK yldB loopK

def stR (out : List (List Int)) : Sto := if out.length ≤ 3 then [(1, .box [.p .nils, iv (towUp out).fl, iv (towUp out).fh, iv (towUp out).bl, iv (towUp out).bh, iv (towUp out).wall]), (0, .box [.p .nils, iv 0, iv 0, iv 0, iv 0, iv 0])]
  else [(3, .arr (pI (towUp out).pull) (out.length - 4) 1), (1, .box [.sl 3 (out.length - 4) 0 (out.length - 4 + 1), iv (towUp out).fl, iv (towUp out).fh, iv (towUp out).bl, iv (towUp out).bh, iv (towUp out).wall]), (0, .box [.p .nils, iv 0, iv 0, iv 0, iv 0, iv 0])]

theorem rows_any {g : List (List Int)} (h : RowsOk g) : g = [] ∨ (∃ a, g = [[a]]) ∨ (∃ a b c, g = [[a], [b, c]]) ∨ ∃ (a b c e f : Int) (ys : List Int), g = [a] :: [b, c] :: [e, f] :: ys.map fun y => [y] := by
  by_cases h3 : 3 ≤ g.length
  · exact .inr (.inr (.inr (rows_shape h h3)))
  · match g, h, h3 with
    | [], _, _ => exact .inl rfl
    | [r0], h, _ =>
      have h0 := h 0 (by simp)
      simp only [List.getElem_cons_zero, formK] at h0
      match r0, h0 with
      | [a], _ => exact .inr (.inl ⟨a, rfl⟩)
    | [r0, r1], h, _ =>
      have h0 := h 0 (by simp)
      have h1 := h 1 (by simp)
      simp only [List.getElem_cons_zero, List.getElem_cons_succ, formK] at h0 h1
      match r0, h0, r1, h1 with
      | [a], _, [b, c], _ => exact .inr (.inr (.inl ⟨a, b, c, rfl⟩))
    | _ :: _ :: _ :: _, _, h3 => exact absurd (by simp) h3

theorem one_of {x : List Int} (h : x.length = 1) : ∃ a, x = [a] := by
  match x, h with
  | [a], _ => exact ⟨a, rfl⟩
theorem two_of {x : List Int} (h : x.length = 2) : ∃ a b, x = [a, b] := by
  match x, h with
  | [a, b], _ => exact ⟨a, b, rfl⟩

theorem stR_few (a b c e f : Int) : stR ([a] :: [b, c] :: [e, f] :: ([] : List Int).map fun y => [y]) = [(1, .box [.p .nils, iv b, iv c, iv e, iv f, iv a]), (0, .box [.p .nils, iv 0, iv 0, iv 0, iv 0, iv 0])] := rfl
theorem stR_more (a b c e f : Int) (y : Int) (ys : List Int) : stR ([a] :: [b, c] :: [e, f] :: (y :: ys).map fun y => [y]) = [(3, .arr (pI (y :: ys)) ys.length 1), (1, .box [.sl 3 ys.length 0 (ys.length + 1), iv b, iv c, iv e, iv f, iv a]), (0, .box [.p .nils, iv 0, iv 0, iv 0, iv 0, iv 0])] := by
  have h := towUp_shape a b c e f (y :: ys)
  unfold stR
  rw [if_neg (by simp), h]
  simp

theorem round_all {d : Nat} (ps : List (List UInt8)) (out : List (List Int)) (w : List UInt8) (ho : RowsOk out) (hk : (out.length : Int) + 1 < ps.length) (hps : ps.length < 90000) (hwl : w.length < 90000) (hg : ∀ q, (pStr ps)[out.length]'q = .str w) :
    (∀ x, lineQ out.length w = some x → ∃ st1, stp d ⟨envR ps out.length, stR out⟩ = .ret (.normal, st1) ∧ stp d st1 = stp d ⟨envR ps (out ++ [x]).length, stR (out ++ [x])⟩) ∧
    (lineQ out.length w = none → ∃ S, stp d ⟨envR ps out.length, stR out⟩ = .ret (.ret, ⟨retR out.length, S⟩) ∧ get S 0 = some (.box [.p .nils, iv 0, iv 0, iv 0, iv 0, iv 0])) := by
  rcases rows_any ho with rfl | ⟨a, rfl⟩ | ⟨a, b, c, rfl⟩ | ⟨a, b, c, e, f, ys, rfl⟩
  · have h := round0 (d := d) ps 0 w rfl hk hps hwl hg
    refine ⟨fun x hx => ?_, h.2⟩
    obtain ⟨x0, rfl⟩ := one_of (rdP_len (w := wallW) (k := 1) hx)
    exact h.1 _ hx
  · have h := round1 (d := d) ps a 1 w rfl hk hps hwl hg
    refine ⟨fun x hx => ?_, h.2⟩
    obtain ⟨x0, x1, rfl⟩ := two_of (rdP_len (w := fricW) (k := 2) hx)
    exact h.1 _ hx
  · have h := round2 (d := d) ps a b c 2 w rfl hk hps hwl hg
    refine ⟨fun x hx => ?_, h.2⟩
    obtain ⟨x0, x1, rfl⟩ := two_of (rdP_len (w := brakeW) (k := 2) hx)
    exact h.1 _ hx
  · cases ys with
    | nil =>
      have h := round3 (d := d) ps a b c e f 3 w rfl hk hps hwl hg
      refine ⟨fun x hx => ?_, h.2⟩
      obtain ⟨x0, rfl⟩ := one_of (rdP_len (w := pullW) (k := 1) hx)
      exact h.1 _ hx
    | cons y r =>
      have hl : ([a] :: [b, c] :: [e, f] :: (y :: r).map fun y => [y]).length = r.length + 4 := by simp
      rw [hl] at hk hg ⊢
      have h := round4 (d := d) ps a b c e f r.length (pI (y :: r)) (by simp) (by omega) ((r.length + 4 : Nat) : Int) w (by omega) hk hps hwl hg
      rw [stR_more]
      refine ⟨fun x hx => ?_, h.2⟩
      obtain ⟨x0, rfl⟩ := one_of (rdP_len (w := pullW) (k := 1) hx)
      have h2 := h.1 _ hx
      have e1 : ([a] :: [b, c] :: [e, f] :: (y :: r).map fun y => [y]) ++ [[x0]] = [a] :: [b, c] :: [e, f] :: (y :: (r ++ [x0])).map fun y => [y] := by simp
      have e2 : pI (y :: r) ++ [.int .i64 x0] = pI (y :: (r ++ [x0])) := by simp [pI]
      rw [e1, stR_more]
      simp only [List.getD_cons_zero, e2] at h2
      have e3 : (([a] :: [b, c] :: [e, f] :: (y :: (r ++ [x0])).map fun y => [y]).length : Int) = ((r.length + 4 : Nat) : Int) + 1 := by simp; omega
      have e4 : (r ++ [x0]).length = r.length + 1 := by simp
      rw [e3, e4]
      exact h2

theorem round_last {d : Nat} (ps : List (List UInt8)) (out : List (List Int)) (w : List UInt8) (_ho : RowsOk out) (hk : out.length + 1 = ps.length) (hps : ps.length < 90000) (hg : ∀ q, (pStr ps)[out.length]'q = .str w) :
    (w = [] → ∃ st1, stp d ⟨envR ps out.length, stR out⟩ = .ret (.normal, st1) ∧ stp d st1 = stp d ⟨envR ps ps.length, stR out⟩) ∧
    (w ≠ [] → ∃ S, stp d ⟨envR ps out.length, stR out⟩ = .ret (.ret, ⟨retR out.length, S⟩) ∧ get S 0 = some (.box [.p .nils, iv 0, iv 0, iv 0, iv 0, iv 0])) := by
  have hpl : (pStr ps).length = ps.length := by simp
  have u0 : (out.length : Int) < ps.length := by omega
  have u2 := wrap64 (n := (ps.length : Int) - 1) (by omega) (by omega)
  have u3 : ((out.length : Int) = (ps.length : Int) - 1) = True := eq_true (by omega)
  have u7 : ((out.length : Int) == (ps.length : Int) - 1) = true := by simp; omega
  have u4 := wrap64 (n := (out.length : Int) + 1) (by omega) (by omega)
  have u5 : out.length < ps.length := by omega
  have u6 : (ps.length : Int) = out.length + 1 := by omega
  have hgk : ∀ q, (pStr ps)[out.length]'q = .str w := hg
  clear hg
  simp only [envR]
  by_cases hs : out.length ≤ 3
  · simp only [stR, if_pos hs]
    generalize towUp out = t
    generalize hPs : pStr ps = Q at *
    generalize hi : out.length = i at *
    refine ⟨fun h => ?_, fun h => ?_⟩
    · have b1 : (w == []) = true := by simp [h]
      refine ⟨?_, ?h1, ?h2⟩
      case h1 =>
        simp -implicitDefEqProofs [tblW, loopS_eq, c86L1, strBin, hpl, hgk, u0, u2, u4, u5, u7, b1]
        exact rfl
      case h2 => exact loopS_same (by simp [tblW, u6]) (by simp [tblW])
    · have b1 : (w == []) = false := by simpa using h
      refine ⟨?_, ?h3, ?h4⟩
      case h3 =>
        simp -implicitDefEqProofs [tblW, loopS_eq, c86L1, strBin, hpl, hgk, u0, u2, u5, u7, b1]
        exact rfl
      case h4 => rfl
  · simp only [stR, if_neg hs]
    generalize towUp out = t
    generalize hPs : pStr ps = Q at *
    generalize out.length - 4 = k
    generalize hi : out.length = i at *
    refine ⟨fun h => ?_, fun h => ?_⟩
    · have b1 : (w == []) = true := by simp [h]
      refine ⟨?_, ?h1, ?h2⟩
      case h1 =>
        simp -implicitDefEqProofs [tblW, loopS_eq, c86L1, strBin, hpl, hgk, u0, u2, u4, u5, u7, b1]
        exact rfl
      case h2 => exact loopS_same (by simp [tblW, u6]) (by simp [tblW])
    · have b1 : (w == []) = false := by simpa using h
      refine ⟨?_, ?h3, ?h4⟩
      case h3 =>
        simp -implicitDefEqProofs [tblW, loopS_eq, c86L1, strBin, hpl, hgk, u0, u2, u5, u7, b1]
        exact rfl
      case h4 => rfl

theorem round_end {d : Nat} (ps : List (List UInt8)) (out : List (List Int)) : stp d ⟨envR ps ps.length, stR out⟩ = .ret (.exit 0, ⟨envR ps ps.length ++ [(28, .p (.bool false))], stR out⟩) := by
  simp only [envR]
  by_cases hs : out.length ≤ 3
  · simp only [stR, if_pos hs]
    simp -implicitDefEqProofs [tblW, loopS_eq, c86L1]
  · simp only [stR, if_neg hs]
    simp -implicitDefEqProofs [tblW, loopS_eq, c86L1]

theorem parse_loop {d : Nat} (ps : List (List UInt8)) (hps : ps.length < 90000) (hw : ∀ w ∈ ps, w.length < 90000) : ∀ (q : List (List UInt8)) (pre : List (List UInt8)) (out : List (List Int)) (st0 : St) (fuel : Nat), ps = pre ++ q → pre.length = out.length → q ≠ [] → RowsOk out → q.length + 1 < fuel →
    stp d st0 = stp d ⟨envR ps out.length, stR out⟩ →
    if (goB q out).1 = true then loopN (stp d) fuel st0 = .ret (.exit 0, ⟨envR ps ps.length ++ [(28, .p (.bool false))], stR (goB q out).2⟩) ∧ (goB q out).2.length + 1 = ps.length
    else ∃ S, loopN (stp d) fuel st0 = .ret (.ret, ⟨retR (goB q out).2.length, S⟩) ∧ get S 0 = some (.box [.p .nils, iv 0, iv 0, iv 0, iv 0, iv 0]) := by
  intro q
  induction q with
  | nil => intro _ _ _ _ _ _ h; exact absurd rfl h
  | cons w r ih =>
    intro pre out st0 fuel hp hl _ ho hf hst
    have hlen : ps.length = out.length + (r.length + 1) := by rw [hp, List.length_append, List.length_cons, hl]
    have hg : ∀ q, (pStr ps)[out.length]'q = .str w := fun q => by
      have : (pStr ps)[out.length]? = some (.str w) := by
        rw [hp, ← hl]; simp [pStr]
      rw [List.getElem?_eq_getElem q] at this
      exact Option.some.inj this
    have hwl : w.length < 90000 := hw w (by rw [hp]; simp)
    simp only [List.length_cons] at hf
    by_cases hr : r = []
    · subst hr
      rw [goB_one]
      simp only [List.length_nil] at hlen hf
      have h := round_last (d := d) ps out w ho (by omega) hps hg
      by_cases hz : w = []
      · obtain ⟨st1, e1, e2⟩ := h.1 hz
        rw [← hst] at e1
        simp only [hz, decide_true, if_true]
        refine ⟨?_, by omega⟩
        rw [loopN_on e1 (by omega)]
        exact loopN_end (by rw [e2, round_end]) (by simp) (by omega)
      · obtain ⟨S, e1, e2⟩ := h.2 hz
        rw [← hst] at e1
        simp only [hz, decide_false, Bool.false_eq_true, if_false]
        exact ⟨S, loopN_end e1 (by simp) (by omega), e2⟩
    · have hrl : 0 < r.length := List.length_pos_iff.2 hr
      rw [goB_more hr]
      have h := round_all (d := d) ps out w ho (by omega) hps hwl hg
      cases hq : lineQ out.length w with
      | none =>
        obtain ⟨S, e1, e2⟩ := h.2 hq
        rw [← hst] at e1
        simp only [Bool.false_eq_true, if_false]
        exact ⟨S, loopN_end e1 (by simp) (by omega), e2⟩
      | some x =>
        obtain ⟨st1, e1, e2⟩ := h.1 x hq
        rw [← hst] at e1
        have h2 := ih (pre ++ [w]) (out ++ [x]) st1 (fuel - 1) (by rw [hp]; simp) (by simp [hl]) hr (ho.snoc (rdP_len hq)) (by omega) e2
        simp only
        rw [loopN_on e1 (by omega)]
        exact h2
end Fw
