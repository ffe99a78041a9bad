/- A tow's text, parsed by the chapter. -/
import Derived.Test.YtfkacogfieiccaaGreatDoorBaS5
set_option maxHeartbeats 16000000
namespace Fw
open Go
attribute [local irreducible] evCode evOps evOpsD evOper evOperD evOp evFn loopN T.All T.bind callPure callOp opsK opsDK restK seqK blockK loopS setK setQ giveK scalK gcK finish finS rfunK yldK yldB loopK

theorem rows_shape {g : List (List Int)} (h : RowsOk g) (h3 : 3 ≤ g.length) : ∃ (a b c e f : Int) (ys : List Int), g = [a] :: [b, c] :: [e, f] :: ys.map fun y => [y] := by
  match g, h, h3 with
  | r0 :: r1 :: r2 :: r, h, _ =>
    have h0 := h 0 (by simp)
    have h1 := h 1 (by simp)
    have h2 := h 2 (by simp)
    simp only [List.getElem_cons_zero, List.getElem_cons_succ, formK] at h0 h1 h2
    match r0, h0 with
    | [a], _ =>
      match r1, h1 with
      | [b, c], _ =>
        match r2, h2 with
        | [e, f], _ =>
          have hr : ∃ ys : List Int, r = ys.map fun y => [y] := by
            have hl : ∀ x ∈ r, x.length = 1 := by
              intro x hx
              obtain ⟨i, hi, rfl⟩ := List.getElem_of_mem hx
              have := h (i + 3) (by simp; omega)
              simpa [formK] using this
            clear h h0 h1 h2
            induction r with
            | nil => exact ⟨[], rfl⟩
            | cons x q ih =>
              obtain ⟨ys, rfl⟩ := ih (by simp) (fun y hy => hl y (List.mem_cons_of_mem _ hy))
              have := hl x (List.mem_cons_self ..)
              match x, this with
              | [v], _ => exact ⟨v :: ys, rfl⟩
          obtain ⟨ys, rfl⟩ := hr
          exact ⟨a, b, c, e, f, ys, rfl⟩

def zeroT : TowI := ⟨[], 0, 0, 0, 0, 0⟩
def towUp (g : List (List Int)) : TowI := ⟨(g.drop 3).flatten, (g.getD 1 []).getD 0 0, (g.getD 1 []).getD 1 0, (g.getD 2 []).getD 0 0, (g.getD 2 []).getD 1 0, (g.getD 0 []).getD 0 0⟩
theorem ones_flat (ys : List Int) : (ys.map fun y => [y]).flatten = ys := by
  induction ys with
  | nil => rfl
  | cons y r ih => simp only [List.map_cons, List.flatten_cons, ih, List.singleton_append]
theorem towUp_shape (a b c e f : Int) (ys : List Int) : towUp ([a] :: [b, c] :: [e, f] :: ys.map fun y => [y]) = ⟨ys, b, c, e, f, a⟩ := by
  simp [towUp, ones_flat]

def parseG (g : Bool × List (List Int)) : TowI × Int × Int := if g.1 = true then (if g.2.length < 3 then (zeroT, (g.2.length : Int), 25) else if towE (towUp g.2) = 0 then (towUp g.2, 0, 0) else (zeroT, (g.2.length : Int), towE (towUp g.2))) else (zeroT, (g.2.length : Int), 25)
def parseB (s : List UInt8) : TowI × Int × Int := if 4096 < s.length then (zeroT, 0, 26) else parseG (goB (splitS 10 s) [])

theorem parse84 {n : Nat} (hn : 12 ≤ n) (s : List UInt8) : RUN n 84 [sv s] = .ret (.tup [twa (parseB s).1, iv (parseB s).2.1, iv (parseB s).2.2]) := by
  obtain ⟨d, rfl⟩ : ∃ d, n = d + 12 := ⟨n - 12, by omega⟩
  rw [RUN, call_eq fe84 _ rfl]
  unfold parseB
  by_cases h4 : (4096 : Int) < s.length
  · have h4n : 4096 < s.length := by omega
    rw [if_pos h4n]
    simp -implicitDefEqProofs [c84, h4, zeroT]
  · have h4n : ¬ 4096 < s.length := by omega
    rw [if_neg h4n]
    obtain ⟨e, env', r', key, he⟩ := lines_loop (d := d + 2) s.length s [] lE loopFuel (Nat.le_refl _) (by omega) (by simp; omega) (by simp [loopFuel]; omega) rfl
    have f148 : ∀ S : Sto, nextId S = 5 → evFn F C0 G0 (d + 11) (.fn 148) [sv s] S = .ret (.clo 172 [] [.ptr 5 0 0], (5, .arr [.str s] 0 1) :: S) := fun S hS => by
      rw [evFn_fn fe148]
      simp -implicitDefEqProofs [c148, hS, -nextId]
    have hol : (goB (splitS 10 s) []).2.length ≤ 5000 := by
      have h := goB_length (splitS 10 s) []
      rw [splitS_length] at h
      have h2 : s.count 10 ≤ s.length := List.count_le_length
      simp at h
      omega
    have hrok : RowsOk (goB (splitS 10 s) []).2 := goB_ok _ _ (fun i hi => by simp at hi)
    generalize hG : goB (splitS 10 s) [] = G at *
    obtain ⟨g1, g2⟩ := G
    simp only at key hol hrok
    have f172 : evFn F C0 G0 (d + 11) (.fn 172) [.yld 6, .ptr 5 0 0] ((6, pLoop none 0) :: pS0 [] 0 s) = .ret (.tup [], if g1 = true then (6, pLoop none 0) :: pS0 g2 g2.length r' else (6, pLoop (some .ret) 2) :: pS9 g2 g2.length r') := by
      rw [evFn_fn fe172]
      simp only [lE, pS0, List.length_nil] at key
      simp -implicitDefEqProofs [c172, pS0]
      rw [key]
      rcases he with rfl | rfl <;> simp -implicitDefEqProofs
    have f148 := f148 [(4, .box [.sl 3 0 0 0]), (3, .arr [] 0 1), (2, .arr [.int .i64 0] 0 1), (1, .arr [.int .i64 0] 0 1), (0, .box [.p .nils, iv 0, iv 0, iv 0, iv 0, iv 0])] rfl
    have hrf : evCode (evFn F C0 G0 (d + 11)) C0 G0 0 (.rfun (.t 16) [17] c84A0 c84B0) ⟨pE, pS0 [] 0 s⟩ = .ret (if g1 = true then .normal else .ret, ⟨pE, if g1 = true then pS0 g2 g2.length r' else pS9 g2 g2.length r'⟩) := by
      rw [ev_rfun]
      have h1 : callee (evOpd G0 pE) (.val (.t 16)) = some (.fn 172, [], [.ptr 5 0 0]) := rfl
      have h2 : nextId (pS0 [] 0 s) = 6 := rfl
      simp only [h1, h2, List.nil_append]
      have h3 : (6, Obj.loop pE [17] c84A0 c84B0 none 0) :: pS0 [] 0 s = (6, pLoop none 0) :: pS0 [] 0 s := rfl
      rw [h3]
      have h4 : [AVal.yld 6] ++ [AVal.ptr 5 0 0] = [.yld 6, .ptr 5 0 0] := rfl
      rw [h4, f172, bind_ret]
      cases g1 with
      | true =>
        simp only [if_true]
        rw [rfunK_none (by rfl) (by decide)]
        simp -implicitDefEqProofs [pE, pS0]
      | false =>
        simp only [Bool.false_eq_true, if_false]
        rw [rfunK_ret (by rfl) (by decide)]
        simp -implicitDefEqProofs [pE, pS9]
    simp only [pE, pS0, pS9, cL, List.map_nil] at hrf
    cases g1 with
    | false =>
      simp -implicitDefEqProofs [c84, h4, f148, hrf, parseG, zeroT, -ev_rfun]
    | true =>
      simp only [if_true] at hrf
      by_cases hz : g2.length < 3
      · have hz' : (g2.length : Int) < 3 := by omega
        simp -implicitDefEqProofs [c84, h4, f148, hrf, parseG, zeroT, hz, hz', hide, hidI, hidT4, stOp, plain, -ev_rfun]
      · obtain ⟨a, b, c, e', f, ys, rfl⟩ := rows_shape hrok (by omega)
        have hys : ys.length < 100000 := by simp at hol; omega
        have hcc := concat150 (n := d + 11) (by omega) ys hys
        have hcl : (ys.map fun y => [y]).map (fun l => PVal.sl (pI l) l.length) = onesL ys := rfl
        have hup := towUp_shape a b c e' f ys
        have hnl : ¬ ((ys.length : Int) + 1 + 1 + 1 < 3) := by omega
        have h48 := tow48 (n := d + 11) (by omega) ⟨ys, b, c, e', f, a⟩ (by simp; omega)
        have hall : (pI ys).all scalarP = true := by simp [pI]
        have htk : (onesL ys).take ys.length = onesL ys := List.take_of_length_le (by simp)
        unfold parseG
        rw [hup]
        simp only [List.length_cons, List.length_map, List.map_cons, hcl] at hrf hz ⊢
        rw [if_neg hz]
        have h3 : ¬ (((ys.length + 1 + 1 + 1 : Nat) : Int) < 3) := by omega
        generalize hE : towE ⟨ys, b, c, e', f, a⟩ = E at h48 ⊢
        have h48 : callPure (evFn F C0 G0 (d + 11)) C0 (.fn 48) [.agg [.p (.sl (pI ys) ys.length), .p (.int .i64 b), .p (.int .i64 c), .p (.int .i64 e'), .p (.int .i64 f), .p (.int .i64 a)]] = .ret (iv E) := h48
        have hOl : (onesL ys).length = ys.length := by simp
        generalize hO : onesL ys = O at *
        generalize hL : ys.length = L at *
        have q0 : (0 : Int) < (L : Int) + 1 + 1 + 1 := by omega
        have q1 : (1 : Int) < (L : Int) + 1 + 1 + 1 := by omega
        have q2 : (2 : Int) < (L : Int) + 1 + 1 + 1 := by omega
        have q3 : (3 : Int) ≤ (L : Int) + 1 + 1 + 1 := by omega
        have q5 : 3 + L ≤ L + 1 + 1 + 1 := by omega
        have q4 : L + 1 + 1 + 1 - 3 = L := by omega
        have p2 : ∀ x y, pI [x, y] = [.int .i64 x, .int .i64 y] := fun _ _ => rfl
        have p1 : ∀ x, pI [x] = [.int .i64 x] := fun _ => rfl
        by_cases hz0 : E = 0
        · subst hz0
          rw [if_pos rfl]
          simp -implicitDefEqProofs [c84, h4, f148, hrf, hcc, h48, htk, hall, hnl, q0, q1, q2, q3, q4, q5, hOl, p1, p2, -ev_rfun]
          exact hL.symm
        · rw [if_neg hz0]
          simp -implicitDefEqProofs [c84, h4, f148, hrf, hcc, h48, htk, hall, hz0, hnl, q0, q1, q2, q3, q4, q5, hOl, p1, p2, hide, hidI, hidT4, stOp, plain, zeroT, -ev_rfun]
end Fw
