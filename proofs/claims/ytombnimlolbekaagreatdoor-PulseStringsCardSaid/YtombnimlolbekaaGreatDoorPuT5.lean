/- The lines of a text, read one by one. -/
import Derived.Test.YtombnimlolbekaaGreatDoorPuT4
set_option maxHeartbeats 8000000
namespace Fw
open Go
attribute [local irreducible] evCode evOps evOpsD evOper evOperD evOp evFn loopN T.All T.bind callPure callOp opsK opsDK restK seqK blockK loopS setK setQ giveK scalK gcK finish finS rfunK yldK yldB loopK

/-- the steps that the parts of a text say -/
def goL : List (List UInt8) → List (Int × Int) → Bool × List (Int × Int)
  | [], out => (true, out)
  | w :: q, out => match q with
    | [] => (decide (w = []), out)
    | _ :: _ => match lineP w with
      | some x => goL q (out ++ [x])
      | none => (false, out)

theorem goL_one (w : List UInt8) (out : List (Int × Int)) : goL [w] out = (decide (w = []), out) := rfl
theorem goL_more {w : List UInt8} {q : List (List UInt8)} (hq : q ≠ []) (out : List (Int × Int)) : goL (w :: q) out = match lineP w with
    | some x => goL q (out ++ [x])
    | none => (false, out) := by
  cases q with
  | nil => exact absurd rfl hq
  | cons y r => rfl

theorem goL_length : ∀ (ps : List (List UInt8)) (out : List (Int × Int)), (goL ps out).2.length ≤ out.length + ps.length := by
  intro ps
  induction ps with
  | nil => intro out; simp [goL]
  | cons w q ih =>
    intro out
    cases q with
    | nil => rw [goL_one]; simp
    | cons y r =>
      rw [goL_more (by simp)]
      cases lineP w with
      | none => simp
      | some x =>
        have := ih (out ++ [x])
        simp at this ⊢
        omega

def lE : Env := [(0, .yld 6), (1, .ptr 5 0 0)]

/-- one line, with the rest -/
theorem lines_round {d : Nat} (rest : List UInt8) (out : List (Int × Int)) (hl : rest.length < 90000) (hn : out.length < 90000) (h0 : rest ≠ []) :
    (10 ∈ rest ∧ ∃ x, lineP (ahead 10 rest) = some x ∧ loopS (evFn F C0 G0 (d + 8)) C0 G0 7 true [0, 1] c166L0 ⟨lE, (6, pLoop none 0) :: pS0 out out.length rest⟩ = .ret (.normal, ⟨[(0, .yld 6), (1, .ptr 5 0 0), (24, .p (.bool false))], (6, pLoop none 0) :: pS0 (out ++ [x]) (out ++ [x]).length (rest.drop ((ahead 10 rest).length + 1))⟩)) ∨
    ((10 ∉ rest ∨ lineP (ahead 10 rest) = none) ∧ ∃ env r', loopS (evFn F C0 G0 (d + 8)) C0 G0 7 true [0, 1] c166L0 ⟨lE, (6, pLoop none 0) :: pS0 out out.length rest⟩ = .ret (.ret, ⟨env, (6, pLoop (some .ret) 2) :: pS9 out out.length r'⟩)) := by
  have hpos : 0 < rest.length := List.length_pos_iff.2 h0
  have z0 : (0 : Int) < rest.length := by omega
  have hix : RUN (d + 8) 167 [sv rest, .p (.int .u8 10)] = .ret (iv (Lib.indexByte rest 10)) := ib167 (n := d + 8) (by omega) rest 10
  rw [indexByte_ahead] at hix
  by_cases hm : (10 : UInt8) ∈ rest
  · rw [if_pos hm] at hix
    obtain ⟨e1, e2, e3⟩ := ahead_split hm
    have w1 := wrap64 (n := ((ahead 10 rest).length : Int) + 1) (by omega) (by omega)
    have b1 : ((ahead 10 rest).length : Int) + 1 ≤ rest.length := by omega
    have b2 : (0 : Int) ≤ ((ahead 10 rest).length : Int) + 1 := by omega
    have b3 : (0 : Int) ≤ ((ahead 10 rest).length : Int) := by omega
    have t1 : (((ahead 10 rest).length : Int) + 1).toNat = (ahead 10 rest).length + 1 := by omega
    have htk : rest.take ((ahead 10 rest).length + 1) = ahead 10 rest ++ [10] := by
      have h := congrArg (List.take ((ahead 10 rest).length + 1)) e1
      rw [h, List.take_append]
      simp
      exact List.take_of_length_le (by omega)
    have hd : (ahead 10 rest ++ [10]).drop ((ahead 10 rest ++ [10]).length - 1) = [10] := by simp
    have hk : (ahead 10 rest ++ [10]).take ((ahead 10 rest ++ [10]).length - 1) = ahead 10 rest := by simp
    generalize hA : ahead 10 rest = A at *
    generalize hR : rest.drop (A.length + 1) = R at *
    cases hp : lineP A with
    | some x =>
      refine .inl ⟨hm, x, rfl, ?_⟩
      have hy := yield_ok (d := d) (A ++ [10]) R out (by simp; omega) (by omega) hd x (by rw [hk]; exact hp)
      simp only [pS0, List.cons_append, List.nil_append] at hy
      simp -implicitDefEqProofs [lE, pS0, loopS_eq, c166L0, gc_all, hpos, hix, w1, b1, b2, b3, t1, htk, hR, hy, -gc]
      simp -implicitDefEqProofs [pLoop]
    | none =>
      refine .inr ⟨.inr rfl, ?_⟩
      obtain ⟨a1, b1', b2', b3', hy⟩ := yield_bad (d := d) (A ++ [10]) R out (by simp; omega) (by omega) (by rw [hk, hp]; simp)
      simp only [pS0, pS9] at hy
      refine ⟨[(0, .yld 6), (1, .ptr 5 0 0), (24, .p (.bool true))], R, ?_⟩
      simp -implicitDefEqProofs [lE, pS0, pS9, loopS_eq, c166L0, gc_all, hpos, hix, w1, b1, b2, b3, t1, htk, hR, hy, -gc]
      simp -implicitDefEqProofs [pLoop]
  · rw [if_neg hm] at hix
    refine .inr ⟨.inl hm, ?_⟩
    have hnd : ¬ (rest.drop (rest.length - 1) = [10] ∧ (lineP (rest.take (rest.length - 1))).isSome = true) := fun h => hm (by
      have : (10 : UInt8) ∈ rest.drop (rest.length - 1) := by rw [h.1]; simp
      exact List.mem_of_mem_drop this)
    obtain ⟨a1, b1', b2', b3', hy⟩ := yield_bad (d := d) rest [] out (by omega) (by omega) hnd
    simp only [pS0, pS9] at hy
    refine ⟨[(0, .yld 6), (1, .ptr 5 0 0), (24, .p (.bool true))], [], ?_⟩
    simp -implicitDefEqProofs [lE, pS0, pS9, loopS_eq, c166L0, gc_all, hpos, hix, hy, -gc]
    simp -implicitDefEqProofs [pLoop]

theorem lines_same {d : Nat} {env : Env} (he : restrict env [0, 1] = lE) (S : Sto) : loopS (evFn F C0 G0 (d + 8)) C0 G0 7 true [0, 1] c166L0 ⟨env, S⟩ = loopS (evFn F C0 G0 (d + 8)) C0 G0 7 true [0, 1] c166L0 ⟨lE, S⟩ := by
  have : restrict lE [0, 1] = lE := rfl
  simp only [loopS_eq, he, this]
theorem lines_end {d : Nat} (out : List (Int × Int)) (n : Nat) : loopS (evFn F C0 G0 (d + 8)) C0 G0 7 true [0, 1] c166L0 ⟨lE, (6, pLoop none 0) :: pS0 out n []⟩ = .ret (.exit 0, ⟨[(0, .yld 6), (1, .ptr 5 0 0), (7, .p (.bool false))], (6, pLoop none 0) :: pS0 out n []⟩) := by
  simp -implicitDefEqProofs [loopS_eq, lE, pS0, c166L0, gc_all, -gc]

theorem lines_loop {d : Nat} : ∀ (k : Nat) (rest : List UInt8) (out : List (Int × Int)) (env : Env) (fuel : Nat), rest.length ≤ k → k < 80000 → out.length + k < 90000 → k < fuel → restrict env [0, 1] = lE →
    ∃ e env' r', loopN (loopS (evFn F C0 G0 (d + 8)) C0 G0 7 true [0, 1] c166L0) fuel ⟨env, (6, pLoop none 0) :: pS0 out out.length rest⟩ = .ret (e, ⟨env', if (goL (splitS 10 rest) out).1 = true then (6, pLoop none 0) :: pS0 (goL (splitS 10 rest) out).2 (goL (splitS 10 rest) out).2.length r' else (6, pLoop (some .ret) 2) :: pS9 (goL (splitS 10 rest) out).2 (goL (splitS 10 rest) out).2.length r'⟩) ∧ (e = .exit 0 ∨ e = .ret) := by
  intro k
  induction k with
  | zero =>
    intro rest out env fuel hk _ _ hf he
    have : rest = [] := List.eq_nil_of_length_eq_zero (by omega)
    subst this
    refine ⟨.exit 0, [(0, .yld 6), (1, .ptr 5 0 0), (7, .p (.bool false))], [], ?_, .inl rfl⟩
    have hg : goL (splitS 10 []) out = (true, out) := rfl
    rw [hg]
    exact loopN_end (by rw [lines_same he, lines_end]; rfl) (by simp) (by omega)
  | succ k ih =>
    intro rest out env fuel hk hk2 hn hf he
    by_cases h0 : rest = []
    · subst h0
      refine ⟨.exit 0, [(0, .yld 6), (1, .ptr 5 0 0), (7, .p (.bool false))], [], ?_, .inl rfl⟩
      have hg : goL (splitS 10 []) out = (true, out) := rfl
      rw [hg]
      exact loopN_end (by rw [lines_same he, lines_end]; rfl) (by simp) (by omega)
    · have hst := lines_same (d := d) he ((6, pLoop none 0) :: pS0 out out.length rest)
      rcases lines_round (d := d) rest out (by omega) (by omega) h0 with ⟨hm, x, hx, hr⟩ | ⟨hb, env2, r', hr⟩
      · rw [← hst] at hr
        rw [loopN_on hr (by omega)]
        obtain ⟨e1, e2, e3⟩ := ahead_split hm
        have hs : splitS 10 rest = ahead 10 rest :: splitS 10 (rest.drop ((ahead 10 rest).length + 1)) := by
          conv => lhs; rw [e1]
          exact splitS_at e2
        have hg : goL (splitS 10 rest) out = goL (splitS 10 (rest.drop ((ahead 10 rest).length + 1))) (out ++ [x]) := by
          rw [hs, goL_more (splitS_ne _ _), hx]
        rw [hg]
        exact ih (rest.drop ((ahead 10 rest).length + 1)) (out ++ [x]) _ (fuel - 1) (by rw [List.length_drop]; omega) (by omega) (by simp; omega) (by omega) rfl
      · rw [← hst] at hr
        have hg : goL (splitS 10 rest) out = (false, out) := by
          by_cases hm : (10 : UInt8) ∈ rest
          · have hl : lineP (ahead 10 rest) = none := by
              rcases hb with h | h
              · exact absurd hm h
              · exact h
            obtain ⟨e1, e2, e3⟩ := ahead_split hm
            have hs : splitS 10 rest = ahead 10 rest :: splitS 10 (rest.drop ((ahead 10 rest).length + 1)) := by
              conv => lhs; rw [e1]
              exact splitS_at e2
            rw [hs, goL_more (splitS_ne _ _), hl]
          · rw [splitS_none hm, goL_one]
            simp [h0]
        rw [hg]
        exact ⟨.ret, env2, r', loopN_end hr (by simp) (by omega), .inr rfl⟩

theorem rfunK_ret {lo : Nat} {env : Env} {id : Nat} {a : AVal} {s : Sto} {e1 : Env} {p1 : List Nat} {a1 b1 : ACode} {n : Nat} (h : get s id = some (.loop e1 p1 a1 b1 (some .ret) n)) (hn : n ≠ 1) : rfunK lo env id (a, s) = .ret (.ret, ⟨env, gc lo env (put s id (.loop e1 p1 a1 b1 (some .ret) 3))⟩) := by
  unfold rfunK
  simp [h, hn]

/-- what a text says: the steps, the line that is wrong, the error -/
def parseL (s : List UInt8) : List (Int × Int) × Int × Int :=
  if (goL (splitS 10 s) []).1 = true then
    (if settingE (goL (splitS 10 s) []).2 = 0 then ((goL (splitS 10 s) []).2, 0, 0) else ([], (goL (splitS 10 s) []).2.length, settingE (goL (splitS 10 s) []).2))
  else ([], (goL (splitS 10 s) []).2.length, 25)

theorem parse70 {n : Nat} (hn : 12 ≤ n) (s : List UInt8) : RUN n 70 [sv s] = .ret (if 4096 < s.length then .tup [.p (.sl [] 0), iv 0, iv 26] else .tup [if (parseL s).2.2 = 0 then .own (cI (parseL s).1) (parseL s).1.length 2 else .p (.sl [] 0), iv (parseL s).2.1, iv (parseL s).2.2]) := by
  obtain ⟨d, rfl⟩ : ∃ d, n = d + 12 := ⟨n - 12, by omega⟩
  rw [RUN, call_eq fe70 _ rfl]
  by_cases h4 : (4096 : Int) < s.length
  · have h4n : 4096 < s.length := by omega
    rw [if_pos h4n]
    simp -implicitDefEqProofs [c70, h4]
  · have h4n : ¬ 4096 < s.length := by omega
    rw [if_neg h4n]
    obtain ⟨e, env', r', key, he⟩ := lines_loop (d := d + 2) s.length s [] lE loopFuel (Nat.le_refl _) (by omega) (by simp; omega) (by simp [loopFuel]; omega) rfl
    have f134 : ∀ S : Sto, nextId S = 5 → evFn F C0 G0 (d + 11) (.fn 134) [sv s] S = .ret (.clo 166 [] [.ptr 5 0 0], (5, .arr [.str s] 0 1) :: S) := fun S hS => by
      rw [evFn_fn fe134]
      simp -implicitDefEqProofs [c134, hS, -nextId]
    have hol : (goL (splitS 10 s) []).2.length < 1000000 := by
      have h := goL_length (splitS 10 s) []
      rw [splitS_length] at h
      have h2 : s.count 10 ≤ s.length := List.count_le_length
      simp at h
      omega
    have hpd : parseL s = if (goL (splitS 10 s) []).1 = true then (if settingE (goL (splitS 10 s) []).2 = 0 then ((goL (splitS 10 s) []).2, 0, 0) else ([], ((goL (splitS 10 s) []).2.length : Int), settingE (goL (splitS 10 s) []).2)) else ([], ((goL (splitS 10 s) []).2.length : Int), 25) := rfl
    generalize hG : goL (splitS 10 s) [] = G at *
    obtain ⟨g1, g2⟩ := G
    simp only at key hol hpd
    have h28 := setting28 (n := d + 11) (by omega) g2 hol
    have f166 : evFn F C0 G0 (d + 11) (.fn 166) [.yld 6, .ptr 5 0 0] ((6, pLoop none 0) :: pS0 [] 0 s) = .ret (.tup [], if g1 = true then (6, pLoop none 0) :: pS0 g2 g2.length r' else (6, pLoop (some .ret) 2) :: pS9 g2 g2.length r') := by
      rw [evFn_fn fe166]
      simp only [lE, pS0, List.length_nil] at key
      simp -implicitDefEqProofs [c166, pS0]
      rw [key]
      rcases he with rfl | rfl <;> simp -implicitDefEqProofs
    have f134 := f134 [(4, .box [.sl 3 0 0 0]), (3, .arr [] 0 2), (2, .arr [.int .i64 0] 0 1), (1, .arr [.int .i64 0] 0 1), (0, .box [.p .nils])] rfl
    let E : Env := [(2, .ptr 0 0 0), (3, .ptr 1 0 0), (4, .ptr 2 0 0), (5, .ptr 4 0 0), (18, .clo 166 [] [.ptr 5 0 0])]
    have hrf : evCode (evFn F C0 G0 (d + 11)) C0 G0 0 (.rfun (.t 18) [19] c70A0 c70B0) ⟨E, pS0 [] 0 s⟩ = .ret (if g1 = true then .normal else .ret, ⟨E, if g1 = true then pS0 g2 g2.length r' else pS9 g2 g2.length r'⟩) := by
      rw [ev_rfun]
      have h1 : callee (evOpd G0 E) (.val (.t 18)) = some (.fn 166, [], [.ptr 5 0 0]) := rfl
      have h2 : nextId (pS0 [] 0 s) = 6 := rfl
      simp only [h1, h2, List.nil_append]
      have h3 : (6, Obj.loop E [19] c70A0 c70B0 none 0) :: pS0 [] 0 s = (6, pLoop none 0) :: pS0 [] 0 s := rfl
      rw [h3]
      have h4 : [AVal.yld 6] ++ [AVal.ptr 5 0 0] = [.yld 6, .ptr 5 0 0] := rfl
      rw [h4, f166, bind_ret]
      cases g1 with
      | true =>
        simp only [if_true]
        rw [rfunK_none (by rfl) (by decide)]
        simp -implicitDefEqProofs [E, pS0]
      | false =>
        simp only [Bool.false_eq_true, if_false]
        rw [rfunK_ret (by rfl) (by decide)]
        simp -implicitDefEqProofs [E, pS9]
    simp only [E, pS0, pS9, cI] at hrf
    simp -implicitDefEqProofs [c70, h4, f134, hrf, -ev_rfun]
    cases g1 with
    | false =>
      simp -implicitDefEqProofs [hpd]
    | true =>
      by_cases hz : settingE g2 = 0
      · simp -implicitDefEqProofs [hpd, h28, hz]
        done
      · simp -implicitDefEqProofs [hpd, h28, hz, hide, hidI, hidT4, stOp, plain]
        done
end Fw
