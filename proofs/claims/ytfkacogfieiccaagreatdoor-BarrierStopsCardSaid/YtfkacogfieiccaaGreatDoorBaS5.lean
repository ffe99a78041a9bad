/- The lines of a tow's text: the loop over them. -/
import Derived.Test.YtfkacogfieiccaaGreatDoorBaS4
set_option maxHeartbeats 8000000
namespace Fw
open Go
attribute [local irreducible] evCode evOps evOpsD evOper evOperD evOp evFn loopN T.All T.bind callPure callOp opsK opsDK restK seqK blockK loopS setK setQ giveK scalK gcK finish finS rfunK yldK yldB loopK

/-- the rows that the parts of a text say -/
def goB : List (List UInt8) → List (List Int) → Bool × List (List Int)
  | [], out => (true, out)
  | w :: q, out => match q with
    | [] => (decide (w = []), out)
    | _ :: _ => match lineQ out.length w with
      | some x => goB q (out ++ [x])
      | none => (false, out)

theorem goB_one (w : List UInt8) (out : List (List Int)) : goB [w] out = (decide (w = []), out) := rfl
theorem goB_more {w : List UInt8} {q : List (List UInt8)} (hq : q ≠ []) (out : List (List Int)) : goB (w :: q) out = match lineQ out.length w with
    | some x => goB q (out ++ [x])
    | none => (false, out) := by
  cases q with
  | nil => exact absurd rfl hq
  | cons y r => rfl

theorem goB_length : ∀ (ps : List (List UInt8)) (out : List (List Int)), (goB ps out).2.length ≤ out.length + ps.length := by
  intro ps
  induction ps with
  | nil => intro out; simp [goB]
  | cons w q ih =>
    intro out
    cases q with
    | nil => rw [goB_one]; simp
    | cons y r =>
      rw [goB_more (by simp)]
      cases lineQ out.length w with
      | none => simp
      | some x =>
        have := ih (out ++ [x])
        simp at this ⊢
        omega

/-- rows that have their forms -/
def RowsOk (g : List (List Int)) : Prop := ∀ i, (h : i < g.length) → g[i].length = formK i
theorem RowsOk.snoc {g : List (List Int)} (h : RowsOk g) {x : List Int} (hx : x.length = formK g.length) : RowsOk (g ++ [x]) := by
  intro i hi
  by_cases c : i < g.length
  · rw [List.getElem_append_left c]; exact h i c
  · have : i = g.length := by simp at hi; omega
    subst this
    simpa using hx
theorem goB_ok : ∀ (ps : List (List UInt8)) (out : List (List Int)), RowsOk out → RowsOk (goB ps out).2 := by
  intro ps
  induction ps with
  | nil => intro out h; exact h
  | cons w q ih =>
    intro out h
    cases q with
    | nil => exact h
    | cons y r =>
      rw [goB_more (by simp)]
      cases hq : lineQ out.length w with
      | none => exact h
      | some x => exact ih _ (h.snoc (rdP_len hq))

def lE : Env := [(0, .yld 6), (1, .ptr 5 0 0)]

/-- one line, with the rest -/
theorem lines_round {d : Nat} (rest : List UInt8) (out : List (List Int)) (hl : rest.length < 90000) (hn : out.length < 90000) (h0 : rest ≠ []) :
    (10 ∈ rest ∧ ∃ x, lineQ out.length (ahead 10 rest) = some x ∧ loopS (evFn F C0 G0 (d + 8)) C0 G0 7 true [0, 1] c172L0 ⟨lE, (6, pLoop none 0) :: pS0 out out.length rest⟩ = .ret (.normal, ⟨[(0, .yld 6), (1, .ptr 5 0 0), (24, .p (.bool false))], (6, pLoop none 0) :: pS0 (out ++ [x]) (out ++ [x]).length (rest.drop ((ahead 10 rest).length + 1))⟩)) ∨
    ((10 ∉ rest ∨ lineQ out.length (ahead 10 rest) = none) ∧ ∃ env r', loopS (evFn F C0 G0 (d + 8)) C0 G0 7 true [0, 1] c172L0 ⟨lE, (6, pLoop none 0) :: pS0 out out.length rest⟩ = .ret (.ret, ⟨env, (6, pLoop (some .ret) 2) :: pS9 out out.length r'⟩)) := by
  have hpos : 0 < rest.length := List.length_pos_iff.2 h0
  have z0 : (0 : Int) < rest.length := by omega
  have hix : RUN (d + 8) 173 [sv rest, .p (.int .u8 10)] = .ret (iv (Lib.indexByte rest 10)) := ib173 (n := d + 8) (by omega) rest 10
  rw [indexByte_ahead] at hix
  by_cases hm : (10 : UInt8) ∈ rest
  · rw [if_pos hm] at hix
    obtain ⟨e1, e2, e3⟩ := ahead_split hm
    have w1 := wrap64 (n := ((ahead 10 rest).length : Int) + 1) (by omega) (by omega)
    have b1 : ((ahead 10 rest).length : Int) + 1 ≤ rest.length := by omega
    have b2 : (0 : Int) ≤ ((ahead 10 rest).length : Int) + 1 := by omega
    have b3 : (0 : Int) ≤ ((ahead 10 rest).length : Int) := by omega
    have t1 : (((ahead 10 rest).length : Int) + 1).toNat = (ahead 10 rest).length + 1 := by omega
    have htk : rest.take ((ahead 10 rest).length + 1) = ahead 10 rest ++ [10] := by
      have h := congrArg (List.take ((ahead 10 rest).length + 1)) e1
      rw [h, List.take_append]
      simp
      exact List.take_of_length_le (by omega)
    have hd : (ahead 10 rest ++ [10]).drop ((ahead 10 rest ++ [10]).length - 1) = [10] := by simp
    have hk : (ahead 10 rest ++ [10]).take ((ahead 10 rest ++ [10]).length - 1) = ahead 10 rest := by simp
    generalize hA : ahead 10 rest = A at *
    generalize hR : rest.drop (A.length + 1) = R at *
    cases hp : lineQ out.length A with
    | some x =>
      refine .inl ⟨hm, x, rfl, ?_⟩
      have hy := yield_ok (d := d) (A ++ [10]) R out (by simp; omega) (by omega) hd x (by rw [hk]; exact hp)
      simp only [pS0] at hy
      simp -implicitDefEqProofs [lE, pS0, loopS_eq, c172L0, gc_all, hpos, hix, w1, b1, b2, b3, t1, htk, hR, hy, -gc]
      try simp -implicitDefEqProofs [pLoop, pE]
    | none =>
      refine .inr ⟨.inr rfl, ?_⟩
      have hy := yield_bad (d := d) (A ++ [10]) R out (by simp; omega) (by omega) (by rw [hk, hp]; simp)
      simp only [pS0, pS9] at hy
      refine ⟨[(0, .yld 6), (1, .ptr 5 0 0), (24, .p (.bool true))], R, ?_⟩
      simp -implicitDefEqProofs [lE, pS0, pS9, loopS_eq, c172L0, gc_all, hpos, hix, w1, b1, b2, b3, t1, htk, hR, hy, -gc]
      try simp -implicitDefEqProofs [pLoop, pE]
  · rw [if_neg hm] at hix
    refine .inr ⟨.inl hm, ?_⟩
    have hnd : ¬ (rest.drop (rest.length - 1) = [10] ∧ (lineQ out.length (rest.take (rest.length - 1))).isSome = true) := fun h => hm (by
      have : (10 : UInt8) ∈ rest.drop (rest.length - 1) := by rw [h.1]; simp
      exact List.mem_of_mem_drop this)
    have hy := yield_bad (d := d) rest [] out (by omega) (by omega) hnd
    simp only [pS0, pS9] at hy
    refine ⟨[(0, .yld 6), (1, .ptr 5 0 0), (24, .p (.bool true))], [], ?_⟩
    simp -implicitDefEqProofs [lE, pS0, pS9, loopS_eq, c172L0, gc_all, hpos, hix, hy, -gc]
    try simp -implicitDefEqProofs [pLoop, pE]

theorem lines_same {d : Nat} {env : Env} (he : restrict env [0, 1] = lE) (S : Sto) : loopS (evFn F C0 G0 (d + 8)) C0 G0 7 true [0, 1] c172L0 ⟨env, S⟩ = loopS (evFn F C0 G0 (d + 8)) C0 G0 7 true [0, 1] c172L0 ⟨lE, S⟩ := by
  have : restrict lE [0, 1] = lE := rfl
  simp only [loopS_eq, he, this]
theorem lines_end {d : Nat} (out : List (List Int)) (n : Nat) : loopS (evFn F C0 G0 (d + 8)) C0 G0 7 true [0, 1] c172L0 ⟨lE, (6, pLoop none 0) :: pS0 out n []⟩ = .ret (.exit 0, ⟨[(0, .yld 6), (1, .ptr 5 0 0), (7, .p (.bool false))], (6, pLoop none 0) :: pS0 out n []⟩) := by
  simp -implicitDefEqProofs [loopS_eq, lE, pS0, c172L0, gc_all, -gc]

theorem lines_loop {d : Nat} : ∀ (k : Nat) (rest : List UInt8) (out : List (List Int)) (env : Env) (fuel : Nat), rest.length ≤ k → k < 80000 → out.length + k < 90000 → k < fuel → restrict env [0, 1] = lE →
    ∃ e env' r', loopN (loopS (evFn F C0 G0 (d + 8)) C0 G0 7 true [0, 1] c172L0) fuel ⟨env, (6, pLoop none 0) :: pS0 out out.length rest⟩ = .ret (e, ⟨env', if (goB (splitS 10 rest) out).1 = true then (6, pLoop none 0) :: pS0 (goB (splitS 10 rest) out).2 (goB (splitS 10 rest) out).2.length r' else (6, pLoop (some .ret) 2) :: pS9 (goB (splitS 10 rest) out).2 (goB (splitS 10 rest) out).2.length r'⟩) ∧ (e = .exit 0 ∨ e = .ret) := by
  intro k
  induction k with
  | zero =>
    intro rest out env fuel hk _ _ hf he
    have : rest = [] := List.eq_nil_of_length_eq_zero (by omega)
    subst this
    refine ⟨.exit 0, [(0, .yld 6), (1, .ptr 5 0 0), (7, .p (.bool false))], [], ?_, .inl rfl⟩
    have hg : goB (splitS 10 []) out = (true, out) := rfl
    rw [hg]
    exact loopN_end (by rw [lines_same he, lines_end]; rfl) (by simp) (by omega)
  | succ k ih =>
    intro rest out env fuel hk hk2 hn hf he
    by_cases h0 : rest = []
    · subst h0
      refine ⟨.exit 0, [(0, .yld 6), (1, .ptr 5 0 0), (7, .p (.bool false))], [], ?_, .inl rfl⟩
      have hg : goB (splitS 10 []) out = (true, out) := rfl
      rw [hg]
      exact loopN_end (by rw [lines_same he, lines_end]; rfl) (by simp) (by omega)
    · have hst := lines_same (d := d) he ((6, pLoop none 0) :: pS0 out out.length rest)
      rcases lines_round (d := d) rest out (by omega) (by omega) h0 with ⟨hm, x, hx, hr⟩ | ⟨hb, env2, r', hr⟩
      · rw [← hst] at hr
        rw [loopN_on hr (by omega)]
        obtain ⟨e1, e2, e3⟩ := ahead_split hm
        have hs : splitS 10 rest = ahead 10 rest :: splitS 10 (rest.drop ((ahead 10 rest).length + 1)) := by
          conv => lhs; rw [e1]
          exact splitS_at e2
        have hg : goB (splitS 10 rest) out = goB (splitS 10 (rest.drop ((ahead 10 rest).length + 1))) (out ++ [x]) := by
          rw [hs, goB_more (splitS_ne _ _), hx]
        rw [hg]
        exact ih (rest.drop ((ahead 10 rest).length + 1)) (out ++ [x]) _ (fuel - 1) (by rw [List.length_drop]; omega) (by omega) (by simp; omega) (by omega) rfl
      · rw [← hst] at hr
        have hg : goB (splitS 10 rest) out = (false, out) := by
          by_cases hm : (10 : UInt8) ∈ rest
          · have hl : lineQ out.length (ahead 10 rest) = none := by
              rcases hb with h | h
              · exact absurd hm h
              · exact h
            obtain ⟨e1, e2, e3⟩ := ahead_split hm
            have hs : splitS 10 rest = ahead 10 rest :: splitS 10 (rest.drop ((ahead 10 rest).length + 1)) := by
              conv => lhs; rw [e1]
              exact splitS_at e2
            rw [hs, goB_more (splitS_ne _ _), hl]
          · rw [splitS_none hm, goB_one]
            simp [h0]
        rw [hg]
        exact ⟨.ret, env2, r', loopN_end hr (by simp) (by omega), .inr rfl⟩

theorem rfunK_ret {lo : Nat} {env : Env} {id : Nat} {a : AVal} {s : Sto} {e1 : Env} {p1 : List Nat} {a1 b1 : ACode} {n : Nat} (h : get s id = some (.loop e1 p1 a1 b1 (some .ret) n)) (hn : n ≠ 1) : rfunK lo env id (a, s) = .ret (.ret, ⟨env, gc lo env (put s id (.loop e1 p1 a1 b1 (some .ret) 3))⟩) := by
  unfold rfunK
  simp [h, hn]

/-! rows of one integer, put together -/
def onesL (ys : List Int) : List PVal := cL (ys.map fun y => [y])
theorem onesL_get (ys : List Int) (i : Nat) (h : i < ys.length) : (onesL ys)[i]? = some (.sl [.int .i64 ys[i]] 1) := by
  simp [onesL, cL, h, pI]
@[simp] theorem onesL_length (ys : List Int) : (onesL ys).length = ys.length := by simp [onesL]
theorem concat150 {n : Nat} (hn : 2 ≤ n) (ys : List Int) (hl : ys.length < 100000) : RUN n 150 [.p (.sl (onesL ys) ys.length)] = .ret (.own (pI ys) ys.length 1) := by
  obtain ⟨d, rfl⟩ : ∃ d, n = d + 2 := ⟨n - 2, by omega⟩
  rw [RUN, call_eq fe150 _ rfl]
  let A : AVal := .p (.sl (onesL ys) ys.length)
  let inv : Nat → St := fun i => ⟨[(0, A), (3, iv i), (9, A), (10, iv ys.length), (11, iv i)], []⟩
  have hgn : ∀ i, (h : i < ys.length) → ∀ q, (onesL ys)[i]'q = .sl [.int .i64 ys[i]] 1 := fun i h q => by
    have := onesL_get ys i h
    rw [List.getElem?_eq_getElem q] at this
    exact Option.some.inj this
  have key1 : loopN (loopS (evFn F C0 G0 (d + 1)) C0 G0 0 false [0, 3, 9, 10, 11] c150L0) loopFuel ⟨[(0, A), (3, iv 0), (9, A), (10, iv ys.length), (11, iv 0)], []⟩ = .ret (.exit 0, ⟨(inv ys.length).env ++ [(12, .p (.bool false))], []⟩) := by
    refine loop_run' inv ys.length (by simp) rfl ?_ (by simp -implicitDefEqProofs [inv, A, loopS_eq, c150L0]) (by simp [loopFuel]; omega)
    intro i hi
    have hlt' : (i : Int) < ys.length := by omega
    have hg := hgn i hi
    have hw := wrap_succ (i := i) (by omega)
    have hnn : ¬ (i : Int) + 1 < 0 := by omega
    refine ⟨inv (i + 1), ?_, rfl⟩
    simp -implicitDefEqProofs [inv, A, loopS_eq, c150L0, hi, hlt', hg, hw, hnn]
  let jnv : Nat → St := fun i => ⟨[(6, .sl 0 i 0 i), (25, A), (26, iv ys.length), (27, iv i)], [(0, .arr (pI (ys.take i)) i 1)]⟩
  have htl : ys.take ys.length = ys := List.take_of_length_le (by omega)
  have key2 : loopN (loopS (evFn F C0 G0 (d + 1)) C0 G0 0 false [6, 25, 26, 27] c150L1) loopFuel ⟨[(6, .sl 0 0 0 0), (25, A), (26, iv ys.length), (27, iv 0)], [(0, .arr [] 0 1)]⟩ = .ret (.exit 2, ⟨(jnv ys.length).env ++ [(28, .p (.bool false))], (jnv ys.length).sto⟩) := by
    refine loop_run' jnv ys.length (by simp) rfl ?_ (by simp -implicitDefEqProofs [jnv, A, loopS_eq, c150L1]) (by simp [loopFuel]; omega)
    intro i hi
    have hlt' : (i : Int) < ys.length := by omega
    have hg := hgn i hi
    have hw := wrap_succ (i := i) (by omega)
    have hlim : i + 1 ≤ lim := by simp only [lim]; omega
    have hto : (ys.take i).length = i := by simp; omega
    have ht : pI (ys.take (i + 1)) = pI (ys.take i) ++ [.int .i64 ys[i]] := by
      rw [pI_snoc]; congr 1; rw [List.take_add_one]; simp [hi]
    refine ⟨?_, ?h1, ?h2⟩
    case h1 =>
      simp -implicitDefEqProofs [jnv, A, loopS_eq, c150L1, hi, hlt', hg, hw, hlim, hto]
      exact rfl
    case h2 => simp [jnv, A, ht]
  simp only [A] at key1 key2
  have hC : C0 177 [.p .nils, iv ys.length] = some (.ret (.own [] 0 1)) := by
    have : (ys.length : Int) ≤ 1000000 := by omega
    simp [C0, tabC, cGrow, this]
  have hg : callPure (evFn F C0 G0 (d + 1)) C0 (.fn 177) [.p .nils, iv ys.length] = .ret (.own [] 0 1) := by
    unfold callPure
    simp only [hC]
  simp -implicitDefEqProofs [c150]
  rw [key1]
  simp -implicitDefEqProofs [inv, A, hg]
  rw [key2]
  simp -implicitDefEqProofs [jnv, htl]
end Fw
