/- Several texts in one: each is told at its head. -/
import Derived.Test.YtdjkleaojdeepaaGreatDoorGaSA
import Derived.Test.YtdjkleaojdeepaaGreatDoorFwC
import Derived.Test.YtdjkleaojdeepaaGreatDoorGaS5
section
/- A line of a text of acts, taken by the chapter. -/
set_option maxHeartbeats 16000000
set_option maxRecDepth 8000
namespace Fw
open Go
attribute [local irreducible] evCode evOps evOpsD evOper evOperD evOp evFn loopN T.All T.bind callPure callOp opsK opsDK restK seqK blockK loopS setK setQ giveK scalK gcK finish finS rfunK yldK yldB loopK

def pLoop (j : Option ACode) (e : Nat) : Obj := .loop [(2, .ptr 0 0 0), (4, .ptr 1 0 0), (5, .ptr 2 0 0), (6, .ptr 3 0 0), (8, .ptr 5 0 0), (30, .clo 153 [] [.ptr 6 0 0])] [31] c64A0 c64B0 j e
theorem refs_pLoop (j : Option ACode) (e : Nat) : refsO (pLoop j e) = [0, 1, 2, 3, 5, 6] := by simp [pLoop]
theorem pLoop_fold (j : Option ACode) (e : Nat) : Obj.loop [(2, .ptr 0 0 0), (4, .ptr 1 0 0), (5, .ptr 2 0 0), (6, .ptr 3 0 0), (8, .ptr 5 0 0), (30, .clo 153 [] [.ptr 6 0 0])] [31] c64A0 c64B0 j e = pLoop j e := rfl
def hc (h : HallI) : List AVal := [iv h.doors, iv h.base, csl h.t0, csl h.t1, csl h.t2]
def pS0 (H : HallI) (out : List ActI) (n : Nat) (rest : List UInt8) : Sto := [(6, .arr [.str rest] 0 1), (5, .box [.sl 4 n 0 n]), (4, .arr (rowC ac out) n 6), (3, .arr [.int .i64 0] 0 1), (2, .arr [.int .i64 0] 0 1), (1, .box [.p .nils]), (0, .box (hc H))]
def pS9 (H : HallI) (out : List ActI) (n : Nat) (rest : List UInt8) : Sto := [(6, .arr [.str rest] 0 1), (5, .box [.sl 4 n 0 n]), (4, .arr (rowC ac out) n 6), (3, .arr [.int .i64 25] 0 1), (2, .arr [.int .i64 n] 0 1), (1, .box [.p .nils]), (0, .box (hc H))]

theorem hidT16 : hidT 16 = [4] := by decide
theorem hidT48 : hidT 48 = [4, 5] := by decide
theorem yldB_ret {call : CallF} {C : Nat → List AVal → Option (T AVal)} {G : Nat → Option (List PVal)} {id : Nat} {st : St} {e3 : Env} {p3 : List Nat} {a3 b3 : ACode} {j : Option ACode} {n : Nat} (h : get st.sto id = some (.loop e3 p3 a3 b3 j n)) : yldB call C G id (.ret, st) = .ret (.p (.bool false), put st.sto id (.loop e3 p3 a3 b3 (some .ret) 2)) := by
 unfold yldB
 simp [jumpOf, h]
theorem splitS_small (c : UInt8) : ∀ l : List UInt8, ∀ x ∈ splitS c l, x.length ≤ l.length := by
 intro l
 induction l with
 | nil => intro x hx; simp [splitS] at hx; subst hx; simp
 | cons b r ih =>
  intro x hx
  simp only [splitS] at hx
  split at hx
  ·rcases List.mem_cons.1 hx with e | e
   ·subst e; simp
   ·have := ih x e; simp; omega
  ·split at hx
   ·simp at hx; subst hx; simp
   ·rename_i w q e
    rcases List.mem_cons.1 hx with e2 | e2
    ·subst e2
     have := ih w (by rw [e]; simp)
     simp; omega
    ·have := ih x (by rw [e]; simp [e2])
     simp; omega

theorem yield_ok {d : Nat} (H : HallI) (line rest : List UInt8) (out : List ActI) (hl : line.length < 100000) (hn : out.length < 100000) (h : line.drop (line.length - 1) = [10]) (x : ActI) (hx : actW (line.take (line.length - 1)) = some x) :
  evFn F C0 G0 (d + 10) (.yld 7) [sv line] ((7, pLoop none 0) :: pS0 H out out.length rest) = .ret (.p (.bool true), [(8, .arr (ac x) 0 1), (7, pLoop none 0)] ++ pS0 H (out ++ [x]) (out.length + 1) rest) := by
 rw [evFn_yld (by rfl) (by rfl)]
 have h1 := cut126 (n := d + 9) (by omega) line 10 (by omega)
 rw [if_pos h] at h1
 obtain ⟨y, h2, h3⟩ := act127 (n := d + 9) (by omega) (line.take (line.length - 1)) (by simp; omega) (fun z hz => by have := splitS_small 32 _ z hz; simp at this; omega)
 rw [h3 x hx, hx] at h2
 simp only [Option.isSome_some] at h2
 have hlim : out.length + 1 ≤ lim := by simp only [lim]; omega
 have hR := aR_len out
 have hr : rowC ac (out ++ [x]) = rowC ac out ++ ac x := rowC_snoc ..
 obtain ⟨t, k, m, a, b, c⟩ := x
 simp only [pS0, hr]
 generalize hA : rowC ac out = A at *
 generalize hc H = HC at *
 simp -implicitDefEqProofs [c64A0]
 rw [yldK_eq (by rfl), pLoop_fold]
 simp -implicitDefEqProofs [c64B0, h1, h2, hlim, hR, ac, -gc]
 rw [yldB_normal (by rfl), pLoop_fold]
 simp -implicitDefEqProofs []

theorem yield_bad {d : Nat} (H : HallI) (line rest : List UInt8) (out : List ActI) (hl : line.length < 100000) (hn : out.length < 100000) (h : ¬ (line.drop (line.length - 1) = [10] ∧ (actW (line.take (line.length - 1))).isSome = true)) :
  ∃ x : ActI, evFn F C0 G0 (d + 10) (.yld 7) [sv line] ((7, pLoop none 0) :: pS0 H out out.length rest) = .ret (.p (.bool false), (8, .arr (ac x) 0 1) :: (7, pLoop (some .ret) 2) :: pS9 H out out.length rest) := by
 rw [evFn_yld (by rfl) (by rfl)]
 have h1 := cut126 (n := d + 9) (by omega) line 10 (by omega)
 obtain ⟨body, ended, hb, hcut, hbl⟩ : ∃ body ended, (ended = true → line.drop (line.length - 1) = [10] ∧ body = line.take (line.length - 1)) ∧ RUN (d + 9) 126 [sv line, sv [10]] = .ret (.tup [sv body, .p (.bool ended)]) ∧ body.length < 100000 := by
  by_cases hc : line.drop (line.length - 1) = [10]
  ·rw [if_pos hc] at h1
   exact ⟨line.take (line.length - 1), true, fun _ => ⟨hc, rfl⟩, h1, by simp; omega⟩
  ·rw [if_neg hc] at h1
   exact ⟨line, false, fun e => (by cases e), h1, hl⟩
 obtain ⟨y, h2, h3⟩ := act127 (n := d + 9) (by omega) body (by omega) (fun z hz => by have := splitS_small 32 _ z hz; omega)
 have hbad : ended = false ∨ (actW body).isSome = false := by
  cases he : ended with
  | false => exact .inl rfl
  | true =>
   obtain ⟨q1, q2⟩ := hb he
   rw [← q2] at h
   exact .inr (by simpa using fun hc => h ⟨q1, hc⟩)
 generalize (actW body).isSome = okk at *
 have hlim : out.length + 1 ≤ lim := by simp only [lim]; omega
 refine ⟨y, ?_⟩
 have goal : ∀ st : St, st = ⟨[], (8, .arr (ac y) 0 1) :: (7, pLoop none 1) :: pS9 H out out.length rest⟩ → yldB (evFn F C0 G0 (d + 9)) C0 G0 7 (.ret, st) = .ret (.p (.bool false), (8, .arr (ac y) 0 1) :: (7, pLoop (some .ret) 2) :: pS9 H out out.length rest) := by
  rintro st rfl
  rw [yldB_ret (by rfl), pLoop_fold]
  simp [pS9]
 have goal := goal _ rfl
 obtain ⟨t, k, m, a, b, c⟩ := y
 simp only [pS0, pS9, ac] at goal ⊢
 generalize rowC ac out = A at *
 generalize hc H = HC at *
 simp -implicitDefEqProofs [c64A0]
 rw [yldK_eq (by rfl), pLoop_fold]
 cases ended with
 | false =>
  simp -implicitDefEqProofs [c64B0, hcut, h2, hide, hidI, hidT16, stOp, plain, goal, -gc]
 | true =>
  cases okk with
  | false => simp -implicitDefEqProofs [c64B0, hcut, h2, hide, hidI, hidT16, stOp, plain, goal, -gc]
  | true => rcases hbad with h | h <;> cases h
end Fw
end

section
/- The lines of a text of acts, read one by one. -/
set_option maxHeartbeats 16000000
set_option maxRecDepth 8000
namespace Fw
open Go
attribute [local irreducible] evCode evOps evOpsD evOper evOperD evOp evFn loopN T.All T.bind callPure callOp opsK opsDK restK seqK blockK loopS setK setQ giveK scalK gcK finish finS rfunK yldK yldB loopK

def goL : List (List UInt8) → List ActI → Bool × List ActI
 | [], out => (true, out)
 | w :: q, out => match q with
  | [] => (decide (w = []), out)
  | _ :: _ => match actW w with
   | some x => goL q (out ++ [x])
   | none => (false, out)

theorem goL_one (w : List UInt8) (out : List ActI) : goL [w] out = (decide (w = []), out) := rfl
theorem goL_more {w : List UInt8} {q : List (List UInt8)} (hq : q ≠ []) (out : List ActI) : goL (w :: q) out = match actW w with
  | some x => goL q (out ++ [x])
  | none => (false, out) := by
 cases q with
 | nil => exact absurd rfl hq
 | cons y r => rfl

theorem goL_length : ∀ (ps : List (List UInt8)) (out : List ActI), (goL ps out).2.length ≤ out.length + ps.length := by
 intro ps
 induction ps with
 | nil => intro out; simp [goL]
 | cons w q ih =>
  intro out
  cases q with
  | nil => rw [goL_one]; simp
  | cons y r =>
   rw [goL_more (by simp)]
   cases actW w with
   | none => simp
   | some x =>
    have := ih (out ++ [x])
    simp at this ⊢
    omega

def lE : Env := [(0, .yld 7), (1, .ptr 6 0 0)]

theorem lines_round {d : Nat} (H : HallI) (rest : List UInt8) (out : List ActI) (hl : rest.length < 90000) (hn : out.length < 90000) (h0 : rest ≠ []) :
  (10 ∈ rest ∧ ∃ x, actW (ahead 10 rest) = some x ∧ loopS (evFn F C0 G0 (d + 10)) C0 G0 8 true [0, 1] c153L0 ⟨lE, (7, pLoop none 0) :: pS0 H out out.length rest⟩ = .ret (.normal, ⟨[(0, .yld 7), (1, .ptr 6 0 0), (24, .p (.bool false))], (7, pLoop none 0) :: pS0 H (out ++ [x]) (out ++ [x]).length (rest.drop ((ahead 10 rest).length + 1))⟩)) ∨
  ((10 ∉ rest ∨ actW (ahead 10 rest) = none) ∧ ∃ env r', loopS (evFn F C0 G0 (d + 10)) C0 G0 8 true [0, 1] c153L0 ⟨lE, (7, pLoop none 0) :: pS0 H out out.length rest⟩ = .ret (.ret, ⟨env, (7, pLoop (some .ret) 2) :: pS9 H out out.length r'⟩)) := by
 have hpos : 0 < rest.length := List.length_pos_iff.2 h0
 have z0 : (0 : Int) < rest.length := by omega
 have hix : RUN (d + 10) 154 [sv rest, .p (.int .u8 10)] = .ret (iv (Lib.indexByte rest 10)) := ib154 (n := d + 10) (by omega) rest 10
 rw [indexByte_ahead] at hix
 by_cases hm : (10 : UInt8) ∈ rest
 ·rw [if_pos hm] at hix
  obtain ⟨e1, e2, e3⟩ := ahead_split hm
  have w1 := wrap64 (n := ((ahead 10 rest).length : Int) + 1) (by omega) (by omega)
  have b1 : ((ahead 10 rest).length : Int) + 1 ≤ rest.length := by omega
  have b2 : (0 : Int) ≤ ((ahead 10 rest).length : Int) + 1 := by omega
  have b3 : (0 : Int) ≤ ((ahead 10 rest).length : Int) := by omega
  have t1 : (((ahead 10 rest).length : Int) + 1).toNat = (ahead 10 rest).length + 1 := by omega
  have htk : rest.take ((ahead 10 rest).length + 1) = ahead 10 rest ++ [10] := by
   have h := congrArg (List.take ((ahead 10 rest).length + 1)) e1
   rw [h, List.take_append]
   simp
   exact List.take_of_length_le (by omega)
  have hd : (ahead 10 rest ++ [10]).drop ((ahead 10 rest ++ [10]).length - 1) = [10] := by simp
  have hk : (ahead 10 rest ++ [10]).take ((ahead 10 rest ++ [10]).length - 1) = ahead 10 rest := by simp
  generalize hA : ahead 10 rest = A at *
  generalize hR : rest.drop (A.length + 1) = R at *
  cases hp : actW A with
  | some x =>
   refine .inl ⟨hm, x, rfl, ?_⟩
   have hy := yield_ok (d := d) H (A ++ [10]) R out (by simp; omega) (by omega) hd x (by rw [hk]; exact hp)
   simp only [pS0, List.cons_append, List.nil_append] at hy
   simp -implicitDefEqProofs [lE, pS0, loopS_eq, c153L0, gc_all, hpos, hix, w1, b1, b2, b3, t1, htk, hR, hy, -gc]
   simp -implicitDefEqProofs [pLoop, show refsL (hc H) = [] from rfl]
  | none =>
   refine .inr ⟨.inr rfl, ?_⟩
   obtain ⟨x', hy⟩ := yield_bad (d := d) H (A ++ [10]) R out (by simp; omega) (by omega) (by rw [hk, hp]; simp)
   simp only [pS0, pS9] at hy
   refine ⟨[(0, .yld 7), (1, .ptr 6 0 0), (24, .p (.bool true))], R, ?_⟩
   simp -implicitDefEqProofs [lE, pS0, pS9, loopS_eq, c153L0, gc_all, hpos, hix, w1, b1, b2, b3, t1, htk, hR, hy, -gc]
   simp -implicitDefEqProofs [pLoop, show refsL (hc H) = [] from rfl]
 ·rw [if_neg hm] at hix
  refine .inr ⟨.inl hm, ?_⟩
  have hnd : ¬ (rest.drop (rest.length - 1) = [10] ∧ (actW (rest.take (rest.length - 1))).isSome = true) := fun h => hm (by
   have : (10 : UInt8) ∈ rest.drop (rest.length - 1) := by rw [h.1]; simp
   exact List.mem_of_mem_drop this)
  obtain ⟨x', hy⟩ := yield_bad (d := d) H rest [] out (by omega) (by omega) hnd
  simp only [pS0, pS9] at hy
  refine ⟨[(0, .yld 7), (1, .ptr 6 0 0), (24, .p (.bool true))], [], ?_⟩
  simp -implicitDefEqProofs [lE, pS0, pS9, loopS_eq, c153L0, gc_all, hpos, hix, hy, -gc]
  simp -implicitDefEqProofs [pLoop, show refsL (hc H) = [] from rfl]

theorem lines_same {d : Nat} {env : Env} (he : restrict env [0, 1] = lE) (S : Sto) : loopS (evFn F C0 G0 (d + 10)) C0 G0 8 true [0, 1] c153L0 ⟨env, S⟩ = loopS (evFn F C0 G0 (d + 10)) C0 G0 8 true [0, 1] c153L0 ⟨lE, S⟩ := by
 have : restrict lE [0, 1] = lE := rfl
 simp only [loopS_eq, he, this]
theorem lines_end {d : Nat} (H : HallI) (out : List ActI) (n : Nat) : loopS (evFn F C0 G0 (d + 10)) C0 G0 8 true [0, 1] c153L0 ⟨lE, (7, pLoop none 0) :: pS0 H out n []⟩ = .ret (.exit 0, ⟨[(0, .yld 7), (1, .ptr 6 0 0), (7, .p (.bool false))], (7, pLoop none 0) :: pS0 H out n []⟩) := by
 simp -implicitDefEqProofs [loopS_eq, lE, pS0, c153L0, gc_all, -gc]

theorem lines_loop {d : Nat} (H : HallI) : ∀ (k : Nat) (rest : List UInt8) (out : List ActI) (env : Env) (fuel : Nat), rest.length ≤ k → k < 80000 → out.length + k < 90000 → k < fuel → restrict env [0, 1] = lE →
  ∃ e env' r', loopN (loopS (evFn F C0 G0 (d + 10)) C0 G0 8 true [0, 1] c153L0) fuel ⟨env, (7, pLoop none 0) :: pS0 H out out.length rest⟩ = .ret (e, ⟨env', if (goL (splitS 10 rest) out).1 = true then (7, pLoop none 0) :: pS0 H (goL (splitS 10 rest) out).2 (goL (splitS 10 rest) out).2.length r' else (7, pLoop (some .ret) 2) :: pS9 H (goL (splitS 10 rest) out).2 (goL (splitS 10 rest) out).2.length r'⟩) ∧ (e = .exit 0 ∨ e = .ret) := by
 intro k
 induction k with
 | zero =>
  intro rest out env fuel hk _ _ hf he
  have : rest = [] := List.eq_nil_of_length_eq_zero (by omega)
  subst this
  refine ⟨.exit 0, [(0, .yld 7), (1, .ptr 6 0 0), (7, .p (.bool false))], [], ?_, .inl rfl⟩
  have hg : goL (splitS 10 []) out = (true, out) := rfl
  rw [hg]
  exact loopN_end (by rw [lines_same he, lines_end]; rfl) (by simp) (by omega)
 | succ k ih =>
  intro rest out env fuel hk hk2 hn hf he
  by_cases h0 : rest = []
  ·subst h0
   refine ⟨.exit 0, [(0, .yld 7), (1, .ptr 6 0 0), (7, .p (.bool false))], [], ?_, .inl rfl⟩
   have hg : goL (splitS 10 []) out = (true, out) := rfl
   rw [hg]
   exact loopN_end (by rw [lines_same he, lines_end]; rfl) (by simp) (by omega)
  ·have hst := lines_same (d := d) he ((7, pLoop none 0) :: pS0 H out out.length rest)
   rcases lines_round (d := d) H rest out (by omega) (by omega) h0 with ⟨hm, x, hx, hr⟩ | ⟨hb, env2, r', hr⟩
   ·rw [← hst] at hr
    rw [loopN_on hr (by omega)]
    obtain ⟨e1, e2, e3⟩ := ahead_split hm
    have hs : splitS 10 rest = ahead 10 rest :: splitS 10 (rest.drop ((ahead 10 rest).length + 1)) := by
     conv => lhs; rw [e1]
     exact splitS_at e2
    have hg : goL (splitS 10 rest) out = goL (splitS 10 (rest.drop ((ahead 10 rest).length + 1))) (out ++ [x]) := by
     rw [hs, goL_more (splitS_ne _ _), hx]
    rw [hg]
    exact ih (rest.drop ((ahead 10 rest).length + 1)) (out ++ [x]) _ (fuel - 1) (by rw [List.length_drop]; omega) (by omega) (by simp; omega) (by omega) rfl
   ·rw [← hst] at hr
    have hg : goL (splitS 10 rest) out = (false, out) := by
     by_cases hm : (10 : UInt8) ∈ rest
     ·have hl : actW (ahead 10 rest) = none := by
       rcases hb with h | h
       ·exact absurd hm h
       ·exact h
      obtain ⟨e1, e2, e3⟩ := ahead_split hm
      have hs : splitS 10 rest = ahead 10 rest :: splitS 10 (rest.drop ((ahead 10 rest).length + 1)) := by
       conv => lhs; rw [e1]
       exact splitS_at e2
      rw [hs, goL_more (splitS_ne _ _), hl]
     ·rw [splitS_none hm, goL_one]
      simp [h0]
    rw [hg]
    exact ⟨.ret, env2, r', loopN_end hr (by simp) (by omega), .inr rfl⟩

theorem rfunK_ret {lo : Nat} {env : Env} {id : Nat} {a : AVal} {s : Sto} {e1 : Env} {p1 : List Nat} {a1 b1 : ACode} {n : Nat} (h : get s id = some (.loop e1 p1 a1 b1 (some .ret) n)) (hn : n ≠ 1) : rfunK lo env id (a, s) = .ret (.ret, ⟨env, gc lo env (put s id (.loop e1 p1 a1 b1 (some .ret) 3))⟩) := by
 unfold rfunK
 simp [h, hn]

end Fw
end

section
/- A line of a text of acts, read by the reference. -/
set_option maxHeartbeats 16000000
set_option maxRecDepth 8000
namespace Fw
open Go
attribute [local irreducible] evCode evOps evOpsD evOper evOperD evOp evFn loopN T.All T.bind callPure callOp opsK opsDK restK seqK blockK loopS setK setQ giveK scalK gcK finish finS rfunK yldK yldB loopK

def manyK (k : List UInt8) : Nat := if k = kMeasure then 4 else if k ∈ [kArm, kDisarm, kShoot] then 1 else 2
def actOf (k : List UInt8) (ns : List Int) : ActI := ⟨ns.getD 0 0, k, if manyK k = 2 then ns.getD 1 0 else 0, if manyK k = 4 then ns.getD 1 0 else 0, if manyK k = 4 then ns.getD 2 0 else 0, if manyK k = 4 then ns.getD 3 0 else 0⟩
theorem wordsA_ref (k : List UInt8) (r : List (List UInt8)) : wordsA (k :: r) = if k ∈ kindL ∧ (∀ x ∈ r, digOk x = true) ∧ r.length = manyK k then some (actOf k (r.map digV)) else none := by
 have m1 : kMeasure ∈ kindL := by decide
 have m2 : ¬ kMeasure ∈ [kArm, kDisarm, kShoot] := by decide
 have m4 : ∀ k, k ∈ [kArm, kDisarm, kShoot] → k ∈ kindL := by
  intro k h
  simp only [List.mem_cons, List.not_mem_nil, or_false] at h
  rcases h with h | h | h <;> subst h <;> decide
 have hkl : kindL ≠ [] := by decide
 by_cases hm : k = kMeasure
 ·subst hm
  rcases r with _ | ⟨t, _ | ⟨a, _ | ⟨b, _ | ⟨c, _ | ⟨e, r⟩⟩⟩⟩⟩
  all_goals first | (simp only [wordsA, m1, m2, manyK, actOf, not_true, false_and, and_false, if_false, if_true, List.length_cons, List.length_nil]; simp; done) | skip
 ·by_cases ha : k ∈ [kArm, kDisarm, kShoot]
  ·have hk := m4 k ha
   rcases r with _ | ⟨t, _ | ⟨a, _ | ⟨b, _ | ⟨c, _ | ⟨e, r⟩⟩⟩⟩⟩
   all_goals first | (simp only [wordsA, hm, ha, hk, manyK, actOf, not_true, false_and, and_false, if_false, if_true, List.length_cons, List.length_nil]; simp; done) | skip
  ·rcases r with _ | ⟨t, _ | ⟨a, _ | ⟨b, _ | ⟨c, _ | ⟨e, r⟩⟩⟩⟩⟩
   all_goals first | (simp only [wordsA, hm, ha, manyK, actOf, false_and, if_false, if_true, List.length_cons, List.length_nil]; simp; done) | skip

abbrev nS (H : HallI) (out : List ActI) (ns : List Int) : Sto := [(2, .arr (pI ns) ns.length 1), (1, .arr (rowC ac out) out.length 6), (0, .box (hc H))]
abbrev nE (W : List (List UInt8)) (E : Nat) (out : List ActI) (i : Nat) (ws : List (List UInt8)) (j : Nat) : Env := [(2, .ptr 0 0 0), (7, .p (.sl (pStr W) W.length)), (8, iv E), (9, .sl 1 out.length 0 out.length), (10, iv i), (11, .p (.sl (pStr ws) ws.length)), (12, .sl 2 j 0 j), (13, iv ((j : Int) + 1))]
abbrev badE (i : Nat) : Env := [(4, .p .nils), (5, iv i), (6, iv 25)]
def digX (r : List (List UInt8)) (j : Nat) : Int := if digOk (r.getD j []) = true then 0 else 1

theorem nums_loop {d : Nat} (H : HallI) (W : List (List UInt8)) (E : Nat) (out : List ActI) (i : Nat) (w0 : List UInt8) (r : List (List UInt8)) (hr : r.length < 100000) :
  ((∀ x ∈ r, digOk x = true) ∧ loopN (loopS (evFn F C0 G0 (d + 1)) C0 G0 0 false [2, 7, 8, 9, 10, 11, 12, 13] c67L0) loopFuel ⟨[(2, .ptr 0 0 0), (7, .p (.sl (pStr W) W.length)), (8, iv E), (9, .sl 1 out.length 0 out.length), (10, iv i), (11, .p (.sl (pStr (w0 :: r)) (r.length + 1))), (12, .sl 2 0 0 0), (13, iv 1)], [(2, .arr [] 0 1), (1, .arr (rowC ac out) out.length 6), (0, .box (hc H))]⟩ = .ret (.exit 2, ⟨nE W E out i (w0 :: r) r.length ++ [(49, .p (.bool false))], nS H out (r.map digV)⟩)) ∨
  ((¬ ∀ x ∈ r, digOk x = true) ∧ ∃ st, loopN (loopS (evFn F C0 G0 (d + 1)) C0 G0 0 false [2, 7, 8, 9, 10, 11, 12, 13] c67L0) loopFuel ⟨[(2, .ptr 0 0 0), (7, .p (.sl (pStr W) W.length)), (8, iv E), (9, .sl 1 out.length 0 out.length), (10, iv i), (11, .p (.sl (pStr (w0 :: r)) (r.length + 1))), (12, .sl 2 0 0 0), (13, iv 1)], [(2, .arr [] 0 1), (1, .arr (rowC ac out) out.length 6), (0, .box (hc H))]⟩ = .ret (.ret, st) ∧ st.env = badE i) := by
 let inv : Nat → St := fun j => ⟨nE W E out i (w0 :: r) j, nS H out ((r.map digV).take j)⟩
 have hsl : (pStr (w0 :: r)).length = r.length + 1 := by simp
 have key := loop_firstR (step := loopS (evFn F C0 G0 (d + 1)) C0 G0 0 false [2, 7, 8, 9, 10, 11, 12, 13] c67L0) inv (digX r) r.length (.exit 2, ⟨(inv r.length).env ++ [(49, .p (.bool false))], (inv r.length).sto⟩) (fun _ st => st.env = badE i)
  (st0 := ⟨[(2, .ptr 0 0 0), (7, .p (.sl (pStr W) W.length)), (8, iv E), (9, .sl 1 out.length 0 out.length), (10, iv i), (11, .p (.sl (pStr (w0 :: r)) (r.length + 1))), (12, .sl 2 0 0 0), (13, iv 1)], [(2, .arr [] 0 1), (1, .arr (rowC ac out) out.length 6), (0, .box (hc H))]⟩) rfl (fun j hj => by
   have hgj : r.getD j [] = r[j] := by simp [List.getD_eq_getElem?_getD, List.getElem?_eq_getElem hj]
   have hd1 := digits130 (n := d + 1) (by omega) r[j]
   have hdr := pStr_drop (w0 :: r) (j + 1) (by simp; omega)
   have hgw : (w0 :: r)[j + 1]'(by simp; omega) = r[j] := by simp
   rw [hgw] at hdr
   have hlt : (j : Int) + 1 < (r.length : Int) + 1 := by omega
   have hlt2 : j + 1 < r.length + 1 := by omega
   have h0 : (0 : Int) ≤ (j : Int) + 1 := by omega
   have hz : ((j : Int) + 1).toNat = j + 1 := by omega
   have hlim : j + 1 ≤ lim := by simp only [lim]; omega
   have wi : IntKind.i64.wrap ((j : Int) + 1 + 1) = (j : Int) + 1 + 1 := wrap64 (by omega) (by omega)
   have htl : ((r.map digV).take j).length = j := by simp; omega
   have hpl : (pI ((r.map digV).take j)).length = j := by simp [pI]; omega
   have hts : pI ((r.map digV).take (j + 1)) = pI ((r.map digV).take j) ++ [.int .i64 (digV r[j])] := by
    rw [List.take_add_one]
    simp [pI, List.getElem?_eq_getElem hj]
   have htl2 : ((r.map digV).take (j + 1)).length = j + 1 := by simp; omega
   simp only [digX, hgj, inv, nE, nS, htl, htl2, hts]
   generalize hV : digV r[j] = v at *
   generalize r[j] = x at *
   generalize hQ : pStr (w0 :: r) = Q at *
   generalize pStr W = Q2 at *
   generalize rowC ac out = A at *
   generalize hc H = HC at *
   generalize pI ((r.map digV).take j) = N at *
   refine ⟨fun he => ?_, fun he => ?_⟩
   ·have hx : digOk x = true := by
     by_cases h : digOk x = true
     ·exact h
     ·rw [if_neg h] at he; cases he
    rw [hx, if_pos rfl] at hd1
    refine ⟨?_, ?g1, ?g2⟩
    case g1 =>
     simp -implicitDefEqProofs [loopS_eq, c67L0, hsl, hd1, hdr, hlt, hlt2, h0, hz, hlim, hpl, wi]
     exact rfl
    case g2 => simp
   ·have hx : digOk x = false := by
     by_cases h : digOk x = true
     ·rw [if_pos h] at he; exact absurd rfl he
     ·simpa using h
    rw [hx] at hd1
    simp only [Bool.false_eq_true, if_false] at hd1
    refine ⟨?_, ?g1, ?g2⟩
    case g1 =>
     simp -implicitDefEqProofs [loopS_eq, c67L0, hsl, hd1, hdr, hlt, hlt2, h0, hz]
     exact rfl
    case g2 => simp) (by
   simp -implicitDefEqProofs [inv, loopS_eq, c67L0]) (by simp) (fuel := loopFuel) (by simp [loopFuel]; omega)
 rcases key with ⟨k1, k2⟩ | ⟨j, st, hj, k1, k2, k3, k4, _⟩
 ·refine .inl ⟨fun x hx => ?_, ?_⟩
  ·obtain ⟨j, hj, rfl⟩ := List.mem_iff_getElem.1 hx
   have h := firstE_zero.1 k2 (digX r j) (List.mem_map.2 ⟨j, List.mem_range.2 hj, rfl⟩)
   simp only [digX, List.getD_eq_getElem?_getD, List.getElem?_eq_getElem hj, Option.getD_some] at h
   by_cases h' : digOk r[j] = true
   ·exact h'
   ·rw [if_neg h'] at h; cases h
  ·have e : (r.map digV).take r.length = r.map digV := List.take_of_length_le (by simp)
   simp only [inv, e] at k1
   exact k1
 ·refine .inr ⟨fun h => ?_, st, k1, k2⟩
  apply k4
  simp only [digX, List.getD_eq_getElem?_getD, List.getElem?_eq_getElem hj, Option.getD_some]
  rw [if_pos (h _ (List.getElem_mem hj))]
end Fw
end

