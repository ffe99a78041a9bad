/- Words taken as numbers. -/
import Derived.Test.YtombnimlolbekaaGreatDoorPuT3
set_option maxHeartbeats 8000000
namespace Fw
open Go
attribute [local irreducible] evCode evOps evOpsD evOper evOperD evOp evFn loopN T.All T.bind callPure callOp opsK opsDK restK seqK blockK loopS setK setQ giveK scalK gcK finish finS rfunK yldK yldB loopK

/-- what is taken from words: the number, the words that are left, whether one was wrong -/
def takeN (ws : List (List UInt8)) (w : Bool) : Int × List (List UInt8) × Bool := match ws with
  | [] => (0, [], true)
  | x :: r => (intV x, r, w || !digOk x)

theorem number137 {d : Nat} (ws : List (List UInt8)) (w : Bool) (hw : ∀ x ∈ ws, x.length < 1000000) (k : Nat) (Z R : Sto) (hZ : ∀ o, get (Z ++ (k, o) :: R) k = some o) (hP : ∀ o o', put (Z ++ (k, o) :: R) k o' = Z ++ (k, o') :: R) :
    evFn F C0 G0 (d + 2) (.fn 137) [.ptr k 0 0] (Z ++ (k, .box [.p (.sl (pStr ws) ws.length), .p (.bool w)]) :: R) = .ret (iv (takeN ws w).1, Z ++ (k, .box [.p (.sl (pStr (takeN ws w).2.1) (takeN ws w).2.1.length), .p (.bool (takeN ws w).2.2)]) :: R) := by
  rw [evFn_fn fe137]
  cases ws with
  | nil =>
    simp -implicitDefEqProofs [c137, hZ, hP, takeN]
  | cons x r =>
    have hx := hw x (by simp)
    have hi := integer170 (n := d + 1) (by omega) x (by omega)
    have hp : pStr (x :: r) = .str x :: pStr r := rfl
    have b1 : ¬ ((r.length : Int) + 1 = 0) := by omega
    have b2 : (1 : Int) ≤ (r.length : Int) + 1 := by omega
    have htl : (pStr r).take r.length = pStr r := List.take_of_length_le (by simp)
    generalize hq : digOk x = q at *
    cases w <;> cases q
    all_goals simp -implicitDefEqProofs [c137, hZ, hP, takeN, hp, hi, hq, b1, b2, htl]

/-- one line: the setting's step that it says -/
def lineP (w : List UInt8) : Option (Int × Int) := match splitS 32 w with
  | [w0, w1, w2] => if w0 = [115, 116, 101, 112] ∧ digOk w1 = true ∧ digOk w2 = true then some (digV w1, digV w2) else none
  | _ => none

/-- the outcome of taking both numbers -/
def tookB (ws : List (List UInt8)) : Bool := (takeN (takeN (ws.drop 1) false).2.1 (takeN (ws.drop 1) false).2.2).2.2 || decide (0 < (takeN (takeN (ws.drop 1) false).2.1 (takeN (ws.drop 1) false).2.2).2.1.length)

theorem lineP_some {w : List UInt8} : (splitS 32 w).getD 0 [] = [115, 116, 101, 112] ∧ tookB (splitS 32 w) = false → lineP w = some ((takeN ((splitS 32 w).drop 1) false).1, (takeN (takeN ((splitS 32 w).drop 1) false).2.1 (takeN ((splitS 32 w).drop 1) false).2.2).1) := by
  rintro ⟨h1, h2⟩
  unfold lineP
  generalize splitS 32 w = ws at *
  match ws, h1, h2 with
  | [], h1, _ => simp at h1
  | [w0], _, h2 => simp [tookB, takeN] at h2
  | [w0, w1], _, h2 => simp [tookB, takeN] at h2
  | [w0, w1, w2], h1, h2 =>
    simp [tookB, takeN] at h1 h2
    simp [h1, h2, takeN, intV_ok]
  | w0 :: w1 :: w2 :: w3 :: r, _, h2 => simp [tookB, takeN] at h2
theorem lineP_none {w : List UInt8} : ¬ ((splitS 32 w).getD 0 [] = [115, 116, 101, 112] ∧ tookB (splitS 32 w) = false) → lineP w = none := by
  intro h
  unfold lineP
  generalize splitS 32 w = ws at *
  match ws, h with
  | [], _ => rfl
  | [w0], _ => rfl
  | [w0, w1], _ => rfl
  | [w0, w1, w2], h =>
    simp only
    rw [if_neg]
    intro h'
    apply h
    simp [tookB, takeN, h'.1, h'.2.1, h'.2.2]
  | w0 :: w1 :: w2 :: w3 :: r, _ => rfl

theorem lineP_inv {w : List UInt8} {x : Int × Int} (h : lineP w = some x) : ∃ w1 w2, splitS 32 w = [[115, 116, 101, 112], w1, w2] ∧ digOk w1 = true ∧ digOk w2 = true ∧ x = (digV w1, digV w2) := by
  unfold lineP at h
  split at h
  · rename_i w0 w1 w2 e
    split at h
    · rename_i hc
      cases h
      exact ⟨w1, w2, by rw [e, hc.1], hc.2.1, hc.2.2, rfl⟩
    · cases h
  · cases h

/-- the loop over the lines, and the store while they are read: the results, the steps so far, the rest of the text -/
def pLoop (j : Option ACode) (e : Nat) : Obj := .loop [(2, .ptr 0 0 0), (3, .ptr 1 0 0), (4, .ptr 2 0 0), (5, .ptr 4 0 0), (18, .clo 166 [] [.ptr 5 0 0])] [19] c70A0 c70B0 j e
theorem refs_pLoop (j : Option ACode) (e : Nat) : refsO (pLoop j e) = [0, 1, 2, 4, 5] := by simp [pLoop]
theorem pLoop_fold (j : Option ACode) (e : Nat) : Obj.loop [(2, .ptr 0 0 0), (3, .ptr 1 0 0), (4, .ptr 2 0 0), (5, .ptr 4 0 0), (18, .clo 166 [] [.ptr 5 0 0])] [19] c70A0 c70B0 j e = pLoop j e := rfl
def pS0 (out : List (Int × Int)) (n : Nat) (rest : List UInt8) : Sto := [(5, .arr [.str rest] 0 1), (4, .box [.sl 3 n 0 n]), (3, .arr (cI out) n 2), (2, .arr [.int .i64 0] 0 1), (1, .arr [.int .i64 0] 0 1), (0, .box [.p .nils])]
def pS9 (out : List (Int × Int)) (n : Nat) (rest : List UInt8) : Sto := [(5, .arr [.str rest] 0 1), (4, .box [.sl 3 n 0 n]), (3, .arr (cI out) n 2), (2, .arr [.int .i64 25] 0 1), (1, .arr [.int .i64 n] 0 1), (0, .box [.p .nils])]

theorem yield_ok {d : Nat} (line rest : List UInt8) (out : List (Int × Int)) (hl : line.length < 100000) (hn : out.length < 100000) (h : line.drop (line.length - 1) = [10]) (x : Int × Int) (hx : lineP (line.take (line.length - 1)) = some x) :
    evFn F C0 G0 (d + 8) (.yld 6) [sv line] ((6, pLoop none 0) :: pS0 out out.length rest) = .ret (.p (.bool true), [(8, .arr [.int .i64 x.1, .int .i64 x.2] 0 1), (7, .box [.p (.sl [] 0), .p (.bool false)]), (6, pLoop none 0)] ++ pS0 (out ++ [x]) (out.length + 1) rest) := by
  rw [evFn_yld (by rfl) (by rfl)]
  obtain ⟨w1, w2, e1, e2, e3, rfl⟩ := lineP_inv hx
  have h1 := cut135 (n := d + 7) (by omega) line 10 (by omega)
  rw [if_pos h] at h1
  have h2 := split136 (n := d + 7) (by omega) (line.take (line.length - 1)) 32 (by simp; omega)
  rw [e1] at h2
  have l1 : w1.length < 1000000 := by simp only [digOk, Bool.and_eq_true, decide_eq_true_eq] at e2; omega
  have l2 : w2.length < 1000000 := by simp only [digOk, Bool.and_eq_true, decide_eq_true_eq] at e3; omega
  have n1 := number137 (d := d + 5) [w1, w2] false (by simp [l1, l2]) 7 [] ((6, pLoop none 1) :: pS0 out out.length rest) (fun o => by simp) (fun o o' => by simp)
  have n2 := number137 (d := d + 5) [w2] false (by simp [l2]) 7 [(8, .arr [.int .i64 (digV w1), .int .i64 0] 0 1)] ((6, pLoop none 1) :: pS0 out out.length rest) (fun o => by simp) (fun o o' => by simp)
  simp -implicitDefEqProofs [takeN, e2, e3, intV_ok, pS0, pStr] at n1 n2
  have g : G0 0 = some [.str [115, 116, 101, 112]] := rfl
  have hlim : out.length + 1 ≤ lim := by simp only [lim]; omega
  simp -implicitDefEqProofs [c70A0]
  rw [yldK_eq (by rfl), pLoop_fold]
  simp -implicitDefEqProofs [c70B0, pS0, h1, h2, pStr, n1, n2, g, hlim, strBin, gc_all, -gc]
  rw [yldB_normal (by rfl), pLoop_fold, cI_append]
  simp -implicitDefEqProofs [cI]

theorem yldB_ret {call : CallF} {C : Nat → List AVal → Option (T AVal)} {G : Nat → Option (List PVal)} {id : Nat} {st : St} {e3 : Env} {p3 : List Nat} {a3 b3 : ACode} {j : Option ACode} {n : Nat} (h : get st.sto id = some (.loop e3 p3 a3 b3 j n)) : yldB call C G id (.ret, st) = .ret (.p (.bool false), put st.sto id (.loop e3 p3 a3 b3 (some .ret) 2)) := by
  unfold yldB
  simp [jumpOf, h]

theorem hidT4 : hidT 4 = [2] := by decide

/-- the words of a line, and what taking numbers from them leaves -/
theorem yield_bad {d : Nat} (line rest : List UInt8) (out : List (Int × Int)) (hl : line.length < 100000) (hn : out.length < 100000) (h : ¬ (line.drop (line.length - 1) = [10] ∧ (lineP (line.take (line.length - 1))).isSome = true)) :
    ∃ (a1 b1 : Int) (b2 : List (List UInt8)) (b3 : Bool), evFn F C0 G0 (d + 8) (.yld 6) [sv line] ((6, pLoop none 0) :: pS0 out out.length rest) = .ret (.p (.bool false), (8, .arr [.int .i64 a1, .int .i64 b1] 0 1) :: (7, .box [.p (.sl (pStr b2) b2.length), .p (.bool b3)]) :: (6, pLoop (some .ret) 2) :: pS9 out out.length rest) := by
  rw [evFn_yld (by rfl) (by rfl)]
  have h1 := cut135 (n := d + 7) (by omega) line 10 (by omega)
  have g : G0 0 = some [.str [115, 116, 101, 112]] := rfl
  obtain ⟨body, ended, hb, hcut, hbl⟩ : ∃ body ended, (ended = true → line.drop (line.length - 1) = [10] ∧ body = line.take (line.length - 1)) ∧ RUN (d + 7) 135 [sv line, sv [10]] = .ret (.tup [sv body, .p (.bool ended)]) ∧ body.length < 100000 := by
    by_cases hc : line.drop (line.length - 1) = [10]
    · rw [if_pos hc] at h1
      exact ⟨line.take (line.length - 1), true, fun _ => ⟨hc, rfl⟩, h1, by simp; omega⟩
    · rw [if_neg hc] at h1
      exact ⟨line, false, fun e => (by cases e), h1, hl⟩
  have h2 := split136 (n := d + 7) (by omega) body 32 (by omega)
  have hwlen : ∀ x ∈ splitS 32 body, x.length < 1000000 := by
    have : ∀ l : List UInt8, ∀ x ∈ splitS 32 l, x.length ≤ l.length := by
      intro l
      induction l with
      | nil => intro x hx; simp [splitS] at hx; subst hx; simp
      | cons b r ih =>
        intro x hx
        simp only [splitS] at hx
        split at hx
        · rcases List.mem_cons.1 hx with e | e
          · subst e; simp
          · have := ih x e; simp; omega
        · split at hx
          · simp at hx; subst hx; simp
          · rename_i w q e
            rcases List.mem_cons.1 hx with e2 | e2
            · subst e2
              have := ih w (by rw [e]; simp)
              simp; omega
            · have := ih x (by rw [e]; simp [e2])
              simp; omega
    intro x hx
    have := this body x hx
    omega
  obtain ⟨w0, r, hw⟩ : ∃ w0 r, splitS 32 body = w0 :: r := by
    cases hq : splitS 32 body with
    | nil => exact absurd hq (splitS_ne 32 body)
    | cons w q => exact ⟨w, q, rfl⟩
  have hbad : ended = false ∨ ¬ (w0 = [115, 116, 101, 112] ∧ tookB (w0 :: r) = false) := by
    cases he : ended with
    | false => exact .inl rfl
    | true =>
      refine .inr (fun hc => h ?_)
      obtain ⟨q1, q2⟩ := hb he
      refine ⟨q1, ?_⟩
      rw [← q2]
      rw [lineP_some (w := body) (by rw [hw]; exact hc)]
      rfl
  rw [hw] at h2 hwlen
  have htk : tookB (w0 :: r) = ((takeN (takeN r false).2.1 (takeN r false).2.2).2.2 || decide (0 < (takeN (takeN r false).2.1 (takeN r false).2.2).2.1.length)) := rfl
  rw [htk] at hbad
  have hr : ∀ x ∈ r, x.length < 1000000 := fun x hx => hwlen x (by simp [hx])
  have ha : ∀ x ∈ (takeN r false).2.1, x.length < 1000000 := by
    cases r with
    | nil => intro x hx; simp [takeN] at hx
    | cons y q => intro x hx; exact hr x (by simp [takeN] at hx; simp [hx])
  have n1 := number137 (d := d + 5) r false hr 7 [] ((6, pLoop none 1) :: pS0 out out.length rest) (fun o => by simp) (fun o o' => by simp)
  generalize hA : takeN r false = a at *
  obtain ⟨a1, a2, a3⟩ := a
  simp only at ha htk hbad n1
  have n2 := number137 (d := d + 5) a2 a3 ha 7 [(8, .arr [.int .i64 a1, .int .i64 0] 0 1)] ((6, pLoop none 1) :: pS0 out out.length rest) (fun o => by simp) (fun o o' => by simp)
  generalize hB : takeN a2 a3 = b at *
  obtain ⟨b1, b2, b3⟩ := b
  simp only at hbad n2
  simp only [pS0, List.nil_append, List.cons_append] at n1 n2
  have hp : pStr (w0 :: r) = .str w0 :: pStr r := rfl
  have hlim : out.length + 1 ≤ lim := by simp only [lim]; omega
  have z1 : (1 : Int) ≤ (r.length : Int) + 1 := by omega
  have htl : (pStr r).take r.length = pStr r := List.take_of_length_le (by simp)
  have z2 : (0 : Int) < (r.length : Int) + 1 := by omega
  simp only [hp, List.length_cons] at h2
  refine ⟨a1, b1, b2, b3, ?_⟩
  simp -implicitDefEqProofs [c70A0]
  rw [yldK_eq (by rfl), pLoop_fold]
  have goal : ∀ st : St, st = ⟨[], [(8, .arr [.int .i64 a1, .int .i64 b1] 0 1), (7, .box [.p (.sl (pStr b2) b2.length), .p (.bool b3)]), (6, pLoop none 1)] ++ pS9 out out.length rest⟩ → yldB (evFn F C0 G0 (d + 7)) C0 G0 6 (.ret, st) = .ret (.p (.bool false), [(8, .arr [.int .i64 a1, .int .i64 b1] 0 1), (7, .box [.p (.sl (pStr b2) b2.length), .p (.bool b3)])] ++ [(6, pLoop (some .ret) 2)] ++ pS9 out out.length rest) := by
    rintro st rfl
    rw [yldB_ret (by rfl), pLoop_fold]
    simp [pS9]
  have goal := goal _ rfl
  simp only [pS9, List.cons_append, List.nil_append] at goal
  cases ended with
  | false =>
    simp -implicitDefEqProofs [c70B0, pS0, pS9, hcut, h2, htl, n1, n2, z1, gc_all, hide, hidI, hidT4, stOp, plain, goal, -gc]
  | true =>
    cases hw0 : (w0 == [115, 116, 101, 112]) with
    | false =>
      simp -implicitDefEqProofs [c70B0, pS0, pS9, hcut, h2, htl, n1, n2, g, z1, z2, strBin, hw0, gc_all, hide, hidI, hidT4, stOp, plain, goal, -gc]
    | true =>
      cases b3 with
      | true => simp -implicitDefEqProofs [c70B0, pS0, pS9, hcut, h2, htl, n1, n2, g, z1, z2, strBin, hw0, gc_all, hide, hidI, hidT4, stOp, plain, goal, -gc]
      | false =>
        have hw0' : w0 = [115, 116, 101, 112] := by simpa using hw0
        have hgt : (0 : Int) < b2.length := by
          simp only [hw0', Bool.false_or, Bool.true_eq_false, false_or, true_and, decide_eq_false_iff_not, Classical.not_not] at hbad
          omega
        have hne : b2 ≠ [] := fun e => by subst e; simp at hgt
        simp -implicitDefEqProofs [c70B0, pS0, pS9, hcut, h2, htl, n1, n2, g, z1, z2, strBin, hw0, hne, gc_all, hide, hidI, hidT4, stOp, plain, goal, -gc]
end Fw
