/- Schedules: conflicts of two jobs, both sides. -/
import Derived.Test.YtdjkleaojdeepaaGreatDoorGaJ6
set_option maxHeartbeats 16000000
set_option maxRecDepth 8000
namespace Fw
open Go
attribute [local irreducible] evCode evOps evOpsD evOper evOperD evOp evFn loopN T.All T.bind callPure callOp opsK opsDK restK seqK blockK loopS setK setQ giveK scalK gcK finish finS rfunK yldK yldB loopK

/-- do two jobs with their starts meet? -/
def conB (x y : JobI) (sx sy : Int) : Bool := decide (sx < freeJ x y sy) && decide (sy < freeJ y x sx)
def conI (l : List JobI) (st : List Int) (i k : Nat) : Bool := conB (l.getD i zJ) (l.getD k zJ) (st.getD i 0) (st.getD k 0)
/-- the first conflict of a job with those before it -/
def con1 (l : List JobI) (st : List Int) (i : Nat) : Int := firstE ((List.range i).map fun k => if conI l st i k = true then 24 else 0)
def conE (l : List JobI) (st : List Int) : Int := firstE ((List.range l.length).map (con1 l st))
theorem firstE_val (es : List Int) (v : Int) (h : ∀ e ∈ es, e = 0 ∨ e = v) : firstE es = 0 ∨ firstE es = v := by
  induction es with
  | nil => exact .inl rfl
  | cons e r ih =>
    rw [firstE_cons]
    split
    · exact ih (fun x hx => h x (by simp [hx]))
    · rcases h e (by simp) with h | h
      · rename_i q; exact absurd h q
      · exact .inr h
theorem con1_val (l : List JobI) (st : List Int) (i : Nat) : con1 l st i = 0 ∨ con1 l st i = 24 := firstE_val _ _ (fun e he => by
  obtain ⟨k, _, rfl⟩ := List.mem_map.1 he
  split
  · exact .inr rfl
  · exact .inl rfl)
theorem conE_val (l : List JobI) (st : List Int) : conE l st = 0 ∨ conE l st = 24 := firstE_val _ _ (fun e he => by
  obtain ⟨k, _, rfl⟩ := List.mem_map.1 he
  exact con1_val l st k)
theorem rowC_takeN {α : Type} {f : α → List PVal} {k : Nat} (h : ∀ x, (f x).length = k) (l : List α) (i : Nat) (hi : i ≤ l.length) : (rowC f l).take (i * k) = rowC f (l.take i) := by
  have e : rowC f l = rowC f (l.take i) ++ rowC f (l.drop i) := by rw [← rowC_append, List.take_append_drop]
  rw [e]
  have hl : (rowC f (l.take i)).length = i * k := by rw [rowC_len h, List.length_take, Nat.min_eq_left hi]
  rw [List.take_append_of_le_length (by omega), List.take_of_length_le (by omega)]

def P58 (l : List JobI) (st : List Int) (i k : Nat) : St := ⟨[(0, jsl l), (1, isl st), (6, iv i), (7, .ptr 0 0 0), (16, jsl l), (17, iv l.length), (18, iv i), (25, .p (.sl (rowC jc (l.take i)) i)), (26, iv i), (27, iv k)], [(0, .arr (jc (l.getD i zJ)) 0 1)]⟩
theorem inner58 {d : Nat} (l : List JobI) (st : List Int) (hl : JobsOk l) (hs : StOkJ l.length st) (i : Nat) (hi : i < l.length) :
    (con1 l st i = 0 ∧ loopN (loopS (evFn F C0 G0 (d + 1)) C0 G0 0 true [0, 1, 6, 7, 16, 17, 18, 25, 26, 27] c58L0) loopFuel (P58 l st i 0) = .ret (.exit 2, ⟨(P58 l st i i).env ++ [(28, .p (.bool false))], (P58 l st i i).sto⟩)) ∨
    (con1 l st i = 24 ∧ ∃ s, loopN (loopS (evFn F C0 G0 (d + 1)) C0 G0 0 true [0, 1, 6, 7, 16, 17, 18, 25, 26, 27] c58L0) loopFuel (P58 l st i 0) = .ret (.ret, s) ∧ s.env = [(4, iv 24)]) := by
  have h8 := hl.1
  have key := loop_firstR (step := loopS (evFn F C0 G0 (d + 1)) C0 G0 0 true [0, 1, 6, 7, 16, 17, 18, 25, 26, 27] c58L0) (P58 l st i) (fun k => if conI l st i k = true then 24 else 0) i (.exit 2, ⟨(P58 l st i i).env ++ [(28, .p (.bool false))], (P58 l st i i).sto⟩) (fun _ s => s.env = [(4, iv 24)]) (st0 := P58 l st i 0) rfl (fun k hk => by
      have hki : (k : Int) < i := by omega
      have hkl : k < l.length := by omega
      have hks : k < st.length := by have := hs.1; omega
      have his : i < st.length := by have := hs.1; omega
      have wk := wrap_succ (i := k) (by omega)
      have hR := pI_len st
      have hdk := pI_drop st k hks
      have hdi := pI_drop st i his
      rw [← getI hks] at hdk
      rw [← getI his] at hdi
      have htl : (l.take i).length = i := by simp; omega
      have hT := jR_len (l.take i)
      rw [htl] at hT
      have hlt : k * 6 < i * 6 := by omega
      have hlt6 : k * 6 + 6 ≤ i * 6 := by omega
      have hrow : (rowC jc (l.take i)).drop (k * 6) = jc (l.getD k zJ) ++ rowC jc ((l.take i).drop (k + 1)) := by
        rw [rowC_drop jc_len (l.take i) k (by omega), getJ hkl, List.getElem_take]
      have bi := hl.2 _ (List.getElem_mem hi)
      have bk := hl.2 _ (List.getElem_mem hkl)
      rw [← getJ hi] at bi
      rw [← getJ hkl] at bk
      have si := hs.2 i hi
      have sk := hs.2 k hkl
      have f1 := free116 (n := d + 1) (by omega) (l.getD i zJ) (l.getD k zJ) (st.getD k 0) (by omega) (by omega) (by omega)
      have f2 := free116 (n := d + 1) (by omega) (l.getD k zJ) (l.getD i zJ) (st.getD i 0) (by omega) (by omega) (by omega)
      unfold conI conB
      simp only [P58, jsl, isl]
      generalize freeJ (l.getD i zJ) (l.getD k zJ) (st.getD k 0) = r1 at *
      generalize freeJ (l.getD k zJ) (l.getD i zJ) (st.getD i 0) = r2 at *
      generalize rowC jc ((l.take i).drop (k + 1)) = R3 at *
      generalize rowC jc (l.take i) = TT at *
      generalize rowC jc l = J at *
      generalize l.getD i zJ = x at *
      generalize l.getD k zJ = y at *
      generalize st.getD i 0 = sx at *
      generalize st.getD k 0 = sy at *
      generalize hA : pI st = A at *
      generalize A.drop (k + 1) = R4 at *
      generalize A.drop (i + 1) = R5 at *
      obtain ⟨nm, a1, a2, a3, a4, a5⟩ := x
      obtain ⟨nm', c1, c2, c3, c4, c5⟩ := y
      simp only [ja, jc] at f1 f2 hrow ⊢
      by_cases q1 : sx < r1
      · by_cases q2 : sy < r2
        · simp only [q1, q2, decide_true, Bool.and_self, if_true]
          refine ⟨fun h => absurd h (by decide), fun _ => ⟨?_, ?h1, ?h2⟩⟩
          case h1 =>
            simp -implicitDefEqProofs [loopS_eq, c58L0, hki, hks, his, hdk, hdi, hR, hT, hlt, hrow, f1, f2, q1, q2]
            exact rfl
          case h2 => rfl
        · simp only [q1, q2, decide_true, decide_false, Bool.and_false, Bool.false_eq_true, if_false]
          refine ⟨fun _ => ⟨?_, ?h1, ?h2⟩, fun h => absurd rfl h⟩
          case h1 =>
            simp -implicitDefEqProofs [loopS_eq, c58L0, hki, hks, his, hdk, hdi, hR, hT, hlt, hrow, f1, f2, q1, q2, wk]
            exact rfl
          case h2 => exact loopS_same (by simp) (by simp)
      · simp only [q1, decide_false, Bool.false_and, Bool.false_eq_true, if_false]
        refine ⟨fun _ => ⟨?_, ?h1, ?h2⟩, fun h => absurd rfl h⟩
        case h1 =>
          simp -implicitDefEqProofs [loopS_eq, c58L0, hki, hks, his, hdk, hdi, hR, hT, hlt, hrow, f1, q1, wk]
          exact rfl
        case h2 => exact loopS_same (by simp) (by simp)) (by simp -implicitDefEqProofs [loopS_eq, c58L0, P58]) (by simp) (fuel := loopFuel) (by simp [loopFuel]; omega)
  rcases key with ⟨h1, h2⟩ | ⟨j, s, hj, h1, h2, h3, h4, _⟩
  · exact .inl ⟨h2, h1⟩
  · refine .inr ⟨?_, s, h1, h2⟩
    have : con1 l st i = if conI l st i j = true then 24 else 0 := h3
    rw [this]
    split
    · rfl
    · rename_i q; rw [if_neg q] at h4; exact absurd rfl h4
theorem schedule58 {n : Nat} (hn : 6 ≤ n) (l : List JobI) (hl : l.length ≤ 9223372036854775807) (hx : ∀ x ∈ l, x.name.length ≤ 9223372036854775807) (st : List Int) (hs : st.length < 1000000) : RUN n 58 [jsl l, isl st] = .ret (iv (if firstE [jobE l, staE l.length st] = 0 then conE l st else firstE [jobE l, staE l.length st])) := by
  obtain ⟨d, rfl⟩ : ∃ d, n = d + 6 := ⟨n - 6, by omega⟩
  rw [RUN, call_eq fe58 _ rfl]
  have k115 := starts115 (n := d + 5) (by omega) l hl hx st hs
  by_cases hE : firstE [jobE l, staE l.length st] = 0
  · have hj := jobs_ok (firstE_zero.1 hE (jobE l) (by simp))
    have hst := sta_ok (firstE_zero.1 hE (staE l.length st) (by simp))
    rw [if_pos hE]
    rw [hE] at k115
    have h8 := hj.1
    let inv : Nat → St := fun i => ⟨[(0, jsl l), (1, isl st), (16, jsl l), (17, iv l.length), (18, iv i)], []⟩
    have key := loop_firstR (step := loopS (evFn F C0 G0 (d + 5)) C0 G0 0 true [0, 1, 16, 17, 18] c58L1) inv (con1 l st) l.length (.exit 0, ⟨(inv l.length).env ++ [(19, .p (.bool false))], (inv l.length).sto⟩) (fun _ s => s.env = [(4, iv 24)]) (st0 := inv 0) rfl (fun i hi => by
        have wi := wrap_succ (i := i) (by omega)
        have hR := jR_len l
        have hlt : i * 6 < l.length * 6 := by omega
        have hlt6 : i * 6 + 6 ≤ l.length * 6 := by omega
        have hle : i ≤ l.length := by omega
        have hle6 : i * 6 ≤ l.length * 6 := by omega
        have hrow := rowC_drop jc_len l i hi
        rw [← getJ hi] at hrow
        have htk := rowC_takeN jc_len l i (by omega)
        have hin := inner58 (d := d + 4) l st hj hst i hi
        simp only [P58, inv, jsl, isl] at *
        generalize rowC jc (l.drop (i + 1)) = R3 at *
        generalize rowC jc (l.take i) = TT at *
        generalize rowC jc l = J at *
        generalize l.getD i zJ = x at *
        generalize pI st = A at *
        obtain ⟨nm, a1, a2, a3, a4, a5⟩ := x
        simp only [jc, Int.natCast_zero] at hrow hin
        rcases hin with ⟨e1, hin⟩ | ⟨e1, ⟨env, sto⟩, hin, hev⟩
        · rw [e1]
          refine ⟨fun _ => ⟨?_, ?h1, ?h2⟩, fun h => absurd rfl h⟩
          case h1 =>
            simp -implicitDefEqProofs [loopS_eq, c58L1, hi, hR, hlt, hle, hrow, htk]
            rw [show loopN _ _ _ = _ from hin]
            simp -implicitDefEqProofs [wi]
            exact rfl
          case h2 => exact loopS_same (by simp) (by simp)
        · simp only at hev
          subst hev
          rw [e1]
          refine ⟨fun h => absurd h (by decide), fun _ => ⟨?_, ?h1, ?h2⟩⟩
          case h1 =>
            simp -implicitDefEqProofs [loopS_eq, c58L1, hi, hR, hlt, hle, hrow, htk]
            rw [show loopN _ _ _ = _ from hin]
            simp -implicitDefEqProofs []
            exact rfl
          case h2 => rfl) (by simp -implicitDefEqProofs [inv, loopS_eq, c58L1]) (by simp) (fuel := loopFuel) (by simp [loopFuel]; omega)
    simp only [inv, jsl, isl] at *
    simp only [Int.natCast_zero] at key
    generalize rowC jc l = J at *
    generalize pI st = A at *
    rcases key with ⟨h1, h2⟩ | ⟨j, ⟨env, sto⟩, hj, h1, h2, h3, h4, _⟩
    · rw [show conE l st = 0 from h2]
      simp -implicitDefEqProofs [c58, k115]
      rw [show loopN _ _ _ = _ from h1]
      simp
    · have : conE l st = 24 := by
        have e : conE l st = con1 l st j := h3
        rw [e]
        rcases con1_val l st j with q | q
        · exact absurd q h4
        · exact q
      rw [this]
      simp only at h2
      subst h2
      simp -implicitDefEqProofs [c58, k115]
      rw [show loopN _ _ _ = _ from h1]
      simp
  · rw [if_neg hE]
    generalize firstE [jobE l, staE l.length st] = e at *
    simp only [jsl, isl] at *
    generalize rowC jc l = J at *
    generalize pI st = A at *
    simp -implicitDefEqProofs [c58, k115, hE]
end Fw
