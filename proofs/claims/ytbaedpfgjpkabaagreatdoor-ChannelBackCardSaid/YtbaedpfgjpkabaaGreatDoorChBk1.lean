/- Sensors that are printed are read again, and what is read is printed as it was. -/
import Derived.Test.YtbaedpfgjpkabaaGreatDoorChNu
import Derived.Test.YtbaedpfgjpkabaaGreatDoorChSt14
set_option maxHeartbeats 8000000
namespace Fw
open Go

theorem nameE_zero {l : List UInt8} {i : Nat} (h : nameE l i = 0) : letB (l.getD i 0).toNat = true ∨ tailB (l.getD i 0).toNat = true := by
  unfold nameE at h
  split at h
  · rename_i hc
    simp only [Bool.or_eq_true, Bool.and_eq_true] at hc
    rcases hc with h1 | h1
    · exact .inl h1
    · exact .inr h1.2
  · cases h
theorem name_free {l : List UInt8} (h : nameB l = true) : l ≠ [] ∧ (32 : UInt8) ∉ l ∧ (10 : UInt8) ∉ l := by
  simp only [nameB, Bool.and_eq_true, decide_eq_true_eq] at h
  obtain ⟨⟨h0, _⟩, hf⟩ := h
  have hf' := firstE_zero.1 hf
  have hm : ∀ c ∈ l, letB c.toNat = true ∨ tailB c.toNat = true := by
    intro c hc
    obtain ⟨i, hi, rfl⟩ := List.getElem_of_mem hc
    have := nameE_zero (l := l) (i := i) (hf' _ (List.mem_map.2 ⟨i, List.mem_range.2 hi, rfl⟩))
    have hg : l.getD i 0 = l[i] := by simp [List.getD_eq_getElem?_getD, List.getElem?_eq_getElem hi]
    rwa [hg] at this
  refine ⟨h0, fun hc => ?_, fun hc => ?_⟩
  · exact absurd (hm _ hc) (by decide)
  · exact absurd (hm _ hc) (by decide)

/-- the line of a sensor, without its end -/
def bodyS (s : SenI) : List UInt8 := senW ++ 32 :: (s.name ++ 32 :: (itoaS s.scale ++ 32 :: (itoaS s.lo ++ 32 :: itoaS s.hi)))
theorem body_line (s : SenI) : bodyS s ++ [10] = lineS s := by rw [lineS_eq]; simp [bodyS, senW]
theorem text_lines (l : List SenI) : textS l = lnT (l.map bodyS) := by
  unfold textS lnT
  rw [List.map_map]
  congr 1
  apply List.map_congr_left
  intro s _
  exact (body_line s).symm
theorem body_split {s : SenI} (h : SenOk s) : splitS 32 (bodyS s) = [senW, s.name, itoaS s.scale, itoaS s.lo, itoaS s.hi] := by
  obtain ⟨_, n1, _⟩ := name_free h.name
  have a := h.s0
  have b := h.s1
  have c := h.l0
  have e := h.l1
  have f := h.l2
  unfold bodyS
  rw [splitS_at (by decide), splitS_at n1, splitS_at (itoa_free (by omega) (by omega) (by decide)), splitS_at (itoa_free (by omega) (by omega) (by decide)), splitS_none (itoa_free (by omega) (by omega) (by decide))]
theorem body_read {s : SenI} (h : SenOk s) : lineP (bodyS s) = some s := by
  obtain ⟨n0, _, _⟩ := name_free h.name
  have a := h.s0
  have b := h.s1
  have c := h.l0
  have e := h.l1
  have f := h.l2
  have d1 := itoa_dig (n := s.scale) (by omega) (by omega)
  have d2 := itoa_dig (n := s.lo) (by omega) (by omega)
  have d3 := itoa_dig (n := s.hi) (by omega) (by omega)
  unfold lineP
  rw [body_split h]
  simp [n0, d1, d2, d3]
theorem body_free {s : SenI} (h : SenOk s) : (10 : UInt8) ∉ bodyS s := by
  obtain ⟨_, _, n2⟩ := name_free h.name
  have a := h.s0
  have b := h.s1
  have c := h.l0
  have e := h.l1
  have f := h.l2
  have t1 := itoa_free (n := s.scale) (by omega) (by omega) (c := 10) (by decide)
  have t2 := itoa_free (n := s.lo) (by omega) (by omega) (c := 10) (by decide)
  have t3 := itoa_free (n := s.hi) (by omega) (by omega) (c := 10) (by decide)
  have t0 : (10 : UInt8) ∉ senW := by decide
  have t4 : (10 : UInt8) ≠ 32 := by decide
  simp [bodyS, t0, t1, t2, t3, t4, n2]
theorem read_body {w : List UInt8} {x : SenI} (h : lineP w = some x) : w = bodyS x := by
  obtain ⟨w1, w2, w3, w4, e, _, d2, d3, d4, rfl⟩ := lineP_inv h
  have hj := split_join 32 w
  rw [e] at hj
  rw [← hj]
  unfold bodyS
  simp only [dig_itoa d2, dig_itoa d3, dig_itoa d4]
  rfl

theorem goL_reads (last : List UInt8) : ∀ (xs out : List SenI), (∀ x ∈ xs, SenOk x) → goL (xs.map bodyS ++ [last]) out = (decide (last = []), out ++ xs)
  | [], out, _ => by simp [goL_one]
  | x :: xs, out, h => by
    have h3 := goL_reads last xs (out ++ [x]) (fun y hy => h y (by simp [hy]))
    rw [List.map_cons, List.cons_append, goL_more (by simp), body_read (h x (by simp))]
    simp only [h3, List.append_assoc, List.cons_append, List.nil_append]
theorem reads_goL : ∀ (ps : List (List UInt8)) (out o : List SenI), ps ≠ [] → goL ps out = (true, o) → ∃ xs, o = out ++ xs ∧ ps = xs.map bodyS ++ [[]] := by
  intro ps
  induction ps with
  | nil => intro _ _ h; exact absurd rfl h
  | cons w q ih =>
    intro out o _ h
    by_cases hq : q = []
    · subst hq
      rw [goL_one] at h
      obtain ⟨h1, h2⟩ := Prod.mk.inj h
      have : w = [] := by simpa using h1
      subst this
      exact ⟨[], by simp [h2], rfl⟩
    · rw [goL_more hq] at h
      cases hp : lineP w with
      | none => rw [hp] at h; cases h
      | some x =>
        rw [hp] at h
        obtain ⟨xs, e1, e2⟩ := ih (out ++ [x]) o hq h
        refine ⟨x :: xs, by rw [e1]; simp, ?_⟩
        rw [e2, read_body hp]; rfl

theorem text_small {l : List SenI} (h : sensE l = 0) : (textS l).length ≤ 3200 := by
  obtain ⟨h1, h2⟩ := sens_of h
  have := text_len l h2
  omega
/-- what is printed is read as it was -/
theorem parse_text {l : List SenI} (h : sensE l = 0) : parseL (textS l) = (l, 0, 0) := by
  obtain ⟨_, h2⟩ := sens_of h
  have hsp : splitS 10 (textS l) = l.map bodyS ++ [[]] := by
    have := split_lines (l.map bodyS) [] (fun w hw => by
      obtain ⟨s, hs, rfl⟩ := List.mem_map.1 hw
      exact body_free (h2 s hs)) (by simp)
    rw [List.append_nil] at this
    rw [text_lines, this]
  unfold parseL
  rw [hsp, goL_reads [] l [] h2]
  simp [h]
theorem split_text {l : List SenI} (h : sensE l = 0) : (splitS 10 (textS l)).length = l.length + 1 := by
  obtain ⟨_, h2⟩ := sens_of h
  have := split_lines (l.map bodyS) [] (fun w hw => by
    obtain ⟨s, hs, rfl⟩ := List.mem_map.1 hw
    exact body_free (h2 s hs)) (by simp)
  rw [List.append_nil] at this
  rw [text_lines, this]; simp
/-- what is read is printed as it was -/
theorem text_parse {s : List UInt8} (h : (parseL s).2.2 = 0) : sensE (parseL s).1 = 0 ∧ textS (parseL s).1 = s := by
  unfold parseL at h ⊢
  split at h
  · rename_i h1
    rw [if_pos h1]
    split at h
    · rename_i h2
      rw [if_pos h2]
      refine ⟨h2, ?_⟩
      have hg : goL (splitS 10 s) [] = (true, (goL (splitS 10 s) []).2) := by rw [← h1]
      obtain ⟨xs, e1, e2⟩ := reads_goL _ _ _ (splitS_ne 10 s) hg
      rw [List.nil_append] at e1
      have hj := split_join 10 s
      rw [e2, join_lines, List.append_nil] at hj
      show textS (goL (splitS 10 s) []).2 = s
      rw [e1, text_lines, hj]
    · rename_i h2
      exact absurd h h2
  · cases h
/-- without its last byte it is not read -/
theorem parse_cut {l : List SenI} (h : sensE l = 0) (h0 : l ≠ []) : parseL ((textS l).take ((textS l).length - 1)) = ([], (l.length : Int) - 1, 25) ∧ 0 < (textS l).length := by
  obtain ⟨_, h2⟩ := sens_of h
  obtain ⟨p, x, rfl⟩ : ∃ p x, l = p ++ [x] := ⟨l.dropLast, l.getLast h0, (List.dropLast_concat_getLast _).symm⟩
  have e3 : textS (p ++ [x]) = (lnT (p.map bodyS) ++ bodyS x) ++ [10] := by rw [text_lines]; simp [lnT]
  have e4 : (textS (p ++ [x])).take ((textS (p ++ [x])).length - 1) = lnT (p.map bodyS) ++ bodyS x := by
    rw [e3]
    generalize lnT (p.map bodyS) ++ bodyS x = A
    rw [List.length_append, List.length_singleton, Nat.add_sub_cancel, List.take_left]
  refine ⟨?_, by rw [e3]; simp; omega⟩
  rw [e4]
  unfold parseL
  rw [split_lines _ _ (fun w hw => by
    obtain ⟨s, hs, rfl⟩ := List.mem_map.1 hw
    exact body_free (h2 s (by simp [hs]))) (body_free (h2 x (by simp))), goL_reads _ p [] (fun s hs => h2 s (by simp [hs]))]
  have hne : decide (bodyS x = []) = false := by simp [bodyS, senW]
  rw [hne]
  simp
end Fw
