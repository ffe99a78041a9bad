/- A tow that is printed is read again. -/
import Derived.Test.YtfkacogfieiccaaGreatDoorBaS6
import Derived.Test.YtfkacogfieiccaaGreatDoorBaT1
set_option maxHeartbeats 4000000
namespace Fw
open Go

theorem small_num : ∀ x : Nat, x < 61 → digOk (itoaS x) = true ∧ digV (itoaS x) = x ∧ (32 : UInt8) ∉ itoaS x ∧ (10 : UInt8) ∉ itoaS x := by decide
theorem num_ok {x : Int} (h0 : 0 ≤ x) (h1 : x ≤ 60) : digOk (itoaS x) = true ∧ digV (itoaS x) = x ∧ (32 : UInt8) ∉ itoaS x ∧ (10 : UInt8) ∉ itoaS x := by
  have h := small_num x.toNat (by omega)
  have e : (x.toNat : Int) = x := by omega
  rw [e] at h
  exact h

def lnS (w : List UInt8) (l : List Int) : List UInt8 := w ++ (l.map fun x => (32 : UInt8) :: itoaS x).flatten
theorem fS_ln1 (w : List UInt8) (a : Int) : fS w [a] = lnS w [a] ++ [10] := by rw [fS_one]; simp [lnS]
theorem fS_ln2 (w : List UInt8) (a b : Int) : fS w [a, b] = lnS w [a, b] ++ [10] := by rw [fS_two]; simp [lnS]
theorem rd1 {w : List UInt8} (hw : (32 : UInt8) ∉ w) {a : Int} (h0 : 0 ≤ a) (h1 : a ≤ 60) : rdP w 1 (lnS w [a]) = some [a] := by
  obtain ⟨d1, d2, d3, _⟩ := num_ok h0 h1
  have hs : splitS 32 (lnS w [a]) = [w, itoaS a] := by
    have e : lnS w [a] = w ++ 32 :: itoaS a := by simp [lnS]
    rw [e, splitS_at hw, splitS_none d3]
  unfold rdP
  rw [hs]
  simp [d1, d2]
theorem rd2 {w : List UInt8} (hw : (32 : UInt8) ∉ w) {a b : Int} (h0 : 0 ≤ a) (h1 : a ≤ 60) (h2 : 0 ≤ b) (h3 : b ≤ 60) : rdP w 2 (lnS w [a, b]) = some [a, b] := by
  obtain ⟨d1, d2, d3, _⟩ := num_ok h0 h1
  obtain ⟨f1, f2, f3, _⟩ := num_ok h2 h3
  have hs : splitS 32 (lnS w [a, b]) = [w, itoaS a, itoaS b] := by
    have e : lnS w [a, b] = w ++ 32 :: (itoaS a ++ 32 :: itoaS b) := by simp [lnS]
    rw [e, splitS_at hw, splitS_at d3, splitS_none f3]
  unfold rdP
  rw [hs]
  simp [d1, d2, f1, f2]
theorem ln_no10 {w : List UInt8} (hw : (10 : UInt8) ∉ w) {l : List Int} (h : ∀ x ∈ l, 0 ≤ x ∧ x ≤ 60) : (10 : UInt8) ∉ lnS w l := by
  intro hm
  unfold lnS at hm
  rcases List.mem_append.1 hm with hm | hm
  · exact hw hm
  · obtain ⟨q, hq, hm2⟩ := List.mem_flatten.1 hm
    obtain ⟨x, hx, rfl⟩ := List.mem_map.1 hq
    rcases List.mem_cons.1 hm2 with e | e
    · exact absurd e (by decide)
    · exact (num_ok (h x hx).1 (h x hx).2).2.2.2 e

/-- the lines that are read, each in its place -/
def Reads : Nat → List (List UInt8) → List (List Int) → Prop
  | _, [], [] => True
  | i, l :: ls, x :: xs => lineQ i l = some x ∧ Reads (i + 1) ls xs
  | _, _, _ => False
theorem goB_reads (last : List UInt8) : ∀ (ls : List (List UInt8)) (xs out : List (List Int)), Reads out.length ls xs → goB (ls ++ [last]) out = (decide (last = []), out ++ xs)
  | [], [], out, _ => by simp [goB_one]
  | l :: ls, x :: xs, out, h => by
    obtain ⟨h1, h2⟩ := h
    have h3 := goB_reads last ls xs (out ++ [x]) (by simpa using h2)
    rw [List.cons_append, goB_more (by simp), h1]
    simp only [h3, List.append_assoc, List.cons_append, List.nil_append]
  | [], _ :: _, _, h => absurd h (by simp [Reads])
  | _ :: _, [], _, h => absurd h (by simp [Reads])

def lnT (ls : List (List UInt8)) : List UInt8 := (ls.map fun l => l ++ [10]).flatten
theorem split_lines : ∀ (ls : List (List UInt8)) (last : List UInt8), (∀ l ∈ ls, (10 : UInt8) ∉ l) → (10 : UInt8) ∉ last → splitS 10 (lnT ls ++ last) = ls ++ [last]
  | [], last, _, h => by simp [lnT, splitS_none h]
  | l :: ls, last, h1, h2 => by
    have e : lnT (l :: ls) ++ last = l ++ 10 :: (lnT ls ++ last) := by simp [lnT]
    rw [e, splitS_at (h1 l (by simp)), split_lines ls last (fun q hq => h1 q (by simp [hq])) h2]
    rfl

def headL (t : TowI) : List (List UInt8) := [lnS wallW [t.wall], lnS fricW [t.fl, t.fh], lnS brakeW [t.bl, t.bh]]
def linesT (t : TowI) : List (List UInt8) := headL t ++ t.pull.map fun x => lnS pullW [x]
def rowsT (t : TowI) : List (List Int) := [t.wall] :: [t.fl, t.fh] :: [t.bl, t.bh] :: t.pull.map fun x => [x]
theorem towS_lines (t : TowI) : towS t = lnT (linesT t) := by
  unfold towS headS pullS linesT headL lnT
  simp only [fS_ln1, fS_ln2, List.map_append, List.map_cons, List.map_nil, List.flatten_append, List.flatten_cons, List.flatten_nil, List.map_map, List.append_nil, List.append_assoc]
  rfl

structure SmallT (t : TowI) : Prop where
  pulls : ∀ x ∈ t.pull, 0 ≤ x ∧ x ≤ 60
  few : t.pull.length ≤ 12
  some : 0 < t.pull.length
  fr : 0 ≤ t.fl ∧ t.fl ≤ t.fh ∧ t.fh ≤ 60
  br : 0 ≤ t.bl ∧ t.bl ≤ t.bh ∧ t.bh ≤ 60
  wl : 1 ≤ t.wall ∧ t.wall ≤ 12

theorem reads_pulls : ∀ (p : List Int) (i : Nat), 3 ≤ i → (∀ x ∈ p, 0 ≤ x ∧ x ≤ 60) → Reads i (p.map fun x => lnS pullW [x]) (p.map fun x => [x])
  | [], _, _, _ => trivial
  | x :: p, i, hi, h => by
    refine ⟨?_, reads_pulls p (i + 1) (by omega) (fun y hy => h y (by simp [hy]))⟩
    have hq : ∀ l, lineQ i l = rdP pullW 1 l := fun l => by
      match i, hi with
      | n + 3, _ => rfl
    rw [hq]
    exact rd1 (by decide) (h x (by simp)).1 (h x (by simp)).2
theorem reads_all {t : TowI} (h : SmallT t) : Reads 0 (linesT t) (rowsT t) := by
  have hfr := h.fr
  have hbr := h.br
  have hw := h.wl
  refine ⟨?_, ?_, ?_, reads_pulls t.pull 3 (by omega) h.pulls⟩
  · exact rd1 (w := wallW) (by decide) (by omega) (by omega)
  · exact rd2 (w := fricW) (by decide) (by omega) (by omega) (by omega) (by omega)
  · exact rd2 (w := brakeW) (by decide) (by omega) (by omega) (by omega) (by omega)
theorem lines_no10 {t : TowI} (h : SmallT t) : ∀ l ∈ linesT t, (10 : UInt8) ∉ l := by
  have hfr := h.fr
  have hbr := h.br
  have hw := h.wl
  intro l hl
  unfold linesT headL at hl
  simp only [List.cons_append, List.nil_append, List.mem_cons, List.mem_map] at hl
  rcases hl with rfl | rfl | rfl | ⟨x, hx, rfl⟩
  · exact ln_no10 (by decide) (by intro x hx; simp at hx; omega)
  · exact ln_no10 (by decide) (by intro x hx; simp at hx; omega)
  · exact ln_no10 (by decide) (by intro x hx; simp at hx; omega)
  · exact ln_no10 (by decide) (by intro y hy; simp at hy; subst hy; exact h.pulls y hx)

theorem split_towS {t : TowI} (h : SmallT t) : splitS 10 (towS t) = linesT t ++ [[]] := by
  have := split_lines (linesT t) [] (lines_no10 h) (by simp)
  rw [List.append_nil] at this
  rw [towS_lines, this]
theorem small_len {t : TowI} (h : SmallT t) : (towS t).length ≤ 4096 ∧ 0 < (towS t).length := by
  have h1 := pullS_len t.pull
  have hf := h.few
  have e1 : wallW.length = 4 := rfl
  have e2 : fricW.length = 8 := rfl
  have e3 : brakeW.length = 5 := rfl
  have i1 := itoa_in t.wall
  have i2 := itoa_in t.fl
  have i3 := itoa_in t.fh
  have i4 := itoa_in t.bl
  have i5 := itoa_in t.bh
  unfold towS headS
  simp only [fS_one, fS_two, List.length_append, e1, e2, e3, List.length_cons, List.length_nil]
  omega

/-- what is printed is read as it was -/
theorem parse_print {t : TowI} (h : SmallT t) (hz : towE t = 0) : parseB (towS t) = (t, 0, 0) := by
  have hl := (small_len h).1
  unfold parseB
  rw [if_neg (by omega), split_towS h, goB_reads [] (linesT t) (rowsT t) [] (reads_all h)]
  have e : towUp (rowsT t) = t := towUp_shape t.wall t.fl t.fh t.bl t.bh t.pull
  unfold parseG
  simp only [List.nil_append, decide_true, if_true]
  rw [if_neg (by simp [rowsT]), e, if_pos hz]

theorem reads_length : ∀ (ls : List (List UInt8)) (xs : List (List Int)) (i : Nat), Reads i ls xs → xs.length = ls.length
  | [], [], _, _ => rfl
  | l :: ls, x :: xs, i, h => by simp [reads_length ls xs (i + 1) h.2]
  | [], _ :: _, _, h => absurd h (by simp [Reads])
  | _ :: _, [], _, h => absurd h (by simp [Reads])
theorem reads_init : ∀ (ls : List (List UInt8)) (xs : List (List Int)) (i : Nat) (l : List UInt8) (x : List Int), Reads i (ls ++ [l]) (xs ++ [x]) → Reads i ls xs
  | [], [], _, _, _, _ => trivial
  | l :: ls, x :: xs, i, a, b, h => ⟨h.1, reads_init ls xs (i + 1) a b h.2⟩
  | [], x :: xs, i, a, b, h => by
    have := reads_length _ _ _ h
    simp at this
  | l :: ls, [], i, a, b, h => by
    have := reads_length _ _ _ h
    simp at this

/-- without its last byte it is not read -/
theorem parse_cut {t : TowI} (h : SmallT t) : parseB ((towS t).take ((towS t).length - 1)) = (zeroT, (t.pull.length : Int) + 2, 25) := by
  have hl := (small_len h).1
  have hs := h.some
  obtain ⟨p, x, hp⟩ : ∃ p x, t.pull = p ++ [x] := ⟨t.pull.dropLast, t.pull.getLast (by intro e; rw [e] at hs; simp at hs), (List.dropLast_concat_getLast _).symm⟩
  have e1 : linesT t = (headL t ++ p.map fun x => lnS pullW [x]) ++ [lnS pullW [x]] := by simp [linesT, hp]
  have e2 : rowsT t = ([t.wall] :: [t.fl, t.fh] :: [t.bl, t.bh] :: p.map fun x => [x]) ++ [[x]] := by simp [rowsT, hp]
  have e3 : towS t = (lnT (headL t ++ p.map fun x => lnS pullW [x]) ++ lnS pullW [x]) ++ [10] := by
    rw [towS_lines, e1]; simp [lnT]
  have e4 : (towS t).take ((towS t).length - 1) = lnT (headL t ++ p.map fun x => lnS pullW [x]) ++ lnS pullW [x] := by
    rw [e3]
    generalize lnT (headL t ++ p.map fun x => lnS pullW [x]) ++ lnS pullW [x] = A
    rw [List.length_append, List.length_singleton, Nat.add_sub_cancel, List.take_left]
  have hn := lines_no10 h
  have hr := reads_all h
  rw [e1] at hn hr
  rw [e2] at hr
  have hr2 := reads_init _ _ _ _ _ hr
  rw [e4]
  have hlen : (lnT (headL t ++ p.map fun x => lnS pullW [x]) ++ lnS pullW [x]).length ≤ 4096 := by rw [← e4, List.length_take]; omega
  unfold parseB
  rw [if_neg (by omega), split_lines _ _ (fun l hl => hn l (by simp only [List.mem_append] at hl ⊢; exact .inl hl)) (hn _ (by simp)), goB_reads _ _ _ [] hr2]
  unfold parseG
  have hne : decide (lnS pullW [x] = []) = false := by simp [lnS, pullW]
  rw [hne]
  simp [hp]
  omega
end Fw
