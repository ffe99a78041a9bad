/- Settings, printed: the pulse chapter and its reference. -/
import Derived.Test.YtombnimlolbekaaGreatDoorPuT2
import Derived.Test.YtombnimlolbekaaGreatDoorPuS2
set_option maxHeartbeats 8000000
namespace Fw
open Go
attribute [local irreducible] evCode evOps evOpsD evOper evOperD evOp evFn loopN T.All T.bind callPure callOp opsK opsDK restK seqK blockK loopS setK setQ giveK scalK gcK finish finS rfunK yldK yldB loopK

theorem le_limT {n : Nat} (h : n ≤ 1000000) : (n ≤ lim) = True := by simp only [lim, eq_iff_iff, iff_true]; omega

def lineS (x : Int × Int) : List UInt8 := [115, 116, 101, 112, 32] ++ itoaS x.1 ++ [32] ++ itoaS x.2 ++ [10]
theorem lineS_length (x : Int × Int) : (lineS x).length ≤ 49 := by
  have h1 := itoaS_length x.1
  have h2 := itoaS_length x.2
  simp [lineS]; omega

theorem line132 {n : Nat} (hn : 1 ≤ n) (x : Int × Int) (h1 : 0 ≤ x.1 ∧ x.1 ≤ 1000) (h2 : 0 ≤ x.2 ∧ x.2 ≤ 1000) : RUN n 132 [.agg [iv x.1, iv x.2]] = .ret (sv (lineS x)) := by
  obtain ⟨d, rfl⟩ : ∃ d, n = d + 1 := ⟨n - 1, by omega⟩
  rw [RUN, call_eq fe132 _ rfl]
  have i1 := itoa133 (n := d) x.1 (by omega) (by omega)
  have i2 := itoa133 (n := d) x.2 (by omega) (by omega)
  have l1 := itoaS_length x.1
  have l2 := itoaS_length x.2
  have g : G0 0 = some [.str [115, 116, 101, 112]] := rfl
  have hl : lineS x = [115, 116, 101, 112] ++ [32] ++ itoaS x.1 ++ [32] ++ itoaS x.2 ++ [10] := by simp [lineS]
  rw [hl]
  generalize itoaS x.1 = A at *
  generalize itoaS x.2 = B at *
  have q1 : 5 ≤ lim := by decide
  have q2 : 5 + A.length ≤ lim := by simp only [lim]; omega
  have q3 : A.length + 1 + 1 + 1 + 1 + 1 + 1 ≤ lim := by simp only [lim]; omega
  have q4 : A.length + 1 + 1 + 1 + 1 + 1 + 1 + B.length ≤ lim := by simp only [lim]; omega
  have q5 : A.length + (B.length + 1) + 1 + 1 + 1 + 1 + 1 + 1 ≤ lim := by simp only [lim]; omega
  simp -implicitDefEqProofs [c132, g, i1, i2, strBin, q1, q2, q3, q4, q5]

theorem lines131 {d : Nat} (l : List (Int × Int)) (hl : l.length < 1000000) (g : Int × Int → List UInt8) (hg : ∀ x ∈ l, RUN d 132 [.agg [iv x.1, iv x.2]] = .ret (sv (g x))) :
    RUN (d + 1) 131 [csl l, .p (.clo 132 [] [])] = .ret (.own (pStr (l.map g)) l.length 1) := by
  rw [RUN, call_eq fe131 _ rfl]
  let outs := l.map g
  let inv : Nat → St := fun i => ⟨[(1, .p (.clo 132 [] [])), (5, .sl 0 i 0 i), (8, csl l), (9, iv l.length), (10, iv i)], [(0, .arr (pStr (outs.take i)) i 1)]⟩
  have hol : outs.length = l.length := by simp [outs]
  have htl : outs.take l.length = outs := List.take_of_length_le (by omega)
  simp -implicitDefEqProofs [c131]
  rw [loop_run' inv l.length (e := .exit 0) (st' := ⟨(inv l.length).env ++ [(11, .p (.bool false))], (inv l.length).sto⟩) (by simp)]
  · simp -implicitDefEqProofs [inv, htl, hol]
    rfl
  · rfl
  · intro i hi
    have hx := cI_drop l i hi
    have hlim : i + 1 ≤ lim := by simp only [lim]; omega
    have h1 := hg l[i] (List.getElem_mem hi)
    have hlt : i * 2 < l.length * 2 := by omega
    have hlt' : (i : Int) < l.length := by omega
    have ht : outs.take (i + 1) = outs.take i ++ [g l[i]] := by rw [List.take_add_one]; simp [outs, hi]
    have hto : (outs.take i).length = i := by simp [hol]; omega
    refine ⟨⟨(inv (i + 1)).env, (1, .arr [.int .i64 l[i].1, .int .i64 l[i].2] 0 1) :: (inv (i + 1)).sto⟩, ?_, loopS_same rfl (by simp [inv])⟩
    simp -implicitDefEqProofs [inv, loopS_eq, c131L0, hx, hlt, hlt', hlim, h1, hto, ht, ← pStr_snoc, wrap_succ (i := i) (by omega)]
  · simp -implicitDefEqProofs [inv, loopS_eq, c131L0]
  · simp [loopFuel]; omega

theorem join_nil (l : List (List UInt8)) : Lib.join l [] = l.flatten := by
  induction l with
  | nil => rfl
  | cons x r ih =>
    cases r with
    | nil => simp [Lib.join]
    | cons y q =>
      simp only [Lib.join, List.intercalate] at ih ⊢
      rw [List.intersperse_cons_cons, List.flatten_cons, List.flatten_cons, ih]; simp

def textS (l : List (Int × Int)) : List UInt8 := (l.map lineS).flatten
theorem textS_length (l : List (Int × Int)) : (textS l).length ≤ l.length * 49 := by
  induction l with
  | nil => simp [textS]
  | cons x r ih =>
    have := lineS_length x
    simp only [textS, List.map_cons, List.flatten_cons, List.length_append, List.length_cons] at ih ⊢
    omega

theorem Valid.step_in {l : List (Int × Int)} (h : Valid l) : ∀ x ∈ l, (0 ≤ x.1 ∧ x.1 ≤ 1000) ∧ (0 ≤ x.2 ∧ x.2 ≤ 1000) := by
  intro x hx
  obtain ⟨i, hi, rfl⟩ := List.getElem_of_mem hx
  have := h.val i hi
  have hg : l.getD i (0, 0) = l[i] := by simp [List.getD_eq_getElem?_getD, List.getElem?_eq_getElem hi]
  rw [hg] at this
  omega

theorem print69 {n : Nat} (hn : 4 ≤ n) (l : List (Int × Int)) (hl : l.length < 1000000) : RUN n 69 [csl l] = .ret (.tup [sv (if settingE l = 0 then textS l else []), iv (settingE l)]) := by
  obtain ⟨d, rfl⟩ : ∃ d, n = d + 4 := ⟨n - 4, by omega⟩
  rw [RUN, call_eq fe69 _ rfl]
  have h1 := setting28 (n := d + 3) (by omega) l hl
  by_cases hz : settingE l = 0
  · have hv := valid_of hz
    have hsm := hv.small
    have h2 := lines131 (d := d + 2) l hl lineS (fun x hx => line132 (n := d + 2) (by omega) x (hv.step_in x hx).1 (hv.step_in x hx).2)
    have htl := textS_length l
    have hj : Lib.join (l.map lineS) [] = textS l := join_nil _
    have h3 := join130 (n := d + 3) (l.map lineS) [] (by simp [lim]; omega) (by rw [hj]; simp only [lim]; omega)
    rw [hj] at h3
    simp only [List.length_map] at h3
    rw [if_pos hz]
    simp -implicitDefEqProofs [c69, h1, hz, h2, h3]
  · rw [if_neg hz]
    simp -implicitDefEqProofs [c69, h1, hz]

theorem print71 {n : Nat} (hn : 2 ≤ n) {l : List (Int × Int)} (h : Valid l) : RUN n 71 [csl l] = .ret (sv (textS l)) := by
  obtain ⟨d, rfl⟩ : ∃ d, n = d + 2 := ⟨n - 2, by omega⟩
  rw [RUN, call_eq fe71 _ rfl]
  have hsm := h.small
  let inv : Nat → St := fun i => ⟨[(0, csl l), (3, sv (textS (l.take i))), (4, iv i)], []⟩
  have htl : l.take l.length = l := List.take_of_length_le (by omega)
  simp -implicitDefEqProofs [c71]
  rw [loop_run inv l.length (e := .exit 0) (st' := ⟨(inv l.length).env ++ [(8, .p (.bool false))], []⟩) (by simp)]
  · simp -implicitDefEqProofs [inv, htl]
  · rfl
  · intro i hi
    have hx := cI_drop l i hi
    have hlt : i * 2 < l.length * 2 := by omega
    have hlt' : (i : Int) < l.length := by omega
    have hin := h.step_in l[i] (List.getElem_mem hi)
    have i1 := text138 (n := d + 1) (by omega) l[i].1 (by omega) (by omega)
    have i2 := text138 (n := d + 1) (by omega) l[i].2 (by omega) (by omega)
    have l1 := itoaS_length l[i].1
    have l2 := itoaS_length l[i].2
    have hlen := textS_length (l.take i)
    have ht : textS (l.take (i + 1)) = textS (l.take i) ++ [115, 116, 101, 112, 32] ++ itoaS l[i].1 ++ [32] ++ itoaS l[i].2 ++ [10] := by
      simp only [textS, List.map_take]
      rw [take_succ_map lineS l i hi]
      simp [lineS]
    rw [List.length_take] at hlen
    generalize hS : textS (l.take i) = S at *
    generalize itoaS l[i].1 = A at *
    generalize itoaS l[i].2 = B at *
    have q1 : S.length + 5 ≤ lim := by simp only [lim]; omega
    have q2 : S.length + 5 + A.length ≤ lim := by simp only [lim]; omega
    have q3 : S.length + (A.length + 1 + 1 + 1 + 1 + 1) + 1 ≤ lim := by simp only [lim]; omega
    have q4 : S.length + (A.length + 1 + 1 + 1 + 1 + 1 + 1) + B.length ≤ lim := by simp only [lim]; omega
    have q5 : S.length + (A.length + (B.length + 1) + 1 + 1 + 1 + 1 + 1) + 1 ≤ lim := by simp only [lim]; omega
    simp -implicitDefEqProofs [q1, q2, q3, q4, q5, inv, hS, loopS_eq, c71L0, hx, hlt, hlt', i1, i2, ht, strBin, wrap_succ (i := i) (by omega)]
  · simp -implicitDefEqProofs [inv, loopS_eq, c71L0]
  · simp [loopFuel]; omega
end Fw
