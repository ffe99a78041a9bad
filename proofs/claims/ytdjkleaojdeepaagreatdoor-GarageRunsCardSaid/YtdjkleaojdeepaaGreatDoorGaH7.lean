/- The kinds of acts: words, lists of words. -/
import Derived.Test.YtdjkleaojdeepaaGreatDoorGaH6
import Derived.KernelRfl
set_option maxHeartbeats 16000000
namespace Fw
open Go
attribute [local irreducible] evCode evOps evOpsD evOper evOperD evOp evFn loopN T.All T.bind callPure callOp opsK opsDK restK seqK blockK loopS setK setQ giveK scalK gcK finish finS rfunK yldK yldB loopK
abbrev kOpen : List UInt8 := [111, 112, 101, 110]
abbrev kClose : List UInt8 := [99, 108, 111, 115, 101]
abbrev kInsert : List UInt8 := [105, 110, 115, 101, 114, 116]
abbrev kRemove : List UInt8 := [114, 101, 109, 111, 118, 101]
abbrev kEnter : List UInt8 := [101, 110, 116, 101, 114]
abbrev kLeave : List UInt8 := [108, 101, 97, 118, 101]
abbrev kArm : List UInt8 := [97, 114, 109]
abbrev kDisarm : List UInt8 := [100, 105, 115, 97, 114, 109]
abbrev kShoot : List UInt8 := [115, 104, 111, 111, 116]
abbrev kMeasure : List UInt8 := [109, 101, 97, 115, 117, 114, 101]
def kindL : List (List UInt8) := [kOpen, kClose, kInsert, kRemove, kEnter, kLeave, kArm, kDisarm, kShoot, kMeasure]
abbrev strL (l : List (List UInt8)) : AVal := .p (.sl (pStr l) l.length)

theorem index163s {n : Nat} (hn : 1 ≤ n) (l : List (List UInt8)) (v : List UInt8) (hl : l.length < 100000) : ∃ r : Int, RUN n 163 [strL l, sv v] = .ret (iv r) ∧ decide (0 ≤ r) = decide (v ∈ l) := by
  obtain ⟨d, rfl⟩ : ∃ d, n = d + 1 := ⟨n - 1, by omega⟩
  rw [RUN, call_eq fe163 _ rfl]
  let inv : Nat → St := fun i => ⟨[(0, strL l), (1, sv v), (7, iv l.length), (8, iv i)], []⟩
  have key := loop_first (step := loopS (evFn F C0 G0 d) C0 G0 0 false [0, 1, 7, 8] c163L0) inv (fun i => if v = l.getD i [] then 1 else 0) l.length (.exit 0, ⟨(inv l.length).env ++ [(9, .p (.bool false))], []⟩) (fun i => (.ret, ⟨[(4, iv i)], []⟩))
    (st0 := ⟨[(0, strL l), (1, sv v), (7, iv l.length), (8, iv 0)], []⟩) (fuel := loopFuel) rfl (fun i hi => by
      have hlt : (i : Int) < l.length := by omega
      have hgd : l.getD i [] = l[i] := by simp [List.getD_eq_getElem?_getD, List.getElem?_eq_getElem hi]
      have hgn : ∀ q, (pStr l)[i]'q = .str l[i] := fun q => by simp [pStr]
      have hpl : (pStr l).length = l.length := by simp
      have hw := wrap_succ (i := i) (by omega)
      simp only [hgd]
      generalize hQ : pStr l = Q at *
      by_cases h : v = l[i]
      · rw [if_pos h]
        refine ⟨fun h0 => absurd h0 (by decide), fun _ => ?_⟩
        generalize l[i] = y at *
        subst h
        simp -implicitDefEqProofs [inv, hQ, loopS_eq, c163L0, hi, hlt, hgn, hpl, strBin]
      · rw [if_neg h]
        have hne : (v == l[i]) = false := by simpa using h
        generalize l[i] = y at *
        refine ⟨fun _ => ⟨?_, ?h1, ?h2⟩, fun h0 => absurd rfl h0⟩
        case h1 =>
          simp -implicitDefEqProofs [inv, hQ, loopS_eq, c163L0, hi, hlt, hgn, hpl, hw, hne, strBin]
          exact rfl
        case h2 => simp [inv]) (fun _ => by simp) (by simp -implicitDefEqProofs [inv, loopS_eq, c163L0]) (by simp) (by simp [loopFuel]; omega)
  simp -implicitDefEqProofs [c163]
  rcases key with ⟨k1, k2⟩ | ⟨j, hj, k1, k2, k3, k4⟩
  · rw [k1]
    have : ¬ v ∈ l := fun hm => by
      obtain ⟨i, hi, h⟩ := List.getElem_of_mem hm
      have := firstE_zero.1 k2 _ (List.mem_map.2 ⟨i, List.mem_range.2 hi, rfl⟩)
      rw [if_pos (by simp [List.getD_eq_getElem?_getD, hi, h])] at this
      cases this
    refine ⟨-1, ?_, ?_⟩
    · simp -implicitDefEqProofs [inv]
    · simp [this]
  · rw [k1]
    have : v ∈ l := by
      have hx : v = l.getD j [] := by
        by_cases h : v = l.getD j []
        · exact h
        · rw [if_neg h] at k3; exact absurd rfl k3
      rw [hx]
      simp [List.getD_eq_getElem?_getD, hj]
    refine ⟨j, ?_, ?_⟩
    · simp -implicitDefEqProofs []
    · simp [this]
theorem contains139 {n : Nat} (hn : 2 ≤ n) (l : List (List UInt8)) (v : List UInt8) (hl : l.length < 100000) : RUN n 139 [strL l, sv v] = .ret (.p (.bool (decide (v ∈ l)))) := by
  obtain ⟨d, rfl⟩ : ∃ d, n = d + 2 := ⟨n - 2, by omega⟩
  rw [RUN, call_eq fe139 _ rfl]
  obtain ⟨r, k, h⟩ := index163s (n := d + 1) (by omega) l v hl
  rw [← h]
  simp -implicitDefEqProofs [c139, k]
/-- an act -/
structure ActI where
  tick : Int
  kind : List UInt8
  num : Int
  a : Int
  b : Int
  c : Int
abbrev aa (x : ActI) : AVal := .agg [iv x.tick, sv x.kind, iv x.num, iv x.a, iv x.b, iv x.c]
theorem is93 {n : Nat} (hn : 3 ≤ n) (x : ActI) (l : List (List UInt8)) (hl : l.length < 100000) : RUN n 93 [aa x, strL l] = .ret (.p (.bool (decide (x.kind ∈ l)))) := by
  obtain ⟨d, rfl⟩ : ∃ d, n = d + 3 := ⟨n - 3, by omega⟩
  rw [RUN, call_eq fe93 _ rfl]
  have k := contains139 (n := d + 2) (by omega) l x.kind hl
  simp -implicitDefEqProofs [c93, k]
theorem word71 {n : Nat} (hn : 1 ≤ n) (l : List (List UInt8)) (v : List UInt8) (hl : l.length < 100000) : RUN n 71 [strL l, sv v] = .ret (.p (.bool (decide (v ∈ l)))) := by
  obtain ⟨d, rfl⟩ : ∃ d, n = d + 1 := ⟨n - 1, by omega⟩
  rw [RUN, call_eq fe71 _ rfl]
  let inv : Nat → St := fun i => ⟨[(0, strL l), (1, sv v), (5, iv i)], []⟩
  have key := loop_first (step := loopS (evFn F C0 G0 d) C0 G0 0 false [0, 1, 5] c71L0) inv (fun i => if v = l.getD i [] then 1 else 0) l.length (.exit 0, ⟨(inv l.length).env ++ [(9, .p (.bool false))], []⟩) (fun _ => (.ret, ⟨[(4, .p (.bool true))], []⟩))
    (st0 := ⟨[(0, strL l), (1, sv v), (5, iv 0)], []⟩) (fuel := loopFuel) rfl (fun i hi => by
      have hlt : (i : Int) < l.length := by omega
      have hgd : l.getD i [] = l[i] := by simp [List.getD_eq_getElem?_getD, List.getElem?_eq_getElem hi]
      have hgn : ∀ q, (pStr l)[i]'q = .str l[i] := fun q => by simp [pStr]
      have hpl : (pStr l).length = l.length := by simp
      have hw := wrap_succ (i := i) (by omega)
      simp only [hgd]
      generalize hQ : pStr l = Q at *
      by_cases h : v = l[i]
      · rw [if_pos h]
        refine ⟨fun h0 => absurd h0 (by decide), fun _ => ?_⟩
        generalize l[i] = y at *
        subst h
        simp -implicitDefEqProofs [inv, hQ, loopS_eq, c71L0, hi, hlt, hgn, hpl, strBin]
      · rw [if_neg h]
        have hne : (l[i] == v) = false := by simpa using fun e => h e.symm
        have h' : ¬ l[i] = v := fun e => h e.symm
        generalize l[i] = y at *
        refine ⟨fun _ => ⟨?_, ?h1, ?h2⟩, fun h0 => absurd rfl h0⟩
        case h1 =>
          simp -implicitDefEqProofs [inv, hQ, loopS_eq, c71L0, hi, hlt, hgn, hpl, hw, hne, strBin]
          exact rfl
        case h2 => simp [inv]) (fun _ => by simp) (by simp -implicitDefEqProofs [inv, loopS_eq, c71L0]) (by simp) (by simp [loopFuel]; omega)
  simp -implicitDefEqProofs [c71]
  rcases key with ⟨k1, k2⟩ | ⟨j, hj, k1, k2, k3, k4⟩
  · rw [k1]
    have : ¬ v ∈ l := fun hm => by
      obtain ⟨i, hi, h⟩ := List.getElem_of_mem hm
      have := firstE_zero.1 k2 _ (List.mem_map.2 ⟨i, List.mem_range.2 hi, rfl⟩)
      rw [if_pos (by simp [List.getD_eq_getElem?_getD, hi, h])] at this
      cases this
    simp -implicitDefEqProofs [inv, this]
  · rw [k1]
    have : v ∈ l := by
      have hx : v = l.getD j [] := by
        by_cases h : v = l.getD j []
        · exact h
        · rw [if_neg h] at k3; exact absurd rfl k3
      rw [hx]
      simp [List.getD_eq_getElem?_getD, hj]
    simp -implicitDefEqProofs [this]
theorem byWord136 {n : Nat} (hn : 1 ≤ n) : RUN n 136 [] = .ret (.p (.map (pStr kindL) [.int .i64 0, .int .i64 1, .int .i64 2, .int .i64 3, .int .i64 4, .int .i64 5, .int .i64 6, .int .i64 7, .int .i64 8, .int .i64 9])) := by
  obtain ⟨d, rfl⟩ : ∃ d, n = d + 1 := ⟨n - 1, by omega⟩
  kernel_rfl
theorem kinds95 {n : Nat} (hn : 1 ≤ n) : RUN n 95 [] = .ret (strL kindL) := by
  obtain ⟨d, rfl⟩ : ∃ d, n = d + 1 := ⟨n - 1, by omega⟩
  kernel_rfl
def doorB (k : List UInt8) : Bool := k == kOpen || k == kClose || k == kEnter || k == kLeave
def keyB (k : List UInt8) : Bool := k == kInsert || k == kRemove
theorem door96 {n : Nat} (hn : 1 ≤ n) (k : List UInt8) : RUN n 96 [sv k] = .ret (.p (.bool (doorB k))) := by
  obtain ⟨d, rfl⟩ : ∃ d, n = d + 1 := ⟨n - 1, by omega⟩
  rw [RUN, call_eq fe96 _ rfl]
  unfold doorB
  cases h1 : (k == kOpen) <;> cases h2 : (k == kClose) <;> cases h3 : (k == kEnter) <;> simp -implicitDefEqProofs [c96, strBin, h1, h2, h3]
theorem key97 {n : Nat} (hn : 1 ≤ n) (k : List UInt8) : RUN n 97 [sv k] = .ret (.p (.bool (keyB k))) := by
  obtain ⟨d, rfl⟩ : ∃ d, n = d + 1 := ⟨n - 1, by omega⟩
  rw [RUN, call_eq fe97 _ rfl]
  unfold keyB
  cases h1 : (k == kInsert) <;> simp -implicitDefEqProofs [c97, strBin, h1]
end Fw
