/- What is learned, by the reference. -/
import Derived.Test.YtombnimlolbekaaGreatDoorPuQ2
set_option maxHeartbeats 8000000
namespace Fw
open Go
attribute [local irreducible] evCode evOps evOpsD evOper evOperD evOp evFn loopN T.All T.bind callPure callOp opsK opsDK restK seqK blockK loopS setK setQ giveK scalK gcK finish finS rfunK yldK yldB loopK

/-- the valve of a step, moved -/
def moveL (out : List (Int × Int)) (i : Nat) (by' : Int) : List (Int × Int) := out.set i ((out.getD i (0, 0)).1, max 0 (min 100 ((out.getD i (0, 0)).2 + by')))
/-- one step of learning -/
def learnS (s : SledI) (l c : List (Int × Int)) (p : List Int) (step : Int) (i : Nat) (out : List (Int × Int)) : List (Int × Int) :=
  if (c.length : Int) ≤ (l.getD i (0, 0)).1 then out else if safeB s (moveL out i (step * wishI s l c p i)) c.length = true then moveL out i (step * wishI s l c p i) else out
def outF (s : SledI) (l c : List (Int × Int)) (p : List Int) (step : Int) : Nat → List (Int × Int)
  | 0 => l
  | i + 1 => learnS s l c p step i (outF s l c p step i)
def learnedL (s : SledI) (l c : List (Int × Int)) (p : List Int) (step : Int) : List (Int × Int) := outF s l c p step l.length

/-- the same steps, with valves that may be others -/
structure Keep (l out : List (Int × Int)) : Prop where
  len : out.length = l.length
  frm : ∀ i, (out.getD i (0, 0)).1 = (l.getD i (0, 0)).1
  val : ∀ i, i < l.length → 0 ≤ (out.getD i (0, 0)).2 ∧ (out.getD i (0, 0)).2 ≤ 100

theorem Keep.refl {l : List (Int × Int)} (h : Valid l) : Keep l l := ⟨rfl, fun _ => rfl, fun i hi => ⟨(h.val i hi).1, (h.val i hi).2.1⟩⟩

theorem Keep.valid {l out : List (Int × Int)} (k : Keep l out) (h : Valid l) : Valid out := by
  refine ⟨by rw [k.len]; exact h.pos, by rw [k.len]; exact h.small, by rw [k.frm]; exact h.zero, fun i hi => ?_, fun i h0 hi => ?_⟩
  · rw [k.len] at hi
    have := k.val i hi
    have := h.val i hi
    rw [k.frm]
    omega
  · rw [k.len] at hi
    rw [k.frm, k.frm]
    exact h.inc i h0 hi

theorem moveL_length (out : List (Int × Int)) (i : Nat) (b : Int) : (moveL out i b).length = out.length := by simp [moveL]

theorem moveL_get (out : List (Int × Int)) (i j : Nat) (b : Int) (hi : i < out.length) : (moveL out i b).getD j (0, 0) = if i = j then ((out.getD i (0, 0)).1, max 0 (min 100 ((out.getD i (0, 0)).2 + b))) else out.getD j (0, 0) := by
  simp only [moveL, List.getD_eq_getElem?_getD, List.getElem?_set]
  split
  · rename_i h; subst h; simp [hi]
  · rfl

theorem Keep.move {l out : List (Int × Int)} (k : Keep l out) (i : Nat) (b : Int) (hi : i < l.length) : Keep l (moveL out i b) := by
  have hio : i < out.length := by rw [k.len]; exact hi
  refine ⟨by rw [moveL_length, k.len], fun j => ?_, fun j hj => ?_⟩
  · rw [moveL_get out i j b hio]
    split
    · rename_i h; subst h; exact k.frm i
    · exact k.frm j
  · rw [moveL_get out i j b hio]
    split
    · simp only; omega
    · exact k.val j hj

theorem Keep.step {s : SledI} {l c out : List (Int × Int)} {p : List Int} {step : Int} {i : Nat} (k : Keep l out) (hi : i < l.length) : Keep l (learnS s l c p step i out) := by
  unfold learnS
  split
  · exact k
  · split
    · exact k.move i _ hi
    · exact k

theorem outF_keep {s : SledI} {l c : List (Int × Int)} {p : List Int} {step : Int} (h : Valid l) : ∀ i, i ≤ l.length → Keep l (outF s l c p step i) := by
  intro i
  induction i with
  | zero => intro _; exact Keep.refl h
  | succ i ih => intro hi; exact (ih (by omega)).step (by omega)

theorem wishI_cases (s : SledI) (l c : List (Int × Int)) (p : List Int) (i : Nat) : wishI s l c p i = 1 ∨ wishI s l c p i = -1 ∨ wishI s l c p i = 0 := by
  unfold wishI
  split
  · exact .inl rfl
  · split
    · exact .inr (.inl rfl)
    · exact .inr (.inr rfl)

/-- how often a setting was taken -/
def takenF (s : SledI) (l c : List (Int × Int)) (p : List Int) (step : Int) : Nat → Nat
  | 0 => 0
  | i + 1 => if (c.length : Int) ≤ (l.getD i (0, 0)).1 then takenF s l c p step i else if safeB s (moveL (outF s l c p step i) i (step * wishI s l c p i)) c.length = true then takenF s l c p step i + 1 else takenF s l c p step i

theorem learned49 {n : Nat} (hn : 5 ≤ n) {s : SledI} (hs : SledOk s) {l c : List (Int × Int)} (hl : Valid l) {p : List Int} (h : Fit c p) (hc0 : 0 < c.length) {step : Int} (hst : 1 ≤ step ∧ step ≤ 100) :
    RUN n 49 [sla s, csl l, csl c, isl p, iv step] = .ret (.own (cI (learnedL s l c p step)) l.length 2) := by
  obtain ⟨d, rfl⟩ : ∃ d, n = d + 5 := ⟨n - 5, by omega⟩
  rw [RUN, call_eq fe49 _ rfl]
  have hsm := hl.small
  have hpos := hl.pos
  have hcl := h.small
  let so : Obj := .arr (slc s) 0 1
  let inv : Nat → St := fun i => ⟨[(1, csl l), (2, csl c), (3, isl p), (4, iv step), (5, .ptr 0 0 0), (11, .sl (takenF s l c p step i + 1) 1 0 l.length), (12, iv i)], [(takenF s l c p step i + 1, .arr (cI (outF s l c p step i)) 1 2), (0, so)]⟩
  have hne : ¬ l.length = 0 := by omega
  have hlim0 : l.length ≤ lim := by simp only [lim]; omega
  have hlast := (outF_keep (s := s) (c := c) (p := p) (step := step) hl l.length (Nat.le_refl _)).len
  simp -implicitDefEqProofs [c49, hne, hlim0]
  rw [loop_run' inv l.length (e := .exit 0) (st' := ⟨(inv l.length).env ++ [(20, .p (.bool false))], (inv l.length).sto⟩) (by simp)]
  · simp -implicitDefEqProofs [inv, so, hlast, learnedL]
  · rfl
  · intro i hi
    have hk := outF_keep (s := s) (c := c) (p := p) (step := step) hl i (by omega)
    have hW := wish119 (n := d + 4) (by omega) hs hl h i hi
    have hWc := wishI_cases s l c p i
    have ho1 : outF s l c p step (i + 1) = learnS s l c p step i (outF s l c p step i) := rfl
    have ht1 : takenF s l c p step (i + 1) = if (c.length : Int) ≤ (l.getD i (0, 0)).1 then takenF s l c p step i else if safeB s (moveL (outF s l c p step i) i (step * wishI s l c p i)) c.length = true then takenF s l c p step i + 1 else takenF s l c p step i := rfl
    have hkm := hk.move i (step * wishI s l c p i) hi
    have hsafe := safe26 (n := d + 4) (by omega) hs (hkm.valid hl) c.length (by omega)
    simp only [learnS] at ho1
    generalize hQ : takenF s l c p step i = q at *
    generalize hO : outF s l c p step i = out at *
    have hol := hk.len
    have hio : i < out.length := by omega
    have hfr := hk.frm i
    have hvi := hk.val i hi
    have hgo : out.getD i (0, 0) = out[i] := by simp [List.getD_eq_getElem?_getD, List.getElem?_eq_getElem hio]
    have hml : (moveL out i (step * wishI s l c p i)).length = l.length := by rw [moveL_length, hol]
    have hmv : moveL out i (step * wishI s l c p i) = out.set i (out[i].1, max 0 (min 100 (out[i].2 + step * wishI s l c p i))) := by rw [moveL, hgo]
    rw [← hfr, hgo] at ho1 ht1
    rw [hgo] at hvi
    simp only [csl, hml] at hsafe
    have hlt' : (i : Int) < l.length := by omega
    have hx0 := cI_get0 out i hio
    have hx1 := cI_get1 out i hio
    have hset := cI_set1 out i hio (max 0 (min 100 (out[i].2 + step * wishI s l c p i)))
    rw [← hmv] at hset
    have hs1 : i * 2 + 1 + 1 ≤ l.length * 2 := by omega
    by_cases hfc : (c.length : Int) ≤ out[i].1
    · rw [if_pos hfc] at ho1 ht1
      refine ⟨inv (i + 1), ?_, rfl⟩
      simp -implicitDefEqProofs [inv, so, hQ, hO, loopS_eq, c49L0, hlt', hx0, hfc, ho1, ht1, wrap_succ (i := i) (by omega)]
    · rw [if_neg hfc] at ho1 ht1
      have wb : -100 ≤ step * wishI s l c p i ∧ step * wishI s l c p i ≤ 100 := by
        rcases hWc with e | e | e <;> rw [e] <;> omega
      have w1 := wrap64 (n := step * wishI s l c p i) (by omega) (by omega)
      have w2 := wrap64 (n := out[i].2 + step * wishI s l c p i) (by omega) (by omega)
      have m1 := min2 100 (out[i].2 + step * wishI s l c p i)
      have m2 := max2 0 (min 100 (out[i].2 + step * wishI s l c p i))
      by_cases hsf : safeB s (moveL out i (step * wishI s l c p i)) c.length = true
      · rw [if_pos hsf] at ho1 ht1
        rw [hsf] at hsafe
        generalize moveL out i (step * wishI s l c p i) = nx at *
        refine ⟨⟨(inv (i + 1)).env, [(q + 2, .arr (cI nx) 1 2), (q + 1, .arr (cI out) 1 2), (0, so)]⟩, ?_, loopS_same rfl (by simp [inv, so, ht1, ho1])⟩
        simp -implicitDefEqProofs [inv, so, hQ, hO, loopS_eq, c49L0, hlt', hx0, hx1, hfc, ht1, hol, hne, hlim0, hW, w1, w2, m1, m2, hset, hs1, hsafe, hml, wrap_succ (i := i) (by omega)]
      · rw [if_neg hsf] at ho1 ht1
        rw [Bool.not_eq_true] at hsf
        rw [hsf] at hsafe
        generalize moveL out i (step * wishI s l c p i) = nx at *
        refine ⟨⟨(inv (i + 1)).env, [(q + 2, .arr (cI nx) 1 2), (q + 1, .arr (cI out) 1 2), (0, so)]⟩, ?_, loopS_same rfl (by simp [inv, so, ht1, ho1])⟩
        simp -implicitDefEqProofs [inv, so, hQ, hO, loopS_eq, c49L0, hlt', hx0, hx1, hfc, ht1, hol, hne, hlim0, hW, w1, w2, m1, m2, hset, hs1, hsafe, hml, wrap_succ (i := i) (by omega)]
  · simp -implicitDefEqProofs [inv, so, loopS_eq, c49L0]
  · simp [loopFuel]; omega
end Fw
