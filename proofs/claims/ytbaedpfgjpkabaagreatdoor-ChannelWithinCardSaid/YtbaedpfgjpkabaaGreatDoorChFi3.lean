/- Several texts in one: each is told at its head. -/
import Derived.Test.YtbaedpfgjpkabaaGreatDoorChS1
section
/- Gaps of a record: their checks, which samples are missing. -/
set_option maxHeartbeats 8000000
namespace Fw
open Go
attribute [local irreducible] evCode evOps evOpsD evOper evOperD evOp evFn loopN T.All T.bind callPure callOp opsK opsDK restK seqK blockK loopS setK setQ giveK scalK gcK finish finS rfunK yldK yldB loopK

def gbad (n : Int) (x : Int × Int) : Bool := (decide (x.1 < 0) || decide (x.2 ≤ x.1)) || decide (n < x.2)
def gap1 (n p : Int) (x : Int × Int) : Int := firstE [whenE (gbad n x) 14, whenE (decide (x.1 ≤ p)) 15]
def endB (g : List (Int × Int)) (i : Nat) : Int := if i = 0 then -1 else (g.getD (i - 1) (0, 0)).2
def gapL (g : List (Int × Int)) (n : Int) : List Int := (List.range g.length).map fun i => gap1 n (endB g i) (g.getD i (0, 0))
def gapE (g : List (Int × Int)) (n : Int) : Int := if 32 < g.length then 5 else firstE (gapL g n)
@[simp] theorem gapL_length (g : List (Int × Int)) (n : Int) : (gapL g n).length = g.length := by simp [gapL]
theorem gapL_get (g : List (Int × Int)) (n : Int) (i : Nat) (h : i < (gapL g n).length) : (gapL g n)[i] = gap1 n (endB g i) (g[i]'(by simpa using h)) := by
  have h' : i < g.length := by simpa using h
  simp [gapL, List.getD_eq_getElem?_getD, h']
theorem endB_succ (g : List (Int × Int)) (i : Nat) (h : i < g.length) : endB g (i + 1) = g[i].2 := by
  simp [endB, List.getD_eq_getElem?_getD, h]

theorem gaps148 {n : Nat} (hn : 3 ≤ n) (g : List (Int × Int)) (hl : g.length < 1000000) (m : Int) : RUN n 148 [csl g, iv m] = .ret (iv (gapE g m)) := by
  obtain ⟨d, rfl⟩ : ∃ d, n = d + 3 := ⟨n - 3, by omega⟩
  rw [RUN, call_eq fe148 _ rfl]
  have kw := fun b e => when104 (n := d + 2) (by omega) b e
  have k3 := fun a b => first103_2 (n := d + 2) (by omega) a b
  by_cases c : (32 : Int) < g.length
  · have c' : 32 < g.length := by omega
    simp -implicitDefEqProofs [c148, c, gapE, c']
  · have c' : ¬ 32 < g.length := by omega
    let inv : Nat → St := fun i => ⟨[(1, iv m), (5, iv (endB g i)), (12, csl g), (13, iv g.length), (14, iv i)], []⟩
    have hloop : ∃ r, loopN (loopS (evFn F C0 G0 (d + 2)) C0 G0 0 true [1, 5, 12, 13, 14] c148L0) loopFuel ⟨[(1, iv m), (5, .p (.int .i64 (-1))), (12, csl g), (13, iv g.length), (14, .p (.int .i64 0))], []⟩ = .ret r ∧ (firstE (gapL g m) = 0 → r = (.exit 0, ⟨(inv g.length).env ++ [(15, .p (.bool false))], []⟩)) ∧ (firstE (gapL g m) ≠ 0 → r.1 = .ret ∧ r.2.env = [(4, iv (firstE (gapL g m)))]) := by
      refine loop_errsQ inv (gapL g m) _ (fun e r => r.1 = .ret ∧ r.2.env = [(4, iv e)]) rfl ?_ ?_ (by simp) (by simp [loopFuel]; omega)
      · intro i hi
        simp only [gapL_length] at hi
        have w2 := wrap_succ (i := i) (by omega)
        have hdr := cI_drop g i hi
        have hlt : i * 2 < g.length * 2 := by omega
        have he' := endB_succ g i hi
        rw [gapL_get]
        simp only [inv, he']
        unfold gap1 gbad
        generalize endB g i = p at *
        generalize cI (g.drop (i + 1)) = R at *
        generalize hA : cI g = A at *
        have hAl : A.length = g.length * 2 := by rw [← hA]; simp
        generalize g[i] = x at *
        obtain ⟨a, b⟩ := x
        simp only at hdr ⊢
        by_cases c1 : a < 0
        · refine ⟨fun he => ?_, fun he => ?_⟩
          · simp [c1, firstE, whenE] at he
          · refine ⟨_, by simp -implicitDefEqProofs [loopS_eq, c148L0, hi, hA, hAl, hlt, hdr, kw, k3, firstE, whenE, c1]; exact rfl, ?_⟩
            refine ⟨by simp, ?_⟩
            simp [c1, firstE, whenE]
        · by_cases c2 : b ≤ a
          · refine ⟨fun he => ?_, fun he => ?_⟩
            · simp [c1, c2, firstE, whenE] at he
            · refine ⟨_, by simp -implicitDefEqProofs [loopS_eq, c148L0, hi, hA, hAl, hlt, hdr, kw, k3, firstE, whenE, c1, c2]; exact rfl, ?_⟩
              refine ⟨by simp, ?_⟩
              simp [c1, c2, firstE, whenE]
          · by_cases c3 : m < b
            · refine ⟨fun he => ?_, fun he => ?_⟩
              · simp [c1, c2, c3, firstE, whenE] at he
              · refine ⟨_, by simp -implicitDefEqProofs [loopS_eq, c148L0, hi, hA, hAl, hlt, hdr, kw, k3, firstE, whenE, c1, c2, c3]; exact rfl, ?_⟩
                refine ⟨by simp, ?_⟩
                simp [c1, c2, c3, firstE, whenE]
            · by_cases c4 : a ≤ p
              · refine ⟨fun he => ?_, fun he => ?_⟩
                · simp [c1, c2, c3, c4, firstE, whenE] at he
                · refine ⟨_, by simp -implicitDefEqProofs [loopS_eq, c148L0, hi, hA, hAl, hlt, hdr, kw, k3, firstE, whenE, c1, c2, c3, c4]; exact rfl, ?_⟩
                  refine ⟨by simp, ?_⟩
                  simp [c1, c2, c3, c4, firstE, whenE]
              · refine ⟨fun he => ⟨_, by simp -implicitDefEqProofs [loopS_eq, c148L0, hi, hA, hAl, hlt, hdr, kw, k3, firstE, whenE, c1, c2, c3, c4, w2]; exact rfl, ?_⟩, fun he => ?_⟩
                · exact loopS_same rfl (by simp)
                · simp [c1, c2, c3, c4, firstE, whenE] at he
      · simp only [gapL_length, inv]
        simp -implicitDefEqProofs [loopS_eq, c148L0]
    obtain ⟨r, hr, hok, hbad⟩ := hloop
    simp only [gapE, if_neg c']
    by_cases hz : firstE (gapL g m) = 0
    · have hre := hok hz
      subst hre
      rw [hz]
      simp only [inv] at hr
      simp -implicitDefEqProofs [c148, c, hr]
    · obtain ⟨b1, b2⟩ := hbad hz
      obtain ⟨e, env, sto⟩ := r
      simp only at b1 b2
      subst b1 b2
      simp -implicitDefEqProofs [c148, c, hr]

end Fw
end

section
/- Gaps of a record: which samples are missing, the nearest that is known. -/
set_option maxHeartbeats 8000000
namespace Fw
open Go
attribute [local irreducible] evCode evOps evOpsD evOper evOperD evOp evFn loopN T.All T.bind callPure callOp opsK opsDK restK seqK blockK loopS setK setQ giveK scalK gcK finish finS rfunK yldK yldB loopK

/-- a sample that is in a gap -/
def mis (g : List (Int × Int)) (i : Int) : Bool := g.any fun x => decide (x.1 ≤ i) && decide (i < x.2)
def misL (g : List (Int × Int)) (i : Int) : List Int := g.map fun x => if x.1 ≤ i ∧ i < x.2 then 1 else 0
/-- all samples strictly between are missing -/
def btw (g : List (Int × Int)) (i k : Nat) : Bool := (List.range (k - (i + 1))).all fun t => mis g ((i + 1 + t : Nat) : Int)
/-! flags -/
def pB (l : List Bool) : List PVal := l.map .bool
@[simp] theorem pB_length (l : List Bool) : (pB l).length = l.length := by simp [pB]
@[simp] theorem pB_get (l : List Bool) (i : Nat) : (pB l)[i]? = (l[i]?).map .bool := by simp [pB]
@[simp] theorem pB_getElem (l : List Bool) (i : Nat) (h : i < (pB l).length) : (pB l)[i] = .bool (l[i]'(by simpa using h)) := by simp [pB]
theorem pB_set (l : List Bool) (i : Nat) (b : Bool) : (pB l).set i (.bool b) = pB (l.set i b) := by simp [pB, List.map_set]
abbrev bsl (l : List Bool) : AVal := .p (.sl (pB l) l.length)

theorem index187 {n : Nat} (hn : 1 ≤ n) (l : List Bool) (hl : l.length < 1000000) : ∃ k : Int, RUN n 187 [bsl l, .p (.bool false)] = .ret (iv k) ∧ decide (0 ≤ k) = l.any (!·) := by
  obtain ⟨d, rfl⟩ : ∃ d, n = d + 1 := ⟨n - 1, by omega⟩
  rw [RUN, call_eq fe187 _ rfl]
  let inv : Nat → St := fun i => ⟨[(0, bsl l), (1, .p (.bool false)), (7, iv l.length), (8, iv i)], []⟩
  let es : List Int := (List.range l.length).map fun t => if l.getD t true then 0 else (t : Int) + 1
  have hes : es.length = l.length := by simp [es]
  have hloop := loop_errs (step := loopS (evFn F C0 G0 d) C0 G0 0 false [0, 1, 7, 8] c187L0) (st0 := ⟨[(0, bsl l), (1, .p (.bool false)), (7, iv l.length), (8, .p (.int .i64 0))], []⟩) inv es (.exit 0, ⟨(inv l.length).env ++ [(9, .p (.bool false))], []⟩) (fun e => (.ret, ⟨[(4, iv (e - 1))], []⟩)) (by rfl) (by
    intro i hi
    rw [hes] at hi
    have w2 := wrap_succ (i := i) (by omega)
    have he : es[i] = if l.getD i true then 0 else (i : Int) + 1 := by simp [es]
    have hg : l.getD i true = l[i] := by rw [List.getD_eq_getElem?_getD, List.getElem?_eq_getElem hi]; rfl
    rw [he, hg]
    simp only [inv]
    generalize hb : l[i] = b at *
    cases b with
    | true =>
      refine ⟨fun he => ⟨_, ?_, rfl⟩, fun he => ?_⟩
      · simp -implicitDefEqProofs [loopS_eq, c187L0, hi, hb, w2]
      · simp at he
    | false =>
      refine ⟨fun he => ?_, fun he => ?_⟩
      · simp at he; omega
      · have : (i : Int) + 1 - 1 = i := by omega
        simp -implicitDefEqProofs [loopS_eq, c187L0, hi, hb, this]) (by intro e; simp) (by
    simp only [inv, hes]
    simp -implicitDefEqProofs [loopS_eq, c187L0]) (by simp) (fuel := loopFuel) (by simp [loopFuel]; omega)
  have hb : (firstE es = 0) ↔ l.any (!·) = false := by
    rw [firstE_zero]
    simp only [es, List.any_eq_false, List.mem_map, List.mem_range]
    constructor
    · intro h x hx
      obtain ⟨t, ht, rfl⟩ := List.mem_iff_getElem.1 hx
      have := h _ ⟨t, ht, rfl⟩
      rw [List.getD_eq_getElem?_getD, List.getElem?_eq_getElem ht] at this
      simp only [Option.getD_some] at this
      split at this
      · rename_i hq; simp [hq]
      · omega
    · rintro h e ⟨t, ht, rfl⟩
      have := h _ (List.getElem_mem ht)
      rw [List.getD_eq_getElem?_getD, List.getElem?_eq_getElem ht]
      simp only [Option.getD_some]
      rw [if_pos (by simpa using this)]
  have hpos : firstE es ≠ 0 → 0 ≤ firstE es - 1 := fun h => by
    have hmem : ∀ L : List Int, firstE L ≠ 0 → firstE L ∈ L := by
      intro L
      induction L with
      | nil => intro h; exact absurd rfl h
      | cons x r ih =>
        intro h
        rw [firstE_cons] at h ⊢
        by_cases hx : x = 0
        · simp only [hx, if_true] at h ⊢
          exact List.mem_cons_of_mem _ (ih h)
        · simp only [hx, if_false]
          exact List.mem_cons_self
    obtain ⟨t, ht, hq⟩ := List.mem_map.1 (hmem es h)
    split at hq
    · exact absurd hq.symm h
    · omega
  by_cases y : firstE es = 0
  · rw [if_pos y] at hloop
    refine ⟨-1, ?_, ?_⟩
    · simp only [inv, List.cons_append, List.nil_append] at hloop
      simp -implicitDefEqProofs [c187, hloop]
    · rw [hb.1 y]; rfl
  · rw [if_neg y] at hloop
    refine ⟨firstE es - 1, ?_, ?_⟩
    · simp -implicitDefEqProofs [c187, hloop]
    · have h1 := hpos y
      have h2 : l.any (!·) = true := by
        cases h : l.any (!·)
        · exact absurd (hb.2 h) y
        · rfl
      rw [h2]; simpa using h1
theorem contains149 {n : Nat} (hn : 2 ≤ n) (l : List Bool) (hl : l.length < 1000000) : RUN n 149 [bsl l, .p (.bool false)] = .ret (.p (.bool (l.any (!·)))) := by
  obtain ⟨d, rfl⟩ : ∃ d, n = d + 2 := ⟨n - 2, by omega⟩
  rw [RUN, call_eq fe149 _ rfl]
  obtain ⟨k, h1, h2⟩ := index187 (n := d + 1) (by omega) l hl
  simp -implicitDefEqProofs [c149, h1, h2]
end Fw
end

section
/- Gaps of a record: the nearest sample that is known. -/
set_option maxHeartbeats 8000000
namespace Fw
open Go
attribute [local irreducible] evCode evOps evOpsD evOper evOperD evOp evFn loopN T.All T.bind callPure callOp opsK opsDK restK seqK blockK loopS setK setQ giveK scalK gcK finish finS rfunK yldK yldB loopK

def lftL (L : List Bool) (i : Nat) : List Int := (List.range (i + 1)).map fun t => if L.getD (i - t) true then 0 else ((i - t : Nat) : Int) + 1
def lft (L : List Bool) (i : Nat) : Int := firstE (lftL L i) - 1
def rgtL (L : List Bool) (i : Nat) : List Int := (List.range (L.length - i)).map fun t => if L.getD (i + t) true then 0 else ((i + t : Nat) : Int) + 1
def rgt (L : List Bool) (i : Nat) : Int := firstE (rgtL L i) - 1

theorem toward_l {n : Nat} (hn : 1 ≤ n) (l : List Bool) (hl : l.length < 1000000) (i : Nat) (hi : i < l.length) : RUN n 150 [bsl l, iv i, .p (.int .i64 (-1))] = .ret (iv (lft l i)) := by
  obtain ⟨d, rfl⟩ : ∃ d, n = d + 1 := ⟨n - 1, by omega⟩
  rw [RUN, call_eq fe150 _ rfl]
  let inv : Nat → St := fun t => ⟨[(0, bsl l), (2, .p (.int .i64 (-1))), (7, .p (.int .i64 (-1))), (8, iv ((i : Int) - t))], []⟩
  have hes : (lftL l i).length = i + 1 := by simp [lftL]
  simp -implicitDefEqProofs [c150]
  rw [loop_errs (st0 := ⟨[(0, bsl l), (2, .p (.int .i64 (-1))), (7, .p (.int .i64 (-1))), (8, .p (.int .i64 i))], []⟩) inv (lftL l i) (.exit 0, ⟨(inv (i + 1)).env ++ [(17, .p (.bool false))], []⟩) (fun e => (.exit 0, ⟨[(7, iv (e - 1))], []⟩)) (by simp only [inv]; rw [show (i : Int) - ((0 : Nat) : Int) = i by omega])]
  · unfold lft
    by_cases y : firstE (lftL l i) = 0
    · simp -implicitDefEqProofs [y, inv]
    · simp -implicitDefEqProofs [y]
  · intro t ht
    rw [hes] at ht
    have hit : i - t < l.length := by omega
    have hc : (i : Int) - t = ((i - t : Nat) : Int) := by omega
    have he : (lftL l i)[t] = if l.getD (i - t) true then 0 else ((i - t : Nat) : Int) + 1 := by simp [lftL]
    have hg : l.getD (i - t) true = l[i - t] := by rw [List.getD_eq_getElem?_getD, List.getElem?_eq_getElem hit]; rfl
    have hin : inv (t + 1) = ⟨[(0, bsl l), (2, .p (.int .i64 (-1))), (7, .p (.int .i64 (-1))), (8, iv (((i - t : Nat) : Int) + (-1)))], []⟩ := by
      simp only [inv]
      rw [show (i : Int) - ((t + 1 : Nat) : Int) = ((i - t : Nat) : Int) + (-1) by omega]
    have w2 := wrap64 (n := ((i - t : Nat) : Int) + (-1)) (by omega) (by omega)
    rw [he, hg, hin]
    simp only [inv, hc]
    generalize hj : i - t = j at *
    generalize hb : l[j] = b at *
    cases b with
    | true =>
      refine ⟨fun he => ⟨_, ?_, rfl⟩, fun he => ?_⟩
      · simp -implicitDefEqProofs [loopS_eq, c150L0, hit, hb, w2]
      · simp at he
    | false =>
      refine ⟨fun he => ?_, fun he => ?_⟩
      · simp at he; omega
      · have : (j : Int) + 1 - 1 = j := by omega
        simp -implicitDefEqProofs [loopS_eq, c150L0, hit, hb, this]
  · intro e; simp
  · rw [hes]
    have hlt : ¬ (0 : Int) ≤ (i : Int) - ((i + 1 : Nat) : Int) := by omega
    simp only [inv]
    generalize (i : Int) - ((i + 1 : Nat) : Int) = z at *
    simp -implicitDefEqProofs [loopS_eq, c150L0, hlt]
  · simp
  · rw [hes]; simp [loopFuel]; omega

theorem toward_r {n : Nat} (hn : 1 ≤ n) (l : List Bool) (hl : l.length < 1000000) (i : Nat) (hi : i < l.length) : RUN n 150 [bsl l, iv i, .p (.int .i64 1)] = .ret (iv (rgt l i)) := by
  obtain ⟨d, rfl⟩ : ∃ d, n = d + 1 := ⟨n - 1, by omega⟩
  rw [RUN, call_eq fe150 _ rfl]
  let inv : Nat → St := fun t => ⟨[(0, bsl l), (2, .p (.int .i64 1)), (7, .p (.int .i64 (-1))), (8, iv (i + t : Nat))], []⟩
  have hes : (rgtL l i).length = l.length - i := by simp [rgtL]
  simp -implicitDefEqProofs [c150]
  rw [loop_errs (st0 := ⟨[(0, bsl l), (2, .p (.int .i64 1)), (7, .p (.int .i64 (-1))), (8, .p (.int .i64 i))], []⟩) inv (rgtL l i) (.exit 0, ⟨[(0, bsl l), (2, .p (.int .i64 1)), (7, .p (.int .i64 (-1))), (8, iv l.length), (17, .p (.bool false))], []⟩) (fun e => (.exit 0, ⟨[(7, iv (e - 1))], []⟩)) (by rfl)]
  · unfold rgt
    by_cases y : firstE (rgtL l i) = 0
    · simp -implicitDefEqProofs [y]
    · simp -implicitDefEqProofs [y]
  · intro t ht
    rw [hes] at ht
    have hit : i + t < l.length := by omega
    have he : (rgtL l i)[t] = if l.getD (i + t) true then 0 else ((i + t : Nat) : Int) + 1 := by simp [rgtL]
    have hg : l.getD (i + t) true = l[i + t] := by rw [List.getD_eq_getElem?_getD, List.getElem?_eq_getElem hit]; rfl
    have hin : inv (t + 1) = ⟨[(0, bsl l), (2, .p (.int .i64 1)), (7, .p (.int .i64 (-1))), (8, iv (((i + t : Nat) : Int) + 1))], []⟩ := by
      simp only [inv]
      rw [show ((i + (t + 1) : Nat) : Int) = ((i + t : Nat) : Int) + 1 by omega]
    have w2 := wrap_succ (i := i + t) (by omega)
    rw [he, hg, hin]
    simp only [inv]
    generalize hj : i + t = j at *
    generalize hb : l[j] = b at *
    cases b with
    | true =>
      refine ⟨fun he => ⟨_, ?_, rfl⟩, fun he => ?_⟩
      · simp -implicitDefEqProofs [loopS_eq, c150L0, hit, hb, w2]
      · simp at he
    | false =>
      refine ⟨fun he => ?_, fun he => ?_⟩
      · simp at he; omega
      · have : (j : Int) + 1 - 1 = j := by omega
        simp -implicitDefEqProofs [loopS_eq, c150L0, hit, hb, this]
  · intro e; simp
  · rw [hes]
    have h2 : i + (l.length - i) = l.length := by omega
    simp only [inv, h2]
    simp -implicitDefEqProofs [loopS_eq, c150L0]
  · simp
  · rw [hes]; simp [loopFuel]; omega

/-! what they find -/
theorem firstE_at : ∀ (L : List Int), firstE L ≠ 0 → ∃ t, ∃ h : t < L.length, L[t] = firstE L ∧ ∀ s (hs : s < t), L[s] = 0 := by
  intro L
  induction L with
  | nil => intro h; exact absurd rfl h
  | cons x r ih =>
    intro h
    rw [firstE_cons] at h ⊢
    by_cases hx : x = 0
    · simp only [hx, if_true] at h ⊢
      obtain ⟨t, ht, h1, h2⟩ := ih h
      refine ⟨t + 1, by simp; omega, by simpa using h1, fun s hs => ?_⟩
      cases s with
      | zero => simp
      | succ s => simpa using h2 s (by omega)
    · simp only [hx, if_false]
      exact ⟨0, by simp, by simp, fun s hs => by omega⟩
theorem lft_spec (L : List Bool) (i : Nat) (_hi : i < L.length) : (lft L i = -1 ∧ ∀ j ≤ i, L.getD j true = true) ∨ ∃ k : Nat, lft L i = k ∧ k ≤ i ∧ L.getD k true = false ∧ ∀ j, k < j → j ≤ i → L.getD j true = true := by
  have hes : (lftL L i).length = i + 1 := by simp [lftL]
  have hat : ∀ t (ht : t < (lftL L i).length), (lftL L i)[t] = if L.getD (i - t) true then 0 else ((i - t : Nat) : Int) + 1 := fun t ht => by simp [lftL]
  have hz : ∀ t (ht : t < (lftL L i).length), (lftL L i)[t] = 0 → L.getD (i - t) true = true := fun t ht h => by
    rw [hat t ht] at h
    split at h
    · assumption
    · omega
  by_cases y : firstE (lftL L i) = 0
  · left
    refine ⟨by unfold lft; omega, fun j hj => ?_⟩
    have h := firstE_zero.1 y _ (List.getElem_mem (l := lftL L i) (n := i - j) (by omega))
    have := hz (i - j) (by omega) h
    rwa [show i - (i - j) = j by omega] at this
  · right
    obtain ⟨t, ht, h1, h2⟩ := firstE_at _ y
    have h3 := hat t ht
    rw [h1] at h3
    split at h3
    · exact absurd h3 y
    · rename_i hq
      refine ⟨i - t, by unfold lft; omega, by omega, by simpa using hq, fun j hj1 hj2 => ?_⟩
      have := hz (i - j) (by omega) (h2 (i - j) (by omega))
      rwa [show i - (i - j) = j by omega] at this
theorem rgt_spec (L : List Bool) (i : Nat) (hi : i < L.length) : (rgt L i = -1 ∧ ∀ j, i ≤ j → j < L.length → L.getD j true = true) ∨ ∃ k : Nat, rgt L i = k ∧ i ≤ k ∧ k < L.length ∧ L.getD k true = false ∧ ∀ j, i ≤ j → j < k → L.getD j true = true := by
  have hes : (rgtL L i).length = L.length - i := by simp [rgtL]
  have hat : ∀ t (ht : t < (rgtL L i).length), (rgtL L i)[t] = if L.getD (i + t) true then 0 else ((i + t : Nat) : Int) + 1 := fun t ht => by simp [rgtL]
  have hz : ∀ t (ht : t < (rgtL L i).length), (rgtL L i)[t] = 0 → L.getD (i + t) true = true := fun t ht h => by
    rw [hat t ht] at h
    split at h
    · assumption
    · omega
  by_cases y : firstE (rgtL L i) = 0
  · left
    refine ⟨by unfold rgt; omega, fun j hj hj2 => ?_⟩
    have h := firstE_zero.1 y _ (List.getElem_mem (l := rgtL L i) (n := j - i) (by omega))
    have := hz (j - i) (by omega) h
    rwa [show i + (j - i) = j by omega] at this
  · right
    obtain ⟨t, ht, h1, h2⟩ := firstE_at _ y
    have h3 := hat t ht
    rw [h1] at h3
    split at h3
    · exact absurd h3 y
    · rename_i hq
      refine ⟨i + t, by unfold rgt; omega, by omega, by omega, by simpa using hq, fun j hj1 hj2 => ?_⟩
      have := hz (j - i) (by omega) (h2 (j - i) (by omega))
      rwa [show i + (j - i) = j by omega] at this
end Fw
end

