/- Gaps of a record: which samples are missing, the nearest that is known. -/
import Derived.Test.YtbaedpfgjpkabaaGreatDoorChFi1
set_option maxHeartbeats 8000000
namespace Fw
open Go
attribute [local irreducible] evCode evOps evOpsD evOper evOperD evOp evFn loopN T.All T.bind callPure callOp opsK opsDK restK seqK blockK loopS setK setQ giveK scalK gcK finish finS rfunK yldK yldB loopK

theorem rate68 {n : Nat} (hn : 3 ≤ n) (r : Int) : RUN n 68 [iv r] = .ret (iv (rangeE 0 16384 r)) := by
  obtain ⟨d, rfl⟩ : ∃ d, n = d + 3 := ⟨n - 3, by omega⟩
  rw [RUN, call_eq fe68 _ rfl]
  have k := range108 (n := d + 2) (by omega) r 0 16384
  simp -implicitDefEqProofs [c68, k]
theorem spans66 {n : Nat} (hn : 1 ≤ n) (l : List (Int × Int)) (hl : l.length < 1000000) : RUN n 66 [csl l] = .ret (.own (cI l) l.length 2) := by
  obtain ⟨d, rfl⟩ : ∃ d, n = d + 1 := ⟨n - 1, by omega⟩
  rw [RUN, call_eq fe66 _ rfl]
  have hlim : l.length ≤ lim := by simp only [lim]; omega
  by_cases h : l.length = 0
  · have : l = [] := List.eq_nil_of_length_eq_zero h
    subst this
    simp -implicitDefEqProofs [c66, lim, cI]
  · simp -implicitDefEqProofs [c66, hlim, h]
theorem short64 {n : Nat} (hn : 1 ≤ n) (l : List (Int × Int)) : RUN n 64 [csl l] = .ret (.p (.bool (decide (l.length ≤ 8) || decide (l.length = 33)))) := by
  obtain ⟨d, rfl⟩ : ∃ d, n = d + 1 := ⟨n - 1, by omega⟩
  rw [RUN, call_eq fe64 _ rfl]
  by_cases a : (l.length : Int) ≤ 8
  · have a' : l.length ≤ 8 := by omega
    simp -implicitDefEqProofs [c64, a, a']
  · have a' : ¬ l.length ≤ 8 := by omega
    have : ((l.length : Int) == 33) = decide (l.length = 33) := by
      by_cases b : l.length = 33
      · simp [b]
      · have : ¬ (l.length : Int) = 33 := by omega
        simp [b, this]
    simp -implicitDefEqProofs [c64, a, a', this]

/-- a sample that is in a gap -/
def mis (g : List (Int × Int)) (i : Int) : Bool := g.any fun x => decide (x.1 ≤ i) && decide (i < x.2)
def misL (g : List (Int × Int)) (i : Int) : List Int := g.map fun x => if x.1 ≤ i ∧ i < x.2 then 1 else 0
theorem misL_zero (g : List (Int × Int)) (i : Int) : firstE (misL g i) = 0 ↔ mis g i = false := by
  rw [firstE_zero]
  simp only [misL, mis, List.mem_map, List.any_eq_false]
  constructor
  · intro h x hx
    have := h _ ⟨x, hx, rfl⟩
    split at this
    · cases this
    · rename_i hc; simpa using hc
  · rintro h e ⟨x, hx, rfl⟩
    have := h x hx
    rw [if_neg (by simpa using this)]

theorem missing152 {n : Nat} (hn : 1 ≤ n) (g : List (Int × Int)) (hl : g.length < 1000000) (j : Int) : RUN n 152 [csl g, iv j] = .ret (.p (.bool (mis g j))) := by
  obtain ⟨d, rfl⟩ : ∃ d, n = d + 1 := ⟨n - 1, by omega⟩
  rw [RUN, call_eq fe152 _ rfl]
  let inv : Nat → St := fun i => ⟨[(0, csl g), (1, iv j), (5, iv i)], []⟩
  simp -implicitDefEqProofs [c152]
  rw [loop_errs (st0 := ⟨[(0, csl g), (1, iv j), (5, .p (.int .i64 0))], []⟩) inv (misL g j) (.exit 0, ⟨(inv g.length).env ++ [(9, .p (.bool false))], []⟩) (fun _ => (.ret, ⟨[(4, .p (.bool true))], []⟩)) (by rfl)]
  · by_cases y : firstE (misL g j) = 0
    · have := (misL_zero g j).1 y
      simp -implicitDefEqProofs [y, inv, this]
    · have : mis g j = true := by
        cases h : mis g j
        · exact absurd ((misL_zero g j).2 h) y
        · rfl
      simp -implicitDefEqProofs [y, this]
  · intro i hi
    have hi' : i < g.length := by simpa [misL] using hi
    have w2 := wrap_succ (i := i) (by omega)
    have hdr := cI_drop g i hi'
    have hlt : i * 2 < g.length * 2 := by omega
    have hlt1 : i * 2 + 1 < g.length * 2 := by omega
    have hdr1 : (cI g).drop (i * 2 + 1) = .int .i64 g[i].2 :: cI (g.drop (i + 1)) := by
      rw [← List.drop_drop, hdr]; rfl
    have he : (misL g j)[i] = if g[i].1 ≤ j ∧ j < g[i].2 then 1 else 0 := by simp [misL]
    rw [he]
    generalize cI (g.drop (i + 1)) = R at *
    generalize hA : cI g = A at *
    have hAl : A.length = g.length * 2 := by rw [← hA]; simp
    generalize g[i] = x at *
    obtain ⟨a, b⟩ := x
    simp only at hdr hdr1 ⊢
    by_cases c1 : a ≤ j
    · by_cases c2 : j < b
      · refine ⟨fun he => ?_, fun he => ?_⟩
        · simp [c1, c2] at he
        · simp -implicitDefEqProofs [inv, loopS_eq, c152L0, hi', hA, hAl, hlt, hdr, c1, c2]
      · refine ⟨fun he => ⟨_, ?_, rfl⟩, fun he => ?_⟩
        · simp -implicitDefEqProofs [inv, loopS_eq, c152L0, hi', hA, hAl, hlt, hdr, c1, c2, w2]
        · simp [c2] at he
    · refine ⟨fun he => ⟨_, ?_, rfl⟩, fun he => ?_⟩
      · simp -implicitDefEqProofs [inv, loopS_eq, c152L0, hi', hA, hAl, hlt, hdr, c1, w2]
      · simp [c1] at he
  · intro e; simp
  · have : (misL g j).length = g.length := by simp [misL]
    rw [this]
    simp -implicitDefEqProofs [inv, loopS_eq, c152L0]
  · simp
  · simp [loopFuel, misL]; omega

/-- all samples strictly between are missing -/
def btw (g : List (Int × Int)) (i k : Nat) : Bool := (List.range (k - (i + 1))).all fun t => mis g ((i + 1 + t : Nat) : Int)
theorem between153 {n : Nat} (hn : 2 ≤ n) (g : List (Int × Int)) (hl : g.length < 1000000) (i k : Nat) (hi : i < 100000) (hk : k < 100000) : RUN n 153 [csl g, iv i, iv k] = .ret (.p (.bool (btw g i k))) := by
  obtain ⟨d, rfl⟩ : ∃ d, n = d + 2 := ⟨n - 2, by omega⟩
  rw [RUN, call_eq fe153 _ rfl]
  have w0 := wrap_succ (i := i) (by omega)
  have km := fun j => missing152 (n := d + 1) (by omega) g hl j
  let inv : Nat → St := fun t => ⟨[(0, csl g), (2, iv k), (7, iv (i + 1 + t : Nat))], []⟩
  simp -implicitDefEqProofs [c153, w0]
  let es : List Int := (List.range (k - (i + 1))).map fun t => if mis g ((i + 1 + t : Nat) : Int) then 0 else 1
  have hes : es.length = k - (i + 1) := by simp [es]
  rw [loop_errs (st0 := ⟨[(0, csl g), (2, iv k), (7, .p (.int .i64 ((i : Int) + 1)))], []⟩) inv es (.exit 0, ⟨[(0, csl g), (2, iv k), (7, iv (i + 1 + (k - (i + 1)) : Nat)), (12, .p (.bool false))], []⟩) (fun _ => (.ret, ⟨[(6, .p (.bool false))], []⟩)) (by rfl)]
  · have hb : (firstE es = 0) ↔ btw g i k = true := by
      rw [firstE_zero]
      simp only [es, btw, List.all_eq_true, List.mem_map, List.mem_range]
      constructor
      · intro h t ht
        have := h _ ⟨t, ht, rfl⟩
        split at this
        · assumption
        · cases this
      · rintro h e ⟨t, ht, rfl⟩
        rw [if_pos (h t ht)]
    by_cases y : firstE es = 0
    · have := hb.1 y
      simp -implicitDefEqProofs [y, this]
    · have : btw g i k = false := by
        cases h : btw g i k
        · rfl
        · exact absurd (hb.2 h) y
      simp -implicitDefEqProofs [y, this]
  · intro t ht
    rw [hes] at ht
    have w2 := wrap_succ (i := i + 1 + t) (by omega)
    have hlt : ((i + 1 + t : Nat) : Int) < (k : Int) := by omega
    have he : es[t] = if mis g ((i + 1 + t : Nat) : Int) then 0 else 1 := by simp [es]
    have hin : inv (t + 1) = ⟨[(0, csl g), (2, iv k), (7, iv (((i + 1 + t : Nat) : Int) + 1))], []⟩ := by
      simp only [inv]
      rw [show (((i + 1 + (t + 1) : Nat)) : Int) = ((i + 1 + t : Nat) : Int) + 1 by omega]
    rw [he, hin]
    simp only [inv]
    have k1 := km ((i + 1 + t : Nat) : Int)
    generalize mis g ((i + 1 + t : Nat) : Int) = b at *
    generalize ((i + 1 + t : Nat) : Int) = z at *
    cases b with
    | true =>
      refine ⟨fun he => ⟨_, ?_, rfl⟩, fun he => ?_⟩
      · simp -implicitDefEqProofs [loopS_eq, c153L0, hlt, k1, w2]
      · simp at he
    | false =>
      refine ⟨fun he => ?_, fun he => ?_⟩
      · simp at he
      · simp -implicitDefEqProofs [loopS_eq, c153L0, hlt, k1]
  · intro e; simp
  · simp only [inv, hes]
    have hlt : ¬ ((i + 1 + (k - (i + 1)) : Nat) : Int) < (k : Int) := by omega
    generalize ((i + 1 + (k - (i + 1)) : Nat) : Int) = z at *
    simp -implicitDefEqProofs [loopS_eq, c153L0, hlt]
  · simp
  · simp [loopFuel]; omega

/-! flags -/
def pB (l : List Bool) : List PVal := l.map .bool
@[simp] theorem pB_length (l : List Bool) : (pB l).length = l.length := by simp [pB]
@[simp] theorem pB_get (l : List Bool) (i : Nat) : (pB l)[i]? = (l[i]?).map .bool := by simp [pB]
@[simp] theorem pB_getElem (l : List Bool) (i : Nat) (h : i < (pB l).length) : (pB l)[i] = .bool (l[i]'(by simpa using h)) := by simp [pB]
theorem pB_set (l : List Bool) (i : Nat) (b : Bool) : (pB l).set i (.bool b) = pB (l.set i b) := by simp [pB, List.map_set]
abbrev bsl (l : List Bool) : AVal := .p (.sl (pB l) l.length)

theorem index187 {n : Nat} (hn : 1 ≤ n) (l : List Bool) (hl : l.length < 1000000) : ∃ k : Int, RUN n 187 [bsl l, .p (.bool false)] = .ret (iv k) ∧ decide (0 ≤ k) = l.any (!·) := by
  obtain ⟨d, rfl⟩ : ∃ d, n = d + 1 := ⟨n - 1, by omega⟩
  rw [RUN, call_eq fe187 _ rfl]
  let inv : Nat → St := fun i => ⟨[(0, bsl l), (1, .p (.bool false)), (7, iv l.length), (8, iv i)], []⟩
  let es : List Int := (List.range l.length).map fun t => if l.getD t true then 0 else (t : Int) + 1
  have hes : es.length = l.length := by simp [es]
  have hloop := loop_errs (step := loopS (evFn F C0 G0 d) C0 G0 0 false [0, 1, 7, 8] c187L0) (st0 := ⟨[(0, bsl l), (1, .p (.bool false)), (7, iv l.length), (8, .p (.int .i64 0))], []⟩) inv es (.exit 0, ⟨(inv l.length).env ++ [(9, .p (.bool false))], []⟩) (fun e => (.ret, ⟨[(4, iv (e - 1))], []⟩)) (by rfl) (by
    intro i hi
    rw [hes] at hi
    have w2 := wrap_succ (i := i) (by omega)
    have he : es[i] = if l.getD i true then 0 else (i : Int) + 1 := by simp [es]
    have hg : l.getD i true = l[i] := by rw [List.getD_eq_getElem?_getD, List.getElem?_eq_getElem hi]; rfl
    rw [he, hg]
    simp only [inv]
    generalize hb : l[i] = b at *
    cases b with
    | true =>
      refine ⟨fun he => ⟨_, ?_, rfl⟩, fun he => ?_⟩
      · simp -implicitDefEqProofs [loopS_eq, c187L0, hi, hb, w2]
      · simp at he
    | false =>
      refine ⟨fun he => ?_, fun he => ?_⟩
      · simp at he; omega
      · have : (i : Int) + 1 - 1 = i := by omega
        simp -implicitDefEqProofs [loopS_eq, c187L0, hi, hb, this]) (by intro e; simp) (by
    simp only [inv, hes]
    simp -implicitDefEqProofs [loopS_eq, c187L0]) (by simp) (fuel := loopFuel) (by simp [loopFuel]; omega)
  have hb : (firstE es = 0) ↔ l.any (!·) = false := by
    rw [firstE_zero]
    simp only [es, List.any_eq_false, List.mem_map, List.mem_range]
    constructor
    · intro h x hx
      obtain ⟨t, ht, rfl⟩ := List.mem_iff_getElem.1 hx
      have := h _ ⟨t, ht, rfl⟩
      rw [List.getD_eq_getElem?_getD, List.getElem?_eq_getElem ht] at this
      simp only [Option.getD_some] at this
      split at this
      · rename_i hq; simp [hq]
      · omega
    · rintro h e ⟨t, ht, rfl⟩
      have := h _ (List.getElem_mem ht)
      rw [List.getD_eq_getElem?_getD, List.getElem?_eq_getElem ht]
      simp only [Option.getD_some]
      rw [if_pos (by simpa using this)]
  have hpos : firstE es ≠ 0 → 0 ≤ firstE es - 1 := fun h => by
    have hmem : ∀ L : List Int, firstE L ≠ 0 → firstE L ∈ L := by
      intro L
      induction L with
      | nil => intro h; exact absurd rfl h
      | cons x r ih =>
        intro h
        rw [firstE_cons] at h ⊢
        by_cases hx : x = 0
        · simp only [hx, if_true] at h ⊢
          exact List.mem_cons_of_mem _ (ih h)
        · simp only [hx, if_false]
          exact List.mem_cons_self
    obtain ⟨t, ht, hq⟩ := List.mem_map.1 (hmem es h)
    split at hq
    · exact absurd hq.symm h
    · omega
  by_cases y : firstE es = 0
  · rw [if_pos y] at hloop
    refine ⟨-1, ?_, ?_⟩
    · simp only [inv, List.cons_append, List.nil_append] at hloop
      simp -implicitDefEqProofs [c187, hloop]
    · rw [hb.1 y]; rfl
  · rw [if_neg y] at hloop
    refine ⟨firstE es - 1, ?_, ?_⟩
    · simp -implicitDefEqProofs [c187, hloop]
    · have h1 := hpos y
      have h2 : l.any (!·) = true := by
        cases h : l.any (!·)
        · exact absurd (hb.2 h) y
        · rfl
      rw [h2]; simpa using h1
theorem contains149 {n : Nat} (hn : 2 ≤ n) (l : List Bool) (hl : l.length < 1000000) : RUN n 149 [bsl l, .p (.bool false)] = .ret (.p (.bool (l.any (!·)))) := by
  obtain ⟨d, rfl⟩ : ∃ d, n = d + 2 := ⟨n - 2, by omega⟩
  rw [RUN, call_eq fe149 _ rfl]
  obtain ⟨k, h1, h2⟩ := index187 (n := d + 1) (by omega) l hl
  simp -implicitDefEqProofs [c149, h1, h2]
end Fw
