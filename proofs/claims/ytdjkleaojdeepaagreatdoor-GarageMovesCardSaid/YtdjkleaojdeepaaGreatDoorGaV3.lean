/- The indices at which a trace moves, by the chapter. -/
import Derived.Test.YtdjkleaojdeepaaGreatDoorGaV2
set_option maxHeartbeats 16000000
namespace Fw
open Go
attribute [local irreducible] evCode evOps evOpsD evOper evOperD evOp evFn loopN T.All T.bind callPure callOp opsK opsDK restK seqK blockK loopS setK setQ giveK scalK gcK finish finS rfunK yldK yldB loopK

theorem in106 {n : Nat} (hn : 1 ≤ n) (x : Int × Int) (v : Int) : RUN n 106 [.agg [iv x.1, iv x.2], .p (.pp [.int .i64 v])] = .ret (.p (.bool (decide (x.1 ≤ v) && decide (v < x.2)))) := by
  obtain ⟨d, rfl⟩ : ∃ d, n = d + 1 := ⟨n - 1, by omega⟩
  rw [RUN, call_eq fe106 _ rfl]
  obtain ⟨a, b⟩ := x
  by_cases h1 : a ≤ v
  · simp -implicitDefEqProofs [c106, h1]
  · simp -implicitDefEqProofs [c106, h1]
theorem freF_any (g : List (Int × Int)) (v : Int) : ∀ k, k ≤ g.length → (freF g v k = true ↔ ∃ j, j < k ∧ (decide ((g.getD j (0, 0)).1 ≤ v) && decide (v < (g.getD j (0, 0)).2)) = true) := by
  intro k
  induction k with
  | zero => intro _; simp [freF]
  | succ k ih =>
    intro hk
    have ih := ih (by omega)
    simp only [freF, Bool.or_eq_true]
    constructor
    · rintro (h | h)
      · obtain ⟨j, h1, h2⟩ := ih.1 h; exact ⟨j, by omega, h2⟩
      · exact ⟨k, by omega, h⟩
    · rintro ⟨j, h1, h2⟩
      by_cases e : j = k
      · subst e; exact .inr h2
      · exact .inl (ih.2 ⟨j, by omega, h2⟩)
theorem indexFunc140 {n : Nat} (hn : 2 ≤ n) (g : List (Int × Int)) (hg : g.length < 1000000) (v : Int) : ∃ r : Int, RUN n 140 [csl g, .p (.clo 106 [] [.pp [.int .i64 v]])] = .ret (iv r) ∧ decide (0 ≤ r) = freF g v g.length := by
  obtain ⟨d, rfl⟩ : ∃ d, n = d + 2 := ⟨n - 2, by omega⟩
  rw [RUN, call_eq fe140 _ rfl]
  let inv : Nat → St := fun i => ⟨[(0, csl g), (1, .p (.clo 106 [] [.pp [.int .i64 v]])), (7, iv g.length), (8, iv i)], []⟩
  have key := loop_first (step := loopS (evFn F C0 G0 (d + 1)) C0 G0 0 true [0, 1, 7, 8] c140L0) inv (fun i => if (decide ((g.getD i (0, 0)).1 ≤ v) && decide (v < (g.getD i (0, 0)).2)) = true then 1 else 0) g.length (.exit 0, ⟨(inv g.length).env ++ [(9, .p (.bool false))], []⟩) (fun i => (.ret, ⟨[(4, iv i)], []⟩))
    (st0 := ⟨[(0, csl g), (1, .p (.clo 106 [] [.pp [.int .i64 v]])), (7, iv g.length), (8, iv 0)], []⟩) (fuel := loopFuel) rfl (fun i hi => by
      have hw := wrap_succ (i := i) (by omega)
      have hlt : i * 2 < g.length * 2 := by omega
      have hlt2 : i * 2 + 2 ≤ g.length * 2 := by omega
      have hdr := cI_drop g i hi
      have hgi : g.getD i (0, 0) = g[i] := by simp [List.getD_eq_getElem?_getD, hi]
      have kc := in106 (n := d + 1) (by omega) g[i] v
      simp only [hgi]
      generalize hA : cI g = A at *
      have hAl : A.length = g.length * 2 := by rw [← hA]; exact cI_len' g
      generalize cI (g.drop (i + 1)) = R2 at *
      generalize g[i] = x at *
      obtain ⟨a, b⟩ := x
      simp only at hdr kc ⊢
      cases hf : (decide (a ≤ v) && decide (v < b)) with
      | true =>
        rw [hf] at kc
        refine ⟨fun h0 => absurd h0 (by simp), fun _ => ?_⟩
        simp -implicitDefEqProofs [inv, hA, hAl, loopS_eq, c140L0, hi, hlt, hdr, kc]
      | false =>
        rw [hf] at kc
        refine ⟨fun _ => ⟨?_, ?h1, ?h2⟩, fun h0 => absurd rfl h0⟩
        case h1 =>
          simp -implicitDefEqProofs [inv, hA, hAl, loopS_eq, c140L0, hi, hlt, hdr, kc, hw]
          exact rfl
        case h2 => exact loopS_same (by simp [inv]) (by simp [inv])) (fun _ => by simp) (by simp -implicitDefEqProofs [inv, loopS_eq, c140L0]) (by simp) (by simp [loopFuel]; omega)
  simp -implicitDefEqProofs [c140]
  rcases key with ⟨k1, k2⟩ | ⟨j, hj, k1, k2, k3, k4⟩
  · rw [k1]
    have hno : freF g v g.length = false := by
      cases hf : freF g v g.length with
      | false => rfl
      | true =>
        obtain ⟨j, h1, h2⟩ := (freF_any g v _ (Nat.le_refl _)).1 hf
        have := firstE_zero.1 k2 _ (List.mem_map.2 ⟨j, List.mem_range.2 h1, rfl⟩)
        rw [if_pos h2] at this
        cases this
    refine ⟨-1, ?_, ?_⟩
    · simp -implicitDefEqProofs [inv]
    · rw [hno]; decide
  · rw [k1]
    have hyes : freF g v g.length = true := by
      refine (freF_any g v _ (Nat.le_refl _)).2 ⟨j, hj, ?_⟩
      cases hb : (decide ((g.getD j (0, 0)).1 ≤ v) && decide (v < (g.getD j (0, 0)).2)) with
      | true => rfl
      | false => rw [if_neg (by rw [hb]; simp)] at k3; exact absurd rfl k3
    refine ⟨j, ?_, ?_⟩
    · simp -implicitDefEqProofs []
    · rw [hyes]; simp
theorem contains107 {n : Nat} (hn : 3 ≤ n) (g : List (Int × Int)) (hg : g.length < 1000000) (v : Int) : RUN n 107 [csl g, .p (.clo 106 [] [.pp [.int .i64 v]])] = .ret (.p (.bool (freF g v g.length))) := by
  obtain ⟨d, rfl⟩ : ∃ d, n = d + 3 := ⟨n - 3, by omega⟩
  rw [RUN, call_eq fe107 _ rfl]
  obtain ⟨r, k, hr⟩ := indexFunc140 (n := d + 2) (by omega) g hg v
  rw [← hr]
  simp only [csl] at k ⊢
  generalize cI g = A at *
  simp -implicitDefEqProofs [c107, k]
theorem check103 {n : Nat} (hn : 3 ≤ n) (x : Int) : RUN n 103 [iv x] = .ret (iv (rangeE (-100000) 100000 x)) := by
  obtain ⟨d, rfl⟩ : ∃ d, n = d + 3 := ⟨n - 3, by omega⟩
  rw [RUN, call_eq fe103 _ rfl]
  have k := within92 (n := d + 2) (by omega) x (-100000) 100000
  simp -implicitDefEqProofs [c103, k]
def trG : PVal → PVal
  | .int _ n => .int .i64 (rangeE (-100000) 100000 n)
  | c => c
theorem map105t {n : Nat} (hn : 4 ≤ n) (l : List Int) (hl : l.length < 1000000) : RUN n 105 [isl l, .p (.clo 103 [] [])] = .ret (.own (pI (l.map (rangeE (-100000) 100000))) l.length 1) := by
  obtain ⟨d, rfl⟩ : ∃ d, n = d + 4 := ⟨n - 4, by omega⟩
  have hPl : (pI l).length = l.length := by simp [pI]
  have k := map_ok (C := C0) (G := G0) (d := d + 3) fc105 (by decide) (fun _ => rfl) (pI l) 103 [] trG (by rw [hPl]; exact hl) (by simp) (by
    intro x hx
    simp only [pI, List.mem_map] at hx
    obtain ⟨y, hy, rfl⟩ := hx
    exact ⟨check103 (by omega) y, rfl⟩)
  rw [hPl] at k
  have e : (pI l).map trG = pI (l.map (rangeE (-100000) 100000)) := by simp [pI, trG, Function.comp_def]
  rw [e] at k
  exact k
/-- the permitted spans, one after the other, by the chapter -/
theorem spans42 {d : Nat} (l : List Int) (g : List (Int × Int)) (hg : g.length < 1000000) :
    (loopN (loopS (evFn F C0 G0 (d + 3)) C0 G0 0 true [0, 1, 8, 32, 33, 34] c42L0) loopFuel ⟨[(0, isl l), (1, csl g), (8, iv 0), (32, csl g), (33, iv g.length), (34, iv 0)], []⟩ = .ret (.exit 0, ⟨[(0, isl l), (1, csl g), (8, iv (endG g g.length)), (32, csl g), (33, iv g.length), (34, iv g.length), (35, .p (.bool false))], []⟩) ∧ firstE (spnL g) = 0) ∨
    ∃ st, loopN (loopS (evFn F C0 G0 (d + 3)) C0 G0 0 true [0, 1, 8, 32, 33, 34] c42L0) loopFuel ⟨[(0, isl l), (1, csl g), (8, iv 0), (32, csl g), (33, iv g.length), (34, iv 0)], []⟩ = .ret (.ret, st) ∧ st.env = [(4, .p .nils), (5, iv (firstE (spnL g)))] ∧ firstE (spnL g) ≠ 0 := by
  let inv : Nat → St := fun i => ⟨[(0, isl l), (1, csl g), (8, iv (endG g i)), (32, csl g), (33, iv g.length), (34, iv i)], []⟩
  have key := loop_firstR (step := loopS (evFn F C0 G0 (d + 3)) C0 G0 0 true [0, 1, 8, 32, 33, 34] c42L0) inv (fun i => spn1 (endG g i) (g.getD i (0, 0))) g.length (.exit 0, ⟨(inv g.length).env ++ [(35, .p (.bool false))], []⟩) (fun i st => st.env = [(4, .p .nils), (5, iv (spn1 (endG g i) (g.getD i (0, 0))))])
    (st0 := ⟨[(0, isl l), (1, csl g), (8, iv 0), (32, csl g), (33, iv g.length), (34, iv 0)], []⟩) rfl (fun i hi => by
      have hw := wrap_succ (i := i) (by omega)
      have hlt : i * 2 < g.length * 2 := by omega
      have hlt2 : i * 2 + 2 ≤ g.length * 2 := by omega
      have hdr := cI_drop g i hi
      have hgi : g.getD i (0, 0) = g[i] := by simp [List.getD_eq_getElem?_getD, hi]
      have kw := fun b e => when104 (n := d + 3) (by omega) b e
      have k2 := fun a b => first91_2 (n := d + 3) (by omega) a b
      have hend := endG_succ g i hi
      simp only [hgi, inv, hend]
      unfold spn1 gbad
      generalize endG g i = p at *
      generalize hA : cI g = A at *
      have hAl : A.length = g.length * 2 := by rw [← hA]; exact cI_len' g
      generalize cI (g.drop (i + 1)) = R2 at *
      generalize g[i] = x at *
      obtain ⟨a, b⟩ := x
      simp only at hdr ⊢
      by_cases c1 : a < 0
      · refine ⟨fun he => ?_, fun he => ⟨_, by simp -implicitDefEqProofs [loopS_eq, c42L0, hi, hA, hAl, hlt, hdr, kw, k2, firstE, whenE, c1]; exact rfl, ?_⟩⟩
        · simp [c1, firstE, whenE] at he
        · simp [c1, firstE, whenE]
      · by_cases c2 : b ≤ a
        · refine ⟨fun he => ?_, fun he => ⟨_, by simp -implicitDefEqProofs [loopS_eq, c42L0, hi, hA, hAl, hlt, hdr, kw, k2, firstE, whenE, c1, c2]; exact rfl, ?_⟩⟩
          · simp [c1, c2, firstE, whenE] at he
          · simp [c1, c2, firstE, whenE]
        · by_cases c3 : 100000000 < b
          · refine ⟨fun he => ?_, fun he => ⟨_, by simp -implicitDefEqProofs [loopS_eq, c42L0, hi, hA, hAl, hlt, hdr, kw, k2, firstE, whenE, c1, c2, c3]; exact rfl, ?_⟩⟩
            · simp [c1, c2, c3, firstE, whenE] at he
            · simp [c1, c2, c3, firstE, whenE]
          · by_cases c4 : a < p
            · refine ⟨fun he => ?_, fun he => ⟨_, by simp -implicitDefEqProofs [loopS_eq, c42L0, hi, hA, hAl, hlt, hdr, kw, k2, firstE, whenE, c1, c2, c3, c4]; exact rfl, ?_⟩⟩
              · simp [c1, c2, c3, c4, firstE, whenE] at he
              · simp [c1, c2, c3, c4, firstE, whenE]
            · refine ⟨fun he => ⟨_, by simp -implicitDefEqProofs [loopS_eq, c42L0, hi, hA, hAl, hlt, hdr, kw, k2, firstE, whenE, c1, c2, c3, c4, hw]; exact rfl, ?_⟩, fun he => ?_⟩
              · exact loopS_same (by simp) (by simp)
              · simp [c1, c2, c3, c4, firstE, whenE] at he) (by simp -implicitDefEqProofs [inv, loopS_eq, c42L0]) (by simp) (fuel := loopFuel) (by simp [loopFuel]; omega)
  rcases key with ⟨k1, k2⟩ | ⟨j, st, hj, k1, k2, k3, k4, _⟩
  · exact .inl ⟨k1, k2⟩
  · refine .inr ⟨st, k1, ?_, ?_⟩
    · rw [k2, ← k3]; rfl
    · intro e; exact k4 (by rw [← k3]; exact e)
end Fw
