/- The peak of the forces on a wall: the chapter's and the reference's. -/
import Derived.Test.YtfkacogfieiccaaGreatDoorBaX2
set_option maxHeartbeats 8000000
namespace Fw
open Go
attribute [local irreducible] evCode evOps evOpsD evOper evOperD evOp evFn loopN T.All T.bind callPure callOp opsK opsDK restK seqK blockK loopS setK setQ giveK scalK gcK finish finS rfunK yldK yldB loopK

theorem impulse72 {n : Nat} (hn : 8 ≤ n) (w : List LoadI) (hw : w.length < 1000000) (hw40 : ∀ i, (hi : i < w.length) → w[i].name.length ≤ 40 ∧ w[i].s.length ≤ 65) : RUN n 72 [lol w] = .ret (if wallE w = 0 then .tup [.agg [iv (tot (impL w)).1, iv (tot (impL w)).2], iv 0] else .tup [.agg [iv 0, iv 0], iv (wallE w)]) := by
  obtain ⟨d, rfl⟩ : ∃ d, n = d + 8 := ⟨n - 8, by omega⟩
  rw [RUN, call_eq fe72 _ rfl]
  have h0 := check82 (n := d + 7) (by omega) w hw hw40
  by_cases z0 : wallE w = 0
  · rw [if_pos z0]
    have hwo := wall_of z0
    have h2 := map128 (n := d + 7) (by omega) hwo
    have h3 := total127 (n := d + 7) (by omega) (l := impL w) (by have := hwo.len; simp; omega) (fun x hx => by
      have := impL_in hwo x hx
      unfold InB at *
      omega)
    simp only [csl, impL_length] at h3
    simp -implicitDefEqProofs [c72, h0, z0, h2, h3]
  · rw [if_neg z0]
    have hb : (wallE w != 0) = true := by simpa using z0
    simp -implicitDefEqProofs [c72, h0, hb]

/-- the first index with a number -/
theorem index136 {n : Nat} (hn : 1 ≤ n) {l : List Int} (hl : l.length < 1000000) {a : Nat} (ha : a < l.length) (hv : ∀ q, (hq : q < a) → l[q] ≠ l[a]) : RUN n 136 [isl l, iv l[a]] = .ret (iv a) := by
  obtain ⟨d, rfl⟩ : ∃ d, n = d + 1 := ⟨n - 1, by omega⟩
  rw [RUN, call_eq fe136 _ rfl]
  let v := l[a]
  let e : Nat → Int := fun q => if l.getD q 0 = v then 1 else 0
  let inv : Nat → St := fun i => ⟨[(0, isl l), (1, iv v), (7, iv l.length), (8, iv i)], []⟩
  have key := loop_firstR (step := loopS (evFn F C0 G0 d) C0 G0 0 false [0, 1, 7, 8] c136L0) inv e l.length (.exit 0, ⟨(inv l.length).env ++ [(9, .p (.bool false))], []⟩) (fun i st => st.env = [(4, iv i)])
    (st0 := ⟨[(0, isl l), (1, iv v), (7, iv l.length), (8, iv 0)], []⟩) rfl (fun i hi => by
      have hlt : (i : Int) < l.length := by omega
      have hgo : l[i]? = some l[i] := List.getElem?_eq_getElem hi
      have hei : e i = if l[i] = v then 1 else 0 := by simp only [e, getD_i hi]
      rw [hei]
      by_cases c : l[i] = v
      · have c' : (v == l[i]) = true := by simpa using c.symm
        refine ⟨fun h => absurd h (by simp [c]), fun _ => ⟨?_, ?h1, ?h2⟩⟩
        case h1 =>
          simp -implicitDefEqProofs [inv, loopS_eq, c136L0, hi, hlt, c']
          exact rfl
        case h2 => rfl
      · have c' : (v == l[i]) = false := by simpa using fun h => c h.symm
        refine ⟨fun _ => ⟨inv (i + 1), ?h3, rfl⟩, fun h => absurd (by simp [c]) h⟩
        case h3 => simp -implicitDefEqProofs [inv, loopS_eq, c136L0, hi, hlt, c', wrap_succ (i := i) (by omega)]) (by simp -implicitDefEqProofs [inv, loopS_eq, c136L0]) (by simp) (fuel := loopFuel) (by simp [loopFuel]; omega)
  have hea : e a = 1 := by simp only [e, getD_i ha, v, if_true]
  simp -implicitDefEqProofs [c136]
  rcases key with ⟨k1, k2⟩ | ⟨j, st, hj, k1, kr, k2, k3, k4⟩
  · have := all_zero k2 a ha
    omega
  · have hja : j = a := by
      by_cases c : j < a
      · have h1 := hv j c
        have h2 : e j = 0 := by simp only [e, getD_i hj, v, if_neg h1]
        exact absurd h2 k3
      · by_cases c2 : a < j
        · have := k4 a c2; omega
        · omega
    subst hja
    obtain ⟨env, sto⟩ := st
    simp only at kr
    subst kr
    simp only [v] at k1
    rw [k1]
    simp -implicitDefEqProofs

/-- the greatest of the first numbers, and its first index -/
def pkF (l : List Int) : Nat → Int × Nat
  | 0 => (l.getD 0 0, 0)
  | k + 1 => if (pkF l k).1 < l.getD (k + 1) 0 then (l.getD (k + 1) 0, k + 1) else pkF l k
theorem pkF_hi (l : List Int) : ∀ k, (pkF l k).1 = hiF l k := by
  intro k
  induction k with
  | zero => rfl
  | succ k ih =>
    simp only [pkF, hiF, ← ih]
    split <;> (try simp only) <;> omega
theorem pkF_at (l : List Int) : ∀ k, (pkF l k).2 ≤ k ∧ (pkF l k).1 = l.getD (pkF l k).2 0 ∧ (∀ q, q ≤ k → l.getD q 0 ≤ (pkF l k).1) ∧ ∀ q, q < (pkF l k).2 → l.getD q 0 < (pkF l k).1 := by
  intro k
  induction k with
  | zero =>
    refine ⟨Nat.le_refl _, rfl, fun q hq => ?_, fun q hq => absurd hq (Nat.not_lt_zero _)⟩
    rw [show q = 0 by omega]
    exact Int.le_refl _
  | succ k ih =>
    obtain ⟨h1, h2, h3, h4⟩ := ih
    simp only [pkF]
    by_cases c : (pkF l k).1 < l.getD (k + 1) 0
    · rw [if_pos c]
      refine ⟨Nat.le_refl _, rfl, fun q hq => ?_, fun q hq => ?_⟩
      · by_cases e : q = k + 1
        · subst e; exact Int.le_refl _
        · have := h3 q (by omega); simp only; omega
      · have := h3 q (by simp only at hq; omega); simp only; omega
    · rw [if_neg c]
      refine ⟨by omega, h2, fun q hq => ?_, h4⟩
      by_cases e : q = k + 1
      · subst e; omega
      · exact h3 q (by omega)

def pkA (w : List LoadI) : Int × Nat := if wallE w = 0 then pkF (forL w) (wid w - 1) else (0, 0)
theorem peak73 {n : Nat} (hn : 8 ≤ n) (w : List LoadI) (hw : w.length < 1000000) (hw40 : ∀ i, (hi : i < w.length) → w[i].name.length ≤ 40 ∧ w[i].s.length ≤ 65) : RUN n 73 [lol w] = .ret (.tup [iv (pkA w).1, iv (pkA w).2, iv (wallE w)]) := by
  obtain ⟨d, rfl⟩ : ∃ d, n = d + 8 := ⟨n - 8, by omega⟩
  rw [RUN, call_eq fe73 _ rfl]
  have h0 := check82 (n := d + 7) (by omega) w hw hw40
  by_cases z0 : wallE w = 0
  · have hwo := wall_of z0
    have hwd := wid_ok hwo
    have h1 := forces134 (n := d + 7) (by omega) hwo
    have h2 := max135 (n := d + 7) (by omega) (forL w) (by simp; omega) (by simp; omega)
    simp only [isl, forL_length] at h2
    have hp := pkF_at (forL w) (wid w - 1)
    have hh := pkF_hi (forL w) (wid w - 1)
    have e1 : pkA w = pkF (forL w) (wid w - 1) := by simp [pkA, z0]
    rw [e1]
    generalize pkF (forL w) (wid w - 1) = P at *
    have hat : P.2 < (forL w).length := by simp; omega
    have hv : P.1 = (forL w)[P.2] := by rw [hp.2.1, getD_i hat]
    have h3 := index136 (n := d + 7) (by omega) (l := forL w) (by simp; omega) hat (fun q hq => by
      have := hp.2.2.2 q hq
      rw [getD_i (by omega)] at this
      rw [← hv]
      omega)
    rw [← hv] at h3
    simp only [isl, forL_length] at h3
    rw [← hh] at h2
    simp -implicitDefEqProofs [c73, h0, z0, h1, h2, h3]
  · have e1 : pkA w = (0, 0) := by simp [pkA, z0]
    have hb : (wallE w != 0) = true := by simpa using z0
    rw [e1]
    simp -implicitDefEqProofs [c73, h0, hb]

theorem peak78 {n : Nat} (hn : 2 ≤ n) {w : List LoadI} (hwo : WallOk w) : RUN n 78 [lol w] = .ret (.tup [iv (pkF (forL w) (wid w - 1)).1, iv (pkF (forL w) (wid w - 1)).2]) := by
  obtain ⟨d, rfl⟩ : ∃ d, n = d + 2 := ⟨n - 2, by omega⟩
  rw [RUN, call_eq fe78 _ rfl]
  have hl := hwo.len
  have hwd := wid_ok hwo
  have hl0 : 0 < w.length := hl.1
  have h50 : ∀ q, (rowC lc6 w)[5]'q = .sl (pI w[0].s) w[0].s.length := fun q => by
    have := wall_five (l := w) hl0
    rw [List.getElem?_eq_getElem q] at this
    exact Option.some.inj this
  have hlp6 : 5 < w.length * 6 := by omega
  have hwid : w[0].s.length = wid w := by unfold wid; rw [getD_w hl0]
  have h1 := fun (j : Nat) (hj : j < wid w) => force142 (n := d + 1) (by omega) hwo (j := j) hj
  have hg : ∀ j, j < wid w → forI w j = (forL w).getD j 0 := fun j hj => by
    have : j < (forL w).length := by simpa using hj
    rw [getD_i this, forL_get this]
  have h10 := h1 0 (by omega)
  rw [hg 0 (by omega)] at h10
  have hz0 : ((0 : Nat) : Int) = 0 := rfl
  simp only [hz0] at h10
  obtain ⟨N, hN⟩ : ∃ N, N + 1 = wid w := ⟨wid w - 1, by omega⟩
  have hN' : wid w - 1 = N := by omega
  rw [hN']
  let inv : Nat → St := fun k => ⟨[(0, lol w), (4, iv (pkF (forL w) k).1), (5, iv (pkF (forL w) k).2), (6, iv ((k + 1 : Nat) : Int))], []⟩
  have hend : (N : Int) + 1 = (wid w : Int) := by omega
  have key : loopN (loopS (evFn F C0 G0 (d + 1)) C0 G0 0 false [0, 4, 5, 6] c78L0) loopFuel ⟨[(0, lol w), (4, iv ((forL w).getD 0 0)), (5, iv 0), (6, iv 1)], []⟩ = .ret (.exit 0, ⟨(inv N).env ++ [(16, .p (.bool false))], []⟩) := by
    refine loop_run' inv N (by simp) rfl ?_ (by simp -implicitDefEqProofs [inv, loopS_eq, c78L0, cW_len, hl0, hlp6, h50, hwid, hend]) (by simp [loopFuel]; omega)
    intro k hk
    have hk1 : k + 1 < wid w := by omega
    have hlt : (k : Int) + 1 < wid w := by omega
    have hwk2 : IntKind.i64.wrap ((k : Int) + 1 + 1) = (k : Int) + 1 + 1 := wrap64 (by omega) (by omega)
    have h2 := h1 (k + 1) hk1
    rw [hg (k + 1) hk1, show ((k + 1 : Nat) : Int) = (k : Int) + 1 from by omega] at h2
    have hs : pkF (forL w) (k + 1) = if (pkF (forL w) k).1 < (forL w).getD (k + 1) 0 then ((forL w).getD (k + 1) 0, k + 1) else pkF (forL w) k := rfl
    have hi0 : inv k = ⟨[(0, lol w), (4, iv (pkF (forL w) k).1), (5, iv (pkF (forL w) k).2), (6, iv ((k + 1 : Nat) : Int))], []⟩ := rfl
    have hi1 : inv (k + 1) = ⟨[(0, lol w), (4, iv (pkF (forL w) (k + 1)).1), (5, iv (pkF (forL w) (k + 1)).2), (6, iv ((k + 1 + 1 : Nat) : Int))], []⟩ := rfl
    rw [hi0, hi1, hs]
    generalize pkF (forL w) k = P at *
    generalize (forL w).getD (k + 1) 0 = v at *
    by_cases c : P.1 < v
    · rw [if_pos c]
      refine ⟨?_, ?h1, ?h2⟩
      case h1 =>
        simp -implicitDefEqProofs [loopS_eq, c78L0, cW_len, hl0, hlp6, h50, hwid, hlt, h2, c, hwk2]
        exact rfl
      case h2 => simp
    · rw [if_neg c]
      refine ⟨?_, ?h3, ?h4⟩
      case h3 =>
        simp -implicitDefEqProofs [loopS_eq, c78L0, cW_len, hl0, hlp6, h50, hwid, hlt, h2, c, hwk2]
        exact rfl
      case h4 => simp
  simp only [List.getD_eq_getElem?_getD] at key h10
  simp -implicitDefEqProofs [c78, h10, key, inv]
end Fw
