/- Kernels and intervals: their errors, the chapter's and the reference's. -/
import Derived.Test.YtbaedpfgjpkabaaGreatDoorChK
set_option maxHeartbeats 8000000
namespace Fw
open Go
attribute [local irreducible] evCode evOps evOpsD evOper evOperD evOp evFn loopN T.All T.bind callPure callOp opsK opsDK restK seqK blockK loopS setK setQ giveK scalK gcK finish finS rfunK yldK yldB loopK

/-- a loop that ends at the first error -/
theorem loop_errs {step : St → T (Ex × St)} (inv : Nat → St) (es : List Int) (ok : Ex × St) (bad : Int → Ex × St) {st0 : St} (h0 : step st0 = step (inv 0))
    (hstep : ∀ i (hi : i < es.length), (es[i] = 0 → ∃ st1, step (inv i) = .ret (.normal, st1) ∧ step st1 = step (inv (i + 1))) ∧ (es[i] ≠ 0 → step (inv i) = .ret (bad es[i]))) (hbad : ∀ e, (bad e).1 ≠ .normal) (hend : step (inv es.length) = .ret ok) (hok : ok.1 ≠ .normal) {fuel : Nat} (hf : es.length < fuel) :
    loopN step fuel st0 = .ret (if firstE es = 0 then ok else bad (firstE es)) := by
  have h := loop_rec' (step := step) inv (fun i => if firstE (es.drop i) = 0 then ok else bad (firstE (es.drop i))) es.length h0 (fun i hi => by
    have hd : firstE (es.drop i) = if es[i] = 0 then firstE (es.drop (i + 1)) else es[i] := by rw [List.drop_eq_getElem_cons hi]; rfl
    by_cases he : es[i] = 0
    · refine .inl ⟨(hstep i hi).1 he, ?_⟩
      simp only [hd, he, if_true]
    · refine .inr ⟨?_, ?_⟩
      · simp only [hd, he, if_false]; exact (hstep i hi).2 he
      · simp only [hd, he, if_false]; exact hbad _) (by
    simp only [List.drop_length, firstE, if_true]
    exact ⟨hend, hok⟩) hf
  simpa using h

/-- the same, where what it ends with is told by what it is like -/
theorem loop_errsQ {step : St → T (Ex × St)} (inv : Nat → St) (es : List Int) (ok : Ex × St) (B : Int → Ex × St → Prop) {st0 : St} (h0 : step st0 = step (inv 0))
    (hstep : ∀ i (hi : i < es.length), (es[i] = 0 → ∃ st1, step (inv i) = .ret (.normal, st1) ∧ step st1 = step (inv (i + 1))) ∧ (es[i] ≠ 0 → ∃ r, step (inv i) = .ret r ∧ r.1 ≠ .normal ∧ B es[i] r)) (hend : step (inv es.length) = .ret ok) (hok : ok.1 ≠ .normal) {fuel : Nat} (hf : es.length < fuel) :
    ∃ r, loopN step fuel st0 = .ret r ∧ (firstE es = 0 → r = ok) ∧ (firstE es ≠ 0 → B (firstE es) r) := by
  have : ∀ k, k ≤ es.length → ∀ fuel st0, step st0 = step (inv (es.length - k)) → k < fuel → ∃ r, loopN step fuel st0 = .ret r ∧ (firstE (es.drop (es.length - k)) = 0 → r = ok) ∧ (firstE (es.drop (es.length - k)) ≠ 0 → B (firstE (es.drop (es.length - k))) r) := by
    intro k
    induction k with
    | zero =>
      intro _ fuel st0 h0 hf
      obtain ⟨fuel, rfl⟩ : ∃ k, fuel = k + 1 := ⟨fuel - 1, by omega⟩
      refine ⟨ok, ?_, fun _ => rfl, fun h => absurd (by simp [firstE]) h⟩
      rw [loopN_succ, h0, Nat.sub_zero, hend, bind_ret]
      obtain ⟨e, st⟩ := ok
      cases e with
      | normal => exact absurd rfl hok
      | exit id => exact loopK_exit ..
      | ret => exact loopK_ret ..
    | succ k ih =>
      intro hk fuel st0 h0 hf
      obtain ⟨fuel, rfl⟩ : ∃ k, fuel = k + 1 := ⟨fuel - 1, by omega⟩
      have hi : es.length - (k + 1) < es.length := by omega
      have hd : firstE (es.drop (es.length - (k + 1))) = if es[es.length - (k + 1)] = 0 then firstE (es.drop (es.length - k)) else es[es.length - (k + 1)] := by
        rw [List.drop_eq_getElem_cons hi, show es.length - (k + 1) + 1 = es.length - k by omega]; rfl
      rw [loopN_succ, h0, hd]
      by_cases he : es[es.length - (k + 1)] = 0
      · obtain ⟨st1, h1, h2⟩ := (hstep _ hi).1 he
        rw [h1, bind_ret, loopK_normal, if_pos he]
        exact ih (by omega) fuel st1 (by rw [h2, show es.length - (k + 1) + 1 = es.length - k by omega]) (by omega)
      · obtain ⟨r, h1, h2, h3⟩ := (hstep _ hi).2 he
        rw [h1, bind_ret, if_neg he]
        refine ⟨r, ?_, fun h => absurd h he, fun _ => h3⟩
        obtain ⟨e, st⟩ := r
        cases e with
        | normal => exact absurd rfl h2
        | exit id => exact loopK_exit ..
        | ret => exact loopK_ret ..
  have h := this es.length (Nat.le_refl _) fuel st0 (by rw [Nat.sub_self]; exact h0) hf
  simpa using h

def sumW (k : List Int) : Nat → Int
  | 0 => 0
  | i + 1 => IntKind.i64.wrap (sumW k i + k.getD i 0)

theorem sum124w {n : Nat} (hn : 1 ≤ n) (k : List Int) (hl : k.length < 1000000) : RUN n 124 [isl k] = .ret (iv (sumW k k.length)) := by
  obtain ⟨d, rfl⟩ : ∃ d, n = d + 1 := ⟨n - 1, by omega⟩
  rw [RUN, call_eq fe124 _ rfl]
  let inv : Nat → St := fun i => ⟨[(3, iv (sumW k i)), (6, isl k), (7, iv k.length), (8, iv i)], []⟩
  simp [c124]
  rw [loop_run inv k.length (e := .exit 0) (st' := ⟨(inv k.length).env ++ [(9, .p (.bool false))], (inv k.length).sto⟩) (by simp)]
  · simp [inv]
  · rfl
  · intro i hi
    have hg : k.getD i 0 = k[i] := by simp [List.getD_eq_getElem?_getD, List.getElem?_eq_getElem hi]
    have hs : sumW k (i + 1) = IntKind.i64.wrap (sumW k i + k[i]) := by simp only [sumW, hg]
    have w2 := wrap_succ (i := i) (by omega)
    simp [inv, loopS_eq, c124L0, hi, hs, w2]
  · simp [inv, loopS_eq, c124L0]
  · simp [loopFuel]; omega

theorem div126 {n : Nat} (hn : 1 ≤ n) (k : List Int) (hl : k.length < 1000000) : RUN n 126 [isl k] = .ret (iv (sumW k k.length)) := by
  obtain ⟨d, rfl⟩ : ∃ d, n = d + 1 := ⟨n - 1, by omega⟩
  rw [RUN, call_eq fe126 _ rfl]
  let inv : Nat → St := fun i => ⟨[(0, isl k), (3, iv (sumW k i)), (4, iv i)], []⟩
  simp [c126]
  rw [loop_run inv k.length (e := .exit 0) (st' := ⟨(inv k.length).env ++ [(8, .p (.bool false))], (inv k.length).sto⟩) (by simp)]
  · simp [inv]
  · rfl
  · intro i hi
    have hg : k.getD i 0 = k[i] := by simp [List.getD_eq_getElem?_getD, List.getElem?_eq_getElem hi]
    have hs : sumW k (i + 1) = IntKind.i64.wrap (sumW k i + k[i]) := by simp only [sumW, hg]
    have w2 := wrap_succ (i := i) (by omega)
    simp [inv, loopS_eq, c126L0, hi, hs, w2]
  · simp [inv, loopS_eq, c126L0]
  · simp [loopFuel]; omega

/-! the error of a kernel -/
def kerE1 (k : List Int) : Int := firstE [whenE ((k.length : Int) == 0) 12, whenE (decide ((7 : Int) < k.length)) 5]
def kerE2 (k : List Int) : Int := firstE [firstE (k.map (rangeE (-100) 100)), whenE (decide (sumW k k.length ≤ 0)) 6]
def kerE (k : List Int) : Int := if kerE1 k = 0 then kerE2 k else kerE1 k

theorem map131 {d f : Nat} (l : List Int) (hl : l.length < 1000000) (g : Int → Int) (hg : ∀ x ∈ l, callPure (evFn F C0 G0 d) C0 (.fn f) [iv x] = .ret (iv (g x))) : RUN (d + 1) 131 [isl l, .p (.clo f [] [])] = .ret (.own (pI (l.map g)) l.length 1) := by
  have hm := map_ok (C := C0) (G := G0) (d := d) fc131 (by decide) (fun _ => rfl) (pI l) f [] (fun p => match p with | .int .i64 x => .int .i64 (g x) | _ => .int .i64 0) (by simpa using hl) (by simp) (fun c hc => by
    simp only [pI, List.mem_map] at hc
    obtain ⟨x, hx, rfl⟩ := hc
    exact ⟨hg x hx, rfl⟩)
  have : (pI l).map (fun p => match p with | .int .i64 x => .int .i64 (g x) | _ => .int .i64 0) = pI (l.map g) := by simp [pI]
  rw [this] at hm
  simpa using hm

theorem ker47 {n : Nat} (hn : 5 ≤ n) (k : List Int) (hl : k.length < 1000000) : RUN n 47 [isl k] = .ret (iv (kerE k)) := by
  obtain ⟨d, rfl⟩ : ∃ d, n = d + 5 := ⟨n - 5, by omega⟩
  rw [RUN, call_eq fe47 _ rfl]
  have k3 := fun b e => when104 (n := d + 4) (by omega) b e
  have k4 := fun a b => first103_2 (n := d + 4) (by omega) a b
  have k5 := sum124w (n := d + 4) (by omega) k hl
  have k6 := map131 (d := d + 3) k hl (f := 132) (rangeE (-100) 100) (fun x _ => by
    have kw := within111 (n := d + 2) (by omega) x (-100) 100
    rw [call_eq (d := d + 2) fe132 _ rfl]
    simp -implicitDefEqProofs [c132, kw])
  have k7 := first103 (n := d + 4) (by omega) (k.map (rangeE (-100) 100)) (by simpa using hl)
  simp only [List.length_map] at k7
  have e1 : kerE1 k = firstE [whenE ((k.length : Int) == 0) 12, whenE (decide ((7 : Int) < k.length)) 5] := rfl
  have e2 : kerE2 k = firstE [firstE (k.map (rangeE (-100) 100)), whenE (decide (sumW k k.length ≤ 0)) 6] := rfl
  by_cases z : kerE1 k = 0
  · have hz := z
    rw [e1] at hz
    have : kerE k = kerE2 k := by rw [kerE, if_pos z]
    rw [this, e2]
    simp -implicitDefEqProofs [c47, k3, k4, k5, k6, k7, hz]
  · have : kerE k = kerE1 k := by rw [kerE, if_neg z]
    rw [this]
    have hz := z
    rw [e1] at hz
    simp -implicitDefEqProofs [c47, k3, k4, hz, e1]

theorem ker42 {n : Nat} (hn : 3 ≤ n) (k : List Int) (hl : k.length < 1000000) : RUN n 42 [isl k] = .ret (iv (kerE k)) := by
  obtain ⟨d, rfl⟩ : ∃ d, n = d + 3 := ⟨n - 3, by omega⟩
  rw [RUN, call_eq fe42 _ rfl]
  have k3 := fun b e => when109 (n := d + 2) (by omega) b e
  have k4 := fun a b => first29_2 (n := d + 2) (by omega) a b
  have k5 := div126 (n := d + 2) (by omega) k hl
  have e1 : kerE1 k = firstE [whenE ((k.length : Int) == 0) 12, whenE (decide ((7 : Int) < k.length)) 5] := rfl
  by_cases z : kerE1 k = 0
  · have hz := z
    rw [e1] at hz
    have : kerE k = kerE2 k := by rw [kerE, if_pos z]
    rw [this]
    let inv : Nat → St := fun i => ⟨[(0, isl k), (4, iv i)], []⟩
    simp -implicitDefEqProofs [c42, k3, k4, hz]
    rw [loop_errs (st0 := ⟨[(0, isl k), (4, .p (.int .i64 0))], []⟩) inv (k.map (rangeE (-100) 100)) (.exit 0, ⟨(inv k.length).env ++ [(22, .p (.bool false))], []⟩) (fun e => (.ret, ⟨[(2, iv e)], []⟩)) (by rfl)]
    · by_cases y : firstE (k.map (rangeE (-100) 100)) = 0
      · simp -implicitDefEqProofs [y, inv, k5, k3, kerE2, firstE]
      · simp -implicitDefEqProofs [y, kerE2, firstE]
    · intro i hi
      simp only [List.length_map] at hi
      have hx : k[i]? = some k[i] := List.getElem?_eq_getElem hi
      have kr := range108 (n := d + 2) (by omega) k[i] (-100) 100
      have w2 := wrap_succ (i := i) (by omega)
      simp only [List.getElem_map]
      refine ⟨fun he => ⟨_, ?_, rfl⟩, fun he => ?_⟩
      · simp -implicitDefEqProofs [inv, loopS_eq, c42L0, hi, kr, he, w2]
      · simp -implicitDefEqProofs [inv, loopS_eq, c42L0, hi, kr, he]
    · intro e; simp
    · simp -implicitDefEqProofs [inv, loopS_eq, c42L0]
    · simp
    · simp [loopFuel]; omega
  · have : kerE k = kerE1 k := by rw [kerE, if_neg z]
    rw [this]
    have hz := z
    rw [e1] at hz
    simp -implicitDefEqProofs [c42, k3, k4, hz, e1]

theorem sumW_eq {k : List Int} (h : ∀ x ∈ k, -100 ≤ x ∧ x ≤ 100) (hl : k.length ≤ 7) : ∀ i, i ≤ k.length → sumW k i = sumN (fun i => k.getD i 0) i := by
  intro i
  induction i with
  | zero => intro _; rfl
  | succ i ih =>
    intro hi
    have hb := sumI_part h (i + 1)
    simp only [sumW, sumN, ih (by omega)] at *
    exact wrap64 (by omega) (by omega)

theorem rangeE_all {lo hi : Int} {k : List Int} : firstE (k.map (rangeE lo hi)) = 0 ↔ ∀ x ∈ k, lo ≤ x ∧ x ≤ hi := by
  rw [firstE_zero]
  constructor
  · intro h x hx
    have := h (rangeE lo hi x) (List.mem_map.2 ⟨x, hx, rfl⟩)
    simp only [rangeE] at this
    split at this
    · cases this
    · omega
  · intro h e he
    obtain ⟨x, hx, rfl⟩ := List.mem_map.1 he
    have := h x hx
    simp only [rangeE]
    rw [if_neg (by omega)]

theorem ker_of {k : List Int} (h : kerE k = 0) : KerOk k := by
  unfold kerE at h
  split at h
  · rename_i h1
    simp only [kerE1, firstE_zero, List.mem_cons, List.not_mem_nil, or_false, forall_eq_or_imp, forall_eq, whenE] at h1
    have h' := firstE_zero.1 h
    have a := h' _ (List.mem_cons_self)
    have b := h' (whenE (decide (sumW k k.length ≤ 0)) 6) (by simp)
    have hr := rangeE_all.1 a
    have l1 : 0 < k.length := by
      have := h1.1
      split at this
      · cases this
      · rename_i q; rw [beq_iff_eq] at q; omega
    have l2 : k.length ≤ 7 := by
      have := h1.2
      split at this
      · cases this
      · rename_i q; simp at q; omega
    refine ⟨l1, l2, hr, ?_⟩
    rw [sumW_eq hr l2 k.length (Nat.le_refl _)] at b
    simp only [whenE] at b
    split at b
    · cases b
    · rename_i q
      rw [decide_eq_true_eq] at q
      simp only [sumI]; omega
  · contradiction

theorem ker_sum {k : List Int} (h : KerOk k) : sumW k k.length = sumI k := sumW_eq h.2.2.1 h.2.1 _ (Nat.le_refl _)

/-! the error of intervals -/
def manyE (m : Int) : Int := firstE [whenE (m == 0) 12, whenE (decide (4096 < m)) 5]
abbrev ivX : Int × Int → Int := ivE (-200000) 200000
def ivsE (l : List (Int × Int)) : Int := firstE [manyE l.length, firstE (l.map ivX)]

theorem many134 {n : Nat} (hn : 2 ≤ n) (m : Int) : RUN n 134 [iv m] = .ret (iv (manyE m)) := by
  obtain ⟨d, rfl⟩ : ∃ d, n = d + 2 := ⟨n - 2, by omega⟩
  rw [RUN, call_eq fe134 _ rfl]
  have k3 := fun b e => when104 (n := d + 1) (by omega) b e
  have k4 := fun a b => first103_2 (n := d + 1) (by omega) a b
  simp -implicitDefEqProofs [c134, k3, k4, manyE]

theorem check133 {n : Nat} (hn : 4 ≤ n) (x : Int × Int) : RUN n 133 [.agg [iv x.1, iv x.2]] = .ret (iv (ivX x)) := by
  obtain ⟨d, rfl⟩ : ∃ d, n = d + 4 := ⟨n - 4, by omega⟩
  rw [RUN, call_eq fe133 _ rfl]
  have k := interval121 (n := d + 3) (by omega) x (-200000) 200000
  simp -implicitDefEqProofs [c133, k]

theorem map135 {n : Nat} (hn : 5 ≤ n) (l : List (Int × Int)) (hl : l.length < 1000000) : RUN n 135 [csl l, .p (.clo 133 [] [])] = .ret (.own (pI (l.map ivX)) l.length 1) := by
  obtain ⟨d, rfl⟩ : ∃ d, n = d + 5 := ⟨n - 5, by omega⟩
  rw [RUN, call_eq fe135 _ rfl]
  let inv : Nat → St := fun i => ⟨[(1, .p (.clo 133 [] [])), (5, .sl 0 i 0 i), (8, csl l), (9, iv l.length), (10, iv i)], [(0, .arr (pI ((l.map ivX).take i)) i 1)]⟩
  have htake : (l.map ivX).take l.length = l.map ivX := List.take_of_length_le (by simp)
  simp -implicitDefEqProofs [c135]
  rw [loop_run' inv l.length (e := .exit 0) (st' := ⟨(inv l.length).env ++ [(11, .p (.bool false))], (inv l.length).sto⟩) (by simp)]
  · simp -implicitDefEqProofs [inv, htake]
  · rfl
  · intro i hi
    have hlim : i + 1 ≤ lim := by simp only [lim]; omega
    have k := check133 (n := d + 4) (by omega) l[i]
    have hr : pI ((l.map ivX).take (i + 1)) = pI ((l.map ivX).take i) ++ [.int .i64 (ivX l[i])] := by
      rw [pI_snoc, List.take_add_one]; simp [hi]
    have hm : min i l.length = i := by omega
    have hlt : i * 2 < l.length * 2 := by omega
    have w := wrap_succ (i := i) (by omega)
    generalize ivX l[i] = e at *
    refine ⟨?_, ?h1, ?h2⟩
    case h1 =>
      simp -implicitDefEqProofs [inv, loopS_eq, c135L0, hi, hlt, cI_drop l i hi, k, hlim, hm, w]
      exact rfl
    case h2 => exact loopS_same rfl (by simp [inv, hr])
  · simp -implicitDefEqProofs [inv, loopS_eq, c135L0]
  · simp [loopFuel]; omega

theorem ivs_of {l : List (Int × Int)} (h : ivsE l = 0) : 0 < l.length ∧ l.length ≤ 4096 ∧ IvOk l := by
  simp only [ivsE, manyE, firstE_zero, List.mem_cons, List.not_mem_nil, or_false, forall_eq_or_imp, forall_eq, whenE] at h
  obtain ⟨⟨h1, h2⟩, h3⟩ := h
  refine ⟨?_, ?_, fun x hx => ?_⟩
  · split at h1
    · cases h1
    · rename_i q; rw [beq_iff_eq] at q; omega
  · split at h2
    · cases h2
    · rename_i q; simp at q; omega
  · have := h3 (ivX x) (List.mem_map.2 ⟨x, hx, rfl⟩)
    simp only [ivE, firstE_zero, List.mem_cons, List.not_mem_nil, or_false, forall_eq_or_imp, forall_eq, rangeE, whenE] at this
    obtain ⟨a, b, c⟩ := this
    split at a
    · cases a
    · split at b
      · cases b
      · split at c
        · cases c
        · rename_i q; simp at q; omega

theorem ints39 {n : Nat} (hn : 1 ≤ n) (l : List Int) (hl : l.length < 1000000) : RUN n 39 [isl l] = .ret (.own (pI l) l.length 1) := by
  obtain ⟨d, rfl⟩ : ∃ d, n = d + 1 := ⟨n - 1, by omega⟩
  rw [RUN, call_eq fe39 _ rfl]
  have hlim : l.length ≤ lim := by simp only [lim]; omega
  by_cases h : l.length = 0
  · have : l = [] := List.eq_nil_of_length_eq_zero h
    subst this
    simp -implicitDefEqProofs [c39, lim]
  · simp -implicitDefEqProofs [c39, hlim, h]

theorem intervals52 {n : Nat} (hn : 1 ≤ n) (l : List (Int × Int)) (hl : l.length < 1000000) : RUN n 52 [csl l] = .ret (.own (cI l) l.length 2) := by
  obtain ⟨d, rfl⟩ : ∃ d, n = d + 1 := ⟨n - 1, by omega⟩
  rw [RUN, call_eq fe52 _ rfl]
  have hlim : l.length ≤ lim := by simp only [lim]; omega
  by_cases h : l.length = 0
  · have : l = [] := List.eq_nil_of_length_eq_zero h
    subst this
    simp -implicitDefEqProofs [c52, lim, cI]
  · simp -implicitDefEqProofs [c52, hlim, h]

theorem short37 {n : Nat} (hn : 1 ≤ n) (k : List Int) : RUN n 37 [isl k] = .ret (.p (.bool (decide (k.length ≤ 8)))) := by
  obtain ⟨d, rfl⟩ : ∃ d, n = d + 1 := ⟨n - 1, by omega⟩
  rw [RUN, call_eq fe37 _ rfl]
  have : decide ((k.length : Int) ≤ 8) = decide (k.length ≤ 8) := by congr 1; simp; omega
  simp -implicitDefEqProofs [c37, this]

theorem ker_iff {k : List Int} : kerE k = 0 ↔ KerOk k := by
  refine ⟨ker_of, fun h => ?_⟩
  have h1 : kerE1 k = 0 := by
    have a := h.1
    have b := h.2.1
    have c : ((k.length : Int) == 0) = false := by rw [beq_eq_false_iff_ne]; omega
    have e : decide ((7 : Int) < k.length) = false := by simp; omega
    simp [kerE1, c, e, whenE, firstE]
  have h2 : kerE2 k = 0 := by
    have hr := rangeE_all.2 h.2.2.1
    have hs := h.2.2.2
    have e : decide (sumI k ≤ 0) = false := by simp; omega
    simp [kerE2, hr, ker_sum h, e, whenE, firstE]
  rw [kerE, if_pos h1, h2]
theorem ivX_zero {x : Int × Int} : ivX x = 0 ↔ -200000 ≤ x.1 ∧ x.1 ≤ x.2 ∧ x.2 ≤ 200000 := by
  simp only [ivX, ivE, firstE_zero, List.mem_cons, List.not_mem_nil, or_false, forall_eq_or_imp, forall_eq, rangeE, whenE]
  constructor
  · rintro ⟨a, b, c⟩
    split at a
    · cases a
    · split at b
      · cases b
      · split at c
        · cases c
        · rename_i q; simp at q; omega
  · rintro ⟨a, b, c⟩
    have h1 : ¬ (x.1 < -200000 ∨ 200000 < x.1) := by omega
    have h2 : ¬ (x.2 < -200000 ∨ 200000 < x.2) := by omega
    have h3 : ¬ x.2 < x.1 := by omega
    simp [h1, h2, h3]
theorem ivs_iff {l : List (Int × Int)} : ivsE l = 0 ↔ (0 < l.length ∧ l.length ≤ 4096 ∧ IvOk l) := by
  refine ⟨ivs_of, fun ⟨a, b, c⟩ => ?_⟩
  have h1 : ((l.length : Int) == 0) = false := by rw [beq_eq_false_iff_ne]; omega
  have h2 : decide ((4096 : Int) < l.length) = false := by simp; omega
  have h3 : firstE (l.map ivX) = 0 := firstE_zero.2 fun e he => by
    obtain ⟨x, hx, rfl⟩ := List.mem_map.1 he
    exact ivX_zero.2 (c x hx)
  simp [ivsE, manyE, h1, h2, h3, whenE, firstE]
end Fw
