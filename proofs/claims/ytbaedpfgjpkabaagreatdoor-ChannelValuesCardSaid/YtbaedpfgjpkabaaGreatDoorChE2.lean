/- The small functions that Enclosed calls, whatever the contracts are. -/
import Derived.Test.YtbaedpfgjpkabaaGreatDoorChE1
set_option maxHeartbeats 8000000
namespace Fw
open Go
attribute [local irreducible] evCode evOps evOpsD evOper evOperD evOp evFn loopN T.All T.bind callPure callOp opsK opsDK restK seqK blockK loopS setK setQ giveK scalK gcK finish finS rfunK yldK yldB loopK
section
variable {C : Nat → List AVal → Option (T AVal)} {G : Nat → Option (List PVal)} {d : Nat}

theorem within_zero (h1 : ∀ as, C 111 as = none) (h2 : ∀ as, C 104 as = none) {x lo hi : Int} (a : lo ≤ x) (b : x ≤ hi) : callPure (evFn F C G (d + 2)) C (.fn 111) [.p (.int .i64 x), .p (.int .i64 lo), .p (.int .i64 hi)] = .ret (.p (.int .i64 0)) := by
  rw [call_eq fe111 _ (h1 _)]
  have hw := fun b e => when_ok (G := G) (d := d) h2 b e
  have a' : ¬ x < lo := by omega
  have b' : ¬ hi < x := by omega
  simp [c111, a', b', hw]

theorem first_zero (h1 : ∀ as, C 103 as = none) (l : List Int) (hl : l.length < 1000000) (hz : ∀ x ∈ l, x = 0) : callPure (evFn F C G (d + 1)) C (.fn 103) [.p (.sl (pI l) l.length)] = .ret (.p (.int .i64 0)) := by
  rw [first_ok (m103 ▸ fe103) h1 l hl]
  have : firstE l = 0 := by
    induction l with
    | nil => rfl
    | cons e r ih =>
      simp only [firstE, hz e List.mem_cons_self, if_true]
      exact ih (by simp at hl; omega) fun x hx => hz x (List.mem_cons_of_mem _ hx)
  rw [this]

theorem first_zero2 (h1 : ∀ as, C 103 as = none) : callPure (evFn F C G (d + 1)) C (.fn 103) [.p (.sl [.int .i64 0, .int .i64 0] 2)] = .ret (.p (.int .i64 0)) := first_zero h1 [0, 0] (by simp) (by simp)
theorem first_zero3 (h1 : ∀ as, C 103 as = none) : callPure (evFn F C G (d + 1)) C (.fn 103) [.p (.sl [.int .i64 0, .int .i64 0, .int .i64 0] 3)] = .ret (.p (.int .i64 0)) := first_zero h1 [0, 0, 0] (by simp) (by simp)

theorem interval_zero (hC : ∀ f ∈ [121, 111, 104, 103], ∀ as, C f as = none) {a b lo hi : Int} (h1 : lo ≤ a) (h2 : a ≤ b) (h3 : b ≤ hi) : callPure (evFn F C G (d + 3)) C (.fn 121) [.agg [.p (.int .i64 a), .p (.int .i64 b)], .p (.int .i64 lo), .p (.int .i64 hi)] = .ret (.p (.int .i64 0)) := by
  rw [call_eq fe121 _ (hC 121 (by simp) _)]
  have k1 := within_zero (G := G) (d := d) (hC 111 (by simp)) (hC 104 (by simp)) h1 (show a ≤ hi by omega)
  have k2 := within_zero (G := G) (d := d) (hC 111 (by simp)) (hC 104 (by simp)) (show lo ≤ b by omega) h3
  have k3 := when_ok (G := G) (d := d + 1) (hC 104 (by simp)) (decide (b < a)) 11
  have k4 := first_zero3 (G := G) (d := d + 1) (hC 103 (by simp))
  have hb : ¬ b < a := by omega
  simp [hb] at k3
  simp [c121, k1, k2, k3, k4, hb]

theorem many_zero (hC : ∀ f ∈ [134, 104, 103], ∀ as, C f as = none) {n : Int} (h1 : 0 < n) (h2 : n ≤ 4096) : callPure (evFn F C G (d + 2)) C (.fn 134) [.p (.int .i64 n)] = .ret (.p (.int .i64 0)) := by
  rw [call_eq fe134 _ (hC 134 (by simp) _)]
  have k3 := fun e => when_ok (G := G) (d := d) (hC 104 (by simp)) false e
  have k4 := first_zero2 (G := G) (d := d) (hC 103 (by simp))
  have a : (n == 0) = false := by rw [beq_eq_false_iff_ne]; omega
  have b : ¬ 4096 < n := by omega
  simp at k3
  simp [c134, k3, k4, a, b]

theorem check133_zero (hC : ∀ f ∈ [133, 121, 111, 104, 103], ∀ as, C f as = none) {a b : Int} (h1 : -200000 ≤ a) (h2 : a ≤ b) (h3 : b ≤ 200000) : callPure (evFn F C G (d + 4)) C (.fn 133) [.agg [.p (.int .i64 a), .p (.int .i64 b)]] = .ret (.p (.int .i64 0)) := by
  rw [call_eq fe133 _ (hC 133 (by simp) _)]
  have k := interval_zero (G := G) (d := d) (fun f hf => hC f (by simp at hf ⊢; omega)) h1 h2 h3
  simp [c133, k]

def IvOk (l : List (Int × Int)) : Prop := ∀ x ∈ l, -200000 ≤ x.1 ∧ x.1 ≤ x.2 ∧ x.2 ≤ 200000

theorem map135_zero (hC : ∀ f ∈ [135, 133, 121, 111, 104, 103], ∀ as, C f as = none) (l : List (Int × Int)) (hl : l.length < 1000000) (h : IvOk l) : callPure (evFn F C G (d + 5)) C (.fn 135) [.p (.sl (cI l) l.length), .p (.clo 133 [] [])] = .ret (.own (pI (List.replicate l.length 0)) l.length 1) := by
  rw [call_eq fe135 _ (hC 135 (by simp) _)]
  let inv : Nat → St := fun i => ⟨[(1, .p (.clo 133 [] [])), (5, .sl 0 i 0 i), (8, .p (.sl (cI l) l.length)), (9, .p (.int .i64 l.length)), (10, .p (.int .i64 i))], [(0, .arr (pI (List.replicate i 0)) i 1)]⟩
  simp [c135]
  rw [loop_run' inv l.length (e := .exit 0) (st' := ⟨(inv l.length).env ++ [(11, .p (.bool false))], (inv l.length).sto⟩) (by simp)]
  · simp [inv]
  · rfl
  · intro i hi
    have hlim : i + 1 ≤ lim := by simp only [lim]; omega
    have hm := h l[i] (List.getElem_mem hi)
    have k := check133_zero (G := G) (d := d) (fun f hf => hC f (by simp at hf ⊢; omega)) hm.1 hm.2.1 hm.2.2
    have hr : pI (List.replicate i 0) ++ [.int .i64 0] = pI (List.replicate (i + 1) 0) := by rw [pI_snoc, List.replicate_succ']
    have hlt : i * 2 < l.length * 2 := by omega
    have w := wrap_succ (i := i) (by omega)
    refine ⟨?_, ?h1, ?h2⟩
    case h1 =>
      simp [inv, loopS_eq, c135L0, hi, hlt, cI_drop l i hi, k, hr, hlim, w]
      exact rfl
    case h2 => exact loopS_same rfl (by simp [inv])
  · simp [inv, loopS_eq, c135L0]
  · simp [loopFuel]; omega

def KerOk (k : List Int) : Prop := 0 < k.length ∧ k.length ≤ 7 ∧ (∀ x ∈ k, -100 ≤ x ∧ x ≤ 100) ∧ 0 < sumI k

theorem sumI_part {k : List Int} (h : ∀ x ∈ k, -100 ≤ x ∧ x ≤ 100) (i : Nat) : ((sumN (fun i => k.getD i 0) i).natAbs : Int) ≤ 100 * i := sumN_bound i fun i _ => getD_bound h i

theorem sum124 (hC : ∀ as, C 124 as = none) {k : List Int} (h : ∀ x ∈ k, -100 ≤ x ∧ x ≤ 100) (hl : k.length ≤ 7) : callPure (evFn F C G (d + 1)) C (.fn 124) [.p (.sl (pI k) k.length)] = .ret (.p (.int .i64 (sumI k))) := by
  rw [call_eq fe124 _ (hC _)]
  let inv : Nat → St := fun i => ⟨[(3, .p (.int .i64 (sumN (fun i => k.getD i 0) i))), (6, .p (.sl (pI k) k.length)), (7, .p (.int .i64 k.length)), (8, .p (.int .i64 i))], []⟩
  simp [c124]
  rw [loop_run inv k.length (e := .exit 0) (st' := ⟨(inv k.length).env ++ [(9, .p (.bool false))], (inv k.length).sto⟩) (by simp)]
  · simp [inv, sumI]
  · rfl
  · intro i hi
    have hg : k.getD i 0 = k[i] := by simp [List.getD_eq_getElem?_getD, List.getElem?_eq_getElem hi]
    have hb := sumI_part h (i + 1)
    simp only [sumN, hg] at hb
    have w := wrap64 (n := sumN (fun i => k.getD i 0) i + k[i]) (by omega) (by omega)
    have w2 := wrap_succ (i := i) (by omega)
    have hs2 : sumN (fun i => k.getD i 0) (i + 1) = sumN (fun i => k.getD i 0) i + k[i] := by simp only [sumN, hg]
    simp only [inv, hs2]
    generalize sumN (fun i => k.getD i 0) i = s at *
    simp [loopS_eq, c124L0, hi, w, w2]
  · simp [inv, loopS_eq, c124L0]
  · simp [loopFuel]; omega

theorem check47_zero (hC : ∀ f ∈ [47, 131, 132, 111, 104, 103, 124], ∀ as, C f as = none) {k : List Int} (h : KerOk k) : callPure (evFn F C G (d + 5)) C (.fn 47) [.p (.sl (pI k) k.length)] = .ret (.p (.int .i64 0)) := by
  rw [call_eq fe47 _ (hC 47 (by simp) _)]
  obtain ⟨h1, h2, h3, h4⟩ := h
  have k3 := fun e => when_ok (G := G) (d := d + 3) (hC 104 (by simp)) false e
  have k4 := first_zero2 (G := G) (d := d + 3) (hC 103 (by simp))
  have k5 := sum124 (G := G) (d := d + 3) (hC 124 (by simp)) h3 h2
  have k6 := map_ok (C := C) (G := G) (d := d + 3) (m131 ▸ fe131) (by decide) (hC 131 (by simp)) (pI k) 132 [] (fun _ => .int .i64 0) (by simp; omega) (by simp) (fun c hc => by
    simp only [pI, List.mem_map] at hc
    obtain ⟨x, hx, rfl⟩ := hc
    have kw := within_zero (C := C) (G := G) (d := d) (hC 111 (by simp)) (hC 104 (by simp)) (h3 x hx).1 (h3 x hx).2
    rw [call_eq fe132 _ (hC 132 (by simp) _)]
    exact ⟨by simp [c132, kw], rfl⟩)
  have hr : (pI k).map (fun _ => PVal.int .i64 0) = pI (List.replicate k.length 0) := by
    simp only [pI, List.map_map, List.map_replicate]
    exact (List.map_const' ..)
  have k7 := first_zero (G := G) (d := d + 3) (hC 103 (by simp)) (List.replicate k.length 0) (by simp; omega) (by simp)
  rw [hr] at k6
  simp only [List.length_replicate] at k7
  simp at k3 k6
  have a : ((k.length : Int) == 0) = false := by rw [beq_eq_false_iff_ne]; omega
  have b : ¬ (7 : Int) < k.length := by omega
  have c : ¬ sumI k ≤ 0 := by omega
  simp -implicitDefEqProofs [c47, k3, k4, k5, k6, k7, a, b, c]

/-- the least and the greatest of four products -/
theorem ends117 (hC : ∀ f ∈ [117, 173, 174], ∀ as, C f as = none) {a b w : Int} (h1 : -200000 ≤ a) (h2 : a ≤ b) (h3 : b ≤ 200000) (hw1 : -1000000000 ≤ w) (hw2 : w ≤ 1000000000) :
    callPure (evFn F C G (d + 2)) C (.fn 117) [.agg [.p (.int .i64 a), .p (.int .i64 b)], .agg [.p (.int .i64 w), .p (.int .i64 w)]] = .ret (.agg [.p (.int .i64 (min (a * w) (b * w))), .p (.int .i64 (max (a * w) (b * w)))]) := by
  have ba : ((a * w).natAbs : Int) ≤ 200000 * 1000000000 := mul_abs (by omega) (by omega)
  have bb : ((b * w).natAbs : Int) ≤ 200000 * 1000000000 := mul_abs (by omega) (by omega)
  have wa := wrap64 (n := a * w) (by omega) (by omega)
  have wb := wrap64 (n := b * w) (by omega) (by omega)
  have k1 : callPure (evFn F C G (d + 1)) C (.fn 173) [.p (.sl [.int .i64 (a * w), .int .i64 (a * w), .int .i64 (b * w), .int .i64 (b * w)] 4)] = .ret (.p (.int .i64 (min (a * w) (b * w)))) := by
    rw [call_eq fe173 _ (hC 173 (by simp) _)]
    generalize a * w = x
    generalize b * w = y
    have m1 : minInt x [.p (.int .i64 x)] = some x := by simp [minInt]
    have m2 : minInt x [.p (.int .i64 y)] = some (min x y) := by simp only [minInt]; congr 1; split <;> omega
    have m3 : minInt (min x y) [.p (.int .i64 y)] = some (min x y) := by simp only [minInt]; congr 1; split <;> omega
    have w1 : IntKind.i64.wrap 2 = 2 := by decide
    have w2 : IntKind.i64.wrap 3 = 3 := by decide
    have w3 : IntKind.i64.wrap 4 = 4 := by decide
    let inv : Nat → St := fun i => ⟨[(0, .p (.sl [.int .i64 x, .int .i64 x, .int .i64 y, .int .i64 y] 4)), (3, .p (.int .i64 (if i ≤ 1 then x else min x y))), (4, .p (.int .i64 (i + 1)))], []⟩
    simp [c173]
    rw [loop_run inv 3 (e := .exit 0) (st' := ⟨(inv 3).env ++ [(15, .p (.bool false))], []⟩) (by simp)]
    · simp [inv]
    · rfl
    · intro i hi
      obtain h | h | h : i = 0 ∨ i = 1 ∨ i = 2 := by omega
      · subst h; simp [inv, loopS_eq, c173L0, m1, w1]
      · subst h; simp [inv, loopS_eq, c173L0, m2, w2]
      · subst h; simp [inv, loopS_eq, c173L0, m3, w3]
    · simp [inv, loopS_eq, c173L0]
    · simp [loopFuel]
  have k2 : callPure (evFn F C G (d + 1)) C (.fn 174) [.p (.sl [.int .i64 (a * w), .int .i64 (a * w), .int .i64 (b * w), .int .i64 (b * w)] 4)] = .ret (.p (.int .i64 (max (a * w) (b * w)))) := by
    rw [call_eq fe174 _ (hC 174 (by simp) _)]
    generalize a * w = x
    generalize b * w = y
    have m1 : maxInt x [.p (.int .i64 x)] = some x := by simp [maxInt]
    have m2 : maxInt x [.p (.int .i64 y)] = some (max x y) := by simp only [maxInt]; congr 1; split <;> omega
    have m3 : maxInt (max x y) [.p (.int .i64 y)] = some (max x y) := by simp only [maxInt]; congr 1; split <;> omega
    have w1 : IntKind.i64.wrap 2 = 2 := by decide
    have w2 : IntKind.i64.wrap 3 = 3 := by decide
    have w3 : IntKind.i64.wrap 4 = 4 := by decide
    let inv : Nat → St := fun i => ⟨[(0, .p (.sl [.int .i64 x, .int .i64 x, .int .i64 y, .int .i64 y] 4)), (3, .p (.int .i64 (if i ≤ 1 then x else max x y))), (4, .p (.int .i64 (i + 1)))], []⟩
    simp [c174]
    rw [loop_run inv 3 (e := .exit 0) (st' := ⟨(inv 3).env ++ [(15, .p (.bool false))], []⟩) (by simp)]
    · simp [inv]
    · rfl
    · intro i hi
      obtain h | h | h : i = 0 ∨ i = 1 ∨ i = 2 := by omega
      · subst h; simp [inv, loopS_eq, c174L0, m1, w1]
      · subst h; simp [inv, loopS_eq, c174L0, m2, w2]
      · subst h; simp [inv, loopS_eq, c174L0, m3, w3]
    · simp [inv, loopS_eq, c174L0]
    · simp [loopFuel]
  rw [call_eq fe117 _ (hC 117 (by simp) _)]
  simp [c117, wa, wb, k1, k2]

def upQ (n den : Int) : Int := -((-n) / den)
theorem up269 (hC : ∀ f ∈ [269, 268], ∀ as, C f as = none) (n den : Int) (hd : 0 < den) (h1 : -1152921504606846976 ≤ n) (h2 : n ≤ 1152921504606846976) :
    callPure (evFn F C G (d + 2)) C (.fn 269) [.p (.int .i64 n), .p (.int .i64 den)] = .ret (.p (.int .i64 (upQ n den))) := by
  rw [call_eq fe269 _ (hC 269 (by simp) _)]
  have k := floor_ok (G := G) (d := d) (hC 268 (by simp)) (-n) den hd (by omega) (by omega)
  have w1 := wrap64 (n := -n) (by omega) (by omega)
  have hb : ((-n) / den).natAbs ≤ (-n).natAbs := Int.natAbs_ediv_le_natAbs _ _
  have w2 := wrap64 (n := -((-n) / den)) (by omega) (by omega)
  simp [c269, w1, w2, k, upQ]

/-! the weights -/
def w125 (_k : List Int) (_i _j : Nat) (M : List (Int × Int)) : Sto := [(0, .map (kA M) (kB M))]

theorem weights125 (hC : ∀ as, C 125 as = none) {k : List Int} (h : ∀ x ∈ k, -100 ≤ x ∧ x ≤ 100) (hl : k.length ≤ 7) : callPure (evFn F C G (d + 1)) C (.fn 125) [.p (.sl (pI k) k.length)] = .ret (.p (.map (kA (weightsL k)) (kB (weightsL k)))) := by
  rw [call_eq fe125 _ (hC _)]
  let inv : Nat → St := fun i => ⟨[(0, .p (.sl (pI k) k.length)), (3, .mp 0), (9, .p (.sl (pI k) k.length)), (10, .p (.int .i64 k.length)), (11, .p (.int .i64 i))], [(0, .map (kA (wI k i)) (kB (wI k i)))]⟩
  simp [c125]
  rw [loop_run' inv k.length (e := .exit 0) (st' := ⟨(inv k.length).env ++ [(12, .p (.bool false))], (inv k.length).sto⟩) (by simp)]
  · simp [inv, weightsL]
  · rfl
  · intro i hi
    have hgi : k.getD i 0 = k[i] := by simp [List.getD_eq_getElem?_getD, List.getElem?_eq_getElem hi]
    have wi := wrap_succ (i := i) (by omega)
    let inv2 : Nat → St := fun j => ⟨[(0, .p (.sl (pI k) k.length)), (3, .mp 0), (4, .p (.int .i64 i)), (5, .p (.int .i64 k[i])), (9, .p (.sl (pI k) k.length)), (10, .p (.int .i64 k.length)), (11, .p (.int .i64 i)), (16, .p (.sl (pI k) k.length)), (17, .p (.int .i64 k.length)), (18, .p (.int .i64 j))], [(0, .map (kA (wJ k i k[i] (wI k i) j)) (kB (wJ k i k[i] (wI k i) j)))]⟩
    refine ⟨?_, ?h1, ?h2⟩
    case h1 =>
      simp [inv, loopS_eq, c125L1, hi]
      rw [loop_run inv2 k.length (e := .exit 2) (st' := ⟨(inv2 k.length).env ++ [(19, .p (.bool false))], (inv2 k.length).sto⟩) (by simp)]
      · simp [inv2, wi]
        exact rfl
      · rfl
      · intro j hj
        have hgj : k.getD j 0 = k[j] := by simp [List.getD_eq_getElem?_getD, List.getElem?_eq_getElem hj]
        have wj := wrap_succ (i := j) (by omega)
        have ws := wrap64 (n := (i : Int) - j) (by omega) (by omega)
        have hbm := mul_abs (getD_bound h i) (getD_bound h j)
        rw [hgi, hgj] at hbm
        have wm := wrap64 (n := k[i] * k[j]) (by omega) (by omega)
        obtain ⟨a1, a2, a3⟩ := wI_spec h hl i (by omega)
        obtain ⟨b1, b2, b3⟩ := wJ_spec h hl i (by omega) (wI k i) a3 j (by omega)
        rw [hgi] at b1
        have hlk := look_kA (wJ k i k[i] (wI k i) j) ((i : Int) - j)
        have hadd : wJ k i k[i] (wI k i) (j + 1) = addE (wJ k i k[i] (wI k i) j) (i - j) (k[i] * k[j]) := by simp only [wJ, hgj]
        cases hv : lookE (wJ k i k[i] (wI k i) j) ((i : Int) - j) with
        | none =>
          rw [hv] at hlk
          have hn := lookE_none hv (k[i] * k[j])
          rw [← hadd] at hn
          have wz := wrap64 (n := 0 + k[i] * k[j]) (by omega) (by omega)
          simp only [inv2]
          generalize wJ k i k[i] (wI k i) j = M at *
          simp at hlk
          simp -implicitDefEqProofs [loopS_eq, c125L0, hj, ws, wm, wj, hlk, hn]
          exact ⟨kA_snoc .., kB_snoc ..⟩
        | some v =>
          rw [hv] at hlk
          have hn := set_kA hv (k[i] * k[j])
          rw [← hadd] at hn
          have hvb := look_bound hv
          have wz := wrap64 (n := v + k[i] * k[j]) (by omega) (by omega)
          simp only [inv2]
          generalize wJ k i k[i] (wI k i) j = M at *
          simp at hlk
          simp -implicitDefEqProofs [loopS_eq, c125L0, hj, ws, wm, wj, hlk, hn, wz]
      · simp [inv2, loopS_eq, c125L0]
      · simp [loopFuel]; omega
    case h2 =>
      simp only [loopS_eq, inv, wI, hgi]
      simp
  · simp [inv, loopS_eq, c125L1]
  · simp [loopFuel]; omega
end
end Fw
