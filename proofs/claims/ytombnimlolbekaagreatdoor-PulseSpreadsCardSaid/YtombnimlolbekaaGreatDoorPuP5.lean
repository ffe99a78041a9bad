/- The mean of runs: the pulse chapter and its reference. -/
import Derived.Test.YtombnimlolbekaaGreatDoorPuP4
set_option maxHeartbeats 8000000
namespace Fw
open Go
attribute [local irreducible] evCode evOps evOpsD evOper evOperD evOp evFn loopN T.All T.bind callPure callOp opsK opsDK restK seqK blockK loopS setK setQ giveK scalK gcK finish finS rfunK yldK yldB loopK

def meanI (ls : List (List Int)) (k : Nat) : Int := (2 * sumF (colL ls k) ls.length + ls.length) / (2 * ls.length)
def meanL (ls : List (List Int)) (m : Nat) : List Int := (List.range m).map fun (k : Nat) => meanI ls k
theorem meanL_length (ls : List (List Int)) (m : Nat) : (meanL ls m).length = m := by simp [meanL]
theorem take_mean (ls : List (List Int)) (m i : Nat) (h : i < m) : (meanL ls m).take (i + 1) = (meanL ls m).take i ++ [meanI ls i] := by
  rw [List.take_add_one]; simp [meanL, h]

/-- runs that are valid -/
structure RunsOk (ls : List (List Int)) (m : Nat) : Prop where
  pos : 0 < ls.length
  few : ls.length ≤ 8
  len : ∀ l ∈ ls, l.length = m
  small : m ≤ 64
  acc : ∀ l ∈ ls, ∀ a ∈ l, -100000 ≤ a ∧ a ≤ 100000

theorem runs_of {ls : List (List Int)} (h : runsE ls = 0) : RunsOk ls (ls.getD 0 []).length := by
  unfold runsE at h
  split at h
  · rename_i hs
    obtain ⟨h1, h2⟩ := sizedE_zero.1 hs
    have hx : ∀ l ∈ ls, pulseE l = 0 ∧ l.length = (ls.getD 0 []).length := fun l hl => by
      have h3 := firstE_zero.1 (firstE_zero.1 h (runE ls l) (List.mem_map.2 ⟨l, hl, rfl⟩))
      have h4 := (whenE_zero (by decide)).1 (h3 (whenE ((l.length : Int) != (ls.getD 0 []).length) 2) (by simp))
      have h5 : (l.length : Int) = (ls.getD 0 []).length := by simpa using h4
      exact ⟨h3 _ (by simp), by omega⟩
    have hp : 0 < ls.length := by omega
    have hg : ls.getD 0 [] = ls[0] := by simp [List.getD_eq_getElem?_getD, List.getElem?_eq_getElem hp]
    refine ⟨hp, by omega, fun l hl => (hx l hl).2, ?_, fun l hl => (pulse_of (hx l hl).1).2.2⟩
    rw [hg]
    exact (pulse_of (hx _ (List.getElem_mem hp)).1).2.1
  · rename_i hs; exact absurd h hs

theorem RunsOk.sum {ls : List (List Int)} {m : Nat} (h : RunsOk ls m) {k : Nat} (hk : k < m) (q : Nat) (hq : q ≤ ls.length) : -800000 ≤ sumF (colL ls k) q ∧ sumF (colL ls k) q ≤ 800000 := by
  have hb := sumF_bound (l := colL ls k) (b := 100000) (by omega) (fun a ha => by
    obtain ⟨l, hl, rfl⟩ := List.mem_map.1 ha
    have : k < l.length := by rw [h.len l hl]; exact hk
    have hg : l.getD k 0 = l[k] := by simp [List.getD_eq_getElem?_getD, List.getElem?_eq_getElem this]
    rw [hg]
    exact h.acc l hl _ (List.getElem_mem this)) q (by simpa [colL] using hq)
  have := h.few
  omega

theorem col_get {ls : List (List Int)} {m : Nat} (h : RunsOk ls m) {i q : Nat} (hi : i < m) (hq : q < ls.length) : (colL ls i).getD q 0 = ls[q][i]'(by rw [h.len _ (List.getElem_mem hq)]; exact hi) := by
  have : i < ls[q].length := by rw [h.len _ (List.getElem_mem hq)]; exact hi
  simp [colL, List.getElem?_eq_getElem hq, List.getElem?_eq_getElem this]

theorem round128 {n : Nat} (hn : 2 ≤ n) (x den : Int) (hd : 0 < den) (hd2 : den ≤ 1000000) (h1 : -1000000000 ≤ x) (h2 : x ≤ 1000000000) : RUN n 128 [iv x, iv den] = .ret (iv ((2 * x + den) / (2 * den))) := by
  obtain ⟨d, rfl⟩ : ∃ d, n = d + 2 := ⟨n - 2, by omega⟩
  rw [RUN, call_eq fe128 _ rfl]
  have w1 := wrap64 (n := 2 * x) (by omega) (by omega)
  have w2 := wrap64 (n := 2 * x + den) (by omega) (by omega)
  have w3 := wrap64 (n := 2 * den) (by omega) (by omega)
  have hf := floor104 (n := d + 1) (by omega) (2 * x + den) (2 * den) (by omega) (by omega) (by omega)
  simp -implicitDefEqProofs [c128, w1, w2, w3, hf]

theorem mean65 {n : Nat} (hn : 3 ≤ n) {ls : List (List Int)} {m : Nat} (h : RunsOk ls m) : RUN n 65 [llsl ls] = .ret (.own (pI (meanL ls m)) m 1) := by
  obtain ⟨d, rfl⟩ : ∃ d, n = d + 3 := ⟨n - 3, by omega⟩
  rw [RUN, call_eq fe65 _ rfl]
  have hm2 := h.small
  have hfew := h.few
  have h0 := h.pos
  let inv : Nat → St := fun i => ⟨[(0, llsl ls), (3, .sl 0 i 0 i), (4, iv i)], [(0, .arr (pI ((meanL ls m).take i)) i 1)]⟩
  have hvl := meanL_length ls m
  have htl : (meanL ls m).take m = meanL ls m := List.take_of_length_le (by omega)
  have hx0 : ∃ r, pL ls = lsl ls[0] :: r := by
    cases ls with
    | nil => simp at h0
    | cons x r => exact ⟨pL r, rfl⟩
  obtain ⟨r, hr⟩ := hx0
  have hl0 : ls[0].length = m := h.len _ (List.getElem_mem h0)
  simp -implicitDefEqProofs [c65]
  rw [loop_run inv m (e := .exit 0) (st' := ⟨(inv m).env ++ [(12, .p (.bool false))], (inv m).sto⟩) (by simp)]
  · simp -implicitDefEqProofs [inv, htl, hvl]
  · rfl
  · intro i hi
    have hlim : i + 1 ≤ lim := by simp only [lim]; omega
    have hto : ((meanL ls m).take i).length = i := by simp [hvl]; omega
    have ht := take_mean ls m i hi
    let in2 : Nat → St := fun q => ⟨[(0, llsl ls), (3, .sl 0 i 0 i), (4, iv i), (5, iv (sumF (colL ls i) q)), (6, iv q)], [(0, .arr (pI ((meanL ls m).take i)) i 1)]⟩
    have inner : loopN (loopS (evFn F C0 G0 (d + 2)) C0 G0 0 false [0, 3, 4, 5, 6] c65L0) loopFuel ⟨[(0, llsl ls), (3, .sl 0 i 0 i), (4, iv i), (5, iv 0), (6, iv 0)], [(0, .arr (pI ((meanL ls m).take i)) i 1)]⟩ = .ret (.exit 2, ⟨(in2 ls.length).env ++ [(18, .p (.bool false))], (in2 ls.length).sto⟩) := by
      refine loop_run in2 ls.length (by simp) rfl ?_ ?_ (by simp [loopFuel]; omega)
      · intro q hq
        have hb : (q : Int) < ls.length := by omega
        have hlq : ls[q].length = m := h.len _ (List.getElem_mem hq)
        have hiq : i < ls[q].length := by omega
        have hiqb : (i : Int) < ls[q].length := by omega
        have hd := drop_lsl ls q hq
        have hc := col_get h hi hq
        have hs : sumF (colL ls i) (q + 1) = sumF (colL ls i) q + ls[q][i] := by simp only [sumF, hc]
        have hbd := h.sum hi (q + 1) (by omega)
        rw [hs] at hbd
        have w := wrap64 (n := sumF (colL ls i) q + ls[q][i]) (by omega) (by omega)
        simp -implicitDefEqProofs [in2, loopS_eq, c65L0, hq, hb, hlq, hd, hs, w, lsl, hi, wrap_succ (i := q) (by omega)]
      · simp -implicitDefEqProofs [in2, loopS_eq, c65L0]
    have hbs := h.sum hi ls.length (Nat.le_refl _)
    have hrd := round128 (n := d + 2) (by omega) (sumF (colL ls i) ls.length) ls.length (by omega) (by omega) (by omega) (by omega)
    have e : (2 * sumF (colL ls i) ls.length + ls.length) / (2 * ls.length) = meanI ls i := rfl
    rw [e] at hrd
    simp -implicitDefEqProofs [inv, loopS_eq, c65L1, hi, hr, h0, hl0, lsl, ht]
    rw [inner]
    simp -implicitDefEqProofs [in2, hlim, hto, hrd, wrap_succ (i := i) (by omega), ← pI_snoc]
  · simp -implicitDefEqProofs [inv, loopS_eq, c65L1, h0, hr, lsl, hl0]
  · simp [loopFuel]; omega
end Fw
