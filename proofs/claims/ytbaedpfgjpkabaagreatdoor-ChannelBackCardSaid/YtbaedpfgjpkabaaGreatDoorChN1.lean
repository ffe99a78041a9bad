/- Kernels and intervals: their errors, the chapter's and the reference's. -/
import Derived.Test.YtbaedpfgjpkabaaGreatDoorChK
set_option maxHeartbeats 8000000
namespace Fw
open Go
attribute [local irreducible] evCode evOps evOpsD evOper evOperD evOp evFn loopN T.All T.bind callPure callOp opsK opsDK restK seqK blockK loopS setK setQ giveK scalK gcK finish finS rfunK yldK yldB loopK

/-- a loop that ends at the first error -/
theorem loop_errs {step : St → T (Ex × St)} (inv : Nat → St) (es : List Int) (ok : Ex × St) (bad : Int → Ex × St) {st0 : St} (h0 : step st0 = step (inv 0))
    (hstep : ∀ i (hi : i < es.length), (es[i] = 0 → ∃ st1, step (inv i) = .ret (.normal, st1) ∧ step st1 = step (inv (i + 1))) ∧ (es[i] ≠ 0 → step (inv i) = .ret (bad es[i]))) (hbad : ∀ e, (bad e).1 ≠ .normal) (hend : step (inv es.length) = .ret ok) (hok : ok.1 ≠ .normal) {fuel : Nat} (hf : es.length < fuel) :
    loopN step fuel st0 = .ret (if firstE es = 0 then ok else bad (firstE es)) := by
  have h := loop_rec' (step := step) inv (fun i => if firstE (es.drop i) = 0 then ok else bad (firstE (es.drop i))) es.length h0 (fun i hi => by
    have hd : firstE (es.drop i) = if es[i] = 0 then firstE (es.drop (i + 1)) else es[i] := by rw [List.drop_eq_getElem_cons hi]; rfl
    by_cases he : es[i] = 0
    · refine .inl ⟨(hstep i hi).1 he, ?_⟩
      simp only [hd, he, if_true]
    · refine .inr ⟨?_, ?_⟩
      · simp only [hd, he, if_false]; exact (hstep i hi).2 he
      · simp only [hd, he, if_false]; exact hbad _) (by
    simp only [List.drop_length, firstE, if_true]
    exact ⟨hend, hok⟩) hf
  simpa using h

/-- the same, where what it ends with is told by what it is like -/
theorem loop_errsQ {step : St → T (Ex × St)} (inv : Nat → St) (es : List Int) (ok : Ex × St) (B : Int → Ex × St → Prop) {st0 : St} (h0 : step st0 = step (inv 0))
    (hstep : ∀ i (hi : i < es.length), (es[i] = 0 → ∃ st1, step (inv i) = .ret (.normal, st1) ∧ step st1 = step (inv (i + 1))) ∧ (es[i] ≠ 0 → ∃ r, step (inv i) = .ret r ∧ r.1 ≠ .normal ∧ B es[i] r)) (hend : step (inv es.length) = .ret ok) (hok : ok.1 ≠ .normal) {fuel : Nat} (hf : es.length < fuel) :
    ∃ r, loopN step fuel st0 = .ret r ∧ (firstE es = 0 → r = ok) ∧ (firstE es ≠ 0 → B (firstE es) r) := by
  have : ∀ k, k ≤ es.length → ∀ fuel st0, step st0 = step (inv (es.length - k)) → k < fuel → ∃ r, loopN step fuel st0 = .ret r ∧ (firstE (es.drop (es.length - k)) = 0 → r = ok) ∧ (firstE (es.drop (es.length - k)) ≠ 0 → B (firstE (es.drop (es.length - k))) r) := by
    intro k
    induction k with
    | zero =>
      intro _ fuel st0 h0 hf
      obtain ⟨fuel, rfl⟩ : ∃ k, fuel = k + 1 := ⟨fuel - 1, by omega⟩
      refine ⟨ok, ?_, fun _ => rfl, fun h => absurd (by simp [firstE]) h⟩
      rw [loopN_succ, h0, Nat.sub_zero, hend, bind_ret]
      obtain ⟨e, st⟩ := ok
      cases e with
      | normal => exact absurd rfl hok
      | exit id => exact loopK_exit ..
      | ret => exact loopK_ret ..
    | succ k ih =>
      intro hk fuel st0 h0 hf
      obtain ⟨fuel, rfl⟩ : ∃ k, fuel = k + 1 := ⟨fuel - 1, by omega⟩
      have hi : es.length - (k + 1) < es.length := by omega
      have hd : firstE (es.drop (es.length - (k + 1))) = if es[es.length - (k + 1)] = 0 then firstE (es.drop (es.length - k)) else es[es.length - (k + 1)] := by
        rw [List.drop_eq_getElem_cons hi, show es.length - (k + 1) + 1 = es.length - k by omega]; rfl
      rw [loopN_succ, h0, hd]
      by_cases he : es[es.length - (k + 1)] = 0
      · obtain ⟨st1, h1, h2⟩ := (hstep _ hi).1 he
        rw [h1, bind_ret, loopK_normal, if_pos he]
        exact ih (by omega) fuel st1 (by rw [h2, show es.length - (k + 1) + 1 = es.length - k by omega]) (by omega)
      · obtain ⟨r, h1, h2, h3⟩ := (hstep _ hi).2 he
        rw [h1, bind_ret, if_neg he]
        refine ⟨r, ?_, fun h => absurd h he, fun _ => h3⟩
        obtain ⟨e, st⟩ := r
        cases e with
        | normal => exact absurd rfl h2
        | exit id => exact loopK_exit ..
        | ret => exact loopK_ret ..
  have h := this es.length (Nat.le_refl _) fuel st0 (by rw [Nat.sub_self]; exact h0) hf
  simpa using h

def sumW (k : List Int) : Nat → Int
  | 0 => 0
  | i + 1 => IntKind.i64.wrap (sumW k i + k.getD i 0)

/-! the error of a kernel -/
def kerE1 (k : List Int) : Int := firstE [whenE ((k.length : Int) == 0) 12, whenE (decide ((7 : Int) < k.length)) 5]
def kerE2 (k : List Int) : Int := firstE [firstE (k.map (rangeE (-100) 100)), whenE (decide (sumW k k.length ≤ 0)) 6]
def kerE (k : List Int) : Int := if kerE1 k = 0 then kerE2 k else kerE1 k

/-! the error of intervals -/
def manyE (m : Int) : Int := firstE [whenE (m == 0) 12, whenE (decide (4096 < m)) 5]
abbrev ivX : Int × Int → Int := ivE (-200000) 200000
def ivsE (l : List (Int × Int)) : Int := firstE [manyE l.length, firstE (l.map ivX)]

end Fw
