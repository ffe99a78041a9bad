/- Kernels and intervals: their errors, the chapter's and the reference's. -/
import Derived.Test.YtbaedpfgjpkabaaGreatDoorChK
set_option maxHeartbeats 8000000
namespace Fw
open Go
attribute [local irreducible] evCode evOps evOpsD evOper evOperD evOp evFn loopN T.All T.bind callPure callOp opsK opsDK restK seqK blockK loopS setK setQ giveK scalK gcK finish finS rfunK yldK yldB loopK

/-- a loop that ends at the first error -/
theorem loop_errs {step : St → T (Ex × St)} (inv : Nat → St) (es : List Int) (ok : Ex × St) (bad : Int → Ex × St) {st0 : St} (h0 : step st0 = step (inv 0))
    (hstep : ∀ i (hi : i < es.length), (es[i] = 0 → ∃ st1, step (inv i) = .ret (.normal, st1) ∧ step st1 = step (inv (i + 1))) ∧ (es[i] ≠ 0 → step (inv i) = .ret (bad es[i]))) (hbad : ∀ e, (bad e).1 ≠ .normal) (hend : step (inv es.length) = .ret ok) (hok : ok.1 ≠ .normal) {fuel : Nat} (hf : es.length < fuel) :
    loopN step fuel st0 = .ret (if firstE es = 0 then ok else bad (firstE es)) := by
  have h := loop_rec' (step := step) inv (fun i => if firstE (es.drop i) = 0 then ok else bad (firstE (es.drop i))) es.length h0 (fun i hi => by
    have hd : firstE (es.drop i) = if es[i] = 0 then firstE (es.drop (i + 1)) else es[i] := by rw [List.drop_eq_getElem_cons hi]; rfl
    by_cases he : es[i] = 0
    · refine .inl ⟨(hstep i hi).1 he, ?_⟩
      simp only [hd, he, if_true]
    · refine .inr ⟨?_, ?_⟩
      · simp only [hd, he, if_false]; exact (hstep i hi).2 he
      · simp only [hd, he, if_false]; exact hbad _) (by
    simp only [List.drop_length, firstE, if_true]
    exact ⟨hend, hok⟩) hf
  simpa using h

def sumW (k : List Int) : Nat → Int
  | 0 => 0
  | i + 1 => IntKind.i64.wrap (sumW k i + k.getD i 0)

/-! the error of a kernel -/
def kerE1 (k : List Int) : Int := firstE [whenE ((k.length : Int) == 0) 12, whenE (decide ((7 : Int) < k.length)) 5]
def kerE2 (k : List Int) : Int := firstE [firstE (k.map (rangeE (-100) 100)), whenE (decide (sumW k k.length ≤ 0)) 6]
def kerE (k : List Int) : Int := if kerE1 k = 0 then kerE2 k else kerE1 k

/-! the error of intervals -/
def manyE (m : Int) : Int := firstE [whenE (m == 0) 12, whenE (decide (4096 < m)) 5]
abbrev ivX : Int × Int → Int := ivE (-200000) 200000
def ivsE (l : List (Int × Int)) : Int := firstE [manyE l.length, firstE (l.map ivX)]

theorem many134 {n : Nat} (hn : 2 ≤ n) (m : Int) : RUN n 134 [iv m] = .ret (iv (manyE m)) := by
  obtain ⟨d, rfl⟩ : ∃ d, n = d + 2 := ⟨n - 2, by omega⟩
  rw [RUN, call_eq fe134 _ rfl]
  have k3 := fun b e => when104 (n := d + 1) (by omega) b e
  have k4 := fun a b => first103_2 (n := d + 1) (by omega) a b
  simp -implicitDefEqProofs [c134, k3, k4, manyE]

theorem check53 {n : Nat} (hn : 4 ≤ n) (l : List (Int × Int)) (hl : l.length < 1000000) : RUN n 53 [csl l] = .ret (iv (ivsE l)) := by
  obtain ⟨d, rfl⟩ : ∃ d, n = d + 4 := ⟨n - 4, by omega⟩
  rw [RUN, call_eq fe53 _ rfl]
  have k3 := fun b e => when109 (n := d + 3) (by omega) b e
  have k4 := fun a b => first29_2 (n := d + 3) (by omega) a b
  have e1 : manyE l.length = firstE [whenE ((l.length : Int) == 0) 12, whenE (decide ((4096 : Int) < l.length)) 5] := rfl
  by_cases z : manyE l.length = 0
  · have hz := z
    rw [e1] at hz
    let inv : Nat → St := fun i => ⟨[(0, csl l), (4, iv i)], []⟩
    simp -implicitDefEqProofs [c53, k3, k4, hz]
    rw [loop_errs (st0 := ⟨[(0, csl l), (4, .p (.int .i64 0))], []⟩) inv (l.map ivX) (.exit 0, ⟨(inv l.length).env ++ [(22, .p (.bool false))], []⟩) (fun e => (.ret, ⟨[(2, iv e)], []⟩)) (by rfl)]
    · by_cases y : firstE (l.map ivX) = 0
      · simp -implicitDefEqProofs [y, inv, ivsE, firstE, z]
      · simp -implicitDefEqProofs [y, ivsE, firstE, z]
    · intro i hi
      simp only [List.length_map] at hi
      have kr := ends84 (n := d + 3) (by omega) l[i] (-200000) 200000
      have w2 := wrap_succ (i := i) (by omega)
      have hlt : i * 2 < l.length * 2 := by omega
      simp only [List.getElem_map]
      generalize hx : ivX l[i] = e at *
      rw [show ivE (-200000) 200000 l[i] = e from hx] at kr
      refine ⟨fun he => ⟨_, ?_, rfl⟩, fun he => ?_⟩
      · simp -implicitDefEqProofs [inv, loopS_eq, c53L0, hi, hlt, cI_drop l i hi, kr, he, w2]
      · simp -implicitDefEqProofs [inv, loopS_eq, c53L0, hi, hlt, cI_drop l i hi, kr, he]
    · intro e; simp
    · simp -implicitDefEqProofs [inv, loopS_eq, c53L0]
    · simp
    · simp [loopFuel]; omega
  · have hz := z
    rw [e1] at hz
    have he : ivsE l = manyE l.length := by simp only [ivsE, firstE, z, if_false]
    rw [he, e1]
    simp -implicitDefEqProofs [c53, k3, k4, hz]

theorem ivs_of {l : List (Int × Int)} (h : ivsE l = 0) : 0 < l.length ∧ l.length ≤ 4096 ∧ IvOk l := by
  simp only [ivsE, manyE, firstE_zero, List.mem_cons, List.not_mem_nil, or_false, forall_eq_or_imp, forall_eq, whenE] at h
  obtain ⟨⟨h1, h2⟩, h3⟩ := h
  refine ⟨?_, ?_, fun x hx => ?_⟩
  · split at h1
    · cases h1
    · rename_i q; rw [beq_iff_eq] at q; omega
  · split at h2
    · cases h2
    · rename_i q; simp at q; omega
  · have := h3 (ivX x) (List.mem_map.2 ⟨x, hx, rfl⟩)
    simp only [ivE, firstE_zero, List.mem_cons, List.not_mem_nil, or_false, forall_eq_or_imp, forall_eq, rangeE, whenE] at this
    obtain ⟨a, b, c⟩ := this
    split at a
    · cases a
    · split at b
      · cases b
      · split at c
        · cases c
        · rename_i q; simp at q; omega

end Fw
