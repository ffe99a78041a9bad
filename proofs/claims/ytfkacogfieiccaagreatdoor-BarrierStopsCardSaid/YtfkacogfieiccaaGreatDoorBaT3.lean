/- The law on stops: a car braked, cell by cell; the cells. -/
import Derived.Test.YtfkacogfieiccaaGreatDoorBaT2
set_option maxHeartbeats 16000000
namespace Fw
open Go
attribute [local irreducible] evCode evOps evOpsD evOper evOperD evOp evFn loopN T.All T.bind callPure callOp opsK opsDK restK seqK blockK loopS setK setQ giveK scalK gcK finish finS rfunK yldK yldB loopK

def stepsN (V D : Int) : Nat := if D = 0 then 0 else (upI V D).toNat
theorem steps_pos {V D : Int} (_hV : 0 ≤ V) (hD : 0 ≤ D) {k : Nat} (hk : k < stepsN V D) : 0 < D ∧ 0 < V - k * D := by
  unfold stepsN at hk
  split at hk
  · omega
  · have h0 : 0 < D := by omega
    refine ⟨h0, ?_⟩
    have h1 := up_le (x := V) (k := (k : Int)) h0
    have h2 : ¬ upI V D ≤ (k : Int) := by omega
    have h3 : ¬ V ≤ (k : Int) * D := fun h => h2 (h1.2 h)
    omega
theorem steps_end {V D : Int} (hV : 0 ≤ V) (hD : 0 ≤ D) : D = 0 ∨ (0 < D ∧ V - stepsN V D * D ≤ 0) := by
  unfold stepsN
  by_cases h : D = 0
  · exact .inl h
  · right
    rw [if_neg h]
    have h0 : 0 < D := by omega
    refine ⟨h0, ?_⟩
    have h2 := upI_in (x := V) (den := D) (B := V) h0 hV (Int.le_refl _)
    have h3 := (up_le (x := V) (k := upI V D) h0).1 (Int.le_refl _)
    have h4 : ((upI V D).toNat : Int) = upI V D := by omega
    rw [h4]
    omega
theorem steps_le {V D : Int} (hV : 0 ≤ V) (hD : 0 ≤ D) : (stepsN V D : Int) ≤ V := by
  unfold stepsN
  split
  · simpa using hV
  · have h2 := upI_in (x := V) (den := D) (B := V) (by omega) hV (Int.le_refl _)
    omega

def s2 (A B : AVal) (f b last : Int) (c : Nat) (a e : Int) (s : Bool) (v h : Int) : Env := [(2, .ptr 0 0 0), (7, iv f), (8, iv b), (9, A), (13, iv last), (15, B), (19, iv c), (20, iv a), (21, iv e), (22, .p (.bool s)), (24, iv v), (25, iv h)]
theorem sim_loop (A B : AVal) (f b last : Int) (c : Nat) (a e : Int) (s : Bool) (V : Int) (S : Sto) (hf : 0 ≤ f ∧ f ≤ 100000) (hb : 0 ≤ b ∧ b ≤ 100000) (hc : c ≤ 100) (hV : 0 ≤ V) (hV2 : V ≤ 1000) :
    loopN (loopS (evFn F C0 G0 60) C0 G0 0 false [2, 7, 8, 9, 13, 15, 19, 20, 21, 22, 24, 25] c10L2) loopFuel ⟨s2 A B f b last c a e s V c, S⟩ = .ret (.exit 6, ⟨s2 A B f b last c a e s (V - stepsN V (f + b) * (f + b)) (c + stepsN V (f + b)) ++ [(272, .p (.bool false))], S⟩) := by
  have hD : 0 ≤ f + b := by omega
  have hN := steps_le hV hD
  have wD := wrap64 (n := f + b) (by omega) (by omega)
  refine loop_run' (fun k => ⟨s2 A B f b last c a e s (V - k * (f + b)) (c + k), S⟩) (stepsN V (f + b)) (by simp) ?_ ?_ ?_ (by simp only [loopFuel]; omega)
  · simp
  · intro k hk
    obtain ⟨d1, d2⟩ := steps_pos hV hD hk
    have hkb : (k : Int) * (f + b) ≤ V := by omega
    have hk0 : 0 ≤ (k : Int) * (f + b) := Int.mul_nonneg (by omega) (by omega)
    have e1 : V - ((k : Int) + 1) * (f + b) = V - (k : Int) * (f + b) - f - b := by rw [Int.add_mul]; omega
    have e2 : ((k + 1 : Nat) : Int) = (k : Int) + 1 := by omega
    have e3 : (c : Int) + ((k : Int) + 1) = (c : Int) + k + 1 := by omega
    rw [e2, e1, e3]
    have hv2 : V - (k : Int) * (f + b) ≤ 1000 := by omega
    have h2 : (c : Int) + k < 2000 := by omega
    clear e1 hkb hk0
    generalize V - (k : Int) * (f + b) = v at *
    have w1 := wrap64 (n := v - f) (by omega) (by omega)
    have w2 := wrap64 (n := v - f - b) (by omega) (by omega)
    have w3 := wrap64 (n := (c : Int) + k + 1) (by omega) (by omega)
    generalize (c : Int) + k = h at *
    refine ⟨?_, ?h1, ?h2⟩
    case h1 =>
      simp -implicitDefEqProofs [s2, loopS_eq, c10L2, d1, d2, h2, w1, w2, w3, wD]
      exact rfl
    case h2 => simp [s2]
  · have h2 : (c : Int) + stepsN V (f + b) < 2000 := by omega
    have he := steps_end hV hD
    generalize (c : Int) + stepsN V (f + b) = h at *
    generalize V - stepsN V (f + b) * (f + b) = v at *
    rcases he with he | ⟨he1, he2⟩
    · have d1 : ¬ 0 < f + b := by omega
      by_cases hv : 0 < v
      · simp -implicitDefEqProofs [s2, loopS_eq, c10L2, d1, hv, h2, wD]
      · simp -implicitDefEqProofs [s2, loopS_eq, c10L2, hv, h2]
    · have hv : ¬ 0 < v := by omega
      simp -implicitDefEqProofs [s2, loopS_eq, c10L2, hv, h2]

theorem brake_is {t : TowI} {f b : Int} (hf : 0 ≤ f) (hb : 0 ≤ b) (c : Nat) :
    ((brA t c f b).2 = 0 ∧ runF t f c - stepsN (runF t f c) (f + b) * (f + b) ≤ 0 ∧ (brA t c f b).1 = c + stepsN (runF t f c) (f + b)) ∨ ((brA t c f b).2 = 7 ∧ 0 < runF t f c - stepsN (runF t f c) (f + b) * (f + b)) := by
  have hV := runF_nonneg t f c
  unfold brA
  generalize runF t f c = V at *
  by_cases c1 : V = 0
  · subst c1
    rw [if_pos rfl]
    left
    have : stepsN 0 (f + b) = 0 := by
      have := steps_le (V := 0) (D := f + b) (by omega) (by omega)
      omega
    rw [this]
    simp
  · rw [if_neg c1]
    by_cases c2 : f + b = 0
    · rw [if_pos c2]
      right
      have : stepsN V (f + b) = 0 := by unfold stepsN; rw [if_pos c2]
      rw [this]
      refine ⟨rfl, ?_⟩
      simp; omega
    · rw [if_neg c2]
      left
      have he := steps_end (V := V) (D := f + b) hV (by omega)
      have h2 := upI_in (x := V) (den := f + b) (B := V) (by omega) hV (Int.le_refl _)
      have hs : (stepsN V (f + b) : Int) = upI V (f + b) := by unfold stepsN; rw [if_neg c2]; omega
      rcases he with he | he
      · exact absurd he c2
      · refine ⟨rfl, he.2, ?_⟩
        show (c : Int) + upI V (f + b) = _
        omega
end Fw
