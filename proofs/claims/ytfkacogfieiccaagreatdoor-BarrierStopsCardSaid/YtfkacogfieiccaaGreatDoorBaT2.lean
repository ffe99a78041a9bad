/- The law on stops: its loops. -/
import Derived.Test.YtfkacogfieiccaaGreatDoorBaT1
import Derived.Test.YtfkacogfieiccaaGreatDoorBaTab
set_option maxHeartbeats 16000000
namespace Fw
open Go
attribute [local irreducible] evCode evOps evOpsD evOper evOperD evOp evFn loopN T.All T.bind callPure callOp opsK opsDK restK seqK blockK loopS setK setQ giveK scalK gcK finish finS rfunK yldK yldB loopK

def stS (t : TowI) (x y : Int) : Sto := [(1, .arr [.int .u8 x, .int .u8 y] 0 1), (0, .box (twl t))]
def e0 (t : TowI) (i : Nat) : Env := [(2, .ptr 0 0 0), (3, .ptr 1 0 0), (58, isl t.pull), (59, iv t.pull.length), (60, iv i)]
def bigE (t : TowI) (i : Nat) : Int := if 60 < t.pull.getD i 0 then 1 else 0

theorem pulls_loop (t : TowI) (x y : Int) (hl : t.pull.length < 1000000) :
    ((∀ v ∈ t.pull, v ≤ 60) ∧ loopN (loopS (evFn F C0 G0 60) C0 G0 0 false [2, 3, 58, 59, 60] c10L0) loopFuel ⟨e0 t 0, stS t x y⟩ = .ret (.exit 0, ⟨e0 t t.pull.length ++ [(61, .p (.bool false))], stS t x y⟩)) ∨
    loopN (loopS (evFn F C0 G0 60) C0 G0 0 false [2, 3, 58, 59, 60] c10L0) loopFuel ⟨e0 t 0, stS t x y⟩ = .ret (.ret, ⟨[(4, .p (.bool true))], stS t x y⟩) := by
  have ka := awake13
  have key := loop_first (step := loopS (evFn F C0 G0 60) C0 G0 0 false [2, 3, 58, 59, 60] c10L0) (fun i => ⟨e0 t i, stS t x y⟩) (bigE t) t.pull.length (.exit 0, ⟨e0 t t.pull.length ++ [(61, .p (.bool false))], stS t x y⟩) (fun _ => (.ret, ⟨[(4, .p (.bool true))], stS t x y⟩))
    (st0 := ⟨e0 t 0, stS t x y⟩) (fuel := loopFuel) rfl (fun i hi => by
      have hlt' : (i : Int) < t.pull.length := by omega
      have hgd : t.pull.getD i 0 = t.pull[i] := by simp [List.getD_eq_getElem?_getD, List.getElem?_eq_getElem hi]
      have hpl : (pI t.pull).length = t.pull.length := by simp
      have hgn : ∀ q, (pI t.pull)[i]'q = .int .i64 t.pull[i] := fun q => by simp [pI]
      have hw := wrap_succ (i := i) (by omega)
      simp only [bigE, hgd]
      generalize t.pull[i] = v at *
      generalize hP : pI t.pull = P at *
      refine ⟨fun h => ?_, fun h => ?_⟩
      · have hv : ¬ 60 < v := fun hc => by rw [if_pos hc] at h; exact absurd h (by decide)
        refine ⟨?_, ?h1, ?h2⟩
        case h1 =>
          simp -implicitDefEqProofs [e0, hP, loopS_eq, c10L0, hi, hlt', hgn, hpl, hw, hv]
          exact rfl
        case h2 => simp [e0]
      · have hv : 60 < v := by
          by_cases hc : 60 < v
          · exact hc
          · rw [if_neg hc] at h; exact absurd rfl h
        simp -implicitDefEqProofs [e0, hP, loopS_eq, c10L0, hi, hlt', hgn, hpl, hv, ka]) (fun _ => by simp) (by simp -implicitDefEqProofs [e0, loopS_eq, c10L0]) (by simp) (by simp [loopFuel]; omega)
  rcases key with ⟨k1, k2⟩ | ⟨j, hj, k1, _⟩
  · refine .inl ⟨fun v hv => ?_, k1⟩
    obtain ⟨i, hi, rfl⟩ := List.getElem_of_mem hv
    have h := all_zero k2 i hi
    have hgd : t.pull.getD i 0 = t.pull[i] := by simp [List.getD_eq_getElem?_getD, List.getElem?_eq_getElem hi]
    simp only [bigE, hgd] at h
    split at h
    · exact absurd h (by decide)
    · omega
  · exact .inr k1

def r1 (t : TowI) (f b : Int) (i : Nat) : Env := [(2, .ptr 0 0 0), (7, iv f), (8, iv b), (9, isl (runL t f)), (11, .p (.sl (cI (reL t)) (t.pull.length + 1))), (13, iv (lastI t)), (15, isl (tabL t)), (173, isl (runL t f)), (174, iv (t.pull.length + 1)), (175, iv i)]
theorem run_loop {t : TowI} (h : TowOk t) (f b x y : Int) (hf1 : t.fl ≤ f) (hf2 : f ≤ t.fh) :
    loopN (loopS (evFn F C0 G0 60) C0 G0 0 false [2, 7, 8, 9, 11, 13, 15, 173, 174, 175] c10L1) loopFuel ⟨r1 t f b 0, stS t x y⟩ = .ret (.exit 2, ⟨r1 t f b (t.pull.length + 1) ++ [(176, .p (.bool false))], stS t x y⟩) := by
  have hfew := h.few
  have hfr := h.fr
  refine loop_run' (fun i => ⟨r1 t f b i, stS t x y⟩) (t.pull.length + 1) (by simp) rfl ?_ (by simp -implicitDefEqProofs [r1, loopS_eq, c10L1]) (by simp [loopFuel]; omega)
  intro i hi
  have hlt' : (i : Int) < (t.pull.length : Int) + 1 := by omega
  have hrl : (pI (runL t f)).length = t.pull.length + 1 := by simp
  have hcl : (cI (reL t)).length = (t.pull.length + 1) * 2 := by simp
  have hcd := cI_drop (reL t) i (by simpa using hi)
  have hre : ∀ q, (reL t)[i]'q = (runF t t.fh i, runF t t.fl i) := fun q => by simp [reL]
  rw [hre] at hcd
  have hw := wrap_succ (i := i) (by omega)
  have n0 := runF_nonneg t f i
  have n1 := runF_anti t hf2 i
  have n2 := runF_anti t hf1 i
  have m0 : ¬ runF t f i < 0 := by omega
  have m1 : ¬ runF t f i < runF t t.fh i := by omega
  have m2 : ¬ runF t t.fl i < runF t f i := by omega
  have hi2 : i * 2 < (t.pull.length + 1) * 2 := by omega
  have hg0 : ∀ q, (pI (runL t f))[i]'q = .int .i64 (runF t f i) := fun q => by simp [pI, runL]
  cases i with
  | zero =>
    generalize hP : pI (runL t f) = P at *
    generalize hQ : cI (reL t) = Q at *
    refine ⟨?_, ?h1, ?h2⟩
    case h1 =>
      simp -implicitDefEqProofs [r1, stS, hP, hQ, loopS_eq, c10L1, hrl, hcl, hcd, hg0, m0, m1, m2, show IntKind.i64.wrap 1 = 1 from by decide]
      exact rfl
    case h2 => simp [r1, stS, hQ]
  | succ j =>
    have hg1 : ∀ q, (pI (runL t f))[j]'q = .int .i64 (runF t f j) := fun q => by simp [pI, runL]
    have hpg : ∀ q, (pI t.pull)[j]'q = .int .i64 (t.pull.getD j 0) := fun q => by
      have : j < t.pull.length := by omega
      simp [pI, List.getD_eq_getElem?_getD, this]
    have hpl : (pI t.pull).length = t.pull.length := by simp
    have hup := runF_in h (f := f) (by omega) j (by omega)
    have hpb := h.pulls (t.pull.getD j 0) (by
      have : j < t.pull.length := by omega
      rw [List.getD_eq_getElem?_getD, List.getElem?_eq_getElem this]; simp)
    have w1 := wrap64 (n := ((j + 1 : Nat) : Int) - 1) (by omega) (by omega)
    have w1' : ((j + 1 : Nat) : Int) - 1 = (j : Int) := by omega
    rw [w1'] at w1
    have w2 := wrap64 (n := runF t f j + t.pull.getD j 0) (by omega) (by omega)
    have w3 := wrap64 (n := runF t f j + t.pull.getD j 0 - f) (by omega) (by omega)
    have mx := max2 0 (runF t f j + t.pull.getD j 0 - f)
    have hrec : runF t f (j + 1) = max 0 (runF t f j + t.pull.getD j 0 - f) := rfl
    have hjl : j < t.pull.length := by omega
    have hjl1 : j < t.pull.length + 1 := by omega
    rw [← hrec] at mx
    generalize hP : pI (runL t f) = P at *
    generalize hQ : cI (reL t) = Q at *
    generalize hR : pI t.pull = R at *
    generalize hv : t.pull.getD j 0 = v at *
    clear hrec
    generalize runF t f (j + 1) = a1 at *
    generalize runF t t.fh (j + 1) = a2 at *
    generalize runF t t.fl (j + 1) = a3 at *
    generalize runF t f j = a4 at *
    have hp0 : (0 : Int) < (j : Int) + 1 := by omega
    have hjl2 : (j : Int) < (t.pull.length : Int) + 1 := by omega
    have hw' := wrap64 (n := (j : Int) + 1 + 1) (by omega) (by omega)
    have hp1 : (j : Int) + 1 - 1 = j := by omega
    have hlt2 : (j : Int) + 1 < (t.pull.length : Int) + 1 := by omega
    have ht1 : ((j : Int) + 1).toNat = j + 1 := by omega
    have hj0 : (0 : Int) ≤ (j : Int) + 1 := by omega
    refine ⟨?_, ?h1, ?h2⟩
    case h1 =>
      simp -implicitDefEqProofs [r1, stS, hP, hQ, hR, loopS_eq, c10L1, hrl, hcl, hpl, hcd, hg0, hg1, hpg, m0, m1, m2, w1, w2, w3, mx, hjl, hjl1, hp0, hp1, hlt2, ht1, hj0, hjl2, hw']
      exact rfl
    case h2 => simp [r1, stS, hQ]
end Fw
