/- Sets compared: the library, the pulse chapter and its reference. -/
import Derived.Test.YtombnimlolbekaaGreatDoorPuX4
set_option maxHeartbeats 8000000
namespace Fw
open Go
attribute [local irreducible] evCode evOps evOpsD evOper evOperD evOp evFn loopN T.All T.bind callPure callOp opsK opsDK restK seqK blockK loopS setK setQ giveK scalK gcK finish finS rfunK yldK yldB loopK

def cmpI (a b : Int) : Int := if a < b then -1 else if b < a then 1 else 0

theorem nan191 {n : Nat} (hn : 1 ≤ n) (a : Int) : RUN n 191 [iv a] = .ret (.p (.bool false)) := by
  obtain ⟨d, rfl⟩ : ∃ d, n = d + 1 := ⟨n - 1, by omega⟩
  rw [RUN, call_eq fe191 _ rfl]
  simp -implicitDefEqProofs [c191]
theorem cmp174 {n : Nat} (hn : 2 ≤ n) (a b : Int) : RUN n 174 [iv a, iv b] = .ret (iv (cmpI a b)) := by
  obtain ⟨d, rfl⟩ : ∃ d, n = d + 2 := ⟨n - 2, by omega⟩
  rw [RUN, call_eq fe174 _ rfl]
  have h1 := nan191 (n := d + 1) (by omega) a
  have h2 := nan191 (n := d + 1) (by omega) b
  unfold cmpI
  by_cases c1 : a < b
  · simp -implicitDefEqProofs [c174, h1, h2, c1]
  · by_cases c2 : b < a <;> simp -implicitDefEqProofs [c174, h1, h2, c1, c2]

theorem or173 {n : Nat} (hn : 1 ≤ n) (l : List Int) (hl : l.length < 1000000) : RUN n 173 [isl l] = .ret (iv (firstE l)) := by
  obtain ⟨d, rfl⟩ : ∃ d, n = d + 1 := ⟨n - 1, by omega⟩
  rw [RUN, call_eq fe173 _ rfl]
  let inv : Nat → St := fun i => ⟨[(3, iv 0), (6, isl l), (7, iv l.length), (8, iv i)], []⟩
  have hm : firstE l = firstE ((List.range l.length).map fun i => l.getD i 0) := by
    congr 1
    refine List.ext_getElem (by simp) (fun i h1 h2 => ?_)
    have : i < l.length := h1
    simp [List.getElem?_eq_getElem this]
  have key := loop_first (step := loopS (evFn F C0 G0 d) C0 G0 0 false [3, 6, 7, 8] c173L0) inv (fun i => l.getD i 0) l.length (.exit 0, ⟨(inv l.length).env ++ [(9, .p (.bool false))], []⟩) (fun i => (.ret, ⟨[(2, iv (l.getD i 0))], []⟩))
    (st0 := ⟨[(3, iv 0), (6, isl l), (7, iv l.length), (8, iv 0)], []⟩) rfl (fun i hi => by
      have hlt' : (i : Int) < l.length := by omega
      have hgo : l[i]? = some l[i] := List.getElem?_eq_getElem hi
      have hgi : l.getD i 0 = l[i] := by simp [List.getD_eq_getElem?_getD, hgo]
      rw [hgi]
      refine ⟨fun hz => ⟨inv (i + 1), ?_, rfl⟩, fun hz => ?_⟩
      · simp -implicitDefEqProofs [inv, loopS_eq, c173L0, hi, hlt', hz, wrap_succ (i := i) (by omega)]
      · simp -implicitDefEqProofs [inv, loopS_eq, c173L0, hi, hlt', hz]) (fun i => by simp) (by simp -implicitDefEqProofs [inv, loopS_eq, c173L0]) (by simp) (fuel := loopFuel) (by simp [loopFuel]; omega)
  simp -implicitDefEqProofs [c173]
  rw [hm]
  rcases key with ⟨k1, k2⟩ | ⟨j, hj, k1, k2, k3, _⟩
  · rw [k1, k2]
    simp -implicitDefEqProofs [inv]
  · rw [k1, k2]
    simp -implicitDefEqProofs
theorem or173_3 {n : Nat} (hn : 1 ≤ n) (a b c : Int) : RUN n 173 [.p (.sl [.int .i64 a, .int .i64 b, .int .i64 c] 3)] = .ret (iv (firstE [a, b, c])) := or173 hn [a, b, c] (by simp)

/-- lists of one length, compared where they first differ -/
def lexE (a b : List Int) (k : Nat) : Int := cmpI (a.getD k 0) (b.getD k 0)
def lexI (a b : List Int) : Int := firstE ((List.range a.length).map (lexE a b))
/-- the library's comparison: where the lengths are alike -/
theorem scmp175 {n : Nat} (hn : 3 ≤ n) (a b : List Int) (hab : a.length = b.length) (hl : a.length < 1000000) : RUN n 175 [isl a, isl b] = .ret (iv (lexI a b)) := by
  obtain ⟨d, rfl⟩ : ∃ d, n = d + 3 := ⟨n - 3, by omega⟩
  rw [RUN, call_eq fe175 _ rfl]
  let inv : Nat → St := fun i => ⟨[(0, isl a), (1, isl b), (9, isl a), (10, iv a.length), (11, iv i)], []⟩
  have key := loop_first (step := loopS (evFn F C0 G0 (d + 2)) C0 G0 0 false [0, 1, 9, 10, 11] c175L0) inv (lexE a b) a.length (.exit 0, ⟨(inv a.length).env ++ [(12, .p (.bool false))], []⟩) (fun i => (.ret, ⟨[(4, iv (lexE a b i))], []⟩))
    (st0 := ⟨[(0, isl a), (1, isl b), (9, isl a), (10, iv a.length), (11, iv 0)], []⟩) rfl (fun i hi => by
      have hlt' : (i : Int) < a.length := by omega
      have hib : i < b.length := by omega
      have hltb : (i : Int) < b.length := by omega
      have hnb : ¬ (b.length : Int) ≤ i := by omega
      have hnb2 : ¬ b.length ≤ i := by omega
      have g1 : a.getD i 0 = a[i] := by simp [List.getD_eq_getElem?_getD, List.getElem?_eq_getElem hi]
      have g2 : b.getD i 0 = b[i] := by simp [List.getD_eq_getElem?_getD, List.getElem?_eq_getElem hib]
      have he : lexE a b i = cmpI a[i] b[i] := by simp only [lexE, g1, g2]
      have h1 := cmp174 (n := d + 2) (by omega) a[i] b[i]
      rw [he]
      refine ⟨fun hz => ⟨inv (i + 1), ?_, rfl⟩, fun hz => ?_⟩
      · simp -implicitDefEqProofs [inv, loopS_eq, c175L0, hi, hib, hlt', hltb, hnb, h1, hz, wrap_succ (i := i) (by omega)]
      · simp -implicitDefEqProofs [inv, loopS_eq, c175L0, hi, hib, hlt', hltb, hnb, h1, hz]) (fun i => by simp) (by simp -implicitDefEqProofs [inv, loopS_eq, c175L0]) (by simp) (fuel := loopFuel) (by simp [loopFuel]; omega)
  simp -implicitDefEqProofs [c175]
  rcases key with ⟨k1, k2⟩ | ⟨j, hj, k1, k2, k3, _⟩
  · rw [k1, lexI, k2]
    simp -implicitDefEqProofs [inv, hab]
  · rw [k1, lexI, k2]
    simp -implicitDefEqProofs

/-- is a set before another one that costs as much? -/
def beforeB (a b : List Int) : Bool := if a.length = b.length then decide (lexI a b < 0) else decide (a.length < b.length)
theorem before148 {n : Nat} (hn : 1 ≤ n) (a b : List Int) (hl : a.length < 1000000) : RUN n 148 [isl a, isl b] = .ret (.p (.bool (beforeB a b))) := by
  obtain ⟨d, rfl⟩ : ∃ d, n = d + 1 := ⟨n - 1, by omega⟩
  rw [RUN, call_eq fe148 _ rfl]
  by_cases hab : a.length = b.length
  · have hB : beforeB a b = decide (lexI a b < 0) := by rw [beforeB, if_pos hab]
    rw [hB]
    let inv : Nat → St := fun i => ⟨[(0, isl a), (1, isl b), (5, iv i)], []⟩
    have key := loop_first (step := loopS (evFn F C0 G0 d) C0 G0 0 false [0, 1, 5] c148L0) inv (lexE a b) a.length (.exit 0, ⟨(inv a.length).env ++ [(19, .p (.bool false))], []⟩) (fun i => (.ret, ⟨[(4, .p (.bool (decide (lexE a b i < 0))))], []⟩))
      (st0 := ⟨[(0, isl a), (1, isl b), (5, iv 0)], []⟩) rfl (fun i hi => by
        have hlt' : (i : Int) < a.length := by omega
        have hib : i < b.length := by omega
        have hltb : (i : Int) < b.length := by omega
        have g1 : a.getD i 0 = a[i] := by simp [List.getD_eq_getElem?_getD, List.getElem?_eq_getElem hi]
        have g2 : b.getD i 0 = b[i] := by simp [List.getD_eq_getElem?_getD, List.getElem?_eq_getElem hib]
        have he : lexE a b i = cmpI a[i] b[i] := by simp only [lexE, g1, g2]
        rw [he]
        by_cases hq : a[i] = b[i]
        · have hc : cmpI a[i] b[i] = 0 := by simp [cmpI, hq]
          refine ⟨fun hz => ⟨inv (i + 1), ?_, rfl⟩, fun hz => absurd hc hz⟩
          simp -implicitDefEqProofs [inv, loopS_eq, c148L0, hib, hltb, hab, hq, wrap_succ (i := i) (by omega)]
        · have hnb : (a[i] != b[i]) = true := by simpa using hq
          have hc : cmpI a[i] b[i] ≠ 0 := by unfold cmpI; split <;> (try split) <;> omega
          refine ⟨fun hz => absurd hz hc, fun _ => ?_⟩
          have hd : decide (cmpI a[i] b[i] < 0) = decide (a[i] < b[i]) := by
            rw [Bool.eq_iff_iff, decide_eq_true_eq, decide_eq_true_eq]; unfold cmpI; split <;> (try split) <;> omega
          rw [hd]
          simp -implicitDefEqProofs [inv, loopS_eq, c148L0, hib, hltb, hab, hnb]) (fun i => by simp) (by simp -implicitDefEqProofs [inv, loopS_eq, c148L0]) (by simp) (fuel := loopFuel) (by simp [loopFuel]; omega)
    simp -implicitDefEqProofs [c148, hab]
    rcases key with ⟨k1, k2⟩ | ⟨j, hj, k1, k2, k3, _⟩
    · rw [k1, lexI, k2]
      simp -implicitDefEqProofs [inv]
    · rw [k1, lexI, k2]
      simp -implicitDefEqProofs
  · have hB : beforeB a b = decide (a.length < b.length) := by rw [beforeB, if_neg hab]
    have hne : ((a.length : Int) != b.length) = true := by simp; omega
    have hd : decide ((a.length : Int) < b.length) = decide (a.length < b.length) := by rw [Bool.eq_iff_iff]; simp
    rw [hB]
    simp -implicitDefEqProofs [c148, hne]
end Fw
