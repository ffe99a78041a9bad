/- Traces and permitted spans: their checks, both sides. -/
import Derived.Test.YtdjkleaojdeepaaGreatDoorGaK
set_option maxHeartbeats 16000000
namespace Fw
open Go
attribute [local irreducible] evCode evOps evOpsD evOper evOperD evOp evFn loopN T.All T.bind callPure callOp opsK opsDK restK seqK blockK loopS setK setQ giveK scalK gcK finish finS rfunK yldK yldB loopK

def gbad (n : Int) (x : Int × Int) : Bool := (decide (x.1 < 0) || decide (x.2 ≤ x.1)) || decide (n < x.2)
def spn1 (p : Int) (x : Int × Int) : Int := firstE [whenE (gbad 100000000 x) 14, whenE (decide (x.1 < p)) 15]
def endG (g : List (Int × Int)) (i : Nat) : Int := if i = 0 then 0 else (g.getD (i - 1) (0, 0)).2
def spnL (g : List (Int × Int)) : List Int := (List.range g.length).map fun i => spn1 (endG g i) (g.getD i (0, 0))
def spnE (g : List (Int × Int)) : Int := if 32 < g.length then 5 else firstE (spnL g)
def traE (l : List Int) : Int := if 1024 < l.length then 5 else firstE (l.map (rangeE (-100000) 100000))
theorem spnL_length (g : List (Int × Int)) : (spnL g).length = g.length := by simp [spnL]
theorem spnL_get (g : List (Int × Int)) (i : Nat) (h : i < (spnL g).length) : (spnL g)[i] = spn1 (endG g i) (g[i]'(by simpa [spnL] using h)) := by
  have h' : i < g.length := by simpa [spnL] using h
  simp [spnL, List.getD_eq_getElem?_getD, h']
theorem endG_succ (g : List (Int × Int)) (i : Nat) (h : i < g.length) : endG g (i + 1) = g[i].2 := by
  simp [endG, List.getD_eq_getElem?_getD, h]
theorem full108 {n : Nat} (hn : 3 ≤ n) (x : Int × Int) (m : Int) : RUN n 108 [.agg [iv x.1, iv x.2], iv m] = .ret (iv (whenE (gbad m x) 14)) := by
  obtain ⟨d, rfl⟩ : ∃ d, n = d + 3 := ⟨n - 3, by omega⟩
  rw [RUN, call_eq fe108 _ rfl]
  have kw := fun b => when94 (n := d + 2) (by omega) b 14
  obtain ⟨a, b⟩ := x
  unfold gbad
  simp only
  by_cases c1 : a < 0
  · simp -implicitDefEqProofs [c108, kw, c1]
  · by_cases c2 : b ≤ a
    · simp -implicitDefEqProofs [c108, kw, c1, c2]
    · simp -implicitDefEqProofs [c108, kw, c1, c2]
theorem cI_len' (l : List (Int × Int)) : (cI l).length = l.length * 2 := by
  induction l with
  | nil => rfl
  | cons x r ih => simp only [cI, List.length_cons, ih]; omega
theorem short40 {n : Nat} (hn : 1 ≤ n) (l : List Int) : RUN n 40 [isl l] = .ret (.p (.bool (decide (l.length ≤ 40) || decide (l.length = 1025)))) := by
  obtain ⟨d, rfl⟩ : ∃ d, n = d + 1 := ⟨n - 1, by omega⟩
  rw [RUN, call_eq fe40 _ rfl]
  by_cases a : (l.length : Int) ≤ 40
  · have a' : l.length ≤ 40 := by omega
    simp -implicitDefEqProofs [c40, a, a']
  · have a' : ¬ l.length ≤ 40 := by omega
    have : ((l.length : Int) == 1025) = decide (l.length = 1025) := by
      by_cases b : l.length = 1025
      · simp [b]
      · have : ¬ (l.length : Int) = 1025 := by omega
        simp [b, this]
    simp -implicitDefEqProofs [c40, a, a', this]
theorem short41 {n : Nat} (hn : 1 ≤ n) (l : List (Int × Int)) : RUN n 41 [csl l] = .ret (.p (.bool (decide (l.length ≤ 8) || decide (l.length = 33)))) := by
  obtain ⟨d, rfl⟩ : ∃ d, n = d + 1 := ⟨n - 1, by omega⟩
  rw [RUN, call_eq fe41 _ rfl]
  by_cases a : (l.length : Int) ≤ 8
  · have a' : l.length ≤ 8 := by omega
    simp -implicitDefEqProofs [c41, a, a']
  · have a' : ¬ l.length ≤ 8 := by omega
    have : ((l.length : Int) == 33) = decide (l.length = 33) := by
      by_cases b : l.length = 33
      · simp [b]
      · have : ¬ (l.length : Int) = 33 := by omega
        simp [b, this]
    simp -implicitDefEqProofs [c41, a, a', this]
theorem trace44 {n : Nat} (hn : 3 ≤ n) (l : List Int) (hl : l.length < 1000000) : RUN n 44 [isl l] = .ret (iv (traE l)) := by
  obtain ⟨d, rfl⟩ : ∃ d, n = d + 3 := ⟨n - 3, by omega⟩
  rw [RUN, call_eq fe44 _ rfl]
  have hPl : (pI l).length = l.length := by simp [pI]
  by_cases c : (1024 : Int) < l.length
  · have c' : 1024 < l.length := by omega
    simp -implicitDefEqProofs [c44, c, traE, c']
  · have c' : ¬ 1024 < l.length := by omega
    simp only [traE, if_neg c']
    let inv : Nat → St := fun i => ⟨[(0, isl l), (3, iv i)], []⟩
    have kr := fun x => range24 (n := d + 2) (by omega) x (-100000) 100000
    simp -implicitDefEqProofs [c44, c]
    rw [loop_errs (st0 := ⟨[(0, isl l), (3, .p (.int .i64 0))], []⟩) inv (l.map (rangeE (-100000) 100000)) (.exit 0, ⟨(inv l.length).env ++ [(11, .p (.bool false))], []⟩) (fun e => (.ret, ⟨[(2, iv e)], []⟩)) (by rfl)]
    · by_cases y : firstE (l.map (rangeE (-100000) 100000)) = 0
      · simp -implicitDefEqProofs [y, inv]
      · simp -implicitDefEqProofs [y]
    · intro i hi
      have hi' : i < l.length := by simpa using hi
      have w2 := wrap_succ (i := i) (by omega)
      have hx : (pI l)[i]? = some (.int .i64 l[i]) := by simp [pI, hi']
      have hdr : (pI l).drop i = .int .i64 l[i] :: (pI l).drop (i + 1) := by
        rw [List.drop_eq_getElem_cons (by rw [hPl]; exact hi')]
        simp [pI]
      have kr := kr l[i]
      simp only [List.getElem_map]
      generalize rangeE (-100000) 100000 l[i] = e at *
      generalize hA : pI l = A at *
      generalize A.drop (i + 1) = R2 at *
      generalize l[i] = s at *
      refine ⟨fun he => ⟨_, ?_, rfl⟩, fun he => ?_⟩
      · simp -implicitDefEqProofs [inv, loopS_eq, c44L0, hi', hA, hPl, hdr, kr, he, w2]
      · simp -implicitDefEqProofs [inv, loopS_eq, c44L0, hi', hA, hPl, hdr, kr, he]
    · intro e; simp
    · simp -implicitDefEqProofs [inv, loopS_eq, c44L0]
    · simp
    · simp [loopFuel]; omega
theorem spans45 {n : Nat} (hn : 4 ≤ n) (g : List (Int × Int)) (hl : g.length < 1000000) : RUN n 45 [csl g] = .ret (iv (spnE g)) := by
  obtain ⟨d, rfl⟩ : ∃ d, n = d + 4 := ⟨n - 4, by omega⟩
  rw [RUN, call_eq fe45 _ rfl]
  by_cases c : (32 : Int) < g.length
  · have c' : 32 < g.length := by omega
    simp -implicitDefEqProofs [c45, c, spnE, c']
  · have c' : ¬ 32 < g.length := by omega
    simp only [spnE, if_neg c']
    let inv : Nat → St := fun i => ⟨[(0, csl g), (3, iv i)], []⟩
    simp -implicitDefEqProofs [c45, c]
    rw [loop_errs (st0 := ⟨[(0, csl g), (3, .p (.int .i64 0))], []⟩) inv (spnL g) (.exit 0, ⟨(inv g.length).env ++ [(11, .p (.bool false))], []⟩) (fun e => (.ret, ⟨[(2, iv e)], []⟩)) (by rfl)]
    · by_cases y : firstE (spnL g) = 0
      · simp -implicitDefEqProofs [y, inv]
      · simp -implicitDefEqProofs [y]
    · intro i hi
      have hi : i < g.length := by simpa [spnL] using hi
      have w2 := wrap_succ (i := i) (by omega)
      have hdr := cI_drop g i hi
      have hlt : i * 2 < g.length * 2 := by omega
      have hlt2 : i * 2 + 2 ≤ g.length * 2 := by omega
      have k := fun x => full108 (n := d + 3) (by omega) x 100000000
      rw [spnL_get]
      unfold spn1
      by_cases hi0 : i = 0
      · subst hi0
        have he0 : endG g 0 = 0 := rfl
        rw [he0]
        generalize cI (g.drop (0 + 1)) = R at *
        generalize hA : cI g = A at *
        have hAl : A.length = g.length * 2 := by rw [← hA]; exact cI_len' g
        generalize g[0] = x at *
        have k' := k x
        have hf : firstE [whenE (gbad 100000000 x) 14, whenE (decide (x.1 < 0)) 15] = whenE (gbad 100000000 x) 14 := by
          by_cases hb : gbad 100000000 x = true
          · simp [hb, firstE, whenE]
          · have : ¬ x.1 < 0 := by simp [gbad] at hb; omega
            simp [hb, firstE, whenE, this]
        rw [hf]
        generalize whenE (gbad 100000000 x) 14 = e at *
        obtain ⟨a, b⟩ := x
        simp only at hdr k'
        have w0 : IntKind.i64.wrap 1 = 1 := by decide
        refine ⟨fun he => ⟨_, ?_, rfl⟩, fun he => ?_⟩
        · simp -implicitDefEqProofs [inv, loopS_eq, c45L0, hi, hA, hAl, hlt, hdr, k', he, w0]
        · simp -implicitDefEqProofs [inv, loopS_eq, c45L0, hi, hA, hAl, hlt, hdr, k', he]
      · have hi1 : i - 1 < g.length := by omega
        have hp : endG g i = g[i - 1].2 := by simp [endG, hi0, List.getD_eq_getElem?_getD, hi1]
        have hdp := cI_drop g (i - 1) hi1
        have hlp : (i - 1) * 2 < g.length * 2 := by omega
        have wi := wrap64 (n := (i : Int) - 1) (by omega) (by omega)
        have hci : ((i : Int) - 1) = ((i - 1 : Nat) : Int) := by omega
        have hpos : 0 < i := by omega
        rw [hp]
        rw [hci] at wi
        generalize hj : i - 1 = j at *
        generalize cI (g.drop (i + 1)) = R at *
        generalize cI (g.drop (j + 1)) = R2 at *
        generalize hA : cI g = A at *
        have hAl : A.length = g.length * 2 := by rw [← hA]; exact cI_len' g
        generalize g[i] = x at *
        generalize g[j] = y at *
        have k' := k x
        obtain ⟨a, b⟩ := x
        obtain ⟨p, q⟩ := y
        simp only at hdr hdp k' ⊢
        by_cases hb : gbad 100000000 (a, b) = true
        · have hw : whenE (gbad 100000000 (a, b)) 14 = 14 := by simp [hb, whenE]
          rw [hw] at k' ⊢
          refine ⟨fun he => ?_, fun he => ?_⟩
          · simp [firstE] at he
          · simp -implicitDefEqProofs [inv, loopS_eq, c45L0, hi, hA, hAl, hlt, hdr, k', firstE]
        · have hw : whenE (gbad 100000000 (a, b)) 14 = 0 := by simp [hb, whenE]
          rw [hw] at k' ⊢
          by_cases c4 : a < q
          · refine ⟨fun he => ?_, fun he => ?_⟩
            · simp [firstE, whenE, c4] at he
            · simp -implicitDefEqProofs [inv, loopS_eq, c45L0, hi, hA, hAl, hlt, hlp, hdr, hdp, k', hpos, hi1, hci, wi, firstE, whenE, c4]
          · refine ⟨fun he => ⟨_, ?_, rfl⟩, fun he => ?_⟩
            · simp -implicitDefEqProofs [inv, loopS_eq, c45L0, hi, hA, hAl, hlt, hlp, hdr, hdp, k', hpos, hi1, hci, wi, c4, w2]
            · simp [firstE, whenE, c4] at he
    · intro e; simp
    · simp [spnL_length]
      simp -implicitDefEqProofs [inv, loopS_eq, c45L0]
    · simp
    · simp [spnL_length, loopFuel]; omega
end Fw
