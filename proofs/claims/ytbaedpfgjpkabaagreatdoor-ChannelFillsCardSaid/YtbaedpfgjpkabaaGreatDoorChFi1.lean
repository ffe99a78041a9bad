/- Gaps of a record: their checks, which samples are missing. -/
import Derived.Test.YtbaedpfgjpkabaaGreatDoorChS1
set_option maxHeartbeats 8000000
namespace Fw
open Go
attribute [local irreducible] evCode evOps evOpsD evOper evOperD evOp evFn loopN T.All T.bind callPure callOp opsK opsDK restK seqK blockK loopS setK setQ giveK scalK gcK finish finS rfunK yldK yldB loopK

def gbad (n : Int) (x : Int × Int) : Bool := (decide (x.1 < 0) || decide (x.2 ≤ x.1)) || decide (n < x.2)
def gap1 (n p : Int) (x : Int × Int) : Int := firstE [whenE (gbad n x) 14, whenE (decide (x.1 ≤ p)) 15]
def endB (g : List (Int × Int)) (i : Nat) : Int := if i = 0 then -1 else (g.getD (i - 1) (0, 0)).2
def gapL (g : List (Int × Int)) (n : Int) : List Int := (List.range g.length).map fun i => gap1 n (endB g i) (g.getD i (0, 0))
def gapE (g : List (Int × Int)) (n : Int) : Int := if 32 < g.length then 5 else firstE (gapL g n)
@[simp] theorem gapL_length (g : List (Int × Int)) (n : Int) : (gapL g n).length = g.length := by simp [gapL]
theorem gapL_get (g : List (Int × Int)) (n : Int) (i : Nat) (h : i < (gapL g n).length) : (gapL g n)[i] = gap1 n (endB g i) (g[i]'(by simpa using h)) := by
  have h' : i < g.length := by simpa using h
  simp [gapL, List.getD_eq_getElem?_getD, h']
theorem endB_succ (g : List (Int × Int)) (i : Nat) (h : i < g.length) : endB g (i + 1) = g[i].2 := by
  simp [endB, List.getD_eq_getElem?_getD, h]

theorem full151 {n : Nat} (hn : 3 ≤ n) (x : Int × Int) (m : Int) : RUN n 151 [.agg [iv x.1, iv x.2], iv m] = .ret (iv (whenE (gbad m x) 14)) := by
  obtain ⟨d, rfl⟩ : ∃ d, n = d + 3 := ⟨n - 3, by omega⟩
  rw [RUN, call_eq fe151 _ rfl]
  have kw := fun b => when109 (n := d + 2) (by omega) b 14
  obtain ⟨a, b⟩ := x
  unfold gbad
  simp only
  by_cases c1 : a < 0
  · simp -implicitDefEqProofs [c151, kw, c1]
  · by_cases c2 : b ≤ a
    · simp -implicitDefEqProofs [c151, kw, c1, c2]
    · simp -implicitDefEqProofs [c151, kw, c1, c2]

theorem gaps148 {n : Nat} (hn : 3 ≤ n) (g : List (Int × Int)) (hl : g.length < 1000000) (m : Int) : RUN n 148 [csl g, iv m] = .ret (iv (gapE g m)) := by
  obtain ⟨d, rfl⟩ : ∃ d, n = d + 3 := ⟨n - 3, by omega⟩
  rw [RUN, call_eq fe148 _ rfl]
  have kw := fun b e => when104 (n := d + 2) (by omega) b e
  have k3 := fun a b => first103_2 (n := d + 2) (by omega) a b
  by_cases c : (32 : Int) < g.length
  · have c' : 32 < g.length := by omega
    simp -implicitDefEqProofs [c148, c, gapE, c']
  · have c' : ¬ 32 < g.length := by omega
    let inv : Nat → St := fun i => ⟨[(1, iv m), (5, iv (endB g i)), (12, csl g), (13, iv g.length), (14, iv i)], []⟩
    have hloop : ∃ r, loopN (loopS (evFn F C0 G0 (d + 2)) C0 G0 0 true [1, 5, 12, 13, 14] c148L0) loopFuel ⟨[(1, iv m), (5, .p (.int .i64 (-1))), (12, csl g), (13, iv g.length), (14, .p (.int .i64 0))], []⟩ = .ret r ∧ (firstE (gapL g m) = 0 → r = (.exit 0, ⟨(inv g.length).env ++ [(15, .p (.bool false))], []⟩)) ∧ (firstE (gapL g m) ≠ 0 → r.1 = .ret ∧ r.2.env = [(4, iv (firstE (gapL g m)))]) := by
      refine loop_errsQ inv (gapL g m) _ (fun e r => r.1 = .ret ∧ r.2.env = [(4, iv e)]) rfl ?_ ?_ (by simp) (by simp [loopFuel]; omega)
      · intro i hi
        simp only [gapL_length] at hi
        have w2 := wrap_succ (i := i) (by omega)
        have hdr := cI_drop g i hi
        have hlt : i * 2 < g.length * 2 := by omega
        have he' := endB_succ g i hi
        rw [gapL_get]
        simp only [inv, he']
        unfold gap1 gbad
        generalize endB g i = p at *
        generalize cI (g.drop (i + 1)) = R at *
        generalize hA : cI g = A at *
        have hAl : A.length = g.length * 2 := by rw [← hA]; simp
        generalize g[i] = x at *
        obtain ⟨a, b⟩ := x
        simp only at hdr ⊢
        by_cases c1 : a < 0
        · refine ⟨fun he => ?_, fun he => ?_⟩
          · simp [c1, firstE, whenE] at he
          · refine ⟨_, by simp -implicitDefEqProofs [loopS_eq, c148L0, hi, hA, hAl, hlt, hdr, kw, k3, firstE, whenE, c1]; exact rfl, ?_⟩
            refine ⟨by simp, ?_⟩
            simp [c1, firstE, whenE]
        · by_cases c2 : b ≤ a
          · refine ⟨fun he => ?_, fun he => ?_⟩
            · simp [c1, c2, firstE, whenE] at he
            · refine ⟨_, by simp -implicitDefEqProofs [loopS_eq, c148L0, hi, hA, hAl, hlt, hdr, kw, k3, firstE, whenE, c1, c2]; exact rfl, ?_⟩
              refine ⟨by simp, ?_⟩
              simp [c1, c2, firstE, whenE]
          · by_cases c3 : m < b
            · refine ⟨fun he => ?_, fun he => ?_⟩
              · simp [c1, c2, c3, firstE, whenE] at he
              · refine ⟨_, by simp -implicitDefEqProofs [loopS_eq, c148L0, hi, hA, hAl, hlt, hdr, kw, k3, firstE, whenE, c1, c2, c3]; exact rfl, ?_⟩
                refine ⟨by simp, ?_⟩
                simp [c1, c2, c3, firstE, whenE]
            · by_cases c4 : a ≤ p
              · refine ⟨fun he => ?_, fun he => ?_⟩
                · simp [c1, c2, c3, c4, firstE, whenE] at he
                · refine ⟨_, by simp -implicitDefEqProofs [loopS_eq, c148L0, hi, hA, hAl, hlt, hdr, kw, k3, firstE, whenE, c1, c2, c3, c4]; exact rfl, ?_⟩
                  refine ⟨by simp, ?_⟩
                  simp [c1, c2, c3, c4, firstE, whenE]
              · refine ⟨fun he => ⟨_, by simp -implicitDefEqProofs [loopS_eq, c148L0, hi, hA, hAl, hlt, hdr, kw, k3, firstE, whenE, c1, c2, c3, c4, w2]; exact rfl, ?_⟩, fun he => ?_⟩
                · exact loopS_same rfl (by simp)
                · simp [c1, c2, c3, c4, firstE, whenE] at he
      · simp only [gapL_length, inv]
        simp -implicitDefEqProofs [loopS_eq, c148L0]
    obtain ⟨r, hr, hok, hbad⟩ := hloop
    simp only [gapE, if_neg c']
    by_cases hz : firstE (gapL g m) = 0
    · have hre := hok hz
      subst hre
      rw [hz]
      simp only [inv] at hr
      simp -implicitDefEqProofs [c148, c, hr]
    · obtain ⟨b1, b2⟩ := hbad hz
      obtain ⟨e, env, sto⟩ := r
      simp only at b1 b2
      subst b1 b2
      simp -implicitDefEqProofs [c148, c, hr]

theorem gaps67 {n : Nat} (hn : 4 ≤ n) (l : List Nat) (g : List (Int × Int)) (hl : g.length < 1000000) : RUN n 67 [fsl l, csl g] = .ret (iv (gapE g l.length)) := by
  obtain ⟨d, rfl⟩ : ∃ d, n = d + 4 := ⟨n - 4, by omega⟩
  rw [RUN, call_eq fe67 _ rfl]
  generalize hm : (l.length : Int) = m at *
  by_cases c : (32 : Int) < g.length
  · have c' : 32 < g.length := by omega
    simp -implicitDefEqProofs [c67, c, gapE, c']
  · have c' : ¬ 32 < g.length := by omega
    simp only [gapE, if_neg c']
    let inv : Nat → St := fun i => ⟨[(0, fsl l), (1, csl g), (5, iv i)], []⟩
    simp -implicitDefEqProofs [c67, c]
    rw [loop_errs (st0 := ⟨[(0, fsl l), (1, csl g), (5, .p (.int .i64 0))], []⟩) inv (gapL g m) (.exit 0, ⟨(inv g.length).env ++ [(13, .p (.bool false))], []⟩) (fun e => (.ret, ⟨[(4, iv e)], []⟩)) (by rfl)]
    · by_cases y : firstE (gapL g m) = 0
      · simp -implicitDefEqProofs [y, inv]
      · simp -implicitDefEqProofs [y]
    · intro i hi
      simp only [gapL_length] at hi
      have w2 := wrap_succ (i := i) (by omega)
      have hdr := cI_drop g i hi
      have hlt : i * 2 < g.length * 2 := by omega
      have k := fun x => full151 (n := d + 3) (by omega) x m
      rw [gapL_get]
      unfold gap1
      by_cases hi0 : i = 0
      · subst hi0
        have he0 : endB g 0 = -1 := rfl
        rw [he0]
        generalize cI (g.drop (0 + 1)) = R at *
        generalize hA : cI g = A at *
        have hAl : A.length = g.length * 2 := by rw [← hA]; simp
        generalize g[0] = x at *
        have k' := k x
        have hf : firstE [whenE (gbad m x) 14, whenE (decide (x.1 ≤ -1)) 15] = whenE (gbad m x) 14 := by
          by_cases hb : gbad m x = true
          · simp [hb, firstE, whenE]
          · have : ¬ x.1 ≤ -1 := by simp [gbad] at hb; omega
            simp [hb, firstE, whenE, this]
        rw [hf]
        generalize whenE (gbad m x) 14 = e at *
        obtain ⟨a, b⟩ := x
        simp only at hdr k'
        have w0 : IntKind.i64.wrap 1 = 1 := by decide
        refine ⟨fun he => ⟨_, ?_, rfl⟩, fun he => ?_⟩
        · simp -implicitDefEqProofs [inv, loopS_eq, c67L0, hi, hm, hA, hAl, hlt, hdr, k', he, w0]
        · simp -implicitDefEqProofs [inv, loopS_eq, c67L0, hi, hm, hA, hAl, hlt, hdr, k', he]
      · have hi1 : i - 1 < g.length := by omega
        have hp : endB g i = g[i - 1].2 := by simp [endB, hi0, List.getD_eq_getElem?_getD, hi1]
        have hdp := cI_drop g (i - 1) hi1
        have hlp : (i - 1) * 2 < g.length * 2 := by omega
        have wi := wrap64 (n := (i : Int) - 1) (by omega) (by omega)
        have hci : ((i : Int) - 1) = ((i - 1 : Nat) : Int) := by omega
        have hpos : 0 < i := by omega
        rw [hp]
        rw [hci] at wi
        generalize hj : i - 1 = j at *
        generalize cI (g.drop (i + 1)) = R at *
        generalize cI (g.drop (j + 1)) = R2 at *
        generalize hA : cI g = A at *
        have hAl : A.length = g.length * 2 := by rw [← hA]; simp
        generalize g[i] = x at *
        generalize g[j] = y at *
        have k' := k x
        obtain ⟨a, b⟩ := x
        obtain ⟨p, q⟩ := y
        simp only at hdr hdp k' ⊢
        by_cases hb : gbad m (a, b) = true
        · have hw : whenE (gbad m (a, b)) 14 = 14 := by simp [hb, whenE]
          rw [hw] at k' ⊢
          refine ⟨fun he => ?_, fun he => ?_⟩
          · simp [firstE] at he
          · simp -implicitDefEqProofs [inv, loopS_eq, c67L0, hi, hm, hA, hAl, hlt, hdr, k', firstE]
        · have hw : whenE (gbad m (a, b)) 14 = 0 := by simp [hb, whenE]
          rw [hw] at k' ⊢
          by_cases c4 : a ≤ q
          · refine ⟨fun he => ?_, fun he => ?_⟩
            · simp [firstE, whenE, c4] at he
            · simp -implicitDefEqProofs [inv, loopS_eq, c67L0, hi, hm, hA, hAl, hlt, hlp, hdr, hdp, k', hpos, hi1, hci, wi, firstE, whenE, c4]
          · refine ⟨fun he => ⟨_, ?_, rfl⟩, fun he => ?_⟩
            · simp -implicitDefEqProofs [inv, loopS_eq, c67L0, hi, hm, hA, hAl, hlt, hlp, hdr, hdp, k', hpos, hi1, hci, wi, c4, w2]
            · simp [firstE, whenE, c4] at he
    · intro e; simp
    · simp -implicitDefEqProofs [inv, loopS_eq, c67L0]
    · simp
    · simp [loopFuel]; omega
end Fw
