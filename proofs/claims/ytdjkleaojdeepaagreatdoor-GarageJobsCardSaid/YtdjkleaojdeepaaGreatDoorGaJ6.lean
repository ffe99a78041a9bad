/- Schedules: their checks and ends, both sides. -/
import Derived.Test.YtdjkleaojdeepaaGreatDoorGaJ5
set_option maxHeartbeats 16000000
set_option maxRecDepth 8000
namespace Fw
open Go
attribute [local irreducible] evCode evOps evOpsD evOper evOperD evOp evFn loopN T.All T.bind callPure callOp opsK opsDK restK seqK blockK loopS setK setQ giveK scalK gcK finish finS rfunK yldK yldB loopK

/-- the greatest end of the first jobs -/
def endF (l : List JobI) (st : List Int) : Nat → Int
  | 0 => 0
  | i + 1 => max (endF l st i) (st.getD i 0 + (l.getD i zJ).time)
def StOkJ (n : Nat) (st : List Int) : Prop := st.length = n ∧ ∀ i, i < n → 0 ≤ st.getD i 0 ∧ st.getD i 0 ≤ 1000000
theorem end55 {n : Nat} (hn : 1 ≤ n) (l : List JobI) (st : List Int) (hl : JobsOk l) (hs : StOkJ l.length st) : RUN n 55 [jsl l, isl st] = .ret (iv (endF l st l.length)) := by
  obtain ⟨d, rfl⟩ : ∃ d, n = d + 1 := ⟨n - 1, by omega⟩
  rw [RUN, call_eq fe55 _ rfl]
  have h8 := hl.1
  let inv : Nat → St := fun i => ⟨[(0, jsl l), (1, isl st), (5, iv (endF l st i)), (6, iv i)], []⟩
  have key : loopN (loopS (evFn F C0 G0 d) C0 G0 0 false [0, 1, 5, 6] c55L0) loopFuel (inv 0) = .ret (.exit 0, ⟨(inv l.length).env ++ [(10, .p (.bool false))], (inv l.length).sto⟩) := by
    rw [loop_run' inv l.length (e := .exit 0) (st' := ⟨(inv l.length).env ++ [(10, .p (.bool false))], (inv l.length).sto⟩) (by simp)]
    · rfl
    · intro i hi
      have hio : i < st.length := by have := hs.1; omega
      have wi := wrap_succ (i := i) (by omega)
      have b := hs.2 i hi
      have b2 := hl.2 _ (List.getElem_mem hi)
      have hdr := pI_drop st i hio
      rw [← getI hio] at hdr
      have hR := pI_len st
      have hJ := jR_len l
      have hlt : i * 6 < l.length * 6 := by omega
      have hrow := rowC_drop jc_len l i hi
      have hl4 : i * 6 + 4 < l.length * 6 := by omega
      have hd4 : (rowC jc l).drop (i * 6 + 4) = (jc l[i] ++ rowC jc (l.drop (i + 1))).drop 4 := by rw [← List.drop_drop, hrow]
      have w := wrap64 (n := st.getD i 0 + l[i].time) (by omega) (by omega)
      have mx := fun a b => max2 a b
      simp only [inv, endF, jsl, isl]
      rw [getJ hi]
      generalize endF l st i = e at *
      generalize st.getD i 0 = si at *
      generalize rowC jc (l.drop (i + 1)) = R3 at *
      generalize rowC jc l = J at *
      generalize l[i] = x at *
      generalize hA : pI st = A at *
      generalize A.drop (i + 1) = R2 at *
      obtain ⟨nm, a1, a2, a3, a4, a5⟩ := x
      simp only [jc, List.drop_succ_cons, List.drop_zero, List.cons_append, List.nil_append] at hrow hd4 w ⊢
      refine ⟨?_, ?h1, ?h2⟩
      case h1 =>
        simp -implicitDefEqProofs [loopS_eq, c55L0, hi, hio, hdr, hR, hJ, hlt, hrow, w, mx, wi]
        exact rfl
      case h2 => rfl
    · simp -implicitDefEqProofs [loopS_eq, c55L0, inv]
    · simp [loopFuel]; omega
  simp only [inv, jsl, isl] at key ⊢
  generalize rowC jc l = J at *
  generalize pI st = A at *
  generalize endF l st l.length = e at *
  simp only [Int.natCast_zero, endF] at key
  simp -implicitDefEqProofs [c55]
  rw [show loopN _ _ _ = _ from key]
  simp
theorem end111 {n : Nat} (hn : 1 ≤ n) (l : List JobI) (st : List Int) (hl : JobsOk l) (hs : StOkJ l.length st) : RUN n 111 [jsl l, isl st] = .ret (iv (endF l st l.length)) := by
  obtain ⟨d, rfl⟩ : ∃ d, n = d + 1 := ⟨n - 1, by omega⟩
  rw [RUN, call_eq fe111 _ rfl]
  have h8 := hl.1
  let inv : Nat → St := fun i => ⟨[(1, isl st), (5, iv (endF l st i)), (8, jsl l), (9, iv l.length), (10, iv i)], []⟩
  have key : loopN (loopS (evFn F C0 G0 d) C0 G0 0 true [1, 5, 8, 9, 10] c111L0) loopFuel (inv 0) = .ret (.exit 0, ⟨(inv l.length).env ++ [(11, .p (.bool false))], (inv l.length).sto⟩) := by
    rw [loop_run' inv l.length (e := .exit 0) (st' := ⟨(inv l.length).env ++ [(11, .p (.bool false))], (inv l.length).sto⟩) (by simp)]
    · rfl
    · intro i hi
      have hio : i < st.length := by have := hs.1; omega
      have wi := wrap_succ (i := i) (by omega)
      have b := hs.2 i hi
      have b2 := hl.2 _ (List.getElem_mem hi)
      have hdr := pI_drop st i hio
      rw [← getI hio] at hdr
      have hR := pI_len st
      have hJ := jR_len l
      have hlt : i * 6 < l.length * 6 := by omega
      have hlt6 : i * 6 + 6 ≤ l.length * 6 := by omega
      have hrow := rowC_drop jc_len l i hi
      have w := wrap64 (n := st.getD i 0 + l[i].time) (by omega) (by omega)
      have mx := fun a b => max2 a b
      simp only [inv, endF, jsl, isl]
      rw [getJ hi]
      generalize endF l st i = e at *
      generalize st.getD i 0 = si at *
      generalize rowC jc (l.drop (i + 1)) = R3 at *
      generalize rowC jc l = J at *
      generalize l[i] = x at *
      generalize hA : pI st = A at *
      generalize A.drop (i + 1) = R2 at *
      obtain ⟨nm, a1, a2, a3, a4, a5⟩ := x
      simp only [jc] at hrow w ⊢
      refine ⟨?_, ?h1, ?h2⟩
      case h1 =>
        simp -implicitDefEqProofs [loopS_eq, c111L0, hi, hio, hdr, hR, hJ, hlt, hrow, w, mx, wi]
        exact rfl
      case h2 => exact loopS_same (by simp) (by simp)
    · simp -implicitDefEqProofs [loopS_eq, c111L0, inv]
    · simp [loopFuel]; omega
  simp only [inv, jsl, isl] at key ⊢
  generalize rowC jc l = J at *
  generalize pI st = A at *
  generalize endF l st l.length = e at *
  simp only [Int.natCast_zero, endF] at key
  simp -implicitDefEqProofs [c111]
  rw [show loopN _ _ _ = _ from key]
  simp
/-- the error of starts -/
def staE (n : Nat) (st : List Int) : Int := if st.length ≠ n then 2 else firstE (st.map (rangeE 0 1000000))
theorem sta_ok {n : Nat} {st : List Int} (h : staE n st = 0) : StOkJ n st := by
  unfold staE at h
  split at h
  · cases h
  · rename_i hl
    have hl : st.length = n := by simpa using hl
    refine ⟨hl, fun i hi => ?_⟩
    have h1 := firstE_zero.1 h (rangeE 0 1000000 (st[i]'(by omega))) (List.mem_map.2 ⟨_, List.getElem_mem _, rfl⟩)
    rw [getI (show i < st.length by omega)]
    unfold rangeE at h1
    split at h1
    · cases h1
    · omega
theorem starts53 {n : Nat} (hn : 3 ≤ n) (l : List JobI) (hl : l.length < 1000000) (st : List Int) (_hs : st.length < 1000000) : RUN n 53 [jsl l, isl st] = .ret (iv (staE l.length st)) := by
  obtain ⟨d, rfl⟩ : ∃ d, n = d + 3 := ⟨n - 3, by omega⟩
  rw [RUN, call_eq fe53 _ rfl]
  have hR := pI_len st
  by_cases c : st.length = l.length
  · have hcb : ((st.length : Int) != l.length) = false := by simp; omega
    have hci : ((st.length : Int)) = l.length := by omega
    simp only [staE, c, ne_eq, not_true_eq_false, if_false]
    let inv : Nat → St := fun i => ⟨[(1, isl st), (5, iv i)], []⟩
    have kr := fun x => range24 (n := d + 2) (by omega) x 0 1000000
    simp -implicitDefEqProofs [c53, hci]
    rw [loop_errs (st0 := ⟨[(1, isl st), (5, .p (.int .i64 0))], []⟩) inv (st.map (rangeE 0 1000000)) (.exit 0, ⟨(inv st.length).env ++ [(15, .p (.bool false))], []⟩) (fun e => (.ret, ⟨[(4, iv e)], []⟩)) (by rfl)]
    · by_cases y : firstE (st.map (rangeE 0 1000000)) = 0
      · simp -implicitDefEqProofs [y, inv]
      · simp -implicitDefEqProofs [y]
    · intro i hi
      have hi' : i < st.length := by simpa using hi
      have w2 := wrap_succ (i := i) (by omega)
      have hdr := pI_drop st i hi'
      have kr := kr st[i]
      simp only [List.getElem_map]
      generalize rangeE 0 1000000 st[i] = e at *
      simp only [inv, isl]
      generalize hA : pI st = A at *
      generalize A.drop (i + 1) = R2 at *
      generalize st[i] = s at *
      refine ⟨fun he => ⟨_, ?_, rfl⟩, fun he => ?_⟩
      · simp -implicitDefEqProofs [loopS_eq, c53L0, hi', hR, hdr, kr, he, w2]
      · simp -implicitDefEqProofs [loopS_eq, c53L0, hi', hR, hdr, kr, he]
    · intro e; simp
    · simp -implicitDefEqProofs [inv, loopS_eq, c53L0]
    · simp
    · simp [loopFuel]; omega
  · have hcb : ((st.length : Int) != l.length) = true := by simp; omega
    have hci : ¬ ((st.length : Int)) = l.length := by omega
    simp only [staE, c, ne_eq, not_false_eq_true, if_true]
    simp -implicitDefEqProofs [c53, hcb]
theorem check144 {n : Nat} (hn : 3 ≤ n) (x : Int) : RUN n 144 [iv x] = .ret (iv (rangeE 0 1000000 x)) := by
  obtain ⟨d, rfl⟩ : ∃ d, n = d + 3 := ⟨n - 3, by omega⟩
  rw [RUN, call_eq fe144 _ rfl]
  have k := within92 (n := d + 2) (by omega) x 0 1000000
  simp -implicitDefEqProofs [c144, k]
def stG : PVal → PVal
  | .int _ n => .int .i64 (rangeE 0 1000000 n)
  | c => c
theorem map105s {n : Nat} (hn : 4 ≤ n) (l : List Int) (hl : l.length < 1000000) : RUN n 105 [isl l, .p (.clo 144 [] [])] = .ret (.own (pI (l.map (rangeE 0 1000000))) l.length 1) := by
  obtain ⟨d, rfl⟩ : ∃ d, n = d + 4 := ⟨n - 4, by omega⟩
  have hPl : (pI l).length = l.length := by simp [pI]
  have k := map_ok (C := C0) (G := G0) (d := d + 3) fc105 (by decide) (fun _ => rfl) (pI l) 144 [] stG (by rw [hPl]; exact hl) (by simp) (by
    intro x hx
    simp only [pI, List.mem_map] at hx
    obtain ⟨y, hy, rfl⟩ := hx
    exact ⟨check144 (by omega) y, rfl⟩)
  rw [hPl] at k
  have e : (pI l).map stG = pI (l.map (rangeE 0 1000000)) := by simp [pI, stG, Function.comp_def]
  rw [e] at k
  exact k
theorem starts115 {n : Nat} (hn : 5 ≤ n) (l : List JobI) (hl : l.length ≤ 9223372036854775807) (hx : ∀ x ∈ l, x.name.length ≤ 9223372036854775807) (st : List Int) (hs : st.length < 1000000) : RUN n 115 [jsl l, isl st] = .ret (iv (firstE [jobE l, staE l.length st])) := by
  obtain ⟨d, rfl⟩ : ∃ d, n = d + 5 := ⟨n - 5, by omega⟩
  rw [RUN, call_eq fe115 _ rfl]
  have k57 := jobs57 (n := d + 4) (by omega) l hl hx
  have kw := fun b => when104 (n := d + 4) (by omega) b 2
  have k2 := fun a b => first91_2 (n := d + 4) (by omega) a b
  have km := map105s (n := d + 4) (by omega) st hs
  have kf := first91 (n := d + 4) (by omega) (st.map (rangeE 0 1000000)) (by simpa using hs)
  have hlm : (st.map (rangeE 0 1000000)).length = st.length := by simp
  rw [hlm] at kf
  have hE : firstE [jobE l, staE l.length st] = if firstE [jobE l, whenE (decide (st.length ≠ l.length)) 2] = 0 then firstE (st.map (rangeE 0 1000000)) else firstE [jobE l, whenE (decide (st.length ≠ l.length)) 2] := by
    unfold staE
    by_cases hj : jobE l = 0
    · by_cases c : st.length = l.length
      · simp [firstE, whenE, hj, c]
        exact fun h => h.symm
      · simp [firstE, whenE, hj, c]
    · simp [firstE, hj]
  rw [hE]
  have hb : ((st.length : Int) != l.length) = decide (st.length ≠ l.length) := by
    by_cases c : st.length = l.length
    · simp [c]
    · have : ¬ (st.length : Int) = l.length := by omega
      simp [c]; omega
  generalize firstE (st.map (rangeE 0 1000000)) = e2 at *
  generalize hF : firstE [jobE l, whenE (decide (st.length ≠ l.length)) 2] = f at *
  generalize decide (st.length ≠ l.length) = q at *
  generalize jobE l = e1 at *
  simp only [jsl, isl] at *
  generalize rowC jc l = J at *
  generalize pI (st.map (rangeE 0 1000000)) = P2 at *
  generalize pI st = P1 at *
  by_cases hf : f = 0
  · subst hf
    rw [if_pos rfl]
    simp -implicitDefEqProofs [c115, k57, kw, k2, km, kf, hb, hF]
  · rw [if_neg hf]
    simp -implicitDefEqProofs [c115, k57, kw, k2, hb, hF, hf]
end Fw
