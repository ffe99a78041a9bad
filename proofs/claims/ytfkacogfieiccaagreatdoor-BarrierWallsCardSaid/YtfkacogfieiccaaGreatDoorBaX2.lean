/- The forces on a wall and their peak: the chapter's and the reference's. -/
import Derived.Test.YtfkacogfieiccaaGreatDoorBaW3
set_option maxHeartbeats 8000000
namespace Fw
open Go
attribute [local irreducible] evCode evOps evOpsD evOper evOperD evOp evFn loopN T.All T.bind callPure callOp opsK opsDK restK seqK blockK loopS setK setQ giveK scalK gcK finish finS rfunK yldK yldB loopK

/-- the force of some cells at an index -/
def forI (l : List LoadI) (j : Nat) : Int := sumI (l.map fun x => x.s.getD j 0)
theorem forI_take {l : List LoadI} {i : Nat} (h : i < l.length) (j : Nat) : forI (l.take (i + 1)) j = forI (l.take i) j + l[i].s.getD j 0 := by
  unfold forI
  rw [← List.take_append_getElem h, List.map_append, sumI_append]
  simp [sumI]
theorem getD_in {l : List Int} {B : Int} (hB : 0 ≤ B) (h : ∀ x ∈ l, -B ≤ x ∧ x ≤ B) (j : Nat) : -B ≤ l.getD j 0 ∧ l.getD j 0 ≤ B := by
  by_cases hj : j < l.length
  · rw [getD_i hj]; exact h _ (List.getElem_mem hj)
  · simp [List.getD_eq_getElem?_getD, List.getElem?_eq_none (by omega : l.length ≤ j)]; omega
theorem forI_in {l : List LoadI} (h : ∀ i, (hi : i < l.length) → LoadOk l[i]) (j : Nat) : ∀ i, i ≤ l.length → -(1000000 * (i : Int)) ≤ forI (l.take i) j ∧ forI (l.take i) j ≤ 1000000 * (i : Int) := by
  intro i
  induction i with
  | zero => intro _; simp [forI, sumI]
  | succ i ih =>
    intro hi
    have h1 := ih (by omega)
    have h2 := h i (by omega)
    have h3 := getD_in (B := 1000000) (by omega) (fun x hx => by have := h2.sm x hx; have := h2.sc; omega) j
    rw [forI_take (by omega)]
    omega

theorem force142 {n : Nat} (hn : 1 ≤ n) {l : List LoadI} (hw : WallOk l) {j : Nat} (hj : j < (l.getD 0 loa0).s.length) : RUN n 142 [lol l, iv j] = .ret (iv (forI l j)) := by
  obtain ⟨d, rfl⟩ : ∃ d, n = d + 1 := ⟨n - 1, by omega⟩
  rw [RUN, call_eq fe142 _ rfl]
  have hl := hw.len
  let inv : Nat → St := fun i => ⟨[(0, lol l), (1, iv j), (5, iv (forI (l.take i) j)), (6, iv i)], []⟩
  have htl : l.take l.length = l := List.take_of_length_le (by omega)
  have key : loopN (loopS (evFn F C0 G0 d) C0 G0 0 false [0, 1, 5, 6] c142L0) loopFuel ⟨[(0, lol l), (1, iv j), (5, iv 0), (6, iv 0)], []⟩ = .ret (.exit 0, ⟨[(0, lol l), (1, iv j), (5, iv (forI l j)), (6, iv l.length), (10, .p (.bool false))], []⟩) := by
    refine loop_run' inv l.length (by simp) (by simp [inv, forI, sumI]) ?_ (by simp -implicitDefEqProofs [inv, loopS_eq, c142L0, htl]) (by simp [loopFuel]; omega)
    intro i hi
    have hx := rowC_drop lc6_len l i hi
    have hlt : i * 6 < l.length * 6 := by omega
    have hlt' : (i : Int) < l.length := by omega
    have ht := forI_take hi j
    have hb := forI_in hw.ok j (i + 1) (by omega)
    have he := hw.eq i hi
    have hj2 : j < l[i].s.length := by omega
    have hj3 : (j : Int) < l[i].s.length := by omega
    rw [getD_i hj2] at ht
    have hgo : l[i].s[j]? = some l[i].s[j] := List.getElem?_eq_getElem hj2
    have hw1 : IntKind.i64.wrap (forI (l.take i) j + l[i].s[j]) = forI (l.take (i + 1)) j := by
      rw [← ht]; exact wrap64 (by omega) (by omega)
    generalize l[i] = x at *
    refine ⟨inv (i + 1), ?_, rfl⟩
    simp -implicitDefEqProofs [inv, loopS_eq, c142L0, cW_len, hx, hlt, hlt', hj2, hj3, hw1, wrap_succ (i := i) (by omega)]
  simp -implicitDefEqProofs [c142, key]

/-- the forces of the first cells, and those with a part of the next one -/
def forT (l : List LoadI) (m i : Nat) : List Int := (List.range m).map fun j => forI (l.take i) j
def forG (l : List LoadI) (m i j : Nat) : List Int := (List.range m).map fun q => if q < j then forI (l.take (i + 1)) q else forI (l.take i) q
theorem forG_zero (l : List LoadI) (m i : Nat) : forG l m i 0 = forT l m i := by simp [forG, forT]
theorem forG_all (l : List LoadI) (m i : Nat) : forG l m i m = forT l m (i + 1) := by
  unfold forG forT
  refine List.map_congr_left (fun q hq => ?_)
  rw [if_pos (by simpa using hq)]
theorem forG_set {l : List LoadI} {m i j : Nat} (_hj : j < m) : (forG l m i j).set j (forI (l.take (i + 1)) j) = forG l m i (j + 1) := by
  refine List.ext_getElem (by simp [forG]) (fun q h1 h2 => ?_)
  have hq : q < m := by simpa [forG] using h2
  rw [List.getElem_set]
  by_cases e : j = q
  · subst e; simp [forG]
  · rw [if_neg e]
    simp only [forG, List.getElem_map, List.getElem_range]
    by_cases c : q < j
    · rw [if_pos c, if_pos (by omega)]
    · rw [if_neg c, if_neg (by omega)]
@[simp] theorem forG_length (l : List LoadI) (m i j : Nat) : (forG l m i j).length = m := by simp [forG]
@[simp] theorem forT_length (l : List LoadI) (m i : Nat) : (forT l m i).length = m := by simp [forT]
theorem flat_one (n : Nat) (l : List LoadI) : (List.replicate n [PVal.int .i64 0]).flatten = pI (forT l n 0) := by
  have : forT l n 0 = List.replicate n 0 := by
    refine List.ext_getElem (by simp) (fun q h1 h2 => ?_)
    simp [forT, forI, sumI]
  rw [this]
  induction n with
  | zero => rfl
  | succ n ih =>
    have h2 : forT l n 0 = List.replicate n 0 := by
      refine List.ext_getElem (by simp) (fun q h1 h2 => ?_)
      simp [forT, forI, sumI]
    have := ih h2
    simp only [List.replicate_succ, List.flatten_cons, this, pI, List.map_cons, List.singleton_append]

def wid (l : List LoadI) : Nat := (l.getD 0 loa0).s.length
def forL (l : List LoadI) : List Int := forT l (wid l) l.length
@[simp] theorem forL_length (l : List LoadI) : (forL l).length = wid l := by simp [forL]
theorem forL_get {l : List LoadI} {j : Nat} (h : j < (forL l).length) : (forL l)[j] = forI l j := by
  simp [forL, forT]
theorem wid_ok {l : List LoadI} (h : WallOk l) : 0 < wid l ∧ wid l ≤ 64 := by
  have := (h.ok 0 h.len.1).ln
  unfold wid
  rw [getD_w h.len.1]
  exact this

theorem forces134 {n : Nat} (hn : 1 ≤ n) {l : List LoadI} (hw : WallOk l) : RUN n 134 [lol l] = .ret (.own (pI (forL l)) (wid l) 1) := by
  obtain ⟨d, rfl⟩ : ∃ d, n = d + 1 := ⟨n - 1, by omega⟩
  rw [RUN, call_eq fe134 _ rfl]
  have hl := hw.len
  have hwd := wid_ok hw
  have hl0 : 0 < l.length := hl.1
  have h50 : ∀ q, (rowC lc6 l)[5]'q = .sl (pI l[0].s) (wid l) := fun q => by
    have := wall_five (l := l) hl0
    rw [List.getElem?_eq_getElem q] at this
    have hwid : wid l = l[0].s.length := by unfold wid; rw [getD_w hl0]
    rw [hwid]
    exact Option.some.inj this
  have hlp6 : 5 < l.length * 6 := by omega
  let m := wid l
  let inv : Nat → St := fun i => ⟨[(3, .sl 0 0 0 m), (14, lol l), (15, iv l.length), (16, iv i)], [(0, .arr (pI (forT l m i)) 0 1)]⟩
  have key : loopN (loopS (evFn F C0 G0 d) C0 G0 0 true [3, 14, 15, 16] c134L1) loopFuel ⟨[(3, .sl 0 0 0 m), (14, lol l), (15, iv l.length), (16, iv 0)], [(0, .arr (pI (forT l m 0)) 0 1)]⟩ = .ret (.exit 0, ⟨(inv l.length).env ++ [(17, .p (.bool false))], (inv l.length).sto⟩) := by
    refine loop_run' inv l.length (by simp) (loopS_same rfl (by simp [inv])) ?_ (by simp -implicitDefEqProofs [inv, loopS_eq, c134L1]) (by simp [loopFuel]; omega)
    intro i hi
    have hx := rowC_drop lc6_len l i hi
    have hlt : i * 6 < l.length * 6 := by omega
    have hlt' : (i : Int) < l.length := by omega
    have he : l[i].s.length = m := hw.eq i hi
    have inner : loopN (loopS (evFn F C0 G0 d) C0 G0 0 false [3, 14, 15, 16, 21, 22, 23] c134L0) loopFuel ⟨[(3, .sl 0 0 0 m), (14, lol l), (15, iv l.length), (16, iv i), (21, isl l[i].s), (22, iv l[i].s.length), (23, iv 0)], [(1, .box (la6 l[i])), (0, .arr (pI (forT l m i)) 0 1)]⟩ =
        .ret (.exit 2, ⟨[(3, .sl 0 0 0 m), (14, lol l), (15, iv l.length), (16, iv i), (21, isl l[i].s), (22, iv l[i].s.length), (23, iv m), (24, .p (.bool false))], [(1, .box (la6 l[i])), (0, .arr (pI (forT l m (i + 1))) 0 1)]⟩) := by
      let jnv : Nat → St := fun j => ⟨[(3, .sl 0 0 0 m), (14, lol l), (15, iv l.length), (16, iv i), (21, isl l[i].s), (22, iv l[i].s.length), (23, iv j)], [(1, .box (la6 l[i])), (0, .arr (pI (forG l m i j)) 0 1)]⟩
      rw [← forG_zero, ← forG_all]
      refine loop_run' jnv m (by simp) (by simp [jnv]) ?_ (by simp -implicitDefEqProofs [jnv, loopS_eq, c134L0, he]) (by simp only [loopFuel, m]; omega)
      intro j hj
      have hj2 : j < l[i].s.length := by omega
      have hj3 : (j : Int) < l[i].s.length := by omega
      have hjm : (j : Int) < m := by omega
      have hgo : l[i].s[j]? = some l[i].s[j] := List.getElem?_eq_getElem hj2
      have hgl : j < (forG l m i j).length := by simpa using hj
      have hgg : (forG l m i j)[j]? = some (forI (l.take i) j) := by
        rw [List.getElem?_eq_getElem hgl]; simp [forG]
      have ht := forI_take hi j
      rw [getD_i hj2] at ht
      have hb := forI_in hw.ok j (i + 1) (by omega)
      have hw1 : IntKind.i64.wrap (forI (l.take i) j + l[i].s[j]) = forI (l.take (i + 1)) j := by
        rw [← ht]; exact wrap64 (by omega) (by omega)
      have hst : (pI (forG l m i j)).set j (.int .i64 (forI (l.take (i + 1)) j)) = pI (forG l m i (j + 1)) := by rw [pI_set, forG_set hj]
      have hgl' : j + 1 ≤ m := by omega
      have hgn : ∀ q, (forG l m i j)[j]'q = forI (l.take i) j := fun q => by simp [forG]
      refine ⟨jnv (j + 1), ?_, rfl⟩
      simp -implicitDefEqProofs [jnv, loopS_eq, c134L0, hj2, hj3, hjm, hj, hgn, hw1, hst, hgl', wrap_succ (i := j) (by omega)]
    simp only [m] at inner
    refine ⟨?_, ?h1, ?h2⟩
    case h1 =>
      simp -implicitDefEqProofs [inv, m, loopS_eq, c134L1, cW_len, hx, hlt, hlt', inner, wrap_succ (i := i) (by omega)]
      exact rfl
    case h2 => exact loopS_same rfl (by simp [inv, m])
  simp only [m] at key
  have hz := flat_one (wid l) l
  have hz2 : List.replicate (wid l) (PVal.int .i64 0) = pI (forT l (wid l) 0) := by rw [← hz]; simp
  have hnl : (wid l : Int) ≤ lim := by simp only [lim]; omega
  simp -implicitDefEqProofs [c134, cW_len, hl0, hlp6, h50, hz, hnl, key, inv, m, forL]
end Fw
