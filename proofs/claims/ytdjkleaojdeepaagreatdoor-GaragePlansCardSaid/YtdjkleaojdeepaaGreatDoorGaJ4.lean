/- Starts of jobs that are placed in an order: by the chapter. -/
import Derived.Test.YtdjkleaojdeepaaGreatDoorGaJ3
set_option maxHeartbeats 16000000
set_option maxRecDepth 8000
namespace Fw
open Go
attribute [local irreducible] evCode evOps evOpsD evOper evOperD evOp evFn loopN T.All T.bind callPure callOp opsK opsDK restK seqK blockK loopS setK setQ giveK scalK gcK finish finS rfunK yldK yldB loopK

/-- from when on a job may start after another one -/
def freeJ (j o : JobI) (st : Int) : Int := if j.dummy = o.dummy then st + o.time + o.soak else if j.crew = o.crew ∨ j.hall = o.hall then st + o.time else 0
theorem free116 {n : Nat} (hn : 1 ≤ n) (j o : JobI) (st : Int) (h1 : 0 ≤ st ∧ st ≤ 1000000000) (h2 : 0 ≤ o.time ∧ o.time ≤ 10000) (h3 : 0 ≤ o.soak ∧ o.soak ≤ 10000) : RUN n 116 [ja j, ja o, iv st] = .ret (iv (freeJ j o st)) := by
  obtain ⟨d, rfl⟩ : ∃ d, n = d + 1 := ⟨n - 1, by omega⟩
  rw [RUN, call_eq fe116 _ rfl]
  obtain ⟨nm, a1, a2, a3, a4, a5⟩ := j
  obtain ⟨nm', b1, b2, b3, b4, b5⟩ := o
  simp only at h2 h3
  have w1 := wrap64 (n := st + b4) (by omega) (by omega)
  have w2 := wrap64 (n := st + b4 + b5) (by omega) (by omega)
  unfold freeJ
  simp only
  by_cases d1 : a1 = b1
  · by_cases d2 : a2 = b2
    · simp -implicitDefEqProofs [c116, d1, d2, w1, w2]
    · have d2b : (a2 == b2) = false := by simpa using d2
      by_cases d3 : a3 = b3
      · simp -implicitDefEqProofs [c116, d1, d2b, d3, w1, w2]
      · have d3b : (a3 == b3) = false := by simpa using d3
        simp -implicitDefEqProofs [c116, d1, d2b, d3b, w1, w2]
  · have d1b : (a1 == b1) = false := by simpa using d1
    by_cases d2 : a2 = b2
    · simp -implicitDefEqProofs [c116, d1, d1b, d2, w1]
    · have d2b : (a2 == b2) = false := by simpa using d2
      by_cases d3 : a3 = b3
      · simp -implicitDefEqProofs [c116, d1, d1b, d2, d2b, d3, w1]
      · have d3b : (a3 == b3) = false := by simpa using d3
        simp -implicitDefEqProofs [c116, d1, d1b, d2, d2b, d3, d3b]

def jo (l : List JobI) (o : List Int) (k : Nat) : JobI := l.getD (o.getD k 0).toNat zJ
/-- the start of a job after the first ones of an order, by their starts -/
def atF (l : List JobI) (o : List Int) (st : List Int) (j : JobI) : Nat → Int
  | 0 => 0
  | m + 1 => max (atF l o st j m) (freeJ j (jo l o m) (st.getD (o.getD m 0).toNat 0))
/-- the starts after some jobs are placed -/
def plF (l : List JobI) (o : List Int) : Nat → List Int
  | 0 => List.replicate l.length 0
  | k + 1 => (plF l o k).set (o.getD k 0).toNat (atF l o (plF l o k) (jo l o k) k)
theorem plF_len (l : List JobI) (o : List Int) : ∀ k, (plF l o k).length = l.length := by
  intro k
  induction k with
  | zero => simp [plF]
  | succ k ih => simp [plF, ih]
/-- jobs that are right -/
def JobsOk (l : List JobI) : Prop := l.length ≤ 8 ∧ ∀ x ∈ l, 1 ≤ x.time ∧ x.time ≤ 10000 ∧ 0 ≤ x.soak ∧ x.soak ≤ 10000
/-- an order that is right -/
def OrdOk (n : Nat) (o : List Int) : Prop := o.length = n ∧ (∀ k, k < n → 0 ≤ o.getD k 0 ∧ o.getD k 0 < n) ∧ ∀ k j, j < k → k < n → o.getD j 0 ≠ o.getD k 0
theorem jobs_ok {l : List JobI} (h : jobE l = 0) : JobsOk l := by
  unfold jobE at h
  split at h
  · cases h
  · rename_i hl
    refine ⟨by omega, fun x hx => ?_⟩
    obtain ⟨i, hi, rfl⟩ := List.getElem_of_mem hx
    have h1 := firstE_zero.1 h _ (List.mem_map.2 ⟨i, List.mem_range.2 hi, rfl⟩)
    unfold job1 at h1
    rw [getJ hi] at h1
    have h2 := firstE_zero.1 h1 (jRng l[i]) (by simp)
    unfold jRng at h2
    have h3 := firstE_zero.1 h2 (rangeE 1 10000 l[i].time) (by simp)
    have h4 := firstE_zero.1 h2 (rangeE 0 10000 l[i].soak) (by simp)
    unfold rangeE at h3 h4
    split at h3
    · cases h3
    · split at h4
      · cases h4
      · omega
theorem ord_ok {n : Nat} {o : List Int} (h : ordE n o = 0) : OrdOk n o := by
  unfold ordE at h
  split at h
  · cases h
  · rename_i hl
    have hl : o.length = n := by simpa using hl
    have key : ∀ k, k < n → ord1 n o k = 0 := fun k hk => firstE_zero.1 h _ (List.mem_map.2 ⟨k, List.mem_range.2 (by omega), rfl⟩)
    refine ⟨hl, fun k hk => ?_, fun k j hj hk e => ?_⟩
    · have h1 := firstE_zero.1 (key k hk) (whenE (decide (o.getD k 0 < 0) || decide ((n : Int) ≤ o.getD k 0)) 10) (by simp)
      cases hb : (decide (o.getD k 0 < 0) || decide ((n : Int) ≤ o.getD k 0)) with
      | true => rw [hb] at h1; cases h1
      | false => simp only [Bool.or_eq_false_iff, decide_eq_false_iff_not] at hb; omega
    · have h1 := firstE_zero.1 (key k hk) (whenE (decide (o.getD k 0 ∈ o.take k)) 9) (by simp)
      have : o.getD k 0 ∈ o.take k := by
        rw [← e, getI (show j < o.length by omega), List.mem_take_iff_getElem]
        exact ⟨j, by omega, rfl⟩
      rw [decide_eq_true this] at h1
      cases h1
theorem freeJ_le {j o : JobI} {st : Int} (h2 : 1 ≤ o.time ∧ o.time ≤ 10000 ∧ 0 ≤ o.soak ∧ o.soak ≤ 10000) {B : Int} (h : 0 ≤ st ∧ st ≤ B) : 0 ≤ freeJ j o st ∧ freeJ j o st ≤ B + 20000 := by
  unfold freeJ
  split
  · omega
  · split <;> omega
theorem jo_mem {l : List JobI} {o : List Int} (ho : OrdOk l.length o) {k : Nat} (hk : k < l.length) : jo l o k ∈ l := by
  obtain ⟨h1, h2, _⟩ := ho
  have := h2 k hk
  have hlt : (o.getD k 0).toNat < l.length := by omega
  unfold jo
  rw [getJ hlt]
  exact List.getElem_mem hlt
theorem atF_le {l : List JobI} {o : List Int} (hl : JobsOk l) (ho : OrdOk l.length o) (st : List Int) (_hs : st.length = l.length) {B : Int} (hB : 0 ≤ B) (h : ∀ i, i < l.length → 0 ≤ st.getD i 0 ∧ st.getD i 0 ≤ B) (j : JobI) : ∀ m, m ≤ l.length → 0 ≤ atF l o st j m ∧ atF l o st j m ≤ B + 20000 := by
  intro m
  induction m with
  | zero => intro _; simp only [atF]; omega
  | succ m ih =>
    intro hm
    have ih := ih (by omega)
    have h1 := ho.2.1 m (by omega)
    have h2 := freeJ_le (j := j) (hl.2 _ (jo_mem ho (show m < l.length by omega))) (h (o.getD m 0).toNat (by omega))
    simp only [atF]
    omega
theorem plF_le {l : List JobI} {o : List Int} (hl : JobsOk l) (ho : OrdOk l.length o) : ∀ k, k ≤ l.length → ∀ i, i < l.length → 0 ≤ (plF l o k).getD i 0 ∧ (plF l o k).getD i 0 ≤ 20000 * k := by
  intro k
  induction k with
  | zero => intro _ i hi; simp [plF, List.getD_eq_getElem?_getD, hi]
  | succ k ih =>
    intro hk i hi
    have ih := ih (by omega)
    have h1 := atF_le hl ho (plF l o k) (plF_len l o k) (B := 20000 * k) (by omega) ih (jo l o k) k (by omega)
    have h0 := ih i hi
    simp only [plF]
    rw [List.getD_eq_getElem?_getD, List.getElem?_set]
    split
    · split
      · simp only [Option.getD_some]; omega
      · simp only [Option.getD_none]; omega
    · rw [← List.getD_eq_getElem?_getD]; omega

def P110 (l : List JobI) (o : List Int) (k : Nat) (st : List Int) (i m : Nat) : St := ⟨[(0, jsl l), (1, isl o), (5, .sl 0 0 0 l.length), (7, iv (o.getD k 0)), (13, isl o), (14, iv o.length), (15, iv i), (22, .p (.sl (pI (o.take k)) k)), (23, iv k), (24, iv m)], [(0, .arr (pI st) 0 1)]⟩
theorem pI_set (l : List Int) (i : Nat) (v : Int) : (pI l).set i (.int .i64 v) = pI (l.set i v) := by simp [pI, List.map_set]
theorem pIq (l : List Int) (i : Nat) (hi : i < l.length) : (pI l)[i]? = some (.int .i64 (l.getD i 0)) := by simp [pI, hi, List.getD_eq_getElem?_getD]
theorem getD_set_self (l : List Int) (i : Nat) (v : Int) (hi : i < l.length) : (l.set i v).getD i 0 = v := by simp [List.getD_eq_getElem?_getD, hi]
theorem getD_set_ne (l : List Int) (i j : Nat) (v : Int) (h : i ≠ j) : (l.set i v).getD j 0 = l.getD j 0 := by simp [List.getD_eq_getElem?_getD, h]
/-- one of the jobs before is looked at -/
theorem round110 {d : Nat} (l : List JobI) (o : List Int) (hl : JobsOk l) (ho : OrdOk l.length o) (k : Nat) (hk : k < l.length) (m : Nat) (hm : m < k) :
    ∃ st1, loopS (evFn F C0 G0 (d + 1)) C0 G0 0 false [0, 1, 5, 7, 13, 14, 15, 22, 23, 24] c110L0 (P110 l o k ((plF l o k).set (o.getD k 0).toNat (atF l o (plF l o k) (jo l o k) m)) k m) = .ret (.normal, st1) ∧
      loopS (evFn F C0 G0 (d + 1)) C0 G0 0 false [0, 1, 5, 7, 13, 14, 15, 22, 23, 24] c110L0 st1 = loopS (evFn F C0 G0 (d + 1)) C0 G0 0 false [0, 1, 5, 7, 13, 14, 15, 22, 23, 24] c110L0 (P110 l o k ((plF l o k).set (o.getD k 0).toNat (atF l o (plF l o k) (jo l o k) (m + 1))) k (m + 1)) := by
  have hmk : (m : Int) < k := by omega
  have h8 := hl.1
  have wm := wrap_succ (i := m) (by omega)
  have b1 := ho.2.1 k hk
  have b2 := ho.2.1 m (by omega)
  have hne := ho.2.2 k m hm hk
  have hln := plF_len l o k
  have hle := plF_le hl ho k (by omega)
  have hat := atF_le hl ho (plF l o k) hln (B := 20000 * k) (by omega) (hle) (jo l o k) m (by omega)
  generalize hS : plF l o k = S at *
  have hj := hl.2 _ (jo_mem ho (show m < l.length by omega))
  have kf := free116 (n := d + 1) (by omega) (jo l o k) (jo l o m) (S.getD (o.getD m 0).toNat 0) (by have := hle (o.getD m 0).toNat (by omega); omega) (by omega) (by omega)
  have hat1 : atF l o S (jo l o k) (m + 1) = max (atF l o S (jo l o k) m) (freeJ (jo l o k) (jo l o m) (S.getD (o.getD m 0).toNat 0)) := rfl
  rw [hat1]
  generalize atF l o S (jo l o k) m = at0 at *
  generalize hfr : freeJ (jo l o k) (jo l o m) (S.getD (o.getD m 0).toNat 0) = fr at *
  have hgm : o.getD m 0 = o[m]'(by have := ho.1; omega) := getI _
  have htm : (o.take k)[m]? = some (o.getD m 0) := by rw [List.getElem?_take]; simp [hm, List.getD_eq_getElem?_getD, show m < o.length by have := ho.1; omega]
  have hrow : ∀ (q : Nat) (hq : q < l.length), (rowC jc l).drop ((o.getD q 0).toNat * 6) = jc (jo l o q) ++ rowC jc (l.drop ((o.getD q 0).toNat + 1)) := fun q hq => by
    have := ho.2.1 q hq
    have hlt : (o.getD q 0).toNat < l.length := by omega
    rw [rowC_drop jc_len l _ hlt]
    unfold jo
    rw [getJ hlt]
  have hr1 := hrow k hk
  have hr2 := hrow m (by omega)
  have hR := jR_len l
  have hlt1 : (o.getD k 0).toNat * 6 < l.length * 6 := by omega
  have hlt2 : (o.getD m 0).toNat * 6 < l.length * 6 := by omega
  have hlt1b : (o.getD k 0).toNat * 6 + 6 ≤ l.length * 6 := by omega
  have hlt2b : (o.getD m 0).toNat * 6 + 6 ≤ l.length * 6 := by omega
  have hgk : (pI (S.set (o.getD k 0).toNat at0))[(o.getD k 0).toNat]? = some (.int .i64 at0) := by
    rw [pIq _ _ (by rw [List.length_set]; omega), getD_set_self _ _ _ (by omega)]
  have hgm2 : (pI (S.set (o.getD k 0).toNat at0))[(o.getD m 0).toNat]? = some (.int .i64 (S.getD (o.getD m 0).toNat 0)) := by
    rw [pIq _ _ (by rw [List.length_set]; omega), getD_set_ne _ _ _ _ (by omega)]
  have hset : (pI (S.set (o.getD k 0).toNat at0)).set (o.getD k 0).toNat (.int .i64 (max at0 fr)) = pI (S.set (o.getD k 0).toNat (max at0 fr)) := by rw [pI_set, List.set_set]
  have hPl : (pI (S.set (o.getD k 0).toNat at0)).length = l.length := by rw [pI_len]; simp [hln]
  have hPt : (pI (o.take k))[m]? = some (.int .i64 (o.getD m 0)) := by
    simp only [pI, List.getElem?_map, htm]; rfl
  have hPtl : (pI (o.take k)).length = k := by rw [pI_len]; simp; have := ho.1; omega
  have hPtd : (pI (o.take k)).drop m = .int .i64 (o.getD m 0) :: (pI (o.take k)).drop (m + 1) := by
    have hml : m < (pI (o.take k)).length := by omega
    rw [List.drop_eq_getElem_cons hml]
    have : (pI (o.take k))[m] = .int .i64 (o.getD m 0) := by
      have := hPt
      rw [List.getElem?_eq_getElem hml] at this
      exact Option.some.inj this
    rw [this]
  have mx := max2 at0 fr
  simp only [P110, jsl, isl]
  generalize hO : o.getD k 0 = ok at *
  generalize hM : o.getD m 0 = om at *
  generalize jo l o k = xk at *
  generalize jo l o m = xm at *
  generalize rowC jc (l.drop (ok.toNat + 1)) = R1 at *
  generalize rowC jc (l.drop (om.toNat + 1)) = R2 at *
  generalize rowC jc l = A at *
  generalize pI (S.set ok.toNat at0) = PS at *
  generalize pI (S.set ok.toNat (max at0 fr)) = PS2 at *
  generalize hT : pI (o.take k) = T at *
  generalize T.drop (m + 1) = T2 at *
  generalize pI o = PO at *
  generalize S.getD om.toNat 0 = so at *
  have hst : ok.toNat + 1 ≤ l.length := by omega
  obtain ⟨p1, p2⟩ := b1
  obtain ⟨p3, p4⟩ := b2
  obtain ⟨nm, a1, a2, a3, a4, a5⟩ := xk
  obtain ⟨nm', c1, c2, c3, c4, c5⟩ := xm
  simp only [ja] at kf
  have hgk' : ∀ q, PS[ok.toNat]'q = .int .i64 at0 := fun q => by rw [List.getElem?_eq_getElem q] at hgk; exact Option.some.inj hgk
  have hgm' : ∀ q, PS[om.toNat]'q = .int .i64 so := fun q => by rw [List.getElem?_eq_getElem q] at hgm2; exact Option.some.inj hgm2
  refine ⟨?_, ?h1, ?h2⟩
  case h1 =>
    simp -implicitDefEqProofs [loopS_eq, c110L0, hm, hmk, hPtl, hPtd, p1, p2, p3, p4, hR, hlt1, hlt2, hr1, hr2, jc, hgk', hgm', hPl, kf, mx, hset, hst, wm]
    exact rfl
  case h2 => rfl
theorem set_zero {l : List JobI} {o : List Int} (ho : OrdOk l.length o) : ∀ k j, k ≤ j → j < l.length → (plF l o k).getD (o.getD j 0).toNat 0 = 0 := by
  intro k
  induction k with
  | zero =>
    intro j _ hj
    have := ho.2.1 j hj
    have h2 : (o.getD j 0).toNat < l.length := by omega
    simp only [plF]
    rw [List.getD_eq_getElem?_getD, List.getElem?_replicate, if_pos h2]
    rfl
  | succ k ih =>
    intro j hk hj
    have h1 := ih j (by omega) hj
    have hne := ho.2.2 j k (by omega) hj
    have b1 := ho.2.1 j hj
    have b2 := ho.2.1 k (by omega)
    simp only [plF]
    rw [getD_set_ne _ _ _ _ (by omega)]
    exact h1
theorem set_same (l : List Int) (i : Nat) (v : Int) (hi : i < l.length) (h : l.getD i 0 = v) : l.set i v = l := by
  apply List.ext_getElem?
  intro j
  rw [List.getElem?_set]
  split
  · rename_i e
    subst e
    first | rw [if_pos hi] | skip
    rw [getI hi] at h
    rw [← h]
    exact (List.getElem?_eq_getElem hi).symm
  · rfl
theorem inner110 {d : Nat} (l : List JobI) (o : List Int) (hl : JobsOk l) (ho : OrdOk l.length o) (k : Nat) (hk : k < l.length) :
    loopN (loopS (evFn F C0 G0 (d + 1)) C0 G0 0 false [0, 1, 5, 7, 13, 14, 15, 22, 23, 24] c110L0) loopFuel (P110 l o k (plF l o k) k 0) = .ret (.exit 2, ⟨(P110 l o k (plF l o (k + 1)) k k).env ++ [(25, .p (.bool false))], (P110 l o k (plF l o (k + 1)) k k).sto⟩) := by
  have h0 : (plF l o k).set (o.getD k 0).toNat (atF l o (plF l o k) (jo l o k) 0) = plF l o k := by
    have b := ho.2.1 k hk
    have hln := plF_len l o k
    exact set_same _ _ _ (by omega) (set_zero ho k k (Nat.le_refl _) hk)
  rw [loop_run' (fun m => P110 l o k ((plF l o k).set (o.getD k 0).toNat (atF l o (plF l o k) (jo l o k) m)) k m) k (e := .exit 2) (st' := ⟨(P110 l o k (plF l o (k + 1)) k k).env ++ [(25, .p (.bool false))], (P110 l o k (plF l o (k + 1)) k k).sto⟩) (by simp)]
  · simp only [h0]
  · intro m hm
    exact round110 l o hl ho k hk m hm
  · have e : (plF l o k).set (o.getD k 0).toNat (atF l o (plF l o k) (jo l o k) k) = plF l o (k + 1) := rfl
    rw [e]
    simp -implicitDefEqProofs [loopS_eq, c110L0, P110]
  · have := hl.1; simp [loopFuel]; omega
theorem starts110 {n : Nat} (hn : 2 ≤ n) (l : List JobI) (o : List Int) (hl : JobsOk l) (ho : OrdOk l.length o) : RUN n 110 [jsl l, isl o] = .ret (.own (pI (plF l o l.length)) l.length 1) := by
  obtain ⟨d, rfl⟩ : ∃ d, n = d + 2 := ⟨n - 2, by omega⟩
  rw [RUN, call_eq fe110 _ rfl]
  have h8 := hl.1
  have hol := ho.1
  have hln := plF_len l o l.length
  have hP : (pI (plF l o l.length)).length = l.length := by rw [pI_len]; exact hln
  have hlim : (l.length : Int) ≤ lim := by simp only [lim]; omega
  let inv : Nat → St := fun k => ⟨[(0, jsl l), (1, isl o), (5, .sl 0 0 0 l.length), (13, isl o), (14, iv o.length), (15, iv k)], [(0, .arr (pI (plF l o k)) 0 1)]⟩
  have key : loopN (loopS (evFn F C0 G0 (d + 1)) C0 G0 0 false [0, 1, 5, 13, 14, 15] c110L1) loopFuel (inv 0) = .ret (.exit 0, ⟨(inv l.length).env ++ [(16, .p (.bool false))], (inv l.length).sto⟩) := by
    rw [loop_run' inv l.length (e := .exit 0) (st' := ⟨(inv l.length).env ++ [(16, .p (.bool false))], (inv l.length).sto⟩) (by simp)]
    · rfl
    · intro k hk
      have hko : k < o.length := by omega
      have hkle : k ≤ o.length := by omega
      have wk := wrap_succ (i := k) (by omega)
      have hdr := pI_drop o k hko
      rw [← getI hko] at hdr
      have hR := pI_len o
      have ht := pI_take o k
      have hin := inner110 (d := d) l o hl ho k hk
      simp only [P110, inv, jsl, isl] at *
      simp only [Int.natCast_zero] at hin
      generalize rowC jc l = J at *
      generalize pI (plF l o k) = S1 at *
      generalize pI (plF l o (k + 1)) = S2 at *
      generalize hO : o.getD k 0 = ok at *
      generalize hA : pI o = A at *
      generalize pI (o.take k) = T at *
      generalize A.drop (k + 1) = R2 at *
      refine ⟨?_, ?h1, ?h2⟩
      case h1 =>
        simp -implicitDefEqProofs [loopS_eq, c110L1, hko, hkle, hdr, hR, ht]
        rw [show loopN _ _ _ = _ from hin]
        simp -implicitDefEqProofs [wk]
        exact rfl
      case h2 => rfl
    · simp -implicitDefEqProofs [loopS_eq, c110L1, inv, hol]
    · simp [loopFuel]; omega
  have e0 : pI (plF l o 0) = List.replicate l.length (PVal.int .i64 0) := by simp [plF, pI]
  simp only [inv, jsl, isl] at key ⊢
  rw [e0] at key
  generalize rowC jc l = J at *
  generalize pI (plF l o l.length) = S2 at *
  simp only [Int.natCast_zero] at key
  generalize pI o = A at *
  simp -implicitDefEqProofs [c110, hlim]
  rw [show loopN _ _ _ = _ from key]
  simp -implicitDefEqProofs [hP]
end Fw
