/- Sums of records: turned, agreement, speeds, ways. -/
import Derived.Test.YtbaedpfgjpkabaaGreatDoorChS1
import Derived.Test.YtbaedpfgjpkabaaGreatDoorChN2
import Derived.Test.YtbaedpfgjpkabaaGreatDoorChC1
set_option maxHeartbeats 8000000
namespace Fw
open Go
attribute [local irreducible] evCode evOps evOpsD evOper evOperD evOp evFn loopN T.All T.bind callPure callOp opsK opsDK restK seqK blockK loopS setK setQ giveK scalK gcK finish finS rfunK yldK yldB loopK

/-- samples with one integer are equal -/
theorem eq_smp {a b : Nat} (ha : smpE a = 0) (hb : smpE b = 0) (h : smpN a = smpN b) : (FloatKind.f32.format.order a b != some .eq) = false := by
  obtain ⟨s, m, p, hr, hv, h0⟩ := smp_ok ha
  obtain ⟨t, n, q, hr2, hv2, h02⟩ := smp_ok hb
  obtain ⟨_, h2, _⟩ := read32 a hr
  obtain ⟨_, h22, _⟩ := read32 b hr2
  rw [ord_num (k := .f32) (show FloatKind.f32.decode a = .number s m p from hr) (show FloatKind.f32.decode b = .number t n q from hr2) (by omega) (by omega), cmp_ne]
  have e1 : smpN a = if s then -((16 * V m p / 2 ^ 2000 : Nat) : Int) else ((16 * V m p / 2 ^ 2000 : Nat) : Int) := by unfold smpN; rw [hr]
  have e2 : smpN b = if t then -((16 * V n q / 2 ^ 2000 : Nat) : Int) else ((16 * V n q / 2 ^ 2000 : Nat) : Int) := by unfold smpN; rw [hr2]
  rw [e1, e2] at h
  have d1 := Nat.div_add_mod (16 * V m p) (2 ^ 2000)
  have d2 := Nat.div_add_mod (16 * V n q) (2 ^ 2000)
  rw [h0] at d1
  rw [h02] at d2
  have : sV s m p = sV t n q := by
    simp only [sV]
    generalize 16 * V m p / 2 ^ 2000 = x at *
    generalize 16 * V n q / 2 ^ 2000 = y at *
    generalize 2 ^ 2000 = Q at *
    generalize V m p = u at *
    generalize V n q = w at *
    have key : x = y → u = w := fun e => by subst e; omega
    have kz : x = 0 → u = 0 := fun e => by subst e; omega
    have kz2 : y = 0 → w = 0 := fun e => by subst e; omega
    cases s <;> cases t <;> simp only [if_true, Bool.false_eq_true, if_false] at h ⊢
    · have := key (by omega); omega
    · have a1 := kz (by omega)
      have a2 := kz2 (by omega)
      omega
    · have a1 := kz (by omega)
      have a2 := kz2 (by omega)
      omega
    · have := key (by omega); omega
  rw [this]; simp

theorem same48g {n : Nat} (hn : 1 ≤ n) {a b : List Nat} (ha : SmpOk a) (hb : SmpOk b) (h : a.map smpN = b.map smpN) (hl : a.length < 1000000) : RUN n 48 [fsl a, fsl b] = .ret (.p (.bool true)) := by
  obtain ⟨d, rfl⟩ : ∃ d, n = d + 1 := ⟨n - 1, by omega⟩
  rw [RUN, call_eq fe48 _ rfl]
  have hlen : b.length = a.length := by have := congrArg List.length h; simpa using this.symm
  let inv : Nat → St := fun i => ⟨[(0, fsl a), (1, fsl b), (5, iv i)], []⟩
  simp -implicitDefEqProofs [c48, hlen]
  rw [loop_run (st0 := ⟨[(0, fsl a), (1, fsl b), (5, .p (.int .i64 0))], []⟩) inv a.length (e := .exit 0) (st' := ⟨(inv a.length).env ++ [(14, .p (.bool false))], (inv a.length).sto⟩) (by simp) (by rfl)]
  · simp -implicitDefEqProofs [inv]
  · intro i hi
    have hi2 : i < b.length := by omega
    have hx := eq_smp (ha a[i] (List.getElem_mem hi)) (hb b[i] (List.getElem_mem hi2)) (by
      have := congrArg (fun l => l[i]?) h
      simpa [hi, hi2] using this)
    have w := wrap_succ (i := i) (by omega)
    simp -implicitDefEqProofs [inv, loopS_eq, c48L0, hi, hi2, fltBin, hx, w]
  · simp -implicitDefEqProofs [inv, loopS_eq, c48L0]
  · simp [loopFuel]; omega

/-! turned -/
def tuE (l : List Nat) (c : CodeI) : Int := firstE [smpsE l, codeE c]
theorem tu_of {l : List Nat} {c : CodeI} (h : tuE l c = 0) : (l.length ≤ 4096 ∧ SmpOk l) ∧ CodeOk c := by
  have := firstE_zero.1 h
  exact ⟨smps_of (this _ (by simp)), code_of (this _ (by simp))⟩
/-- the samples that the program makes -/
def tuO (l : List Nat) (c : CodeI) : List Nat := if c.sign < 0 then l.map fun b => smpF (-smpN b) else l
theorem tuO_ok {l : List Nat} {c : CodeI} (h : SmpOk l) (hc : CodeOk c) : SmpOk (tuO l c) ∧ (tuO l c).map smpN = l.map fun b => c.sign * smpN b := by
  unfold tuO
  rcases hc.sign with e | e
  · rw [e, if_neg (by decide)]
    exact ⟨h, List.map_congr_left fun b _ => by rw [Int.one_mul]⟩
  · rw [e, if_pos (by decide)]
    refine ⟨fun x hx => ?_, ?_⟩
    · obtain ⟨b, hb, rfl⟩ := List.mem_map.1 hx
      have := smpN_bound (h b hb)
      exact (smpF_of (n := -smpN b) (by omega) (by omega)).2.1
    · rw [List.map_map]
      refine List.map_congr_left fun b hb => ?_
      have := smpN_bound (h b hb)
      have e2 := (smpF_of (n := -smpN b) (by omega) (by omega)).2.2
      simp only [Function.comp_def, e2]; omega
@[simp] theorem tuO_length (l : List Nat) (c : CodeI) : (tuO l c).length = l.length := by unfold tuO; split <;> simp

theorem pF_put (A B : List Nat) (i : Nat) (hA : A.length = B.length) (hi : i < B.length) (x : Nat) (hx : A[i]? = some x) : (pF (A.take i ++ B.drop i)).set i (.flt .f32 x) = pF (A.take (i + 1) ++ B.drop (i + 1)) := by
  have hm : (A.take i).length = i := by simp; omega
  rw [pF, ← List.map_set, List.set_append_right _ _ (by omega), hm, Nat.sub_self, List.drop_eq_getElem_cons hi, List.set_cons_zero, List.take_add_one, hx]
  simp [pF]
theorem setC_all (l : List PVal) : ∀ (q p : List PVal), l.length = q.length → setCells (p ++ q) p.length l = p ++ l := by
  induction l with
  | nil =>
    intro q p h
    have : q = [] := List.eq_nil_of_length_eq_zero h.symm
    subst this; rfl
  | cons x r ih =>
    intro q p h
    cases q with
    | nil => simp at h
    | cons y q =>
      have := ih q (p ++ [x]) (by simpa using h)
      simp only [setCells, List.set_append_right _ _ (Nat.le_refl _), Nat.sub_self, List.set_cons_zero]
      simp only [List.append_assoc, List.cons_append, List.nil_append, List.length_append, List.length_cons, List.length_nil, Nat.zero_add] at this
      exact this
theorem setC_zero (l q : List PVal) (h : l.length = q.length) : setCells q 0 l = l := by
  have := setC_all l q [] h
  simpa using this

theorem turned70 {n : Nat} (hn : 6 ≤ n) (l : List Nat) (hl : l.length < 1000000) (c : CodeI) (hc : c.place.length ≤ 9223372036854775807) : RUN n 70 [fsl l, cda c] = .ret (if tuE l c = 0 then .tup [.own (pF (tuO l c)) l.length 1, iv 0] else .tup [.p (.sl [] 0), iv (tuE l c)]) := by
  obtain ⟨d, rfl⟩ : ∃ d, n = d + 6 := ⟨n - 6, by omega⟩
  rw [RUN, call_eq fe70 _ rfl]
  have k1 := samples122 (n := d + 5) (by omega) l hl
  have k2 := code21 (n := d + 5) (by omega) c hc
  have k3 := first103_2 (n := d + 5) (by omega) (smpsE l) (codeE c)
  have he : firstE [smpsE l, codeE c] = tuE l c := rfl
  rw [he] at k3
  by_cases z : tuE l c = 0
  · obtain ⟨⟨a, b⟩, hok⟩ := tu_of z
    have k4 := units115 (n := d + 5) (by omega) b hl
    rw [isl, List.length_map] at k4
    rw [if_pos z]
    have hlim : (l.length : Int) ≤ lim := by simp only [lim]; omega
    have hto : tuO l c = if c.sign < 0 then l.map (fun b => smpF (-smpN b)) else l := rfl
    have htl : (pF l).take l.length = pF l := List.take_of_length_le (by simp)
    have hset : setCells (List.replicate l.length (PVal.flt .f32 0)) 0 ((pF l).take l.length) = pF l := by rw [htl]; exact setC_zero _ _ (by simp)
    generalize smpsE l = E1 at *
    generalize codeE c = E2 at *
    obtain ⟨p, ax, sg⟩ := c
    simp only at hto
    by_cases cs : sg < 0
    · rw [if_pos cs] at hto
      rw [hto]
      let inv : Nat → St := fun i => ⟨[(7, .sl 1 0 0 l.length), (29, .p (.sl (pI (l.map smpN)) l.length)), (30, iv l.length), (31, iv i)], [(1, .arr (pF ((l.map fun b => smpF (-smpN b)).take i ++ l.drop i)) 0 1), (0, .arr [.str p, .int .i64 ax, .int .i64 sg] 0 1)]⟩
      have hlast : ((l.map fun b => smpF (-smpN b)).take l.length ++ l.drop l.length) = l.map fun b => smpF (-smpN b) := by
        rw [List.take_of_length_le (by simp), List.drop_length, List.append_nil]
      simp -implicitDefEqProofs [c70, k1, k2, k3, z, hlim, cs, k4, hset]
      rw [loop_run inv l.length (e := .exit 0) (st' := ⟨(inv l.length).env ++ [(32, .p (.bool false))], (inv l.length).sto⟩) (by simp)]
      · simp only [inv, hlast]
        simp -implicitDefEqProofs []
      · simp only [inv, List.take_zero, List.drop_zero, List.nil_append]; rfl
      · intro i hi
        have wi := wrap_succ (i := i) (by omega)
        have hb := smpN_bound (b l[i] (List.getElem_mem hi))
        have w1 := wrap64 (n := -smpN l[i]) (by omega) (by omega)
        have ks := sample154 (n := d + 5) (by omega) (x := -smpN l[i]) (by omega) (by omega)
        have hput := pF_put (l.map fun b => smpF (-smpN b)) l i (by simp) hi (smpF (-smpN l[i])) (by simp [hi])
        have hlen : ((l.map fun b => smpF (-smpN b)).take i ++ l.drop i).length = l.length := by simp; omega
        have hi1 : i + 1 ≤ l.length := by omega
        simp only [inv]
        rw [← hput]
        generalize (l.map fun b => smpF (-smpN b)).take i ++ l.drop i = A at *
        generalize smpF (-smpN l[i]) = y at *
        generalize hx : smpN l[i] = x at *
        simp -implicitDefEqProofs [loopS_eq, c70L0, hi, hi1, wi, hx, w1, ks, hlen]
      · simp -implicitDefEqProofs [inv, loopS_eq, c70L0]
      · simp [loopFuel]; omega
    · rw [if_neg cs] at hto
      rw [hto]
      simp -implicitDefEqProofs [c70, k1, k2, k3, z, hlim, cs, hset]
  · rw [if_neg z]
    generalize tuE l c = E at *
    obtain ⟨p, ax, sg⟩ := c
    simp -implicitDefEqProofs [c70, k1, k2, k3, z]

theorem tu_in {l : List Nat} {c : CodeI} (h : SmpOk l) (hc : CodeOk c) : In16 (l.map fun b => c.sign * smpN b) := by
  intro x hx
  obtain ⟨b, hb, rfl⟩ := List.mem_map.1 hx
  have := smpN_bound (h b hb)
  rcases hc.sign with e | e <;> rw [e] <;> omega
theorem turned78 {n : Nat} (hn : 4 ≤ n) {l : List Nat} {c : CodeI} (hz : tuE l c = 0) : RUN n 78 [fsl l, cda c] = .ret (.p (.sl (pF ((l.map fun b => c.sign * smpN b).map smpF)) l.length)) := by
  obtain ⟨d, rfl⟩ : ∃ d, n = d + 4 := ⟨n - 4, by omega⟩
  rw [RUN, call_eq fe78 _ rfl]
  obtain ⟨⟨a, b⟩, hok⟩ := tu_of hz
  have hin := tu_in b hok
  have km := made86 (n := d + 3) (by omega) hin (by simp; omega)
  have hlen : (l.map fun b => c.sign * smpN b).length = l.length := by simp
  have hget : ∀ i (hi : i < l.length), (l.map fun b => c.sign * smpN b)[i]? = some (c.sign * smpN l[i]) := fun i hi => by simp [hi]
  have hsg := hok.sign
  generalize (l.map fun b => c.sign * smpN b) = o at *
  obtain ⟨p, ax, sg⟩ := c
  simp only at hget hsg
  rw [isl, hlen] at km
  let inv : Nat → St := fun i => ⟨[(0, fsl l), (3, .ptr 0 0 0), (5, .sl 1 i 0 i), (6, iv i)], [(1, .arr (pI (o.take i)) i 1), (0, .arr [.str p, .int .i64 ax, .int .i64 sg] 0 1)]⟩
  have htake : o.take l.length = o := List.take_of_length_le (by omega)
  simp -implicitDefEqProofs [c78]
  rw [loop_run inv l.length (e := .exit 0) (st' := ⟨(inv l.length).env ++ [(10, .p (.bool false))], (inv l.length).sto⟩) (by simp)]
  · simp -implicitDefEqProofs [inv, htake, hlen, km]
  · rfl
  · intro i hi
    have hlim : i + 1 ≤ lim := by simp only [lim]; omega
    have wi := wrap_succ (i := i) (by omega)
    have hb := smpN_bound (b l[i] (List.getElem_mem hi))
    have ku := sixteen85 (n := d + 3) (by omega) (b l[i] (List.getElem_mem hi))
    have hm : min i o.length = i := by omega
    have hr : pI (o.take (i + 1)) = pI (o.take i) ++ [.int .i64 (sg * smpN l[i])] := by
      rw [List.take_add_one, hget i hi, pI_snoc]; rfl
    have hbx : -16384 ≤ sg * smpN l[i] ∧ sg * smpN l[i] ≤ 16384 := by
      rcases hsg with e | e <;> rw [e] <;> omega
    have w1 := wrap64 (n := sg * smpN l[i]) (by omega) (by omega)
    simp only [inv, hr]
    generalize hx : smpN l[i] = x at *
    simp -implicitDefEqProofs [loopS_eq, c78L0, hi, ku, w1, hlim, hm, wi]
  · simp -implicitDefEqProofs [inv, loopS_eq, c78L0]
  · simp [loopFuel]; omega

/-! agreement -/
def agE (a b : List Nat) : Int := firstE [smpsE a, smpsE b, whenE ((a.length : Int) != b.length) 2]
theorem ag_of {a b : List Nat} (h : agE a b = 0) : (a.length ≤ 4096 ∧ SmpOk a) ∧ SmpOk b ∧ a.length = b.length := by
  have := firstE_zero.1 h
  refine ⟨smps_of (this _ (by simp)), (smps_of (this (smpsE b) (by simp))).2, ?_⟩
  have c := this (whenE ((a.length : Int) != b.length) 2) (by simp)
  cases hb : ((a.length : Int) != b.length) with
  | true => rw [hb] at c; cases c
  | false => simp at hb; omega
def agS (a b : List Nat) (i : Nat) : Int := sumN (fun i => (a.map smpN).getD i 0 * (b.map smpN).getD i 0) i
theorem smpN_get {l : List Nat} (i : Nat) (hi : i < l.length) : (l.map smpN).getD i 0 = smpN l[i] := by simp [List.getD_eq_getElem?_getD, hi]
theorem agS_bound {a b : List Nat} (ha : SmpOk a) (hb : SmpOk b) (hl : a.length = b.length) (i : Nat) (hi : i ≤ a.length) : ((agS a b i).natAbs : Int) ≤ 268435456 * i := sumN_bound i fun j hj => by
  rw [smpN_get j (by omega), smpN_get j (by omega)]
  have b1 := smpN_bound (ha a[j] (List.getElem_mem (by omega)))
  have b2 := smpN_bound (hb b[j] (List.getElem_mem (by omega)))
  exact mul_abs (A := 16384) (B := 16384) (by omega) (by omega)
def sgn (x : Int) : Int := if x < 0 then -1 else if 0 < x then 1 else 0
theorem cmp143 {n : Nat} (hn : 2 ≤ n) (x y : Int) : RUN n 143 [iv x, iv y] = .ret (iv (if x < y then -1 else if y < x then 1 else 0)) := by
  obtain ⟨d, rfl⟩ : ∃ d, n = d + 2 := ⟨n - 2, by omega⟩
  rw [RUN, call_eq fe143 _ rfl]
  have k1 := nan186 (n := d + 1) (by omega) x
  have k2 := nan186 (n := d + 1) (by omega) y
  by_cases a : x < y
  · simp -implicitDefEqProofs [c143, k1, k2, a]
  · by_cases b : y < x
    · simp -implicitDefEqProofs [c143, k1, k2, a, b]
    · simp -implicitDefEqProofs [c143, k1, k2, a, b]

theorem agree71 {n : Nat} (hn : 6 ≤ n) (a b : List Nat) (hla : a.length < 1000000) (hlb : b.length < 1000000) : RUN n 71 [fsl a, fsl b] = .ret (if agE a b = 0 then .tup [iv (sgn (agS a b a.length)), iv 0] else .tup [iv 0, iv (agE a b)]) := by
  obtain ⟨d, rfl⟩ : ∃ d, n = d + 6 := ⟨n - 6, by omega⟩
  rw [RUN, call_eq fe71 _ rfl]
  have k1 := samples122 (n := d + 5) (by omega) a hla
  have k2 := samples122 (n := d + 5) (by omega) b hlb
  have kw := fun x e => when104 (n := d + 5) (by omega) x e
  have k3 := first103_3 (n := d + 5) (by omega) (smpsE a) (smpsE b) (whenE ((a.length : Int) != b.length) 2)
  have he : firstE [smpsE a, smpsE b, whenE ((a.length : Int) != b.length) 2] = agE a b := rfl
  rw [he] at k3
  by_cases z : agE a b = 0
  · obtain ⟨⟨h1, ha⟩, hb, hlen⟩ := ag_of z
    have k4 := units115 (n := d + 5) (by omega) ha hla
    rw [isl, List.length_map] at k4
    have hbd := agS_bound ha hb hlen
    have kc := cmp143 (n := d + 5) (by omega) (agS a b a.length) 0
    rw [if_pos z]
    rw [z] at k3
    have hsg : sgn (agS a b a.length) = if agS a b a.length < 0 then -1 else if 0 < agS a b a.length then 1 else 0 := rfl
    rw [hsg]
    generalize smpsE a = E1 at *
    generalize smpsE b = E2 at *
    let inv : Nat → St := fun i => ⟨[(1, fsl b), (7, iv (agS a b i)), (26, .p (.sl (pI (a.map smpN)) a.length)), (27, iv a.length), (28, iv i)], []⟩
    simp -implicitDefEqProofs [c71, k1, k2, kw, k3, k4]
    rw [loop_run inv a.length (e := .exit 0) (st' := ⟨(inv a.length).env ++ [(29, .p (.bool false))], (inv a.length).sto⟩) (by simp)]
    · simp -implicitDefEqProofs [inv, kc]
    · rfl
    · intro i hi
      have hi2 : i < b.length := by omega
      have wi := wrap_succ (i := i) (by omega)
      have ku := unit155 (n := d + 5) (by omega) (hb b[i] (List.getElem_mem hi2))
      have b1 := smpN_bound (ha a[i] (List.getElem_mem hi))
      have b2 := smpN_bound (hb b[i] (List.getElem_mem hi2))
      have hs : agS a b (i + 1) = agS a b i + smpN a[i] * smpN b[i] := by simp only [agS, sumN]; rw [smpN_get i hi, smpN_get i hi2]
      have hbi := hbd i (by omega)
      simp only [inv, hs]
      generalize hx : smpN a[i] = x at *
      generalize smpN b[i] = y at *
      generalize agS a b i = s at *
      have bp : ((x * y).natAbs : Int) ≤ 16384 * 16384 := mul_abs (by omega) (by omega)
      have w1 := wrap64 (n := x * y) (by omega) (by omega)
      have w2 := wrap64 (n := s + x * y) (by omega) (by omega)
      simp -implicitDefEqProofs [loopS_eq, c71L0, hi, hi2, wi, hx, ku, w1, w2]
    · simp -implicitDefEqProofs [inv, loopS_eq, c71L0]
    · simp [loopFuel]; omega
  · rw [if_neg z]
    generalize agE a b = E at *
    generalize smpsE a = E1 at *
    generalize smpsE b = E2 at *
    simp -implicitDefEqProofs [c71, k1, k2, kw, k3, z]

theorem agree79 {n : Nat} (hn : 3 ≤ n) {a b : List Nat} (z : agE a b = 0) : RUN n 79 [fsl a, fsl b] = .ret (iv (sgn (agS a b a.length))) := by
  obtain ⟨d, rfl⟩ : ∃ d, n = d + 3 := ⟨n - 3, by omega⟩
  rw [RUN, call_eq fe79 _ rfl]
  obtain ⟨⟨h1, ha⟩, hb, hlen⟩ := ag_of z
  have hbd := agS_bound ha hb hlen
  have hsg : sgn (agS a b a.length) = min 1 (max (-1) (agS a b a.length)) := by
    unfold sgn
    split
    · omega
    · split <;> omega
  rw [hsg]
  let inv : Nat → St := fun i => ⟨[(0, fsl a), (1, fsl b), (5, iv (agS a b i)), (6, iv i)], []⟩
  simp -implicitDefEqProofs [c79]
  rw [loop_run inv a.length (e := .exit 0) (st' := ⟨(inv a.length).env ++ [(10, .p (.bool false))], (inv a.length).sto⟩) (by simp)]
  · simp -implicitDefEqProofs [inv, max2, min2]
  · rfl
  · intro i hi
    have hi2 : i < b.length := by omega
    have wi := wrap_succ (i := i) (by omega)
    have ku := sixteen85 (n := d + 2) (by omega) (ha a[i] (List.getElem_mem hi))
    have ku2 := sixteen85 (n := d + 2) (by omega) (hb b[i] (List.getElem_mem hi2))
    have b1 := smpN_bound (ha a[i] (List.getElem_mem hi))
    have b2 := smpN_bound (hb b[i] (List.getElem_mem hi2))
    have hs : agS a b (i + 1) = agS a b i + smpN a[i] * smpN b[i] := by simp only [agS, sumN]; rw [smpN_get i hi, smpN_get i hi2]
    have hbi := hbd i (by omega)
    simp only [inv, hs]
    generalize hx : smpN a[i] = x at *
    generalize smpN b[i] = y at *
    generalize agS a b i = s at *
    have bp : ((x * y).natAbs : Int) ≤ 16384 * 16384 := mul_abs (by omega) (by omega)
    have w1 := wrap64 (n := x * y) (by omega) (by omega)
    have w2 := wrap64 (n := s + x * y) (by omega) (by omega)
    simp -implicitDefEqProofs [loopS_eq, c79L0, hi, hi2, wi, ku, ku2, w1, w2]
  · simp -implicitDefEqProofs [inv, loopS_eq, c79L0]
  · simp [loopFuel]; omega
theorem two75 {n : Nat} (hn : 4 ≤ n) (a b : List Nat) (hla : a.length < 1000000) (hlb : b.length < 1000000) : RUN n 75 [fsl a, fsl b] = .ret (iv (agE a b)) := by
  obtain ⟨d, rfl⟩ : ∃ d, n = d + 4 := ⟨n - 4, by omega⟩
  rw [RUN, call_eq fe75 _ rfl]
  have k1 := samples43 (n := d + 3) (by omega) a hla
  have k2 := samples43 (n := d + 3) (by omega) b hlb
  have kw := fun x e => when109 (n := d + 3) (by omega) x e
  have k3 := first29_3 (n := d + 3) (by omega) (smpsE a) (smpsE b) (whenE ((a.length : Int) != b.length) 2)
  have he : firstE [smpsE a, smpsE b, whenE ((a.length : Int) != b.length) 2] = agE a b := rfl
  rw [he] at k3
  generalize agE a b = E at *
  generalize smpsE a = E1 at *
  generalize smpsE b = E2 at *
  simp -implicitDefEqProofs [c75, k1, k2, kw, k3]
end Fw
