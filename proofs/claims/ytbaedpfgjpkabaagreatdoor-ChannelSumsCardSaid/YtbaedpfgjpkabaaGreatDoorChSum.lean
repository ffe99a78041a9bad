/- The law of sums, at any input. -/
import Derived.Test.YtbaedpfgjpkabaaGreatDoorChSu2
set_option maxHeartbeats 16000000
namespace Fw
open Go
attribute [local irreducible] evCode evOps evOpsD evOper evOperD evOp evFn loopN T.All T.bind callPure callOp opsK opsDK restK seqK blockK loopS setK setQ giveK scalK gcK finish finS rfunK yldK yldB loopK

/-! several records -/
def pL (l : List (List Nat)) : List PVal := l.map fun x => .sl (pF x) x.length
@[simp] theorem pL_length (l : List (List Nat)) : (pL l).length = l.length := by simp [pL]
@[simp] theorem pL_get (l : List (List Nat)) (i : Nat) : (pL l)[i]? = (l[i]?).map fun x => .sl (pF x) x.length := by simp [pL]
@[simp] theorem pL_getElem (l : List (List Nat)) (i : Nat) (h : i < (pL l).length) : (pL l)[i] = .sl (pF (l[i]'(by simpa using h))) (l[i]'(by simpa using h)).length := by simp [pL]
theorem pL_snoc (l : List (List Nat)) (x : List Nat) : pL l ++ [.sl (pF x) x.length] = pL (l ++ [x]) := by simp [pL]
theorem pL_drop (l : List (List Nat)) (i : Nat) (h : i < l.length) : (pL l).drop i = .sl (pF l[i]) l[i].length :: (pL l).drop (i + 1) := by
  rw [List.drop_eq_getElem_cons (by simpa using h)]; simp
abbrev lsl (l : List (List Nat)) : AVal := .p (.sl (pL l) l.length)

def recE1 (l : List (List Nat)) : Int := firstE [whenE ((l.length : Int) == 0) 12, whenE (decide ((16 : Int) < l.length)) 5]
def oneE (n0 : Nat) (y : List Nat) : Int := firstE [smpsE y, whenE ((y.length : Int) != n0) 2]
def recE (l : List (List Nat)) : Int := if recE1 l = 0 then firstE (l.map (oneE (l.getD 0 []).length)) else recE1 l
def RecShort (l : List (List Nat)) : Prop := ∀ y ∈ l, y.length < 1000000

theorem rec_of {l : List (List Nat)} (h : recE l = 0) : 0 < l.length ∧ l.length ≤ 16 ∧ ∀ y ∈ l, (y.length ≤ 4096 ∧ SmpOk y) ∧ y.length = (l.getD 0 []).length := by
  unfold recE at h
  split at h
  · rename_i h1
    have h' := firstE_zero.1 h1
    have a := h' (whenE ((l.length : Int) == 0) 12) (by simp)
    have b := h' (whenE (decide ((16 : Int) < l.length)) 5) (by simp)
    have g := firstE_zero.1 h
    refine ⟨?_, ?_, fun y hy => ?_⟩
    · cases hb : ((l.length : Int) == 0) with
      | true => rw [hb] at a; cases a
      | false => rw [beq_eq_false_iff_ne] at hb; omega
    · cases hb : decide ((16 : Int) < l.length) with
      | true => rw [hb] at b; cases b
      | false => rw [decide_eq_false_iff_not] at hb; omega
    · have e := firstE_zero.1 (g _ (List.mem_map.2 ⟨y, hy, rfl⟩))
      have c := e (smpsE y) (by simp)
      have f := e (whenE ((y.length : Int) != (l.getD 0 []).length) 2) (by simp)
      refine ⟨smps_of c, ?_⟩
      cases hb : ((y.length : Int) != (l.getD 0 []).length) with
      | true => rw [hb] at f; cases f
      | false => simp at hb; simp; omega
  · contradiction

theorem pL_head {l : List (List Nat)} (h : 0 < l.length) : pL l = .sl (pF (l.getD 0 [])) (l.getD 0 []).length :: (pL l).drop 1 := by
  have := pL_drop l 0 h
  rw [List.drop_zero] at this
  rw [this, List.getD_eq_getElem?_getD, List.getElem?_eq_getElem h]; simp

theorem check158 {n : Nat} (hn : 5 ≤ n) {l : List (List Nat)} (h0 : 0 < l.length) (y : List Nat) (hl : y.length < 1000000) : RUN n 158 [fsl y, .p (.pp [.sl (pL l) l.length])] = .ret (iv (oneE (l.getD 0 []).length y)) := by
  obtain ⟨d, rfl⟩ : ∃ d, n = d + 5 := ⟨n - 5, by omega⟩
  rw [RUN, call_eq fe158 _ rfl]
  have k1 := samples122 (n := d + 4) (by omega) y hl
  have kw := fun x e => when104 (n := d + 4) (by omega) x e
  have hh := pL_head h0
  have hpl := pL_length l
  unfold oneE
  generalize l.getD 0 [] = a at *
  generalize (pL l).drop 1 = R at *
  have k3 := first103_2 (n := d + 4) (by omega) (smpsE y) (whenE ((y.length : Int) != a.length) 2)
  generalize hP : pL l = P at *
  subst hh
  generalize smpsE y = E at *
  simp -implicitDefEqProofs [c158, k1, kw, k3, h0]

theorem m159 : c159 = mapC (.p (.int .i64 0)) 8 := rfl
theorem map159 {n : Nat} (hn : 6 ≤ n) {l : List (List Nat)} (h0 : 0 < l.length) (hl : l.length < 1000000) (hs : RecShort l) : RUN n 159 [lsl l, .p (.clo 158 [] [.pp [.sl (pL l) l.length]])] = .ret (.own (pI (l.map (oneE (l.getD 0 []).length))) l.length 1) := by
  obtain ⟨d, rfl⟩ : ∃ d, n = d + 1 := ⟨n - 1, by omega⟩
  have hm := map_ok (C := C0) (G := G0) (d := d) (m159 ▸ fe159) (by decide) (fun _ => rfl) (pL l) 158 [.pp [.sl (pL l) l.length]] (fun p => match p with | .sl cs _ => .int .i64 (oneE (l.getD 0 []).length (cs.map fun c => match c with | .flt .f32 b => b | _ => 0)) | _ => .int .i64 0) (by simpa using hl) (by simp) (fun c hc => by
    simp only [pL, List.mem_map] at hc
    obtain ⟨x, hx, rfl⟩ := hc
    have e : (pF x).map (fun c => match c with | .flt .f32 b => b | _ => 0) = x := by
      simp only [pF, List.map_map]
      exact (List.map_congr_left fun _ _ => rfl).trans (List.map_id x)
    simp only [e]
    exact ⟨check158 (n := d) (by omega) h0 x (hs x hx), rfl⟩)
  have : (pL l).map (fun p => match p with | .sl cs _ => .int .i64 (oneE (l.getD 0 []).length (cs.map fun c => match c with | .flt .f32 b => b | _ => 0)) | _ => .int .i64 0) = pI (l.map (oneE (l.getD 0 []).length)) := by
    simp only [pL, pI, List.map_map]
    refine List.map_congr_left fun x _ => ?_
    have e : (pF x).map (fun c => match c with | .flt .f32 b => b | _ => 0) = x := by
      simp only [pF, List.map_map]
      exact (List.map_congr_left fun _ _ => rfl).trans (List.map_id x)
    simp only [Function.comp_def, e]
  rw [this] at hm
  simpa using hm

theorem smpN_gD {l : List Nat} (h : SmpOk l) (i : Nat) : (((l.map smpN).getD i 0).natAbs : Int) ≤ 16384 := by
  rw [List.getD_eq_getElem?_getD]
  cases hi : (l.map smpN)[i]? with
  | none => simp
  | some x =>
    obtain ⟨b, hb, rfl⟩ := List.mem_map.1 (List.mem_of_getElem? hi)
    have := smpN_bound (h b hb)
    simp only [Option.getD_some]; omega
/-- the squares, record by record -/
def sqJ (y : List Nat) (M : List Int) : Nat → List Int
  | 0 => M
  | j + 1 => bump (sqJ y M j) j ((y.map smpN).getD j 0 * (y.map smpN).getD j 0)
def sqI (l : List (List Nat)) : Nat → List Int
  | 0 => List.replicate (l.getD 0 []).length 0
  | i + 1 => sqJ (l.getD i []) (sqI l i) (l.getD i []).length
@[simp] theorem sqJ_length (y : List Nat) (M : List Int) (j : Nat) : (sqJ y M j).length = M.length := by
  induction j with
  | zero => rfl
  | succ j ih => simp [sqJ, ih]
@[simp] theorem sqI_length (l : List (List Nat)) (i : Nat) : (sqI l i).length = (l.getD 0 []).length := by
  induction i with
  | zero => simp [sqI]
  | succ i ih => rw [sqI, sqJ_length, ih]
theorem sqJ_bnd {y : List Nat} (h : SmpOk y) {M : List Int} {B : Int} (hB : bnd M B) (_h0 : 0 ≤ B) : ∀ j, j ≤ M.length → (∀ q, ((sqJ y M j).getD q 0).natAbs ≤ B + (if q < j then 268435456 else 0)) := by
  intro j
  induction j with
  | zero => intro _ q; have := hB q; simp only [sqJ]; rw [if_neg (by omega)]; omega
  | succ j ih =>
    intro hj q
    have := ih (by omega) q
    have hs := mul_abs (A := 16384) (B := 16384) (smpN_gD h j) (smpN_gD h j)
    simp only [sqJ]
    rw [bump_get _ _ _ (by simp; omega)]
    by_cases e : q = j
    · subst e
      have e1 : ¬ q < q := by omega
      have e2 : q < q + 1 := by omega
      simp only [e1, if_false, e2, if_true] at this ⊢
      omega
    · have e3 : (q < j + 1) = (q < j) := by apply propext; omega
      simp only [e, if_false, e3]
      omega
theorem sqI_bnd {l : List (List Nat)} (h : recE l = 0) : ∀ i, i ≤ l.length → bnd (sqI l i) (268435456 * i) := by
  obtain ⟨h0, h16, hy⟩ := rec_of h
  intro i
  induction i with
  | zero => intro _; simpa [sqI] using bnd_zero (l.getD 0 []).length
  | succ i ih =>
    intro hi q
    have hmem : l.getD i [] ∈ l := by
      rw [List.getD_eq_getElem?_getD, List.getElem?_eq_getElem (by omega)]
      exact List.getElem_mem _
    obtain ⟨⟨a, b⟩, c⟩ := hy _ hmem
    have := sqJ_bnd b (ih (by omega)) (by omega) (l.getD i []).length (by rw [sqI_length, c]; exact Nat.le_refl _) q
    simp only [sqI]
    split at this <;> omega

section
variable {d : Nat}
theorem squares_in {y : List Nat} (h : SmpOk y) (_hl : y.length ≤ 4096) {M : List Int} (hM : M.length = y.length) {B : Int} (hB : bnd M B) (h0 : 0 ≤ B) (hB2 : B ≤ 100000000000) (j : Nat) (hj : j < y.length) :
    ∃ z, (sqJ y M j)[j]? = some z ∧ (z.natAbs : Int) ≤ 200000000000 ∧ sqJ y M (j + 1) = (sqJ y M j).set j (z + smpN y[j] * smpN y[j]) ∧ -268435456 ≤ smpN y[j] * smpN y[j] ∧ smpN y[j] * smpN y[j] ≤ 268435456 := by
  have hb := sqJ_bnd h hB h0 j (by omega) j
  have hjl : j < (sqJ y M j).length := by simp; omega
  have hg := smpN_get j hj
  have hs := mul_abs (A := 16384) (B := 16384) (smpN_gD h j) (smpN_gD h j)
  rw [hg] at hs
  refine ⟨(sqJ y M j).getD j 0, ?_, ?_, ?_, by omega, by omega⟩
  · rw [List.getD_eq_getElem?_getD, List.getElem?_eq_getElem hjl]; rfl
  · split at hb <;> omega
  · simp only [sqJ, hg]; rfl
end

theorem squares74 {n : Nat} (hn : 8 ≤ n) (l : List (List Nat)) (hl : l.length < 1000000) (hs : RecShort l) : RUN n 74 [lsl l] = .ret (if recE l = 0 then .tup [.own (pI (sqI l l.length)) (l.getD 0 []).length 1, iv 0] else .tup [.p (.sl [] 0), iv (recE l)]) := by
  obtain ⟨d, rfl⟩ : ∃ d, n = d + 8 := ⟨n - 8, by omega⟩
  rw [RUN, call_eq fe74 _ rfl]
  have kw := fun x e => when104 (n := d + 7) (by omega) x e
  have k3 := fun a b => first103_2 (n := d + 7) (by omega) a b
  have e1 : recE1 l = firstE [whenE ((l.length : Int) == 0) 12, whenE (decide ((16 : Int) < l.length)) 5] := rfl
  by_cases z1 : recE1 l = 0
  · have h0 : 0 < l.length := by
      have h' := firstE_zero.1 z1
      have a := h' (whenE ((l.length : Int) == 0) 12) (by simp)
      cases hb : ((l.length : Int) == 0) with
      | true => rw [hb] at a; cases a
      | false => rw [beq_eq_false_iff_ne] at hb; omega
    have km := map159 (n := d + 7) (by omega) h0 hl hs
    have kf := first103 (n := d + 7) (by omega) (l.map (oneE (l.getD 0 []).length)) (by simpa using hl)
    rw [List.length_map] at kf
    have hre : recE l = firstE (l.map (oneE (l.getD 0 []).length)) := by rw [recE, if_pos z1]
    have hz := z1
    rw [e1] at hz
    by_cases z : recE l = 0
    · obtain ⟨_, h16, hy⟩ := rec_of z
      rw [if_pos z]
      rw [hre] at z
      have hbn := sqI_bnd (by rw [hre]; exact z)
      have hh := pL_head h0
      have hlen0 : (l.getD 0 []).length ≤ 4096 := by
        have hmem : l.getD 0 [] ∈ l := by
          rw [List.getD_eq_getElem?_getD, List.getElem?_eq_getElem h0]
          exact List.getElem_mem _
        exact (hy _ hmem).1.1
      have hlim : ((l.getD 0 []).length : Int) ≤ lim := by simp only [lim]; omega
      have hg0 : l[0] = l.getD 0 [] := by rw [List.getD_eq_getElem?_getD, List.getElem?_eq_getElem h0]; rfl
      have hI : ∀ i, (sqI l i).length = (l.getD 0 []).length := fun i => sqI_length l i
      have hS0 : sqI l 0 = List.replicate (l.getD 0 []).length 0 := rfl
      generalize hy0 : l.getD 0 [] = y0 at *
      let inv : Nat → St := fun i => ⟨[(7, .sl 1 0 0 y0.length), (38, lsl l), (39, iv l.length), (40, iv i)], [(1, .arr (pI (sqI l i)) 0 1), (0, .frz [.sl (pL l) l.length] 0 0)]⟩
      have hz0 : pI (List.replicate y0.length 0) = List.replicate y0.length (.int .i64 0) := by simp [pI]
      simp -implicitDefEqProofs [c74, kw, k3, hz, km, kf, z, h0, hg0, hlim]
      rw [loop_run inv l.length (e := .exit 0) (st' := ⟨(inv l.length).env ++ [(41, .p (.bool false))], (inv l.length).sto⟩) (by simp)]
      · have hIl := hI l.length
        simp only [inv]
        generalize sqI l l.length = W at *
        simp -implicitDefEqProofs [hIl]
      · simp only [inv, hS0, hz0]; rfl
      · intro i hi
        have wi := wrap_succ (i := i) (by omega)
        obtain ⟨⟨ya, yb⟩, yc⟩ := hy _ (List.getElem_mem hi)
        have hgi : l.getD i [] = l[i] := by rw [List.getD_eq_getElem?_getD, List.getElem?_eq_getElem hi]; rfl
        have ku := units115 (n := d + 7) (by omega) yb (by omega)
        rw [isl, List.length_map] at ku
        have hS : sqI l (i + 1) = sqJ l[i] (sqI l i) l[i].length := by rw [sqI, hgi]
        have hIi := hI i
        have hbi := hbn i (by omega)
        have hx : l[i]? = some l[i] := List.getElem?_eq_getElem hi
        simp only [inv, hS]
        have hM : (sqI l i).length = l[i].length := by omega
        generalize hyy : l[i] = y at *
        generalize sqI l i = M at *
        let inv2 : Nat → St := fun j => ⟨[(7, .sl 1 0 0 y0.length), (38, lsl l), (39, iv l.length), (40, iv i), (45, .p (.sl (pI (y.map smpN)) y.length)), (46, iv y.length), (47, iv j)], [(1, .arr (pI (sqJ y M j)) 0 1), (0, .frz [.sl (pL l) l.length] 0 0)]⟩
        simp -implicitDefEqProofs [loopS_eq, c74L1, hi, hyy, ku]
        rw [loop_run inv2 y.length (e := .exit 2) (st' := ⟨(inv2 y.length).env ++ [(48, .p (.bool false))], (inv2 y.length).sto⟩) (by simp)]
        · simp -implicitDefEqProofs [inv2, wi]
        · rfl
        · intro j hj
          have wj := wrap_succ (i := j) (by omega)
          obtain ⟨zz, g1, g2, g3, g4, g5⟩ := squares_in yb ya hM hbi (by omega) (by omega) j hj
          have hMl : (sqJ y M j).length = y0.length := by simp; omega
          have hj2 : j < y0.length := by omega
          have hj3 : j + 1 ≤ y0.length := by omega
          simp only [inv2, g3]
          generalize hxx : smpN y[j] = x at *
          generalize sqJ y M j = A at *
          have hjA : j < A.length := by omega
          have gz : A[j] = zz := by
            rw [List.getElem?_eq_getElem hjA] at g1
            exact Option.some.inj g1
          have w1 := wrap64 (n := x * x) (by omega) (by omega)
          have w2 := wrap64 (n := zz + x * x) (by omega) (by omega)
          simp -implicitDefEqProofs [loopS_eq, c74L0, hj, hj2, hj3, hxx, gz, w1, w2, wj, hMl, pI_set]
        · simp -implicitDefEqProofs [inv2, loopS_eq, c74L0]
        · simp [loopFuel]; omega
      · simp -implicitDefEqProofs [inv, loopS_eq, c74L1]
      · simp [loopFuel]; omega
    · rw [if_neg z]
      rw [hre] at z ⊢
      generalize l.getD 0 [] = y0 at *
      generalize l.map (oneE y0.length) = L at *
      generalize firstE L = E at *
      simp -implicitDefEqProofs [c74, kw, k3, hz, km, kf, z]
  · have hre : recE l = recE1 l := by rw [recE, if_neg z1]
    have hz := z1
    rw [e1] at hz
    rw [if_neg (by rw [hre]; exact z1), hre, e1]
    simp -implicitDefEqProofs [c74, kw, k3, hz]

theorem squares82 {n : Nat} (hn : 3 ≤ n) {l : List (List Nat)} (z : recE l = 0) : RUN n 82 [lsl l] = .ret (.own (pI (sqI l l.length)) (l.getD 0 []).length 1) := by
  obtain ⟨d, rfl⟩ : ∃ d, n = d + 3 := ⟨n - 3, by omega⟩
  rw [RUN, call_eq fe82 _ rfl]
  obtain ⟨h0, h16, hy⟩ := rec_of z
  have hbn := sqI_bnd z
  have hmem : l.getD 0 [] ∈ l := by
    rw [List.getD_eq_getElem?_getD, List.getElem?_eq_getElem h0]
    exact List.getElem_mem _
  have hlen0 : (l.getD 0 []).length ≤ 4096 := (hy _ hmem).1.1
  have hlim : ((l.getD 0 []).length : Int) ≤ lim := by simp only [lim]; omega
  have hg0 : l[0] = l.getD 0 [] := by rw [List.getD_eq_getElem?_getD, List.getElem?_eq_getElem h0]; rfl
  have hI : ∀ i, (sqI l i).length = (l.getD 0 []).length := fun i => sqI_length l i
  have hS0 : sqI l 0 = List.replicate (l.getD 0 []).length 0 := rfl
  generalize hy0 : l.getD 0 [] = y0 at *
  let inv : Nat → St := fun i => ⟨[(0, lsl l), (3, .sl 0 0 0 y0.length), (4, iv i)], [(0, .arr (pI (sqI l i)) 0 1)]⟩
  have hz0 : pI (List.replicate y0.length 0) = List.replicate y0.length (.int .i64 0) := by simp [pI]
  simp -implicitDefEqProofs [c82, h0, hg0, hlim]
  rw [loop_run inv l.length (e := .exit 0) (st' := ⟨(inv l.length).env ++ [(15, .p (.bool false))], (inv l.length).sto⟩) (by simp)]
  · have hIl := hI l.length
    simp only [inv]
    generalize sqI l l.length = W at *
    simp -implicitDefEqProofs [hIl]
  · simp only [inv, hS0, hz0]; rfl
  · intro i hi
    have wi := wrap_succ (i := i) (by omega)
    obtain ⟨⟨ya, yb⟩, yc⟩ := hy _ (List.getElem_mem hi)
    have hgi : l.getD i [] = l[i] := by rw [List.getD_eq_getElem?_getD, List.getElem?_eq_getElem hi]; rfl
    have hS : sqI l (i + 1) = sqJ l[i] (sqI l i) l[i].length := by rw [sqI, hgi]
    have hIi := hI i
    have hbi := hbn i (by omega)
    simp only [inv, hS]
    have hM : (sqI l i).length = l[i].length := by omega
    generalize hyy : l[i] = y at *
    generalize sqI l i = M at *
    let inv2 : Nat → St := fun j => ⟨[(0, lsl l), (3, .sl 0 0 0 y0.length), (4, iv i), (5, iv j)], [(0, .arr (pI (sqJ y M j)) 0 1)]⟩
    simp -implicitDefEqProofs [loopS_eq, c82L1, hi]
    rw [loop_run inv2 y.length (e := .exit 2) (st' := ⟨(inv2 y.length).env ++ [(24, .p (.bool false))], (inv2 y.length).sto⟩) (by simp)]
    · simp -implicitDefEqProofs [inv2, wi]
    · rfl
    · intro j hj
      have wj := wrap_succ (i := j) (by omega)
      have ku := sixteen85 (n := d + 2) (by omega) (yb y[j] (List.getElem_mem hj))
      obtain ⟨zz, g1, g2, g3, g4, g5⟩ := squares_in yb ya hM hbi (by omega) (by omega) j hj
      have hMl : (sqJ y M j).length = y0.length := by simp; omega
      have hj2 : j < y0.length := by omega
      have hj3 : j + 1 ≤ y0.length := by omega
      simp only [inv2, g3]
      generalize hxx : smpN y[j] = x at *
      generalize sqJ y M j = A at *
      have hjA : j < A.length := by omega
      have gz : A[j] = zz := by
        rw [List.getElem?_eq_getElem hjA] at g1
        exact Option.some.inj g1
      have w1 := wrap64 (n := x * x) (by omega) (by omega)
      have w2 := wrap64 (n := zz + x * x) (by omega) (by omega)
      simp -implicitDefEqProofs [loopS_eq, c82L0, hi, hyy, hj, hj2, hj3, ku, gz, w1, w2, wj, hMl, pI_set]
    · simp -implicitDefEqProofs [inv2, loopS_eq, c82L0, hi, hyy]
    · simp [loopFuel]; omega
  · simp -implicitDefEqProofs [inv, loopS_eq, c82L1]
  · simp [loopFuel]; omega

theorem records77 {n : Nat} (hn : 5 ≤ n) (l : List (List Nat)) (hl : l.length < 1000000) (hs : RecShort l) : RUN n 77 [lsl l] = .ret (iv (recE l)) := by
  obtain ⟨d, rfl⟩ : ∃ d, n = d + 5 := ⟨n - 5, by omega⟩
  rw [RUN, call_eq fe77 _ rfl]
  have kw := fun x e => when109 (n := d + 4) (by omega) x e
  have k3 := fun a b => first29_2 (n := d + 4) (by omega) a b
  have e1 : recE1 l = firstE [whenE ((l.length : Int) == 0) 12, whenE (decide ((16 : Int) < l.length)) 5] := rfl
  by_cases z1 : recE1 l = 0
  · have h0 : 0 < l.length := by
      have h' := firstE_zero.1 z1
      have a := h' (whenE ((l.length : Int) == 0) 12) (by simp)
      cases hb : ((l.length : Int) == 0) with
      | true => rw [hb] at a; cases a
      | false => rw [beq_eq_false_iff_ne] at hb; omega
    have hre : recE l = firstE (l.map (oneE (l.getD 0 []).length)) := by rw [recE, if_pos z1]
    have hz := z1
    rw [e1] at hz
    have hg0 : l[0] = l.getD 0 [] := by rw [List.getD_eq_getElem?_getD, List.getElem?_eq_getElem h0]; rfl
    rw [hre]
    generalize hy0 : l.getD 0 [] = y0 at *
    let inv : Nat → St := fun i => ⟨[(0, lsl l), (4, iv i)], []⟩
    simp -implicitDefEqProofs [c77, kw, k3, hz]
    rw [loop_errs (st0 := ⟨[(0, lsl l), (4, .p (.int .i64 0))], []⟩) inv (l.map (oneE y0.length)) (.exit 0, ⟨(inv l.length).env ++ [(22, .p (.bool false))], []⟩) (fun e => (.ret, ⟨[(2, iv e)], []⟩)) (by rfl)]
    · by_cases y : firstE (l.map (oneE y0.length)) = 0
      · simp -implicitDefEqProofs [y, inv]
      · simp -implicitDefEqProofs [y]
    · intro i hi
      simp only [List.length_map] at hi
      have kr := samples43 (n := d + 4) (by omega) l[i] (hs _ (List.getElem_mem hi))
      have w2 := wrap_succ (i := i) (by omega)
      have k4 := k3 (smpsE l[i]) (whenE ((l[i].length : Int) != y0.length) 2)
      have he : firstE [smpsE l[i], whenE ((l[i].length : Int) != y0.length) 2] = oneE y0.length l[i] := rfl
      rw [he] at k4
      simp only [List.getElem_map]
      generalize oneE y0.length l[i] = e at *
      generalize hyy : l[i] = y at *
      generalize smpsE y = E1 at *
      refine ⟨fun he => ⟨_, ?_, rfl⟩, fun he => ?_⟩
      · simp -implicitDefEqProofs [inv, loopS_eq, c77L0, hi, hyy, h0, hg0, kr, kw, k4, he, w2]
      · simp -implicitDefEqProofs [inv, loopS_eq, c77L0, hi, hyy, h0, hg0, kr, kw, k4, he]
    · intro e; simp
    · simp -implicitDefEqProofs [inv, loopS_eq, c77L0]
    · simp
    · simp [loopFuel]; omega
  · have hre : recE l = recE1 l := by rw [recE, if_neg z1]
    have hz := z1
    rw [e1] at hz
    rw [hre, e1]
    simp -implicitDefEqProofs [c77, kw, k3, hz]
end Fw
