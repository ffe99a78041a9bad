/- Records: the errors of samples, their integers, samples of integers; the program's and the reference's. -/
import Derived.Test.YtbaedpfgjpkabaaGreatDoorChN1
set_option maxHeartbeats 8000000
namespace Fw
open Go
attribute [local irreducible] evCode evOps evOpsD evOper evOperD evOp evFn loopN T.All T.bind callPure callOp opsK opsDK restK seqK blockK loopS setK setQ giveK scalK gcK finish finS rfunK yldK yldB loopK

abbrev fv (b : Nat) : AVal := .p (.flt .f32 b)
abbrev fsl (l : List Nat) : AVal := .p (.sl (pF l) l.length)
@[simp] theorem pF_length (l : List Nat) : (pF l).length = l.length := by simp [pF]
@[simp] theorem pF_get (l : List Nat) (i : Nat) : (pF l)[i]? = (l[i]?).map (.flt .f32) := by simp [pF]
@[simp] theorem pF_getElem (l : List Nat) (i : Nat) (h : i < (pF l).length) : (pF l)[i] = .flt .f32 (l[i]'(by simpa using h)) := by simp [pF]
@[simp] theorem pF_nil : pF [] = [] := rfl
theorem pF_take (l : List Nat) (k : Nat) : (pF l).take k = pF (l.take k) := by simp [pF, List.map_take]
def smpsE (l : List Nat) : Int := if 4096 < l.length then 5 else firstE (l.map smpE)
def SmpOk (l : List Nat) : Prop := ∀ b ∈ l, smpE b = 0
theorem smps_of {l : List Nat} (h : smpsE l = 0) : l.length ≤ 4096 ∧ SmpOk l := by
  unfold smpsE at h
  split at h
  · cases h
  · exact ⟨by omega, fun b hb => firstE_zero.1 h _ (List.mem_map.2 ⟨b, hb, rfl⟩)⟩
theorem con201 {n : Nat} (b : Nat) : RUN n 201 [fv b] = .ret (iv (smpE b)) := by
  have : C0 201 [fv b] = some (.ret (iv (smpE b))) := rfl
  simp only [RUN, callPure, this]
theorem con202 {n : Nat} (b : Nat) : RUN n 202 [fv b, iv 16384] = .ret (iv (smpE b)) := by
  have : C0 202 [fv b, iv 16384] = some (.ret (iv (smpE b))) := rfl
  simp only [RUN, callPure, this]
theorem sample179 {n : Nat} (hn : 1 ≤ n) (b : Nat) : RUN n 179 [fv b] = .ret (iv (smpE b)) := by
  obtain ⟨d, rfl⟩ : ∃ d, n = d + 1 := ⟨n - 1, by omega⟩
  rw [RUN, call_eq fe179 _ rfl]
  have k := con202 (n := d) b
  simp -implicitDefEqProofs [c179, k]

theorem m200 : c200 = mapC (.p (.int .i64 0)) 8 := rfl
theorem map200 {n : Nat} (hn : 2 ≤ n) (l : List Nat) (hl : l.length < 1000000) : RUN n 200 [fsl l, .p (.clo 201 [] [])] = .ret (.own (pI (l.map smpE)) l.length 1) := by
  obtain ⟨d, rfl⟩ : ∃ d, n = d + 1 := ⟨n - 1, by omega⟩
  have hm := map_ok (C := C0) (G := G0) (d := d) (m200 ▸ fe200) (by decide) (fun _ => rfl) (pF l) 201 [] (fun p => match p with | .flt .f32 b => .int .i64 (smpE b) | _ => .int .i64 0) (by simpa using hl) (by simp) (fun c hc => by
    simp only [pF, List.mem_map] at hc
    obtain ⟨x, hx, rfl⟩ := hc
    exact ⟨con201 (n := d) x, rfl⟩)
  have : (pF l).map (fun p => match p with | .flt .f32 b => .int .i64 (smpE b) | _ => .int .i64 0) = pI (l.map smpE) := by simp [pF, pI]
  rw [this] at hm
  simpa using hm
theorem all176 {n : Nat} (hn : 3 ≤ n) (l : List Nat) (hl : l.length < 1000000) : RUN n 176 [fsl l] = .ret (iv (firstE (l.map smpE))) := by
  obtain ⟨d, rfl⟩ : ∃ d, n = d + 3 := ⟨n - 3, by omega⟩
  rw [RUN, call_eq fe176 _ rfl]
  have k1 := map200 (n := d + 2) (by omega) l hl
  have k2 := first199 (n := d + 2) (by omega) (l.map smpE) (by simpa using hl)
  simp only [List.length_map] at k2
  simp -implicitDefEqProofs [c176, k1, k2]
theorem samples122 {n : Nat} (hn : 4 ≤ n) (l : List Nat) (hl : l.length < 1000000) : RUN n 122 [fsl l] = .ret (iv (smpsE l)) := by
  obtain ⟨d, rfl⟩ : ∃ d, n = d + 4 := ⟨n - 4, by omega⟩
  rw [RUN, call_eq fe122 _ rfl]
  have k1 := all176 (n := d + 3) (by omega) l hl
  by_cases c : 4096 < l.length
  · have c' : (4096 : Int) < l.length := by omega
    simp -implicitDefEqProofs [c122, c', smpsE, c]
  · have c' : ¬ (4096 : Int) < l.length := by omega
    simp -implicitDefEqProofs [c122, c', smpsE, c, k1]

theorem all127 {n : Nat} (hn : 2 ≤ n) (l : List Nat) (hl : l.length < 1000000) : RUN n 127 [fsl l] = .ret (iv (firstE (l.map smpE))) := by
  obtain ⟨d, rfl⟩ : ∃ d, n = d + 2 := ⟨n - 2, by omega⟩
  rw [RUN, call_eq fe127 _ rfl]
  let inv : Nat → St := fun i => ⟨[(0, fsl l), (3, iv i)], []⟩
  simp -implicitDefEqProofs [c127]
  rw [loop_errs (st0 := ⟨[(0, fsl l), (3, .p (.int .i64 0))], []⟩) inv (l.map smpE) (.exit 0, ⟨(inv l.length).env ++ [(8, .p (.bool false))], []⟩) (fun e => (.ret, ⟨[(2, iv e)], []⟩)) (by rfl)]
  · by_cases y : firstE (l.map smpE) = 0
    · simp -implicitDefEqProofs [y, inv]
    · simp -implicitDefEqProofs [y]
  · intro i hi
    simp only [List.length_map] at hi
    have kr := sample179 (n := d + 1) (by omega) l[i]
    have w2 := wrap_succ (i := i) (by omega)
    simp only [List.getElem_map]
    generalize smpE l[i] = e at *
    refine ⟨fun he => ⟨_, ?_, rfl⟩, fun he => ?_⟩
    · simp -implicitDefEqProofs [inv, loopS_eq, c127L0, hi, kr, he, w2]
    · simp -implicitDefEqProofs [inv, loopS_eq, c127L0, hi, kr, he]
  · intro e; simp
  · simp -implicitDefEqProofs [inv, loopS_eq, c127L0]
  · simp
  · simp [loopFuel]; omega

theorem samples43 {n : Nat} (hn : 3 ≤ n) (l : List Nat) (hl : l.length < 1000000) : RUN n 43 [fsl l] = .ret (iv (smpsE l)) := by
  obtain ⟨d, rfl⟩ : ∃ d, n = d + 3 := ⟨n - 3, by omega⟩
  rw [RUN, call_eq fe43 _ rfl]
  have kw := fun b e => when109 (n := d + 2) (by omega) b e
  have k29 := fun a b => first29_2 (n := d + 2) (by omega) a b
  by_cases c : 4096 < l.length
  · have c' : (4096 : Int) < l.length := by omega
    have c2 : ¬ (l.length : Int) ≤ 4096 := by omega
    have hmin : min (l.length : Int) 4096 = 4096 := by omega
    have k1 := all127 (n := d + 2) (by omega) (l.take 4096) (by simp; omega)
    have hlt : (l.take 4096).length = 4096 := by simp; omega
    rw [fsl, hlt] at k1
    have c3 : (4096 : Int) ≤ l.length := by omega
    have hr : smpsE l = 5 := by rw [smpsE, if_pos c]
    have hf : firstE [whenE (decide ((4096 : Int) < l.length)) 5, whenE (decide ((l.length : Int) ≤ 4096)) (firstE ((l.take 4096).map smpE))] = 5 := by
      simp [firstE, whenE, c']
    rw [hr]
    have kk := k29 (whenE (decide ((4096 : Int) < l.length)) 5) (whenE (decide ((l.length : Int) ≤ 4096)) (firstE ((l.take 4096).map smpE)))
    rw [hf] at kk
    generalize firstE ((l.take 4096).map smpE) = e at *
    simp [whenE, c', c2] at kk
    have m2 : minInt (l.length : Int) [iv 4096] = some 4096 := by simp only [minInt]; rw [if_pos (by omega)]
    simp -implicitDefEqProofs [c43, c', c2, c3, m2, pF_take, k1, kw, whenE, kk]
  · have c' : ¬ (4096 : Int) < l.length := by omega
    have c2 : (l.length : Int) ≤ 4096 := by omega
    have k1 := all127 (n := d + 2) (by omega) l hl
    have hr : smpsE l = firstE (l.map smpE) := by rw [smpsE, if_neg c]
    have hf : firstE [0, firstE (l.map smpE)] = firstE (l.map smpE) := by
      simp only [firstE, if_true]
      split <;> simp_all
    rw [hr]
    have kk := k29 0 (firstE (l.map smpE))
    rw [hf] at kk
    have m2 : minInt (l.length : Int) [iv 4096] = some (l.length : Int) := by
      simp only [minInt]; congr 1; split <;> omega
    have ht : (pF l).take l.length = pF l := List.take_of_length_le (by simp)
    simp -implicitDefEqProofs [c43, c', c2, m2, ht, k1, kw, whenE, kk]

/-! integers of samples -/
theorem unit155 {n : Nat} (hn : 1 ≤ n) {b : Nat} (h : smpE b = 0) : RUN n 155 [fv b] = .ret (iv (smpN b)) := by
  obtain ⟨d, rfl⟩ : ∃ d, n = d + 1 := ⟨n - 1, by omega⟩
  exact unit_ok (fun _ => rfl) (unitO_of h)
theorem sixteen85 {n : Nat} (hn : 1 ≤ n) {b : Nat} (h : smpE b = 0) : RUN n 85 [fv b] = .ret (iv (smpN b)) := by
  obtain ⟨d, rfl⟩ : ∃ d, n = d + 1 := ⟨n - 1, by omega⟩
  have k := unit155 (n := d + 1) (by omega) h
  rw [RUN, call_eq fe155 _ rfl] at k
  rw [RUN, call_eq fe85 _ rfl]
  exact k
theorem unitsO_pF {l : List Nat} (h : SmpOk l) : unitsO (pF l) = some (l.map smpN) := by
  induction l with
  | nil => rfl
  | cons x r ih =>
    have hx := unitO_of (h x List.mem_cons_self)
    have hr := ih fun b hb => h b (List.mem_cons_of_mem _ hb)
    simp only [pF, List.map_cons] at hr ⊢
    simp only [unitsO, hx, hr]
theorem units115 {n : Nat} (hn : 3 ≤ n) {l : List Nat} (h : SmpOk l) (hl : l.length < 1000000) : RUN n 115 [fsl l] = .ret (isl (l.map smpN)) := by
  obtain ⟨d, rfl⟩ : ∃ d, n = d + 3 := ⟨n - 3, by omega⟩
  have k := units_ok (C := C0) (G := G0) (d := d) (fun _ => rfl) (fun _ => rfl) (fun _ => rfl) (unitsO_pF h) (by simpa using hl)
  rw [pF_length] at k
  rw [isl, List.length_map]
  exact k

/-! samples of integers -/
def In16 (l : List Int) : Prop := ∀ n ∈ l, -16384 ≤ n ∧ n ≤ 16384
theorem floats24 {n : Nat} (hn : 1 ≤ n) (l : List Nat) (hl : l.length < 1000000) : RUN n 24 [fsl l] = .ret (.own (pF l) l.length 1) := by
  obtain ⟨d, rfl⟩ : ∃ d, n = d + 1 := ⟨n - 1, by omega⟩
  rw [RUN, call_eq fe24 _ rfl]
  have hlim : l.length ≤ lim := by simp only [lim]; omega
  by_cases h : l.length = 0
  · have : l = [] := List.eq_nil_of_length_eq_zero h
    subst this
    simp -implicitDefEqProofs [c24, lim]
  · simp -implicitDefEqProofs [c24, hlim, h]

theorem short22 {n : Nat} (hn : 1 ≤ n) (l : List Nat) : RUN n 22 [fsl l] = .ret (.p (.bool (decide (l.length ≤ 40) || decide (l.length = 4097)))) := by
  obtain ⟨d, rfl⟩ : ∃ d, n = d + 1 := ⟨n - 1, by omega⟩
  rw [RUN, call_eq fe22 _ rfl]
  by_cases a : (l.length : Int) ≤ 40
  · have a' : l.length ≤ 40 := by omega
    simp -implicitDefEqProofs [c22, a, a']
  · have a' : ¬ l.length ≤ 40 := by omega
    have : ((l.length : Int) == 4097) = decide (l.length = 4097) := by
      by_cases b : l.length = 4097
      · simp [b]
      · have : ¬ (l.length : Int) = 4097 := by omega
        simp [b, this]
    simp -implicitDefEqProofs [c22, a, a', this]

end Fw
