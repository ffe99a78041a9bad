/- Records: the errors of samples, their integers, samples of integers; the program's and the reference's. -/
import Derived.Test.YtbaedpfgjpkabaaGreatDoorChN1
set_option maxHeartbeats 8000000
namespace Fw
open Go
attribute [local irreducible] evCode evOps evOpsD evOper evOperD evOp evFn loopN T.All T.bind callPure callOp opsK opsDK restK seqK blockK loopS setK setQ giveK scalK gcK finish finS rfunK yldK yldB loopK

abbrev fv (b : Nat) : AVal := .p (.flt .f32 b)
abbrev fsl (l : List Nat) : AVal := .p (.sl (pF l) l.length)
@[simp] theorem pF_length (l : List Nat) : (pF l).length = l.length := by simp [pF]
@[simp] theorem pF_get (l : List Nat) (i : Nat) : (pF l)[i]? = (l[i]?).map (.flt .f32) := by simp [pF]
@[simp] theorem pF_getElem (l : List Nat) (i : Nat) (h : i < (pF l).length) : (pF l)[i] = .flt .f32 (l[i]'(by simpa using h)) := by simp [pF]
@[simp] theorem pF_nil : pF [] = [] := rfl
theorem pF_snoc (l : List Nat) (x : Nat) : pF l ++ [.flt .f32 x] = pF (l ++ [x]) := by simp [pF]
def smpsE (l : List Nat) : Int := if 4096 < l.length then 5 else firstE (l.map smpE)
def SmpOk (l : List Nat) : Prop := ∀ b ∈ l, smpE b = 0
theorem smps_of {l : List Nat} (h : smpsE l = 0) : l.length ≤ 4096 ∧ SmpOk l := by
  unfold smpsE at h
  split at h
  · cases h
  · exact ⟨by omega, fun b hb => firstE_zero.1 h _ (List.mem_map.2 ⟨b, hb, rfl⟩)⟩
theorem smps_iff {l : List Nat} : smpsE l = 0 ↔ l.length ≤ 4096 ∧ SmpOk l := by
  refine ⟨smps_of, fun ⟨a, b⟩ => ?_⟩
  unfold smpsE
  rw [if_neg (by omega), firstE_zero]
  intro e he
  obtain ⟨x, hx, rfl⟩ := List.mem_map.1 he
  exact b x hx

theorem con201 {n : Nat} (b : Nat) : RUN n 201 [fv b] = .ret (iv (smpE b)) := by
  have : C0 201 [fv b] = some (.ret (iv (smpE b))) := rfl
  simp only [RUN, callPure, this]
theorem m200 : c200 = mapC (.p (.int .i64 0)) 8 := rfl
theorem map200 {n : Nat} (hn : 2 ≤ n) (l : List Nat) (hl : l.length < 1000000) : RUN n 200 [fsl l, .p (.clo 201 [] [])] = .ret (.own (pI (l.map smpE)) l.length 1) := by
  obtain ⟨d, rfl⟩ : ∃ d, n = d + 1 := ⟨n - 1, by omega⟩
  have hm := map_ok (C := C0) (G := G0) (d := d) (m200 ▸ fe200) (by decide) (fun _ => rfl) (pF l) 201 [] (fun p => match p with | .flt .f32 b => .int .i64 (smpE b) | _ => .int .i64 0) (by simpa using hl) (by simp) (fun c hc => by
    simp only [pF, List.mem_map] at hc
    obtain ⟨x, hx, rfl⟩ := hc
    exact ⟨con201 (n := d) x, rfl⟩)
  have : (pF l).map (fun p => match p with | .flt .f32 b => .int .i64 (smpE b) | _ => .int .i64 0) = pI (l.map smpE) := by simp [pF, pI]
  rw [this] at hm
  simpa using hm
theorem all176 {n : Nat} (hn : 3 ≤ n) (l : List Nat) (hl : l.length < 1000000) : RUN n 176 [fsl l] = .ret (iv (firstE (l.map smpE))) := by
  obtain ⟨d, rfl⟩ : ∃ d, n = d + 3 := ⟨n - 3, by omega⟩
  rw [RUN, call_eq fe176 _ rfl]
  have k1 := map200 (n := d + 2) (by omega) l hl
  have k2 := first199 (n := d + 2) (by omega) (l.map smpE) (by simpa using hl)
  simp only [List.length_map] at k2
  simp -implicitDefEqProofs [c176, k1, k2]
theorem samples122 {n : Nat} (hn : 4 ≤ n) (l : List Nat) (hl : l.length < 1000000) : RUN n 122 [fsl l] = .ret (iv (smpsE l)) := by
  obtain ⟨d, rfl⟩ : ∃ d, n = d + 4 := ⟨n - 4, by omega⟩
  rw [RUN, call_eq fe122 _ rfl]
  have k1 := all176 (n := d + 3) (by omega) l hl
  by_cases c : 4096 < l.length
  · have c' : (4096 : Int) < l.length := by omega
    simp -implicitDefEqProofs [c122, c', smpsE, c]
  · have c' : ¬ (4096 : Int) < l.length := by omega
    simp -implicitDefEqProofs [c122, c', smpsE, c, k1]

/-! integers of samples -/
theorem unit155 {n : Nat} (hn : 1 ≤ n) {b : Nat} (h : smpE b = 0) : RUN n 155 [fv b] = .ret (iv (smpN b)) := by
  obtain ⟨d, rfl⟩ : ∃ d, n = d + 1 := ⟨n - 1, by omega⟩
  exact unit_ok (fun _ => rfl) (unitO_of h)
theorem sixteen85 {n : Nat} (hn : 1 ≤ n) {b : Nat} (h : smpE b = 0) : RUN n 85 [fv b] = .ret (iv (smpN b)) := by
  obtain ⟨d, rfl⟩ : ∃ d, n = d + 1 := ⟨n - 1, by omega⟩
  have k := unit155 (n := d + 1) (by omega) h
  rw [RUN, call_eq fe155 _ rfl] at k
  rw [RUN, call_eq fe85 _ rfl]
  exact k
theorem unitsO_pF {l : List Nat} (h : SmpOk l) : unitsO (pF l) = some (l.map smpN) := by
  induction l with
  | nil => rfl
  | cons x r ih =>
    have hx := unitO_of (h x List.mem_cons_self)
    have hr := ih fun b hb => h b (List.mem_cons_of_mem _ hb)
    simp only [pF, List.map_cons] at hr ⊢
    simp only [unitsO, hx, hr]
theorem units115 {n : Nat} (hn : 3 ≤ n) {l : List Nat} (h : SmpOk l) (hl : l.length < 1000000) : RUN n 115 [fsl l] = .ret (isl (l.map smpN)) := by
  obtain ⟨d, rfl⟩ : ∃ d, n = d + 3 := ⟨n - 3, by omega⟩
  have k := units_ok (C := C0) (G := G0) (d := d) (fun _ => rfl) (fun _ => rfl) (fun _ => rfl) (unitsO_pF h) (by simpa using hl)
  rw [pF_length] at k
  rw [isl, List.length_map]
  exact k

/-! samples of integers -/
def In16 (l : List Int) : Prop := ∀ n ∈ l, -16384 ≤ n ∧ n ≤ 16384
theorem sample154 {n : Nat} (hn : 1 ≤ n) {x : Int} (h1 : -16384 ≤ x) (h2 : x ≤ 16384) : RUN n 154 [iv x] = .ret (fv (smpF x)) := by
  obtain ⟨d, rfl⟩ : ∃ d, n = d + 1 := ⟨n - 1, by omega⟩
  exact sample_ok (fun _ => rfl) (smpF_of h1 h2).1
theorem sample83 {n : Nat} (hn : 1 ≤ n) {x : Int} (h1 : -16384 ≤ x) (h2 : x ≤ 16384) : RUN n 83 [iv x] = .ret (fv (smpF x)) := by
  obtain ⟨d, rfl⟩ : ∃ d, n = d + 1 := ⟨n - 1, by omega⟩
  have k := sample154 (n := d + 1) (by omega) h1 h2
  rw [RUN, call_eq fe154 _ rfl] at k
  rw [RUN, call_eq fe83 _ rfl]
  exact k
theorem made_ok {l : List Int} (h : In16 l) : SmpOk (l.map smpF) ∧ (l.map smpF).map smpN = l := by
  refine ⟨fun b hb => ?_, ?_⟩
  · obtain ⟨x, hx, rfl⟩ := List.mem_map.1 hb
    exact (smpF_of (h x hx).1 (h x hx).2).2.1
  · rw [List.map_map]
    conv => rhs; rw [← List.map_id l]
    exact List.map_congr_left fun x hx => (smpF_of (h x hx).1 (h x hx).2).2.2
theorem made86 {n : Nat} (hn : 2 ≤ n) {l : List Int} (h : In16 l) (hl : l.length < 1000000) : RUN n 86 [isl l] = .ret (.own (pF (l.map smpF)) l.length 1) := by
  obtain ⟨d, rfl⟩ : ∃ d, n = d + 2 := ⟨n - 2, by omega⟩
  rw [RUN, call_eq fe86 _ rfl]
  let inv : Nat → St := fun i => ⟨[(0, isl l), (3, .sl 0 i 0 i), (4, iv i)], [(0, .arr (pF ((l.map smpF).take i)) i 1)]⟩
  have htake : (l.map smpF).take l.length = l.map smpF := List.take_of_length_le (by simp)
  simp -implicitDefEqProofs [c86]
  rw [loop_run inv l.length (e := .exit 0) (st' := ⟨(inv l.length).env ++ [(8, .p (.bool false))], (inv l.length).sto⟩) (by simp)]
  · simp -implicitDefEqProofs [inv, htake]
  · rfl
  · intro i hi
    have hlim : i + 1 ≤ lim := by simp only [lim]; omega
    have hm := h l[i] (List.getElem_mem hi)
    have k := sample83 (n := d + 1) (by omega) hm.1 hm.2
    have hr : pF ((l.map smpF).take (i + 1)) = pF ((l.map smpF).take i) ++ [.flt .f32 (smpF l[i])] := by
      rw [pF_snoc, List.take_add_one]; simp [hi]
    have hmi : min i l.length = i := by omega
    have w := wrap_succ (i := i) (by omega)
    generalize smpF l[i] = e at *
    simp -implicitDefEqProofs [inv, loopS_eq, c86L0, hi, k, hlim, hmi, w, hr]
  · simp -implicitDefEqProofs [inv, loopS_eq, c86L0]
  · simp [loopFuel]; omega

end Fw
