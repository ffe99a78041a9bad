/- The best order of jobs, both sides. -/
import Derived.Test.YtdjkleaojdeepaaGreatDoorGaPl5
import Derived.KernelRfl
set_option maxHeartbeats 16000000
set_option maxRecDepth 8000
namespace Fw
open Go
attribute [local irreducible] evCode evOps evOpsD evOper evOperD evOp evFn loopN T.All T.bind callPure callOp opsK opsDK restK seqK blockK loopS setK setQ giveK scalK gcK finish finS rfunK yldK yldB loopK

theorem clone117 {d : Nat} (p : List Int) (h0 : 0 < p.length) (h8 : p.length ≤ 8) : evFn F C0 G0 (d + 1) (.fn 117) [.sl 0 0 0 p.length] [(0, .arr (pI p) 0 1)] = .ret (.sl 1 1 0 p.length, [(1, .arr (pI p) 1 1), (0, .arr (pI p) 0 1)]) := by
  rw [evFn_fn fe117]
  have hP := pI_len p
  have hlim : p.length ≤ lim := by simp only [lim]; omega
  have hne : ¬ p.length = 0 := by omega
  generalize pI p = A at *
  simp -implicitDefEqProofs [c117, hP, hlim, hne]
/-- the best order -/
def bestO (l : List JobI) : List Int := prK l (bI l ((prm l.length).length - 1))
theorem plan59 {n : Nat} (hn : 6 ≤ n) (l : List JobI) (hl : l.length ≤ 9223372036854775807) (hx : ∀ x ∈ l, x.name.length ≤ 9223372036854775807) (h0 : 0 < l.length) (h5 : jobE l = 0 → l.length ≤ 5) :
    RUN n 59 [jsl l] = .ret (if jobE l = 0 then .tup [.own (pI (bestO l)) l.length 1, iv (valO l (bestO l)), iv 0] else .tup [.p (.sl [] 0), iv 0, iv (jobE l)]) := by
  obtain ⟨d, rfl⟩ : ∃ d, n = d + 6 := ⟨n - 6, by omega⟩
  rw [RUN, call_eq fe59 _ rfl]
  have k57 := jobs57 (n := d + 5) (by omega) l hl hx
  by_cases hj : jobE l = 0
  · have h5 := h5 hj
    have hJ := jobs_ok hj
    have h8 := hJ.1
    obtain ⟨pl1, pl2, _⟩ := prm_len h0 h5
    have hok : ∀ k, k < (prm l.length).length → OrdOk l.length (prK l k) := fun k hk => ord_ok (prm_at h0 h5 hk).2.1
    have o0 := hok 0 pl1
    rw [if_pos hj]
    rw [hj] at k57
    have kf := fill59 (d := d + 5) l h8
    have hfp := fil_prm h0 h5
    have kc := clone117 (d := d + 4) (prK l 0) (by rw [o0.1]; omega) (by rw [o0.1]; omega)
    obtain ⟨k110, k111⟩ := vcall59 (d := d + 3) l (prK l 0) hJ o0
    obtain ⟨u, hu, kl⟩ := loop59 (d := d + 1) l hJ h0 h5 ((prm l.length).length - 1) 0 loopFuel none (fun r h => by cases h) (by omega) (by simp [loopFuel]; omega)
    have kl := kl ⟨[(0, jsl l), (6, .sl 0 0 0 l.length), (8, .ptr 2 0 0), (9, .p (.clo 118 [] []))], [(2, .box [.sl 1 1 0 l.length, iv (valO l (prK l 0))]), (1, .arr (pI (prK l 0)) 1 1), (0, .arr (pI (prK l 0)) 0 1)]⟩ (by simp only [P59, Bs, Nx, bI, o0.1])
    have hbo := hok (bI l ((prm l.length).length - 1)) (by have := bI_le l ((prm l.length).length - 1); omega)
    have hno := hok ((prm l.length).length - 1) (by omega)
    simp only [Nat.zero_add] at kl
    rw [show prK l (bI l ((prm l.length).length - 1)) = bestO l from rfl] at kl hbo
    have hlim : (l.length : Int) ≤ lim := by simp only [lim]; omega
    have hsc : ∀ x, x ∈ pI (plF l (prK l 0) l.length) → scalarP x = true := fun x hx => by
      simp only [pI, List.mem_map] at hx
      obtain ⟨y, _, rfl⟩ := hx
      rfl
    have hsc := eq_true hsc
    have e0 : pI (filF l.length 0) = List.replicate l.length (PVal.int .i64 0) := by
      apply List.ext_getElem?
      intro j
      simp only [pI, filF, List.getElem?_map, List.getElem?_replicate]
      by_cases hjl : j < l.length
      · simp [hjl]
      · simp [hjl]
    rw [e0, hfp] at kf
    have hB := pI_len (bestO l)
    have hP0 := pI_len (prK l 0)
    rw [hbo.1] at hB
    rw [o0.1] at kc hP0
    generalize valO l (bestO l) = V at *
    generalize valO l (prK l 0) = V0 at *
    generalize plF l (prK l 0) l.length = PF at *
    generalize pI PF = PL at *
    simp only [isl, o0.1] at k110
    generalize pI (prK l 0) = P0 at *
    match u, hu with
    | none, _ =>
      simp only [P59, Bs, Nx, hbo.1, hno.1] at kl
      generalize pI (bestO l) = PB at *
      generalize pI (prK l ((prm l.length).length - 1)) = PN at *
      simp only [jsl] at *
      generalize rowC jc l = J at *
      simp -implicitDefEqProofs [c59, k57, hlim]
      rw [show loopN _ _ _ = _ from kf]
      simp -implicitDefEqProofs [kc, k110, k111, hsc, hP0]
      rw [show loopN _ _ _ = _ from kl]
      simp -implicitDefEqProofs [hB]
    | some r, hu =>
      have hr := hu r rfl
      have r0 : ¬ r = 0 := by omega
      have r2 : ¬ r = 2 := by omega
      have z1 : ¬ 2 = r := by omega
      simp only [P59, Bs, Nx, hbo.1, hno.1] at kl
      generalize pI (bestO l) = PB at *
      generalize pI (prK l ((prm l.length).length - 1)) = PN at *
      simp only [jsl] at *
      generalize rowC jc l = J at *
      simp -implicitDefEqProofs [c59, k57, hlim]
      rw [show loopN _ _ _ = _ from kf]
      simp -implicitDefEqProofs [kc, k110, k111, hsc, hP0]
      rw [show loopN _ _ _ = _ from kl]
      simp -implicitDefEqProofs [hB, r2]
  · rw [if_neg hj]
    generalize jobE l = e at *
    simp only [jsl] at *
    generalize rowC jc l = J at *
    simp -implicitDefEqProofs [c59, k57, hj]
end Fw
