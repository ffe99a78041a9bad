/- Lists of sensors: printed by the chapter. -/
import Derived.Test.YtbaedpfgjpkabaaGreatDoorChSt2
import Derived.Test.YtbaedpfgjpkabaaGreatDoorChSt4
import Derived.Test.YtbaedpfgjpkabaaGreatDoorChC1
set_option maxHeartbeats 8000000
namespace Fw
open Go
attribute [local irreducible] evCode evOps evOpsD evOper evOperD evOp evFn loopN T.All T.bind callPure callOp opsK opsDK restK seqK blockK loopS setK setQ giveK scalK gcK finish finS rfunK yldK yldB loopK

theorem sens_of {l : List SenI} (h : sensE l = 0) : l.length ≤ 16 ∧ ∀ s ∈ l, SenOk s := by
  unfold sensE at h
  split at h
  · cases h
  · refine ⟨by omega, fun s hs => ?_⟩
    obtain ⟨i, hi, rfl⟩ := List.mem_iff_getElem.1 hs
    have h1 := firstE_zero.1 h _ (List.mem_map.2 ⟨i, by simpa using hi, rfl⟩)
    have hgi : l.getD i ⟨[], 0, 0, 0⟩ = l[i] := by rw [List.getD_eq_getElem?_getD, List.getElem?_eq_getElem hi]; rfl
    unfold senI1 at h1
    rw [hgi] at h1
    split at h1
    · rename_i h2; exact sen_of h2
    · contradiction
theorem line_len {s : SenI} (h : SenOk s) : (lineS s).length ≤ 200 := by
  have h1 := name_len h.name
  have h2 := itoaS_length s.scale
  have h3 := itoaS_length s.lo
  have h4 := itoaS_length s.hi
  rw [lineS_eq]
  simp only [List.length_append, List.length_cons, List.length_nil]
  omega
theorem senL_of {s : SenI} (h : SenOk s) : SenL s := by
  have hl := line_len h
  have l0 := h.l0
  have l1 := h.l1
  have l2 := h.l2
  have s0 := h.s0
  have s1 := h.s1
  refine ⟨by omega, by omega, by omega, ?_⟩
  simp only [lineS, List.length_append, List.length_cons, List.length_nil] at hl
  simp only [lim]; omega
theorem join_nil (ls : List (List UInt8)) : Lib.join ls [] = ls.flatten := by
  induction ls with
  | nil => rfl
  | cons a r ih =>
    cases r with
    | nil => simp [Lib.join]
    | cons b q => simp [Lib.join] at ih ⊢; rw [ih]
theorem text_len (l : List SenI) (h : ∀ s ∈ l, SenOk s) : (textS l).length ≤ 200 * l.length := by
  induction l with
  | nil => simp [textS]
  | cons s r ih =>
    have h1 := line_len (h s (by simp))
    have h2 := ih (fun x hx => h x (by simp [hx]))
    simp only [textS, List.map_cons, List.flatten_cons, List.length_append, List.length_cons] at h2 ⊢
    omega

theorem print92 {n : Nat} (hn : 7 ≤ n) (l : List SenI) (hl : l.length < 1000000) (hnl : ∀ s ∈ l, s.name.length ≤ 9223372036854775807) : RUN n 92 [ssl l] = .ret (.tup [sv (if sensE l = 0 then textS l else []), iv (sensE l)]) := by
  obtain ⟨d, rfl⟩ : ∃ d, n = d + 7 := ⟨n - 7, by omega⟩
  rw [RUN, call_eq fe92 _ rfl]
  have k1 := check161 (n := d + 6) (by omega) l hl hnl
  by_cases z : sensE l = 0
  · obtain ⟨h16, hok⟩ := sens_of z
    have k2 := mapped163 (n := d + 6) (by omega) l hl (fun s hs => senL_of (hok s hs))
    have ht := text_len l hok
    have hj : Lib.join (l.map lineS) [] = textS l := join_nil _
    have k3 := join162 (n := d + 6) (l.map lineS) [] (by simp [lim]; omega) (by rw [hj]; simp only [lim]; omega)
    rw [hj, List.length_map] at k3
    rw [z] at k1
    rw [if_pos z, z]
    generalize textS l = T at *
    generalize pStr (l.map lineS) = P at *
    simp -implicitDefEqProofs [c92, k1, k2, k3]
  · rw [if_neg z]
    generalize sensE l = E at *
    simp -implicitDefEqProofs [c92, k1, z]
end Fw
