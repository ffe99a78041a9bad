/- The spread of runs: the pulse chapter and its reference. -/
import Derived.Test.YtombnimlolbekaaGreatDoorPuP2
set_option maxHeartbeats 8000000
namespace Fw
open Go
attribute [local irreducible] evCode evOps evOpsD evOper evOperD evOp evFn loopN T.All T.bind callPure callOp opsK opsDK restK seqK blockK loopS setK setQ giveK scalK gcK finish finS rfunK yldK yldB loopK

/-- the least and the greatest of the first numbers but one -/
def loF (l : List Int) : Nat → Int
  | 0 => l.getD 0 0
  | k + 1 => min (loF l k) (l.getD (k + 1) 0)
def hiF (l : List Int) : Nat → Int
  | 0 => l.getD 0 0
  | k + 1 => max (hiF l k) (l.getD (k + 1) 0)

theorem min160 {n : Nat} (hn : 1 ≤ n) (l : List Int) (h0 : 0 < l.length) (hl : l.length < 1000000) : RUN n 160 [isl l] = .ret (iv (loF l (l.length - 1))) := by
  obtain ⟨d, rfl⟩ : ∃ d, n = d + 1 := ⟨n - 1, by omega⟩
  rw [RUN, call_eq fe160 _ rfl]
  obtain ⟨m, hm⟩ : ∃ m, l.length = m + 1 := ⟨l.length - 1, by omega⟩
  have hg0 : l.getD 0 0 = l[0] := by simp [List.getD_eq_getElem?_getD, List.getElem?_eq_getElem h0]
  let inv : Nat → St := fun k => ⟨[(0, isl l), (3, iv (loF l k)), (4, iv (k + 1))], []⟩
  have hlt : ¬ (l.length : Int) < 1 := by omega
  have hx0 : ∃ r, pI l = .int .i64 l[0] :: r := by
    cases l with
    | nil => simp at h0
    | cons x r => exact ⟨pI r, rfl⟩
  obtain ⟨r, hr⟩ := hx0
  have hm1 : l.length - 1 = m := by omega
  have hcast : (l.length : Int) = m + 1 := by omega
  rw [hm1]
  simp -implicitDefEqProofs [c160, hlt, h0, hr]
  rw [loop_run inv m (e := .exit 0) (st' := ⟨(inv m).env ++ [(15, .p (.bool false))], (inv m).sto⟩) (by simp)]
  · simp -implicitDefEqProofs [inv]
  · simp only [inv, loF, hg0]; rfl
  · intro k hk
    have hi : k + 1 < l.length := by omega
    have hgi : l.getD (k + 1) 0 = l[k + 1] := by simp [List.getD_eq_getElem?_getD, List.getElem?_eq_getElem hi]
    have hlo : loF l (k + 1) = min (loF l k) l[k + 1] := by simp only [loF, hgi]
    have hmn : minInt (loF l k) [iv l[k + 1]] = some (min (loF l k) l[k + 1]) := by
      simp only [minInt]
      congr 1
      split <;> omega
    have hb : (k : Int) + 1 < l.length := by omega
    have hbp : (0 : Int) ≤ (k : Int) + 1 := by omega
    have ht : ((k : Int) + 1).toNat = k + 1 := by omega
    have w := wrap64 (n := (k : Int) + 1 + 1) (by omega) (by omega)
    simp -implicitDefEqProofs [inv, loopS_eq, c160L0, hi, hb, hbp, ht, hmn, hlo, w]
  · have hb : ¬ (m : Int) + 1 < l.length := by omega
    simp -implicitDefEqProofs [inv, loopS_eq, c160L0, hb]
  · simp [loopFuel]; omega
theorem max161 {n : Nat} (hn : 1 ≤ n) (l : List Int) (h0 : 0 < l.length) (hl : l.length < 1000000) : RUN n 161 [isl l] = .ret (iv (hiF l (l.length - 1))) := by
  obtain ⟨d, rfl⟩ : ∃ d, n = d + 1 := ⟨n - 1, by omega⟩
  rw [RUN, call_eq fe161 _ rfl]
  obtain ⟨m, hm⟩ : ∃ m, l.length = m + 1 := ⟨l.length - 1, by omega⟩
  have hg0 : l.getD 0 0 = l[0] := by simp [List.getD_eq_getElem?_getD, List.getElem?_eq_getElem h0]
  let inv : Nat → St := fun k => ⟨[(0, isl l), (3, iv (hiF l k)), (4, iv (k + 1))], []⟩
  have hlt : ¬ (l.length : Int) < 1 := by omega
  have hx0 : ∃ r, pI l = .int .i64 l[0] :: r := by
    cases l with
    | nil => simp at h0
    | cons x r => exact ⟨pI r, rfl⟩
  obtain ⟨r, hr⟩ := hx0
  have hm1 : l.length - 1 = m := by omega
  have hcast : (l.length : Int) = m + 1 := by omega
  rw [hm1]
  simp -implicitDefEqProofs [c161, hlt, h0, hr]
  rw [loop_run inv m (e := .exit 0) (st' := ⟨(inv m).env ++ [(15, .p (.bool false))], (inv m).sto⟩) (by simp)]
  · simp -implicitDefEqProofs [inv]
  · simp only [inv, hiF, hg0]; rfl
  · intro k hk
    have hi : k + 1 < l.length := by omega
    have hgi : l.getD (k + 1) 0 = l[k + 1] := by simp [List.getD_eq_getElem?_getD, List.getElem?_eq_getElem hi]
    have hhi : hiF l (k + 1) = max (hiF l k) l[k + 1] := by simp only [hiF, hgi]
    have hmx : maxInt (hiF l k) [iv l[k + 1]] = some (max (hiF l k) l[k + 1]) := by
      simp only [maxInt]
      congr 1
      split <;> omega
    have hb : (k : Int) + 1 < l.length := by omega
    have hbp : (0 : Int) ≤ (k : Int) + 1 := by omega
    have ht : ((k : Int) + 1).toNat = k + 1 := by omega
    have w := wrap64 (n := (k : Int) + 1 + 1) (by omega) (by omega)
    simp -implicitDefEqProofs [inv, loopS_eq, c161L0, hi, hb, hbp, ht, hmx, hhi, w]
  · have hb : ¬ (m : Int) + 1 < l.length := by omega
    simp -implicitDefEqProofs [inv, loopS_eq, c161L0, hb]
  · simp [loopFuel]; omega

/-- the numbers of all runs at a tick -/
def colL (ls : List (List Int)) (k : Nat) : List Int := ls.map fun l => l.getD k 0
def loC (ls : List (List Int)) (k : Nat) : Int := loF (colL ls k) (ls.length - 1)
def hiC (ls : List (List Int)) (k : Nat) : Int := hiF (colL ls k) (ls.length - 1)
def spreadL (ls : List (List Int)) (m : Nat) : List (Int × Int) := (List.range m).map fun (k : Nat) => (loC ls k, hiC ls k)
theorem spreadL_length (ls : List (List Int)) (m : Nat) : (spreadL ls m).length = m := by simp [spreadL]
theorem take_spread (ls : List (List Int)) (m i : Nat) (h : i < m) : (spreadL ls m).take (i + 1) = (spreadL ls m).take i ++ [(loC ls i, hiC ls i)] := by
  rw [List.take_add_one]; simp [spreadL, h]

theorem at159 {n : Nat} (hn : 1 ≤ n) (l : List Int) (k : Nat) (hk : k < l.length) : RUN n 159 [.p (lsl l), .p (.pp [.int .i64 k])] = .ret (iv (l.getD k 0)) := by
  obtain ⟨d, rfl⟩ : ∃ d, n = d + 1 := ⟨n - 1, by omega⟩
  rw [RUN, call_eq fe159 _ rfl]
  have hg : l.getD k 0 = l[k] := by simp [List.getD_eq_getElem?_getD, List.getElem?_eq_getElem hk]
  have hb : (k : Int) < l.length := by omega
  rw [hg]
  simp -implicitDefEqProofs [c159, lsl, hk, hb]

theorem m158 : c158 = mapC (.p (.int .i64 0)) 8 := rfl
theorem fc158 : F 158 = some (mapC (.p (.int .i64 0)) 8) := m158 ▸ fe158

theorem col158 {n : Nat} (hn : 2 ≤ n) (ls : List (List Int)) (k : Nat) (hl : ls.length < 1000000) (hk : ∀ l ∈ ls, k < l.length) : RUN n 158 [llsl ls, .p (.clo 159 [] [.pp [.int .i64 k]])] = .ret (.own (pI (colL ls k)) ls.length 1) := by
  obtain ⟨d, rfl⟩ : ∃ d, n = d + 2 := ⟨n - 2, by omega⟩
  exact mapL_ok fc158 (fun _ => rfl) (d := d + 1) ls 159 [.pp [.int .i64 k]] (by simp) (fun l => l.getD k 0) hl (fun x hx => at159 (n := d + 1) (by omega) x k (hk x hx))

theorem spread121 {n : Nat} (hn : 3 ≤ n) (ls : List (List Int)) (m : Nat) (h0 : 0 < ls.length) (hl : ls.length < 1000000) (hm : ∀ l ∈ ls, l.length = m) (hm2 : m < 1000000) : RUN n 121 [llsl ls] = .ret (.own (cI (spreadL ls m)) m 2) := by
  obtain ⟨d, rfl⟩ : ∃ d, n = d + 3 := ⟨n - 3, by omega⟩
  rw [RUN, call_eq fe121 _ rfl]
  let inv : Nat → St := fun i => ⟨[(0, llsl ls), (3, .sl 0 i 0 i), (9, iv m), (10, iv i)], [(0, .arr (cI ((spreadL ls m).take i)) i 2)]⟩
  have hvl := spreadL_length ls m
  have htl : (spreadL ls m).take m = spreadL ls m := List.take_of_length_le (by omega)
  have hx0 : ∃ r, pL ls = lsl ls[0] :: r := by
    cases ls with
    | nil => simp at h0
    | cons x r => exact ⟨pL r, rfl⟩
  obtain ⟨r, hr⟩ := hx0
  have hl0 : ls[0].length = m := hm _ (List.getElem_mem h0)
  simp -implicitDefEqProofs [c121, h0, hr, lsl, hl0]
  rw [loop_run' inv m (e := .exit 0) (st' := ⟨(inv m).env ++ [(11, .p (.bool false))], (inv m).sto⟩) (by simp)]
  · simp -implicitDefEqProofs [inv, htl, hvl]
  · rfl
  · intro i hi
    have hlim : i + 1 ≤ lim := by simp only [lim]; omega
    have hto : ((spreadL ls m).take i).length = i := by simp [hvl]; omega
    have ht : cI ((spreadL ls m).take (i + 1)) = cI ((spreadL ls m).take i) ++ [.int .i64 (loC ls i), .int .i64 (hiC ls i)] := by
      rw [take_spread ls m i hi, cI_append]; rfl
    have h1 := col158 (n := d + 2) (by omega) ls i hl (fun l hl' => by rw [hm l hl']; exact hi)
    have hcl : (colL ls i).length = ls.length := by simp [colL]
    have h2 := min160 (n := d + 2) (by omega) (colL ls i) (by omega) (by omega)
    have h3 := max161 (n := d + 2) (by omega) (colL ls i) (by omega) (by omega)
    rw [hcl] at h2 h3
    simp only [isl, hcl] at h2 h3
    have e2 : loF (colL ls i) (ls.length - 1) = loC ls i := rfl
    have e3 : hiF (colL ls i) (ls.length - 1) = hiC ls i := rfl
    rw [e2] at h2
    rw [e3] at h3
    refine ⟨⟨(inv (i + 1)).env, (1, .frz [.int .i64 i] 0 1) :: (inv (i + 1)).sto⟩, ?_, loopS_same rfl (by simp [inv])⟩
    simp -implicitDefEqProofs [inv, loopS_eq, c121L0, hi, hlim, hto, h1, h2, h3, wrap_succ (i := i) (by omega), ht]
  · simp [inv, loopS_eq, c121L0]
  · simp [loopFuel]; omega
end Fw
