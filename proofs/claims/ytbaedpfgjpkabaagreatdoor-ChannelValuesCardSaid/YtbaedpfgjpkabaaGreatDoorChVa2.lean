/- The peak of values: the program's and the reference's. -/
import Derived.Test.YtbaedpfgjpkabaaGreatDoorChVa1
set_option maxHeartbeats 16000000
namespace Fw
open Go
attribute [local irreducible] evCode evOps evOpsD evOper evOperD evOp evFn loopN T.All T.bind callPure callOp opsK opsDK restK seqK blockK loopS setK setQ giveK scalK gcK finish finS rfunK yldK yldB loopK

/-- the values that are not below -/
def keptL (l : List ValI) : List ValI := l.filter fun v => !v.under
def pkL (l : List ValI) : Int := (curV (keptL l) (·.low) ((keptL l).length - 1)).low
def pkH (l : List ValI) : Int := (curV l (·.high) (l.length - 1)).high
/-- the peak of valid values: an interval, whether it is open, the error -/
def peakR (l : List ValI) : AVal := if (keptL l).length = 0 then .tup [.agg [iv 0, iv 0], .p (.bool false), iv 7] else .tup [.agg [iv (pkL l), iv (pkH l)], .p (.bool (l.any (·.over))), iv 0]
theorem peak57 {n : Nat} (hn : 8 ≤ n) (l : List ValI) (hl : l.length ≤ 5000) :
    RUN n 57 [vsl l] = .ret (if valsE l = 0 then peakR l else .tup [.agg [iv 0, iv 0], .p (.bool false), iv (valsE l)]) := by
  obtain ⟨d, rfl⟩ : ∃ d, n = d + 8 := ⟨n - 8, by omega⟩
  rw [RUN, call_eq fe57 _ rfl]
  have k1 := check137 (n := d + 7) (by omega) l (by omega)
  by_cases hz : valsE l = 0
  · rw [if_pos hz]
    rw [hz] at k1
    have h0 : 0 < l.length := by
      rcases Nat.eq_zero_or_pos l.length with h | h
      · have : l = [] := List.eq_nil_of_length_eq_zero h
        subst this
        exact absurd hz (by decide)
      · exact h
    have k2 := clone139 (n := d + 7) (by omega) l h0 (by omega)
    obtain ⟨cells, c1, c2, k3⟩ := delete138 (d := d + 3) l hl [.int .i64 0, .int .i64 0]
    have hK : (l.filter fun v => !v.under) = keptL l := rfl
    rw [hK] at c2 k3
    have hkl : (keptL l).length ≤ l.length := List.length_filter_le _ _
    have k5 := max141 (n := d + 7) (by omega) 144 (·.high) (fun a b => high144 (by omega) a b) l h0 (by omega)
    have k6 := contains145 (n := d + 7) (by omega) l (by omega)
    unfold peakR
    by_cases hk0 : (keptL l).length = 0
    · rw [if_pos hk0]
      rw [hk0] at k3
      simp only [vsl] at k1 k2
      generalize hA : rowC vc l = A at *
      simp -implicitDefEqProofs [c57, hA, k1, k2, k3]
    · rw [if_neg hk0]
      have k4 := max141 (n := d + 7) (by omega) 142 (·.low) (fun a b => low142 (by omega) a b) (keptL l) (by omega) (by omega)
      have hp1 : (curV (keptL l) (·.low) ((keptL l).length - 1)).low = pkL l := rfl
      have hp2 : (curV l (·.high) (l.length - 1)).high = pkH l := rfl
      rw [← hp1, ← hp2]
      have hnb : (((keptL l).length : Int) == 0) = false := by rw [beq_eq_false_iff_ne]; omega
      have hnb2 : ¬ ((keptL l).length : Int) = 0 := by omega
      have hne : ¬ keptL l = [] := fun e => hk0 (by rw [e]; rfl)
      have hk4 : (keptL l).length * 4 ≤ l.length * 4 := by omega
      generalize l.any (·.over) = o at *
      generalize curV (keptL l) (·.low) ((keptL l).length - 1) = u at *
      generalize curV l (·.high) (l.length - 1) = v at *
      obtain ⟨a1, a2, a3, a4⟩ := u
      obtain ⟨b1, b2, b3, b4⟩ := v
      simp only [vsl] at k1 k2 k4 k5 k6
      have hif : (if (keptL l).length * 4 = l.length * 4 then PVal.sl cells (keptL l).length else PVal.sl (rowC vc (keptL l)) (keptL l).length) = PVal.sl (rowC vc (keptL l)) (keptL l).length := by
        split
        · rename_i h
          rw [← c2, h, ← c1, List.take_length]
        · rfl
      generalize hA : rowC vc l = A at *
      simp -implicitDefEqProofs [c57, hA, k1, k2, k3, k4, k5, k6, hnb, hk4, c1, c2, hif]
  · rw [if_neg hz]
    generalize valsE l = E at *
    simp only [vsl] at k1
    generalize hA : rowC vc l = A at *
    simp -implicitDefEqProofs [c57, hA, k1, hz]

theorem given58 {n : Nat} (hn : 1 ≤ n) (l : List ValI) (hl : l.length < 1000000) : RUN n 58 [vsl l] = .ret (.own (rowC vc l) l.length 4) := by
  obtain ⟨d, rfl⟩ : ∃ d, n = d + 1 := ⟨n - 1, by omega⟩
  rw [RUN, call_eq fe58 _ rfl]
  let inv : Nat → St := fun i => ⟨[(3, .sl 0 i 0 i), (6, vsl l), (7, iv l.length), (8, iv i)], [(0, .arr (rowC vc (l.take i)) i 4)]⟩
  have hR := vR_len l
  simp -implicitDefEqProofs [c58]
  rw [loop_run' inv l.length (e := .exit 0) (st' := ⟨(inv l.length).env ++ [(9, .p (.bool false))], (inv l.length).sto⟩) (by simp)]
  · simp -implicitDefEqProofs [inv, hR]
  · rfl
  · intro i hi
    have hlim : i + 1 ≤ lim := by simp only [lim]; omega
    have wi := wrap_succ (i := i) (by omega)
    have hti : (l.take i).length = i := by simp; omega
    have hln := vR_len (l.take i)
    rw [hti] at hln
    have hr : rowC vc (l.take (i + 1)) = rowC vc (l.take i) ++ vc l[i] := rowC_take _ _ hi
    have hlt : i * 4 < l.length * 4 := by omega
    have hdr := rowC_drop vc_len l i hi
    simp only [inv]
    generalize hA : rowC vc l = A at *
    generalize rowC vc (l.take i) = R' at *
    generalize rowC vc (l.drop (i + 1)) = R2 at *
    generalize hv : l[i] = v at *
    refine ⟨?_, ?h1, ?h2⟩
    case h1 =>
      simp -implicitDefEqProofs [loopS_eq, c58L0, hi, hA, hR, hlt, hdr, vc, hlim, hln, wi]
      exact rfl
    case h2 => exact loopS_same rfl (by simp [hr, vc])
  · simp -implicitDefEqProofs [inv, loopS_eq, c58L0]
  · simp [loopFuel]; omega

theorem short56 {n : Nat} (hn : 1 ≤ n) (l : List ValI) : RUN n 56 [vsl l] = .ret (.p (.bool (decide (l.length ≤ 40) || decide (l.length = 4097)))) := by
  obtain ⟨d, rfl⟩ : ∃ d, n = d + 1 := ⟨n - 1, by omega⟩
  rw [RUN, call_eq fe56 _ rfl]
  by_cases c1 : l.length ≤ 40
  · have c1' : (l.length : Int) ≤ 40 := by omega
    simp -implicitDefEqProofs [c56, c1, c1']
  · have c1' : ¬ (l.length : Int) ≤ 40 := by omega
    by_cases c2 : l.length = 4097
    · have c2' : ((l.length : Int) == 4097) = true := by rw [beq_iff_eq]; omega
      simp -implicitDefEqProofs [c56, c2]
    · have c2' : ((l.length : Int) == 4097) = false := by rw [beq_eq_false_iff_ne]; omega
      simp -implicitDefEqProofs [c56, c1, c1', c2, c2']

def bndL (l : List ValI) : List (Int × Int) := l.map fun v => (v.low, v.high)
theorem vals_ivs (l : List ValI) : ivsE (bndL l) = valsE l := by
  unfold ivsE valsE bndL
  rw [List.length_map, List.map_map]; rfl
theorem check60 {n : Nat} (hn : 5 ≤ n) (l : List ValI) (hl : l.length < 1000000) : RUN n 60 [vsl l] = .ret (iv (valsE l)) := by
  obtain ⟨d, rfl⟩ : ∃ d, n = d + 5 := ⟨n - 5, by omega⟩
  rw [RUN, call_eq fe60 _ rfl]
  have k := check53 (n := d + 4) (by omega) (bndL l) (by simpa [bndL] using hl)
  rw [vals_ivs] at k
  let inv : Nat → St := fun i => ⟨[(0, vsl l), (3, .sl 0 i 0 i), (4, iv i)], [(0, .arr (cI ((bndL l).take i)) i 2)]⟩
  have hR := vR_len l
  have hbl : (bndL l).length = l.length := by simp [bndL]
  have htake : (bndL l).take l.length = bndL l := List.take_of_length_le (by omega)
  have hcl : (cI (bndL l)).length = l.length * 2 := by rw [cI_length, hbl]
  simp only [csl, hbl] at k
  simp -implicitDefEqProofs [c60]
  rw [loop_run' inv l.length (e := .exit 0) (st' := ⟨(inv l.length).env ++ [(8, .p (.bool false))], (inv l.length).sto⟩) (by simp)]
  · simp only [inv, htake]
    generalize cI (bndL l) = B at *
    generalize valsE l = E at *
    simp -implicitDefEqProofs [k, hcl]
  · rfl
  · intro i hi
    have hlim : i + 1 ≤ lim := by simp only [lim]; omega
    have wi := wrap_succ (i := i) (by omega)
    have hr : (bndL l).take (i + 1) = (bndL l).take i ++ [(l[i].low, l[i].high)] := by
      rw [List.take_add_one]; simp [bndL, hi]
    have hln : (cI ((bndL l).take i)).length = i * 2 := by rw [cI_length, List.length_take, hbl]; congr 1; omega
    have hra : cI ((bndL l).take i ++ [(l[i].low, l[i].high)]) = cI ((bndL l).take i) ++ [.int .i64 l[i].low, .int .i64 l[i].high] := by rw [cI_append]; rfl
    have hlt : i * 4 < l.length * 4 := by omega
    have hlt1 : i * 4 + 1 < l.length * 4 := by omega
    have hdr := rowC_drop vc_len l i hi
    have hdr1 : (rowC vc l).drop (i * 4 + 1) = [.int .i64 l[i].high, .bool l[i].under, .bool l[i].over] ++ rowC vc (l.drop (i + 1)) := by
      rw [← List.drop_drop, hdr]; rfl
    simp only [inv, hr, hra]
    generalize hA : rowC vc l = A at *
    generalize cI ((bndL l).take i) = R' at *
    generalize rowC vc (l.drop (i + 1)) = R2 at *
    generalize l[i] = v at *
    obtain ⟨a, b, p, q⟩ := v
    simp only [vc] at hdr hdr1
    refine ⟨?_, ?h1, ?h2⟩
    case h1 =>
      simp -implicitDefEqProofs [loopS_eq, c60L0, hi, hA, hR, hlt, hdr, hlim, hln, wi]
      exact rfl
    case h2 => simp
  · simp -implicitDefEqProofs [inv, loopS_eq, c60L0]
  · simp [loopFuel]; omega

/-! the reference's peak -/
def rfL (l : List ValI) : Nat → Int
  | 0 => -200000
  | i + 1 => if (l.getD i zV).under = true then rfL l i else max (rfL l i) (l.getD i zV).low
def rfH (l : List ValI) : Nat → Int
  | 0 => -200000
  | i + 1 => max (rfH l i) (l.getD i zV).high
def rfK (l : List ValI) (i : Nat) : Bool := (l.take i).any fun v => !v.under
def rfO (l : List ValI) (i : Nat) : Bool := (l.take i).any (·.over)
theorem any_succ (p : ValI → Bool) (l : List ValI) (i : Nat) (hi : i < l.length) : (l.take (i + 1)).any p = ((l.take i).any p || p l[i]) := by
  rw [List.take_add_one, List.getElem?_eq_getElem hi, List.any_append]; simp
theorem peak61 {n : Nat} (hn : 1 ≤ n) (l : List ValI) (hl : l.length ≤ 5000) :
    RUN n 61 [vsl l] = .ret (if rfK l l.length = true then .tup [.agg [iv (rfL l l.length), iv (rfH l l.length)], .p (.bool (rfO l l.length)), iv 0] else .tup [.agg [iv 0, iv 0], .p (.bool false), iv 7]) := by
  obtain ⟨d, rfl⟩ : ∃ d, n = d + 1 := ⟨n - 1, by omega⟩
  rw [RUN, call_eq fe61 _ rfl]
  have hR := vR_len l
  let inv : Nat → St := fun i => ⟨[(0, vsl l), (2, .ptr 0 0 0), (5, .ptr 1 0 0), (6, .p (.bool (rfK l i))), (7, .p (.bool (rfO l i))), (8, iv i)], [(1, .arr [.int .i64 (rfL l i), .int .i64 (rfH l i)] 0 1), (0, .arr [.int .i64 0, .int .i64 0] 0 1)]⟩
  simp -implicitDefEqProofs [c61]
  rw [loop_run' inv l.length (e := .exit 0) (st' := ⟨(inv l.length).env ++ [(13, .p (.bool false))], (inv l.length).sto⟩) (by simp)]
  · simp only [inv]
    generalize rfK l l.length = b
    cases b <;> simp -implicitDefEqProofs []
  · rfl
  · intro i hi
    have wi := wrap_succ (i := i) (by omega)
    have hg : l.getD i zV = l[i] := by simp [List.getD_eq_getElem?_getD, List.getElem?_eq_getElem hi]
    have eK : rfK l (i + 1) = (rfK l i || !l[i].under) := any_succ _ l i hi
    have eO : rfO l (i + 1) = (rfO l i || l[i].over) := any_succ _ l i hi
    have eL : rfL l (i + 1) = if l[i].under = true then rfL l i else max (rfL l i) l[i].low := by simp only [rfL, hg]
    have eH : rfH l (i + 1) = max (rfH l i) l[i].high := by simp only [rfH, hg]
    have hlt : i * 4 < l.length * 4 := by omega
    have hlt1 : i * 4 + 1 < l.length * 4 := by omega
    have hlt2 : i * 4 + 2 < l.length * 4 := by omega
    have hlt3 : i * 4 + 3 < l.length * 4 := by omega
    have hdr := rowC_drop vc_len l i hi
    have hdr1 : (rowC vc l).drop (i * 4 + 1) = [.int .i64 l[i].high, .bool l[i].under, .bool l[i].over] ++ rowC vc (l.drop (i + 1)) := by
      rw [← List.drop_drop, hdr]; rfl
    have hdr2 : (rowC vc l).drop (i * 4 + 2) = [.bool l[i].under, .bool l[i].over] ++ rowC vc (l.drop (i + 1)) := by
      rw [← List.drop_drop, hdr]; rfl
    have hdr3 : (rowC vc l).drop (i * 4 + 3) = [.bool l[i].over] ++ rowC vc (l.drop (i + 1)) := by
      rw [← List.drop_drop, hdr]; rfl
    have mx := fun a b => max2 a b
    simp only [inv, eK, eO, eL, eH]
    generalize rfK l i = kb
    generalize rfO l i = ob
    generalize rfL l i = lo
    generalize rfH l i = hi'
    generalize hA : rowC vc l = A at *
    generalize rowC vc (l.drop (i + 1)) = R2 at *
    generalize l[i] = v at *
    obtain ⟨a, b, p, q⟩ := v
    simp only [vc] at hdr hdr1 hdr2 hdr3
    cases p <;> cases ob
    all_goals
      refine ⟨?_, ?_, ?_⟩
      case refine_2 =>
        simp -implicitDefEqProofs [loopS_eq, c61L0, hi, hA, hR, hlt, hdr, mx, wi]
        exact rfl
      case refine_3 => simp
  · simp -implicitDefEqProofs [inv, loopS_eq, c61L0]
  · simp [loopFuel]; omega

theorem rfL_max (l : List ValI) : ∀ i j, j < i → (l.getD j zV).under = false → (l.getD j zV).low ≤ rfL l i := by
  intro i
  induction i with
  | zero => intro j h; omega
  | succ i ih =>
    intro j h hu
    simp only [rfL]
    by_cases e : j = i
    · subst e; rw [hu]; simp; omega
    · have := ih j (by omega) hu
      split <;> omega
theorem rfL_in (l : List ValI) : ∀ i, rfL l i = -200000 ∨ ∃ j < i, (l.getD j zV).under = false ∧ rfL l i = (l.getD j zV).low := by
  intro i
  induction i with
  | zero => exact .inl rfl
  | succ i ih =>
    simp only [rfL]
    cases hu : (l.getD i zV).under with
    | true =>
      simp only [if_true]
      rcases ih with h | ⟨j, h1, h2, h3⟩
      · exact .inl h
      · exact .inr ⟨j, by omega, h2, h3⟩
    | false =>
      simp only [Bool.false_eq_true, if_false]
      by_cases c : rfL l i ≤ (l.getD i zV).low
      · exact .inr ⟨i, by omega, hu, by omega⟩
      · rcases ih with h | ⟨j, h1, h2, h3⟩
        · exact .inl (by omega)
        · exact .inr ⟨j, by omega, h2, by omega⟩
theorem rfH_max (l : List ValI) : ∀ i j, j < i → (l.getD j zV).high ≤ rfH l i := by
  intro i
  induction i with
  | zero => intro j h; omega
  | succ i ih =>
    intro j h
    simp only [rfH]
    by_cases e : j = i
    · subst e; omega
    · have := ih j (by omega); omega
theorem rfH_in (l : List ValI) : ∀ i, rfH l i = -200000 ∨ ∃ j < i, rfH l i = (l.getD j zV).high := by
  intro i
  induction i with
  | zero => exact .inl rfl
  | succ i ih =>
    simp only [rfH]
    by_cases c : rfH l i ≤ (l.getD i zV).high
    · exact .inr ⟨i, by omega, by omega⟩
    · rcases ih with h | ⟨j, h1, h3⟩
      · exact .inl (by omega)
      · exact .inr ⟨j, by omega, by omega⟩
theorem getD_mem {l : List ValI} {j : Nat} (h : j < l.length) : l.getD j zV ∈ l := by
  rw [List.getD_eq_getElem?_getD, List.getElem?_eq_getElem h]; exact List.getElem_mem h
theorem mem_getD {l : List ValI} {v : ValI} (h : v ∈ l) : ∃ j < l.length, l.getD j zV = v := by
  obtain ⟨j, hj, rfl⟩ := List.getElem_of_mem h
  exact ⟨j, hj, by simp [List.getD_eq_getElem?_getD, hj]⟩
/-- both peaks are one -/
theorem peak_same {l : List ValI} (hz : valsE l = 0) : (if rfK l l.length = true then AVal.tup [.agg [iv (rfL l l.length), iv (rfH l l.length)], .p (.bool (rfO l l.length)), iv 0] else .tup [.agg [iv 0, iv 0], .p (.bool false), iv 7]) = peakR l := by
  rw [← vals_ivs] at hz
  obtain ⟨h0, _, hok⟩ := ivs_of hz
  have h0 : 0 < l.length := by simpa [bndL] using h0
  have hin : ∀ v ∈ l, -200000 ≤ v.low ∧ -200000 ≤ v.high := fun v hv => by
    have := hok (v.low, v.high) (List.mem_map.2 ⟨v, hv, rfl⟩)
    simp only at this; omega
  have hK : rfK l l.length = true ↔ ¬ (keptL l).length = 0 := by
    unfold rfK keptL
    rw [List.take_length]
    constructor
    · intro h hc
      obtain ⟨v, hv, hu⟩ := List.any_eq_true.1 h
      have : v ∈ l.filter fun v => !v.under := List.mem_filter.2 ⟨hv, hu⟩
      rw [List.eq_nil_of_length_eq_zero hc] at this
      cases this
    · intro h
      cases hc : l.filter (fun v => !v.under) with
      | nil => rw [hc] at h; exact absurd rfl h
      | cons v r =>
        have : v ∈ l.filter fun v => !v.under := by rw [hc]; simp
        obtain ⟨h1, h2⟩ := List.mem_filter.1 this
        exact List.any_eq_true.2 ⟨v, h1, h2⟩
  have hO : rfO l l.length = l.any (·.over) := by unfold rfO; rw [List.take_length]
  unfold peakR
  by_cases hk : (keptL l).length = 0
  · rw [if_pos hk, if_neg (fun h => hK.1 h hk)]
  · rw [if_neg hk, if_pos (hK.2 hk), hO]
    have e1 : rfL l l.length = pkL l := by
      obtain ⟨j, h1, h2⟩ := curV_in (keptL l) (·.low) ((keptL l).length - 1)
      have hj : j < (keptL l).length := by omega
      have hm := getD_mem hj
      obtain ⟨m1, m2⟩ := List.mem_filter.1 hm
      obtain ⟨q, q1, q2⟩ := mem_getD m1
      have hle : pkL l ≤ rfL l l.length := by
        unfold pkL
        rw [h2, ← q2]
        exact rfL_max l l.length q q1 (by rw [q2]; simpa using m2)
      have hge : rfL l l.length ≤ pkL l := by
        rcases rfL_in l l.length with h | ⟨r, r1, r2, r3⟩
        · have : -200000 ≤ pkL l := by unfold pkL; rw [h2]; exact (hin _ m1).1
          omega
        · rw [r3]
          have hmr : l.getD r zV ∈ keptL l := List.mem_filter.2 ⟨getD_mem r1, by rw [r2]; rfl⟩
          obtain ⟨s, s1, s2⟩ := mem_getD hmr
          have := curV_max (keptL l) (·.low) ((keptL l).length - 1) s (by omega)
          rw [s2] at this
          exact this
      omega
    have e2 : rfH l l.length = pkH l := by
      obtain ⟨j, h1, h2⟩ := curV_in l (·.high) (l.length - 1)
      have hle : pkH l ≤ rfH l l.length := by
        unfold pkH
        rw [h2]
        exact rfH_max l l.length j (by omega)
      have hge : rfH l l.length ≤ pkH l := by
        rcases rfH_in l l.length with h | ⟨r, r1, r3⟩
        · have : -200000 ≤ pkH l := by unfold pkH; rw [h2]; exact (hin _ (getD_mem (by omega))).2
          omega
        · rw [r3]
          exact curV_max l (·.high) (l.length - 1) r (by omega)
      omega
    rw [e1, e2]
end Fw
