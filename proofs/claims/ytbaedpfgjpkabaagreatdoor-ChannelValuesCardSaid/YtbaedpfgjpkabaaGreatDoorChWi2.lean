/- Several texts in one: each is told at its head. -/
import Derived.Test.YtbaedpfgjpkabaaGreatDoorChSe2
import Derived.Test.YtbaedpfgjpkabaaGreatDoorChSu1
section
/- Values: their errors, the greatest one, the peak of values that are not below. -/
set_option maxHeartbeats 16000000
namespace Fw
open Go
attribute [local irreducible] evCode evOps evOpsD evOper evOperD evOp evFn loopN T.All T.bind callPure callOp opsK opsDK restK seqK blockK loopS setK setQ giveK scalK gcK finish finS rfunK yldK yldB loopK

def valE (v : ValI) : Int := ivX (v.low, v.high)
theorem bounds183 {n : Nat} (hn : 1 ≤ n) (v : ValI) : RUN n 183 [va v] = .ret (.agg [iv v.low, iv v.high]) := by
  obtain ⟨d, rfl⟩ : ∃ d, n = d + 1 := ⟨n - 1, by omega⟩
  rw [RUN, call_eq fe183 _ rfl]
  simp -implicitDefEqProofs [c183]
theorem check182 {n : Nat} (hn : 4 ≤ n) (v : ValI) : RUN n 182 [va v] = .ret (iv (valE v)) := by
  obtain ⟨d, rfl⟩ : ∃ d, n = d + 4 := ⟨n - 4, by omega⟩
  rw [RUN, call_eq fe182 _ rfl]
  have k1 := bounds183 (n := d + 3) (by omega) v
  have k := interval121 (n := d + 3) (by omega) (v.low, v.high) (-200000) 200000
  have hE : ivE (-200000) 200000 (v.low, v.high) = valE v := rfl
  rw [hE] at k
  simp -implicitDefEqProofs [c182, k1, k]
theorem map184 {n : Nat} (hn : 5 ≤ n) (l : List ValI) (hl : l.length < 1000000) : RUN n 184 [vsl l, .p (.clo 182 [] [])] = .ret (.own (pI (l.map valE)) l.length 1) := by
  obtain ⟨d, rfl⟩ : ∃ d, n = d + 5 := ⟨n - 5, by omega⟩
  rw [RUN, call_eq fe184 _ rfl]
  let inv : Nat → St := fun i => ⟨[(1, .p (.clo 182 [] [])), (5, .sl 0 i 0 i), (8, vsl l), (9, iv l.length), (10, iv i)], [(0, .arr (pI ((l.map valE).take i)) i 1)]⟩
  have hR := vR_len l
  have htake : (l.map valE).take l.length = l.map valE := List.take_of_length_le (by simp)
  simp -implicitDefEqProofs [c184]
  rw [loop_run' inv l.length (e := .exit 0) (st' := ⟨(inv l.length).env ++ [(11, .p (.bool false))], (inv l.length).sto⟩) (by simp)]
  · simp -implicitDefEqProofs [inv, htake]
  · rfl
  · intro i hi
    have hlim : i + 1 ≤ lim := by simp only [lim]; omega
    have wi := wrap_succ (i := i) (by omega)
    have k := check182 (n := d + 4) (by omega) l[i]
    have hti : ((l.map valE).take i).length = i := by simp; omega
    have hr : pI ((l.map valE).take (i + 1)) = pI ((l.map valE).take i) ++ [.int .i64 (valE l[i])] := by
      rw [pI_snoc, List.take_add_one]; simp [hi]
    have hln : (pI ((l.map valE).take i)).length = i := by simp; omega
    have hlt : i * 4 < l.length * 4 := by omega
    have hdr := rowC_drop vc_len l i hi
    simp only [inv]
    generalize hA : rowC vc l = A at *
    generalize pI ((l.map valE).take i) = R' at *
    generalize rowC vc (l.drop (i + 1)) = R2 at *
    generalize valE l[i] = w at *
    generalize l[i] = v at *
    obtain ⟨a, b, p, q⟩ := v
    refine ⟨?_, ?h1, ?h2⟩
    case h1 =>
      simp -implicitDefEqProofs [loopS_eq, c184L0, hi, hA, hR, hlt, hdr, vc, k, hlim, hln, wi]
      exact rfl
    case h2 => exact loopS_same rfl (by simp [hr])
  · simp -implicitDefEqProofs [inv, loopS_eq, c184L0]
  · simp [loopFuel]; omega
def valsE (l : List ValI) : Int := firstE [manyE l.length, firstE (l.map valE)]
theorem check137 {n : Nat} (hn : 6 ≤ n) (l : List ValI) (hl : l.length < 1000000) : RUN n 137 [vsl l] = .ret (iv (valsE l)) := by
  obtain ⟨d, rfl⟩ : ∃ d, n = d + 6 := ⟨n - 6, by omega⟩
  rw [RUN, call_eq fe137 _ rfl]
  have k1 := many134 (n := d + 5) (by omega) l.length
  have k2 := map184 (n := d + 5) (by omega) l hl
  have k3 := first103 (n := d + 5) (by omega) (l.map valE) (by simpa using hl)
  have k4 := first103_2 (n := d + 5) (by omega) (manyE l.length) (firstE (l.map valE))
  have hE : firstE [manyE l.length, firstE (l.map valE)] = valsE l := rfl
  rw [hE] at k4
  simp only [List.length_map] at k3
  generalize valsE l = E at *
  generalize firstE (l.map valE) = E2 at *
  generalize manyE l.length = E1 at *
  generalize pI (l.map valE) = P at *
  simp -implicitDefEqProofs [c137, k1, k2, k3, k4]

theorem under140 {n : Nat} (hn : 1 ≤ n) (v : ValI) : RUN n 140 [va v] = .ret (.p (.bool v.under)) := by
  obtain ⟨d, rfl⟩ : ∃ d, n = d + 1 := ⟨n - 1, by omega⟩
  rw [RUN, call_eq fe140 _ rfl]
  simp -implicitDefEqProofs [c140]
theorem over146 {n : Nat} (hn : 1 ≤ n) (v : ValI) : RUN n 146 [va v] = .ret (.p (.bool v.over)) := by
  obtain ⟨d, rfl⟩ : ∃ d, n = d + 1 := ⟨n - 1, by omega⟩
  rw [RUN, call_eq fe146 _ rfl]
  simp -implicitDefEqProofs [c146]
/-- the index of the first value of a kind, and one; 0 if there is none -/
def idxL (p : ValI → Bool) (l : List ValI) : List Int := (List.range l.length).map fun i => if p (l.getD i ⟨0, 0, false, false⟩) = true then (i : Int) + 1 else 0
theorem index185 {n : Nat} (hn : 2 ≤ n) (f : Nat) (p : ValI → Bool) (hf : ∀ v, RUN (n - 1) f [va v] = .ret (.p (.bool (p v)))) (l : List ValI) (hl : l.length < 1000000) : RUN n 185 [vsl l, .p (.clo f [] [])] = .ret (iv (firstE (idxL p l) - 1)) := by
  obtain ⟨d, rfl⟩ : ∃ d, n = d + 2 := ⟨n - 2, by omega⟩
  rw [RUN, call_eq fe185 _ rfl]
  have hf : ∀ v, RUN (d + 1) f [va v] = .ret (.p (.bool (p v))) := hf
  have hR := vR_len l
  let inv : Nat → St := fun i => ⟨[(0, vsl l), (1, .p (.clo f [] [])), (7, iv l.length), (8, iv i)], []⟩
  have key := loop_first (step := loopS (evFn F C0 G0 (d + 1)) C0 G0 0 true [0, 1, 7, 8] c185L0) inv (fun i => if p (l.getD i ⟨0, 0, false, false⟩) = true then (i : Int) + 1 else 0) l.length (.exit 0, ⟨(inv l.length).env ++ [(9, .p (.bool false))], []⟩) (fun i => (.ret, ⟨[(4, iv i)], []⟩)) (st0 := inv 0) rfl (fun i hi => by
    have wi := wrap_succ (i := i) (by omega)
    have hg : l.getD i ⟨0, 0, false, false⟩ = l[i] := by simp [List.getD_eq_getElem?_getD, List.getElem?_eq_getElem hi]
    have k := hf l[i]
    have hlt : i * 4 < l.length * 4 := by omega
    have hdr := rowC_drop vc_len l i hi
    simp only [hg, inv]
    generalize hA : rowC vc l = A at *
    generalize rowC vc (l.drop (i + 1)) = R2 at *
    generalize hb : p l[i] = b at *
    generalize l[i] = v at *
    obtain ⟨x, y, u, o⟩ := v
    cases b with
    | true =>
      refine ⟨fun he => by simp at he; omega, fun _ => ?_⟩
      simp -implicitDefEqProofs [loopS_eq, c185L0, hi, hA, hR, hlt, hdr, vc, k]
    | false =>
      refine ⟨fun _ => ⟨_, ?_, rfl⟩, fun he => by simp at he⟩
      simp -implicitDefEqProofs [loopS_eq, c185L0, hi, hA, hR, hlt, hdr, vc, k, wi]) (fun i => by simp) (by simp -implicitDefEqProofs [inv, loopS_eq, c185L0]) (by simp) (fuel := loopFuel) (by simp [loopFuel]; omega)
  simp only [inv, Int.natCast_zero] at key
  simp -implicitDefEqProofs [c185]
  rcases key with ⟨k1, k2⟩ | ⟨j, hj, k1, k2, k3, _⟩
  · have : firstE (idxL p l) = 0 := k2
    rw [k1, this]
    simp -implicitDefEqProofs
  · have : firstE (idxL p l) = (j : Int) + 1 := by
      rw [show firstE (idxL p l) = _ from k2]
      split at k3
      · rename_i h; rw [if_pos h]
      · exact absurd rfl k3
    rw [k1, this]
    simp -implicitDefEqProofs

/-- the first greatest value by a key, of the first ones -/
def curV (l : List ValI) (key : ValI → Int) : Nat → ValI
  | 0 => l.getD 0 ⟨0, 0, false, false⟩
  | i + 1 => if key (curV l key i) < key (l.getD (i + 1) ⟨0, 0, false, false⟩) then l.getD (i + 1) ⟨0, 0, false, false⟩ else curV l key i
theorem curV_in (l : List ValI) (key : ValI → Int) : ∀ i, ∃ j ≤ i, curV l key i = l.getD j ⟨0, 0, false, false⟩ := by
  intro i
  induction i with
  | zero => exact ⟨0, Nat.le_refl _, rfl⟩
  | succ i ih =>
    obtain ⟨j, h1, h2⟩ := ih
    simp only [curV]
    split
    · exact ⟨i + 1, Nat.le_refl _, rfl⟩
    · exact ⟨j, by omega, h2⟩
theorem curV_max (l : List ValI) (key : ValI → Int) : ∀ i j, j ≤ i → key (l.getD j ⟨0, 0, false, false⟩) ≤ key (curV l key i) := by
  intro i
  induction i with
  | zero => intro j hj; have : j = 0 := by omega
            subst this; exact Int.le_refl _
  | succ i ih =>
    intro j hj
    simp only [curV]
    by_cases e : j = i + 1
    · subst e
      split
      · exact Int.le_refl _
      · rename_i h; omega
    · have := ih j (by omega)
      split
      · rename_i h; omega
      · exact this
def cmpI (x y : Int) : Int := if x < y then -1 else if y < x then 1 else 0
theorem low142 {n : Nat} (hn : 3 ≤ n) (a b : ValI) : RUN n 142 [va a, va b] = .ret (iv (cmpI a.low b.low)) := by
  obtain ⟨d, rfl⟩ : ∃ d, n = d + 3 := ⟨n - 3, by omega⟩
  rw [RUN, call_eq fe142 _ rfl]
  have k := cmp143 (n := d + 2) (by omega) a.low b.low
  have hE : (if a.low < b.low then (-1 : Int) else if b.low < a.low then 1 else 0) = cmpI a.low b.low := rfl
  rw [hE] at k
  simp -implicitDefEqProofs [c142, k]
theorem high144 {n : Nat} (hn : 3 ≤ n) (a b : ValI) : RUN n 144 [va a, va b] = .ret (iv (cmpI a.high b.high)) := by
  obtain ⟨d, rfl⟩ : ∃ d, n = d + 3 := ⟨n - 3, by omega⟩
  rw [RUN, call_eq fe144 _ rfl]
  have k := cmp143 (n := d + 2) (by omega) a.high b.high
  have hE : (if a.high < b.high then (-1 : Int) else if b.high < a.high then 1 else 0) = cmpI a.high b.high := rfl
  rw [hE] at k
  simp -implicitDefEqProofs [c144, k]
theorem cmpI_pos (x y : Int) : (0 < cmpI x y) ↔ y < x := by
  unfold cmpI
  split
  · omega
  · split
    · simp; omega
    · simp; omega
theorem max141 {n : Nat} (hn : 2 ≤ n) (f : Nat) (key : ValI → Int) (hf : ∀ a b, RUN (n - 1) f [va a, va b] = .ret (iv (cmpI (key a) (key b)))) (l : List ValI) (h0 : 0 < l.length) (hl : l.length < 1000000) : RUN n 141 [vsl l, .p (.clo f [] [])] = .ret (va (curV l key (l.length - 1))) := by
  obtain ⟨d, rfl⟩ : ∃ d, n = d + 2 := ⟨n - 2, by omega⟩
  rw [RUN, call_eq fe141 _ rfl]
  have hf : ∀ a b, RUN (d + 1) f [va a, va b] = .ret (iv (cmpI (key a) (key b))) := hf
  have hR := vR_len l
  obtain ⟨m, hm⟩ : ∃ m, l.length = m + 1 := ⟨l.length - 1, by omega⟩
  have hdr0 := rowC_drop vc_len l 0 h0
  have hc0 : curV l key 0 = l[0] := by simp [curV, List.getD_eq_getElem?_getD, List.getElem?_eq_getElem h0]
  let inv : Nat → St := fun i => ⟨[(0, vsl l), (1, .p (.clo f [] [])), (4, .ptr 0 0 0), (5, .ptr 1 0 0), (6, iv ((i : Int) + 1))], [(1, .arr (vc (curV l key i)) 0 1), (0, .arr [.int .i64 0, .int .i64 0, .bool false, .bool false] 0 1)]⟩
  have hloop : loopN (loopS (evFn F C0 G0 (d + 1)) C0 G0 0 true [0, 1, 4, 5, 6] c141L0) loopFuel ⟨[(0, vsl l), (1, .p (.clo f [] [])), (4, .ptr 0 0 0), (5, .ptr 1 0 0), (6, iv 1)], [(1, .arr (vc (curV l key 0)) 0 1), (0, .arr [.int .i64 0, .int .i64 0, .bool false, .bool false] 0 1)]⟩ = .ret (.exit 0, ⟨(inv m).env ++ [(17, .p (.bool false))], (inv m).sto⟩) := by
    refine loop_run' inv m (by simp) (by rfl) ?_ ?_ (by simp [loopFuel]; omega)
    · intro i hi
      have hi1 : i + 1 < l.length := by omega
      have w1 := wrap64 (n := (i : Int) + 1 + 1) (by omega) (by omega)
      have hg : l.getD (i + 1) ⟨0, 0, false, false⟩ = l[i + 1] := by simp [List.getD_eq_getElem?_getD, List.getElem?_eq_getElem hi1]
      have k := hf l[i + 1] (curV l key i)
      have hlt : (i + 1) * 4 < l.length * 4 := by omega
      have hdr := rowC_drop vc_len l (i + 1) hi1
      have q1 : (i : Int) + 1 < l.length := by omega
      have q2 : ((i : Int) + 1).toNat = i + 1 := by omega
      have q3 : (0 : Int) ≤ (i : Int) + 1 := by omega
      have hcv : curV l key (i + 1) = if key (curV l key i) < key l[i + 1] then l[i + 1] else curV l key i := by simp only [curV, hg]
      simp only [inv, hcv]
      have hcp := cmpI_pos (key l[i + 1]) (key (curV l key i))
      generalize cmpI (key l[i + 1]) (key (curV l key i)) = E at *
      generalize hA : rowC vc l = A at *
      generalize rowC vc (l.drop (i + 1 + 1)) = R2 at *
      generalize key (curV l key i) = y1 at *
      generalize key l[i + 1] = y2 at *
      generalize curV l key i = cv at *
      generalize l[i + 1] = v at *
      obtain ⟨x, y, u, o⟩ := v
      obtain ⟨x', y', u', o'⟩ := cv
      by_cases c : y1 < y2
      · have cE : 0 < E := hcp.2 c
        rw [if_pos c]
        refine ⟨?_, ?h1, ?h2⟩
        case h1 =>
          simp -implicitDefEqProofs [loopS_eq, c141L0, hA, hR, hlt, hdr, vc, k, cE, w1, q1, q2, q3]
          exact rfl
        case h2 => exact loopS_same (by simp) (by simp [vc])
      · have cE : ¬ 0 < E := fun h => c (hcp.1 h)
        rw [if_neg c]
        refine ⟨?_, ?h3, ?h4⟩
        case h3 =>
          simp -implicitDefEqProofs [loopS_eq, c141L0, hA, hR, hlt, hdr, vc, k, cE, w1, q1, q2, q3]
          exact rfl
        case h4 => exact loopS_same (by simp) (by simp [vc])
    · have q1 : ¬ (m : Int) + 1 < l.length := by omega
      simp only [inv]
      generalize curV l key m = cv at *
      obtain ⟨x', y', u', o'⟩ := cv
      simp -implicitDefEqProofs [loopS_eq, c141L0, q1, vc]
  have b1 : ¬ (l.length : Int) < 1 := by omega
  have b2 : (0 : Int) < l.length := by omega
  have hm1 : l.length - 1 = m := by omega
  rw [hc0] at hloop
  rw [hm1]
  simp only [inv] at hloop
  generalize hA : rowC vc l = A at *
  generalize rowC vc (l.drop (0 + 1)) = R2 at *
  generalize curV l key m = cv at *
  generalize l[0] = v at *
  obtain ⟨x, y, u, o⟩ := v
  obtain ⟨x', y', u', o'⟩ := cv
  simp only [vc, Nat.zero_mul, List.drop_zero] at hdr0 hloop
  have h0' : 0 < l.length := h0
  simp -implicitDefEqProofs [c141, b1, hA, hdr0, h0']
  rw [hloop]
  simp -implicitDefEqProofs []
end Fw
end

section
/- The peak of values of which none is below. -/
set_option maxHeartbeats 16000000
namespace Fw
open Go
attribute [local irreducible] evCode evOps evOpsD evOper evOperD evOp evFn loopN T.All T.bind callPure callOp opsK opsDK restK seqK blockK loopS setK setQ giveK scalK gcK finish finS rfunK yldK yldB loopK

theorem idx_none {p : ValI → Bool} {l : List ValI} : firstE (idxL p l) = 0 ↔ ∀ v ∈ l, p v = false := by
  unfold idxL
  rw [firstE_zero]
  constructor
  · intro h v hv
    obtain ⟨i, hi, rfl⟩ := List.getElem_of_mem hv
    have := h _ (List.mem_map.2 ⟨i, List.mem_range.2 hi, rfl⟩)
    have hg : l.getD i ⟨0, 0, false, false⟩ = l[i] := by simp [List.getD_eq_getElem?_getD, List.getElem?_eq_getElem hi]
    rw [hg] at this
    cases hp : p l[i] with
    | false => rfl
    | true => rw [hp, if_pos rfl] at this; omega
  · intro h e he
    obtain ⟨i, hi, rfl⟩ := List.mem_map.1 he
    have hi := List.mem_range.1 hi
    have hg : l.getD i ⟨0, 0, false, false⟩ = l[i] := by simp [List.getD_eq_getElem?_getD, List.getElem?_eq_getElem hi]
    rw [hg, h _ (List.getElem_mem hi)]; rfl
theorem idx_pos (p : ValI → Bool) (l : List ValI) : 0 ≤ firstE (idxL p l) := by
  by_cases h : firstE (idxL p l) = 0
  · omega
  · have hm : firstE (idxL p l) ∈ idxL p l := by
      have : ∀ L : List Int, firstE L ≠ 0 → firstE L ∈ L := by
        intro L
        induction L with
        | nil => intro h; exact absurd rfl h
        | cons e r ih =>
          intro h
          rw [firstE_cons] at h ⊢
          split at h
          · rename_i h0
            rw [if_pos h0]
            exact List.mem_cons_of_mem _ (ih h)
          · rename_i h0
            rw [if_neg h0]
            exact List.mem_cons_self
      exact this _ h
    obtain ⟨i, _, e⟩ := List.mem_map.1 hm
    split at e <;> omega
theorem contains145 {n : Nat} (hn : 3 ≤ n) (l : List ValI) (hl : l.length < 1000000) : RUN n 145 [vsl l, .p (.clo 146 [] [])] = .ret (.p (.bool (l.any (·.over)))) := by
  obtain ⟨d, rfl⟩ : ∃ d, n = d + 3 := ⟨n - 3, by omega⟩
  rw [RUN, call_eq fe145 _ rfl]
  have k := index185 (n := d + 2) (by omega) 146 (·.over) (fun v => over146 (by omega) v) l hl
  have hz := idx_none (p := (·.over)) (l := l)
  have hp := idx_pos (·.over) l
  have hb : decide ((0 : Int) ≤ firstE (idxL (·.over) l) - 1) = l.any (·.over) := by
    cases ha : l.any (·.over) with
    | false =>
      have := hz.2 (fun v hv => by
        have := List.any_eq_false.1 ha v hv
        simpa using this)
      rw [this]; rfl
    | true =>
      obtain ⟨v, hv, hov⟩ := List.any_eq_true.1 ha
      have : ¬ firstE (idxL (·.over) l) = 0 := fun e => by
        rw [hz.1 e v hv] at hov; cases hov
      simp; omega
  generalize firstE (idxL (·.over) l) - 1 = E at *
  rw [← hb]
  simp -implicitDefEqProofs [c145, k]
theorem clone139 {n : Nat} (hn : 1 ≤ n) (l : List ValI) (h0 : 0 < l.length) (hl : l.length < 1000000) : RUN n 139 [vsl l] = .ret (.own (rowC vc l) l.length 4) := by
  obtain ⟨d, rfl⟩ : ∃ d, n = d + 1 := ⟨n - 1, by omega⟩
  rw [RUN, call_eq fe139 _ rfl]
  have hR := vR_len l
  have hn0 : ¬ l.length = 0 := by omega
  have hne : ¬ l = [] := fun e => by subst e; simp at h0
  have hlim : l.length ≤ lim := by simp only [lim]; omega
  generalize hA : rowC vc l = A at *
  simp -implicitDefEqProofs [c139, hA, hR, hn0, hlim]
end Fw
end

