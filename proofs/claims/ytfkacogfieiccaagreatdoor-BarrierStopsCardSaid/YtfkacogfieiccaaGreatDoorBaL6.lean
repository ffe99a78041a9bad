/- Gates, speeds: the chapter's functions and the reference's. -/
import Derived.Test.YtfkacogfieiccaaGreatDoorBaL5
set_option maxHeartbeats 8000000
namespace Fw
open Go
attribute [local irreducible] evCode evOps evOpsD evOper evOperD evOp evFn loopN T.All T.bind callPure callOp opsK opsDK restK seqK blockK loopS setK setQ giveK scalK gcK finish finS rfunK yldK yldB loopK

theorem first98_3' {n : Nat} (hn : 1 ≤ n) (a b c : Int) : RUN n 98 [.p (.sl [.int .i64 a, .int .i64 b, .int .i64 c] 3)] = .ret (iv (firstE [a, b, c])) := first98_3 hn a b c
theorem gate_lt {l : List GateI} {i : Nat} (hi : i < l.length) : gateE l i = firstE [rangeE 0 1000000 l[i].place, ivE 0 100000000 (l[i].lo, l[i].hi), whenE (lateB (befG l i) l[i]) 11] := by
  unfold gateE
  rw [getD_g hi]

theorem check24 {n : Nat} (hn : 6 ≤ n) (l : List GateI) (hl : l.length < 1000000) : RUN n 24 [gsl l] = .ret (iv (gatesE l)) := by
  obtain ⟨d, rfl⟩ : ∃ d, n = d + 6 := ⟨n - 6, by omega⟩
  rw [RUN, call_eq fe24 _ rfl]
  have h1 := fun b e => when107 (n := d + 5) (by omega) b e
  have h2 := fun a b => first98_2 (n := d + 5) (by omega) a b
  have h3 := fun a b c => first98_3 (n := d + 5) (by omega) a b c
  have h4 := fun x lo hi => within108 (n := d + 5) (by omega) x lo hi
  have h5 := fun a b lo hi => interval109' (n := d + 5) (by omega) a b lo hi
  have e0 : firstE [whenE (decide ((l.length : Int) < 2)) 16, whenE (decide ((8 : Int) < l.length)) 5] = fewE l.length := rfl
  unfold gatesE
  by_cases z0 : fewE l.length = 0
  · rw [if_pos z0]
    obtain ⟨f1, f2⟩ := fewE_zero.1 z0
    let inv : Nat → St := fun i => ⟨[(4, .ptr 0 0 0), (24, gsl l), (25, iv l.length), (26, iv i)], [(0, .arr (gc3 (befG l i)) 0 1)]⟩
    have key := loop_first (step := loopS (evFn F C0 G0 (d + 5)) C0 G0 0 true [4, 24, 25, 26] c24L0) inv (gateE l) l.length (.exit 0, ⟨(inv l.length).env ++ [(27, .p (.bool false))], (inv l.length).sto⟩) (fun i => (.ret, ⟨[(2, iv (gateE l i))], [(1, .arr (gc3 (l.getD i gt0)) 0 1), (0, .arr (gc3 (befG l i)) 0 1)]⟩))
      (st0 := ⟨[(4, .ptr 0 0 0), (24, gsl l), (25, iv l.length), (26, iv 0)], [(0, .arr [.int .i64 (-1), .int .i64 (-1), .int .i64 (-1)] 0 1)]⟩) rfl (fun i hi => by
        have hx := rowC_drop gc3_len l i hi
        have hlt : i * 3 < l.length * 3 := by omega
        have hlt' : (i : Int) < l.length := by omega
        have hws := wrap_succ (i := i) (by omega)
        have gi := getD_g hi
        have hE := gate_lt hi
        have h3s := h3 (rangeE 0 1000000 l[i].place) (ivE 0 100000000 (l[i].lo, l[i].hi)) (whenE (lateB (befG l i) l[i]) 11)
        have hb1 : befG l (i + 1) = l[i] := by simp only [befG, gi]
        rw [← hE] at h3s
        rw [gi]
        generalize gateE l i = e at *
        by_cases c1 : l[i].place ≤ (befG l i).place
        · have hlb : lateB (befG l i) l[i] = true := by simp [lateB, c1]
          rw [hlb] at h3s
          refine ⟨fun hz => ⟨?_, ?h3, ?h4⟩, fun hz => ?_⟩
          case h3 =>
            simp -implicitDefEqProofs [inv, loopS_eq, c24L0, cG_len, hx, hlt, hlt', hws, c1, h1, h4, h5, h3s, hz]
            exact rfl
          case h4 => exact loopS_same rfl (by simp [inv, hb1])
          · simp -implicitDefEqProofs [inv, loopS_eq, c24L0, cG_len, hx, hlt, hlt', c1, h1, h4, h5, h3s, hz]
        · have hlb : lateB (befG l i) l[i] = decide (l[i].lo ≤ (befG l i).hi) := by simp [lateB, c1]
          rw [hlb] at h3s
          refine ⟨fun hz => ⟨?_, ?h5, ?h6⟩, fun hz => ?_⟩
          case h5 =>
            simp -implicitDefEqProofs [inv, loopS_eq, c24L0, cG_len, hx, hlt, hlt', hws, c1, h1, h4, h5, h3s, hz]
            exact rfl
          case h6 => exact loopS_same rfl (by simp [inv, hb1])
          · simp -implicitDefEqProofs [inv, loopS_eq, c24L0, cG_len, hx, hlt, hlt', c1, h1, h4, h5, h3s, hz]) (fun i => by simp) (by simp -implicitDefEqProofs [inv, loopS_eq, c24L0]) (by simp) (fuel := loopFuel) (by simp [loopFuel]; omega)
    simp -implicitDefEqProofs [c24, h1, h2, e0, z0]
    rcases key with ⟨k1, k2⟩ | ⟨j, hj, k1, k2, k3, _⟩
    · rw [k1, k2]
      simp -implicitDefEqProofs [inv]
    · rw [k1, k2]
      simp -implicitDefEqProofs
  · rw [if_neg z0]
    have hb : (fewE l.length != 0) = true := by simpa using z0
    simp -implicitDefEqProofs [c24, h1, h2, e0, hb]

/-! speeds -/
structure GatesOk (l : List GateI) : Prop where
  len : 2 ≤ l.length ∧ l.length ≤ 8
  ok : ∀ i, (h : i < l.length) → 0 ≤ l[i].place ∧ l[i].place ≤ 1000000 ∧ 0 ≤ l[i].lo ∧ l[i].lo ≤ l[i].hi ∧ l[i].hi ≤ 100000000
  up : ∀ k, (h : k + 1 < l.length) → l[k].place < l[k + 1].place ∧ l[k].hi < l[k + 1].lo
theorem gates_of {l : List GateI} (h : gatesE l = 0) : GatesOk l := by
  unfold gatesE at h
  by_cases z0 : fewE l.length = 0
  · rw [if_pos z0] at h
    have hz := all_zero h
    have hg : ∀ i, (h : i < l.length) → rangeE 0 1000000 l[i].place = 0 ∧ ivE 0 100000000 (l[i].lo, l[i].hi) = 0 ∧ lateB (befG l i) l[i] = false := by
      intro i hi
      have := hz i hi
      rw [gate_lt hi, firstE_zero] at this
      simp only [List.mem_cons, List.not_mem_nil, or_false, forall_eq_or_imp, forall_eq, whenE_zero (show (11 : Int) ≠ 0 by decide)] at this
      exact this
    refine ⟨fewE_zero.1 z0, fun i hi => ?_, fun k hk => ?_⟩
    · obtain ⟨a, b, _⟩ := hg i hi
      have a := rangeE_zero.1 a
      have b := ivE_zero.1 b
      simp only at b
      omega
    · obtain ⟨_, _, c⟩ := hg (k + 1) hk
      simp only [lateB, befG, getD_g (show k < l.length by omega), Bool.or_eq_false_iff, decide_eq_false_iff_not] at c
      omega
  · rw [if_neg z0] at h
    exact absurd h z0

def spF (l : List GateI) (k : Nat) : Int × Int := (((l.getD (k + 1) gt0).place - (l.getD k gt0).place) * 1000000 / ((l.getD (k + 1) gt0).hi - (l.getD k gt0).lo), upI (((l.getD (k + 1) gt0).place - (l.getD k gt0).place) * 1000000) ((l.getD (k + 1) gt0).lo - (l.getD k gt0).hi))
def spL (l : List GateI) : List (Int × Int) := (List.range (l.length - 1)).map (spF l)
@[simp] theorem spL_length (l : List GateI) : (spL l).length = l.length - 1 := by simp [spL]
theorem spL_take (l : List GateI) (k : Nat) (h : k < l.length - 1) : cI ((spL l).take k) ++ [.int .i64 (spF l k).1, .int .i64 (spF l k).2] = cI ((spL l).take (k + 1)) := by
  have hi : k < (spL l).length := by simpa using h
  rw [← List.take_append_getElem hi, cI_append]
  simp [spL, cI]

theorem div_wrap {x y : Int} (hy : 0 < y) (hx : 0 ≤ x) (hb : x ≤ 1000000000000) : IntKind.i64.wrap (x.tdiv y) = x / y := by
  rw [Int.tdiv_eq_ediv_of_nonneg hx]
  have h1 := Int.ediv_nonneg hx (Int.le_of_lt hy)
  have h2 : x / y ≤ x := Int.ediv_le_self y hx
  exact wrap64 (by omega) (by omega)

theorem upI_is {x den : Int} : -((-x) / den) = upI x den := rfl
theorem ceil105' {n : Nat} (hn : 2 ≤ n) (x den : Int) (hd : 0 < den) (h1 : 0 ≤ x) (h2 : x ≤ 1000000000000) : RUN n 105 [iv x, iv den] = .ret (iv (upI x den)) := by
  obtain ⟨d, rfl⟩ : ∃ d, n = d + 2 := ⟨n - 2, by omega⟩
  rw [RUN, call_eq fe105 _ rfl]
  have hu := upI_in hd h1 (Int.le_refl x)
  have h3 := floor104 (n := d + 1) (by omega) (-x) den hd (by omega) (by omega)
  have hw : IntKind.i64.wrap (-x) = -x := wrap64 (by omega) (by omega)
  have hw2 : IntKind.i64.wrap (-((-x) / den)) = upI x den := by
    rw [upI_is]; exact wrap64 (by omega) (by omega)
  simp -implicitDefEqProofs [c105, hw, h3, hw2]

theorem speeds97 {n : Nat} (hn : 2 ≤ n) {l : List GateI} (h : GatesOk l) : RUN n 97 [gsl l] = .ret (.own (cI (spL l)) (l.length - 1) 2) := by
  obtain ⟨d, rfl⟩ : ∃ d, n = d + 2 := ⟨n - 2, by omega⟩
  rw [RUN, call_eq fe97 _ rfl]
  obtain ⟨f1, f2⟩ := h.len
  let inv : Nat → St := fun k => ⟨[(0, gsl l), (3, .sl 0 k 0 k), (4, iv ((k + 1 : Nat) : Int))], [(0, .arr (cI ((spL l).take k)) k 2)]⟩
  have hend : (spL l).take (l.length - 1) = spL l := List.take_of_length_le (by simp)
  have hl1 : l.length - 1 + 1 = l.length := by omega
  have hl2 : ((l.length - 1 : Nat) : Int) + 1 = (l.length : Int) := by omega
  simp -implicitDefEqProofs [c97]
  rw [loop_run' inv (l.length - 1) (e := .exit 0) (st' := ⟨(inv (l.length - 1)).env ++ [(11, .p (.bool false))], (inv (l.length - 1)).sto⟩) (by simp)]
  · simp -implicitDefEqProofs [inv, hend]
  · exact loopS_same rfl (by simp [inv, cI])
  · intro k hk
    have hk0 : k < l.length := by omega
    have hk1 : k + 1 < l.length := by omega
    have hx := rowC_drop gc3_len l k hk0
    have hx2 := rowC_drop gc3_len l (k + 1) hk1
    have hlt : k * 3 < l.length * 3 := by omega
    have hlt2 : (k + 1) * 3 < l.length * 3 := by omega
    have hlt' : (k : Int) < l.length := by omega
    have hlt2' : (k : Int) + 1 < l.length := by omega
    have hnn : (0 : Int) ≤ (k : Int) + 1 := by omega
    have htn : ((k : Int) + 1).toNat = k + 1 := by omega
    have hwk : IntKind.i64.wrap (k : Int) = k := wrap64 (by omega) (by omega)
    have hwk2 : IntKind.i64.wrap ((k : Int) + 1 + 1) = (k : Int) + 1 + 1 := wrap64 (by omega) (by omega)
    have hlim : k + 1 ≤ lim := by simp only [lim]; omega
    have hto : ((spL l).take k).length = k := by simp; omega
    have ht := spL_take l k hk
    have hsf : spF l k = ((l[k + 1].place - l[k].place) * 1000000 / (l[k + 1].hi - l[k].lo), upI ((l[k + 1].place - l[k].place) * 1000000) (l[k + 1].lo - l[k].hi)) := by
      unfold spF; rw [getD_g hk0, getD_g hk1]
    rw [hsf] at ht
    obtain ⟨a1, a2, a3, a4, a5⟩ := h.ok k hk0
    obtain ⟨b1, b2, b3, b4, b5⟩ := h.ok (k + 1) hk1
    obtain ⟨u1, u2⟩ := h.up k hk1
    generalize l[k] = a at *
    generalize l[k + 1] = b at *
    have w1 : IntKind.i64.wrap (b.place - a.place) = b.place - a.place := wrap64 (by omega) (by omega)
    have w2 : IntKind.i64.wrap ((b.place - a.place) * 1000000) = (b.place - a.place) * 1000000 := wrap64 (by omega) (by omega)
    have w3 : IntKind.i64.wrap (b.hi - a.lo) = b.hi - a.lo := wrap64 (by omega) (by omega)
    have w4 : IntKind.i64.wrap (b.lo - a.hi) = b.lo - a.hi := wrap64 (by omega) (by omega)
    have hz : ¬ b.hi - a.lo = 0 := by omega
    have hq := div_wrap (x := (b.place - a.place) * 1000000) (y := b.hi - a.lo) (by omega) (by omega) (by omega)
    have h153 := up153 (n := d + 1) (by omega) ((b.place - a.place) * 1000000) (b.lo - a.hi) (by omega) (by omega) (by omega) (by omega)
    refine ⟨?_, ?h1, ?h2⟩
    case h1 =>
      simp -implicitDefEqProofs [inv, loopS_eq, c97L0, cG_len, hx, hx2, hlt, hlt2, hlt', hlt2', hnn, htn, hwk, hwk2, hlim, hto, w1, w2, w3, w4, hz, hq, h153]
      exact rfl
    case h2 => exact loopS_same rfl (by simp [inv, ht, -List.map_take, -List.take_append_getElem])
  · simp -implicitDefEqProofs [inv, loopS_eq, c97L0, hl2]
  · simp [loopFuel]; omega

theorem speeds21 {n : Nat} (hn : 3 ≤ n) {l : List GateI} (h : GatesOk l) : RUN n 21 [gsl l] = .ret (.own (cI (spL l)) (l.length - 1) 2) := by
  obtain ⟨d, rfl⟩ : ∃ d, n = d + 3 := ⟨n - 3, by omega⟩
  rw [RUN, call_eq fe21 _ rfl]
  obtain ⟨f1, f2⟩ := h.len
  let inv : Nat → St := fun k => ⟨[(0, gsl l), (3, .sl 0 k 0 k), (4, iv ((k + 1 : Nat) : Int))], [(0, .arr (cI ((spL l).take k)) k 2)]⟩
  have hend : (spL l).take (l.length - 1) = spL l := List.take_of_length_le (by simp)
  have hl1 : l.length - 1 + 1 = l.length := by omega
  have hl2 : ((l.length - 1 : Nat) : Int) + 1 = (l.length : Int) := by omega
  simp -implicitDefEqProofs [c21]
  rw [loop_run' inv (l.length - 1) (e := .exit 0) (st' := ⟨(inv (l.length - 1)).env ++ [(11, .p (.bool false))], (inv (l.length - 1)).sto⟩) (by simp)]
  · simp -implicitDefEqProofs [inv, hend]
  · exact loopS_same rfl (by simp [inv, cI])
  · intro k hk
    have hk0 : k < l.length := by omega
    have hk1 : k + 1 < l.length := by omega
    have hx := rowC_drop gc3_len l k hk0
    have hx2 := rowC_drop gc3_len l (k + 1) hk1
    have hlt : k * 3 < l.length * 3 := by omega
    have hlt2 : (k + 1) * 3 < l.length * 3 := by omega
    have hlt' : (k : Int) < l.length := by omega
    have hlt2' : (k : Int) + 1 < l.length := by omega
    have hnn : (0 : Int) ≤ (k : Int) + 1 := by omega
    have htn : ((k : Int) + 1).toNat = k + 1 := by omega
    have hwk : IntKind.i64.wrap (k : Int) = k := wrap64 (by omega) (by omega)
    have hwk2 : IntKind.i64.wrap ((k : Int) + 1 + 1) = (k : Int) + 1 + 1 := wrap64 (by omega) (by omega)
    have hlim : k + 1 ≤ lim := by simp only [lim]; omega
    have hto : ((spL l).take k).length = k := by simp; omega
    have ht := spL_take l k hk
    have hsf : spF l k = ((l[k + 1].place - l[k].place) * 1000000 / (l[k + 1].hi - l[k].lo), upI ((l[k + 1].place - l[k].place) * 1000000) (l[k + 1].lo - l[k].hi)) := by
      unfold spF; rw [getD_g hk0, getD_g hk1]
    rw [hsf] at ht
    obtain ⟨a1, a2, a3, a4, a5⟩ := h.ok k hk0
    obtain ⟨b1, b2, b3, b4, b5⟩ := h.ok (k + 1) hk1
    obtain ⟨u1, u2⟩ := h.up k hk1
    generalize l[k] = a at *
    generalize l[k + 1] = b at *
    have w1 : IntKind.i64.wrap (b.place - a.place) = b.place - a.place := wrap64 (by omega) (by omega)
    have w2 : IntKind.i64.wrap ((b.place - a.place) * 1000000) = (b.place - a.place) * 1000000 := wrap64 (by omega) (by omega)
    have w3 : IntKind.i64.wrap (b.hi - a.lo) = b.hi - a.lo := wrap64 (by omega) (by omega)
    have w4 : IntKind.i64.wrap (b.lo - a.hi) = b.lo - a.hi := wrap64 (by omega) (by omega)
    have h104 := floor104 (n := d + 2) (by omega) ((b.place - a.place) * 1000000) (b.hi - a.lo) (by omega) (by omega) (by omega)
    have h105 := ceil105' (n := d + 2) (by omega) ((b.place - a.place) * 1000000) (b.lo - a.hi) (by omega) (by omega) (by omega)
    refine ⟨?_, ?h1, ?h2⟩
    case h1 =>
      simp -implicitDefEqProofs [inv, loopS_eq, c21L0, cG_len, hx, hx2, hlt, hlt2, hlt', hlt2', hnn, htn, hwk, hwk2, hlim, hto, w1, w2, w3, w4, h104, h105]
      exact rfl
    case h2 => exact loopS_same rfl (by simp [inv, ht, -List.map_take, -List.take_append_getElem])
  · simp -implicitDefEqProofs [inv, loopS_eq, c21L0, hl2]
  · simp [loopFuel]; omega

theorem speeds14 {n : Nat} (hn : 7 ≤ n) (l : List GateI) (hl : l.length < 1000000) : RUN n 14 [gsl l] = .ret (if gatesE l = 0 then .tup [csl (spL l), iv 0] else .tup [.p (.sl [] 0), iv (gatesE l)]) := by
  obtain ⟨d, rfl⟩ : ∃ d, n = d + 7 := ⟨n - 7, by omega⟩
  rw [RUN, call_eq fe14 _ rfl]
  have h0 := check24 (n := d + 6) (by omega) l hl
  by_cases z0 : gatesE l = 0
  · rw [if_pos z0]
    have h1 := speeds97 (n := d + 6) (by omega) (gates_of z0)
    simp -implicitDefEqProofs [c14, h0, z0, h1, csl]
  · rw [if_neg z0]
    have hb : (gatesE l != 0) = true := by simpa using z0
    simp -implicitDefEqProofs [c14, h0, hb]
end Fw
