/- Momenta: the chapter's functions; changes. -/
import Derived.Test.YtfkacogfieiccaaGreatDoorBaP2
set_option maxHeartbeats 8000000
namespace Fw
open Go
attribute [local irreducible] evCode evOps evOpsD evOper evOperD evOp evFn loopN T.All T.bind callPure callOp opsK opsDK restK seqK blockK loopS setK setQ giveK scalK gcK finish finS rfunK yldK yldB loopK

abbrev mv11 (x : PartI) : List PVal := [.str x.name, .int .i64 x.ml, .int .i64 x.mh, .int .i64 x.bl, .int .i64 x.bh, .int .i64 x.al, .int .i64 x.ah, .int .i64 (bfI x).1, .int .i64 (bfI x).2, .int .i64 (afI x).1, .int .i64 (afI x).2]
theorem mv11_len (x : PartI) : (mv11 x).length = 11 := rfl
theorem cM_len (l : List PartI) : (rowC mv11 l).length = l.length * 11 := rowC_len mv11_len l

theorem moved164 {n : Nat} (hn : 4 ≤ n) {x : PartI} (h : PartOk x) : RUN n 164 [.agg [sv x.name, iv x.ml, iv x.mh, iv x.bl, iv x.bh, iv x.al, iv x.ah]] = .ret (.agg ((mv11 x).map .p)) := by
  obtain ⟨d, rfl⟩ : ∃ d, n = d + 4 := ⟨n - 4, by omega⟩
  rw [RUN, call_eq fe164 _ rfl]
  obtain ⟨m1, m2, m3, b1, b2, b3, a1, a2, a3⟩ := h
  have t1 := products178 (n := d + 3) (by omega) (a := x.ml) (b := x.mh) (c := x.bl) (e := x.bh) (by omega) (by omega) (by omega) (by omega) (by omega) (by omega) (by omega) (by omega)
  have t2 := products178 (n := d + 3) (by omega) (a := x.ml) (b := x.mh) (c := x.al) (e := x.ah) (by omega) (by omega) (by omega) (by omega) (by omega) (by omega) (by omega) (by omega)
  rw [show prI x.ml x.mh x.bl x.bh = bfI x from rfl] at t1
  rw [show prI x.ml x.mh x.al x.ah = afI x from rfl] at t2
  simp -implicitDefEqProofs [c164, t1, t2]

theorem map163 {n : Nat} (hn : 5 ≤ n) {l : List PartI} (hl : l.length ≤ 8) (hok : ∀ i, (hi : i < l.length) → PartOk l[i]) : RUN n 163 [ptl l, .p (.clo 164 [] [])] = .ret (.own (rowC mv11 l) l.length 11) := by
  obtain ⟨d, rfl⟩ : ∃ d, n = d + 5 := ⟨n - 5, by omega⟩
  rw [RUN, call_eq fe163 _ rfl]
  let inv : Nat → St := fun i => ⟨[(1, .p (.clo 164 [] [])), (5, .sl 0 i 0 i), (8, ptl l), (9, iv l.length), (10, iv i)], [(0, .arr (rowC mv11 (l.take i)) i 11)]⟩
  have htl : l.take l.length = l := List.take_of_length_le (by omega)
  simp -implicitDefEqProofs [c163]
  rw [loop_run' inv l.length (e := .exit 0) (st' := ⟨(inv l.length).env ++ [(11, .p (.bool false))], (inv l.length).sto⟩) (by simp)]
  · simp -implicitDefEqProofs [inv, htl, cM_len]
  · exact loopS_same rfl (by simp [inv])
  · intro i hi
    have hx := rowC_drop pc7_len l i hi
    have hlt : i * 7 < l.length * 7 := by omega
    have hlt' : (i : Int) < l.length := by omega
    have hlim : i + 1 ≤ lim := by simp only [lim]; omega
    have hto : (l.take i).length = i := by simp; omega
    have ht := rowC_take (f := mv11) l i hi
    have hm := moved164 (n := d + 4) (by omega) (hok i hi)
    generalize l[i] = x at *
    refine ⟨?_, ?h1, ?h2⟩
    case h1 =>
      simp -implicitDefEqProofs [inv, loopS_eq, c163L0, cP_len, cM_len, hx, hlt, hlt', hlim, hto, hm, wrap_succ (i := i) (by omega)]
      exact rfl
    case h2 => exact loopS_same rfl (by simp [inv, ht])
  · simp -implicitDefEqProofs [inv, loopS_eq, c163L0]
  · simp [loopFuel]; omega

abbrev mom4 (l : List PartI) (k : Nat) : List PVal := [.int .i64 (momF bfI l k).1, .int .i64 (momF bfI l k).2, .int .i64 (momF afI l k).1, .int .i64 (momF afI l k).2]

theorem momenta123 {n : Nat} (hn : 6 ≤ n) {l : List PartI} (hl : l.length ≤ 8) (hok : ∀ i, (hi : i < l.length) → PartOk l[i]) : RUN n 123 [ptl l] = .ret (.agg ((mom4 l l.length).map .p)) := by
  obtain ⟨d, rfl⟩ : ∃ d, n = d + 6 := ⟨n - 6, by omega⟩
  rw [RUN, call_eq fe123 _ rfl]
  have h0 := map163 (n := d + 5) (by omega) hl hok
  let S : AVal := .p (.sl (rowC mv11 l) l.length)
  let Z : Obj := .arr [.int .i64 0, .int .i64 0, .int .i64 0, .int .i64 0] 0 2
  let inv : Nat → St := fun i => ⟨[(2, .ptr 0 0 0), (3, .ptr 1 0 0), (8, S), (9, iv l.length), (10, iv i)], [(1, .arr (mom4 l i) 0 2), (0, Z)]⟩
  have key : loopN (loopS (evFn F C0 G0 (d + 5)) C0 G0 0 true [2, 3, 8, 9, 10] c123L1) loopFuel ⟨[(2, .ptr 0 0 0), (3, .ptr 1 0 0), (8, S), (9, iv l.length), (10, iv 0)], [(1, Z), (0, Z)]⟩ = .ret (.exit 0, ⟨(inv l.length).env ++ [(11, .p (.bool false))], (inv l.length).sto⟩) := by
    refine loop_run' inv l.length (by simp) ?_ ?_ ?_ (by simp [loopFuel]; omega)
    · exact loopS_same rfl (by simp [inv, Z, S, momF])
    · intro k hk
      have hx := rowC_drop mv11_len l k hk
      have hlt : k * 11 < l.length * 11 := by omega
      have hlt' : (k : Int) < l.length := by omega
      have hws := wrap_succ (i := k) (by omega)
      have hb := momF_in (f := bfI) (fun i hi => bfI_in (hok i hi)) k (by omega)
      have ha := momF_in (f := afI) (fun i hi => afI_in (hok i hi)) k (by omega)
      have sb : momF bfI l (k + 1) = ((momF bfI l k).1 + (bfI l[k]).1, (momF bfI l k).2 + (bfI l[k]).2) := by simp only [momF, getD_p hk]
      have sa : momF afI l (k + 1) = ((momF afI l k).1 + (afI l[k]).1, (momF afI l k).2 + (afI l[k]).2) := by simp only [momF, getD_p hk]
      have q1 := bfI_in (hok k hk)
      have q2 := afI_in (hok k hk)
      generalize l[k] = x at *
      have t1 := plus165 (n := d + 5) (by omega) (a := (momF bfI l k).1) (b := (momF bfI l k).2) (c := (bfI x).1) (e := (bfI x).2) (by omega) (by omega) (by omega) (by omega) (by omega) (by omega) (by omega) (by omega)
      have t2 := plus165 (n := d + 5) (by omega) (a := (momF afI l k).1) (b := (momF afI l k).2) (c := (afI x).1) (e := (afI x).2) (by omega) (by omega) (by omega) (by omega) (by omega) (by omega) (by omega) (by omega)
      have hw1 : IntKind.i64.wrap 1 = 1 := by decide
      have hw2 : IntKind.i64.wrap 2 = 2 := by decide
      have inner : loopN (loopS (evFn F C0 G0 (d + 5)) C0 G0 0 false [2, 3, 5, 8, 9, 10, 14] c123L0) loopFuel ⟨[(2, .ptr 0 0 0), (3, .ptr 1 0 0), (5, .ptr 2 0 0), (8, S), (9, iv l.length), (10, iv k), (14, iv 0)], [(2, .arr (mv11 x) 0 1), (1, .arr (mom4 l k) 0 2), (0, Z)]⟩ =
          .ret (.exit 2, ⟨[(2, .ptr 0 0 0), (3, .ptr 1 0 0), (5, .ptr 2 0 0), (8, S), (9, iv l.length), (10, iv k), (14, iv 2), (15, .p (.bool false))], [(2, .arr (mv11 x) 0 1), (1, .arr (mom4 l (k + 1)) 0 2), (0, Z)]⟩) := by
        rw [loopN_on (st1 := ⟨[(2, .ptr 0 0 0), (3, .ptr 1 0 0), (5, .ptr 2 0 0), (8, S), (9, iv l.length), (10, iv k), (14, iv 1)], [(2, .arr (mv11 x) 0 1), (1, .arr [.int .i64 (momF bfI l (k + 1)).1, .int .i64 (momF bfI l (k + 1)).2, .int .i64 (momF afI l k).1, .int .i64 (momF afI l k).2] 0 2), (0, Z)]⟩) (by simp -implicitDefEqProofs [S, Z, loopS_eq, c123L0, t1, sb, hw1]) (by simp [loopFuel])]
        rw [loopN_on (st1 := ⟨[(2, .ptr 0 0 0), (3, .ptr 1 0 0), (5, .ptr 2 0 0), (8, S), (9, iv l.length), (10, iv k), (14, iv 2)], [(2, .arr (mv11 x) 0 1), (1, .arr (mom4 l (k + 1)) 0 2), (0, Z)]⟩) (by simp -implicitDefEqProofs [S, Z, loopS_eq, c123L0, t2, sa, hw2]) (by simp [loopFuel])]
        exact loopN_end (by simp -implicitDefEqProofs [S, Z, loopS_eq, c123L0]) (by simp) (by simp [loopFuel])
      simp only [S, Z] at inner
      refine ⟨?_, ?h1, ?h2⟩
      case h1 =>
        simp -implicitDefEqProofs [inv, S, Z, loopS_eq, c123L1, cM_len, hx, hlt, hlt', hws, inner]
        exact rfl
      case h2 => exact loopS_same rfl (by simp [inv, S, Z])
    · simp -implicitDefEqProofs [inv, S, Z, loopS_eq, c123L1]
  simp only [S, Z] at key
  simp -implicitDefEqProofs [c123, h0, key, inv, S, Z]

/-- the change of momentum -/
def chgI (l : List PartI) : Int × Int := ((momF afI l l.length).1 - (momF bfI l l.length).2, (momF afI l l.length).2 - (momF bfI l l.length).1)
theorem momF_all {l : List PartI} (hl : l.length ≤ 8) (hok : ∀ i, (hi : i < l.length) → PartOk l[i]) :
    ((-8000000000000 ≤ (momF bfI l l.length).1 ∧ (momF bfI l l.length).1 ≤ 8000000000000) ∧ (-8000000000000 ≤ (momF bfI l l.length).2 ∧ (momF bfI l l.length).2 ≤ 8000000000000) ∧ (momF bfI l l.length).1 ≤ (momF bfI l l.length).2) ∧
    (-8000000000000 ≤ (momF afI l l.length).1 ∧ (momF afI l l.length).1 ≤ 8000000000000) ∧ (-8000000000000 ≤ (momF afI l l.length).2 ∧ (momF afI l l.length).2 ≤ 8000000000000) ∧ (momF afI l l.length).1 ≤ (momF afI l l.length).2 := by
  have hb := momF_in (f := bfI) (fun i hi => bfI_in (hok i hi)) l.length (by omega)
  have ha := momF_in (f := afI) (fun i hi => afI_in (hok i hi)) l.length (by omega)
  omega
theorem chgI_in {l : List PartI} (hl : l.length ≤ 8) (hok : ∀ i, (hi : i < l.length) → PartOk l[i]) : (-16000000000000 ≤ (chgI l).1 ∧ (chgI l).1 ≤ 16000000000000) ∧ (-16000000000000 ≤ (chgI l).2 ∧ (chgI l).2 ≤ 16000000000000) ∧ (chgI l).1 ≤ (chgI l).2 := by
  have h := momF_all hl hok
  simp only [chgI]
  omega

theorem change124 {n : Nat} (hn : 7 ≤ n) {l : List PartI} (hl : l.length ≤ 8) (hok : ∀ i, (hi : i < l.length) → PartOk l[i]) : RUN n 124 [ptl l] = .ret (.agg [iv (chgI l).1, iv (chgI l).2]) := by
  obtain ⟨d, rfl⟩ : ∃ d, n = d + 7 := ⟨n - 7, by omega⟩
  rw [RUN, call_eq fe124 _ rfl]
  have h0 := momenta123 (n := d + 6) (by omega) hl hok
  have hm := momF_all hl hok
  have h1 := minus166 (n := d + 6) (by omega) (a := (momF afI l l.length).1) (b := (momF afI l l.length).2) (c := (momF bfI l l.length).1) (e := (momF bfI l l.length).2) (by omega) (by omega) (by omega) (by omega) (by omega) (by omega) (by omega) (by omega)
  have hc : chgI l = ((momF afI l l.length).1 - (momF bfI l l.length).2, (momF afI l l.length).2 - (momF bfI l l.length).1) := rfl
  rw [hc]
  clear hc
  simp only [mom4, List.map_cons, List.map_nil] at h0
  generalize momF bfI l l.length = B at *
  generalize momF afI l l.length = A at *
  cases hz : (B.1 == 0 && (B.2 == 0 && (A.1 == 0 && A.2 == 0))) with
  | true =>
    simp only [Bool.and_eq_true, beq_iff_eq] at hz
    obtain ⟨z1, z2, z3, z4⟩ := hz
    simp -implicitDefEqProofs [c124, h0, z1, z2, z3, z4]
  | false => simp -implicitDefEqProofs [c124, h0, h1, hz]

theorem lost126 {n : Nat} (hn : 8 ≤ n) {l : List PartI} (hl : l.length ≤ 8) (hok : ∀ i, (hi : i < l.length) → PartOk l[i]) : RUN n 126 [ptl l] = .ret (.agg [iv (0 - (chgI l).2), iv (0 - (chgI l).1)]) := by
  obtain ⟨d, rfl⟩ : ∃ d, n = d + 8 := ⟨n - 8, by omega⟩
  rw [RUN, call_eq fe126 _ rfl]
  have h0 := change124 (n := d + 7) (by omega) hl hok
  have hm := chgI_in hl hok
  have h1 := minus166 (n := d + 7) (by omega) (a := 0) (b := 0) (c := (chgI l).1) (e := (chgI l).2) (by omega) (by omega) (by omega) (by omega) (by omega) (by omega) (by omega) (by omega)
  simp only [Int.zero_sub] at h1
  simp -implicitDefEqProofs [c126, h0, h1]

theorem change68 {n : Nat} (hn : 3 ≤ n) {l : List PartI} (hl : l.length ≤ 8) (hok : ∀ i, (hi : i < l.length) → PartOk l[i]) : RUN n 68 [ptl l] = .ret (.agg [iv (chgI l).1, iv (chgI l).2]) := by
  obtain ⟨d, rfl⟩ : ∃ d, n = d + 3 := ⟨n - 3, by omega⟩
  rw [RUN, call_eq fe68 _ rfl]
  have h0 := momentum67 (n := d + 2) (by omega) hl hok
  have hm := momF_all hl hok
  have hc : chgI l = ((momF afI l l.length).1 - (momF bfI l l.length).2, (momF afI l l.length).2 - (momF bfI l l.length).1) := rfl
  rw [hc]
  clear hc
  generalize momF bfI l l.length = B at *
  generalize momF afI l l.length = A at *
  have w1 : IntKind.i64.wrap (A.1 - B.2) = A.1 - B.2 := wrap64 (by omega) (by omega)
  have w2 : IntKind.i64.wrap (A.2 - B.1) = A.2 - B.1 := wrap64 (by omega) (by omega)
  simp -implicitDefEqProofs [c68, h0, w1, w2]

def mbA (l : List PartI) : Int × Int := if partsE l = 0 then momF bfI l l.length else (0, 0)
def maA (l : List PartI) : Int × Int := if partsE l = 0 then momF afI l l.length else (0, 0)
def chA (l : List PartI) : Int × Int := if partsE l = 0 then chgI l else (0, 0)

theorem momentum59 {n : Nat} (hn : 8 ≤ n) (l : List PartI) (hl : l.length < 1000000) (h40 : ∀ i, (hi : i < l.length) → l[i].name.length ≤ 40) : RUN n 59 [ptl l] = .ret (.tup [.agg [iv (mbA l).1, iv (mbA l).2], .agg [iv (maA l).1, iv (maA l).2], iv (partsE l)]) := by
  obtain ⟨d, rfl⟩ : ∃ d, n = d + 8 := ⟨n - 8, by omega⟩
  rw [RUN, call_eq fe59 _ rfl]
  have h0 := check71 (n := d + 7) (by omega) l hl h40
  by_cases z0 : partsE l = 0
  · obtain ⟨hl8, hok⟩ := parts_of z0
    have h1 := momenta123 (n := d + 7) (by omega) hl8.2 hok
    simp only [mom4, List.map_cons, List.map_nil] at h1
    have e1 : mbA l = momF bfI l l.length := by simp [mbA, z0]
    have e2 : maA l = momF afI l l.length := by simp [maA, z0]
    rw [e1, e2]
    simp -implicitDefEqProofs [c59, h0, z0, h1, hidI, hide, hid4, stOp, plain]
  · have e1 : mbA l = (0, 0) := by simp [mbA, z0]
    have e2 : maA l = (0, 0) := by simp [maA, z0]
    have hb : (partsE l != 0) = true := by simpa using z0
    rw [e1, e2]
    simp -implicitDefEqProofs [c59, h0, hb]

theorem change61 {n : Nat} (hn : 8 ≤ n) (l : List PartI) (hl : l.length < 1000000) (h40 : ∀ i, (hi : i < l.length) → l[i].name.length ≤ 40) : RUN n 61 [ptl l] = .ret (.tup [.agg [iv (chA l).1, iv (chA l).2], iv (partsE l)]) := by
  obtain ⟨d, rfl⟩ : ∃ d, n = d + 8 := ⟨n - 8, by omega⟩
  rw [RUN, call_eq fe61 _ rfl]
  have h0 := check71 (n := d + 7) (by omega) l hl h40
  by_cases z0 : partsE l = 0
  · obtain ⟨hl8, hok⟩ := parts_of z0
    have h1 := change124 (n := d + 7) (by omega) hl8.2 hok
    have e1 : chA l = chgI l := by simp [chA, z0]
    rw [e1]
    simp -implicitDefEqProofs [c61, h0, z0, h1]
  · have e1 : chA l = (0, 0) := by simp [chA, z0]
    have hb : (partsE l != 0) = true := by simpa using z0
    rw [e1]
    simp -implicitDefEqProofs [c61, h0, hb]
end Fw
