/- Parts, checked: the chapter's and the reference's. -/
import Derived.Test.YtfkacogfieiccaaGreatDoorBaN2
set_option maxHeartbeats 8000000
namespace Fw
open Go
attribute [local irreducible] evCode evOps evOpsD evOper evOperD evOp evFn loopN T.All T.bind callPure callOp opsK opsDK restK seqK blockK loopS setK setQ giveK scalK gcK finish finS rfunK yldK yldB loopK

structure PartI where
  name : List UInt8
  ml : Int
  mh : Int
  bl : Int
  bh : Int
  al : Int
  ah : Int
  deriving Inhabited
abbrev pc7 (x : PartI) : List PVal := [.str x.name, .int .i64 x.ml, .int .i64 x.mh, .int .i64 x.bl, .int .i64 x.bh, .int .i64 x.al, .int .i64 x.ah]
theorem pc7_len (x : PartI) : (pc7 x).length = 7 := rfl
theorem cP_len (l : List PartI) : (rowC pc7 l).length = l.length * 7 := rowC_len pc7_len l
abbrev ptl (l : List PartI) : AVal := .p (.sl (rowC pc7 l) l.length)
def par0 : PartI := ⟨[], 0, 0, 0, 0, 0, 0⟩
theorem getD_p {l : List PartI} {i : Nat} (h : i < l.length) : l.getD i par0 = l[i] := by simp [List.getD_eq_getElem?_getD, List.getElem?_eq_getElem h]
abbrev namesP (l : List PartI) : List (List UInt8) := l.map (·.name)
theorem namesP_take {l : List PartI} {i : Nat} (h : i < l.length) : namesP (l.take (i + 1)) = namesP (l.take i) ++ [l[i].name] := by
  rw [← List.take_append_getElem h, namesP, List.map_append]; rfl

theorem parts60 {n : Nat} (hn : 1 ≤ n) (l : List PartI) (hl : l.length < 1000000) : RUN n 60 [ptl l] = .ret (.own (rowC pc7 l) l.length 7) := by
  obtain ⟨d, rfl⟩ : ∃ d, n = d + 1 := ⟨n - 1, by omega⟩
  rw [RUN, call_eq fe60 _ rfl]
  let inv : Nat → St := fun i => ⟨[(3, .sl 0 i 0 i), (6, ptl l), (7, iv l.length), (8, iv i)], [(0, .arr (rowC pc7 (l.take i)) i 7)]⟩
  have htl : l.take l.length = l := List.take_of_length_le (by omega)
  simp -implicitDefEqProofs [c60]
  rw [loop_run' inv l.length (e := .exit 0) (st' := ⟨(inv l.length).env ++ [(9, .p (.bool false))], (inv l.length).sto⟩) (by simp)]
  · simp -implicitDefEqProofs [inv, htl, cP_len]
  · exact loopS_same rfl (by simp [inv])
  · intro i hi
    have hx := rowC_drop pc7_len l i hi
    have hlt : i * 7 < l.length * 7 := by omega
    have hlt' : (i : Int) < l.length := by omega
    have hlim : i + 1 ≤ lim := by simp only [lim]; omega
    have hto : (l.take i).length = i := by simp; omega
    have ht := rowC_take (f := pc7) l i hi
    refine ⟨?_, ?h1, ?h2⟩
    case h1 =>
      simp -implicitDefEqProofs [inv, loopS_eq, c60L0, cP_len, hx, hlt, hlt', hlim, hto, wrap_succ (i := i) (by omega)]
      exact rfl
    case h2 => exact loopS_same rfl (by simp [inv, ht])
  · simp -implicitDefEqProofs [inv, loopS_eq, c60L0]
  · simp [loopFuel]; omega

def longP (l : List PartI) (i : Nat) : Int := if 40 < (l.getD i par0).name.length then 1 else 0
def shortP (l : List PartI) : Bool := decide (firstE ((List.range l.length).map (longP l)) = 0) && decide (l.length ≤ 9)
theorem short57 {n : Nat} (hn : 1 ≤ n) (l : List PartI) (hl : l.length ≤ 9223372036854775807) : RUN n 57 [ptl l] = .ret (.p (.bool (shortP l))) := by
  obtain ⟨d, rfl⟩ : ∃ d, n = d + 1 := ⟨n - 1, by omega⟩
  rw [RUN, call_eq fe57 _ rfl]
  let inv : Nat → St := fun i => ⟨[(0, ptl l), (3, iv i)], []⟩
  have key := loop_firstR (step := loopS (evFn F C0 G0 d) C0 G0 0 false [0, 3] c57L0) inv (longP l) l.length (.exit 0, ⟨(inv l.length).env ++ [(7, .p (.bool false))], []⟩) (fun _ st => st.env = [(2, .p (.bool false))])
    (st0 := ⟨[(0, ptl l), (3, iv 0)], []⟩) rfl (fun i hi => by
      have hx := rowC_drop pc7_len l i hi
      have hlt : i * 7 < l.length * 7 := by omega
      have hlt' : (i : Int) < l.length := by omega
      have hws := wrap_succ (i := i) (by omega)
      have he : longP l i = if 40 < l[i].name.length then 1 else 0 := by simp only [longP, getD_p hi]
      rw [he]
      generalize l[i] = x at *
      by_cases c1 : 40 < x.name.length
      · have c1' : (40 : Int) < x.name.length := by omega
        refine ⟨fun h => absurd h (by simp [c1]), fun _ => ⟨?_, ?h1, ?h2⟩⟩
        case h1 =>
          simp -implicitDefEqProofs [inv, loopS_eq, c57L0, cP_len, hx, hlt, hlt', c1']
          exact rfl
        case h2 => rfl
      · have c1' : ¬ (40 : Int) < x.name.length := by omega
        refine ⟨fun _ => ⟨?_, ?h3, ?h4⟩, fun h => absurd (by simp [c1]) h⟩
        case h3 =>
          simp -implicitDefEqProofs [inv, loopS_eq, c57L0, cP_len, hx, hlt, hlt', c1', hws]
          exact rfl
        case h4 => rfl) (by simp -implicitDefEqProofs [inv, loopS_eq, c57L0]) (by simp) (fuel := loopFuel) (by simp [loopFuel]; omega)
  simp -implicitDefEqProofs [c57]
  rcases key with ⟨k1, k2⟩ | ⟨j, st, hj, k1, kr, k2, k3, _⟩
  · rw [k1]
    have hb : decide ((l.length : Int) ≤ 9) = decide (l.length ≤ 9) := by rw [Bool.eq_iff_iff]; simp; omega
    simp -implicitDefEqProofs [inv, shortP, k2, hb]
  · obtain ⟨env, sto⟩ := st
    simp only at kr
    subst kr
    have hs : shortP l = false := by simp [shortP, k2, k3]
    rw [k1, hs]
    simp -implicitDefEqProofs
theorem shortP_of {l : List PartI} (h : shortP l = true) : (∀ i, (hi : i < l.length) → l[i].name.length ≤ 40) ∧ l.length ≤ 9 := by
  simp only [shortP, Bool.and_eq_true, decide_eq_true_eq] at h
  refine ⟨fun i hi => ?_, by omega⟩
  have := all_zero h.1 i hi
  simp only [longP, getD_p hi] at this
  split at this
  · exact absurd this (by decide)
  · omega

def partE (l : List PartI) (i : Nat) : Int := firstE [namE (namesP (l.take i)) (l.getD i par0).name, ivE 1 10000000 ((l.getD i par0).ml, (l.getD i par0).mh), ivE (-100000) 100000 ((l.getD i par0).bl, (l.getD i par0).bh), ivE (-100000) 100000 ((l.getD i par0).al, (l.getD i par0).ah)]
theorem partE_lt {l : List PartI} {i : Nat} (hi : i < l.length) : partE l i = firstE [namE (namesP (l.take i)) l[i].name, ivE 1 10000000 (l[i].ml, l[i].mh), ivE (-100000) 100000 (l[i].bl, l[i].bh), ivE (-100000) 100000 (l[i].al, l[i].ah)] := by
  unfold partE; rw [getD_p hi]
theorem partE_lt5 {l : List PartI} {i : Nat} (hi : i < l.length) : partE l i = firstE [whenE (!nameB l[i].name) 8, whenE (decide (l[i].name ∈ namesP (l.take i))) 9, ivE 1 10000000 (l[i].ml, l[i].mh), ivE (-100000) 100000 (l[i].bl, l[i].bh), ivE (-100000) 100000 (l[i].al, l[i].ah)] := by
  rw [partE_lt hi, namE, firstE_two]
/-- too few, or too many -/
def manyE (n : Nat) (m : Int) : Int := firstE [whenE ((n : Int) == 0) 12, whenE (decide (m < n)) 5]
theorem manyE_zero {n : Nat} {m : Int} : manyE n m = 0 ↔ 0 < n ∧ (n : Int) ≤ m := by
  unfold manyE
  rw [firstE_zero]
  simp only [List.mem_cons, List.not_mem_nil, or_false, forall_eq_or_imp, forall_eq, whenE_zero (show (12 : Int) ≠ 0 by decide), whenE_zero (show (5 : Int) ≠ 0 by decide), decide_eq_false_iff_not, beq_eq_false_iff_ne]
  omega
def partsE (l : List PartI) : Int := if manyE l.length 8 = 0 then firstE ((List.range l.length).map (partE l)) else manyE l.length 8

theorem check65 {n : Nat} (hn : 5 ≤ n) (l : List PartI) (hl : l.length < 1000000) : RUN n 65 [ptl l] = .ret (iv (partsE l)) := by
  obtain ⟨d, rfl⟩ : ∃ d, n = d + 5 := ⟨n - 5, by omega⟩
  rw [RUN, call_eq fe65 _ rfl]
  have h1 := fun b e => when55 (n := d + 4) (by omega) b e
  have h2 := first101_2 (n := d + 4) (by omega) (whenE ((l.length : Int) == 0) 12) (whenE (decide ((8 : Int) < l.length)) 5)
  rw [show firstE [whenE ((l.length : Int) == 0) 12, whenE (decide ((8 : Int) < l.length)) 5] = manyE l.length 8 from rfl] at h2
  have h4 := fun w => cname113 (n := d + 4) (by omega) w
  have h5 := fun a b lo hi => ends103' (n := d + 4) (by omega) a b lo hi
  unfold partsE
  by_cases z0 : manyE l.length 8 = 0
  · rw [if_pos z0]
    have htl : l.take l.length = l := List.take_of_length_le (by omega)
    let inv : Nat → St := fun i => ⟨[(0, ptl l), (4, .sl 0 i 0 i), (5, iv i)], [(0, .arr (pStr (namesP (l.take i))) i 1)]⟩
    have key := loop_firstR (step := loopS (evFn F C0 G0 (d + 4)) C0 G0 0 true [0, 4, 5] c65L0) inv (partE l) l.length (.exit 0, ⟨(inv l.length).env ++ [(24, .p (.bool false))], (inv l.length).sto⟩) (fun i st => st.env = [(2, iv (partE l i))])
      (st0 := ⟨[(0, ptl l), (4, .sl 0 0 0 0), (5, iv 0)], [(0, .arr [] 0 1)]⟩) rfl (fun i hi => by
        have hx := rowC_drop pc7_len l i hi
        have hlt : i * 7 < l.length * 7 := by omega
        have hlt' : (i : Int) < l.length := by omega
        have hlim : i + 1 ≤ lim := by simp only [lim]; omega
        have hws := wrap_succ (i := i) (by omega)
        have hE := partE_lt5 hi
        have hto : (namesP (l.take i)).length = i := by simp; omega
        have ht := namesP_take hi
        have h7 := word93 (n := d + 4) (by omega) (namesP (l.take i)) l[i].name (by rw [hto]; omega)
        rw [hto] at h7
        have h3 := first101_5 (n := d + 4) (by omega) (whenE (!nameB l[i].name) 8) (whenE (decide (l[i].name ∈ namesP (l.take i))) 9) (ivE 1 10000000 (l[i].ml, l[i].mh)) (ivE (-100000) 100000 (l[i].bl, l[i].bh)) (ivE (-100000) 100000 (l[i].al, l[i].ah))
        rw [← hE] at h3
        generalize partE l i = e at *
        generalize decide (l[i].name ∈ namesP (l.take i)) = q at *
        have hps := pStr_snoc (namesP (l.take i)) l[i].name
        rw [← ht] at hps
        have hlen : (pStr (namesP (l.take i))).length = i := by rw [pStr_length, hto]
        have hi0 : inv i = ⟨[(0, ptl l), (4, .sl 0 i 0 i), (5, iv i)], [(0, .arr (pStr (namesP (l.take i))) i 1)]⟩ := rfl
        have hi1 : inv (i + 1) = ⟨[(0, ptl l), (4, .sl 0 (i + 1) 0 (i + 1)), (5, iv ((i + 1 : Nat) : Int))], [(0, .arr (pStr (namesP (l.take (i + 1)))) (i + 1) 1)]⟩ := rfl
        rw [hi0, hi1, ← hps]
        generalize pStr (namesP (l.take i)) = P at *
        generalize l[i] = x at *
        refine ⟨fun hz => ⟨?_, ?h1, ?h2⟩, fun hz => ⟨?_, ?h3, ?h4⟩⟩
        case h1 =>
          simp -implicitDefEqProofs [loopS_eq, c65L0, cP_len, hx, hlt, hlt', hlen, hlim, h1, h3, h4, h5, h7, hz, hws]
          exact rfl
        case h2 => exact loopS_same rfl (by simp)
        case h3 =>
          simp -implicitDefEqProofs [loopS_eq, c65L0, cP_len, hx, hlt, hlt', hlen, h1, h3, h4, h5, h7, hz]
          exact rfl
        case h4 => rfl) (by simp -implicitDefEqProofs [inv, loopS_eq, c65L0, htl, -List.map_take]) (by simp) (fuel := loopFuel) (by simp [loopFuel]; omega)
    simp -implicitDefEqProofs [c65, h1, h2, z0]
    rcases key with ⟨k1, k2⟩ | ⟨j, st, hj, k1, kr, k2, k3, _⟩
    · rw [k1, k2]
      simp -implicitDefEqProofs [inv]
    · obtain ⟨env, sto⟩ := st
      simp only at kr
      subst kr
      rw [k1, k2]
      simp -implicitDefEqProofs
  · rw [if_neg z0]
    have hb : (manyE l.length 8 != 0) = true := by simpa using z0
    simp -implicitDefEqProofs [c65, h1, h2, hb]

def parSto (l : List PartI) : Nat → Sto
  | 0 => [(0, .box [.p .nilm])]
  | i + 1 => [(2, mapW (namesP (l.take (i + 1)))), (0, .box [.mp 2])]

theorem check71 {n : Nat} (hn : 7 ≤ n) (l : List PartI) (hl : l.length < 1000000) (h40 : ∀ i, (hi : i < l.length) → l[i].name.length ≤ 40) : RUN n 71 [ptl l] = .ret (iv (partsE l)) := by
  obtain ⟨d, rfl⟩ : ∃ d, n = d + 7 := ⟨n - 7, by omega⟩
  rw [RUN, call_eq fe71 _ rfl]
  have h1 := fun b e => when107 (n := d + 6) (by omega) b e
  have h2 := first98_2 (n := d + 6) (by omega) (whenE ((l.length : Int) == 0) 12) (whenE (decide ((8 : Int) < l.length)) 5)
  rw [show firstE [whenE ((l.length : Int) == 0) 12, whenE (decide ((8 : Int) < l.length)) 5] = manyE l.length 8 from rfl] at h2
  have h5 := fun a b lo hi => interval109' (n := d + 6) (by omega) a b lo hi
  unfold partsE
  by_cases z0 : manyE l.length 8 = 0
  · rw [if_pos z0]
    let inv : Nat → St := fun i => ⟨[(5, .clo 110 [.ptr 0 0 0] []), (23, ptl l), (24, iv l.length), (25, iv i)], parSto l i⟩
    have key := loop_firstR (step := loopS (evFn F C0 G0 (d + 6)) C0 G0 0 true [5, 23, 24, 25] c71L0) inv (partE l) l.length (.exit 0, ⟨(inv l.length).env ++ [(26, .p (.bool false))], (inv l.length).sto⟩) (fun i st => st.env = [(2, iv (partE l i))])
      (st0 := ⟨[(5, .clo 110 [.ptr 0 0 0] []), (23, ptl l), (24, iv l.length), (25, iv 0)], [(0, .box [.p .nilm])]⟩) rfl (fun i hi => by
        have hx := rowC_drop pc7_len l i hi
        have hlt : i * 7 < l.length * 7 := by omega
        have hlt' : (i : Int) < l.length := by omega
        have hws := wrap_succ (i := i) (by omega)
        have hE := partE_lt hi
        have ht := namesP_take hi
        have hw := h40 i hi
        have h3 := first98_4 (n := d + 6) (by omega) (namE (namesP (l.take i)) l[i].name) (ivE 1 10000000 (l[i].ml, l[i].mh)) (ivE (-100000) 100000 (l[i].bl, l[i].bh)) (ivE (-100000) 100000 (l[i].al, l[i].ah))
        rw [← hE] at h3
        have hadd : partE l i = 0 → addW (namesP (l.take i)) l[i].name = namesP (l.take (i + 1)) := fun hz => by
          rw [hE] at hz
          have := (namE_zero (firstE_zero.1 hz _ (List.mem_cons_self ..))).2
          rw [addW, if_neg this, ht]
        generalize partE l i = e at *
        generalize l[i] = x at *
        cases i with
        | zero =>
          have hcn := check_new (d := d + 3) (k := 0) (X := .arr (pc7 x) 0 1) (T0 := []) (w := x.name) (by omega)
          simp only [Nat.reduceAdd] at hcn
          simp only [Nat.zero_mul, List.drop_zero, List.take_zero, namesP, List.map_nil] at hx h3 hlt
          have hlp : 0 < l.length := hi
          have hw1 : IntKind.i64.wrap 1 = 1 := by decide
          have ha := fun hz => hadd hz
          simp only [List.take_zero, namesP, List.map_nil] at ha
          refine ⟨fun hz => ⟨?_, ?h1, ?h2⟩, fun hz => ⟨?_, ?h3, ?h4⟩⟩
          case h1 =>
            simp -implicitDefEqProofs [inv, parSto, loopS_eq, c71L0, cP_len, hx, hlp, hidI, hid7, hcn, h5, h3, hz, mapW, hw1]
            exact rfl
          case h2 =>
            have hq : [x.name] = namesP (l.take 1) := ha hz
            exact loopS_same rfl (by simp [inv, parSto, mapW, ← hq])
          case h3 =>
            simp -implicitDefEqProofs [inv, parSto, loopS_eq, c71L0, cP_len, hx, hlp, hidI, hid7, hcn, h5, h3, hz, mapW]
            exact rfl
          case h4 => rfl
        | succ k =>
          have hco := check_old (d := d + 3) (k := 0) (X := .arr (pc7 x) 0 1) (T0 := []) (w := x.name) (ws := namesP (l.take (k + 1))) (by omega)
          simp only [Nat.reduceAdd, mapW] at hco
          have hi0 : inv (k + 1) = ⟨[(5, .clo 110 [.ptr 0 0 0] []), (23, ptl l), (24, iv l.length), (25, iv ((k + 1 : Nat) : Int))], [(2, mapW (namesP (l.take (k + 1)))), (0, .box [.mp 2])]⟩ := rfl
          rw [hi0]
          have hnn : (0 : Int) ≤ (k : Int) + 1 := by omega
          have htn : ((k : Int) + 1).toNat = k + 1 := by omega
          have hlt2 : (k : Int) + 1 < l.length := by omega
          have hwk2 : IntKind.i64.wrap ((k : Int) + 1 + 1) = (k : Int) + 1 + 1 := wrap64 (by omega) (by omega)
          generalize namesP (l.take (k + 1)) = ws at *
          refine ⟨fun hz => ⟨?_, ?h5, ?h6⟩, fun hz => ⟨?_, ?h7, ?h8⟩⟩
          case h5 =>
            simp -implicitDefEqProofs [loopS_eq, c71L0, cP_len, hx, hlt, hnn, htn, hlt2, hidI, hid7, hco, h5, h3, hz, mapW, hwk2]
            exact rfl
          case h6 =>
            have hq := hadd hz
            exact loopS_same rfl (by simp [inv, parSto, mapW, hq])
          case h7 =>
            simp -implicitDefEqProofs [loopS_eq, c71L0, cP_len, hx, hlt, hnn, htn, hlt2, hidI, hid7, hco, h5, h3, hz, mapW]
            exact rfl
          case h8 => rfl) (by
        simp only [inv]
        cases hn : l.length with
        | zero => simp -implicitDefEqProofs [loopS_eq, c71L0, parSto]
        | succ m => simp -implicitDefEqProofs [loopS_eq, c71L0, parSto, mapW]) (by simp) (fuel := loopFuel) (by simp [loopFuel]; omega)
    simp -implicitDefEqProofs [c71, h1, h2, z0]
    rcases key with ⟨k1, k2⟩ | ⟨j, st, hj, k1, kr, k2, k3, _⟩
    · rw [k1, k2]
      simp -implicitDefEqProofs [inv]
    · obtain ⟨env, sto⟩ := st
      simp only at kr
      subst kr
      rw [k1, k2]
      simp -implicitDefEqProofs
  · rw [if_neg z0]
    have hb : (manyE l.length 8 != 0) = true := by simpa using z0
    simp -implicitDefEqProofs [c71, h1, h2, hb]
end Fw
