/- Classes of tests, checked: the chapter's and the reference's. -/
import Derived.Test.YtfkacogfieiccaaGreatDoorBaN1
set_option maxHeartbeats 8000000
namespace Fw
open Go
attribute [local irreducible] evCode evOps evOpsD evOper evOperD evOp evFn loopN T.All T.bind callPure callOp opsK opsDK restK seqK blockK loopS setK setQ giveK scalK gcK finish finS rfunK yldK yldB loopK

structure ClsI where
  name : List UInt8
  sl : Int
  sh : Int
  ol : Int
  oh : Int
  deriving Inhabited
abbrev kc5 (x : ClsI) : List PVal := [.str x.name, .int .i64 x.sl, .int .i64 x.sh, .int .i64 x.ol, .int .i64 x.oh]
theorem kc5_len (x : ClsI) : (kc5 x).length = 5 := rfl
theorem cK_len (l : List ClsI) : (rowC kc5 l).length = l.length * 5 := rowC_len kc5_len l
abbrev ksl (l : List ClsI) : AVal := .p (.sl (rowC kc5 l) l.length)
def cls0 : ClsI := ⟨[], 0, 0, 0, 0⟩
theorem getD_k {l : List ClsI} {i : Nat} (h : i < l.length) : l.getD i cls0 = l[i] := by simp [List.getD_eq_getElem?_getD, List.getElem?_eq_getElem h]
abbrev namesC (l : List ClsI) : List (List UInt8) := l.map (·.name)
theorem namesC_take {l : List ClsI} {i : Nat} (h : i < l.length) : namesC (l.take (i + 1)) = namesC (l.take i) ++ [l[i].name] := by
  rw [← List.take_append_getElem h, namesC, List.map_append]; rfl

theorem classes28 {n : Nat} (hn : 1 ≤ n) (l : List ClsI) (hl : l.length < 1000000) : RUN n 28 [ksl l] = .ret (.own (rowC kc5 l) l.length 5) := by
  obtain ⟨d, rfl⟩ : ∃ d, n = d + 1 := ⟨n - 1, by omega⟩
  rw [RUN, call_eq fe28 _ rfl]
  let inv : Nat → St := fun i => ⟨[(3, .sl 0 i 0 i), (6, ksl l), (7, iv l.length), (8, iv i)], [(0, .arr (rowC kc5 (l.take i)) i 5)]⟩
  have htl : l.take l.length = l := List.take_of_length_le (by omega)
  simp -implicitDefEqProofs [c28]
  rw [loop_run' inv l.length (e := .exit 0) (st' := ⟨(inv l.length).env ++ [(9, .p (.bool false))], (inv l.length).sto⟩) (by simp)]
  · simp -implicitDefEqProofs [inv, htl, cK_len]
  · exact loopS_same rfl (by simp [inv])
  · intro i hi
    have hx := rowC_drop kc5_len l i hi
    have hlt : i * 5 < l.length * 5 := by omega
    have hlt' : (i : Int) < l.length := by omega
    have hlim : i + 1 ≤ lim := by simp only [lim]; omega
    have hto : (l.take i).length = i := by simp; omega
    have ht := rowC_take (f := kc5) l i hi
    refine ⟨?_, ?h1, ?h2⟩
    case h1 =>
      simp -implicitDefEqProofs [inv, loopS_eq, c28L0, cK_len, hx, hlt, hlt', hlim, hto, wrap_succ (i := i) (by omega)]
      exact rfl
    case h2 => exact loopS_same rfl (by simp [inv, ht])
  · simp -implicitDefEqProofs [inv, loopS_eq, c28L0]
  · simp [loopFuel]; omega

theorem firstE_two (a b : Int) (r : List Int) : firstE (firstE [a, b] :: r) = firstE (a :: b :: r) := by
  simp only [firstE]
  by_cases ha : a = 0 <;> by_cases hb : b = 0 <;> simp [ha, hb]

def longE (l : List ClsI) (i : Nat) : Int := if 40 < (l.getD i cls0).name.length then 1 else 0
def shortB (l : List ClsI) : Bool := decide (firstE ((List.range l.length).map (longE l)) = 0) && (decide (l.length ≤ 6) || decide (l.length = 17))
theorem short26 {n : Nat} (hn : 1 ≤ n) (l : List ClsI) (hl : l.length ≤ 9223372036854775807) : RUN n 26 [ksl l] = .ret (.p (.bool (shortB l))) := by
  obtain ⟨d, rfl⟩ : ∃ d, n = d + 1 := ⟨n - 1, by omega⟩
  rw [RUN, call_eq fe26 _ rfl]
  let inv : Nat → St := fun i => ⟨[(0, ksl l), (3, iv i)], []⟩
  have key := loop_firstR (step := loopS (evFn F C0 G0 d) C0 G0 0 false [0, 3] c26L0) inv (longE l) l.length (.exit 0, ⟨(inv l.length).env ++ [(7, .p (.bool false))], []⟩) (fun _ st => st.env = [(2, .p (.bool false))])
    (st0 := ⟨[(0, ksl l), (3, iv 0)], []⟩) rfl (fun i hi => by
      have hx := rowC_drop kc5_len l i hi
      have hlt : i * 5 < l.length * 5 := by omega
      have hlt' : (i : Int) < l.length := by omega
      have hws := wrap_succ (i := i) (by omega)
      have he : longE l i = if 40 < l[i].name.length then 1 else 0 := by simp only [longE, getD_k hi]
      rw [he]
      generalize l[i] = x at *
      by_cases c1 : 40 < x.name.length
      · have c1' : (40 : Int) < x.name.length := by omega
        refine ⟨fun h => absurd h (by simp [c1]), fun _ => ⟨?_, ?h1, ?h2⟩⟩
        case h1 =>
          simp -implicitDefEqProofs [inv, loopS_eq, c26L0, cK_len, hx, hlt, hlt', c1']
          exact rfl
        case h2 => rfl
      · have c1' : ¬ (40 : Int) < x.name.length := by omega
        refine ⟨fun _ => ⟨?_, ?h3, ?h4⟩, fun h => absurd (by simp [c1]) h⟩
        case h3 =>
          simp -implicitDefEqProofs [inv, loopS_eq, c26L0, cK_len, hx, hlt, hlt', c1', hws]
          exact rfl
        case h4 => rfl) (by simp -implicitDefEqProofs [inv, loopS_eq, c26L0]) (by simp) (fuel := loopFuel) (by simp [loopFuel]; omega)
  simp -implicitDefEqProofs [c26]
  rcases key with ⟨k1, k2⟩ | ⟨j, st, hj, k1, kr, k2, k3, _⟩
  · rw [k1]
    by_cases c1 : l.length ≤ 6
    · have c1' : (l.length : Int) ≤ 6 := by omega
      simp -implicitDefEqProofs [inv, shortB, k2, c1, c1']
    · have c1' : ¬ (l.length : Int) ≤ 6 := by omega
      have hb : ((l.length : Int) == 17) = decide (l.length = 17) := by rw [Bool.eq_iff_iff]; simp; omega
      simp -implicitDefEqProofs [inv, shortB, k2, c1, c1', hb]
  · obtain ⟨env, sto⟩ := st
    simp only at kr
    subst kr
    have hs : shortB l = false := by simp [shortB, k2, k3]
    rw [k1, hs]
    simp -implicitDefEqProofs
theorem short_of {l : List ClsI} (h : shortB l = true) : (∀ i, (hi : i < l.length) → l[i].name.length ≤ 40) ∧ l.length ≤ 17 := by
  simp only [shortB, Bool.and_eq_true, Bool.or_eq_true, decide_eq_true_eq] at h
  refine ⟨fun i hi => ?_, by omega⟩
  have := all_zero h.1 i hi
  simp only [longE, getD_k hi] at this
  split at this
  · exact absurd this (by decide)
  · omega

def clsE (l : List ClsI) (i : Nat) : Int := firstE [namE (namesC (l.take i)) (l.getD i cls0).name, ivE 0 100000 ((l.getD i cls0).sl, (l.getD i cls0).sh), ivE 0 1000 ((l.getD i cls0).ol, (l.getD i cls0).oh)]
theorem clsE_lt {l : List ClsI} {i : Nat} (hi : i < l.length) : clsE l i = firstE [namE (namesC (l.take i)) l[i].name, ivE 0 100000 (l[i].sl, l[i].sh), ivE 0 1000 (l[i].ol, l[i].oh)] := by
  unfold clsE; rw [getD_k hi]
theorem clsE_lt4 {l : List ClsI} {i : Nat} (hi : i < l.length) : clsE l i = firstE [whenE (!nameB l[i].name) 8, whenE (decide (l[i].name ∈ namesC (l.take i))) 9, ivE 0 100000 (l[i].sl, l[i].sh), ivE 0 1000 (l[i].ol, l[i].oh)] := by
  rw [clsE_lt hi, namE, firstE_two]
def classE (l : List ClsI) : Int := if 16 < l.length then 5 else firstE ((List.range l.length).map (clsE l))

theorem namE_zero {ws : List (List UInt8)} {w : List UInt8} (h : namE ws w = 0) : nameB w = true ∧ w ∉ ws := by
  have h := firstE_zero.1 h
  have h1 := (whenE_zero (by decide)).1 (h (whenE (!nameB w) 8) (by simp))
  have h2 := (whenE_zero (by decide)).1 (h (whenE (decide (w ∈ ws)) 9) (by simp))
  simp at h1 h2
  exact ⟨h1, h2⟩

theorem speed30 {n : Nat} (hn : 4 ≤ n) (a b : Int) : RUN n 30 [.agg [iv a, iv b]] = .ret (iv (ivE 0 100000 (a, b))) := by
  obtain ⟨d, rfl⟩ : ∃ d, n = d + 4 := ⟨n - 4, by omega⟩
  rw [RUN, call_eq fe30 _ rfl]
  have h := ends103' (n := d + 3) (by omega) a b 0 100000
  simp -implicitDefEqProofs [c30, h]

theorem check29 {n : Nat} (hn : 5 ≤ n) (l : List ClsI) (hl : l.length < 1000000) : RUN n 29 [ksl l] = .ret (iv (classE l)) := by
  obtain ⟨d, rfl⟩ : ∃ d, n = d + 5 := ⟨n - 5, by omega⟩
  rw [RUN, call_eq fe29 _ rfl]
  have h1 := fun b e => when55 (n := d + 4) (by omega) b e
  have h4 := fun w => cname113 (n := d + 4) (by omega) w
  have h5 := fun a b lo hi => ends103' (n := d + 4) (by omega) a b lo hi
  have h6 := fun a b => speed30 (n := d + 4) (by omega) a b
  unfold classE
  by_cases c0 : 16 < l.length
  · have c0' : (16 : Int) < l.length := by omega
    rw [if_pos c0]
    simp -implicitDefEqProofs [c29, c0']
  · have c0' : ¬ (16 : Int) < l.length := by omega
    rw [if_neg c0]
    have htl : l.take l.length = l := List.take_of_length_le (by omega)
    let inv : Nat → St := fun i => ⟨[(0, ksl l), (3, .sl 0 i 0 i), (4, iv i)], [(0, .arr (pStr (namesC (l.take i))) i 1)]⟩
    have key := loop_firstR (step := loopS (evFn F C0 G0 (d + 4)) C0 G0 0 false [0, 3, 4] c29L0) inv (clsE l) l.length (.exit 0, ⟨(inv l.length).env ++ [(12, .p (.bool false))], (inv l.length).sto⟩) (fun i st => st.env = [(2, iv (clsE l i))])
      (st0 := ⟨[(0, ksl l), (3, .sl 0 0 0 0), (4, iv 0)], [(0, .arr [] 0 1)]⟩) rfl (fun i hi => by
        have hx := rowC_drop kc5_len l i hi
        have hlt : i * 5 < l.length * 5 := by omega
        have hlt' : (i : Int) < l.length := by omega
        have hlim : i + 1 ≤ lim := by simp only [lim]; omega
        have hws := wrap_succ (i := i) (by omega)
        have hE := clsE_lt4 hi
        have hto : (namesC (l.take i)).length = i := by simp; omega
        have ht := namesC_take hi
        have h7 := word93 (n := d + 4) (by omega) (namesC (l.take i)) l[i].name (by rw [hto]; omega)
        rw [hto] at h7
        have h3 := first101_4 (n := d + 4) (by omega) (whenE (!nameB l[i].name) 8) (whenE (decide (l[i].name ∈ namesC (l.take i))) 9) (ivE 0 100000 (l[i].sl, l[i].sh)) (ivE 0 1000 (l[i].ol, l[i].oh))
        rw [← hE] at h3
        generalize clsE l i = e at *
        generalize decide (l[i].name ∈ namesC (l.take i)) = q at *
        have hps := pStr_snoc (namesC (l.take i)) l[i].name
        rw [← ht] at hps
        have hlen : (pStr (namesC (l.take i))).length = i := by rw [pStr_length, hto]
        have hi0 : inv i = ⟨[(0, ksl l), (3, .sl 0 i 0 i), (4, iv i)], [(0, .arr (pStr (namesC (l.take i))) i 1)]⟩ := rfl
        have hi1 : inv (i + 1) = ⟨[(0, ksl l), (3, .sl 0 (i + 1) 0 (i + 1)), (4, iv ((i + 1 : Nat) : Int))], [(0, .arr (pStr (namesC (l.take (i + 1)))) (i + 1) 1)]⟩ := rfl
        rw [hi0, hi1, ← hps]
        generalize pStr (namesC (l.take i)) = P at *
        generalize l[i] = x at *
        refine ⟨fun hz => ⟨?_, ?h1, ?h2⟩, fun hz => ⟨?_, ?h3, ?h4⟩⟩
        case h1 =>
          simp -implicitDefEqProofs [loopS_eq, c29L0, cK_len, hx, hlt, hlt', hlen, hlim, h1, h3, h4, h5, h6, h7, hz, hws]
          exact rfl
        case h2 => rfl
        case h3 =>
          simp -implicitDefEqProofs [loopS_eq, c29L0, cK_len, hx, hlt, hlt', hlen, h1, h3, h4, h5, h6, h7, hz]
          exact rfl
        case h4 => rfl) (by simp -implicitDefEqProofs [inv, loopS_eq, c29L0, htl, -List.map_take]) (by simp) (fuel := loopFuel) (by simp [loopFuel]; omega)
    simp -implicitDefEqProofs [c29, c0']
    rcases key with ⟨k1, k2⟩ | ⟨j, st, hj, k1, kr, k2, k3, _⟩
    · rw [k1, k2]
      simp -implicitDefEqProofs [inv]
    · obtain ⟨env, sto⟩ := st
      simp only at kr
      subst kr
      rw [k1, k2]
      simp -implicitDefEqProofs

/-! the program's check -/
def clsSto (ov sp : Int × Int) (l : List ClsI) : Nat → Sto
  | 0 => [(2, .box [.p .nilm]), (1, .arr [.int .i64 ov.1, .int .i64 ov.2] 0 1), (0, .arr [.int .i64 sp.1, .int .i64 sp.2] 0 1)]
  | i + 1 => [(4, mapW (namesC (l.take (i + 1)))), (2, .box [.mp 4]), (1, .arr [.int .i64 ov.1, .int .i64 ov.2] 0 1), (0, .arr [.int .i64 sp.1, .int .i64 sp.2] 0 1)]

theorem classes27a {d : Nat} (l : List ClsI) (hl : l.length < 1000000) (h40 : ∀ i, (hi : i < l.length) → l[i].name.length ≤ 40) (ov sp : Int × Int) :
    (loopN (loopS (evFn F C0 G0 (d + 6)) C0 G0 0 true [0, 4, 5, 9, 22, 23, 24] c27L0) loopFuel ⟨[(0, ksl l), (4, .ptr 0 0 0), (5, .ptr 1 0 0), (9, .ptr 2 0 0), (22, ksl l), (23, iv l.length), (24, iv 0)], clsSto ov sp l 0⟩ = .ret (.exit 0, ⟨[(0, ksl l), (4, .ptr 0 0 0), (5, .ptr 1 0 0), (9, .ptr 2 0 0), (22, ksl l), (23, iv l.length), (24, iv l.length), (25, .p (.bool false))], clsSto ov sp l l.length⟩) ∧ firstE ((List.range l.length).map (clsE l)) = 0) ∨
    ∃ j st, j < l.length ∧ loopN (loopS (evFn F C0 G0 (d + 6)) C0 G0 0 true [0, 4, 5, 9, 22, 23, 24] c27L0) loopFuel ⟨[(0, ksl l), (4, .ptr 0 0 0), (5, .ptr 1 0 0), (9, .ptr 2 0 0), (22, ksl l), (23, iv l.length), (24, iv 0)], clsSto ov sp l 0⟩ = .ret (.ret, st) ∧ st.env = [(6, .p .nils), (7, .p .nils), (8, iv (clsE l j))] ∧ firstE ((List.range l.length).map (clsE l)) = clsE l j ∧ clsE l j ≠ 0 ∧ ∀ q, q < j → clsE l q = 0 := by
  have h1 := fun a b lo hi => interval109' (n := d + 6) (by omega) a b lo hi
  let inv : Nat → St := fun i => ⟨[(0, ksl l), (4, .ptr 0 0 0), (5, .ptr 1 0 0), (9, .ptr 2 0 0), (22, ksl l), (23, iv l.length), (24, iv i)], clsSto ov sp l i⟩
  refine loop_firstR (step := loopS (evFn F C0 G0 (d + 6)) C0 G0 0 true [0, 4, 5, 9, 22, 23, 24] c27L0) inv (clsE l) l.length _ (fun i st => st.env = [(6, .p .nils), (7, .p .nils), (8, iv (clsE l i))]) rfl (fun i hi => ?_) ?_ (by simp) (fuel := loopFuel) (by simp [loopFuel]; omega)
  · have hx := rowC_drop kc5_len l i hi
    have hlt : i * 5 < l.length * 5 := by omega
    have hlt' : (i : Int) < l.length := by omega
    have hws := wrap_succ (i := i) (by omega)
    have hE := clsE_lt hi
    have ht := namesC_take hi
    have hw := h40 i hi
    have h3 := first98_3 (n := d + 6) (by omega) (namE (namesC (l.take i)) l[i].name) (ivE 0 100000 (l[i].sl, l[i].sh)) (ivE 0 1000 (l[i].ol, l[i].oh))
    rw [← hE] at h3
    have hadd : clsE l i = 0 → addW (namesC (l.take i)) l[i].name = namesC (l.take (i + 1)) := fun hz => by
      rw [hE] at hz
      have := (namE_zero (firstE_zero.1 hz _ (List.mem_cons_self ..))).2
      rw [addW, if_neg this, ht]
    generalize clsE l i = e at *
    generalize l[i] = x at *
    cases i with
    | zero =>
      have hcn := check_new (d := d + 3) (k := 2) (X := .arr (kc5 x) 0 1) (T0 := [(1, .arr [.int .i64 ov.1, .int .i64 ov.2] 0 1), (0, .arr [.int .i64 sp.1, .int .i64 sp.2] 0 1)]) (w := x.name) (by omega)
      simp only [Nat.reduceAdd] at hcn
      simp only [Nat.zero_mul, List.drop_zero, List.take_zero, namesC, List.map_nil] at hx h3 hlt
      have hlp : 0 < l.length := hi
      have hw1 : IntKind.i64.wrap 1 = 1 := by decide
      have ha := fun hz => hadd hz
      simp only [List.take_zero, namesC, List.map_nil] at ha
      refine ⟨fun hz => ⟨?_, ?h1, ?h2⟩, fun hz => ⟨?_, ?h3, ?h4⟩⟩
      case h1 =>
        simp -implicitDefEqProofs [inv, clsSto, loopS_eq, c27L0, cK_len, hx, hlp, hidI, hid8, hcn, h1, h3, hz, mapW, hw1]
        exact rfl
      case h2 =>
        have hq : [x.name] = namesC (l.take 1) := ha hz
        exact loopS_same rfl (by simp [inv, clsSto, mapW, ← hq])
      case h3 =>
        simp -implicitDefEqProofs [inv, clsSto, loopS_eq, c27L0, cK_len, hx, hlp, hidI, hid8, hcn, h1, h3, hz, mapW]
        exact rfl
      case h4 => rfl
    | succ k =>
      have hco := check_old (d := d + 3) (k := 2) (X := .arr (kc5 x) 0 1) (T0 := [(1, .arr [.int .i64 ov.1, .int .i64 ov.2] 0 1), (0, .arr [.int .i64 sp.1, .int .i64 sp.2] 0 1)]) (w := x.name) (ws := namesC (l.take (k + 1))) (by omega)
      simp only [Nat.reduceAdd, mapW] at hco
      have hi0 : inv (k + 1) = ⟨[(0, ksl l), (4, .ptr 0 0 0), (5, .ptr 1 0 0), (9, .ptr 2 0 0), (22, ksl l), (23, iv l.length), (24, iv ((k + 1 : Nat) : Int))], [(4, mapW (namesC (l.take (k + 1)))), (2, .box [.mp 4]), (1, .arr [.int .i64 ov.1, .int .i64 ov.2] 0 1), (0, .arr [.int .i64 sp.1, .int .i64 sp.2] 0 1)]⟩ := rfl
      rw [hi0]
      have hnn : (0 : Int) ≤ (k : Int) + 1 := by omega
      have htn : ((k : Int) + 1).toNat = k + 1 := by omega
      have hlt2 : (k : Int) + 1 < l.length := by omega
      have hwk2 : IntKind.i64.wrap ((k : Int) + 1 + 1) = (k : Int) + 1 + 1 := wrap64 (by omega) (by omega)
      generalize namesC (l.take (k + 1)) = ws at *
      refine ⟨fun hz => ⟨?_, ?h5, ?h6⟩, fun hz => ⟨?_, ?h7, ?h8⟩⟩
      case h5 =>
        simp -implicitDefEqProofs [loopS_eq, c27L0, cK_len, hx, hlt, hnn, htn, hlt2, hidI, hid8, hco, h1, h3, hz, mapW, hwk2]
        exact rfl
      case h6 =>
        have hq := hadd hz
        exact loopS_same rfl (by simp [inv, clsSto, mapW, hq])
      case h7 =>
        simp -implicitDefEqProofs [loopS_eq, c27L0, cK_len, hx, hlt, hnn, htn, hlt2, hidI, hid8, hco, h1, h3, hz, mapW]
        exact rfl
      case h8 => rfl
  · simp only [inv]
    cases hn : l.length with
    | zero => simp -implicitDefEqProofs [loopS_eq, c27L0, clsSto]
    | succ m => simp -implicitDefEqProofs [loopS_eq, c27L0, clsSto, mapW]
end Fw
