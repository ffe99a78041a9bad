/- Cells of a wall, checked: the chapter's and the reference's. -/
import Derived.Test.YtfkacogfieiccaaGreatDoorBaP1
set_option maxHeartbeats 8000000
namespace Fw
open Go
attribute [local irreducible] evCode evOps evOpsD evOper evOperD evOp evFn loopN T.All T.bind callPure callOp opsK opsDK restK seqK blockK loopS setK setQ giveK scalK gcK finish finS rfunK yldK yldB loopK

structure LoadI where
  name : List UInt8
  x : Int
  y : Int
  scale : Int
  err : Int
  s : List Int
  deriving Inhabited
abbrev lc6 (x : LoadI) : List PVal := [.str x.name, .int .i64 x.x, .int .i64 x.y, .int .i64 x.scale, .int .i64 x.err, .sl (pI x.s) x.s.length]
abbrev la6 (x : LoadI) : List AVal := [sv x.name, iv x.x, iv x.y, iv x.scale, iv x.err, isl x.s]
theorem lc6_len (x : LoadI) : (lc6 x).length = 6 := rfl
theorem cW_len (l : List LoadI) : (rowC lc6 l).length = l.length * 6 := rowC_len lc6_len l
abbrev lol (l : List LoadI) : AVal := .p (.sl (rowC lc6 l) l.length)
def loa0 : LoadI := ⟨[], 0, 0, 0, 0, []⟩
theorem getD_w {l : List LoadI} {i : Nat} (h : i < l.length) : l.getD i loa0 = l[i] := by simp [List.getD_eq_getElem?_getD, List.getElem?_eq_getElem h]
abbrev namesW (l : List LoadI) : List (List UInt8) := l.map (·.name)
theorem namesW_take {l : List LoadI} {i : Nat} (h : i < l.length) : namesW (l.take (i + 1)) = namesW (l.take i) ++ [l[i].name] := by
  rw [← List.take_append_getElem h, namesW, List.map_append]; rfl

theorem owned92 {n : Nat} (hn : 1 ≤ n) (x : LoadI) (hs : x.s.length < 1000000) : RUN n 92 [.agg (la6 x)] = .ret (.agg (la6 x)) := by
  obtain ⟨d, rfl⟩ : ∃ d, n = d + 1 := ⟨n - 1, by omega⟩
  rw [RUN, call_eq fe92 _ rfl]
  obtain ⟨nm, px, py, sc, er, s⟩ := x
  simp only at hs
  by_cases h0 : s = []
  · subst h0
    simp -implicitDefEqProofs [c92]
  · have hl : ¬ s.length = 0 := by simpa using h0
    have hlim : s.length ≤ lim := by simp only [lim]; omega
    simp -implicitDefEqProofs [c92, hl, hlim]

theorem loads63 {n : Nat} (hn : 2 ≤ n) (l : List LoadI) (hl : l.length < 1000000) (hs : ∀ i, (hi : i < l.length) → l[i].s.length < 1000000) : RUN n 63 [lol l] = .ret (.own (rowC lc6 l) l.length 6) := by
  obtain ⟨d, rfl⟩ : ∃ d, n = d + 2 := ⟨n - 2, by omega⟩
  rw [RUN, call_eq fe63 _ rfl]
  let inv : Nat → St := fun i => ⟨[(3, .sl 0 i 0 i), (6, lol l), (7, iv l.length), (8, iv i)], [(0, .arr (rowC lc6 (l.take i)) i 6)]⟩
  have htl : l.take l.length = l := List.take_of_length_le (by omega)
  simp -implicitDefEqProofs [c63]
  rw [loop_run' inv l.length (e := .exit 0) (st' := ⟨(inv l.length).env ++ [(9, .p (.bool false))], (inv l.length).sto⟩) (by simp)]
  · simp -implicitDefEqProofs [inv, htl, cW_len]
  · exact loopS_same rfl (by simp [inv])
  · intro i hi
    have hx := rowC_drop lc6_len l i hi
    have hlt : i * 6 < l.length * 6 := by omega
    have hlt' : (i : Int) < l.length := by omega
    have hlim : i + 1 ≤ lim := by simp only [lim]; omega
    have hto : (l.take i).length = i := by simp; omega
    have ht := rowC_take (f := lc6) l i hi
    have ho := owned92 (n := d + 1) (by omega) l[i] (hs i hi)
    generalize l[i] = x at *
    refine ⟨?_, ?h1, ?h2⟩
    case h1 =>
      simp -implicitDefEqProofs [inv, loopS_eq, c63L0, cW_len, hx, hlt, hlt', hlim, hto, ho, wrap_succ (i := i) (by omega)]
      exact rfl
    case h2 => exact loopS_same rfl (by simp [inv, ht])
  · simp -implicitDefEqProofs [inv, loopS_eq, c63L0]
  · simp [loopFuel]; omega

def longW (l : List LoadI) (i : Nat) : Int := if 40 < (l.getD i loa0).name.length ∨ (10 < (l.getD i loa0).s.length ∧ (l.getD i loa0).s.length ≠ 65) then 1 else 0
def shortW (l : List LoadI) : Bool := decide (firstE ((List.range l.length).map (longW l)) = 0) && (decide (l.length ≤ 6) || decide (l.length = 17))
theorem short58 {n : Nat} (hn : 1 ≤ n) (l : List LoadI) (hl : l.length ≤ 9223372036854775807) : RUN n 58 [lol l] = .ret (.p (.bool (shortW l))) := by
  obtain ⟨d, rfl⟩ : ∃ d, n = d + 1 := ⟨n - 1, by omega⟩
  rw [RUN, call_eq fe58 _ rfl]
  let inv : Nat → St := fun i => ⟨[(0, lol l), (3, iv i)], []⟩
  have key := loop_firstR (step := loopS (evFn F C0 G0 d) C0 G0 0 false [0, 3] c58L0) inv (longW l) l.length (.exit 0, ⟨(inv l.length).env ++ [(7, .p (.bool false))], []⟩) (fun _ st => st.env = [(2, .p (.bool false))])
    (st0 := ⟨[(0, lol l), (3, iv 0)], []⟩) rfl (fun i hi => by
      have hx := rowC_drop lc6_len l i hi
      have hlt : i * 6 < l.length * 6 := by omega
      have hlt' : (i : Int) < l.length := by omega
      have hws := wrap_succ (i := i) (by omega)
      have he : longW l i = if 40 < l[i].name.length ∨ (10 < l[i].s.length ∧ l[i].s.length ≠ 65) then 1 else 0 := by simp only [longW, getD_w hi]
      rw [he]
      generalize l[i] = x at *
      by_cases c1 : 40 < x.name.length
      · have c1' : (40 : Int) < x.name.length := by omega
        refine ⟨fun h => absurd h (by simp [c1]), fun _ => ⟨?_, ?h1, ?h2⟩⟩
        case h1 =>
          simp -implicitDefEqProofs [inv, loopS_eq, c58L0, cW_len, hx, hlt, hlt', c1']
          exact rfl
        case h2 => rfl
      · have c1' : ¬ (40 : Int) < x.name.length := by omega
        by_cases c2 : 10 < x.s.length
        · have c2' : (10 : Int) < x.s.length := by omega
          by_cases c3 : x.s.length = 65
          · have c3' : ((x.s.length : Int) != 65) = false := by simp; omega
            refine ⟨fun _ => ⟨?_, ?h3, ?h4⟩, fun h => absurd (by simp [c1, c3]) h⟩
            case h3 =>
              simp -implicitDefEqProofs [inv, loopS_eq, c58L0, cW_len, hx, hlt, hlt', c1', c2', c3', hws]
              exact rfl
            case h4 => rfl
          · have c3' : ((x.s.length : Int) != 65) = true := by simp; omega
            refine ⟨fun h => absurd h (by simp [c1, c2, c3]), fun _ => ⟨?_, ?h5, ?h6⟩⟩
            case h5 =>
              simp -implicitDefEqProofs [inv, loopS_eq, c58L0, cW_len, hx, hlt, hlt', c1', c2', c3']
              exact rfl
            case h6 => rfl
        · have c2' : ¬ (10 : Int) < x.s.length := by omega
          refine ⟨fun _ => ⟨?_, ?h7, ?h8⟩, fun h => absurd (by simp [c1, c2]) h⟩
          case h7 =>
            simp -implicitDefEqProofs [inv, loopS_eq, c58L0, cW_len, hx, hlt, hlt', c1', c2', hws]
            exact rfl
          case h8 => rfl) (by simp -implicitDefEqProofs [inv, loopS_eq, c58L0]) (by simp) (fuel := loopFuel) (by simp [loopFuel]; omega)
  simp -implicitDefEqProofs [c58]
  rcases key with ⟨k1, k2⟩ | ⟨j, st, hj, k1, kr, k2, k3, _⟩
  · rw [k1]
    by_cases c1 : l.length ≤ 6
    · have c1' : (l.length : Int) ≤ 6 := by omega
      simp -implicitDefEqProofs [inv, shortW, k2, c1, c1']
    · have c1' : ¬ (l.length : Int) ≤ 6 := by omega
      have hb : ((l.length : Int) == 17) = decide (l.length = 17) := by rw [Bool.eq_iff_iff]; simp; omega
      simp -implicitDefEqProofs [inv, shortW, k2, c1, c1', hb]
  · obtain ⟨env, sto⟩ := st
    simp only at kr
    subst kr
    have hs : shortW l = false := by simp [shortW, k2, k3]
    rw [k1, hs]
    simp -implicitDefEqProofs
theorem shortW_of {l : List LoadI} (h : shortW l = true) : (∀ i, (hi : i < l.length) → l[i].name.length ≤ 40 ∧ l[i].s.length ≤ 65) ∧ l.length ≤ 17 := by
  simp only [shortW, Bool.and_eq_true, Bool.or_eq_true, decide_eq_true_eq] at h
  refine ⟨fun i hi => ?_, by omega⟩
  have := all_zero h.1 i hi
  simp only [longW, getD_w hi] at this
  split at this
  · exact absurd this (by decide)
  · omega

theorem firstE_app (a b : List Int) : firstE (a ++ b) = if firstE a = 0 then firstE b else firstE a := by
  induction a with
  | nil => rfl
  | cons x r ih =>
    by_cases h : x = 0
    · simp [firstE, h, ih]
    · simp [firstE, h]

def loadA1 (l : List LoadI) (i : Nat) : Int := firstE [namE (namesW (l.take i)) (l.getD i loa0).name, rangeE 0 1000000 (l.getD i loa0).x, rangeE 0 1000000 (l.getD i loa0).y, rangeE 1 1000000 (l.getD i loa0).scale, rangeE 0 1000000 (l.getD i loa0).err]
def loadB1 (l : List LoadI) (i : Nat) : Int := firstE [whenE (((l.getD i loa0).s.length : Int) == 0) 12, whenE (decide ((64 : Int) < (l.getD i loa0).s.length)) 5, whenE (((l.getD i loa0).s.length : Int) != ((l.getD 0 loa0).s.length : Int)) 2, rangesE (-(l.getD i loa0).scale) (l.getD i loa0).scale (l.getD i loa0).s]
def loadE (l : List LoadI) (i : Nat) : Int := if loadA1 l i = 0 then loadB1 l i else loadA1 l i
def wallE (l : List LoadI) : Int := if manyE l.length 16 = 0 then firstE ((List.range l.length).map (loadE l)) else manyE l.length 16

theorem loadA_lt {l : List LoadI} {i : Nat} (hi : i < l.length) : loadA1 l i = firstE [namE (namesW (l.take i)) l[i].name, rangeE 0 1000000 l[i].x, rangeE 0 1000000 l[i].y, rangeE 1 1000000 l[i].scale, rangeE 0 1000000 l[i].err] := by
  unfold loadA1; rw [getD_w hi]
theorem loadB_lt {l : List LoadI} {i : Nat} (hi : i < l.length) : loadB1 l i = firstE [whenE ((l[i].s.length : Int) == 0) 12, whenE (decide ((64 : Int) < l[i].s.length)) 5, whenE ((l[i].s.length : Int) != (l[0].s.length : Int)) 2, rangesE (-l[i].scale) l[i].scale l[i].s] := by
  unfold loadB1; rw [getD_w hi, getD_w (show 0 < l.length by omega)]

theorem wall_five {l : List LoadI} (h : 0 < l.length) : (rowC lc6 l)[5]? = some (.sl (pI l[0].s) l[0].s.length) := by
  cases l with
  | nil => cases h
  | cons x r => rfl

def walSto (l : List LoadI) : Nat → Sto
  | 0 => [(0, .box [.p .nilm])]
  | i + 1 => [(2, mapW (namesW (l.take (i + 1)))), (0, .box [.mp 2])]

theorem first98_5' {n : Nat} (hn : 1 ≤ n) (a b c e f : Int) : RUN n 98 [.p (.sl [.int .i64 a, .int .i64 b, .int .i64 c, .int .i64 e, .int .i64 f] 5)] = .ret (iv (firstE [a, b, c, e, f])) := first98_5 hn a b c e f

theorem check82 {n : Nat} (hn : 7 ≤ n) (l : List LoadI) (hl : l.length < 1000000) (h40 : ∀ i, (hi : i < l.length) → l[i].name.length ≤ 40 ∧ l[i].s.length ≤ 65) : RUN n 82 [lol l] = .ret (iv (wallE l)) := by
  obtain ⟨d, rfl⟩ : ∃ d, n = d + 7 := ⟨n - 7, by omega⟩
  rw [RUN, call_eq fe82 _ rfl]
  have h1 := fun b e => when107 (n := d + 6) (by omega) b e
  have h2 := first98_2 (n := d + 6) (by omega) (whenE ((l.length : Int) == 0) 12) (whenE (decide ((16 : Int) < l.length)) 5)
  rw [show firstE [whenE ((l.length : Int) == 0) 12, whenE (decide ((16 : Int) < l.length)) 5] = manyE l.length 16 from rfl] at h2
  have h5 := fun x lo hi => within108 (n := d + 6) (by omega) x lo hi
  unfold wallE
  by_cases z0 : manyE l.length 16 = 0
  · rw [if_pos z0]
    let inv : Nat → St := fun i => ⟨[(0, lol l), (4, .ptr 0 0 0), (22, lol l), (23, iv l.length), (24, iv i)], walSto l i⟩
    have key := loop_firstR (step := loopS (evFn F C0 G0 (d + 6)) C0 G0 0 true [0, 4, 22, 23, 24] c82L0) inv (loadE l) l.length (.exit 0, ⟨(inv l.length).env ++ [(25, .p (.bool false))], (inv l.length).sto⟩) (fun i st => st.env = [(2, iv (loadE l i))])
      (st0 := ⟨[(0, lol l), (4, .ptr 0 0 0), (22, lol l), (23, iv l.length), (24, iv 0)], [(0, .box [.p .nilm])]⟩) rfl (fun i hi => by
        have hx := rowC_drop lc6_len l i hi
        have h50 : ∀ q, (rowC lc6 l)[5]'q = .sl (pI l[0].s) l[0].s.length := fun q => by
          have := wall_five (l := l) (by omega)
          rw [List.getElem?_eq_getElem q] at this
          exact Option.some.inj this
        have hlp : 0 < l.length := by omega
        have hlp6 : 5 < l.length * 6 := by omega
        have hlt : i * 6 < l.length * 6 := by omega
        have hlt' : (i : Int) < l.length := by omega
        have hws := wrap_succ (i := i) (by omega)
        have hA := loadA_lt hi
        have hB := loadB_lt hi
        have ht := namesW_take hi
        obtain ⟨hw, hs65⟩ := h40 i hi
        have h3 := first98_5 (n := d + 6) (by omega) (namE (namesW (l.take i)) l[i].name) (rangeE 0 1000000 l[i].x) (rangeE 0 1000000 l[i].y) (rangeE 1 1000000 l[i].scale) (rangeE 0 1000000 l[i].err)
        have h4 := first98_4 (n := d + 6) (by omega) (whenE ((l[i].s.length : Int) == 0) 12) (whenE (decide ((64 : Int) < l[i].s.length)) 5) (whenE ((l[i].s.length : Int) != (l[0].s.length : Int)) 2) (rangesE (-l[i].scale) l[i].scale l[i].s)
        have h6 := ranged122 (n := d + 6) (by omega) l[i].s (-l[i].scale) l[i].scale (by omega)
        rw [← hA] at h3
        rw [← hB] at h4
        have hadd : loadA1 l i = 0 → addW (namesW (l.take i)) l[i].name = namesW (l.take (i + 1)) := fun hz => by
          rw [hA] at hz
          have := (namE_zero (firstE_zero.1 hz _ (List.mem_cons_self ..))).2
          rw [addW, if_neg this, ht]
        have hwr : loadA1 l i = 0 → IntKind.i64.wrap (-l[i].scale) = -l[i].scale := fun hz => by
          rw [hA] at hz
          have := rangeE_zero.1 (firstE_zero.1 hz (rangeE 1 1000000 l[i].scale) (by simp))
          exact wrap64 (by omega) (by omega)
        unfold loadE
        generalize loadA1 l i = eA at *
        generalize loadB1 l i = eB at *
        have hyx : i = 0 → l[i] = l[0] := fun h => by subst h; rfl
        generalize l[0] = y at *
        generalize l[i] = x at *
        by_cases zA : eA = 0
        · have hwr := hwr zA
          have hadd := hadd zA
          rw [if_pos zA]
          cases i with
          | zero =>
            have hcn := check_new (d := d + 3) (k := 0) (X := .box (la6 x)) (T0 := []) (w := x.name) (by omega)
            simp only [Nat.reduceAdd] at hcn
            simp only [Nat.zero_mul, List.drop_zero, List.take_zero, namesW, List.map_nil] at hx h3 hlt hadd
            have hyx := hyx rfl
            subst hyx
            simp only [bne_self_eq_false] at h4
            have hw1 : IntKind.i64.wrap 1 = 1 := by decide
            refine ⟨fun hz => ⟨?_, ?h1, ?h2⟩, fun hz => ⟨?_, ?h3, ?h4⟩⟩
            case h1 =>
              simp -implicitDefEqProofs [inv, walSto, loopS_eq, c82L0, cW_len, hx, hlp, hidI, hid6, hcn, h1, h5, h3, h4, h6, zA, hz, mapW, hw1, hwr]
              exact rfl
            case h2 =>
              have hq : [x.name] = namesW (l.take 1) := hadd
              exact loopS_same rfl (by simp [inv, walSto, mapW, ← hq])
            case h3 =>
              simp -implicitDefEqProofs [inv, walSto, loopS_eq, c82L0, cW_len, hx, hlp, hidI, hid6, hcn, h1, h5, h3, h4, h6, zA, hz, mapW, hwr]
              exact rfl
            case h4 => rfl
          | succ k =>
            have hco := check_old (d := d + 3) (k := 0) (X := .box (la6 x)) (T0 := []) (w := x.name) (ws := namesW (l.take (k + 1))) (by omega)
            simp only [Nat.reduceAdd, mapW] at hco
            have hi0 : inv (k + 1) = ⟨[(0, lol l), (4, .ptr 0 0 0), (22, lol l), (23, iv l.length), (24, iv ((k + 1 : Nat) : Int))], [(2, mapW (namesW (l.take (k + 1)))), (0, .box [.mp 2])]⟩ := rfl
            rw [hi0]
            have hnn : (0 : Int) ≤ (k : Int) + 1 := by omega
            have htn : ((k : Int) + 1).toNat = k + 1 := by omega
            have hlt2 : (k : Int) + 1 < l.length := by omega
            have hwk2 : IntKind.i64.wrap ((k : Int) + 1 + 1) = (k : Int) + 1 + 1 := wrap64 (by omega) (by omega)
            generalize namesW (l.take (k + 1)) = ws at *
            refine ⟨fun hz => ⟨?_, ?h5, ?h6⟩, fun hz => ⟨?_, ?h7, ?h8⟩⟩
            case h5 =>
              simp -implicitDefEqProofs [loopS_eq, c82L0, cW_len, hx, hlp, hlp6, h50, hlt, hnn, htn, hlt2, hidI, hid6, hco, h1, h5, h3, h4, h6, zA, hz, mapW, hwk2, hwr]
              exact rfl
            case h6 => exact loopS_same rfl (by simp [inv, walSto, mapW, hadd])
            case h7 =>
              simp -implicitDefEqProofs [loopS_eq, c82L0, cW_len, hx, hlp, hlp6, h50, hlt, hnn, htn, hlt2, hidI, hid6, hco, h1, h5, h3, h4, h6, zA, hz, mapW, hwr]
              exact rfl
            case h8 => rfl
        · rw [if_neg zA]
          refine ⟨fun hz => absurd hz zA, fun _ => ?_⟩
          have hb : (eA != 0) = true := by simpa using zA
          cases i with
          | zero =>
            have hcn := check_new (d := d + 3) (k := 0) (X := .box (la6 x)) (T0 := []) (w := x.name) (by omega)
            simp only [Nat.reduceAdd] at hcn
            simp only [Nat.zero_mul, List.drop_zero, List.take_zero, namesW, List.map_nil] at hx h3 hlt
            refine ⟨?_, ?h9, ?ha⟩
            case h9 =>
              simp -implicitDefEqProofs [inv, walSto, loopS_eq, c82L0, cW_len, hx, hlp, hidI, hid6, hcn, h5, h3, hb, mapW]
              exact rfl
            case ha => rfl
          | succ k =>
            have hco := check_old (d := d + 3) (k := 0) (X := .box (la6 x)) (T0 := []) (w := x.name) (ws := namesW (l.take (k + 1))) (by omega)
            simp only [Nat.reduceAdd, mapW] at hco
            have hi0 : inv (k + 1) = ⟨[(0, lol l), (4, .ptr 0 0 0), (22, lol l), (23, iv l.length), (24, iv ((k + 1 : Nat) : Int))], [(2, mapW (namesW (l.take (k + 1)))), (0, .box [.mp 2])]⟩ := rfl
            rw [hi0]
            have hnn : (0 : Int) ≤ (k : Int) + 1 := by omega
            have htn : ((k : Int) + 1).toNat = k + 1 := by omega
            have hlt2 : (k : Int) + 1 < l.length := by omega
            generalize namesW (l.take (k + 1)) = ws at *
            refine ⟨?_, ?hb, ?hc⟩
            case hb =>
              simp -implicitDefEqProofs [loopS_eq, c82L0, cW_len, hx, hlt, hnn, htn, hlt2, hidI, hid6, hco, h5, h3, hb, mapW]
              exact rfl
            case hc => rfl) (by
        simp only [inv]
        cases hn : l.length with
        | zero => simp -implicitDefEqProofs [loopS_eq, c82L0, walSto]
        | succ m => simp -implicitDefEqProofs [loopS_eq, c82L0, walSto, mapW]) (by simp) (fuel := loopFuel) (by simp [loopFuel]; omega)
    simp -implicitDefEqProofs [c82, h1, h2, z0]
    rcases key with ⟨k1, k2⟩ | ⟨j, st, hj, k1, kr, k2, k3, _⟩
    · rw [k1, k2]
      simp -implicitDefEqProofs [inv]
    · obtain ⟨env, sto⟩ := st
      simp only at kr
      subst kr
      rw [k1, k2]
      simp -implicitDefEqProofs
  · rw [if_neg z0]
    have hb : (manyE l.length 16 != 0) = true := by simpa using z0
    simp -implicitDefEqProofs [c82, h1, h2, hb]
end Fw
