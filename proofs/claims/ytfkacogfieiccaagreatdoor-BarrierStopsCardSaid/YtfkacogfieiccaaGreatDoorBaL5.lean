/- Gates, speeds, overlaps: the chapter's and the reference's. -/
import Derived.Test.YtfkacogfieiccaaGreatDoorBaR
import Derived.Test.YtfkacogfieiccaaGreatDoorBaL4
set_option maxHeartbeats 8000000
namespace Fw
open Go
attribute [local irreducible] evCode evOps evOpsD evOper evOperD evOp evFn loopN T.All T.bind callPure callOp opsK opsDK restK seqK blockK loopS setK setQ giveK scalK gcK finish finS rfunK yldK yldB loopK

structure GateI where
  place : Int
  lo : Int
  hi : Int
  deriving Inhabited
abbrev gc3 (g : GateI) : List PVal := [.int .i64 g.place, .int .i64 g.lo, .int .i64 g.hi]
theorem gc3_len (g : GateI) : (gc3 g).length = 3 := rfl
theorem cG_len (l : List GateI) : (rowC gc3 l).length = l.length * 3 := rowC_len gc3_len l
abbrev gsl (l : List GateI) : AVal := .p (.sl (rowC gc3 l) l.length)
def gt0 : GateI := ⟨0, 0, 0⟩
theorem getD_g {l : List GateI} {i : Nat} (h : i < l.length) : l.getD i gt0 = l[i] := by simp [List.getD_eq_getElem?_getD, List.getElem?_eq_getElem h]

theorem gates15 {n : Nat} (hn : 1 ≤ n) (l : List GateI) (hl : l.length < 1000000) : RUN n 15 [gsl l] = .ret (.own (rowC gc3 l) l.length 3) := by
  obtain ⟨d, rfl⟩ : ∃ d, n = d + 1 := ⟨n - 1, by omega⟩
  rw [RUN, call_eq fe15 _ rfl]
  let inv : Nat → St := fun i => ⟨[(3, .sl 0 i 0 i), (6, gsl l), (7, iv l.length), (8, iv i)], [(0, .arr (rowC gc3 (l.take i)) i 3)]⟩
  have htl : l.take l.length = l := List.take_of_length_le (by omega)
  simp -implicitDefEqProofs [c15]
  rw [loop_run' inv l.length (e := .exit 0) (st' := ⟨(inv l.length).env ++ [(9, .p (.bool false))], (inv l.length).sto⟩) (by simp)]
  · simp -implicitDefEqProofs [inv, htl, cG_len]
  · exact loopS_same rfl (by simp [inv])
  · intro i hi
    have hx := rowC_drop gc3_len l i hi
    have hlt : i * 3 < l.length * 3 := by omega
    have hlt' : (i : Int) < l.length := by omega
    have hlim : i + 1 ≤ lim := by simp only [lim]; omega
    have hto : (l.take i).length = i := by simp; omega
    have ht := rowC_take (f := gc3) l i hi
    refine ⟨?_, ?h1, ?h2⟩
    case h1 =>
      simp -implicitDefEqProofs [inv, loopS_eq, c15L0, cG_len, hx, hlt, hlt', hlim, hto, wrap_succ (i := i) (by omega)]
      exact rfl
    case h2 => exact loopS_same rfl (by simp [inv, ht])
  · simp -implicitDefEqProofs [inv, loopS_eq, c15L0]
  · simp [loopFuel]; omega

/-- the gate before; before the first one: one that is earlier than any -/
def befG (l : List GateI) : Nat → GateI
  | 0 => ⟨-1, -1, -1⟩
  | k + 1 => l.getD k gt0
/-- does a gate come too early? -/
def lateB (a b : GateI) : Bool := decide (b.place ≤ a.place) || decide (b.lo ≤ a.hi)
def gateE (l : List GateI) (i : Nat) : Int := firstE [rangeE 0 1000000 (l.getD i gt0).place, ivE 0 100000000 ((l.getD i gt0).lo, (l.getD i gt0).hi), whenE (lateB (befG l i) (l.getD i gt0)) 11]
def fewE (n : Nat) : Int := firstE [whenE (decide ((n : Int) < 2)) 16, whenE (decide ((8 : Int) < n)) 5]
def gatesE (l : List GateI) : Int := if fewE l.length = 0 then firstE ((List.range l.length).map (gateE l)) else fewE l.length

theorem fewE_zero {n : Nat} : fewE n = 0 ↔ 2 ≤ n ∧ n ≤ 8 := by
  unfold fewE
  rw [firstE_zero]
  simp only [List.mem_cons, List.not_mem_nil, or_false, forall_eq_or_imp, forall_eq, whenE_zero (show (16 : Int) ≠ 0 by decide), whenE_zero (show (5 : Int) ≠ 0 by decide), decide_eq_false_iff_not]
  omega

theorem firstE3 (a b c : Int) : firstE [a, b, c] = if a = 0 then (if b = 0 then c else b) else a := by
  simp only [firstE]
  by_cases h : c = 0 <;> simp [h]

/-- at the first gate nothing is late -/
theorem gateE_first (l : List GateI) : gateE l 0 = firstE [rangeE 0 1000000 (l.getD 0 gt0).place, ivE 0 100000000 ((l.getD 0 gt0).lo, (l.getD 0 gt0).hi), 0] := by
  unfold gateE
  rw [firstE3, firstE3]
  generalize l.getD 0 gt0 = g
  by_cases h1 : rangeE 0 1000000 g.place = 0
  · rw [if_pos h1, if_pos h1]
    by_cases h2 : ivE 0 100000000 (g.lo, g.hi) = 0
    · rw [if_pos h2, if_pos h2]
      have h1 := rangeE_zero.1 h1
      have h2 := ivE_zero.1 h2
      simp only at h2
      have : lateB (befG l 0) g = false := by
        have e1 : ¬ g.place ≤ -1 := by omega
        have e2 : ¬ g.lo ≤ -1 := by omega
        show (decide (g.place ≤ -1) || decide (g.lo ≤ -1)) = false
        rw [decide_eq_false e1, decide_eq_false e2]
        rfl
      rw [this]
      rfl
    · rw [if_neg h2, if_neg h2]
  · rw [if_neg h1, if_neg h1]

theorem check18 {n : Nat} (hn : 4 ≤ n) (l : List GateI) (hl : l.length < 1000000) : RUN n 18 [gsl l] = .ret (iv (gatesE l)) := by
  obtain ⟨d, rfl⟩ : ∃ d, n = d + 4 := ⟨n - 4, by omega⟩
  rw [RUN, call_eq fe18 _ rfl]
  have h1 := fun b e => when55 (n := d + 3) (by omega) b e
  have h2 := fun a b => first101_2 (n := d + 3) (by omega) a b
  have h3 := fun a b c => first101_3 (n := d + 3) (by omega) a b c
  have h4 := fun x lo hi => range102 (n := d + 3) (by omega) x lo hi
  have h5 := fun a b lo hi => ends103' (n := d + 3) (by omega) a b lo hi
  have e0 : firstE [whenE (decide ((l.length : Int) < 2)) 16, whenE (decide ((8 : Int) < l.length)) 5] = fewE l.length := rfl
  unfold gatesE
  by_cases z0 : fewE l.length = 0
  · rw [if_pos z0]
    obtain ⟨f1, f2⟩ := fewE_zero.1 z0
    let inv : Nat → St := fun i => ⟨[(0, gsl l), (4, iv i)], []⟩
    have key := loop_first (step := loopS (evFn F C0 G0 (d + 3)) C0 G0 0 true [0, 4] c18L0) inv (gateE l) l.length (.exit 0, ⟨(inv l.length).env ++ [(23, .p (.bool false))], []⟩) (fun i => (.ret, ⟨[(2, iv (gateE l i))], [(0, .arr (gc3 (l.getD (i - 1) gt0)) 0 1)]⟩))
      (st0 := ⟨[(0, gsl l), (4, iv 0)], []⟩) rfl (fun i hi => by
        have hm : i - 1 < l.length := by omega
        have hx := rowC_drop gc3_len l i hi
        have hx2 := rowC_drop gc3_len l (i - 1) hm
        have hmax : max 0 ((i : Int) - 1) = ((i - 1 : Nat) : Int) := by omega
        have hlt : i * 3 < l.length * 3 := by omega
        have hlt2 : (i - 1) * 3 < l.length * 3 := by omega
        have hlt' : (i : Int) < l.length := by omega
        have hlt2' : ((i - 1 : Nat) : Int) < l.length := by omega
        have hw1 : IntKind.i64.wrap ((i : Int) - 1) = (i : Int) - 1 := wrap64 (by omega) (by omega)
        have hws := wrap_succ (i := i) (by omega)
        have hwz : whenE false 11 = 0 := rfl
        have gi := getD_g hi
        have gm := getD_g hm
        have hE : gateE l i = firstE [rangeE 0 1000000 l[i].place, ivE 0 100000000 (l[i].lo, l[i].hi), whenE (decide (0 < i) && lateB l[i - 1] l[i]) 11] := by
          rcases Nat.eq_zero_or_pos i with rfl | hp
          · rw [gateE_first, gi]; rfl
          · obtain ⟨k, rfl⟩ : ∃ k, i = k + 1 := ⟨i - 1, by omega⟩
            simp only [gateE, befG, gi, Nat.add_sub_cancel] at gm ⊢
            rw [gm]
            simp
        have h3s := h3 (rangeE 0 1000000 l[i].place) (ivE 0 100000000 (l[i].lo, l[i].hi)) (whenE (decide (0 < i) && lateB l[i - 1] l[i]) 11)
        rw [← hE] at h3s
        rw [gm]
        generalize gateE l i = e at *
        have fin : (e = 0 → ∃ st1, loopS (evFn F C0 G0 (d + 3)) C0 G0 0 true [0, 4] c18L0 (inv i) = .ret (.normal, st1) ∧ loopS (evFn F C0 G0 (d + 3)) C0 G0 0 true [0, 4] c18L0 st1 = loopS (evFn F C0 G0 (d + 3)) C0 G0 0 true [0, 4] c18L0 (inv (i + 1))) ∧ (e ≠ 0 → loopS (evFn F C0 G0 (d + 3)) C0 G0 0 true [0, 4] c18L0 (inv i) = .ret (.ret, ⟨[(2, iv e)], [(0, .arr (gc3 l[i - 1]) 0 1)]⟩)) := by
          rcases Nat.eq_zero_or_pos i with hi0 | hp
          · have hnp : ¬ 0 < i := by omega
            have hdn : decide (0 < i) = false := decide_eq_false hnp
            simp only [hdn, Bool.false_and] at h3s
            rw [hwz] at h3s
            refine ⟨fun hz => ⟨?_, ?h1, ?h2⟩, fun hz => ?_⟩
            case h1 =>
              simp -implicitDefEqProofs [inv, loopS_eq, c18L0, cG_len, hx, hx2, hlt, hlt', hlt2, hlt2', hmax, hw1, hws, hwz, hnp, h1, h4, h5, max2', h3s, hz]
              exact rfl
            case h2 => exact loopS_same rfl (by simp [inv])
            · simp -implicitDefEqProofs [inv, loopS_eq, c18L0, cG_len, hx, hx2, hlt, hlt', hlt2, hlt2', hmax, hw1, hwz, hnp, h1, h4, h5, max2', h3s, hz]
          · have hdn : decide (0 < i) = true := decide_eq_true hp
            simp only [hdn, Bool.true_and] at h3s
            by_cases c1 : l[i].place ≤ l[i - 1].place
            · have hlb : lateB l[i - 1] l[i] = true := by simp [lateB, c1]
              rw [hlb] at h3s
              refine ⟨fun hz => ⟨?_, ?h3, ?h4⟩, fun hz => ?_⟩
              case h3 =>
                simp -implicitDefEqProofs [inv, loopS_eq, c18L0, cG_len, hx, hx2, hlt, hlt', hlt2, hlt2', hmax, hw1, hws, hp, c1, h1, h4, h5, max2', h3s, hz]
                exact rfl
              case h4 => exact loopS_same rfl (by simp [inv])
              · simp -implicitDefEqProofs [inv, loopS_eq, c18L0, cG_len, hx, hx2, hlt, hlt', hlt2, hlt2', hmax, hw1, hp, c1, h1, h4, h5, max2', h3s, hz]
            · have hlb : lateB l[i - 1] l[i] = decide (l[i].lo ≤ l[i - 1].hi) := by simp [lateB, c1]
              rw [hlb] at h3s
              refine ⟨fun hz => ⟨?_, ?h5, ?h6⟩, fun hz => ?_⟩
              case h5 =>
                simp -implicitDefEqProofs [inv, loopS_eq, c18L0, cG_len, hx, hx2, hlt, hlt', hlt2, hlt2', hmax, hw1, hws, hp, c1, h1, h4, h5, max2', h3s, hz]
                exact rfl
              case h6 => exact loopS_same rfl (by simp [inv])
              · simp -implicitDefEqProofs [inv, loopS_eq, c18L0, cG_len, hx, hx2, hlt, hlt', hlt2, hlt2', hmax, hw1, hp, c1, h1, h4, h5, max2', h3s, hz]
        exact fin) (fun i => by simp) (by simp -implicitDefEqProofs [inv, loopS_eq, c18L0]) (by simp) (fuel := loopFuel) (by simp [loopFuel]; omega)
    simp -implicitDefEqProofs [c18, h1, h2, e0, z0]
    rcases key with ⟨k1, k2⟩ | ⟨j, hj, k1, k2, k3, _⟩
    · rw [k1, k2]
      simp -implicitDefEqProofs [inv]
    · rw [k1, k2]
      simp -implicitDefEqProofs
  · rw [if_neg z0]
    have hb : (fewE l.length != 0) = true := by simpa using z0
    simp -implicitDefEqProofs [c18, h1, h2, e0, hb]
end Fw
