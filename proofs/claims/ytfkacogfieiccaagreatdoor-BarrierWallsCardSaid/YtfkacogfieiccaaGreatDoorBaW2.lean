/- Cells of a wall, checked by the reference; impulses. -/
import Derived.Test.YtfkacogfieiccaaGreatDoorBaW1
import Derived.Test.YtfkacogfieiccaaGreatDoorBaP2
set_option maxHeartbeats 8000000
namespace Fw
open Go
attribute [local irreducible] evCode evOps evOpsD evOper evOperD evOp evFn loopN T.All T.bind callPure callOp opsK opsDK restK seqK blockK loopS setK setQ giveK scalK gcK finish finS rfunK yldK yldB loopK

theorem firstE_swap5 (a b c e f : Int) : firstE (a :: b :: c :: e :: [f]) = if firstE [a, b, c, e, f] = 0 then 0 else firstE [a, b, c, e, f] := by
  by_cases h : firstE [a, b, c, e, f] = 0
  · rw [if_pos h]; exact h
  · rw [if_neg h]

/-- the nine errors that are asked first, and those of the samples -/
def loadC1 (l : List LoadI) (i : Nat) : Int := firstE [whenE (!nameB (l.getD i loa0).name) 8, whenE (decide ((l.getD i loa0).name ∈ namesW (l.take i))) 9, rangeE 0 1000000 (l.getD i loa0).x, rangeE 0 1000000 (l.getD i loa0).y, rangeE 1 1000000 (l.getD i loa0).scale, rangeE 0 1000000 (l.getD i loa0).err, whenE (((l.getD i loa0).s.length : Int) == 0) 12, whenE (decide ((64 : Int) < (l.getD i loa0).s.length)) 5, whenE (((l.getD i loa0).s.length : Int) != ((l.getD 0 loa0).s.length : Int)) 2]
theorem loadE_C (l : List LoadI) (i : Nat) : loadE l i = if loadC1 l i = 0 then rangesE (-(l.getD i loa0).scale) (l.getD i loa0).scale (l.getD i loa0).s else loadC1 l i := by
  unfold loadE
  have h1 : loadC1 l i = if loadA1 l i = 0 then firstE [whenE (((l.getD i loa0).s.length : Int) == 0) 12, whenE (decide ((64 : Int) < (l.getD i loa0).s.length)) 5, whenE (((l.getD i loa0).s.length : Int) != ((l.getD 0 loa0).s.length : Int)) 2] else loadA1 l i := by
    unfold loadC1 loadA1
    rw [namE, firstE_two, ← firstE_app]
    rfl
  have h2 : loadB1 l i = if firstE [whenE (((l.getD i loa0).s.length : Int) == 0) 12, whenE (decide ((64 : Int) < (l.getD i loa0).s.length)) 5, whenE (((l.getD i loa0).s.length : Int) != ((l.getD 0 loa0).s.length : Int)) 2] = 0 then rangesE (-(l.getD i loa0).scale) (l.getD i loa0).scale (l.getD i loa0).s else firstE [whenE (((l.getD i loa0).s.length : Int) == 0) 12, whenE (decide ((64 : Int) < (l.getD i loa0).s.length)) 5, whenE (((l.getD i loa0).s.length : Int) != ((l.getD 0 loa0).s.length : Int)) 2] := by
    have := firstE_app [whenE (((l.getD i loa0).s.length : Int) == 0) 12, whenE (decide ((64 : Int) < (l.getD i loa0).s.length)) 5, whenE (((l.getD i loa0).s.length : Int) != ((l.getD 0 loa0).s.length : Int)) 2] [rangesE (-(l.getD i loa0).scale) (l.getD i loa0).scale (l.getD i loa0).s]
    rw [firstE_cons (rangesE _ _ _)] at this
    unfold loadB1
    refine Eq.trans this ?_
    congr 1
    by_cases z : rangesE (-(l.getD i loa0).scale) (l.getD i loa0).scale (l.getD i loa0).s = 0
    · rw [if_pos z, z]; rfl
    · rw [if_neg z]
  rw [h1, h2]
  generalize loadA1 l i = A
  generalize firstE [whenE (((l.getD i loa0).s.length : Int) == 0) 12, whenE (decide ((64 : Int) < (l.getD i loa0).s.length)) 5, whenE (((l.getD i loa0).s.length : Int) != ((l.getD 0 loa0).s.length : Int)) 2] = B
  by_cases hA : A = 0
  · simp only [hA, if_true]
  · simp only [if_neg hA]

theorem loadC_lt {l : List LoadI} {i : Nat} (hi : i < l.length) : loadC1 l i = firstE [whenE (!nameB l[i].name) 8, whenE (decide (l[i].name ∈ namesW (l.take i))) 9, rangeE 0 1000000 l[i].x, rangeE 0 1000000 l[i].y, rangeE 1 1000000 l[i].scale, rangeE 0 1000000 l[i].err, whenE ((l[i].s.length : Int) == 0) 12, whenE (decide ((64 : Int) < l[i].s.length)) 5, whenE ((l[i].s.length : Int) != (l[0].s.length : Int)) 2] := by
  unfold loadC1; rw [getD_w hi, getD_w (show 0 < l.length by omega)]

theorem check66 {n : Nat} (hn : 5 ≤ n) (l : List LoadI) (hl : l.length < 1000000) (h40 : ∀ i, (hi : i < l.length) → l[i].name.length ≤ 40 ∧ l[i].s.length ≤ 65) : RUN n 66 [lol l] = .ret (iv (wallE l)) := by
  obtain ⟨d, rfl⟩ : ∃ d, n = d + 5 := ⟨n - 5, by omega⟩
  rw [RUN, call_eq fe66 _ rfl]
  have h1 := fun b e => when55 (n := d + 4) (by omega) b e
  have h2 := first101_2 (n := d + 4) (by omega) (whenE ((l.length : Int) == 0) 12) (whenE (decide ((16 : Int) < l.length)) 5)
  rw [show firstE [whenE ((l.length : Int) == 0) 12, whenE (decide ((16 : Int) < l.length)) 5] = manyE l.length 16 from rfl] at h2
  have h4 := fun w => cname113 (n := d + 4) (by omega) w
  have h5 := fun x lo hi => range102 (n := d + 4) (by omega) x lo hi
  unfold wallE
  by_cases z0 : manyE l.length 16 = 0
  · rw [if_pos z0]
    have htl : l.take l.length = l := List.take_of_length_le (by omega)
    let inv : Nat → St := fun i => ⟨[(0, lol l), (4, .sl 0 i 0 i), (5, iv i)], [(0, .arr (pStr (namesW (l.take i))) i 1)]⟩
    have key := loop_firstR (step := loopS (evFn F C0 G0 (d + 4)) C0 G0 0 true [0, 4, 5] c66L0) inv (loadE l) l.length (.exit 0, ⟨(inv l.length).env ++ [(25, .p (.bool false))], (inv l.length).sto⟩) (fun i st => st.env = [(2, iv (loadE l i))])
      (st0 := ⟨[(0, lol l), (4, .sl 0 0 0 0), (5, iv 0)], [(0, .arr [] 0 1)]⟩) rfl (fun i hi => by
        have hx := rowC_drop lc6_len l i hi
        have h50 : ∀ q, (rowC lc6 l)[5]'q = .sl (pI l[0].s) l[0].s.length := fun q => by
          have := wall_five (l := l) (by omega)
          rw [List.getElem?_eq_getElem q] at this
          exact Option.some.inj this
        have hlp : 0 < l.length := by omega
        have hlp6 : 5 < l.length * 6 := by omega
        have hlt : i * 6 < l.length * 6 := by omega
        have hlt' : (i : Int) < l.length := by omega
        have hlim : i + 1 ≤ lim := by simp only [lim]; omega
        have hws := wrap_succ (i := i) (by omega)
        have hC := loadC_lt hi
        have hEC := loadE_C l i
        rw [getD_w hi] at hEC
        have hto : (namesW (l.take i)).length = i := by simp; omega
        have ht := namesW_take hi
        obtain ⟨hw, hs65⟩ := h40 i hi
        have h7 := word93 (n := d + 4) (by omega) (namesW (l.take i)) l[i].name (by rw [hto]; omega)
        rw [hto] at h7
        have h3 := first101 (n := d + 4) (by omega) [whenE (!nameB l[i].name) 8, whenE (decide (l[i].name ∈ namesW (l.take i))) 9, rangeE 0 1000000 l[i].x, rangeE 0 1000000 l[i].y, rangeE 1 1000000 l[i].scale, rangeE 0 1000000 l[i].err, whenE ((l[i].s.length : Int) == 0) 12, whenE (decide ((64 : Int) < l[i].s.length)) 5, whenE ((l[i].s.length : Int) != (l[0].s.length : Int)) 2] (by simp)
        rw [← hC] at h3
        simp only [pI, List.map_cons, List.map_nil, List.length_cons, List.length_nil, Nat.zero_add, Nat.reduceAdd] at h3
        have h6 := ranges121 (n := d + 4) (by omega) l[i].s (-l[i].scale) l[i].scale (by omega)
        have hwr : loadC1 l i = 0 → IntKind.i64.wrap (-l[i].scale) = -l[i].scale := fun hz => by
          rw [hC] at hz
          have := rangeE_zero.1 (firstE_zero.1 hz (rangeE 1 1000000 l[i].scale) (by simp))
          exact wrap64 (by omega) (by omega)
        generalize loadE l i = e at *
        generalize loadC1 l i = eC at *
        generalize decide (l[i].name ∈ namesW (l.take i)) = q at *
        have hps := pStr_snoc (namesW (l.take i)) l[i].name
        rw [← ht] at hps
        have hlen : (pStr (namesW (l.take i))).length = i := by rw [pStr_length, hto]
        have hi0 : inv i = ⟨[(0, lol l), (4, .sl 0 i 0 i), (5, iv i)], [(0, .arr (pStr (namesW (l.take i))) i 1)]⟩ := rfl
        have hi1 : inv (i + 1) = ⟨[(0, lol l), (4, .sl 0 (i + 1) 0 (i + 1)), (5, iv ((i + 1 : Nat) : Int))], [(0, .arr (pStr (namesW (l.take (i + 1)))) (i + 1) 1)]⟩ := rfl
        rw [hi0, hi1, ← hps]
        generalize pStr (namesW (l.take i)) = P at *
        generalize l[0] = y at *
        generalize l[i] = x at *
        by_cases zC : eC = 0
        · have hwr := hwr zC
          rw [if_pos zC] at hEC
          rw [← hEC] at h6
          refine ⟨fun hz => ⟨?_, ?h1, ?h2⟩, fun hz => ⟨?_, ?h3, ?h4⟩⟩
          case h1 =>
            simp -implicitDefEqProofs [loopS_eq, c66L0, cW_len, hx, hlp, hlp6, h50, hlt, hlt', hlen, hlim, h1, h3, h4, h5, h6, h7, zC, hz, hws, hwr]
            exact rfl
          case h2 => exact loopS_same rfl (by simp)
          case h3 =>
            simp -implicitDefEqProofs [loopS_eq, c66L0, cW_len, hx, hlp, hlp6, h50, hlt, hlt', hlen, h1, h3, h4, h5, h6, h7, zC, hz, hwr]
            exact rfl
          case h4 => rfl
        · rw [if_neg zC] at hEC
          subst hEC
          have hb : (e != 0) = true := by simpa using zC
          refine ⟨fun hz => absurd hz zC, fun _ => ⟨?_, ?h5, ?h6⟩⟩
          case h5 =>
            simp -implicitDefEqProofs [loopS_eq, c66L0, cW_len, hx, hlp, hlp6, h50, hlt, hlt', hlen, h1, h3, h4, h5, h7, hb]
            exact rfl
          case h6 => rfl) (by simp -implicitDefEqProofs [inv, loopS_eq, c66L0, htl, -List.map_take]) (by simp) (fuel := loopFuel) (by simp [loopFuel]; omega)
    simp -implicitDefEqProofs [c66, h1, h2, z0]
    rcases key with ⟨k1, k2⟩ | ⟨j, st, hj, k1, kr, k2, k3, _⟩
    · rw [k1, k2]
      simp -implicitDefEqProofs [inv]
    · obtain ⟨env, sto⟩ := st
      simp only at kr
      subst kr
      rw [k1, k2]
      simp -implicitDefEqProofs
  · rw [if_neg z0]
    have hb : (manyE l.length 16 != 0) = true := by simpa using z0
    simp -implicitDefEqProofs [c66, h1, h2, hb]
end Fw
