/- Filled records: the reference's function, walked. -/
import Derived.Test.YtbaedpfgjpkabaaGreatDoorChFi7
set_option maxHeartbeats 8000000
namespace Fw
open Go
attribute [local irreducible] evCode evOps evOpsD evOper evOperD evOp evFn loopN T.All T.bind callPure callOp opsK opsDK restK seqK blockK loopS setK setQ giveK scalK gcK finish finS rfunK yldK yldB loopK

def apB (ys : List (Int × Int)) : Bool := ys.any fun y => decide (y.2 < y.1)
theorem conE_ap (ys : List (Int × Int)) : firstE (conE ys) = if apB ys = true then 24 else 0 := by
  induction ys with
  | nil => rfl
  | cons y r ih =>
    have h1 : conE (y :: r) = (if y.2 < y.1 then 24 else 0) :: conE r := rfl
    have h2 : apB (y :: r) = (decide (y.2 < y.1) || apB r) := rfl
    rw [h1, h2, firstE_cons]
    by_cases c : y.2 < y.1
    · simp [c]
    · simp [c, ih]
theorem apB_take (ys : List (Int × Int)) (i : Nat) (h : i < ys.length) : apB (ys.take (i + 1)) = (apB (ys.take i) || decide (ys[i].2 < ys[i].1)) := by
  have e : ys.take (i + 1) = ys.take i ++ [ys[i]] := by rw [List.take_add_one, List.getElem?_eq_getElem h]; rfl
  rw [e]
  simp only [apB, List.any_append, List.any_cons, List.any_nil, Bool.or_false]

section
variable {d : Nat}
theorem inner69 (l : List Nat) (g : List (Int × Int)) (hg : g.length < 1000000) (r : Int) (i : Nat) (b0 ap : Bool) (outs : List PVal) (v : Nat) (hl : l.length ≤ 4096) (hs : SmpOk l) (hi : i < l.length) (hr : 0 ≤ r ∧ r ≤ 16384) :
    loopN (loopS (evFn F C0 G0 (d + 3)) C0 G0 0 false [0, 1, 2, 8, 9, 10, 11, 12, 13] c69L0) loopFuel ⟨[(0, fsl l), (1, csl g), (2, iv r), (8, .sl 0 v 0 v), (9, .p (.bool b0)), (10, .p (.bool ap)), (11, iv i), (12, .ptr 1 0 0), (13, .p (.int .i64 0))], [(1, .arr [.int .i64 (-16384), .int .i64 16384] 0 1), (0, .arr outs v 2)]⟩ =
    .ret (.exit 2, ⟨[(0, fsl l), (1, csl g), (2, iv r), (8, .sl 0 v 0 v), (9, .p (.bool (b0 || somK g l.length))), (10, .p (.bool ap)), (11, iv i), (12, .ptr 1 0 0), (13, iv l.length), (28, .p (.bool false))], [(1, .arr [.int .i64 (refX g (l.map smpN) r i l.length).1, .int .i64 (refX g (l.map smpN) r i l.length).2] 0 1), (0, .arr outs v 2)]⟩) := by
  let inv : Nat → St := fun k => ⟨[(0, fsl l), (1, csl g), (2, iv r), (8, .sl 0 v 0 v), (9, .p (.bool (b0 || somK g k))), (10, .p (.bool ap)), (11, iv i), (12, .ptr 1 0 0), (13, iv k)], [(1, .arr [.int .i64 (refX g (l.map smpN) r i k).1, .int .i64 (refX g (l.map smpN) r i k).2] 0 1), (0, .arr outs v 2)]⟩
  refine loop_run inv l.length (by simp) (by simp only [inv]; rw [show (b0 || somK g 0) = b0 by simp [somK]]; rfl) ?_ ?_ (by simp [loopFuel]; omega)
  · intro k hk
    have w := wrap_succ (i := k) (by omega)
    have km := missing152 (n := d + 3) (by omega) g hg k
    obtain ⟨mn, hmn⟩ : ∃ mn, mn = min i k := ⟨_, rfl⟩
    obtain ⟨mx, hmx⟩ : ∃ mx, mx = max i k := ⟨_, rfl⟩
    have kb := between153 (n := d + 3) (by omega) g hg mn mx (by omega) (by omega)
    have e1 : min (i : Int) (k : Int) = (mn : Int) := by omega
    have e2 : max (i : Int) (k : Int) = (mx : Int) := by omega
    have hS : refX g (l.map smpN) r i (k + 1) = if mis g (k : Int) = true then refX g (l.map smpN) r i k else if btw g mn mx = true then nar (l.map smpN) r i (refX g (l.map smpN) r i k) k else refX g (l.map smpN) r i k := by rw [hmn, hmx]; rfl
    have hn : ∀ x, nar (l.map smpN) r i x (k : Int) = (max x.1 (smpN l[k] - r * ((mx : Int) - mn)), min x.2 (smpN l[k] + r * ((mx : Int) - mn))) := fun x => by
      have hd : max ((i : Int) - k) ((k : Int) - i) = (mx : Int) - mn := by omega
      rw [nar, if_pos (by omega), Int.toNat_natCast, hd]
      simp [List.getD_eq_getElem?_getD, hk]
    have k85 := sixteen85 (n := d + 3) (by omega) (hs l[k] (List.getElem_mem hk))
    have hsm := smpN_bound (hs l[k] (List.getElem_mem hk))
    have hP : ((r * ((mx : Int) - mn)).natAbs : Int) ≤ 16384 * 4096 := mul_abs (by omega) (by omega)
    have w1 := wrap64 (n := (mx : Int) - mn) (by omega) (by omega)
    have w2 := wrap64 (n := r * ((mx : Int) - mn)) (by omega) (by omega)
    have w3 := wrap64 (n := smpN l[k] - r * ((mx : Int) - mn)) (by omega) (by omega)
    have w4 := wrap64 (n := smpN l[k] + r * ((mx : Int) - mn)) (by omega) (by omega)
    simp only [inv, hS, somK_succ, hn]
    generalize refX g (l.map smpN) r i k = x at *
    obtain ⟨p, q⟩ := x
    generalize somK g k = b1 at *
    generalize hx : smpN l[k] = y at *
    generalize hQ : r * ((mx : Int) - mn) = Q at *
    generalize btw g mn mx = bb at *
    clear hS hn hmn hmx
    cases hm : mis g (k : Int) with
    | true =>
      rw [hm] at km
      simp -implicitDefEqProofs [loopS_eq, c69L0, hk, km, w]
    | false =>
      rw [hm] at km
      cases bb with
      | false => simp -implicitDefEqProofs [loopS_eq, c69L0, hk, km, kb, min2, max2, e1, e2, w]
      | true => simp -implicitDefEqProofs [loopS_eq, c69L0, hk, km, kb, k85, min2, max2, e1, e2, w1, w2, w3, w4, hQ, w]
  · simp -implicitDefEqProofs [inv, loopS_eq, c69L0]

theorem outer69 (l : List Nat) (g : List (Int × Int)) (hg : g.length < 1000000) (r : Int) (hl : l.length ≤ 4096) (hs : SmpOk l) (hr : 0 ≤ r ∧ r ≤ 16384) :
    loopN (loopS (evFn F C0 G0 (d + 3)) C0 G0 0 true [0, 1, 2, 8, 9, 10, 11] c69L1) loopFuel ⟨[(0, fsl l), (1, csl g), (2, iv r), (8, .sl 0 0 0 0), (9, .p (.bool false)), (10, .p (.bool false)), (11, .p (.int .i64 0))], [(0, .arr [] 0 2)]⟩ =
    .ret (.exit 0, ⟨[(0, fsl l), (1, csl g), (2, iv r), (8, .sl 0 l.length 0 l.length), (9, .p (.bool (decide (0 < l.length) && somK g l.length))), (10, .p (.bool (apB (fiYs l g r)))), (11, iv l.length), (21, .p (.bool false))], [(0, .arr (cI (fiYs l g r)) l.length 2)]⟩) := by
  have hget : ∀ i (hi : i < l.length), (fiYs l g r)[i]? = some (fiY (mL g l.length) (l.map smpN) r i) := fun i hi => by simp [fiYs, hi]
  have hlen : (fiYs l g r).length = l.length := by simp
  have hin := fun i b0 ap outs v hi => inner69 (d := d) l g hg r i b0 ap outs v hl hs hi hr
  have hmiss : ∀ i, i < l.length → mis g (i : Int) = true → refX g (l.map smpN) r i l.length = fiY (mL g l.length) (l.map smpN) r i := fun i hi hm => refX_eq g _ r i _ hi hm
  have hknown : ∀ i (hi : i < l.length), mis g (i : Int) = false → fiY (mL g l.length) (l.map smpN) r i = (smpN l[i], smpN l[i]) := fun i hi hm => by
    have hgd : (l.map smpN).getD i 0 = smpN l[i] := by simp [List.getD_eq_getElem?_getD, hi]
    have := smpN_bound (hs l[i] (List.getElem_mem hi))
    rw [fiY_known g _ r i _ hi hm (by rw [hgd]; omega), hgd]
  generalize fiYs l g r = ys at *
  generalize l.map smpN = u at *
  let inv : Nat → St := fun i => ⟨[(0, fsl l), (1, csl g), (2, iv r), (8, .sl 0 i 0 i), (9, .p (.bool (decide (0 < i) && somK g l.length))), (10, .p (.bool (apB (ys.take i)))), (11, iv i)], [(0, .arr (cI (ys.take i)) i 2)]⟩
  have htake : ys.take l.length = ys := List.take_of_length_le (by omega)
  refine loop_run' inv l.length (by simp) (by rfl) ?_ ?_ (by simp [loopFuel]; omega)
  · intro i hi
    have hiy : i < ys.length := by omega
    have w := wrap_succ (i := i) (by omega)
    have hlim : i + 1 ≤ lim := by simp only [lim]; omega
    have hY : ys[i] = fiY (mL g l.length) u r i := by
      have := hget i hi
      rw [List.getElem?_eq_getElem hiy] at this
      exact Option.some.inj this
    have km := missing152 (n := d + 3) (by omega) g hg i
    have k85 := sixteen85 (n := d + 3) (by omega) (hs l[i] (List.getElem_mem hi))
    have hti : (ys.take i).length = i := by simp; omega
    have hm2 : (i + 1) * 2 = i * 2 + 2 := by omega
    have hr' : cI (ys.take (i + 1)) = cI (ys.take i) ++ [.int .i64 (fiY (mL g l.length) u r i).1, .int .i64 (fiY (mL g l.length) u r i).2] := by
      rw [List.take_add_one, hget i hi, cI_append]; rfl
    have ha := apB_take ys i hiy
    rw [hY] at ha
    have hk := hin i (decide (0 < i) && somK g l.length) (apB (ys.take i)) (cI (ys.take i)) i hi
    have hb9 : ((decide (0 < i) && somK g l.length) || somK g l.length) = somK g l.length := by cases somK g l.length <;> simp
    have hb9' : (decide (0 < i + 1) && somK g l.length) = somK g l.length := by simp
    rw [hb9] at hk
    have hmi := hmiss i hi
    have hkn := hknown i hi
    simp only [inv, hr', ha, hb9']
    generalize (decide (0 < i) && somK g l.length) = b0 at *
    generalize somK g l.length = b1 at *
    generalize fiY (mL g l.length) u r i = y at *
    generalize refX g u r i l.length = x at *
    generalize apB (ys.take i) = ap at *
    generalize ys.take i = W at *
    obtain ⟨p, q⟩ := y
    obtain ⟨p', q'⟩ := x
    simp only at hk ⊢
    refine ⟨⟨[(0, fsl l), (1, csl g), (2, iv r), (8, .sl 0 (i + 1) 0 (i + 1)), (9, .p (.bool b1)), (10, .p (.bool (ap || decide (q < p)))), (11, iv ((i : Int) + 1))], [(1, .arr [.int .i64 p, .int .i64 q] 0 1), (0, .arr (cI W ++ [.int .i64 p, .int .i64 q]) (i + 1) 2)]⟩, ?_, loopS_same rfl (by simp)⟩
    cases hm : mis g (i : Int) with
    | true =>
      rw [hm] at km
      obtain ⟨rfl, rfl⟩ := Prod.mk.inj (hmi hm)
      cases ap with
      | true => simp -implicitDefEqProofs [loopS_eq, c69L1, hi, hk, km, hlim, hti, w]
      | false => simp -implicitDefEqProofs [loopS_eq, c69L1, hi, hk, km, hlim, hti, w]
    | false =>
      rw [hm] at km
      obtain ⟨rfl, rfl⟩ := Prod.mk.inj (hkn hm)
      generalize hx : smpN l[i] = z at *
      cases ap with
      | true => simp -implicitDefEqProofs [loopS_eq, c69L1, hi, hk, km, k85, hlim, hti, w]
      | false => simp -implicitDefEqProofs [loopS_eq, c69L1, hi, hk, km, k85, hlim, hti, w]
  · simp only [inv, htake]
    simp -implicitDefEqProofs [loopS_eq, c69L1]
end
end Fw
