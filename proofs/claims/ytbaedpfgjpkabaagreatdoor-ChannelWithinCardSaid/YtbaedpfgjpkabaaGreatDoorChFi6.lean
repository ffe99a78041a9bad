/- Filled records: the program's function. -/
import Derived.Test.YtbaedpfgjpkabaaGreatDoorChFi5
set_option maxHeartbeats 8000000
namespace Fw
open Go
attribute [local irreducible] evCode evOps evOpsD evOper evOperD evOp evFn loopN T.All T.bind callPure callOp opsK opsDK restK seqK blockK loopS setK setQ giveK scalK gcK finish finS rfunK yldK yldB loopK

/-- the intervals -/
def fiYs (l : List Nat) (g : List (Int × Int)) (r : Int) : List (Int × Int) := (List.range l.length).map fun i => fiY (mL g l.length) (l.map smpN) r i
@[simp] theorem fiYs_length (l : List Nat) (g : List (Int × Int)) (r : Int) : (fiYs l g r).length = l.length := by simp [fiYs]
def conE (ys : List (Int × Int)) : List Int := ys.map fun y => if y.2 < y.1 then 24 else 0
@[simp] theorem conE_length (ys : List (Int × Int)) : (conE ys).length = ys.length := by simp [conE]
def fiE (l : List Nat) (g : List (Int × Int)) (r : Int) : Int := firstE [smpsE l, gapE g l.length, rangeE 0 16384 r]
theorem fi_of {l : List Nat} {g : List (Int × Int)} {r : Int} (h : fiE l g r = 0) : (l.length ≤ 4096 ∧ SmpOk l) ∧ GapOk g l.length ∧ 0 ≤ r ∧ r ≤ 16384 := by
  have := firstE_zero.1 h
  refine ⟨smps_of (this _ (by simp)), gap_of (this (gapE g l.length) (by simp)), ?_⟩
  have b := this (rangeE 0 16384 r) (by simp)
  simp only [rangeE] at b; split at b
  · cases b
  · omega
/-- the error behind the checks -/
def fiE2 (l : List Nat) (g : List (Int × Int)) (r : Int) : Int := if (mL g l.length).any (!·) = true then firstE (conE (fiYs l g r)) else 12

theorem loop65 {d : Nat} (l : List Nat) (g : List (Int × Int)) (r : Int) (h : fiE l g r = 0) :
    ∃ q, loopN (loopS (evFn F C0 G0 (d + 1)) C0 G0 0 true [2, 9, 13, 14, 61, 62] c65L3) loopFuel ⟨[(2, iv r), (9, .sl 0 0 0 l.length), (13, .p (.sl (pI (l.map smpN)) l.length)), (14, .sl 1 0 0 0), (61, iv l.length), (62, .p (.int .i64 0))], [(1, .arr [] 0 2), (0, .arr (pB (mL g l.length)) 0 1)]⟩ = .ret q ∧
      (firstE (conE (fiYs l g r)) = 0 → q = (.exit 4, ⟨[(2, iv r), (9, .sl 0 0 0 l.length), (13, .p (.sl (pI (l.map smpN)) l.length)), (14, .sl 1 l.length 0 l.length), (61, iv l.length), (62, iv l.length), (63, .p (.bool false))], [(1, .arr (cI (fiYs l g r)) l.length 2), (0, .arr (pB (mL g l.length)) 0 1)]⟩)) ∧
      (firstE (conE (fiYs l g r)) ≠ 0 → q.1 = .ret ∧ q.2.env = [(6, .p .nils), (7, iv (firstE (conE (fiYs l g r))))]) := by
  obtain ⟨⟨ha, hb⟩, hg, hr⟩ := fi_of h
  have h16 : In16 (l.map smpN) := fun x hx => by
    obtain ⟨b, hb', rfl⟩ := List.mem_map.1 hx
    exact smpN_bound (hb b hb')
  have hnear := fun i outs v hi => near65 (d := d) (mL g l.length) (l.map smpN) r i outs v (by simp) hi (by simpa using ha) h16 hr
  have hget : ∀ i (hi : i < l.length), (fiYs l g r)[i]? = some (fiY (mL g l.length) (l.map smpN) r i) := fun i hi => by simp [fiYs, hi]
  have hlen : (fiYs l g r).length = l.length := by simp
  have hul : (l.map smpN).length = l.length := by simp
  simp only [hul, isl] at hnear
  generalize l.map smpN = u at *
  generalize mL g l.length = L at *
  generalize fiYs l g r = ys at *
  let inv : Nat → St := fun i => ⟨[(2, iv r), (9, .sl 0 0 0 l.length), (13, .p (.sl (pI u) l.length)), (14, .sl 1 i 0 i), (61, iv l.length), (62, iv i)], [(1, .arr (cI (ys.take i)) i 2), (0, .arr (pB L) 0 1)]⟩
  have htake : ys.take l.length = ys := List.take_of_length_le (by omega)
  refine loop_errsQ inv (conE ys) _ (fun e q => q.1 = .ret ∧ q.2.env = [(6, .p .nils), (7, iv e)]) (by rfl) ?_ ?_ (by simp) (by simp [loopFuel]; omega)
  · intro i hi
    have hi' : i < l.length := by simpa [hlen] using hi
    have hiy : i < ys.length := by omega
    have w := wrap_succ (i := i) (by omega)
    have hlim : i + 1 ≤ lim := by simp only [lim]; omega
    have hY : ys[i] = fiY L u r i := by
      have := hget i hi'
      rw [List.getElem?_eq_getElem hiy] at this
      exact Option.some.inj this
    have he : (conE ys)[i] = if (fiY L u r i).2 < (fiY L u r i).1 then 24 else 0 := by simp [conE, hY]
    have hk := hnear i (cI (ys.take i)) i hi'
    have hti : (ys.take i).length = i := by simp; omega
    have hm2 : (i + 1) * 2 = i * 2 + 2 := by omega
    have hr' : cI (ys.take (i + 1)) = cI (ys.take i) ++ [.int .i64 (fiY L u r i).1, .int .i64 (fiY L u r i).2] := by
      rw [List.take_add_one, hget i hi', cI_append]; rfl
    rw [he]
    simp only [inv, hr']
    generalize ys.take i = W at *
    generalize fiY L u r i = y at *
    obtain ⟨p, q⟩ := y
    simp only at hk ⊢
    by_cases c : q < p
    · refine ⟨fun he => ?_, fun he => ?_⟩
      · simp [c] at he
      · refine ⟨_, by simp -implicitDefEqProofs [loopS_eq, c65L3, hi', hk, c]; exact rfl, ?_⟩
        simp [c]
    · refine ⟨fun he => ⟨⟨[(2, iv r), (9, .sl 0 0 0 l.length), (13, .p (.sl (pI u) l.length)), (14, .sl 1 (i + 1) 0 (i + 1)), (61, iv l.length), (62, iv ((i : Int) + 1))], [(2, .arr [.int .i64 p, .int .i64 q] 0 1), (1, .arr (cI W ++ [.int .i64 p, .int .i64 q]) (i + 1) 2), (0, .arr (pB L) 0 1)]⟩, ?_, ?_⟩, fun he => ?_⟩
      · simp -implicitDefEqProofs [loopS_eq, c65L3, hi', hk, c, hlim, hti, w]
      · exact loopS_same rfl (by simp)
      · simp [c] at he
  · simp only [conE_length, hlen, inv, htake]
    simp -implicitDefEqProofs [loopS_eq, c65L3]

theorem filled65 {n : Nat} (hn : 6 ≤ n) (l : List Nat) (hl : l.length < 1000000) (g : List (Int × Int)) (hgl : g.length < 1000000) (r : Int) : RUN n 65 [fsl l, csl g, iv r] = .ret (if fiE l g r = 0 then (if fiE2 l g r = 0 then .tup [.own (cI (fiYs l g r)) l.length 2, iv 0] else .tup [.p (.sl [] 0), iv (fiE2 l g r)]) else .tup [.p (.sl [] 0), iv (fiE l g r)]) := by
  obtain ⟨d, rfl⟩ : ∃ d, n = d + 6 := ⟨n - 6, by omega⟩
  rw [RUN, call_eq fe65 _ rfl]
  have k1 := samples122 (n := d + 5) (by omega) l hl
  have k2 := gaps148 (n := d + 5) (by omega) g hgl l.length
  have k3 := within111 (n := d + 5) (by omega) r 0 16384
  have k4 := first103_3 (n := d + 5) (by omega) (smpsE l) (gapE g l.length) (rangeE 0 16384 r)
  have he : firstE [smpsE l, gapE g l.length, rangeE 0 16384 r] = fiE l g r := rfl
  rw [he] at k4
  by_cases z : fiE l g r = 0
  · obtain ⟨⟨ha, hb⟩, hg, hr⟩ := fi_of z
    have hlim : (l.length : Int) ≤ lim := by simp only [lim]; omega
    have hout := flags_out (d := d + 5) l r g l.length hg hl
    have kc := contains149 (n := d + 5) (by omega) (mL g l.length) (by simpa using hl)
    have ku := units115 (n := d + 5) (by omega) hb hl
    rw [isl, List.length_map] at ku
    have h0 : pB (mL [] l.length) = List.replicate l.length (.bool false) := by
      refine List.ext_getElem (by simp) fun j h1 h2 => ?_
      simp [mL, mis]
    rw [h0] at hout
    simp only [bsl, mL_length] at kc
    obtain ⟨q, hq, hok, hbad⟩ := loop65 (d := d + 4) l g r z
    have hlen : (fiYs l g r).length = l.length := by simp
    have hML : (mL g l.length).length = l.length := by simp
    rw [if_pos z]
    rw [z] at k4
    unfold fiE2
    generalize l.map smpN = u at *
    generalize mL g l.length = L at *
    generalize fiYs l g r = ys at *
    generalize smpsE l = E1 at *
    generalize gapE g l.length = E2 at *
    generalize rangeE 0 16384 r = E3 at *
    by_cases y : L.any (!·) = true
    · rw [if_pos y]
      by_cases c : firstE (conE ys) = 0
      · have := hok c
        subst this
        rw [if_pos c]
        simp -implicitDefEqProofs [c65, k1, k2, k3, k4, hlim, hout, kc, y, ku, hq, hlen, hML]
      · obtain ⟨b1, b2⟩ := hbad c
        obtain ⟨e, env, sto⟩ := q
        simp only at b1 b2
        subst b1 b2
        rw [if_neg c]
        simp -implicitDefEqProofs [c65, k1, k2, k3, k4, hlim, hout, kc, y, ku, hq, hML]
    · rw [if_neg y, if_neg (by decide)]
      have y' : L.any (!·) = false := by simpa using y
      simp -implicitDefEqProofs [c65, k1, k2, k3, k4, hlim, hout, kc, y', hML]
  · rw [if_neg z]
    generalize fiE l g r = E at *
    simp -implicitDefEqProofs [c65, k1, k2, k3, k4, z]
end Fw
