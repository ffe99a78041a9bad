/- What is true of channels: the two loops. -/
import Derived.Test.YtbaedpfgjpkabaaGreatDoorChTr1
import Derived.Test.YtbaedpfgjpkabaaGreatDoorChTr2
set_option maxHeartbeats 8000000
namespace Fw
open Go
attribute [local irreducible] evCode evOps evOpsD evOper evOperD evOp evFn loopN T.All T.bind callPure callOp opsK opsDK restK seqK blockK loopS setK setQ giveK scalK gcK finish finS rfunK yldK yldB loopK

def p16 (l : List Int) : List PVal := l.map (.int .i16)
@[simp] theorem p16_length (l : List Int) : (p16 l).length = l.length := by simp [p16]
@[simp] theorem p16_get (l : List Int) (i : Nat) : (p16 l)[i]? = (l[i]?).map (.int .i16) := by simp [p16]
@[simp] theorem p16_getElem (l : List Int) (i : Nat) (h : i < (p16 l).length) : (p16 l)[i] = .int .i16 (l[i]'(by simpa using h)) := by simp [p16]
abbrev l16 (l : List Int) : AVal := .p (.sl (p16 l) l.length)
/-- the integers of the samples -/
def truO (l : List Int) : List Int := l.map fun n => n.tmod 16385
@[simp] theorem truO_length (l : List Int) : (truO l).length = l.length := by simp [truO]
theorem tmod_in (n m : Int) (hm : 0 < m) : -m < n.tmod m ∧ n.tmod m < m := by
  have h1 := Int.tmod_lt_of_pos n hm
  have h2 := Int.tmod_lt_of_pos (-n) hm
  rw [Int.neg_tmod] at h2
  omega
theorem truO_in (l : List Int) : In16 (truO l) := by
  intro x hx
  obtain ⟨n, _, rfl⟩ := List.mem_map.1 hx
  have := tmod_in n 16385 (by decide)
  omega
def truF (l : List Int) : List Nat := (truO l).map smpF
@[simp] theorem truF_length (l : List Int) : (truF l).length = l.length := by simp [truF]

section
variable {d : Nat}
theorem loop10a (l : List Int) (hl : l.length ≤ 20) (hb : ∀ n ∈ l, -32768 ≤ n ∧ n ≤ 32767) (o0 o1 : Obj) :
    loopN (loopS (evFn F C0 G0 (d + 1)) C0 G0 0 false [3, 5, 7, 65, 66, 67] c10L0) loopFuel ⟨[(3, .ptr 0 0 0), (5, .ptr 1 0 0), (7, .sl 2 0 0 0), (65, l16 l), (66, iv l.length), (67, .p (.int .i64 0))], [(2, .arr [] 0 1), (1, o1), (0, o0)]⟩ =
    .ret (.exit 0, ⟨[(3, .ptr 0 0 0), (5, .ptr 1 0 0), (7, .sl 2 l.length 0 l.length), (65, l16 l), (66, iv l.length), (67, iv l.length), (68, .p (.bool false))], [(2, .arr (pF (truF l)) l.length 1), (1, o1), (0, o0)]⟩) := by
  let inv : Nat → St := fun i => ⟨[(3, .ptr 0 0 0), (5, .ptr 1 0 0), (7, .sl 2 i 0 i), (65, l16 l), (66, iv l.length), (67, iv i)], [(2, .arr (pF ((truF l).take i)) i 1), (1, o1), (0, o0)]⟩
  have htake : (truF l).take l.length = truF l := List.take_of_length_le (by simp)
  refine loop_run inv l.length (by simp) (by rfl) ?_ ?_ (by simp [loopFuel]; omega)
  · intro i hi
    have w := wrap_succ (i := i) (by omega)
    have hlim : i + 1 ≤ lim := by simp only [lim]; omega
    have hb' := hb l[i] (List.getElem_mem hi)
    have w1 := wrap64 (n := l[i]) (by omega) (by omega)
    have hm := tmod_in l[i] 16385 (by decide)
    have k := sample83 (n := d + 1) (by omega) (x := l[i].tmod 16385) (by omega) (by omega)
    have w2 := wrap64 (n := l[i].tmod 16385) (by omega) (by omega)
    have hr : pF ((truF l).take (i + 1)) = pF ((truF l).take i) ++ [.flt .f32 (smpF (l[i].tmod 16385))] := by
      rw [List.take_add_one]
      have : (truF l)[i]? = some (smpF (l[i].tmod 16385)) := by simp [truF, truO, hi]
      rw [this]; simp [pF]
    have hti : ((truF l).take i).length = i := by simp; omega
    simp only [inv, hr]
    generalize (truF l).take i = R at *
    generalize hx : l[i] = x at *
    generalize hy : x.tmod 16385 = y at *
    simp -implicitDefEqProofs [loopS_eq, c10L0, hi, hx, hy, k, w, w1, hlim, hti]
  · simp only [inv, htake]
    simp -implicitDefEqProofs [loopS_eq, c10L0]

theorem loop10b {s : SenI} (hs : SenOk s) (all : List Nat) (ha : SmpOk all) (hal : all.length ≤ 20) (z oL oH off se : Int) (hz : ∀ i (hi : i < all.length), (i : Int) < z → oL ≤ smpN all[i] ∧ smpN all[i] ≤ oH) (hL : -16384 ≤ oL) (hH : oH ≤ 16384) (h1 : oL ≤ off) (h2 : off ≤ oH) (h3 : s.lo ≤ se) (h4 : se ≤ s.hi) (pl : List UInt8) (ax sg n0 n1 n2 at' by' : Int) :
    loopN (loopS (evFn F C0 G0 (d + 1)) C0 G0 0 true [3, 5, 7, 10, 11, 15, 16, 151, 152, 153] c10L1) loopFuel ⟨[(3, .ptr 0 0 0), (5, .ptr 1 0 0), (7, .sl 2 all.length 0 all.length), (10, iv z), (11, .ptr 3 0 0), (15, iv off), (16, iv se), (151, .p (.sl (rowC vc ((all.map smpN).map (valO s oL oH))) all.length)), (152, iv all.length), (153, .p (.int .i64 0))], [(3, .arr [.int .i64 oL, .int .i64 oH] 0 1), (2, .frz (pF all) all.length 1), (1, .arr [.str pl, .int .i64 ax, .int .i64 sg, .int .u16 n0, .int .u16 n1, .int .u16 n2, .int .u8 at', .int .u8 by'] 0 1), (0, .arr [.str s.name, .int .i64 s.scale, .int .i64 s.lo, .int .i64 s.hi] 0 1)]⟩ =
    .ret (.exit 2, ⟨[(3, .ptr 0 0 0), (5, .ptr 1 0 0), (7, .sl 2 all.length 0 all.length), (10, iv z), (11, .ptr 3 0 0), (15, iv off), (16, iv se), (151, .p (.sl (rowC vc ((all.map smpN).map (valO s oL oH))) all.length)), (152, iv all.length), (153, iv all.length), (154, .p (.bool false))], [(3, .arr [.int .i64 oL, .int .i64 oH] 0 1), (2, .frz (pF all) all.length 1), (1, .arr [.str pl, .int .i64 ax, .int .i64 sg, .int .u16 n0, .int .u16 n1, .int .u16 n2, .int .u8 at', .int .u8 by'] 0 1), (0, .arr [.str s.name, .int .i64 s.scale, .int .i64 s.lo, .int .i64 s.hi] 0 1)]⟩) := by
  let inv : Nat → St := fun i => ⟨[(3, .ptr 0 0 0), (5, .ptr 1 0 0), (7, .sl 2 all.length 0 all.length), (10, iv z), (11, .ptr 3 0 0), (15, iv off), (16, iv se), (151, .p (.sl (rowC vc ((all.map smpN).map (valO s oL oH))) all.length)), (152, iv all.length), (153, iv i)], [(3, .arr [.int .i64 oL, .int .i64 oH] 0 1), (2, .frz (pF all) all.length 1), (1, .arr [.str pl, .int .i64 ax, .int .i64 sg, .int .u16 n0, .int .u16 n1, .int .u16 n2, .int .u8 at', .int .u8 by'] 0 1), (0, .arr [.str s.name, .int .i64 s.scale, .int .i64 s.lo, .int .i64 s.hi] 0 1)]⟩
  have hlen : ((all.map smpN).map (valO s oL oH)).length = all.length := by simp
  have hR := vR_len ((all.map smpN).map (valO s oL oH))
  rw [hlen] at hR
  refine loop_run' inv all.length (by simp) (by rfl) ?_ ?_ (by simp [loopFuel]; omega)
  · intro i hi
    have w := wrap_succ (i := i) (by omega)
    have hsm := smpN_bound (ha all[i] (List.getElem_mem hi))
    have k := sixteen85 (n := d + 1) (by omega) (ha all[i] (List.getElem_mem hi))
    have hz' := hz i hi
    have hv := val_in hs (x := smpN all[i]) h1 h2 h3 h4
    have hlt : i * 4 < all.length * 4 := by omega
    have hiv : i < ((all.map smpN).map (valO s oL oH)).length := by omega
    have hdr := rowC_drop vc_len ((all.map smpN).map (valO s oL oH)) i hiv
    have hgi : ((all.map smpN).map (valO s oL oH))[i] = valO s oL oH (smpN all[i]) := by simp
    rw [hgi] at hdr
    have hov : (valO s oL oH (smpN all[i])).over = decide (s.scale ≤ smpN all[i]) := rfl
    have hun : (valO s oL oH (smpN all[i])).under = decide (smpN all[i] ≤ -s.scale) := rfl
    have l0 := hs.l0
    have l1 := hs.l1
    have l2 := hs.l2
    have s0 := hs.s0
    have s1 := hs.s1
    obtain ⟨m1, m2, m3, m4⟩ := minmax_bound (p := smpN all[i] - oH) (q := smpN all[i] - oL) (a := s.lo) (b := s.hi) (by omega) (by omega) (by omega) (by omega)
    have hlo : (valO s oL oH (smpN all[i])).low = min4 (smpN all[i] - oH) (smpN all[i] - oL) s.lo s.hi / 1000 := rfl
    have hhi : (valO s oL oH (smpN all[i])).high = upQ (max4 (smpN all[i] - oH) (smpN all[i] - oL) s.lo s.hi) 1000 := rfl
    have b1 : -1000000000000 ≤ 1000 * (valO s oL oH (smpN all[i])).low := by rw [hlo]; omega
    have b2 : 1000 * (valO s oL oH (smpN all[i])).high ≤ 1000000000000 := by rw [hhi]; unfold upQ; omega
    clear m1 m2 m3 m4 hlo hhi
    simp only [inv]
    generalize valO s oL oH (smpN all[i]) = v at *
    generalize hA : rowC vc ((all.map smpN).map (valO s oL oH)) = A at *
    generalize rowC vc (((all.map smpN).map (valO s oL oH)).drop (i + 1)) = R2 at *
    generalize hb : all[i] = b at *
    generalize smpN b = x at *
    have hP : (((x - off) * se).natAbs : Int) ≤ 100000 * 4000 := mul_abs (by omega) (by omega)
    have w1 := wrap64 (n := x - off) (by omega) (by omega)
    have w2 := wrap64 (n := (x - off) * se) (by omega) (by omega)
    obtain ⟨nm, sc, sl, sh⟩ := s
    obtain ⟨vl, vh, vu, vo⟩ := v
    simp only at hov hun b1 b2 hv s0 s1 h3 h4
    subst hov hun
    generalize hQ : (x - off) * se = P at *
    have w3 := wrap64 (n := 1000 * vl) (by omega) (by omega)
    have w4 := wrap64 (n := 1000 * vh) (by omega) (by omega)
    have w5 := wrap64 (n := -sc) (by omega) (by omega)
    have c1 : ¬ P < 1000 * vl := by omega
    have c2 : ¬ 1000 * vh < P := by omega
    refine ⟨?_, ?h1, ?h2⟩
    case h1 =>
      by_cases cz : (i : Int) < z
      · obtain ⟨y1, y2⟩ := hz' cz
        have c3 : ¬ x < oL := by omega
        have c4 : ¬ oH < x := by omega
        simp -implicitDefEqProofs [loopS_eq, c10L1, hi, hb, hR, hlt, hdr, vc, k, cz, c3, c4, hQ, w1, w2, w3, w4, w5, c1, c2, w]
        exact rfl
      · simp -implicitDefEqProofs [loopS_eq, c10L1, hi, hb, hR, hlt, hdr, vc, k, cz, hQ, w1, w2, w3, w4, w5, c1, c2, w]
    case h2 => exact loopS_same rfl (by simp)
  · simp -implicitDefEqProofs [inv, loopS_eq, c10L1]
end
end Fw
