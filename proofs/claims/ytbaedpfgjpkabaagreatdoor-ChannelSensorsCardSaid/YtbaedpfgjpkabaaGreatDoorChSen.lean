/- The law of sensors, at any input. -/
import Derived.Test.YtbaedpfgjpkabaaGreatDoorChSe2
set_option maxHeartbeats 16000000
namespace Fw
open Go
attribute [local irreducible] evCode evOps evOpsD evOper evOperD evOp evFn loopN T.All T.bind callPure callOp opsK opsDK restK seqK blockK loopS setK setQ giveK scalK gcK finish finS rfunK yldK yldB loopK

/-- the next number of a loop from a least to a greatest one, by their difference -/
def nxE (lo hi : Int) : Int := if lo < hi then hi + (hi - lo) else lo + 1

def S32 (s : SenI) (oL oH : Int) (outs : List PVal) (v : Nat) : Sto := [(2, .arr outs v 4), (1, .arr [.int .i64 oL, .int .i64 oH] 0 1), (0, .arr [.str s.name, .int .i64 s.scale, .int .i64 s.lo, .int .i64 s.hi] 0 1)]
def E32 (l : List Nat) (v i : Nat) (x lo hi a : Int) : Env := [(1, fsl l), (3, .ptr 0 0 0), (7, .ptr 1 0 0), (8, .sl 2 v 0 v), (9, iv i), (10, iv x), (11, iv lo), (12, iv hi), (13, iv a)]

section
variable {d : Nat}
theorem inner32 {s : SenI} (hs : SenOk s) (l : List Nat) (v i : Nat) (outs : List PVal) (oL oH x low high a : Int) (hx : ((x - a).natAbs : Int) ≤ 100000) (fuel : Nat) (hf : 2 < fuel) :
    loopN (loopS (evFn F C0 G0 (d + 1)) C0 G0 0 false [1, 3, 7, 8, 9, 10, 11, 12, 13, 14] c32L0) fuel ⟨E32 l v i x low high a ++ [(14, iv s.lo)], S32 s oL oH outs v⟩ =
    .ret (.exit 4, ⟨E32 l v i x (min (min low ((x - a) * s.lo)) ((x - a) * s.hi)) (max (max high ((x - a) * s.lo)) ((x - a) * s.hi)) a ++ [(14, iv (nxE s.lo s.hi)), (66, .p (.bool false))], S32 s oL oH outs v⟩) := by
  obtain ⟨nm, sc, lo, hi⟩ := s
  have l0 := hs.l0
  have l1 := hs.l1
  have l2 := hs.l2
  simp only at l0 l1 l2
  have b1 : (((x - a) * lo).natAbs : Int) ≤ 100000 * 4000 := mul_abs hx (by omega)
  have b2 : (((x - a) * hi).natAbs : Int) ≤ 100000 * 4000 := mul_abs hx (by omega)
  have wx := wrap64 (n := x - a) (by omega) (by omega)
  have wp := wrap64 (n := (x - a) * lo) (by omega) (by omega)
  have wq := wrap64 (n := (x - a) * hi) (by omega) (by omega)
  have wd := wrap64 (n := hi - lo) (by omega) (by omega)
  by_cases c : lo < hi
  · have hm : max 1 (hi - lo) = hi - lo := by omega
    have w1 : IntKind.i64.wrap (lo + (hi - lo)) = hi := by rw [show lo + (hi - lo) = hi by omega]; exact wrap64 (by omega) (by omega)
    have w2 := wrap64 (n := hi + (hi - lo)) (by omega) (by omega)
    have hnx : nxE lo hi = hi + (hi - lo) := by rw [nxE, if_pos c]
    simp only [hnx]
    generalize hp : (x - a) * lo = P at *
    generalize hq : (x - a) * hi = Q at *
    let inv : Nat → St := fun k => ⟨E32 l v i x (if k = 0 then low else if k = 1 then min low P else min (min low P) Q) (if k = 0 then high else if k = 1 then max high P else max (max high P) Q) a ++ [(14, iv (if k = 0 then lo else if k = 1 then hi else hi + (hi - lo)))], S32 ⟨nm, sc, lo, hi⟩ oL oH outs v⟩
    refine loop_run inv 2 (by simp) (by rfl) ?_ ?_ hf
    · intro k hk
      have hlo : lo ≤ hi := l1
      obtain h | h : k = 0 ∨ k = 1 := by omega
      · subst h
        simp -implicitDefEqProofs [inv, E32, S32, loopS_eq, c32L0, hlo, wx, hp, wp, wd, hm, w1, max2, min2]
      · subst h
        simp -implicitDefEqProofs [inv, E32, S32, loopS_eq, c32L0, wx, hq, wq, wd, hm, w2, max2, min2]
    · have hn : ¬ hi + (hi - lo) ≤ hi := by omega
      simp -implicitDefEqProofs [inv, E32, S32, loopS_eq, c32L0, hn]
  · have he : lo = hi := by omega
    subst he
    have hz : lo - lo = 0 := by omega
    have hm : max (1 : Int) 0 = 1 := by decide
    have w1 := wrap64 (n := lo + 1) (by omega) (by omega)
    have hnx : nxE lo lo = lo + 1 := by rw [nxE, if_neg c]
    simp only [hnx]
    rw [hz] at wd
    generalize hp : (x - a) * lo = P at *
    have e1 : min (min low P) P = min low P := by omega
    have e2 : max (max high P) P = max high P := by omega
    rw [e1, e2]
    let inv : Nat → St := fun k => ⟨E32 l v i x (if k = 0 then low else min low P) (if k = 0 then high else max high P) a ++ [(14, iv (if k = 0 then lo else lo + 1))], S32 ⟨nm, sc, lo, lo⟩ oL oH outs v⟩
    refine loop_run inv 1 (by simp) (by rfl) ?_ ?_ (by omega)
    · intro k hk
      obtain rfl : k = 0 := by omega
      simp -implicitDefEqProofs [inv, E32, S32, loopS_eq, c32L0, wx, hp, wp, hz, wd, hm, w1, max2, min2]
    · have hn : ¬ lo + 1 ≤ lo := by omega
      simp -implicitDefEqProofs [inv, E32, S32, loopS_eq, c32L0, hn]

def lo4 (low x oL oH a b : Int) : Int := min (min (min (min low ((x - oL) * a)) ((x - oL) * b)) ((x - oH) * a)) ((x - oH) * b)
def hi4 (high x oL oH a b : Int) : Int := max (max (max (max high ((x - oL) * a)) ((x - oL) * b)) ((x - oH) * a)) ((x - oH) * b)

theorem outer32 {s : SenI} (hs : SenOk s) (l : List Nat) (v i : Nat) (outs : List PVal) {oL oH x : Int} (low high : Int) (h1 : -16384 ≤ oL) (h2 : oL ≤ oH) (h3 : oH ≤ 16384) (hx1 : -16384 ≤ x) (hx2 : x ≤ 16384) (fuel : Nat) (hf : 2 < fuel) :
    loopN (loopS (evFn F C0 G0 (d + 1)) C0 G0 0 false [1, 3, 7, 8, 9, 10, 11, 12, 13] c32L1) fuel ⟨E32 l v i x low high oL, S32 s oL oH outs v⟩ =
    .ret (.exit 2, ⟨E32 l v i x (lo4 low x oL oH s.lo s.hi) (hi4 high x oL oH s.lo s.hi) (nxE oL oH) ++ [(50, .p (.bool false))], S32 s oL oH outs v⟩) := by
  have hin := fun a lo hi (hb : ((x - a).natAbs : Int) ≤ 100000) => inner32 (d := d) hs l v i outs oL oH x lo hi a hb loopFuel (by simp [loopFuel])
  obtain ⟨nm, sc, sl, sh⟩ := s
  have wd := wrap64 (n := oH - oL) (by omega) (by omega)
  unfold lo4 hi4
  by_cases c : oL < oH
  · have hm : max 1 (oH - oL) = oH - oL := by omega
    have w1 : IntKind.i64.wrap (oL + (oH - oL)) = oH := by rw [show oL + (oH - oL) = oH by omega]; exact wrap64 (by omega) (by omega)
    have w2 := wrap64 (n := oH + (oH - oL)) (by omega) (by omega)
    have hnx : nxE oL oH = oH + (oH - oL) := by rw [nxE, if_pos c]
    have i1 := hin oL low high (by omega)
    have i2 := hin oH (min (min low ((x - oL) * sl)) ((x - oL) * sh)) (max (max high ((x - oL) * sl)) ((x - oL) * sh)) (by omega)
    simp only [hnx]
    simp only at i1 i2
    generalize hA : min (min low ((x - oL) * sl)) ((x - oL) * sh) = A at *
    generalize hB : max (max high ((x - oL) * sl)) ((x - oL) * sh) = B at *
    generalize hA2 : min (min A ((x - oH) * sl)) ((x - oH) * sh) = A2 at *
    generalize hB2 : max (max B ((x - oH) * sl)) ((x - oH) * sh) = B2 at *
    let inv : Nat → St := fun k => ⟨E32 l v i x (if k = 0 then low else if k = 1 then A else A2) (if k = 0 then high else if k = 1 then B else B2) (if k = 0 then oL else if k = 1 then oH else oH + (oH - oL)), S32 ⟨nm, sc, sl, sh⟩ oL oH outs v⟩
    simp only [E32, S32, List.cons_append, List.nil_append] at i1 i2
    refine loop_run inv 2 (by simp) (by rfl) ?_ ?_ hf
    · intro k hk
      obtain h | h : k = 0 ∨ k = 1 := by omega
      · subst h
        simp -implicitDefEqProofs [inv, E32, S32, loopS_eq, c32L1, h2, i1, wd, hm, w1, max2]
      · subst h
        simp -implicitDefEqProofs [inv, E32, S32, loopS_eq, c32L1, i2, wd, hm, w2, max2]
    · have hn : ¬ oH + (oH - oL) ≤ oH := by omega
      simp -implicitDefEqProofs [inv, E32, S32, loopS_eq, c32L1, hn]
  · have he : oL = oH := by omega
    subst he
    have hz : oL - oL = 0 := by omega
    have hm : max (1 : Int) 0 = 1 := by decide
    have w1 := wrap64 (n := oL + 1) (by omega) (by omega)
    have hnx : nxE oL oL = oL + 1 := by rw [nxE, if_neg c]
    have i1 := hin oL low high (by omega)
    rw [hz] at wd
    simp only [hnx]
    simp only at i1
    have e1 : min (min (min (min low ((x - oL) * sl)) ((x - oL) * sh)) ((x - oL) * sl)) ((x - oL) * sh) = min (min low ((x - oL) * sl)) ((x - oL) * sh) := by omega
    have e2 : max (max (max (max high ((x - oL) * sl)) ((x - oL) * sh)) ((x - oL) * sl)) ((x - oL) * sh) = max (max high ((x - oL) * sl)) ((x - oL) * sh) := by omega
    rw [e1, e2]
    generalize min (min low ((x - oL) * sl)) ((x - oL) * sh) = A at *
    generalize max (max high ((x - oL) * sl)) ((x - oL) * sh) = B at *
    let inv : Nat → St := fun k => ⟨E32 l v i x (if k = 0 then low else A) (if k = 0 then high else B) (if k = 0 then oL else oL + 1), S32 ⟨nm, sc, sl, sh⟩ oL oL outs v⟩
    simp only [E32, S32, List.cons_append, List.nil_append] at i1
    refine loop_run inv 1 (by simp) (by rfl) ?_ ?_ (by omega)
    · intro k hk
      obtain rfl : k = 0 := by omega
      simp -implicitDefEqProofs [inv, E32, S32, loopS_eq, c32L1, i1, hz, wd, hm, w1, max2]
    · have hn : ¬ oL + 1 ≤ oL := by omega
      simp -implicitDefEqProofs [inv, E32, S32, loopS_eq, c32L1, hn]
end

theorem lo4_eq (x oL oH a b : Int) : lo4 ((x - oL) * a) x oL oH a b = min4 (x - oH) (x - oL) a b ∧ hi4 ((x - oL) * a) x oL oH a b = max4 (x - oH) (x - oL) a b := by
  simp only [lo4, hi4, min4, max4]
  omega

theorem converted32 {n : Nat} (hn : 5 ≤ n) {s : SenI} {l : List Nat} {z : Int} (h : cvE s l z = 0) : RUN n 32 [sea s, fsl l, iv z] = .ret (.own (rowC vc (valsO s l z)) l.length 4) := by
  obtain ⟨d, rfl⟩ : ∃ d, n = d + 5 := ⟨n - 5, by omega⟩
  rw [RUN, call_eq fe32 _ rfl]
  obtain ⟨e1, e2⟩ := cv_of h
  have hs := sen_of e1
  obtain ⟨⟨la, lb⟩, z0, z1, z2⟩ := ze_of e2
  obtain ⟨o1, o2, o3⟩ := off_in e2
  have k4 := offset31 (n := d + 4) (by omega) e2
  have hlen : (valsO s l z).length = l.length := by simp [valsO]
  have hget : ∀ i (hi : i < l.length), (valsO s l z)[i]? = some (valO s (offL l z) (offH l z) (smpN l[i])) := fun i hi => by simp [valsO, hi]
  have hR := vR_len (valsO s l z)
  rw [hlen] at hR
  generalize valsO s l z = R at *
  generalize offL l z = oL at *
  generalize offH l z = oH at *
  let inv : Nat → St := fun i => ⟨[(1, fsl l), (3, .ptr 0 0 0), (7, .ptr 1 0 0), (8, .sl 2 i 0 i), (9, iv i)], S32 s oL oH (rowC vc (R.take i)) i⟩
  have htake : R.take l.length = R := List.take_of_length_le (by omega)
  have hS := hs
  obtain ⟨nm, sc, sl, sh⟩ := s
  have s0 := hs.s0
  have s1 := hs.s1
  have l0 := hs.l0
  have l1 := hs.l1
  have l2 := hs.l2
  simp only at s0 s1 l0 l1 l2
  simp -implicitDefEqProofs [c32, k4]
  rw [loop_run inv l.length (e := .exit 0) (st' := ⟨(inv l.length).env ++ [(21, .p (.bool false))], (inv l.length).sto⟩) (by simp)]
  · simp -implicitDefEqProofs [inv, S32, htake, hR]
  · rfl
  · intro i hi
    have hlim : i + 1 ≤ lim := by simp only [lim]; omega
    have wi := wrap_succ (i := i) (by omega)
    have hsm := smpN_bound (lb l[i] (List.getElem_mem hi))
    have ku := sixteen85 (n := d + 4) (by omega) (lb l[i] (List.getElem_mem hi))
    have hiR : i < R.length := by omega
    have hg : R[i] = valO ⟨nm, sc, sl, sh⟩ oL oH (smpN l[i]) := by
      have := hget i hi
      rw [List.getElem?_eq_getElem hiR] at this
      exact Option.some.inj this
    have hti : (R.take i).length = i := by simp; omega
    have hln := vR_len (R.take i)
    rw [hti] at hln
    have hr : rowC vc (R.take (i + 1)) = rowC vc (R.take i) ++ vc (valO ⟨nm, sc, sl, sh⟩ oL oH (smpN l[i])) := by
      rw [rowC_take _ _ hiR, hg]
    have hm4 : (i + 1) * 4 = i * 4 + 4 := by omega
    simp only [inv, hr]
    generalize smpN l[i] = x at *
    generalize rowC vc (R.take i) = R' at *
    have ho := outer32 (d := d + 3) hS l i i R' ((x - oL) * sl) ((x - oL) * sl) o1 o2 o3 hsm.1 hsm.2 loopFuel (by simp [loopFuel])
    obtain ⟨q1, q2⟩ := lo4_eq x oL oH sl sh
    simp only [q1, q2] at ho
    obtain ⟨m1, m2, m3, m4⟩ := minmax_bound (p := x - oH) (q := x - oL) (a := sl) (b := sh) (by omega) (by omega) (by omega) (by omega)
    have bx : (((x - oL) * sl).natAbs : Int) ≤ 100000 * 4000 := mul_abs (by omega) (by omega)
    have w1 := wrap64 (n := x - oL) (by omega) (by omega)
    have w2 := wrap64 (n := (x - oL) * sl) (by omega) (by omega)
    have w3 := wrap64 (n := -sc) (by omega) (by omega)
    unfold valO
    simp only
    generalize hP : (x - oL) * sl = P at *
    generalize min4 (x - oH) (x - oL) sl sh = lo at *
    generalize max4 (x - oH) (x - oL) sl sh = hi' at *
    have kf := floor119g (n := d + 4) (by omega) lo 1000 (by decide) (by omega) (by omega)
    have kc := ceil120g (n := d + 4) (by omega) hi' 1000 (by decide) (by omega) (by omega)
    generalize lo / 1000 = lq at *
    generalize upQ hi' 1000 = hq at *
    simp only [E32, S32, List.cons_append, List.nil_append] at ho
    simp -implicitDefEqProofs [S32, loopS_eq, c32L2, hi, ku, w1, hP, w2, w3, ho, kf, kc, hlim, hln, wi, vc]
  · simp -implicitDefEqProofs [inv, S32, loopS_eq, c32L2]
  · simp [loopFuel]; omega

/-! the shunt check -/
def shE (s : SenI) (e m : Int) : Int := firstE [senE s, rangeE 1 16384 e, rangeE 1 16384 m]
def shB (s : SenI) (e m : Int) : Bool := decide (m * s.lo / 1000 ≤ e) && decide (e ≤ upQ (m * s.hi) 1000)
theorem sh_of {s : SenI} {e m : Int} (h : shE s e m = 0) : SenOk s ∧ (1 ≤ e ∧ e ≤ 16384) ∧ 1 ≤ m ∧ m ≤ 16384 := by
  have h' := firstE_zero.1 h
  have a := h' (senE s) (by simp)
  have b := h' (rangeE 1 16384 e) (by simp)
  have c := h' (rangeE 1 16384 m) (by simp)
  refine ⟨sen_of a, ?_, ?_⟩
  · simp only [rangeE] at b; split at b
    · cases b
    · omega
  · simp only [rangeE] at c; split at c
    · cases c
    · omega
theorem shunted26 {n : Nat} (hn : 5 ≤ n) (s : SenI) (hnl : s.name.length ≤ 9223372036854775807) (e m : Int) : RUN n 26 [sea s, iv e, iv m] = .ret (if shE s e m = 0 then .tup [.p (.bool (shB s e m)), iv 0] else .tup [.p (.bool false), iv (shE s e m)]) := by
  obtain ⟨d, rfl⟩ : ∃ d, n = d + 5 := ⟨n - 5, by omega⟩
  rw [RUN, call_eq fe26 _ rfl]
  have k1 := sensor34 (n := d + 4) (by omega) s hnl
  have k2 := within111 (n := d + 4) (by omega) e 1 16384
  have k3 := within111 (n := d + 4) (by omega) m 1 16384
  have k4 := first103_3 (n := d + 4) (by omega) (senE s) (rangeE 1 16384 e) (rangeE 1 16384 m)
  have he : firstE [senE s, rangeE 1 16384 e, rangeE 1 16384 m] = shE s e m := rfl
  rw [he] at k4
  generalize senE s = E1 at *
  generalize rangeE 1 16384 e = E2 at *
  generalize rangeE 1 16384 m = E3 at *
  by_cases z : shE s e m = 0
  · obtain ⟨hs, he', hm⟩ := sh_of z
    have l0 := hs.l0
    have l1 := hs.l1
    have l2 := hs.l2
    rw [if_pos z]
    rw [z] at k4
    unfold shB
    obtain ⟨nm, sc, sl, sh⟩ := s
    simp only at l0 l1 l2
    have b1 : ((m * sl).natAbs : Int) ≤ 16384 * 4000 := mul_abs (by omega) (by omega)
    have b2 : ((m * sh).natAbs : Int) ≤ 16384 * 4000 := mul_abs (by omega) (by omega)
    have w1 := wrap64 (n := m * sl) (by omega) (by omega)
    have w2 := wrap64 (n := m * sh) (by omega) (by omega)
    simp only
    generalize hP : m * sl = P at *
    generalize hQ : m * sh = Q at *
    have kd := down268 (n := d + 4) (by omega) P (by omega) (by omega)
    have ku := up269r (n := d + 4) (by omega) Q (by omega) (by omega)
    generalize P / 1000 = p at *
    generalize upQ Q 1000 = q at *
    by_cases c : p ≤ e
    · simp -implicitDefEqProofs [c26, G0, g2, g3, k1, k2, k3, k4, hP, hQ, w1, w2, kd, ku, c]
    · simp -implicitDefEqProofs [c26, G0, g2, k1, k2, k3, k4, hP, w1, kd, c]
  · rw [if_neg z]
    generalize shE s e m = E at *
    obtain ⟨nm, sc, sl, sh⟩ := s
    simp -implicitDefEqProofs [c26, k1, k2, k3, k4, z]
theorem shunted33 {n : Nat} (hn : 4 ≤ n) {s : SenI} {e m : Int} (h : shE s e m = 0) : RUN n 33 [sea s, iv e, iv m] = .ret (.p (.bool (shB s e m))) := by
  obtain ⟨d, rfl⟩ : ∃ d, n = d + 4 := ⟨n - 4, by omega⟩
  rw [RUN, call_eq fe33 _ rfl]
  obtain ⟨hs, he', hm⟩ := sh_of h
  have l0 := hs.l0
  have l1 := hs.l1
  have l2 := hs.l2
  unfold shB
  obtain ⟨nm, sc, sl, sh⟩ := s
  simp only at l0 l1 l2
  have b1 : ((m * sl).natAbs : Int) ≤ 16384 * 4000 := mul_abs (by omega) (by omega)
  have b2 : ((m * sh).natAbs : Int) ≤ 16384 * 4000 := mul_abs (by omega) (by omega)
  have w1 := wrap64 (n := m * sl) (by omega) (by omega)
  have w2 := wrap64 (n := m * sh) (by omega) (by omega)
  simp only
  generalize hP : m * sl = P at *
  generalize hQ : m * sh = Q at *
  have kd := floor119g (n := d + 3) (by omega) P 1000 (by decide) (by omega) (by omega)
  have ku := ceil120g (n := d + 3) (by omega) Q 1000 (by decide) (by omega) (by omega)
  generalize P / 1000 = p at *
  generalize upQ Q 1000 = q at *
  by_cases c : p ≤ e
  · simp -implicitDefEqProofs [c33, hP, hQ, w1, w2, kd, ku, c]
  · simp -implicitDefEqProofs [c33, hP, w1, kd, c]

/-! lists of values -/
theorem told36 {n : Nat} (hn : 1 ≤ n) (l : List ValI) (hl : l.length < 1000000) : RUN n 36 [vsl l] = .ret (.own (rowC vc l) l.length 4) := by
  obtain ⟨d, rfl⟩ : ∃ d, n = d + 1 := ⟨n - 1, by omega⟩
  rw [RUN, call_eq fe36 _ rfl]
  let inv : Nat → St := fun i => ⟨[(3, .sl 0 i 0 i), (6, vsl l), (7, iv l.length), (8, iv i)], [(0, .arr (rowC vc (l.take i)) i 4)]⟩
  have hR := vR_len l
  simp -implicitDefEqProofs [c36]
  rw [loop_run' inv l.length (e := .exit 0) (st' := ⟨(inv l.length).env ++ [(9, .p (.bool false))], (inv l.length).sto⟩) (by simp)]
  · simp -implicitDefEqProofs [inv, hR]
  · rfl
  · intro i hi
    have hlim : i + 1 ≤ lim := by simp only [lim]; omega
    have wi := wrap_succ (i := i) (by omega)
    have hti : (l.take i).length = i := by simp; omega
    have hln := vR_len (l.take i)
    rw [hti] at hln
    have hr : rowC vc (l.take (i + 1)) = rowC vc (l.take i) ++ vc l[i] := rowC_take _ _ hi
    have hm4 : (i + 1) * 4 = i * 4 + 4 := by omega
    have hlt : i * 4 < l.length * 4 := by omega
    have hdr := rowC_drop vc_len l i hi
    simp only [inv]
    generalize hA : rowC vc l = A at *
    generalize rowC vc (l.take i) = R' at *
    generalize rowC vc (l.drop (i + 1)) = R2 at *
    generalize hv : l[i] = v at *
    refine ⟨?_, ?h1, ?h2⟩
    case h1 =>
      simp -implicitDefEqProofs [loopS_eq, c36L0, hi, hA, hR, hlt, hdr, vc, hlim, hln, wi]
      exact rfl
    case h2 => exact loopS_same rfl (by simp [hr, vc])
  · simp -implicitDefEqProofs [inv, loopS_eq, c36L0]
  · simp [loopFuel]; omega

theorem sameV35 {n : Nat} (hn : 1 ≤ n) (l : List ValI) (hl : l.length < 1000000) : RUN n 35 [vsl l, vsl l] = .ret (.p (.bool true)) := by
  obtain ⟨d, rfl⟩ : ∃ d, n = d + 1 := ⟨n - 1, by omega⟩
  rw [RUN, call_eq fe35 _ rfl]
  let inv : Nat → St := fun i => ⟨[(0, vsl l), (1, vsl l), (5, iv i)], []⟩
  have hR := vR_len l
  simp -implicitDefEqProofs [c35]
  rw [loop_run inv l.length (e := .exit 0) (st' := ⟨(inv l.length).env ++ [(14, .p (.bool false))], (inv l.length).sto⟩) (by simp)]
  · simp -implicitDefEqProofs [inv]
  · rfl
  · intro i hi
    have wi := wrap_succ (i := i) (by omega)
    have hlt : i * 4 < l.length * 4 := by omega
    have hdr := rowC_drop vc_len l i hi
    simp only [inv]
    generalize hA : rowC vc l = A at *
    generalize rowC vc (l.drop (i + 1)) = R2 at *
    generalize hv : l[i] = v at *
    simp -implicitDefEqProofs [loopS_eq, c35L0, hi, hA, hR, hlt, hdr, vc, eqK, keyOk, eqP, wi]
  · simp -implicitDefEqProofs [inv, loopS_eq, c35L0]
  · simp [loopFuel]; omega

theorem meas30 {n : Nat} (hn : 3 ≤ n) (m : Int) : RUN n 30 [iv m] = .ret (iv (rangeE 1 16384 m)) := by
  obtain ⟨d, rfl⟩ : ∃ d, n = d + 3 := ⟨n - 3, by omega⟩
  rw [RUN, call_eq fe30 _ rfl]
  have k := range108 (n := d + 2) (by omega) m 1 16384
  simp -implicitDefEqProofs [c30, k]

theorem sen_at (ka : RUN 60 15 [] = .ret (.p (.bool true))) (s : SenI) (l : List Nat) (z e m : Int) : RUN 61 4 [sea s, fsl l, .agg [iv z, iv e, iv m]] = .ret (.p (.bool true)) := by
  rw [RUN, call_eq (d := 60) fe4 _ rfl]
  have s1 := short22 (n := 60) (by omega) l
  by_cases c0 : (40 : Int) < s.name.length
  · obtain ⟨nm, sc, sl, sh⟩ := s
    simp only at c0
    simp -implicitDefEqProofs [c4, ka, c0]
  · by_cases c1 : (decide (l.length ≤ 40) || decide (l.length = 4097)) = true
    · have hl : l.length < 1000000 := by simp at c1; omega
      have hnl : s.name.length ≤ 9223372036854775807 := by omega
      have i1 := floats24 (n := 60) (by omega) l hl
      have p23 := offset23 (n := 60) (by omega) l hl z
      have p25 := converted25 (n := 60) (by omega) s hnl l hl z
      have p26 := shunted26 (n := 60) (by omega) s hnl e m
      have p27 := sensor27 (n := 60) (by omega) s
      have p34 := sensor34 (n := 60) (by omega) s hnl
      have p28 := zero28 (n := 60) (by omega) l hl z
      have p30 := meas30 (n := 60) (by omega) e
      have p30' := meas30 (n := 60) (by omega) m
      have q1 := first29_2 (n := 60) (by omega) (senE s) (zeE l z)
      have q2 := first29_3 (n := 60) (by omega) (senE s) (rangeE 1 16384 e) (rangeE 1 16384 m)
      have e1 : firstE [senE s, zeE l z] = cvE s l z := rfl
      have e2 : firstE [senE s, rangeE 1 16384 e, rangeE 1 16384 m] = shE s e m := rfl
      rw [e1] at q1
      rw [e2] at q2
      have n36 : RUN 60 36 [.p (.sl [] 0)] = .ret (.own [] 0 4) := told36 (n := 60) (by omega) [] (by simp)
      have n35 : RUN 60 35 [.p (.sl [] 0), .p (.sl [] 0)] = .ret (.p (.bool true)) := sameV35 (n := 60) (by omega) [] (by simp)
      have r36 := told36 (n := 60) (by omega) (valsO s l z) (by simp [valsO]; omega)
      have r35 := sameV35 (n := 60) (by omega) (valsO s l z) (by simp [valsO]; omega)
      have hlen : (valsO s l z).length = l.length := by simp [valsO]
      have p32 : cvE s l z = 0 → RUN 60 32 [sea s, fsl l, iv z] = .ret (.own (rowC vc (valsO s l z)) l.length 4) := fun h => converted32 (n := 60) (by omega) h
      have p31 : zeE l z = 0 → RUN 60 31 [fsl l, iv z] = .ret (.agg [iv (offL l z), iv (offH l z)]) := fun h => offset31 (n := 60) (by omega) h
      have p33 : shE s e m = 0 → RUN 60 33 [sea s, iv e, iv m] = .ret (.p (.bool (shB s e m))) := fun h => shunted33 (n := 60) (by omega) h
      simp only [vsl, hlen] at r36 r35 p25
      generalize valsO s l z = R at *
      generalize senE s = E1 at *
      generalize rangeE 1 16384 e = E2 at *
      generalize rangeE 1 16384 m = E3 at *
      generalize zeE l z = E4 at *
      generalize cvE s l z = E5 at *
      generalize shE s e m = E6 at *
      generalize shB s e m = B at *
      generalize offL l z = oL at *
      generalize offH l z = oH at *
      obtain ⟨nm, sc, sl, sh⟩ := s
      simp only at c0
      by_cases z4 : E4 = 0 <;> by_cases z5 : E5 = 0 <;> by_cases z6 : E6 = 0
      all_goals
        first
        | rw [if_pos z4] at p23
        | rw [if_neg z4] at p23
        first
        | rw [if_pos z5] at p25
        | rw [if_neg z5] at p25
        first
        | rw [if_pos z6] at p26
        | rw [if_neg z6] at p26
        first
        | rw [z4] at q1
        | skip
        simp -implicitDefEqProofs [c4, ka, c0, s1, c1, i1, p23, p25, p26, p27, p34, p28, p30, p30', q1, q2, n36, n35, r36, r35, p31, p32, p33, z4, z5, z6, eqK, keyOk, eqP]
    · obtain ⟨nm, sc, sl, sh⟩ := s
      simp only at c0
      simp -implicitDefEqProofs [c4, ka, c0, s1, c1]
end Fw
