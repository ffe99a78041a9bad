/- What a sensor measured: the program's and the reference's values. -/
import Derived.Test.YtbaedpfgjpkabaaGreatDoorChSe1
set_option maxHeartbeats 16000000
namespace Fw
open Go
attribute [local irreducible] evCode evOps evOpsD evOper evOperD evOp evFn loopN T.All T.bind callPure callOp opsK opsDK restK seqK blockK loopS setK setQ giveK scalK gcK finish finS rfunK yldK yldB loopK

structure ValI where
  low : Int
  high : Int
  under : Bool
  over : Bool
  deriving DecidableEq
def vc (v : ValI) : List PVal := [.int .i64 v.low, .int .i64 v.high, .bool v.under, .bool v.over]
abbrev va (v : ValI) : AVal := .agg [iv v.low, iv v.high, .p (.bool v.under), .p (.bool v.over)]
abbrev vsl (l : List ValI) : AVal := .p (.sl (rowC vc l) l.length)
theorem vc_len (v : ValI) : (vc v).length = 4 := rfl
theorem vR_len (l : List ValI) : (rowC vc l).length = l.length * 4 := rowC_len vc_len l

/-- the value of an integer -/
def valO (s : SenI) (oL oH x : Int) : ValI := ⟨min4 (x - oH) (x - oL) s.lo s.hi / 1000, upQ (max4 (x - oH) (x - oL) s.lo s.hi) 1000, decide (x ≤ -s.scale), decide (s.scale ≤ x)⟩

theorem down268 {n : Nat} (hn : 1 ≤ n) (x : Int) (h1 : -1152921504606846976 ≤ x) (h2 : x ≤ 1152921504606846976) : RUN n 268 [iv x, iv 1000] = .ret (iv (x / 1000)) := by
  obtain ⟨d, rfl⟩ : ∃ d, n = d + 1 := ⟨n - 1, by omega⟩
  exact floor_ok (fun _ => rfl) x 1000 (by decide) h1 h2
theorem up269r {n : Nat} (hn : 2 ≤ n) (x : Int) (h1 : -1152921504606846976 ≤ x) (h2 : x ≤ 1152921504606846976) : RUN n 269 [iv x, iv 1000] = .ret (iv (upQ x 1000)) := by
  obtain ⟨d, rfl⟩ : ∃ d, n = d + 2 := ⟨n - 2, by omega⟩
  exact up269 (C := C0) (fun f hf as => by
    simp only [List.mem_cons, List.not_mem_nil, or_false] at hf
    rcases hf with rfl | rfl <;> rfl) x 1000 (by decide) h1 h2

theorem minmax_bound {p q a b : Int} (hp : (p.natAbs : Int) ≤ 100000) (hq : (q.natAbs : Int) ≤ 100000) (ha : (a.natAbs : Int) ≤ 100000) (hb : (b.natAbs : Int) ≤ 100000) : -10000000000 ≤ min4 p q a b ∧ min4 p q a b ≤ 10000000000 ∧ -10000000000 ≤ max4 p q a b ∧ max4 p q a b ≤ 10000000000 := by
  have b1 := mul_abs hp ha
  have b2 := mul_abs hp hb
  have b3 := mul_abs hq ha
  have b4 := mul_abs hq hb
  simp only [min4, max4]
  omega

theorem value116 {n : Nat} (hn : 4 ≤ n) {s : SenI} (hs : SenOk s) {oL oH x : Int} (h1 : -16384 ≤ oL) (h2 : oL ≤ oH) (h3 : oH ≤ 16384) (hx1 : -16384 ≤ x) (hx2 : x ≤ 16384) :
    RUN n 116 [iv x, .p (.pp [.int .i64 oL, .int .i64 oH]), .p (.pp [.str s.name, .int .i64 s.scale, .int .i64 s.lo, .int .i64 s.hi])] = .ret (va (valO s oL oH x)) := by
  obtain ⟨d, rfl⟩ : ∃ d, n = d + 4 := ⟨n - 4, by omega⟩
  obtain ⟨nm, sc, a, b⟩ := s
  have s0 := hs.s0
  have s1 := hs.s1
  have l0 := hs.l0
  have l1 := hs.l1
  have l2 := hs.l2
  simp only at s0 s1 l0 l1 l2
  rw [RUN, call_eq fe116 _ rfl]
  have w1 := wrap64 (n := x - oH) (by omega) (by omega)
  have w2 := wrap64 (n := x - oL) (by omega) (by omega)
  have w3 := wrap64 (n := -sc) (by omega) (by omega)
  have ke := ends117g (n := d + 3) (by omega) (p := x - oH) (q := x - oL) (a := a) (b := b) (by omega) (by omega) (by omega) (by omega)
  obtain ⟨m1, m2, m3, m4⟩ := minmax_bound (p := x - oH) (q := x - oL) (a := a) (b := b) (by omega) (by omega) (by omega) (by omega)
  unfold valO
  simp only
  generalize min4 (x - oH) (x - oL) a b = lo at *
  generalize max4 (x - oH) (x - oL) a b = hi at *
  have kd := down268 (n := d + 3) (by omega) lo (by omega) (by omega)
  have ku := up269r (n := d + 3) (by omega) hi (by omega) (by omega)
  by_cases z : lo = 0 ∧ hi = 0
  · obtain ⟨rfl, rfl⟩ := z
    have e1 : (0 : Int) / 1000 = 0 := by decide
    have e2 : upQ 0 1000 = 0 := by decide
    rw [e1, e2]
    simp -implicitDefEqProofs [c116, w1, w2, w3, ke]
  · have zb : (lo == 0 && hi == 0) = false := by
      rw [Bool.and_eq_false_iff, beq_eq_false_iff_ne, beq_eq_false_iff_ne]
      omega
    generalize hu : upQ hi 1000 = u at *
    generalize hq : lo / 1000 = q at *
    simp -implicitDefEqProofs [c116, G0, g2, g3, w1, w2, w3, ke, zb, kd, ku]

/-- what a function makes of each integer: values -/
theorem map114 {d : Nat} (l : List Int) (hl : l.length < 1000000) (caps : List PVal) (hcap : ∀ c ∈ caps, nrm c = c) (g : Int → ValI) (hg : ∀ x ∈ l, callPure (evFn F C0 G0 d) C0 (.fn 116) (iv x :: caps.map .p) = .ret (va (g x))) : RUN (d + 1) 114 [isl l, .p (.clo 116 [] caps)] = .ret (.own (rowC vc (l.map g)) l.length 4) := by
  rw [RUN, call_eq fe114 _ rfl]
  let inv : Nat → St := fun i => ⟨[(1, .p (.clo 116 [] caps)), (5, .sl 0 i 0 i), (8, isl l), (9, iv l.length), (10, iv i)], [(0, .arr (rowC vc ((l.map g).take i)) i 4)]⟩
  have htake : (l.map g).take l.length = l.map g := List.take_of_length_le (by simp)
  have hlen := vR_len (l.map g)
  rw [List.length_map] at hlen
  simp -implicitDefEqProofs [c114]
  rw [loop_run inv l.length (e := .exit 0) (st' := ⟨(inv l.length).env ++ [(11, .p (.bool false))], (inv l.length).sto⟩) (by simp)]
  · simp -implicitDefEqProofs [inv, htake, hlen]
  · rfl
  · intro i hi
    have hlim : i + 1 ≤ lim := by simp only [lim]; omega
    have k := hg l[i] (List.getElem_mem hi)
    have hm : min i l.length = i := by omega
    have hti : ((l.map g).take i).length = i := by simp; omega
    have hln := vR_len ((l.map g).take i)
    rw [hti] at hln
    have hr : rowC vc ((l.map g).take (i + 1)) = rowC vc ((l.map g).take i) ++ vc (g l[i]) := by
      rw [rowC_take _ _ (by simpa using hi)]; simp
    have hm4 : (i + 1) * 4 = i * 4 + 4 := by omega
    have w := wrap_succ (i := i) (by omega)
    simp only [inv, hr]
    generalize rowC vc ((l.map g).take i) = R at *
    generalize hgv : g l[i] = v at *
    simp -implicitDefEqProofs [loopS_eq, c114L0, hi, k, hlim, w, hln, Function.comp_def, nrm_list hcap, vc]
  · simp -implicitDefEqProofs [inv, loopS_eq, c114L0]
  · simp [loopFuel]; omega

theorem lo_hiF {x : List Int} (h : ∀ y ∈ x, -16384 ≤ y ∧ y ≤ 16384) : ∀ k, k < x.length → -16384 ≤ loF x k ∧ loF x k ≤ hiF x k ∧ hiF x k ≤ 16384 := by
  intro k
  induction k with
  | zero =>
    intro hk
    have e : x.getD 0 0 = x[0] := by simp [List.getD_eq_getElem?_getD, List.getElem?_eq_getElem hk]
    have := h x[0] (List.getElem_mem hk)
    simp only [loF, hiF, e]; omega
  | succ k ih =>
    intro hk
    have := ih (by omega)
    have e : x.getD (k + 1) 0 = x[k + 1] := by simp [List.getD_eq_getElem?_getD, List.getElem?_eq_getElem hk]
    have := h x[k + 1] (List.getElem_mem hk)
    simp only [loF, hiF, e]; omega
theorem off_in {l : List Nat} {z : Int} (h : zeE l z = 0) : -16384 ≤ offL l z ∧ offL l z ≤ offH l z ∧ offH l z ≤ 16384 := by
  obtain ⟨⟨a, b⟩, z0, z1, z2⟩ := ze_of h
  refine lo_hiF (fun y hy => ?_) _ ?_
  · simp only [offX, List.mem_map] at hy
    obtain ⟨q, hq, rfl⟩ := hy
    exact smpN_bound (b q (List.mem_of_mem_take hq))
  · have : (offX l z).length = z.toNat := by simp [offX]; omega
    omega

def cvE (s : SenI) (l : List Nat) (z : Int) : Int := firstE [senE s, zeE l z]
theorem cv_of {s : SenI} {l : List Nat} {z : Int} (h : cvE s l z = 0) : senE s = 0 ∧ zeE l z = 0 := by
  have := firstE_zero.1 h
  exact ⟨this _ (by simp), this _ (by simp)⟩
def valsO (s : SenI) (l : List Nat) (z : Int) : List ValI := (l.map smpN).map (valO s (offL l z) (offH l z))

theorem converted25 {n : Nat} (hn : 7 ≤ n) (s : SenI) (hnl : s.name.length ≤ 9223372036854775807) (l : List Nat) (hl : l.length < 1000000) (z : Int) :
    RUN n 25 [sea s, fsl l, iv z] = .ret (if cvE s l z = 0 then .tup [vsl (valsO s l z), iv 0] else .tup [.p (.sl [] 0), iv (cvE s l z)]) := by
  obtain ⟨d, rfl⟩ : ∃ d, n = d + 7 := ⟨n - 7, by omega⟩
  rw [RUN, call_eq fe25 _ rfl]
  have k1 := sensor34 (n := d + 6) (by omega) s hnl
  have k2 := zero112 (n := d + 6) (by omega) l hl z
  have k3 := first103_2 (n := d + 6) (by omega) (senE s) (zeE l z)
  have he : firstE [senE s, zeE l z] = cvE s l z := rfl
  rw [he] at k3
  by_cases e : cvE s l z = 0
  · obtain ⟨e1, e2⟩ := cv_of e
    have hs := sen_of e1
    obtain ⟨⟨a, b⟩, z0, z1, z2⟩ := ze_of e2
    obtain ⟨o1, o2, o3⟩ := off_in e2
    have k4 := offset113 (n := d + 6) (by omega) e2
    have k5 := units115 (n := d + 6) (by omega) b hl
    have k6 := map114 (d := d + 5) (l.map smpN) (by simpa using hl) [.pp [.int .i64 (offL l z), .int .i64 (offH l z)], .pp [.str s.name, .int .i64 s.scale, .int .i64 s.lo, .int .i64 s.hi]] (by simp) (valO s (offL l z) (offH l z)) (fun x hx => by
      obtain ⟨q, hq, rfl⟩ := List.mem_map.1 hx
      have := smpN_bound (b q hq)
      exact value116 (n := d + 5) (by omega) hs o1 o2 o3 this.1 this.2)
    have hv : (l.map smpN).map (valO s (offL l z) (offH l z)) = valsO s l z := rfl
    have hlen : (valsO s l z).length = l.length := by simp [valsO]
    rw [hv] at k6
    rw [if_pos e, vsl, hlen]
    rw [isl, List.length_map] at k5 k6
    rw [e1] at k1
    rw [e2] at k2
    rw [e1, e2, e] at k3
    generalize valsO s l z = R at *
    generalize offL l z = oL at *
    generalize offH l z = oH at *
    obtain ⟨nm, sc, sa, sb⟩ := s
    simp -implicitDefEqProofs [c25, k1, k2, k3, k4, k5, k6]
  · rw [if_neg e]
    generalize cvE s l z = E at *
    obtain ⟨nm, sc, sa, sb⟩ := s
    simp -implicitDefEqProofs [c25, k1, k2, k3, e]
end Fw
