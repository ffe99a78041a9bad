/- Sensors: their errors, offsets, the interval of the products. -/
import Derived.Test.YtbaedpfgjpkabaaGreatDoorChS1
import Derived.Test.YtbaedpfgjpkabaaGreatDoorChN2
import Derived.Test.YtbaedpfgjpkabaaGreatDoorChR
set_option maxHeartbeats 8000000
namespace Fw
open Go
attribute [local irreducible] evCode evOps evOpsD evOper evOperD evOp evFn loopN T.All T.bind callPure callOp opsK opsDK restK seqK blockK loopS setK setQ giveK scalK gcK finish finS rfunK yldK yldB loopK

structure SenI where
  name : List UInt8
  scale : Int
  lo : Int
  hi : Int
abbrev sea (s : SenI) : AVal := .agg [sv s.name, iv s.scale, iv s.lo, iv s.hi]
def senE (s : SenI) : Int := firstE [whenE (!nameB s.name) 8, rangeE 1 16384 s.scale, ivE 1 4000 (s.lo, s.hi)]
structure SenOk (s : SenI) : Prop where
  name : nameB s.name = true
  s0 : 1 ≤ s.scale
  s1 : s.scale ≤ 16384
  l0 : 1 ≤ s.lo
  l1 : s.lo ≤ s.hi
  l2 : s.hi ≤ 4000
theorem sen_of {s : SenI} (h : senE s = 0) : SenOk s := by
  have h' := firstE_zero.1 h
  have a := h' (whenE (!nameB s.name) 8) (by simp)
  have b := h' (rangeE 1 16384 s.scale) (by simp)
  have c := h' (ivE 1 4000 (s.lo, s.hi)) (by simp)
  have c' := firstE_zero.1 c
  have c1 := c' (rangeE 1 4000 s.lo) (by simp)
  have c2 := c' (rangeE 1 4000 s.hi) (by simp)
  have c3 := c' (whenE (decide (s.hi < s.lo)) 11) (by simp)
  refine ⟨?_, ?_, ?_, ?_, ?_, ?_⟩
  · cases hn : nameB s.name with
    | true => rfl
    | false => rw [hn] at a; cases a
  · simp only [rangeE] at b; split at b
    · cases b
    · omega
  · simp only [rangeE] at b; split at b
    · cases b
    · omega
  · simp only [rangeE] at c1; split at c1
    · cases c1
    · omega
  · simp only [whenE] at c3; split at c3
    · cases c3
    · rename_i q; simp at q; exact q
  · simp only [rangeE] at c2; split at c2
    · cases c2
    · omega

theorem sensor34 {n : Nat} (hn : 4 ≤ n) (s : SenI) (hl : s.name.length ≤ 9223372036854775807) : RUN n 34 [sea s] = .ret (iv (senE s)) := by
  obtain ⟨d, rfl⟩ : ∃ d, n = d + 4 := ⟨n - 4, by omega⟩
  rw [RUN, call_eq fe34 _ rfl]
  obtain ⟨p, c, a, b⟩ := s
  have h1 := name106 (n := d + 3) (by omega) p hl
  have h2 := fun b e => when104 (n := d + 3) (by omega) b e
  have h3 := within111 (n := d + 3) (by omega) c 1 16384
  have h5 := interval109' (n := d + 3) (by omega) a b 1 4000
  have h4 := fun x y z => first103_3 (n := d + 3) (by omega) x y z
  simp -implicitDefEqProofs [c34, h1, h2, h3, h4, h5, senE]
theorem sensor27 {n : Nat} (hn : 4 ≤ n) (s : SenI) : RUN n 27 [sea s] = .ret (iv (senE s)) := by
  obtain ⟨d, rfl⟩ : ∃ d, n = d + 4 := ⟨n - 4, by omega⟩
  rw [RUN, call_eq fe27 _ rfl]
  obtain ⟨p, c, a, b⟩ := s
  have h1 := cname107 (n := d + 3) (by omega) p
  have h3 := range108 (n := d + 3) (by omega) c 1 16384
  have h5 := ends103' (n := d + 3) (by omega) a b 1 4000
  have h4 := fun x y z => first29_3 (n := d + 3) (by omega) x y z
  simp -implicitDefEqProofs [c27, h1, h3, h4, h5, senE]

/-! samples before zero -/
def zeE (l : List Nat) (z : Int) : Int := firstE [smpsE l, rangeE 1 64 z, whenE (decide ((l.length : Int) < z)) 16]
theorem ze_of {l : List Nat} {z : Int} (h : zeE l z = 0) : (l.length ≤ 4096 ∧ SmpOk l) ∧ 1 ≤ z ∧ z ≤ 64 ∧ z ≤ l.length := by
  have h' := firstE_zero.1 h
  have a := h' (smpsE l) (by simp)
  have b := h' (rangeE 1 64 z) (by simp)
  have c := h' (whenE (decide ((l.length : Int) < z)) 16) (by simp)
  refine ⟨smps_of a, ?_⟩
  simp only [rangeE] at b
  split at b
  · cases b
  · simp only [whenE] at c
    split at c
    · cases c
    · rename_i q; simp at q; omega
theorem zero112 {n : Nat} (hn : 5 ≤ n) (l : List Nat) (hl : l.length < 1000000) (z : Int) : RUN n 112 [fsl l, iv z] = .ret (iv (zeE l z)) := by
  obtain ⟨d, rfl⟩ : ∃ d, n = d + 5 := ⟨n - 5, by omega⟩
  rw [RUN, call_eq fe112 _ rfl]
  have h1 := samples122 (n := d + 4) (by omega) l hl
  have h2 := fun b e => when104 (n := d + 4) (by omega) b e
  have h3 := within111 (n := d + 4) (by omega) z 1 64
  have h4 := fun x y z => first103_3 (n := d + 4) (by omega) x y z
  simp -implicitDefEqProofs [c112, h1, h2, h3, h4, zeE]
/-- the least and the greatest integer of the first samples -/
def offX (l : List Nat) (z : Int) : List Int := (l.take z.toNat).map smpN
def offL (l : List Nat) (z : Int) : Int := loF (offX l z) ((offX l z).length - 1)
def offH (l : List Nat) (z : Int) : Int := hiF (offX l z) ((offX l z).length - 1)

theorem offset113 {n : Nat} (hn : 4 ≤ n) {l : List Nat} {z : Int} (h : zeE l z = 0) : RUN n 113 [fsl l, iv z] = .ret (.agg [iv (offL l z), iv (offH l z)]) := by
  obtain ⟨d, rfl⟩ : ∃ d, n = d + 4 := ⟨n - 4, by omega⟩
  rw [RUN, call_eq fe113 _ rfl]
  obtain ⟨⟨a, b⟩, z0, z1, z2⟩ := ze_of h
  have hlt : (l.take z.toNat).length = z.toNat := by simp; omega
  have hok : SmpOk (l.take z.toNat) := fun x hx => b x (List.mem_of_mem_take hx)
  have k1 := units115 (n := d + 3) (by omega) hok (by omega)
  have hxl : (offX l z).length = z.toNat := by rw [offX, List.length_map, hlt]
  have k2 := min173 (n := d + 3) (by omega) (offX l z) (by omega) (by omega)
  have k3 := max174 (n := d + 3) (by omega) (offX l z) (by omega) (by omega)
  have hX : (l.take z.toNat).map smpN = offX l z := rfl
  rw [hX] at k1
  rw [fsl, hlt] at k1
  have e1 : offL l z = loF (offX l z) ((offX l z).length - 1) := rfl
  have e2 : offH l z = hiF (offX l z) ((offX l z).length - 1) := rfl
  rw [e1, e2]
  rw [isl, hxl] at k1 k2 k3
  rw [hxl]
  generalize offX l z = X at *
  have z0' : 0 ≤ z := by omega
  have hzn : z.toNat ≤ l.length := by omega
  simp -implicitDefEqProofs [c113, z0', z2, pF_take, k1, k2, k3]

/-- the same as the reference finds it, with the places -/
def laF (x : List Int) : Nat → Int
  | 0 => 0
  | k + 1 => if x.getD (k + 1) 0 < loF x k then (k : Int) + 1 else laF x k
def haF (x : List Int) : Nat → Int
  | 0 => 0
  | k + 1 => if hiF x k < x.getD (k + 1) 0 then (k : Int) + 1 else haF x k

theorem offset23 {n : Nat} (hn : 6 ≤ n) (l : List Nat) (hl : l.length < 1000000) (z : Int) : RUN n 23 [fsl l, iv z] = .ret (if zeE l z = 0 then .tup [.agg [iv (offL l z), iv (offH l z)], iv 0] else .tup [.agg [iv 0, iv 0], iv (zeE l z)]) := by
  obtain ⟨d, rfl⟩ : ∃ d, n = d + 6 := ⟨n - 6, by omega⟩
  rw [RUN, call_eq fe23 _ rfl]
  have k1 := zero112 (n := d + 5) (by omega) l hl z
  by_cases e : zeE l z = 0
  · have k2 := offset113 (n := d + 5) (by omega) e
    rw [if_pos e]
    generalize offL l z = a at *
    generalize offH l z = b at *
    simp -implicitDefEqProofs [c23, k1, e, k2]
  · rw [if_neg e]
    generalize zeE l z = E at *
    simp -implicitDefEqProofs [c23, k1, e]

/-! products of two intervals -/
def min4 (p q a b : Int) : Int := min (min (min (p * a) (p * b)) (q * a)) (q * b)
def max4 (p q a b : Int) : Int := max (max (max (p * a) (p * b)) (q * a)) (q * b)
theorem ends117g {n : Nat} (hn : 2 ≤ n) {p q a b : Int} (hp : (p.natAbs : Int) ≤ 100000) (hq : (q.natAbs : Int) ≤ 100000) (ha : (a.natAbs : Int) ≤ 100000) (hb : (b.natAbs : Int) ≤ 100000) :
    RUN n 117 [.agg [iv p, iv q], .agg [iv a, iv b]] = .ret (.agg [iv (min4 p q a b), iv (max4 p q a b)]) := by
  obtain ⟨d, rfl⟩ : ∃ d, n = d + 2 := ⟨n - 2, by omega⟩
  rw [RUN, call_eq fe117 _ rfl]
  have b1 := mul_abs hp ha
  have b2 := mul_abs hp hb
  have b3 := mul_abs hq ha
  have b4 := mul_abs hq hb
  unfold min4 max4
  generalize hx : p * a = x at *
  generalize hy : p * b = y at *
  generalize hz : q * a = z at *
  generalize hw : q * b = w at *
  have k1 := min173 (n := d + 1) (by omega) [x, y, z, w] (by simp) (by simp)
  have k2 := max174 (n := d + 1) (by omega) [x, y, z, w] (by simp) (by simp)
  have e1 : loF [x, y, z, w] ([x, y, z, w].length - 1) = min (min (min x y) z) w := rfl
  have e2 : hiF [x, y, z, w] ([x, y, z, w].length - 1) = max (max (max x y) z) w := rfl
  rw [e1] at k1
  rw [e2] at k2
  simp only [isl, pI, List.map_cons, List.map_nil, List.length_cons, List.length_nil, Nat.zero_add, Nat.reduceAdd] at k1 k2
  have w1 := wrap64 (n := x) (by omega) (by omega)
  have w2 := wrap64 (n := y) (by omega) (by omega)
  have w3 := wrap64 (n := z) (by omega) (by omega)
  have w4 := wrap64 (n := w) (by omega) (by omega)
  simp -implicitDefEqProofs [c117, hx, hy, hz, hw, w1, w2, w3, w4, k1, k2]
end Fw
