/- Sensors: their errors, offsets, the interval of the products. -/
import Derived.Test.YtbaedpfgjpkabaaGreatDoorChS1
import Derived.Test.YtbaedpfgjpkabaaGreatDoorChN2
import Derived.Test.YtbaedpfgjpkabaaGreatDoorChR
set_option maxHeartbeats 8000000
namespace Fw
open Go
attribute [local irreducible] evCode evOps evOpsD evOper evOperD evOp evFn loopN T.All T.bind callPure callOp opsK opsDK restK seqK blockK loopS setK setQ giveK scalK gcK finish finS rfunK yldK yldB loopK

structure SenI where
  name : List UInt8
  scale : Int
  lo : Int
  hi : Int
abbrev sea (s : SenI) : AVal := .agg [sv s.name, iv s.scale, iv s.lo, iv s.hi]
def senE (s : SenI) : Int := firstE [whenE (!nameB s.name) 8, rangeE 1 16384 s.scale, ivE 1 4000 (s.lo, s.hi)]
structure SenOk (s : SenI) : Prop where
  name : nameB s.name = true
  s0 : 1 ≤ s.scale
  s1 : s.scale ≤ 16384
  l0 : 1 ≤ s.lo
  l1 : s.lo ≤ s.hi
  l2 : s.hi ≤ 4000
theorem sen_of {s : SenI} (h : senE s = 0) : SenOk s := by
  have h' := firstE_zero.1 h
  have a := h' (whenE (!nameB s.name) 8) (by simp)
  have b := h' (rangeE 1 16384 s.scale) (by simp)
  have c := h' (ivE 1 4000 (s.lo, s.hi)) (by simp)
  have c' := firstE_zero.1 c
  have c1 := c' (rangeE 1 4000 s.lo) (by simp)
  have c2 := c' (rangeE 1 4000 s.hi) (by simp)
  have c3 := c' (whenE (decide (s.hi < s.lo)) 11) (by simp)
  refine ⟨?_, ?_, ?_, ?_, ?_, ?_⟩
  · cases hn : nameB s.name with
    | true => rfl
    | false => rw [hn] at a; cases a
  · simp only [rangeE] at b; split at b
    · cases b
    · omega
  · simp only [rangeE] at b; split at b
    · cases b
    · omega
  · simp only [rangeE] at c1; split at c1
    · cases c1
    · omega
  · simp only [whenE] at c3; split at c3
    · cases c3
    · rename_i q; simp at q; exact q
  · simp only [rangeE] at c2; split at c2
    · cases c2
    · omega

theorem sensor34 {n : Nat} (hn : 4 ≤ n) (s : SenI) (hl : s.name.length ≤ 9223372036854775807) : RUN n 34 [sea s] = .ret (iv (senE s)) := by
  obtain ⟨d, rfl⟩ : ∃ d, n = d + 4 := ⟨n - 4, by omega⟩
  rw [RUN, call_eq fe34 _ rfl]
  obtain ⟨p, c, a, b⟩ := s
  have h1 := name106 (n := d + 3) (by omega) p hl
  have h2 := fun b e => when104 (n := d + 3) (by omega) b e
  have h3 := within111 (n := d + 3) (by omega) c 1 16384
  have h5 := interval109' (n := d + 3) (by omega) a b 1 4000
  have h4 := fun x y z => first103_3 (n := d + 3) (by omega) x y z
  simp -implicitDefEqProofs [c34, h1, h2, h3, h4, h5, senE]
theorem sensor27 {n : Nat} (hn : 4 ≤ n) (s : SenI) : RUN n 27 [sea s] = .ret (iv (senE s)) := by
  obtain ⟨d, rfl⟩ : ∃ d, n = d + 4 := ⟨n - 4, by omega⟩
  rw [RUN, call_eq fe27 _ rfl]
  obtain ⟨p, c, a, b⟩ := s
  have h1 := cname107 (n := d + 3) (by omega) p
  have h3 := range108 (n := d + 3) (by omega) c 1 16384
  have h5 := ends103' (n := d + 3) (by omega) a b 1 4000
  have h4 := fun x y z => first29_3 (n := d + 3) (by omega) x y z
  simp -implicitDefEqProofs [c27, h1, h3, h4, h5, senE]

/-! samples before zero -/
def zeE (l : List Nat) (z : Int) : Int := firstE [smpsE l, rangeE 1 64 z, whenE (decide ((l.length : Int) < z)) 16]
/-- the least and the greatest integer of the first samples -/
def offX (l : List Nat) (z : Int) : List Int := (l.take z.toNat).map smpN
def offL (l : List Nat) (z : Int) : Int := loF (offX l z) ((offX l z).length - 1)
def offH (l : List Nat) (z : Int) : Int := hiF (offX l z) ((offX l z).length - 1)

/-- the same as the reference finds it, with the places -/
def laF (x : List Int) : Nat → Int
  | 0 => 0
  | k + 1 => if x.getD (k + 1) 0 < loF x k then (k : Int) + 1 else laF x k
def haF (x : List Int) : Nat → Int
  | 0 => 0
  | k + 1 => if hiF x k < x.getD (k + 1) 0 then (k : Int) + 1 else haF x k

/-! products of two intervals -/
def min4 (p q a b : Int) : Int := min (min (min (p * a) (p * b)) (q * a)) (q * b)
def max4 (p q a b : Int) : Int := max (max (max (p * a) (p * b)) (q * a)) (q * b)
end Fw
