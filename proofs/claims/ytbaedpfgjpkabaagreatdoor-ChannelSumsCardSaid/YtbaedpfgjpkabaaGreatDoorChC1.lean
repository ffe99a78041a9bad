/- The codes of channels: check letters, errors. -/
import Derived.Test.YtbaedpfgjpkabaaGreatDoorChK
set_option maxHeartbeats 8000000
namespace Fw
open Go
attribute [local irreducible] evCode evOps evOpsD evOper evOperD evOp evFn loopN T.All T.bind callPure callOp opsK opsDK restK seqK blockK loopS setK setQ giveK scalK gcK finish finS rfunK yldK yldB loopK

def sumF (l : List UInt8) : Nat → Int
  | 0 => 0
  | i + 1 => sumF l i + ((l.getD i 0).toNat : Int)
theorem sumF_in (l : List UInt8) : ∀ i, 0 ≤ sumF l i ∧ sumF l i ≤ 255 * (i : Int)
  | 0 => by simp [sumF]
  | i + 1 => by
    have h := sumF_in l i
    have h2 := (l.getD i 0).toNat_lt
    simp only [sumF]; omega
def letS (l : List UInt8) : UInt8 := UInt8.ofNat (65 + (sumF l l.length % 26).toNat)

/-! codes -/
structure CodeI where
  place : List UInt8
  axis : Int
  sign : Int
abbrev cda (c : CodeI) : AVal := .agg [sv c.place, iv c.axis, iv c.sign]
def codeE (c : CodeI) : Int := firstE [whenE (!nameB c.place) 8, rangeE 0 2 c.axis, whenE (c.sign != 1 && c.sign != -1) 3]

theorem code21 {n : Nat} (hn : 4 ≤ n) (c : CodeI) (hl : c.place.length ≤ 9223372036854775807) : RUN n 21 [cda c] = .ret (iv (codeE c)) := by
  obtain ⟨d, rfl⟩ : ∃ d, n = d + 4 := ⟨n - 4, by omega⟩
  rw [RUN, call_eq fe21 _ rfl]
  obtain ⟨p, a, s⟩ := c
  have h1 := name106 (n := d + 3) (by omega) p hl
  have h2 := fun b e => when104 (n := d + 3) (by omega) b e
  have h3 := within111 (n := d + 3) (by omega) a 0 2
  have h4 := fun x y z => first103_3 (n := d + 3) (by omega) x y z
  cases b1 : (s != 1) with
  | true => simp -implicitDefEqProofs [c21, h1, h2, h3, h4, codeE, b1]
  | false => simp -implicitDefEqProofs [c21, h1, h2, h3, h4, codeE, b1]
theorem code18 {n : Nat} (hn : 4 ≤ n) (c : CodeI) : RUN n 18 [cda c] = .ret (iv (codeE c)) := by
  obtain ⟨d, rfl⟩ : ∃ d, n = d + 4 := ⟨n - 4, by omega⟩
  rw [RUN, call_eq fe18 _ rfl]
  obtain ⟨p, a, s⟩ := c
  have h1 := cname107 (n := d + 3) (by omega) p
  have h2 := fun b e => when109 (n := d + 3) (by omega) b e
  have h3 := range108 (n := d + 3) (by omega) a 0 2
  have h4 := fun x y z => first29_3 (n := d + 3) (by omega) x y z
  cases b1 : (s != 1) with
  | true => simp -implicitDefEqProofs [c18, h1, h2, h3, h4, codeE, b1]
  | false => simp -implicitDefEqProofs [c18, h1, h2, h3, h4, codeE, b1]

theorem rangeE_zero {lo hi n : Int} : rangeE lo hi n = 0 ↔ lo ≤ n ∧ n ≤ hi := by
  unfold rangeE; split <;> omega
theorem whenE_zero {b : Bool} {e : Int} (he : e ≠ 0) : whenE b e = 0 ↔ b = false := by
  cases b <;> simp [whenE, he]
structure CodeOk (c : CodeI) : Prop where
  name : nameB c.place = true
  axis : c.axis = 0 ∨ c.axis = 1 ∨ c.axis = 2
  sign : c.sign = 1 ∨ c.sign = -1
theorem code_of {c : CodeI} (h : codeE c = 0) : CodeOk c := by
  have hz := firstE_zero.1 h
  have h1 := hz (whenE (!nameB c.place) 8) (by simp)
  have h2 := rangeE_zero.1 (hz (rangeE 0 2 c.axis) (by simp))
  have h3 := (whenE_zero (by decide)).1 (hz (whenE (c.sign != 1 && c.sign != -1) 3) (by simp))
  refine ⟨?_, by omega, ?_⟩
  · have := (whenE_zero (by decide)).1 h1
    simpa using this
  · simp only [Bool.and_eq_false_iff, bne_eq_false_iff_eq] at h3
    exact h3
def preS (c : CodeI) : List UInt8 := c.place ++ [45, UInt8.ofNat (120 + c.axis.toNat), if c.sign = 1 then 43 else 45]
def codS (c : CodeI) : List UInt8 := preS c ++ [letS (preS c)]

end Fw
