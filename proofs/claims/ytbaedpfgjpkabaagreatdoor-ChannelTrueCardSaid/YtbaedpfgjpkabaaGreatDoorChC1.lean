/- The codes of channels: check letters, errors. -/
import Derived.Test.YtbaedpfgjpkabaaGreatDoorChK
set_option maxHeartbeats 8000000
namespace Fw
open Go
attribute [local irreducible] evCode evOps evOpsD evOper evOperD evOp evFn loopN T.All T.bind callPure callOp opsK opsDK restK seqK blockK loopS setK setQ giveK scalK gcK finish finS rfunK yldK yldB loopK

def sumF (l : List UInt8) : Nat → Int
  | 0 => 0
  | i + 1 => sumF l i + ((l.getD i 0).toNat : Int)
theorem sumF_in (l : List UInt8) : ∀ i, 0 ≤ sumF l i ∧ sumF l i ≤ 255 * (i : Int)
  | 0 => by simp [sumF]
  | i + 1 => by
    have h := sumF_in l i
    have h2 := (l.getD i 0).toNat_lt
    simp only [sumF]; omega
def letS (l : List UInt8) : UInt8 := UInt8.ofNat (65 + (sumF l l.length % 26).toNat)

theorem letter102 {n : Nat} (hn : 1 ≤ n) (l : List UInt8) (hl : l.length < 100000) : RUN n 102 [sv l] = .ret (.p (.int .u8 ((letS l).toNat : Int))) := by
  obtain ⟨d, rfl⟩ : ∃ d, n = d + 1 := ⟨n - 1, by omega⟩
  rw [RUN, call_eq fe102 _ rfl]
  let inv : Nat → St := fun i => ⟨[(0, sv l), (3, iv (sumF l i)), (6, iv l.length), (7, iv i)], []⟩
  have key : loopN (loopS (evFn F C0 G0 d) C0 G0 0 false [0, 3, 6, 7] c102L0) loopFuel ⟨[(0, sv l), (3, iv 0), (6, iv l.length), (7, iv 0)], []⟩ = .ret (.exit 0, ⟨(inv l.length).env ++ [(8, .p (.bool false))], []⟩) := by
    refine loop_run' inv l.length (by simp) rfl ?_ (by simp -implicitDefEqProofs [inv, loopS_eq, c102L0]) (by simp [loopFuel]; omega)
    intro i hi
    have hlt : (i : Int) < l.length := by omega
    have hgd : l.getD i 0 = l[i] := by simp [List.getD_eq_getElem?_getD, List.getElem?_eq_getElem hi]
    have hgo : l[i]? = some l[i] := List.getElem?_eq_getElem hi
    have hs := sumF_in l i
    have hb := (l[i]).toNat_lt
    have w1 := wrap64 (n := ((l[i]).toNat : Int)) (by omega) (by omega)
    have w2 := wrap64 (n := sumF l i + ((l[i]).toNat : Int)) (by omega) (by omega)
    have hss : sumF l (i + 1) = sumF l i + ((l[i]).toNat : Int) := by simp only [sumF, hgd]
    refine ⟨?_, ?h1, ?h2⟩
    case h1 =>
      simp -implicitDefEqProofs [inv, loopS_eq, c102L0, hi, hlt, w1, w2, wrap_succ (i := i) (by omega)]
      exact rfl
    case h2 => simp [inv, hss]
  have hs := sumF_in l l.length
  simp -implicitDefEqProofs [c102]
  rw [key]
  have m1 : (sumF l l.length).tmod 26 = sumF l l.length % 26 := Int.tmod_eq_emod_of_nonneg hs.1
  have r1 := Int.emod_nonneg (sumF l l.length) (show (26 : Int) ≠ 0 by decide)
  have r2 := Int.emod_lt_of_pos (sumF l l.length) (show (0 : Int) < 26 by decide)
  have hL : ((letS l).toNat : Int) = 65 + sumF l l.length % 26 := by
    unfold letS
    rw [UInt8.toNat_ofNat']
    omega
  rw [hL]
  generalize sumF l l.length % 26 = r at *
  have w1 := wrap64 (n := 65 + r) (by omega) (by omega)
  have w2 : IntKind.u8.wrap (65 + r) = 65 + r := by rw [IntKind.wrap_u8]; omega
  have w3 := wrap64 (n := r) (by omega) (by omega)
  simp -implicitDefEqProofs [inv, m1, w1, w2]

/-! codes -/
structure CodeI where
  place : List UInt8
  axis : Int
  sign : Int
abbrev cda (c : CodeI) : AVal := .agg [sv c.place, iv c.axis, iv c.sign]
def codeE (c : CodeI) : Int := firstE [whenE (!nameB c.place) 8, rangeE 0 2 c.axis, whenE (c.sign != 1 && c.sign != -1) 3]

theorem code21 {n : Nat} (hn : 4 ≤ n) (c : CodeI) (hl : c.place.length ≤ 9223372036854775807) : RUN n 21 [cda c] = .ret (iv (codeE c)) := by
  obtain ⟨d, rfl⟩ : ∃ d, n = d + 4 := ⟨n - 4, by omega⟩
  rw [RUN, call_eq fe21 _ rfl]
  obtain ⟨p, a, s⟩ := c
  have h1 := name106 (n := d + 3) (by omega) p hl
  have h2 := fun b e => when104 (n := d + 3) (by omega) b e
  have h3 := within111 (n := d + 3) (by omega) a 0 2
  have h4 := fun x y z => first103_3 (n := d + 3) (by omega) x y z
  cases b1 : (s != 1) with
  | true => simp -implicitDefEqProofs [c21, h1, h2, h3, h4, codeE, b1]
  | false => simp -implicitDefEqProofs [c21, h1, h2, h3, h4, codeE, b1]
theorem code18 {n : Nat} (hn : 4 ≤ n) (c : CodeI) : RUN n 18 [cda c] = .ret (iv (codeE c)) := by
  obtain ⟨d, rfl⟩ : ∃ d, n = d + 4 := ⟨n - 4, by omega⟩
  rw [RUN, call_eq fe18 _ rfl]
  obtain ⟨p, a, s⟩ := c
  have h1 := cname107 (n := d + 3) (by omega) p
  have h2 := fun b e => when109 (n := d + 3) (by omega) b e
  have h3 := range108 (n := d + 3) (by omega) a 0 2
  have h4 := fun x y z => first29_3 (n := d + 3) (by omega) x y z
  cases b1 : (s != 1) with
  | true => simp -implicitDefEqProofs [c18, h1, h2, h3, h4, codeE, b1]
  | false => simp -implicitDefEqProofs [c18, h1, h2, h3, h4, codeE, b1]

theorem rangeE_zero {lo hi n : Int} : rangeE lo hi n = 0 ↔ lo ≤ n ∧ n ≤ hi := by
  unfold rangeE; split <;> omega
theorem whenE_zero {b : Bool} {e : Int} (he : e ≠ 0) : whenE b e = 0 ↔ b = false := by
  cases b <;> simp [whenE, he]
theorem ww0 : IntKind.i64.wrap 0 = 0 := by decide
theorem ww1 : IntKind.i64.wrap 1 = 1 := by decide
theorem ww2 : IntKind.i64.wrap 2 = 2 := by decide
structure CodeOk (c : CodeI) : Prop where
  name : nameB c.place = true
  axis : c.axis = 0 ∨ c.axis = 1 ∨ c.axis = 2
  sign : c.sign = 1 ∨ c.sign = -1
theorem code_of {c : CodeI} (h : codeE c = 0) : CodeOk c := by
  have hz := firstE_zero.1 h
  have h1 := hz (whenE (!nameB c.place) 8) (by simp)
  have h2 := rangeE_zero.1 (hz (rangeE 0 2 c.axis) (by simp))
  have h3 := (whenE_zero (by decide)).1 (hz (whenE (c.sign != 1 && c.sign != -1) 3) (by simp))
  refine ⟨?_, by omega, ?_⟩
  · have := (whenE_zero (by decide)).1 h1
    simpa using this
  · simp only [Bool.and_eq_false_iff, bne_eq_false_iff_eq] at h3
    exact h3
theorem name_len {l : List UInt8} (h : nameB l = true) : l.length ≤ 24 := by
  simp only [nameB, Bool.and_eq_true, decide_eq_true_eq] at h
  exact h.1.2
def preS (c : CodeI) : List UInt8 := c.place ++ [45, UInt8.ofNat (120 + c.axis.toNat), if c.sign = 1 then 43 else 45]
def codS (c : CodeI) : List UInt8 := preS c ++ [letS (preS c)]

theorem coded16 {n : Nat} (hn : 5 ≤ n) (c : CodeI) (hl : c.place.length ≤ 9223372036854775807) : RUN n 16 [cda c] = .ret (.tup [sv (if codeE c = 0 then codS c else []), iv (codeE c)]) := by
  obtain ⟨d, rfl⟩ : ∃ d, n = d + 5 := ⟨n - 5, by omega⟩
  rw [RUN, call_eq fe16 _ rfl]
  have k := code21 (n := d + 4) (by omega) c hl
  by_cases z : codeE c = 0
  · have h := code_of z
    have hn := name_len h.name
    have kl := letter102 (n := d + 4) (by omega) (preS c) (by simp [preS]; omega)
    rw [z] at k
    rw [if_pos z, z]
    obtain ⟨p, a, s⟩ := c
    have ha := h.axis
    have hs := h.sign
    simp only at ha hs hn
    have l1 : p.length + 1 ≤ lim := by simp only [lim]; omega
    have l2 : p.length + 1 + 2 ≤ lim := by simp only [lim]; omega
    have l3 : p.length + 3 + 1 ≤ lim := by simp only [lim]; omega
    have l4 : p.length + 3 ≤ lim := by simp only [lim]; omega
    have l5 : p.length + 4 ≤ lim := by simp only [lim]; omega
    simp only [preS] at kl
    unfold codS preS
    rcases ha with rfl | rfl | rfl <;> rcases hs with rfl | rfl
    all_goals
      simp only [UInt8.reduceOfNat, Int.toNat_zero, Int.toNat_one, Nat.add_zero, if_true, Int.reduceNeg, Int.reduceEq, if_false, Int.reduceToNat, Nat.reduceAdd] at kl ⊢
      generalize letS _ = L at *
      simp -implicitDefEqProofs [c16, G0, g0, g1, k, kl, strBin, bytesOf, ww0, ww1, ww2, l1, l2, l3]
  · rw [if_neg z]
    have zb : (codeE c == 0) = false := by simpa using z
    simp -implicitDefEqProofs [c16, k, z]
end Fw
