/- What is alike in several chapters: errors, ranges, names, strings. -/
import Derived.Test.YtdjkleaojdeepaaGreatDoorGaK0
set_option maxHeartbeats 8000000
namespace Fw
open Go
attribute [local irreducible] evCode evOps evOpsD evOper evOperD evOp evFn loopN T.All T.bind callPure callOp opsK opsDK restK seqK blockK loopS setK setQ giveK scalK gcK finish finS rfunK yldK yldB loopK

abbrev iv (n : Int) : AVal := .p (.int .i64 n)
abbrev RUN (n f : Nat) (args : List AVal) : T AVal := callPure (evFn F C0 G0 n) C0 (.fn f) args

def whenE (b : Bool) (e : Int) : Int := if b then e else 0
def rangeE (lo hi n : Int) : Int := if n < lo ∨ hi < n then 3 else 0

theorem when104 {n : Nat} (hn : 1 ≤ n) (b : Bool) (e : Int) : RUN n 104 [.p (.bool b), iv e] = .ret (iv (whenE b e)) := by
 obtain ⟨d, rfl⟩ : ∃ d, n = d + 1 := ⟨n - 1, by omega⟩
 rw [RUN, call_eq fe104 _ rfl]
 cases b <;> simp [c104, whenE]
theorem when94 {n : Nat} (hn : 1 ≤ n) (b : Bool) (e : Int) : RUN n 94 [.p (.bool b), iv e] = .ret (iv (whenE b e)) := by
 obtain ⟨d, rfl⟩ : ∃ d, n = d + 1 := ⟨n - 1, by omega⟩
 rw [RUN, call_eq fe94 _ rfl]
 cases b <;> simp [c94, whenE]

theorem within92 {n : Nat} (hn : 2 ≤ n) (x lo hi : Int) : RUN n 92 [iv x, iv lo, iv hi] = .ret (iv (rangeE lo hi x)) := by
 obtain ⟨d, rfl⟩ : ∃ d, n = d + 2 := ⟨n - 2, by omega⟩
 rw [RUN, call_eq fe92 _ rfl]
 have hw := fun b e => when104 (n := d + 1) (by omega) b e
 by_cases h1 : x < lo <;> by_cases h2 : hi < x <;> simp [c92, h1, h2, hw, whenE, rangeE]
theorem range24 {n : Nat} (hn : 2 ≤ n) (x lo hi : Int) : RUN n 24 [iv x, iv lo, iv hi] = .ret (iv (rangeE lo hi x)) := by
 obtain ⟨d, rfl⟩ : ∃ d, n = d + 2 := ⟨n - 2, by omega⟩
 rw [RUN, call_eq fe24 _ rfl]
 have hw := fun b e => when94 (n := d + 1) (by omega) b e
 by_cases h1 : x < lo <;> by_cases h2 : hi < x <;> simp [c24, h1, h2, hw, whenE, rangeE]

theorem first91 {n : Nat} (hn : 1 ≤ n) (l : List Int) (hl : l.length < 1000000) : RUN n 91 [.p (.sl (pI l) l.length)] = .ret (iv (firstE l)) := by
 obtain ⟨d, rfl⟩ : ∃ d, n = d + 1 := ⟨n - 1, by omega⟩
 exact first_ok (a91 ▸ fe91) (fun _ => rfl) l hl

theorem first23 {n : Nat} (hn : 1 ≤ n) (l : List Int) (hl : l.length < 1000000) : RUN n 23 [.p (.sl (pI l) l.length)] = .ret (iv (firstE l)) := by
 obtain ⟨d, rfl⟩ : ∃ d, n = d + 1 := ⟨n - 1, by omega⟩
 rw [RUN, call_eq fe23 _ rfl]
 let inv : Nat → St := fun i => ⟨[(0, .p (.sl (pI l) l.length)), (3, iv i)], []⟩
 let out : Nat → Ex × St := fun i => if firstE (l.drop i) = 0 then (.exit 0, ⟨[(0, .p (.sl (pI l) l.length)), (3, iv l.length), (7, .p (.bool false))], []⟩) else (.ret, ⟨[(2, iv (firstE (l.drop i)))], []⟩)
 simp [c23]
 rw [loop_rec inv out l.length (by rfl)]
 ·by_cases h : firstE l = 0 <;> simp [out, h]
 ·intro i hi
  have hx : l[i]? = some l[i] := List.getElem?_eq_getElem hi
  have hd : firstE (l.drop i) = if l[i] = 0 then firstE (l.drop (i + 1)) else l[i] := by rw [List.drop_eq_getElem_cons hi]; rfl
  by_cases h : l[i] = 0
  ·refine .inl ⟨?_, ?_⟩
   ·simp [inv, loopS_eq, c23L0, hi, h, wrap_succ (i := i) (by omega)]
   ·simp [out, hd, h]
  ·refine .inr ⟨?_, ?_⟩
   ·simp [inv, loopS_eq, c23L0, hi, h, out, hd]
   ·simp [out, hd, h]
 ·simp [inv, loopS_eq, c23L0, out, firstE]
 ·simp [loopFuel]; omega

theorem first91_2 {n : Nat} (hn : 1 ≤ n) (a b : Int) : RUN n 91 [.p (.sl [.int .i64 a, .int .i64 b] 2)] = .ret (iv (firstE [a, b])) := first91 hn [a, b] (by simp)
theorem first91_3 {n : Nat} (hn : 1 ≤ n) (a b c : Int) : RUN n 91 [.p (.sl [.int .i64 a, .int .i64 b, .int .i64 c] 3)] = .ret (iv (firstE [a, b, c])) := first91 hn [a, b, c] (by simp)
theorem first23_2 {n : Nat} (hn : 1 ≤ n) (a b : Int) : RUN n 23 [.p (.sl [.int .i64 a, .int .i64 b] 2)] = .ret (iv (firstE [a, b])) := first23 hn [a, b] (by simp)
theorem first23_3 {n : Nat} (hn : 1 ≤ n) (a b c : Int) : RUN n 23 [.p (.sl [.int .i64 a, .int .i64 b, .int .i64 c] 3)] = .ret (iv (firstE [a, b, c])) := first23 hn [a, b, c] (by simp)
abbrev isl (l : List Int) : AVal := .p (.sl (pI l) l.length)
abbrev csl (c : List (Int × Int)) : AVal := .p (.sl (cI c) c.length)

theorem fc105 : F 105 = some (mapC (.p (.int .i64 0)) 8) := a105 ▸ fe105

theorem firstE_cons (e : Int) (r : List Int) : firstE (e :: r) = if e = 0 then firstE r else e := rfl

theorem firstE_zero {l : List Int} : firstE l = 0 ↔ ∀ e ∈ l, e = 0 := by
 induction l with
 | nil => simp [firstE]
 | cons e r ih =>
  rw [firstE_cons]
  by_cases h : e = 0 <;> simp [h, ih]

theorem max2 (a b : Int) : maxInt a [iv b] = some (max a b) := by
 simp only [maxInt]; congr 1; split <;> omega
abbrev sv (l : List UInt8) : AVal := .p (.str l)
def digB (b : UInt8) : Bool := decide (48 ≤ b.toNat) && decide (b.toNat ≤ 57)
def valF (l : List UInt8) : Nat → Int
 | 0 => 0
 | k + 1 => 10 * valF l k + ((l.getD k 0).toNat - 48)
def leadB (l : List UInt8) : Bool := decide (l.length = 1) || (l.getD 0 0 != 48)
def digOk (l : List UInt8) : Bool := decide (l ≠ []) && decide (l.length ≤ 9) && l.all digB && leadB l
def digV (l : List UInt8) : Int := valF l l.length

abbrev bv (c : UInt8) : AVal := .p (.int .u8 (c.toNat : Int))

theorem ints43 {n : Nat} (hn : 1 ≤ n) (l : List Int) (hl : l.length < 1000000) : RUN n 43 [isl l] = .ret (.own (pI l) l.length 1) := by
 obtain ⟨d, rfl⟩ : ∃ d, n = d + 1 := ⟨n - 1, by omega⟩
 rw [RUN, call_eq fe43 _ rfl]
 have hlim : l.length ≤ lim := by simp only [lim]; omega
 by_cases h : l.length = 0
 ·have : l = [] := List.eq_nil_of_length_eq_zero h
  subst this
  simp -implicitDefEqProofs [c43, lim]
 ·simp -implicitDefEqProofs [c43, hlim, h]

def pB (l : List UInt8) : List PVal := l.map fun b => .int .u8 (b.toNat : Int)
@[simp] theorem pB_length (l : List UInt8) : (pB l).length = l.length := by simp [pB]
end Fw
