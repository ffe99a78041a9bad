/- What is alike in several chapters: errors, ranges, names, strings. -/
import Derived.Test.YtbaedpfgjpkabaaGreatDoorChC
import Derived.Test.YtbaedpfgjpkabaaGreatDoorFwC
set_option maxHeartbeats 8000000
namespace Fw
open Go
attribute [local irreducible] evCode evOps evOpsD evOper evOperD evOp evFn loopN T.All T.bind callPure callOp opsK opsDK restK seqK blockK loopS setK setQ giveK scalK gcK finish finS rfunK yldK yldB loopK

abbrev iv (n : Int) : AVal := .p (.int .i64 n)
abbrev RUN (n f : Nat) (args : List AVal) : T AVal := callPure (evFn F C0 G0 n) C0 (.fn f) args

def whenE (b : Bool) (e : Int) : Int := if b then e else 0
def rangeE (lo hi n : Int) : Int := if n < lo ∨ hi < n then 3 else 0

theorem when104 {n : Nat} (hn : 1 ≤ n) (b : Bool) (e : Int) : RUN n 104 [.p (.bool b), iv e] = .ret (iv (whenE b e)) := by
  obtain ⟨d, rfl⟩ : ∃ d, n = d + 1 := ⟨n - 1, by omega⟩
  rw [RUN, call_eq fe104 _ rfl]
  cases b <;> simp [c104, whenE]
theorem when109 {n : Nat} (hn : 1 ≤ n) (b : Bool) (e : Int) : RUN n 109 [.p (.bool b), iv e] = .ret (iv (whenE b e)) := by
  obtain ⟨d, rfl⟩ : ∃ d, n = d + 1 := ⟨n - 1, by omega⟩
  rw [RUN, call_eq fe109 _ rfl]
  cases b <;> simp [c109, whenE]

theorem within111 {n : Nat} (hn : 2 ≤ n) (x lo hi : Int) : RUN n 111 [iv x, iv lo, iv hi] = .ret (iv (rangeE lo hi x)) := by
  obtain ⟨d, rfl⟩ : ∃ d, n = d + 2 := ⟨n - 2, by omega⟩
  rw [RUN, call_eq fe111 _ rfl]
  have hw := fun b e => when104 (n := d + 1) (by omega) b e
  by_cases h1 : x < lo <;> by_cases h2 : hi < x <;> simp [c111, h1, h2, hw, whenE, rangeE]
theorem range108 {n : Nat} (hn : 2 ≤ n) (x lo hi : Int) : RUN n 108 [iv x, iv lo, iv hi] = .ret (iv (rangeE lo hi x)) := by
  obtain ⟨d, rfl⟩ : ∃ d, n = d + 2 := ⟨n - 2, by omega⟩
  rw [RUN, call_eq fe108 _ rfl]
  have hw := fun b e => when109 (n := d + 1) (by omega) b e
  by_cases h1 : x < lo <;> by_cases h2 : hi < x <;> simp [c108, h1, h2, hw, whenE, rangeE]

theorem first103 {n : Nat} (hn : 1 ≤ n) (l : List Int) (hl : l.length < 1000000) : RUN n 103 [.p (.sl (pI l) l.length)] = .ret (iv (firstE l)) := by
  obtain ⟨d, rfl⟩ : ∃ d, n = d + 1 := ⟨n - 1, by omega⟩
  exact first_ok (m103 ▸ fe103) (fun _ => rfl) l hl

theorem first29 {n : Nat} (hn : 1 ≤ n) (l : List Int) (hl : l.length < 1000000) : RUN n 29 [.p (.sl (pI l) l.length)] = .ret (iv (firstE l)) := by
  obtain ⟨d, rfl⟩ : ∃ d, n = d + 1 := ⟨n - 1, by omega⟩
  rw [RUN, call_eq fe29 _ rfl]
  let inv : Nat → St := fun i => ⟨[(0, .p (.sl (pI l) l.length)), (3, iv i)], []⟩
  let out : Nat → Ex × St := fun i => if firstE (l.drop i) = 0 then (.exit 0, ⟨[(0, .p (.sl (pI l) l.length)), (3, iv l.length), (7, .p (.bool false))], []⟩) else (.ret, ⟨[(2, iv (firstE (l.drop i)))], []⟩)
  simp [c29]
  rw [loop_rec inv out l.length (by rfl)]
  · by_cases h : firstE l = 0 <;> simp [out, h]
  · intro i hi
    have hx : l[i]? = some l[i] := List.getElem?_eq_getElem hi
    have hd : firstE (l.drop i) = if l[i] = 0 then firstE (l.drop (i + 1)) else l[i] := by rw [List.drop_eq_getElem_cons hi]; rfl
    by_cases h : l[i] = 0
    · refine .inl ⟨?_, ?_⟩
      · simp [inv, loopS_eq, c29L0, hi, h, wrap_succ (i := i) (by omega)]
      · simp [out, hd, h]
    · refine .inr ⟨?_, ?_⟩
      · simp [inv, loopS_eq, c29L0, hi, h, out, hd]
      · simp [out, hd, h]
  · simp [inv, loopS_eq, c29L0, out, firstE]
  · simp [loopFuel]; omega

/-- a list that is written out -/
theorem first103_2 {n : Nat} (hn : 1 ≤ n) (a b : Int) : RUN n 103 [.p (.sl [.int .i64 a, .int .i64 b] 2)] = .ret (iv (firstE [a, b])) := first103 hn [a, b] (by simp)
theorem first103_3 {n : Nat} (hn : 1 ≤ n) (a b c : Int) : RUN n 103 [.p (.sl [.int .i64 a, .int .i64 b, .int .i64 c] 3)] = .ret (iv (firstE [a, b, c])) := first103 hn [a, b, c] (by simp)
theorem first29_2 {n : Nat} (hn : 1 ≤ n) (a b : Int) : RUN n 29 [.p (.sl [.int .i64 a, .int .i64 b] 2)] = .ret (iv (firstE [a, b])) := first29 hn [a, b] (by simp)
theorem first29_3 {n : Nat} (hn : 1 ≤ n) (a b c : Int) : RUN n 29 [.p (.sl [.int .i64 a, .int .i64 b, .int .i64 c] 3)] = .ret (iv (firstE [a, b, c])) := first29 hn [a, b, c] (by simp)
/-- the error of an interval -/
def ivE (lo hi : Int) (x : Int × Int) : Int := firstE [rangeE lo hi x.1, rangeE lo hi x.2, whenE (decide (x.2 < x.1)) 11]

theorem interval121 {n : Nat} (hn : 3 ≤ n) (x : Int × Int) (lo hi : Int) : RUN n 121 [.agg [iv x.1, iv x.2], iv lo, iv hi] = .ret (iv (ivE lo hi x)) := by
  obtain ⟨d, rfl⟩ : ∃ d, n = d + 3 := ⟨n - 3, by omega⟩
  rw [RUN, call_eq fe121 _ rfl]
  simp [c121, within111 (n := d + 2), when104 (n := d + 2), first103_3 (n := d + 2), ivE]

theorem ends84 {n : Nat} (hn : 3 ≤ n) (x : Int × Int) (lo hi : Int) : RUN n 84 [.agg [iv x.1, iv x.2], iv lo, iv hi] = .ret (iv (ivE lo hi x)) := by
  obtain ⟨d, rfl⟩ : ∃ d, n = d + 3 := ⟨n - 3, by omega⟩
  rw [RUN, call_eq fe84 _ rfl]
  simp [c84, range108 (n := d + 2), when109 (n := d + 2), first29_3 (n := d + 2), ivE]
abbrev isl (l : List Int) : AVal := .p (.sl (pI l) l.length)
abbrev csl (c : List (Int × Int)) : AVal := .p (.sl (cI c) c.length)

theorem firstE_cons (e : Int) (r : List Int) : firstE (e :: r) = if e = 0 then firstE r else e := rfl

theorem firstE_zero {l : List Int} : firstE l = 0 ↔ ∀ e ∈ l, e = 0 := by
  induction l with
  | nil => simp [firstE]
  | cons e r ih =>
    rw [firstE_cons]
    by_cases h : e = 0 <;> simp [h, ih]

/-- the least and the greatest of the first numbers but one -/
def loF (l : List Int) : Nat → Int
  | 0 => l.getD 0 0
  | k + 1 => min (loF l k) (l.getD (k + 1) 0)
def hiF (l : List Int) : Nat → Int
  | 0 => l.getD 0 0
  | k + 1 => max (hiF l k) (l.getD (k + 1) 0)

theorem max2 (a b : Int) : maxInt a [iv b] = some (max a b) := by
  simp only [maxInt]; congr 1; split <;> omega
abbrev sv (l : List UInt8) : AVal := .p (.str l)
def letB (b : Nat) : Bool := (decide (97 ≤ b) && decide (b ≤ 122)) || (decide (65 ≤ b) && decide (b ≤ 90))
def tailB (b : Nat) : Bool := (decide (48 ≤ b) && decide (b ≤ 57)) || decide (b = 95)
def nameE (l : List UInt8) (i : Nat) : Int := if (letB (l.getD i 0).toNat || (decide (0 < i) && tailB (l.getD i 0).toNat)) = true then 0 else 1
def nameB (l : List UInt8) : Bool := decide (l ≠ []) && decide (l.length ≤ 24) && decide (firstE ((List.range l.length).map (nameE l)) = 0)

theorem nan186 {n : Nat} (hn : 1 ≤ n) (a : Int) : RUN n 186 [iv a] = .ret (.p (.bool false)) := by
  obtain ⟨d, rfl⟩ : ∃ d, n = d + 1 := ⟨n - 1, by omega⟩
  rw [RUN, call_eq fe186 _ rfl]
  simp -implicitDefEqProofs [c186]
def tJ (x v : Int) (acc : List UInt8) : St := ⟨[(0, iv x), (3, sv acc), (4, iv v)], []⟩

def digB (b : UInt8) : Bool := decide (48 ≤ b.toNat) && decide (b.toNat ≤ 57)
/-- the number of the first digits -/
def valF (l : List UInt8) : Nat → Int
  | 0 => 0
  | k + 1 => 10 * valF l k + ((l.getD k 0).toNat - 48)
def leadB (l : List UInt8) : Bool := decide (l.length = 1) || (l.getD 0 0 != 48)
def digOk (l : List UInt8) : Bool := decide (l ≠ []) && decide (l.length ≤ 9) && l.all digB && leadB l
def digV (l : List UInt8) : Int := valF l l.length

/-- an error at the first byte that is no digit -/
def digE (l : List UInt8) (k : Nat) : Int := if digB (l.getD k 0) = true then 0 else 1
/-- the number of the first digits, as the machine reckons -/
def valW (l : List UInt8) : Nat → Int
  | 0 => 0
  | k + 1 => IntKind.i64.wrap (IntKind.i64.wrap (10 * valW l k) + ((l.getD k 0).toNat - 48))
abbrev bv (c : UInt8) : AVal := .p (.int .u8 (c.toNat : Int))

/-- the words that are finished, where the last one begins -/
def doneS (c : UInt8) (l : List UInt8) : Nat → List (List UInt8) × Nat
  | 0 => ([], 0)
  | i + 1 => if l.getD i 0 = c then ((doneS c l i).1 ++ [(l.take i).drop (doneS c l i).2], i + 1) else doneS c l i

structure TowI where
  pull : List Int
  fl : Int
  fh : Int
  bl : Int
  bh : Int
  wall : Int
def runF (t : TowI) (f : Int) : Nat → Int
  | 0 => 0
  | i + 1 => max 0 (runF t f i + t.pull.getD i 0 - f)
def runL (t : TowI) (f : Int) : List Int := (List.range (t.pull.length + 1)).map (runF t f)
@[simp] theorem runL_length (t : TowI) (f : Int) : (runL t f).length = t.pull.length + 1 := by simp [runL]
def bad2 (t : TowI) (tab : List Int) (i : Nat) : Bool := decide ((t.wall - i) * (t.bl + t.fl) < tab.getD i 0)
def e2 (t : TowI) (tab : List Int) (k : Nat) : Int := if bad2 t tab k = true then 1 else 0
def reL (t : TowI) : List (Int × Int) := (List.range (t.pull.length + 1)).map fun i => (runF t t.fh i, runF t t.fl i)
@[simp] theorem reL_length (t : TowI) : (reL t).length = t.pull.length + 1 := by simp [reL]
def upI (x den : Int) : Int := -((-x) / den)
end Fw
