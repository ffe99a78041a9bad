/- Small functions of the pulse chapter and of its reference: what they return. -/
import Derived.Test.YtombnimlolbekaaGreatDoorPuFe
import Derived.Test.YtombnimlolbekaaGreatDoorFwC
set_option maxHeartbeats 8000000
namespace Fw
open Go
attribute [local irreducible] evCode evOps evOpsD evOper evOperD evOp evFn loopN T.All T.bind callPure callOp opsK opsDK restK seqK blockK loopS setK setQ giveK scalK gcK finish finS rfunK yldK yldB loopK

abbrev iv (n : Int) : AVal := .p (.int .i64 n)
abbrev RUN (n f : Nat) (args : List AVal) : T AVal := callPure (evFn F C0 G0 n) C0 (.fn f) args

def whenE (b : Bool) (e : Int) : Int := if b then e else 0
def rangeE (lo hi n : Int) : Int := if n < lo ∨ hi < n then 3 else 0

def cI : List (Int × Int) → List PVal
 | [] => []
 | x :: r => .int .i64 x.1 :: .int .i64 x.2 :: cI r

@[simp] theorem cI_length (l : List (Int × Int)) : (cI l).length = l.length * 2 := by
 induction l with
 | nil => rfl
 | cons x r ih => simp [cI, ih]; omega

theorem cI_drop (l : List (Int × Int)) (i : Nat) (h : i < l.length) : (cI l).drop (i * 2) = .int .i64 l[i].1 :: .int .i64 l[i].2 :: cI (l.drop (i + 1)) := by
 induction l generalizing i with
 | nil => cases h
 | cons x r ih =>
  cases i with
  | zero => simp [cI]
  | succ i =>
   have := ih i (by simpa using h)
   rw [show (i + 1) * 2 = i * 2 + 2 by omega]
   simpa [cI] using this

theorem when107 {n : Nat} (hn : 1 ≤ n) (b : Bool) (e : Int) : RUN n 107 [.p (.bool b), iv e] = .ret (iv (whenE b e)) := by
 obtain ⟨d, rfl⟩ : ∃ d, n = d + 1 := ⟨n - 1, by omega⟩
 rw [RUN, call_eq fe107 _ rfl]
 cases b <;> simp [c107, whenE]
theorem when46 {n : Nat} (hn : 1 ≤ n) (b : Bool) (e : Int) : RUN n 46 [.p (.bool b), iv e] = .ret (iv (whenE b e)) := by
 obtain ⟨d, rfl⟩ : ∃ d, n = d + 1 := ⟨n - 1, by omega⟩
 rw [RUN, call_eq fe46 _ rfl]
 cases b <;> simp [c46, whenE]

theorem within95 {n : Nat} (hn : 2 ≤ n) (x lo hi : Int) : RUN n 95 [iv x, iv lo, iv hi] = .ret (iv (rangeE lo hi x)) := by
 obtain ⟨d, rfl⟩ : ∃ d, n = d + 2 := ⟨n - 2, by omega⟩
 rw [RUN, call_eq fe95 _ rfl]
 have hw := fun b e => when107 (n := d + 1) (by omega) b e
 by_cases h1 : x < lo <;> by_cases h2 : hi < x <;> simp [c95, h1, h2, hw, whenE, rangeE]
theorem range101 {n : Nat} (hn : 2 ≤ n) (x lo hi : Int) : RUN n 101 [iv x, iv lo, iv hi] = .ret (iv (rangeE lo hi x)) := by
 obtain ⟨d, rfl⟩ : ∃ d, n = d + 2 := ⟨n - 2, by omega⟩
 rw [RUN, call_eq fe101 _ rfl]
 have hw := fun b e => when46 (n := d + 1) (by omega) b e
 by_cases h1 : x < lo <;> by_cases h2 : hi < x <;> simp [c101, h1, h2, hw, whenE, rangeE]

theorem m92 : c92 = firstC := rfl
theorem first92 {n : Nat} (hn : 1 ≤ n) (l : List Int) (hl : l.length < 1000000) : RUN n 92 [.p (.sl (pI l) l.length)] = .ret (iv (firstE l)) := by
 obtain ⟨d, rfl⟩ : ∃ d, n = d + 1 := ⟨n - 1, by omega⟩
 exact first_ok (m92 ▸ fe92) (fun _ => rfl) l hl

theorem first100 {n : Nat} (hn : 1 ≤ n) (l : List Int) (hl : l.length < 1000000) : RUN n 100 [.p (.sl (pI l) l.length)] = .ret (iv (firstE l)) := by
 obtain ⟨d, rfl⟩ : ∃ d, n = d + 1 := ⟨n - 1, by omega⟩
 rw [RUN, call_eq fe100 _ rfl]
 let inv : Nat → St := fun i => ⟨[(0, .p (.sl (pI l) l.length)), (3, iv i)], []⟩
 let out : Nat → Ex × St := fun i => if firstE (l.drop i) = 0 then (.exit 0, ⟨[(0, .p (.sl (pI l) l.length)), (3, iv l.length), (7, .p (.bool false))], []⟩) else (.ret, ⟨[(2, iv (firstE (l.drop i)))], []⟩)
 simp [c100]
 rw [loop_rec inv out l.length (by rfl)]
 ·by_cases h : firstE l = 0 <;> simp [out, h]
 ·intro i hi
  have hx : l[i]? = some l[i] := List.getElem?_eq_getElem hi
  have hd : firstE (l.drop i) = if l[i] = 0 then firstE (l.drop (i + 1)) else l[i] := by rw [List.drop_eq_getElem_cons hi]; rfl
  by_cases h : l[i] = 0
  ·refine .inl ⟨?_, ?_⟩
   ·simp [inv, loopS_eq, c100L0, hi, h, wrap_succ (i := i) (by omega)]
   ·simp [out, hd, h]
  ·refine .inr ⟨?_, ?_⟩
   ·simp [inv, loopS_eq, c100L0, hi, h, out, hd]
   ·simp [out, hd, h]
 ·simp [inv, loopS_eq, c100L0, out, firstE]
 ·simp [loopFuel]; omega

theorem first92_2 {n : Nat} (hn : 1 ≤ n) (a b : Int) : RUN n 92 [.p (.sl [.int .i64 a, .int .i64 b] 2)] = .ret (iv (firstE [a, b])) := first92 hn [a, b] (by simp)
theorem first92_3 {n : Nat} (hn : 1 ≤ n) (a b c : Int) : RUN n 92 [.p (.sl [.int .i64 a, .int .i64 b, .int .i64 c] 3)] = .ret (iv (firstE [a, b, c])) := first92 hn [a, b, c] (by simp)
theorem first92_4 {n : Nat} (hn : 1 ≤ n) (a b c e : Int) : RUN n 92 [.p (.sl [.int .i64 a, .int .i64 b, .int .i64 c, .int .i64 e] 4)] = .ret (iv (firstE [a, b, c, e])) := first92 hn [a, b, c, e] (by simp)
theorem first100_2 {n : Nat} (hn : 1 ≤ n) (a b : Int) : RUN n 100 [.p (.sl [.int .i64 a, .int .i64 b] 2)] = .ret (iv (firstE [a, b])) := first100 hn [a, b] (by simp)
theorem first100_3 {n : Nat} (hn : 1 ≤ n) (a b c : Int) : RUN n 100 [.p (.sl [.int .i64 a, .int .i64 b, .int .i64 c] 3)] = .ret (iv (firstE [a, b, c])) := first100 hn [a, b, c] (by simp)
def sizedE (n most : Int) : Int := firstE [whenE (n == 0) 12, whenE (decide (most < n)) 5]
def ivE (lo hi : Int) (x : Int × Int) : Int := firstE [rangeE lo hi x.1, rangeE lo hi x.2, whenE (decide (x.2 < x.1)) 11]

theorem sized106 {n : Nat} (hn : 2 ≤ n) (a b : Int) : RUN n 106 [iv a, iv b] = .ret (iv (sizedE a b)) := by
 obtain ⟨d, rfl⟩ : ∃ d, n = d + 2 := ⟨n - 2, by omega⟩
 rw [RUN, call_eq fe106 _ rfl]
 simp [c106, when107 (n := d + 1), first92_2 (n := d + 1), sizedE]

theorem interval105 {n : Nat} (hn : 3 ≤ n) (x : Int × Int) (lo hi : Int) : RUN n 105 [.agg [iv x.1, iv x.2], iv lo, iv hi] = .ret (iv (ivE lo hi x)) := by
 obtain ⟨d, rfl⟩ : ∃ d, n = d + 3 := ⟨n - 3, by omega⟩
 rw [RUN, call_eq fe105 _ rfl]
 simp [c105, within95 (n := d + 2), when107 (n := d + 2), first92_3 (n := d + 2), ivE]

theorem ends102 {n : Nat} (hn : 3 ≤ n) (x : Int × Int) (lo hi : Int) : RUN n 102 [.agg [iv x.1, iv x.2], iv lo, iv hi] = .ret (iv (ivE lo hi x)) := by
 obtain ⟨d, rfl⟩ : ∃ d, n = d + 3 := ⟨n - 3, by omega⟩
 rw [RUN, call_eq fe102 _ rfl]
 simp [c102, range101 (n := d + 2), when46 (n := d + 2), first100_3 (n := d + 2), ivE]
end Fw
