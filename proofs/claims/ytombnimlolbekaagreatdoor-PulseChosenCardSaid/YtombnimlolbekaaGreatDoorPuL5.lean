/- Sums and comparisons: the pulse chapter and its reference. -/
import Derived.Test.YtombnimlolbekaaGreatDoorPuL4
set_option maxHeartbeats 8000000
namespace Fw
open Go
attribute [local irreducible] evCode evOps evOpsD evOper evOperD evOp evFn loopN T.All T.bind callPure callOp opsK opsDK restK seqK blockK loopS setK setQ giveK scalK gcK finish finS rfunK yldK yldB loopK

def sumF (l : List Int) : Nat → Int
 | 0 => 0
 | i + 1 => sumF l i + l.getD i 0
def sumsL (l : List Int) : List Int := (List.range l.length).map fun i => sumF l (i + 1)

theorem sumsL_length (l : List Int) : (sumsL l).length = l.length := by simp [sumsL]

theorem sumF_bound {l : List Int} {b : Int} (_hb : 0 ≤ b) (h : ∀ a ∈ l, -b ≤ a ∧ a ≤ b) : ∀ (i : Nat), i ≤ l.length → -(i * b) ≤ sumF l i ∧ sumF l i ≤ i * b := by
 intro i
 induction i with
 | zero => intro _; simp [sumF]
 | succ i ih =>
  intro hi
  have h1 := ih (by omega)
  have h2 := h l[i] (List.getElem_mem (by omega))
  have h3 : l.getD i 0 = l[i] := by simp [List.getD_eq_getElem?_getD, List.getElem?_eq_getElem (show i < l.length by omega)]
  have h4 : ((i + 1 : Nat) : Int) * b = i * b + b := by rw [Int.natCast_add, Int.add_mul]; simp
  simp only [sumF, h3, h4]
  omega

structure Small (l : List Int) : Prop where
 len : l.length < 1000000
 sum : ∀ i, i ≤ l.length → -9223372036854775808 ≤ sumF l i ∧ sumF l i ≤ 9223372036854775807

theorem take_sums (l : List Int) (i : Nat) (h : i < l.length) : (sumsL l).take (i + 1) = (sumsL l).take i ++ [sumF l (i + 1)] := by
 rw [List.take_add_one]; simp [sumsL, h]

theorem add153 {d : Nat} (x s : Int) (r : Sto) (hw : IntKind.i64.wrap (s + x) = s + x) (hr : get r 0 = none) : evFn F C0 G0 (d + 1) (.fn 153) [iv x, .ptr 0 0 0] (r ++ [(0, .arr [.int .i64 s] 0 1)]) = .ret (iv (s + x), r ++ [(0, .arr [.int .i64 (s + x)] 0 1)]) := by
 have hg : ∀ o, get (r ++ [(0, o)]) 0 = some o := fun o => by
  induction r with
  | nil => simp
  | cons y r ih =>
   obtain ⟨j, q⟩ := y
   simp only [get] at hr
   split at hr
   ·cases hr
   ·rename_i hj; simp only [List.cons_append, get, if_neg hj]; exact ih hr
 have hp : ∀ o o', put (r ++ [(0, o)]) 0 o' = r ++ [(0, o')] := fun o o' => by
  clear hg
  induction r with
  | nil => simp
  | cons y r ih =>
   obtain ⟨j, q⟩ := y
   simp only [get] at hr
   split at hr
   ·cases hr
   ·rename_i hj; simp only [List.cons_append, put, if_neg hj]; rw [ih hr]
 rw [evFn_fn fe153]
 simp -implicitDefEqProofs [c153, hg, hp, hw]

theorem sums152 {d : Nat} {l : List Int} (h : Small l) : evFn F C0 G0 (d + 2) (.fn 152) [isl l, .clo 153 [] [.ptr 0 0 0]] [(0, .arr [.int .i64 0] 0 1)] =
  .ret (.sl 1 l.length 0 l.length, [(1, .arr (pI (sumsL l)) l.length 1), (0, .arr [.int .i64 (sumF l l.length)] 0 1)]) := by
 rw [evFn_fn fe152]
 have hlen := h.len
 let inv : Nat → St := fun i => ⟨[(1, .clo 153 [] [.ptr 0 0 0]), (5, .sl 1 i 0 i), (8, isl l), (9, iv l.length), (10, iv i)], [(1, .arr (pI ((sumsL l).take i)) i 1), (0, .arr [.int .i64 (sumF l i)] 0 1)]⟩
 have hsl := sumsL_length l
 have htl : (sumsL l).take l.length = sumsL l := List.take_of_length_le (by omega)
 simp [c152]
 rw [loop_run inv l.length (e := .exit 0) (st' := ⟨(inv l.length).env ++ [(11, .p (.bool false))], (inv l.length).sto⟩) (by simp)]
 ·simp [inv, htl]
 ·rfl
 ·intro i hi
  have hx : l[i]? = some l[i] := List.getElem?_eq_getElem hi
  have hlim : i + 1 ≤ lim := by simp only [lim]; omega
  have hto : ((sumsL l).take i).length = i := by simp [hsl]; omega
  have hs : sumF l (i + 1) = sumF l i + l[i] := by simp [sumF, List.getD_eq_getElem?_getD, hx]
  have hb := h.sum (i + 1) (by omega)
  rw [hs] at hb
  have w := wrap64 hb.1 hb.2
  have ht := take_sums l i hi
  rw [hs] at ht
  have ha := add153 (d := d) l[i] (sumF l i) [(1, .arr (pI ((sumsL l).take i)) i 1)] w (by simp)
  simp only [List.cons_append, List.nil_append] at ha
  simp -implicitDefEqProofs [inv, loopS_eq, c152L0, hi, hlim, hto, wrap_succ (i := i) (by omega), ht, hs, ha, ← pI_snoc]
 ·simp [inv, loopS_eq, c152L0]
 ·simp [loopFuel]; omega

theorem sums111 {n : Nat} (hn : 3 ≤ n) {l : List Int} (h : Small l) : RUN n 111 [isl l] = .ret (.own (pI (sumsL l)) l.length 1) := by
 obtain ⟨d, rfl⟩ : ∃ d, n = d + 3 := ⟨n - 3, by omega⟩
 rw [RUN, call_eq fe111 _ rfl]
 have h1 := sums152 (d := d) h
 have hsl := sumsL_length l
 simp -implicitDefEqProofs [c111, h1, hsl]

theorem small_of {p : List Int} (h1 : p.length ≤ 64) (h2 : ∀ a ∈ p, -100000 ≤ a ∧ a ≤ 100000) : Small p ∧ Small (sumsL p) := by
 have hb := sumF_bound (b := 100000) (by omega) h2
 have hs : ∀ a ∈ sumsL p, -6400000 ≤ a ∧ a ≤ 6400000 := fun a ha => by
  obtain ⟨i, hi, rfl⟩ := List.mem_map.1 ha
  have hi' := List.mem_range.1 hi
  have := hb (i + 1) (by omega)
  omega
 have hb2 := sumF_bound (b := 6400000) (by omega) hs
 refine ⟨⟨by omega, fun i hi => ?_⟩, ⟨by rw [sumsL_length]; omega, fun i hi => ?_⟩⟩
 ·have := hb i hi; omega
 ·have := hb2 i hi; rw [sumsL_length] at hi; omega

theorem speeds35 {n : Nat} (hn : 7 ≤ n) (p : List Int) (hp : p.length < 1000000) : RUN n 35 [isl p] = .ret (if pulseE p = 0 then .tup [.p (.sl (pI (sumsL p)) p.length), iv 0] else .tup [.p (.sl [] 0), iv (pulseE p)]) := by
 obtain ⟨d, rfl⟩ : ∃ d, n = d + 7 := ⟨n - 7, by omega⟩
 rw [RUN, call_eq fe35 _ rfl]
 have h1 := pulse110 (n := d + 6) (by omega) p hp
 by_cases h : pulseE p = 0
 ·obtain ⟨_, q1, q2⟩ := pulse_of h
  have h2 := sums111 (n := d + 6) (by omega) (small_of q1 q2).1
  rw [if_pos h]
  simp -implicitDefEqProofs [c35, h1, h, h2]
 ·rw [if_neg h]
  simp -implicitDefEqProofs [c35, h1, h]

theorem ways36 {n : Nat} (hn : 7 ≤ n) (p : List Int) (hp : p.length < 1000000) : RUN n 36 [isl p] = .ret (if pulseE p = 0 then .tup [.p (.sl (pI (sumsL (sumsL p))) p.length), iv 0] else .tup [.p (.sl [] 0), iv (pulseE p)]) := by
 obtain ⟨d, rfl⟩ : ∃ d, n = d + 7 := ⟨n - 7, by omega⟩
 rw [RUN, call_eq fe36 _ rfl]
 have h1 := pulse110 (n := d + 6) (by omega) p hp
 by_cases h : pulseE p = 0
 ·obtain ⟨_, q1, q2⟩ := pulse_of h
  have h2 := sums111 (n := d + 6) (by omega) (small_of q1 q2).1
  have h3 := sums111 (n := d + 6) (by omega) (small_of q1 q2).2
  simp only [isl, sumsL_length] at h3
  rw [if_pos h]
  simp -implicitDefEqProofs [c36, h1, h, h2, h3]
 ·rw [if_neg h]
  simp -implicitDefEqProofs [c36, h1, h]

/-! the law's own helpers -/

theorem ints33 {n : Nat} (hn : 1 ≤ n) (l : List Int) (hl : l.length < 1000000) : ∃ v, RUN n 33 [isl l] = .ret (.own (pI l) l.length 1) ∧ v = l := by
 obtain ⟨d, rfl⟩ : ∃ d, n = d + 1 := ⟨n - 1, by omega⟩
 refine ⟨l, ?_, rfl⟩
 rw [RUN, call_eq fe33 _ rfl]
 have hlim : l.length ≤ lim := by simp only [lim]; omega
 by_cases h : l.length = 0
 ·have : l = [] := List.eq_nil_of_length_eq_zero h
  subst this
  simp -implicitDefEqProofs [c33, lim]
 ·simp -implicitDefEqProofs [c33, hlim, h]

theorem same29 {n : Nat} (hn : 1 ≤ n) (a b : List Int) (ha : a.length < 1000000) : RUN n 29 [isl a, isl b] = .ret (.p (.bool (decide (a = b)))) := by
 obtain ⟨d, rfl⟩ : ∃ d, n = d + 1 := ⟨n - 1, by omega⟩
 rw [RUN, call_eq fe29 _ rfl]
 by_cases hl : a.length = b.length
 ·let inv : Nat → St := fun i => ⟨[(0, isl a), (1, isl b), (5, iv i)], []⟩
  let out : Nat → Ex × St := fun i => if a.drop i = b.drop i then (.exit 0, ⟨(inv a.length).env ++ [(14, .p (.bool false))], []⟩) else (.ret, ⟨[(4, .p (.bool false))], []⟩)
  simp -implicitDefEqProofs [c29, hl]
  rw [loop_rec inv out a.length (by simp [inv])]
  ·by_cases hq : a = b <;> simp [out, inv, hq]
  ·intro i hi
   have hi' : i < b.length := by omega
   have hia : (i : Int) < a.length := by omega
   have hx : a[i]? = some a[i] := List.getElem?_eq_getElem hi
   have hy : b[i]? = some b[i] := List.getElem?_eq_getElem hi'
   have hd : (a.drop i = b.drop i) ↔ a[i] = b[i] ∧ a.drop (i + 1) = b.drop (i + 1) := by
    rw [List.drop_eq_getElem_cons hi, List.drop_eq_getElem_cons hi', List.cons.injEq]
   by_cases h : a[i] = b[i]
   ·refine .inl ⟨?_, ?_⟩
    ·simp -implicitDefEqProofs [inv, loopS_eq, c29L0, hi', hl, h, wrap_succ (i := i) (by omega)]
    ·simp [out, hd, h]
   ·refine .inr ⟨?_, ?_⟩
    ·simp -implicitDefEqProofs [inv, loopS_eq, c29L0, hi', hl, h, out, hd]
    ·simp [out, hd, h]
  ·have h1 : a.drop a.length = [] := List.drop_of_length_le (by omega)
   have h2 : b.drop a.length = [] := List.drop_of_length_le (by omega)
   simp [inv, loopS_eq, c29L0, out, hl]
  ·simp [loopFuel]; omega
 ·have : ¬ a = b := fun h => hl (by rw [h])
  have hl' : ¬ (a.length : Int) = b.length := by omega
  simp -implicitDefEqProofs [c29, hl', this]
end Fw
