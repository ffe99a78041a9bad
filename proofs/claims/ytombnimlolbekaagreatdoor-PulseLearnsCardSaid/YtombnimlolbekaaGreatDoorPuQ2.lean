/- What is learned: the plain functions; the wish of a step by the reference. -/
import Derived.Test.YtombnimlolbekaaGreatDoorPuQ1
set_option maxHeartbeats 8000000
namespace Fw
open Go
attribute [local irreducible] evCode evOps evOpsD evOper evOperD evOp evFn loopN T.All T.bind callPure callOp opsK opsDK restK seqK blockK loopS setK setQ giveK scalK gcK finish finS rfunK yldK yldB loopK

/-- a loop that goes from a number to another one -/
theorem loop_from {step : St → T (Ex × St)} (J : Nat → St) (a b : Nat) (hab : a ≤ b) {e : Ex} {st' st0 : St} (he : e ≠ .normal) (h0 : step st0 = step (J a)) (hstep : ∀ t, a ≤ t → t < b → step (J t) = .ret (.normal, J (t + 1))) (hend : step (J b) = .ret (e, st')) {fuel : Nat} (hf : b < fuel) :
    loopN step fuel st0 = .ret (e, st') := by
  refine loop_run (fun k => J (a + k)) (b - a) he h0 (fun i hi => ?_) ?_ (by omega)
  · exact hstep (a + i) (by omega) (by omega)
  · rw [show a + (b - a) = b by omega]; exact hend

/-- sums from a tick on -/
def twoF (p : List Int) (a : Nat) : Nat → Int
  | 0 => 0
  | t + 1 => if t < a then 0 else twoF p a t + 2 * p.getD t 0
def bothF (c : List (Int × Int)) (a : Nat) : Nat → Int
  | 0 => 0
  | t + 1 => if t < a then 0 else bothF c a t + ((c.getD t (0, 0)).1 + (c.getD t (0, 0)).2)

theorem twoF_self (p : List Int) (a : Nat) : twoF p a a = 0 := by cases a <;> simp [twoF]
theorem bothF_self (c : List (Int × Int)) (a : Nat) : bothF c a a = 0 := by cases a <;> simp [bothF]
theorem twoF_succ (p : List Int) {a t : Nat} (h : a ≤ t) : twoF p a (t + 1) = twoF p a t + 2 * p.getD t 0 := by simp only [twoF, if_neg (show ¬ t < a by omega)]
theorem bothF_succ (c : List (Int × Int)) {a t : Nat} (h : a ≤ t) : bothF c a (t + 1) = bothF c a t + ((c.getD t (0, 0)).1 + (c.getD t (0, 0)).2) := by simp only [bothF, if_neg (show ¬ t < a by omega)]

theorem twoF_bound {c : List (Int × Int)} {p : List Int} (h : Fit c p) (a : Nat) : ∀ (t : Nat), t ≤ c.length → -(200000 * (t : Int)) ≤ twoF p a t ∧ twoF p a t ≤ 200000 * (t : Int) := by
  intro t
  induction t with
  | zero => intro _; simp [twoF]
  | succ t ih =>
    intro ht
    have h1 := ih (by omega)
    have hp : t < p.length := by have := h.len; omega
    have hg : p.getD t 0 = p[t] := by simp [List.getD_eq_getElem?_getD, List.getElem?_eq_getElem hp]
    have h2 := h.acc p[t] (List.getElem_mem hp)
    simp only [twoF, hg]
    split <;> omega
theorem bothF_bound {c : List (Int × Int)} {p : List Int} (h : Fit c p) (a : Nat) : ∀ (t : Nat), t ≤ c.length → 0 ≤ bothF c a t ∧ bothF c a t ≤ 20000 * (t : Int) := by
  intro t
  induction t with
  | zero => intro _; simp [bothF]
  | succ t ih =>
    intro ht
    have h1 := ih (by omega)
    have hp : t < c.length := by omega
    have hg : c.getD t (0, 0) = c[t] := by simp [List.getD_eq_getElem?_getD, List.getElem?_eq_getElem hp]
    have h2 := h.corr c[t] (List.getElem_mem hp)
    simp only [bothF, hg]
    split <;> omega

def fromN (s : SledI) (l : List (Int × Int)) (i : Nat) : Nat := ((l.getD i (0, 0)).1 + s.delay).toNat
def endN (s : SledI) (l : List (Int × Int)) (n i : Nat) : Nat := if i + 1 < l.length then min n (fromN s l (i + 1)) else n
/-- where the sums of a step end -/
def stopN (s : SledI) (l : List (Int × Int)) (n i : Nat) : Nat := max (fromN s l i) (endN s l n i)
def twoI (s : SledI) (l : List (Int × Int)) (p : List Int) (n i : Nat) : Int := twoF p (fromN s l i) (stopN s l n i)
def bothI (s : SledI) (l c : List (Int × Int)) (i : Nat) : Int := bothF c (fromN s l i) (stopN s l c.length i)
def wishI (s : SledI) (l c : List (Int × Int)) (p : List Int) (i : Nat) : Int :=
  if twoI s l p c.length i < bothI s l c i then 1 else if bothI s l c i < twoI s l p c.length i then -1 else 0

theorem wish119 {n : Nat} (hn : 1 ≤ n) {s : SledI} (hs : SledOk s) {l c : List (Int × Int)} (hl : Valid l) {p : List Int} (h : Fit c p) (i : Nat) (hi : i < l.length) :
    RUN n 119 [sla s, csl l, csl c, isl p, iv i] = .ret (iv (wishI s l c p i)) := by
  obtain ⟨d, rfl⟩ : ∃ d, n = d + 1 := ⟨n - 1, by omega⟩
  rw [RUN, call_eq fe119 _ rfl]
  have hd := hs.delay
  have hsm := hl.small
  have hv := hl.val i hi
  have hcl := h.small
  have hpl := h.len
  have hgi : l.getD i (0, 0) = l[i] := by simp [List.getD_eq_getElem?_getD, List.getElem?_eq_getElem hi]
  let so : Obj := .arr (slc s) 0 1
  let a := fromN s l i
  let e := endN s l c.length i
  have ha : l[i].1 + s.delay = (a : Int) := by simp only [a, fromN, hgi]; rw [hgi] at hv; omega
  have hab : a ≤ 72 := by rw [hgi] at hv; omega
  have hwa : IntKind.i64.wrap (a : Int) = (a : Int) := wrap64 (by omega) (by omega)
  have hec : e ≤ c.length := by simp only [e, endN]; split <;> omega
  have hx := cI_drop l i hi
  have hlt : i * 2 < l.length * 2 := by omega
  have hlt' : (i : Int) < l.length := by omega
  let J : Nat → St := fun t => ⟨[(2, csl c), (3, isl p), (12, iv e), (13, iv (twoF p a t)), (14, iv (bothF c a t)), (15, iv t)], [(0, so)]⟩
  have key : ∀ st0 : St, st0 = ⟨[(2, csl c), (3, isl p), (12, iv e), (13, iv 0), (14, iv 0), (15, iv a)], [(0, so)]⟩ → loopN (loopS (evFn F C0 G0 d) C0 G0 0 false [2, 3, 12, 13, 14, 15] c119L0) loopFuel st0 = .ret (.exit 0, ⟨(J (max a e)).env ++ [(45, .p (.bool false))], [(0, so)]⟩) := by
    rintro st0 rfl
    refine loop_from J a (max a e) (by omega) (by simp) (by simp only [J, twoF_self, bothF_self]) (fun t h1 h2 => ?_) ?_ (by simp [loopFuel]; omega)
    · have hte : t < e := by omega
      have htc : t < c.length := by omega
      have htp : t < p.length := by omega
      have hcx := cI_drop c t htc
      have b1 := twoF_bound h a t (by omega)
      have b2 := bothF_bound h a t (by omega)
      have b3 := twoF_bound h a (t + 1) (by omega)
      have b4 := bothF_bound h a (t + 1) (by omega)
      have hgc : c.getD t (0, 0) = c[t] := by simp [List.getD_eq_getElem?_getD, List.getElem?_eq_getElem htc]
      have hgp : p.getD t 0 = p[t] := by simp [List.getD_eq_getElem?_getD, List.getElem?_eq_getElem htp]
      have s1 : twoF p a (t + 1) = twoF p a t + 2 * p[t] := by rw [twoF_succ p h1, hgp]
      have s2 : bothF c a (t + 1) = bothF c a t + c[t].1 + c[t].2 := by rw [bothF_succ c h1, hgc]; omega
      have hc1 := h.corr c[t] (List.getElem_mem htc)
      have hp1 := h.acc p[t] (List.getElem_mem htp)
      rw [s1] at b3
      rw [s2] at b4
      have w1 := wrap64 (n := 2 * p[t]) (by omega) (by omega)
      have w2 := wrap64 (n := twoF p a t + 2 * p[t]) (by omega) (by omega)
      have w3 := wrap64 (n := bothF c a t + c[t].1) (by omega) (by omega)
      have w4 := wrap64 (n := bothF c a t + c[t].1 + c[t].2) (by omega) (by omega)
      have q1 : (t : Int) < c.length := by omega
      have q2 : (t : Int) < p.length := by omega
      have q3 : t * 2 < c.length * 2 := by omega
      have q4 : (t : Int) < e := by omega
      simp -implicitDefEqProofs [J, so, loopS_eq, c119L0, hcx, q1, q2, q3, q4, htp, s1, s2, w1, w2, w3, w4, wrap_succ (i := t) (by omega)]
    · have q4 : ¬ ((max a e : Nat) : Int) < e := by omega
      generalize max a e = m at *
      simp -implicitDefEqProofs [J, so, loopS_eq, c119L0, q4]
  have hwi : wishI s l c p i = if twoF p a (max a e) < bothF c a (max a e) then 1 else if bothF c a (max a e) < twoF p a (max a e) then -1 else 0 := rfl
  rw [hwi]
  generalize hT : twoF p a (max a e) = A at *
  generalize hB : bothF c a (max a e) = B at *
  have w1 := wrap64 (n := (i : Int) + 1) (by omega) (by omega)
  by_cases hnx : i + 1 < l.length
  · have hgn : l.getD (i + 1) (0, 0) = l[i + 1] := by simp [List.getD_eq_getElem?_getD, List.getElem?_eq_getElem hnx]
    have hv2 := hl.val (i + 1) hnx
    rw [hgn] at hv2
    have he : min (c.length : Int) (l[i + 1].1 + s.delay) = (e : Int) := by
      simp only [e, endN, if_pos hnx, fromN, hgn]
      omega
    have hwn := wrap64 (n := l[i + 1].1 + s.delay) (by omega) (by omega)
    have hmn := min2 (c.length : Int) (l[i + 1].1 + s.delay)
    rw [he] at hmn
    have hxn := cI_drop l (i + 1) hnx
    have q1 : (i : Int) + 1 < l.length := by omega
    have q2 : (i + 1) * 2 < l.length * 2 := by omega
    have q3 : (0 : Int) ≤ (i : Int) + 1 := by omega
    have q4 : ((i : Int) + 1).toNat = i + 1 := by omega
    have key := key _ rfl
    simp -implicitDefEqProofs [c119, hx, hlt, hlt', ha, hwa, w1, hwn, hmn, hxn, q1, q2, q3, q4]
    simp only [so, slc] at key
    rw [key]
    by_cases hAB : A < B
    · simp -implicitDefEqProofs [J, hT, hB, hAB]
    · by_cases hBA : B < A <;> simp -implicitDefEqProofs [J, hT, hB, hAB, hBA]
  · have he : c.length = e := by simp only [e, endN, if_neg hnx]
    have q1 : ¬ (i : Int) + 1 < l.length := by omega
    have key := key _ rfl
    rw [← he] at key hT hB
    simp -implicitDefEqProofs [c119, hx, hlt, hlt', ha, hwa, w1, q1]
    simp only [so, slc] at key
    rw [key]
    by_cases hAB : A < B
    · simp -implicitDefEqProofs [J, hT, hB, hAB]
    · by_cases hBA : B < A <;> simp -implicitDefEqProofs [J, hT, hB, hAB, hBA]
end Fw
