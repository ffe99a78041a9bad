/- Names one after the other, ratios: the chapter's and the reference's. -/
import Derived.Test.YtfkacogfieiccaaGreatDoorBaL7
set_option maxHeartbeats 8000000
namespace Fw
open Go
attribute [local irreducible] evCode evOps evOpsD evOper evOperD evOp evFn loopN T.All T.bind callPure callOp opsK opsDK restK seqK blockK loopS setK setQ giveK scalK gcK finish finS rfunK yldK yldB loopK

def badOf (t : T (Ex × St)) : Ex × St := match t with
  | .ret (.ret, st) => (.ret, st)
  | _ => (.ret, default)
theorem badOf_ret (t : T (Ex × St)) : (badOf t).1 = .ret := by
  unfold badOf
  split <;> rfl

/-- a loop that ends at the first error, of whose last state something is known -/
theorem loop_firstR {step : St → T (Ex × St)} (inv : Nat → St) (e : Nat → Int) (n : Nat) (ok : Ex × St) (R : Nat → St → Prop) {st0 : St} (h0 : step st0 = step (inv 0))
    (hstep : ∀ i, i < n → (e i = 0 → ∃ st1, step (inv i) = .ret (.normal, st1) ∧ step st1 = step (inv (i + 1))) ∧ (e i ≠ 0 → ∃ st, step (inv i) = .ret (.ret, st) ∧ R i st)) (hend : step (inv n) = .ret ok) (hok : ok.1 ≠ .normal) {fuel : Nat} (hf : n < fuel) :
    (loopN step fuel st0 = .ret ok ∧ firstE ((List.range n).map e) = 0) ∨ ∃ j st, j < n ∧ loopN step fuel st0 = .ret (.ret, st) ∧ R j st ∧ firstE ((List.range n).map e) = e j ∧ e j ≠ 0 ∧ ∀ q, q < j → e q = 0 := by
  rcases loop_first inv e n ok (fun i => badOf (step (inv i))) h0 (fun i hi => ⟨(hstep i hi).1, fun he => by
      obtain ⟨st, h1, _⟩ := (hstep i hi).2 he
      simp only [h1, badOf]⟩) (fun i => by simp only [badOf_ret]; exact fun h => Ex.noConfusion h) hend hok hf with h | ⟨j, hj, h1, h2, h3, h4⟩
  · exact .inl h
  · obtain ⟨st, g1, g2⟩ := (hstep j hj).2 h3
    refine .inr ⟨j, st, hj, ?_, g2, h2, h3, h4⟩
    rw [h1, g1]
    rfl

theorem find_strs (k : List UInt8) : ∀ ns : List (List UInt8), mapFind (.str k) (pStr ns) (List.replicate ns.length (.bool true)) = if k ∈ ns then some (some (.bool true)) else some none := by
  intro ns
  induction ns with
  | nil => rfl
  | cons a r ih =>
    by_cases h : a = k
    · subst h
      simp [pStr, mapFind, keyEq, eqP, List.replicate_succ]
    · have hb : (k == a) = false := by simpa using fun e => h e.symm
      have h' : ¬ k = a := fun e => h e.symm
      simp only [pStr] at ih
      simp [pStr, List.replicate_succ, mapFind, keyEq, eqP, hb, ih, h']
theorem set_strs (k : List UInt8) : ∀ ns : List (List UInt8), k ∈ ns → mapSet (.str k) (.bool true) (pStr ns) (List.replicate ns.length (.bool true)) = List.replicate ns.length (.bool true) := by
  intro ns
  induction ns with
  | nil => intro h; cases h
  | cons a r ih =>
    intro hk
    by_cases h : a = k
    · subst h
      simp [pStr, mapSet, keyEq, eqP, List.replicate_succ]
    · have hb : (k == a) = false := by simpa using fun e => h e.symm
      have hr : k ∈ r := by
        rcases List.mem_cons.1 hk with e | e
        · exact absurd e.symm h
        · exact e
      have := ih hr
      simp only [pStr] at this
      simp [pStr, mapSet, keyEq, eqP, List.replicate_succ, hb, this]

def namE (ws : List (List UInt8)) (w : List UInt8) : Int := firstE [whenE (!nameB w) 8, whenE (decide (w ∈ ws)) 9]
/-- the names that are known afterwards -/
def addW (ws : List (List UInt8)) (w : List UInt8) : List (List UInt8) := if w ∈ ws then ws else ws ++ [w]
def mapW (ws : List (List UInt8)) : Obj := .map (pStr ws) (List.replicate ws.length (.bool true))

theorem check_new {d k : Nat} {X : Obj} {T0 : Sto} {w : List UInt8} (hw : w.length ≤ 9223372036854775807) :
    evFn F C0 G0 (d + 3) (.fn 110) [.ptr k 0 0, sv w] ((k + 1, X) :: (k, .box [.p .nilm]) :: T0) = .ret (iv (namE [] w), (k + 2, mapW [w]) :: (k + 1, X) :: (k, .box [.mp (k + 2)]) :: T0) := by
  rw [evFn_fn fe110]
  have h1 := name155 (n := d + 2) (by omega) w hw
  have h2 := fun b e => when107 (n := d + 2) (by omega) b e
  have h3 := fun a b => first98_2 (n := d + 2) (by omega) a b
  have e1 : ¬ k + 1 = k := by omega
  have e2 : ¬ k + 2 = k := by omega
  have e3 : ¬ k + 1 + 1 = k := by omega
  have e4 : ¬ k + 2 = k + 1 := by omega
  have e5 : ¬ k + 1 + 1 = k + 1 := by omega
  have hmf : mapFind (.str w) [] [] = some none := rfl
  have hE : namE [] w = firstE [whenE (!nameB w) 8, whenE false 9] := rfl
  simp -implicitDefEqProofs [c110, h1, h2, h3, e2, hmf, hE, mapW, pStr]

theorem check_old {d k : Nat} {X : Obj} {T0 : Sto} {w : List UInt8} {ws : List (List UInt8)} (hw : w.length ≤ 9223372036854775807) :
    evFn F C0 G0 (d + 3) (.fn 110) [.ptr k 0 0, sv w] ((k + 3, X) :: (k + 2, mapW ws) :: (k, .box [.mp (k + 2)]) :: T0) = .ret (iv (namE ws w), (k + 3, X) :: (k + 2, mapW (addW ws w)) :: (k, .box [.mp (k + 2)]) :: T0) := by
  rw [evFn_fn fe110]
  have h1 := name155 (n := d + 2) (by omega) w hw
  have h2 := fun b e => when107 (n := d + 2) (by omega) b e
  have h3 := fun a b => first98_2 (n := d + 2) (by omega) a b
  have e2 : ¬ k + 2 = k := by omega
  have e3 : ¬ k + 3 = k := by omega
  have e4 : ¬ k + 3 = k + 2 := by omega
  have hf := find_strs w ws
  by_cases hin : w ∈ ws
  · have hs := set_strs w ws hin
    rw [if_pos hin] at hf
    have hE : namE ws w = firstE [whenE (!nameB w) 8, whenE true 9] := by simp [namE, hin]
    have hA : addW ws w = ws := by simp [addW, hin]
    simp -implicitDefEqProofs [c110, h1, h2, h3, hf, hs, hE, hA, mapW]
  · rw [if_neg hin] at hf
    have hE : namE ws w = firstE [whenE (!nameB w) 8, whenE false 9] := by simp [namE, hin]
    have hA : addW ws w = ws ++ [w] := by simp [addW, hin]
    have hr : List.replicate (ws.length + 1) (PVal.bool true) = List.replicate ws.length (.bool true) ++ [.bool true] := List.replicate_succ'
    simp -implicitDefEqProofs [c110, h1, h2, h3, hf, hE, hA, mapW, hr, pStr_snoc]

/-! ratios -/
theorem m156 : c156 = firstC := rfl
theorem first156 {n : Nat} (hn : 1 ≤ n) (l : List Int) (hl : l.length < 1000000) : RUN n 156 [.p (.sl (pI l) l.length)] = .ret (iv (firstE l)) := by
  obtain ⟨d, rfl⟩ : ∃ d, n = d + 1 := ⟨n - 1, by omega⟩
  exact first_ok (m156 ▸ fe156) (fun _ => rfl) l hl
theorem first156_2 {n : Nat} (hn : 1 ≤ n) (a b : Int) : RUN n 156 [.p (.sl [.int .i64 a, .int .i64 b] 2)] = .ret (iv (firstE [a, b])) := first156 hn [a, b] (by simp)
theorem when158 {n : Nat} (hn : 1 ≤ n) (b : Bool) (e : Int) : RUN n 158 [.p (.bool b), iv e] = .ret (iv (whenE b e)) := by
  obtain ⟨d, rfl⟩ : ∃ d, n = d + 1 := ⟨n - 1, by omega⟩
  rw [RUN, call_eq fe158 _ rfl]
  cases b <;> simp -implicitDefEqProofs [c158, whenE]
theorem within157 {n : Nat} (hn : 2 ≤ n) (x lo hi : Int) : RUN n 157 [iv x, iv lo, iv hi] = .ret (iv (rangeE lo hi x)) := by
  obtain ⟨d, rfl⟩ : ∃ d, n = d + 2 := ⟨n - 2, by omega⟩
  rw [RUN, call_eq fe157 _ rfl]
  have h1 := fun b e => when158 (n := d + 1) (by omega) b e
  by_cases c1 : x < lo
  · simp -implicitDefEqProofs [c157, h1, c1, rangeE, whenE]
  · by_cases c2 : hi < x <;> simp -implicitDefEqProofs [c157, h1, c1, c2, rangeE, whenE]

def ratR (x y : Int) : Int := firstE [rangeE (-999999999) 999999999 x, rangeE 1 999999999 y]
def ratE (x y : Int) : Int := if ratR x y = 0 then whenE (((Nat.gcd x.natAbs y.natAbs : Nat) : Int) != 1) 1 else ratR x y
theorem ratR_zero {x y : Int} (h : ratR x y = 0) : (-999999999 ≤ x ∧ x ≤ 999999999) ∧ 1 ≤ y ∧ y ≤ 999999999 := by
  have h := firstE_zero.1 h
  exact ⟨rangeE_zero.1 (h _ (by simp)), rangeE_zero.1 (h _ (by simp))⟩

theorem ratio111 {n : Nat} (hn : 4 ≤ n) (x y : Int) : RUN n 111 [.agg [iv x, iv y]] = .ret (iv (ratE x y)) := by
  obtain ⟨d, rfl⟩ : ∃ d, n = d + 4 := ⟨n - 4, by omega⟩
  rw [RUN, call_eq fe111 _ rfl]
  have h1 := fun a lo hi => within157 (n := d + 3) (by omega) a lo hi
  have h2 := first156_2 (n := d + 3) (by omega) (rangeE (-999999999) 999999999 x) (rangeE 1 999999999 y)
  rw [show firstE [rangeE (-999999999) 999999999 x, rangeE 1 999999999 y] = ratR x y from rfl] at h2
  have h3 := fun b e => when158 (n := d + 3) (by omega) b e
  unfold ratE
  by_cases z0 : ratR x y = 0
  · rw [if_pos z0]
    obtain ⟨⟨a1, a2⟩, a3, a4⟩ := ratR_zero z0
    have m : loopN (loopS (evFn F C0 G0 (d + 3)) C0 G0 0 false [4, 5] c111L0) loopFuel ⟨[(4, iv (x.natAbs : Int)), (5, iv (y.natAbs : Int))], [(0, .arr [.int .i64 x, .int .i64 y] 0 1)]⟩ = .ret (.exit 0, ⟨[(4, iv (Nat.gcd x.natAbs y.natAbs : Nat)), (5, iv 0), (26, .p (.bool false))], [(0, .arr [.int .i64 x, .int .i64 y] 0 1)]⟩) := by
      refine gcd_loop (fun a b => ⟨[(4, iv (a : Int)), (5, iv (b : Int))], [(0, .arr [.int .i64 x, .int .i64 y] 0 1)]⟩) (fun g => ⟨[(4, iv (g : Int)), (5, iv 0), (26, .p (.bool false))], [(0, .arr [.int .i64 x, .int .i64 y] 0 1)]⟩) (by simp) (fun a b hb => ?_) (fun a => ?_) y.natAbs x.natAbs loopFuel (by simp [loopFuel]; omega)
      · have hb' : ¬ (b : Int) = 0 := by omega
        have hbn : ((b : Int) != 0) = true := by simpa using hb
        simp -implicitDefEqProofs [loopS_eq, c111L0, hb, hbn, natmod]
      · simp -implicitDefEqProofs [loopS_eq, c111L0]
    have w1 : IntKind.i64.wrap (-x) = -x := wrap64 (by omega) (by omega)
    have ea : ((x.natAbs : Nat) : Int) = max x (-x) := by omega
    have ey : ((y.natAbs : Nat) : Int) = y := by omega
    rw [ea, ey] at m
    generalize Nat.gcd x.natAbs y.natAbs = g at *
    simp -implicitDefEqProofs [c111, h1, h2, h3, z0, w1, max2, m]
  · rw [if_neg z0]
    have hb : (ratR x y != 0) = true := by simpa using z0
    simp -implicitDefEqProofs [c111, h1, h2, hb]

theorem ratio114 {n : Nat} (hn : 4 ≤ n) (x y : Int) : RUN n 114 [.agg [iv x, iv y]] = .ret (iv (ratE x y)) := by
  obtain ⟨d, rfl⟩ : ∃ d, n = d + 4 := ⟨n - 4, by omega⟩
  rw [RUN, call_eq fe114 _ rfl]
  have h1 := fun a lo hi => range102 (n := d + 3) (by omega) a lo hi
  have h2 := first101_2 (n := d + 3) (by omega) (rangeE (-999999999) 999999999 x) (rangeE 1 999999999 y)
  rw [show firstE [rangeE (-999999999) 999999999 x, rangeE 1 999999999 y] = ratR x y from rfl] at h2
  have h3 := fun b e => when55 (n := d + 3) (by omega) b e
  unfold ratE
  by_cases z0 : ratR x y = 0
  · rw [if_pos z0]
    obtain ⟨⟨a1, a2⟩, a3, a4⟩ := ratR_zero z0
    have h4 := divisor154 (n := d + 3) (by omega) x y (by omega) (by omega) (by omega) (by omega)
    generalize Nat.gcd x.natAbs y.natAbs = g at *
    simp -implicitDefEqProofs [c114, h1, h2, h3, h4, z0]
  · rw [if_neg z0]
    have hb : (ratR x y != 0) = true := by simpa using z0
    simp -implicitDefEqProofs [c114, h1, h2, hb]

theorem hid8 : hidT 2048 = [11] := by decide
theorem hid7 : hidT 128 = [7] := by decide
theorem hid6 : hidT 64 = [6] := by decide
end Fw
