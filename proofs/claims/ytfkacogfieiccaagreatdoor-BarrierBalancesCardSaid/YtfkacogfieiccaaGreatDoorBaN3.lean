/- Classes of tests: the chapter's and the reference's. -/
import Derived.Test.YtfkacogfieiccaaGreatDoorBaN2
set_option maxHeartbeats 8000000
namespace Fw
open Go
attribute [local irreducible] evCode evOps evOpsD evOper evOperD evOp evFn loopN T.All T.bind callPure callOp opsK opsDK restK seqK blockK loopS setK setQ giveK scalK gcK finish finS rfunK yldK yldB loopK

abbrev wsl (l : List (List UInt8)) : AVal := .p (.sl (pStr l) l.length)
theorem same33 {n : Nat} (hn : 1 ≤ n) (a b : List (List UInt8)) (ha : a.length < 1000000) : RUN n 33 [wsl a, wsl b] = .ret (.p (.bool (decide (a = b)))) := by
  obtain ⟨d, rfl⟩ : ∃ d, n = d + 1 := ⟨n - 1, by omega⟩
  rw [RUN, call_eq fe33 _ rfl]
  by_cases hl : a.length = b.length
  · let inv : Nat → St := fun i => ⟨[(0, wsl a), (1, wsl b), (5, iv i)], []⟩
    let out : Nat → Ex × St := fun i => if a.drop i = b.drop i then (.exit 0, ⟨(inv a.length).env ++ [(14, .p (.bool false))], []⟩) else (.ret, ⟨[(4, .p (.bool false))], []⟩)
    simp -implicitDefEqProofs [c33, hl]
    rw [loop_rec inv out a.length (by simp [inv])]
    · by_cases hq : a = b <;> simp [out, inv, hq]
    · intro i hi
      have hi' : i < b.length := by omega
      have hia : (i : Int) < a.length := by omega
      have hx : a[i]? = some a[i] := List.getElem?_eq_getElem hi
      have hy : b[i]? = some b[i] := List.getElem?_eq_getElem hi'
      have hd : (a.drop i = b.drop i) ↔ a[i] = b[i] ∧ a.drop (i + 1) = b.drop (i + 1) := by
        rw [List.drop_eq_getElem_cons hi, List.drop_eq_getElem_cons hi', List.cons.injEq]
      by_cases h : a[i] = b[i]
      · refine .inl ⟨?_, ?_⟩
        · simp -implicitDefEqProofs [inv, loopS_eq, c33L0, hi', hl, h, strBin, wrap_succ (i := i) (by omega)]
        · simp [out, hd, h]
      · have hb : (a[i] == b[i]) = false := by simpa using h
        refine .inr ⟨?_, ?_⟩
        · simp -implicitDefEqProofs [inv, loopS_eq, c33L0, hi', hl, hb, strBin, out, hd, h]
        · simp [out, hd, h]
    · have h1 : a.drop a.length = [] := List.drop_of_length_le (by omega)
      have h2 : b.drop a.length = [] := List.drop_of_length_le (by omega)
      simp [inv, loopS_eq, c33L0, out, hl]
    · simp [loopFuel]; omega
  · have : ¬ a = b := fun h => hl (by rw [h])
    have hl' : ¬ (a.length : Int) = b.length := by omega
    simp -implicitDefEqProofs [c33, hl', this]

def meetB (a b c e : Int) : Bool := decide (max a c ≤ min b e)
theorem meets112 {n : Nat} (hn : 1 ≤ n) (a b c e : Int) : RUN n 112 [.agg [iv a, iv b], .agg [iv c, iv e]] = .ret (.p (.bool (meetB a b c e))) := by
  obtain ⟨d, rfl⟩ : ∃ d, n = d + 1 := ⟨n - 1, by omega⟩
  rw [RUN, call_eq fe112 _ rfl]
  simp -implicitDefEqProofs [c112, max2, min2, meetB]

def ovrE (x y : Int) : Int := firstE [ratE x y, whenE (decide (x < 0) || decide (y < x)) 3]
theorem over31 {n : Nat} (hn : 5 ≤ n) (x y : Int) : RUN n 31 [.agg [iv x, iv y]] = .ret (iv (ovrE x y)) := by
  obtain ⟨d, rfl⟩ : ∃ d, n = d + 5 := ⟨n - 5, by omega⟩
  rw [RUN, call_eq fe31 _ rfl]
  have h1 := ratio114 (n := d + 4) (by omega) x y
  have h2 := fun b e => when55 (n := d + 4) (by omega) b e
  have h3 := fun a b => first101_2 (n := d + 4) (by omega) a b
  by_cases c1 : x < 0
  · simp -implicitDefEqProofs [c31, h1, h2, h3, c1, ovrE]
  · simp -implicitDefEqProofs [c31, h1, h2, h3, c1, ovrE]

/-! which classes -/
structure ClsOk (x : ClsI) : Prop where
  s1 : 0 ≤ x.sl
  s2 : x.sl ≤ x.sh
  s3 : x.sh ≤ 100000
  o1 : 0 ≤ x.ol
  o2 : x.ol ≤ x.oh
  o3 : x.oh ≤ 1000
theorem cls_of {l : List ClsI} (h : classE l = 0) : l.length ≤ 16 ∧ ∀ i, (hi : i < l.length) → ClsOk l[i] := by
  unfold classE at h
  by_cases c : 16 < l.length
  · rw [if_pos c] at h; exact absurd h (by decide)
  · rw [if_neg c] at h
    refine ⟨by omega, fun i hi => ?_⟩
    have := all_zero h i hi
    rw [clsE_lt hi, firstE_zero] at this
    simp only [List.mem_cons, List.not_mem_nil, or_false, forall_eq_or_imp, forall_eq, ivE_zero] at this
    exact ⟨by omega, by omega, by omega, by omega, by omega, by omega⟩

def partB (x y : Int) (k : ClsI) : Bool := decide (1000 * x < k.ol * y) || decide (k.oh * y < 1000 * x)
def mayB (x y a b : Int) (k : ClsI) : Bool := !partB x y k && meetB k.sl k.sh a b
def surB (x y a b : Int) (k : ClsI) : Bool := mayB x y a b k && (decide (k.sl ≤ a) && decide (b ≤ k.sh))
def mayL (x y a b : Int) (l : List ClsI) : List (List UInt8) := (l.filter (mayB x y a b)).map (·.name)
def surL (x y a b : Int) (l : List ClsI) : List (List UInt8) := (l.filter (surB x y a b)).map (·.name)
theorem mayL_take {x y a b : Int} {l : List ClsI} {i : Nat} (h : i < l.length) : mayL x y a b (l.take (i + 1)) = if mayB x y a b l[i] = true then mayL x y a b (l.take i) ++ [l[i].name] else mayL x y a b (l.take i) := by
  rw [← List.take_append_getElem h]
  simp only [mayL, List.filter_append, List.map_append, List.filter_cons, List.filter_nil]
  split <;> simp
theorem surL_take {x y a b : Int} {l : List ClsI} {i : Nat} (h : i < l.length) : surL x y a b (l.take (i + 1)) = if surB x y a b l[i] = true then surL x y a b (l.take i) ++ [l[i].name] else surL x y a b (l.take i) := by
  rw [← List.take_append_getElem h]
  simp only [surL, List.filter_append, List.map_append, List.filter_cons, List.filter_nil]
  split <;> simp
theorem mayL_le (x y a b : Int) (l : List ClsI) (i : Nat) : (mayL x y a b (l.take i)).length ≤ i := by
  simp only [mayL, List.length_map]
  exact Nat.le_trans (List.length_filter_le _ _) (by simp; omega)
theorem surL_le (x y a b : Int) (l : List ClsI) (i : Nat) : (surL x y a b (l.take i)).length ≤ i := by
  simp only [surL, List.length_map]
  exact Nat.le_trans (List.length_filter_le _ _) (by simp; omega)

def clsInv (T0 : Sto) (q : Nat) (x y a b : Int) (l : List ClsI) (i : Nat) : St :=
  ⟨[(4, .ptr 0 0 0), (5, .ptr 1 0 0), (14, .sl q (surL x y a b (l.take i)).length 0 (surL x y a b (l.take i)).length), (15, .sl (q + 1) (mayL x y a b (l.take i)).length 0 (mayL x y a b (l.take i)).length), (63, ksl l), (64, iv l.length), (65, iv i)],
   (q + 1, .arr (pStr (mayL x y a b (l.take i))) (mayL x y a b (l.take i)).length 1) :: (q, .arr (pStr (surL x y a b (l.take i))) (surL x y a b (l.take i)).length 1) :: T0⟩

theorem classes27b {d : Nat} {l : List ClsI} {ws : List (List UInt8)} (hl : l.length ≤ 16) (hok : ∀ i, (hi : i < l.length) → ClsOk l[i]) {x y a b : Int} (hx1 : 0 ≤ x) (hx2 : x ≤ y) (hy : y ≤ 999999999) :
    loopN (loopS (evFn F C0 G0 (d + 1)) C0 G0 0 true [4, 5, 14, 15, 63, 64, 65] c27L1) loopFuel (clsInv [(4, mapW ws), (2, .box [.mp 4]), (1, .arr [.int .i64 x, .int .i64 y] 0 1), (0, .arr [.int .i64 a, .int .i64 b] 0 1)] 5 x y a b l 0) = .ret (.exit 2, ⟨(clsInv [] 5 x y a b l l.length).env ++ [(66, .p (.bool false))], (clsInv [(1, .arr [.int .i64 x, .int .i64 y] 0 1), (0, .arr [.int .i64 a, .int .i64 b] 0 1)] 5 x y a b l l.length).sto⟩) := by
  let T0 : Sto := [(1, .arr [.int .i64 x, .int .i64 y] 0 1), (0, .arr [.int .i64 a, .int .i64 b] 0 1)]
  refine loop_run' (clsInv T0 5 x y a b l) l.length (by simp) ?_ ?_ ?_ (by simp [loopFuel]; omega)
  · exact loopS_same rfl (by simp [clsInv, T0, mapW, surL, mayL])
  · intro i hi
    have hx := rowC_drop kc5_len l i hi
    have hlt : i * 5 < l.length * 5 := by omega
    have hlt' : (i : Int) < l.length := by omega
    have hws := wrap_succ (i := i) (by omega)
    have hm := mayL_take (x := x) (y := y) (a := a) (b := b) hi
    have hs := surL_take (x := x) (y := y) (a := a) (b := b) hi
    have hml := mayL_le x y a b l i
    have hsl := surL_le x y a b l i
    obtain ⟨s1, s2, s3, o1, o2, o3⟩ := hok i hi
    simp only [clsInv, hm, hs]
    generalize mayL x y a b (l.take i) = M at *
    generalize surL x y a b (l.take i) = S at *
    generalize l[i] = k at *
    have hmlim : M.length + 1 ≤ lim := by simp only [lim]; omega
    have hslim : S.length + 1 ≤ lim := by simp only [lim]; omega
    have p1 := prod_in (a := k.ol) (b := y) (A := 1000) (B := 999999999) ⟨by omega, by omega⟩ ⟨by omega, by omega⟩
    have p2 := prod_in (a := k.oh) (b := y) (A := 1000) (B := 999999999) ⟨by omega, by omega⟩ ⟨by omega, by omega⟩
    have w1 : IntKind.i64.wrap (1000 * x) = 1000 * x := wrap64 (by omega) (by omega)
    have w2 : IntKind.i64.wrap (k.ol * y) = k.ol * y := wrap64 (by omega) (by omega)
    have w3 : IntKind.i64.wrap (k.oh * y) = k.oh * y := wrap64 (by omega) (by omega)
    have h1 := meets112 (n := d + 1) (by omega) k.sl k.sh a b
    have hpM := pStr_snoc M k.name
    have hpS := pStr_snoc S k.name
    by_cases c1 : 1000 * x < k.ol * y
    · have e1 : mayB x y a b k = false := by simp [mayB, partB, c1]
      have e2 : surB x y a b k = false := by simp [surB, e1]
      refine ⟨?_, ?h1, ?h2⟩
      case h1 =>
        simp -implicitDefEqProofs [T0, loopS_eq, c27L1, cK_len, hx, hlt, hlt', hws, w1, w2, c1]
        exact rfl
      case h2 => exact loopS_same (by simp [e1, e2]) (by simp [T0, e1, e2])
    · by_cases c2 : k.oh * y < 1000 * x
      · have e1 : mayB x y a b k = false := by simp [mayB, partB, c2]
        have e2 : surB x y a b k = false := by simp [surB, e1]
        refine ⟨?_, ?h3, ?h4⟩
        case h3 =>
          simp -implicitDefEqProofs [T0, loopS_eq, c27L1, cK_len, hx, hlt, hlt', hws, w1, w2, w3, c1, c2]
          exact rfl
        case h4 => exact loopS_same (by simp [e1, e2]) (by simp [T0, e1, e2])
      · by_cases c3 : meetB k.sl k.sh a b = true
        · have e1 : mayB x y a b k = true := by simp [mayB, partB, c1, c2, c3]
          by_cases c4 : k.sl ≤ a ∧ b ≤ k.sh
          · obtain ⟨c4, c5⟩ := c4
            have e2 : surB x y a b k = true := by simp [surB, e1, c4, c5]
            refine ⟨?_, ?h5, ?h6⟩
            case h5 =>
              simp -implicitDefEqProofs [T0, loopS_eq, c27L1, cK_len, hx, hlt, hlt', hws, w1, w2, w3, c1, c2, h1, c3, c4, c5, hmlim, hslim]
              exact rfl
            case h6 => exact loopS_same (by simp [e1, e2]) (by simp [T0, e1, e2, ← hpM, ← hpS])
          · have e2 : surB x y a b k = false := by
              simp only [surB, e1, Bool.true_and, Bool.and_eq_false_iff, decide_eq_false_iff_not]
              omega
            have c6 : ¬ k.sl ≤ a ∨ (k.sl ≤ a ∧ ¬ b ≤ k.sh) := by omega
            rcases c6 with c6 | ⟨c6, c7⟩
            · refine ⟨?_, ?h7, ?h8⟩
              case h7 =>
                simp -implicitDefEqProofs [T0, loopS_eq, c27L1, cK_len, hx, hlt, hlt', hws, w1, w2, w3, c1, c2, h1, c3, c6, hmlim]
                exact rfl
              case h8 => exact loopS_same (by simp [e1, e2]) (by simp [T0, e1, e2, ← hpM])
            · refine ⟨?_, ?h9, ?ha⟩
              case h9 =>
                simp -implicitDefEqProofs [T0, loopS_eq, c27L1, cK_len, hx, hlt, hlt', hws, w1, w2, w3, c1, c2, h1, c3, c6, c7, hmlim]
                exact rfl
              case ha => exact loopS_same (by simp [e1, e2]) (by simp [T0, e1, e2, ← hpM])
        · have c3' : meetB k.sl k.sh a b = false := by simpa using c3
          have e1 : mayB x y a b k = false := by simp [mayB, c3']
          have e2 : surB x y a b k = false := by simp [surB, e1]
          refine ⟨?_, ?hb, ?hc⟩
          case hb =>
            simp -implicitDefEqProofs [T0, loopS_eq, c27L1, cK_len, hx, hlt, hlt', hws, w1, w2, w3, c1, c2, h1, c3']
            exact rfl
          case hc => exact loopS_same (by simp [e1, e2]) (by simp [T0, e1, e2])
  · simp -implicitDefEqProofs [clsInv, T0, loopS_eq, c27L1]
end Fw
