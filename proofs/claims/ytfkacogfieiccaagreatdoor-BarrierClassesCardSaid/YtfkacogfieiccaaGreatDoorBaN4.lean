/- Classes of tests: the whole functions, and the law at any input. -/
import Derived.Test.YtfkacogfieiccaaGreatDoorBaN3
import Derived.Test.YtfkacogfieiccaaGreatDoorBaTab
set_option maxHeartbeats 16000000
namespace Fw
open Go
attribute [local irreducible] evCode evOps evOpsD evOper evOperD evOp evFn loopN T.All T.bind callPure callOp opsK opsDK restK seqK blockK loopS setK setQ giveK scalK gcK finish finS rfunK yldK yldB loopK

def secE (a b x y : Int) : Int := firstE [ivE 0 100000 (a, b), ratE x y, whenE (decide (x < 0) || decide (y < x)) 3]
theorem sec_zero {a b x y : Int} (h : secE a b x y = 0) : (0 ≤ a ∧ a ≤ b ∧ b ≤ 100000) ∧ 0 ≤ x ∧ x ≤ y ∧ y ≤ 999999999 := by
  have h := firstE_zero.1 h
  have h1 := ivE_zero.1 (h (ivE 0 100000 (a, b)) (by simp))
  have h2 := h (ratE x y) (by simp)
  have h3 := (whenE_zero (by decide)).1 (h (whenE (decide (x < 0) || decide (y < x)) 3) (by simp))
  simp only [Bool.or_eq_false_iff, decide_eq_false_iff_not] at h1 h3
  have hr : ratR x y = 0 := by
    unfold ratE at h2
    by_cases z : ratR x y = 0
    · exact z
    · rw [if_neg z] at h2; exact absurd h2 z
  have := ratR_zero hr
  omega
def clasE (l : List ClsI) (a b x y : Int) : Int := if classE l = 0 then secE a b x y else classE l

theorem classes27 {n : Nat} (hn : 7 ≤ n) (l : List ClsI) (hl : l.length < 1000000) (h40 : ∀ i, (hi : i < l.length) → l[i].name.length ≤ 40) (a b x y : Int) :
    RUN n 27 [ksl l, .agg [iv a, iv b], .agg [iv x, iv y]] = .ret (if clasE l a b x y = 0 then .tup [.own (pStr (surL x y a b l)) (surL x y a b l).length 1, .own (pStr (mayL x y a b l)) (mayL x y a b l).length 1, iv 0] else .tup [.p (.sl [] 0), .p (.sl [] 0), iv (clasE l a b x y)]) := by
  obtain ⟨d, rfl⟩ : ∃ d, n = d + 7 := ⟨n - 7, by omega⟩
  rw [RUN, call_eq fe27 _ rfl]
  unfold clasE
  by_cases c0 : 16 < l.length
  · have c0' : (16 : Int) < l.length := by omega
    have e : classE l = 5 := by simp [classE, c0]
    simp -implicitDefEqProofs [c27, c0', e]
  · have c0' : ¬ (16 : Int) < l.length := by omega
    have e : classE l = firstE ((List.range l.length).map (clsE l)) := by simp [classE, c0]
    have key := classes27a (d := d) l hl h40 (x, y) (a, b)
    simp only [clsSto] at key
    have h1 := fun a b lo hi => interval109' (n := d + 6) (by omega) a b lo hi
    have h2 := ratio111 (n := d + 6) (by omega) x y
    have h3 := fun b e => when107 (n := d + 6) (by omega) b e
    have h4 := first98_3 (n := d + 6) (by omega) (ivE 0 100000 (a, b)) (ratE x y) (whenE (decide (x < 0) || decide (y < x)) 3)
    rw [show firstE [ivE 0 100000 (a, b), ratE x y, whenE (decide (x < 0) || decide (y < x)) 3] = secE a b x y from rfl] at h4
    simp -implicitDefEqProofs [c27, c0']
    rcases key with ⟨k1, k2⟩ | ⟨j, st, hj, k1, kr, k2, k3, _⟩
    · rw [e, k2, k1]
      have hz : classE l = 0 := by rw [e, k2]
      obtain ⟨hl16, hok⟩ := cls_of hz
      by_cases z1 : secE a b x y = 0
      · obtain ⟨⟨a1, a2, a3⟩, x1, x2, x3⟩ := sec_zero z1
        have k3 := fun ws => classes27b (d := d + 5) (ws := ws) hl16 hok (x := x) (y := y) (a := a) (b := b) x1 x2 x3
        have htl : l.take l.length = l := List.take_of_length_le (by omega)
        have q1 : ¬ x < 0 := by omega
        have q2 : ¬ y < x := by omega
        have q3 : decide (y < x) = false := decide_eq_false q2
        have q4 : decide (x < 0) = false := decide_eq_false q1
        simp only [q3, q4, Bool.or_self] at h4
        have z0' : ((0 : Nat) : Int) = 0 := rfl
        simp only [z0', clsInv, List.take_zero, mayL, surL, List.filter_nil, List.map_nil, List.length_nil, pStr_nil, htl] at k3
        cases hn : l.length with
        | zero =>
          have hl0 : l = [] := List.length_eq_zero_iff.1 hn
          subst hl0
          have k4 : loopN (loopS (evFn F C0 G0 (d + 6)) C0 G0 0 true [4, 5, 14, 15, 63, 64, 65] c27L1) loopFuel ⟨[(4, .ptr 0 0 0), (5, .ptr 1 0 0), (14, .sl 3 0 0 0), (15, .sl 4 0 0 0), (63, ksl []), (64, iv 0), (65, iv 0)], [(4, .arr [] 0 1), (3, .arr [] 0 1), (2, .box [.p .nilm]), (1, .arr [.int .i64 x, .int .i64 y] 0 1), (0, .arr [.int .i64 a, .int .i64 b] 0 1)]⟩ = .ret (.exit 2, ⟨[(4, .ptr 0 0 0), (5, .ptr 1 0 0), (14, .sl 3 0 0 0), (15, .sl 4 0 0 0), (63, ksl []), (64, iv 0), (65, iv 0), (66, .p (.bool false))], [(4, .arr [] 0 1), (3, .arr [] 0 1), (1, .arr [.int .i64 x, .int .i64 y] 0 1), (0, .arr [.int .i64 a, .int .i64 b] 0 1)]⟩) :=
            loopN_end (by simp -implicitDefEqProofs [loopS_eq, c27L1]) (by simp) (by simp [loopFuel])
          simp -implicitDefEqProofs [h1, h2, h3, h4, z1, q1, q3]
          simp only [List.length_nil] at *
          rw [k4]
          simp -implicitDefEqProofs [surL, mayL]
        | succ m =>
          have hc : clsSto (x, y) (a, b) l (m + 1) = [(4, mapW (namesC (l.take (m + 1)))), (2, .box [.mp 4]), (1, .arr [.int .i64 x, .int .i64 y] 0 1), (0, .arr [.int .i64 a, .int .i64 b] 0 1)] := rfl
          have hn' : ((m : Int) + 1) = (l.length : Int) := by omega
          simp -implicitDefEqProofs [h1, h2, h3, h4, z1, q1, q3]
          simp only [← hn]
          rw [k3]
          simp -implicitDefEqProofs [surL, mayL]
      · have hb : (secE a b x y != 0) = true := by simpa using z1
        rw [if_pos rfl, if_neg z1]
        cases hn : l.length with
        | zero =>
          by_cases q1 : x < 0
          · simp only [decide_eq_true q1, Bool.true_or] at h4
            simp -implicitDefEqProofs [h1, h2, h3, h4, hb, q1]
          · simp only [decide_eq_false q1, Bool.false_or] at h4
            simp -implicitDefEqProofs [h1, h2, h3, h4, hb, q1]
        | succ m =>
          have hc : clsSto (x, y) (a, b) l (m + 1) = [(4, mapW (namesC (l.take (m + 1)))), (2, .box [.mp 4]), (1, .arr [.int .i64 x, .int .i64 y] 0 1), (0, .arr [.int .i64 a, .int .i64 b] 0 1)] := rfl
          by_cases q1 : x < 0
          · simp only [decide_eq_true q1, Bool.true_or] at h4
            simp -implicitDefEqProofs [h1, h2, h3, h4, hb, q1]
          · simp only [decide_eq_false q1, Bool.false_or] at h4
            simp -implicitDefEqProofs [h1, h2, h3, h4, hb, q1]
    · obtain ⟨env, sto⟩ := st
      simp only at kr
      subst kr
      rw [e, k2, k1, if_neg k3, if_neg k3]
      simp -implicitDefEqProofs

def refInv (x y a b : Int) (l : List ClsI) (i : Nat) : St :=
  ⟨[(0, ksl l), (4, .ptr 0 0 0), (5, .ptr 1 0 0), (8, .sl 2 (surL x y a b (l.take i)).length 0 (surL x y a b (l.take i)).length), (9, .sl 3 (mayL x y a b (l.take i)).length 0 (mayL x y a b (l.take i)).length), (10, iv i)],
   [(3, .arr (pStr (mayL x y a b (l.take i))) (mayL x y a b (l.take i)).length 1), (2, .arr (pStr (surL x y a b (l.take i))) (surL x y a b (l.take i)).length 1), (1, .arr [.int .i64 x, .int .i64 y] 0 1), (0, .arr [.int .i64 a, .int .i64 b] 0 1)]⟩

theorem classes32 {n : Nat} (hn : 1 ≤ n) {l : List ClsI} (hl : l.length ≤ 16) (hok : ∀ i, (hi : i < l.length) → ClsOk l[i]) {a b x y : Int} (hab : 0 ≤ a ∧ a ≤ b ∧ b ≤ 100000) (hx1 : 0 ≤ x) (hx2 : x ≤ y) (hy : y ≤ 999999999) :
    RUN n 32 [ksl l, .agg [iv a, iv b], .agg [iv x, iv y]] = .ret (.tup [.own (pStr (surL x y a b l)) (surL x y a b l).length 1, .own (pStr (mayL x y a b l)) (mayL x y a b l).length 1]) := by
  obtain ⟨d, rfl⟩ : ∃ d, n = d + 1 := ⟨n - 1, by omega⟩
  rw [RUN, call_eq fe32 _ rfl]
  have htl : l.take l.length = l := List.take_of_length_le (by omega)
  have key : loopN (loopS (evFn F C0 G0 d) C0 G0 0 true [0, 4, 5, 8, 9, 10] c32L0) loopFuel ⟨[(0, ksl l), (4, .ptr 0 0 0), (5, .ptr 1 0 0), (8, .sl 2 0 0 0), (9, .sl 3 0 0 0), (10, iv 0)], [(3, .arr [] 0 1), (2, .arr [] 0 1), (1, .arr [.int .i64 x, .int .i64 y] 0 1), (0, .arr [.int .i64 a, .int .i64 b] 0 1)]⟩ = .ret (.exit 0, ⟨(refInv x y a b l l.length).env ++ [(15, .p (.bool false))], (refInv x y a b l l.length).sto⟩) := by
    refine loop_run' (refInv x y a b l) l.length (by simp) ?_ ?_ ?_ (by simp [loopFuel]; omega)
    · exact loopS_same rfl (by simp [refInv, surL, mayL])
    · intro i hi
      have hx := rowC_drop kc5_len l i hi
      have hlt : i * 5 < l.length * 5 := by omega
      have hlt' : (i : Int) < l.length := by omega
      have hws := wrap_succ (i := i) (by omega)
      have hm := mayL_take (x := x) (y := y) (a := a) (b := b) hi
      have hs := surL_take (x := x) (y := y) (a := a) (b := b) hi
      have hml := mayL_le x y a b l i
      have hsl := surL_le x y a b l i
      obtain ⟨s1, s2, s3, o1, o2, o3⟩ := hok i hi
      simp only [refInv, hm, hs]
      generalize mayL x y a b (l.take i) = M at *
      generalize surL x y a b (l.take i) = S at *
      generalize l[i] = k at *
      have hmlim : M.length + 1 ≤ lim := by simp only [lim]; omega
      have hslim : S.length + 1 ≤ lim := by simp only [lim]; omega
      have p1 := prod_in (a := k.ol) (b := y) (A := 1000) (B := 999999999) ⟨by omega, by omega⟩ ⟨by omega, by omega⟩
      have p2 := prod_in (a := k.oh) (b := y) (A := 1000) (B := 999999999) ⟨by omega, by omega⟩ ⟨by omega, by omega⟩
      have w1 : IntKind.i64.wrap (1000 * x) = 1000 * x := wrap64 (by omega) (by omega)
      have w2 : IntKind.i64.wrap (k.ol * y) = k.ol * y := wrap64 (by omega) (by omega)
      have w3 : IntKind.i64.wrap (k.oh * y) = k.oh * y := wrap64 (by omega) (by omega)
      have hpM := pStr_snoc M k.name
      have hpS := pStr_snoc S k.name
      by_cases c1 : 1000 * x < k.ol * y
      · have e1 : mayB x y a b k = false := by simp [mayB, partB, c1]
        have e2 : surB x y a b k = false := by simp [surB, e1]
        refine ⟨?_, ?h1, ?h2⟩
        case h1 =>
          simp -implicitDefEqProofs [loopS_eq, c32L0, cK_len, hx, hlt, hlt', hws, w1, w2, c1]
          exact rfl
        case h2 => exact loopS_same (by simp [e1, e2]) (by simp [e1, e2])
      · by_cases c2 : k.oh * y < 1000 * x
        · have e1 : mayB x y a b k = false := by simp [mayB, partB, c2]
          have e2 : surB x y a b k = false := by simp [surB, e1]
          refine ⟨?_, ?h3, ?h4⟩
          case h3 =>
            simp -implicitDefEqProofs [loopS_eq, c32L0, cK_len, hx, hlt, hlt', hws, w1, w2, w3, c1, c2]
            exact rfl
          case h4 => exact loopS_same (by simp [e1, e2]) (by simp [e1, e2])
        · have m1 : meetB k.sl k.sh a b = (decide (a ≤ k.sh) && decide (k.sl ≤ b)) := by
            rw [meetB, Bool.eq_iff_iff]
            simp only [decide_eq_true_eq, Bool.and_eq_true]
            omega
          have e1 : mayB x y a b k = (decide (a ≤ k.sh) && decide (k.sl ≤ b)) := by simp [mayB, partB, c1, c2, m1]
          have cs : (¬ a ≤ k.sh ∧ k.sl ≤ a) ∨ (a ≤ k.sh ∧ ¬ k.sl ≤ b ∧ ¬ k.sl ≤ a) ∨ (a ≤ k.sh ∧ k.sl ≤ b ∧ ¬ k.sl ≤ a) ∨ (a ≤ k.sh ∧ k.sl ≤ b ∧ k.sl ≤ a) := by omega
          rcases cs with ⟨c3, c4⟩ | ⟨c3, c4, c5⟩ | ⟨c3, c4, c5⟩ | ⟨c3, c4, c5⟩
          · have c6 : ¬ b ≤ k.sh := by omega
            have e1' : mayB x y a b k = false := by simp [e1, c3]
            have e2 : surB x y a b k = false := by simp [surB, e1']
            refine ⟨?_, ?h5, ?h6⟩
            case h5 =>
              simp -implicitDefEqProofs [loopS_eq, c32L0, cK_len, hx, hlt, hlt', hws, w1, w2, w3, c1, c2, c3, c4, c6]
              exact rfl
            case h6 => exact loopS_same (by simp [e1', e2]) (by simp [e1', e2])
          · have e1' : mayB x y a b k = false := by simp [e1, c4]
            have e2 : surB x y a b k = false := by simp [surB, e1']
            refine ⟨?_, ?h7, ?h8⟩
            case h7 =>
              simp -implicitDefEqProofs [loopS_eq, c32L0, cK_len, hx, hlt, hlt', hws, w1, w2, w3, c1, c2, c3, c4, c5]
              exact rfl
            case h8 => exact loopS_same (by simp [e1', e2]) (by simp [e1', e2])
          · have e1' : mayB x y a b k = true := by simp [e1, c3, c4]
            have e2 : surB x y a b k = false := by simp [surB, e1', c5]
            refine ⟨?_, ?h9, ?ha⟩
            case h9 =>
              simp -implicitDefEqProofs [loopS_eq, c32L0, cK_len, hx, hlt, hlt', hws, w1, w2, w3, c1, c2, c3, c4, c5, hmlim]
              exact rfl
            case ha => exact loopS_same (by simp [e1', e2]) (by simp [e1', e2, ← hpM])
          · have e1' : mayB x y a b k = true := by simp [e1, c3, c4]
            by_cases c6 : b ≤ k.sh
            · have e2 : surB x y a b k = true := by simp [surB, e1', c5, c6]
              refine ⟨?_, ?hb, ?hc⟩
              case hb =>
                simp -implicitDefEqProofs [loopS_eq, c32L0, cK_len, hx, hlt, hlt', hws, w1, w2, w3, c1, c2, c3, c4, c5, c6, hmlim, hslim]
                exact rfl
              case hc => exact loopS_same (by simp [e1', e2]) (by simp [e1', e2, ← hpM, ← hpS])
            · have e2 : surB x y a b k = false := by simp [surB, e1', c6]
              refine ⟨?_, ?hd, ?he⟩
              case hd =>
                simp -implicitDefEqProofs [loopS_eq, c32L0, cK_len, hx, hlt, hlt', hws, w1, w2, w3, c1, c2, c3, c4, c5, c6, hmlim]
                exact rfl
              case he => exact loopS_same (by simp [e1', e2]) (by simp [e1', e2, ← hpM])
    · simp -implicitDefEqProofs [refInv, loopS_eq, c32L0]
  simp -implicitDefEqProofs [c32]
  rw [key]
  simp -implicitDefEqProofs [refInv, htl, -List.map_take]

theorem cls_at (l : List ClsI) (hbig : l.length ≤ 9223372036854775807) (a b x y : Int) : RUN 61 4 [ksl l, .agg [iv a, iv b], .agg [iv x, iv y]] = .ret (.p (.bool true)) := by
  rw [RUN, call_eq (d := 60) fe4 _ rfl]
  have ka := awake13
  have k26 := short26 (n := 60) (by omega) l hbig
  by_cases hs : shortB l = true
  · obtain ⟨h40, hl17⟩ := short_of hs
    have hl : l.length < 1000000 := by omega
    have k28 := classes28 (n := 60) (by omega) l hl
    have k27 := classes27 (n := 60) (by omega) l hl h40 a b x y
    have k29 := check29 (n := 60) (by omega) l hl
    have k30 := speed30 (n := 60) (by omega) a b
    have k31 := over31 (n := 60) (by omega) x y
    have k19 := first19_3 (n := 60) (by omega) (classE l) (ivE 0 100000 (a, b)) (ovrE x y)
    have hE : firstE [classE l, ivE 0 100000 (a, b), ovrE x y] = clasE l a b x y := by
      unfold clasE secE ovrE
      rw [firstE_cons]
      by_cases z : classE l = 0
      · rw [if_pos z, if_pos z]
        simp only [firstE]
        generalize ivE 0 100000 (a, b) = p
        generalize ratE x y = q
        generalize whenE (decide (x < 0) || decide (y < x)) 3 = r
        by_cases hp : p = 0 <;> by_cases hq : q = 0 <;> by_cases hr : r = 0 <;> simp [hp, hq, hr]
      · rw [if_neg z, if_neg z]
    rw [hE] at k19
    have k33n := same33 (n := 60) (by omega) [] [] (by simp)
    simp only [wsl, pStr_nil, List.length_nil] at k33n
    by_cases z0 : clasE l a b x y = 0
    · rw [if_pos z0] at k27
      have z1 : classE l = 0 := by
        unfold clasE at z0
        by_cases z : classE l = 0
        · exact z
        · rw [if_neg z] at z0; exact absurd z0 z
      have z2 : secE a b x y = 0 := by
        unfold clasE at z0
        rwa [if_pos z1] at z0
      obtain ⟨hl16, hok⟩ := cls_of z1
      obtain ⟨hab, x1, x2, x3⟩ := sec_zero z2
      have k32 := classes32 (n := 60) (by omega) hl16 hok hab x1 x2 x3
      have htl : l.take l.length = l := List.take_of_length_le (by omega)
      have m1 := mayL_le x y a b l l.length
      have m2 := surL_le x y a b l l.length
      rw [htl] at m1 m2
      have k33a := same33 (n := 60) (by omega) (surL x y a b l) (surL x y a b l) (by omega)
      have k33b := same33 (n := 60) (by omega) (mayL x y a b l) (mayL x y a b l) (by omega)
      simp -implicitDefEqProofs [c4, ka, k26, hs, k28, k27, k29, k30, k31, k19, k32, k33a, k33b, z0]
    · rw [if_neg z0] at k27
      have q0 : (clasE l a b x y == 0) = false := by simpa using z0
      simp -implicitDefEqProofs [c4, ka, k26, hs, k28, k27, k29, k30, k31, k19, k33n, q0]
  · have hs' : shortB l = false := by simpa using hs
    simp -implicitDefEqProofs [c4, ka, k26, hs']
end Fw
