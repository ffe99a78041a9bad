/- The sets of the chapter, one by one: what is kept while they are visited. -/
import Derived.Test.YtombnimlolbekaaGreatDoorPuX7
set_option maxHeartbeats 8000000
namespace Fw
open Go
attribute [local irreducible] evCode evOps evOpsD evOper evOperD evOp evFn loopN T.All T.bind callPure callOp opsK opsDK restK seqK blockK loopS setK setQ giveK scalK gcK finish finS rfunK yldK yldB loopK

def cEnv (l : List PackI) : Env := [(3, .ptr 0 0 0), (4, .p .nils), (5, iv 0), (6, iv 0), (8, .ptr 1 0 0), (9, .ptr 2 0 0), (10, .ptr 3 0 0), (22, .p (.clo 176 [] [.pp [.sl (cP l) l.length]]))]
def cLoop (l : List PackI) (j : Option ACode) (e : Nat) : Obj := .loop (cEnv l) [23] c78A0 c78B0 j e
/-- the store behind the sets: the row of the set that is kept (if it has one), the loop, the function that compares, found, out, the target -/
def cB0 (l : List PackI) (x : Int × Int) (f : Bool) (o : List AVal) (j : Option ACode) (e : Nat) : Sto := [(4, cLoop l j e), (3, .box [.p (.clo 143 [] [])]), (2, .arr [.bool f] 0 1), (1, .box o), (0, .arr [.int .i64 x.1, .int .i64 x.2] 0 1)]

/-- what a round of sets$1 looks at -/
def sEnv (l : List PackI) (m b c i : Nat) : Env := [(0, .yld 4), (1, .p (.pp [.sl (cP l) l.length])), (3, iv b), (4, .ptr c 0 0), (9, iv m), (10, iv b), (13, psl l), (14, iv l.length), (15, iv i)]

/-- what is dropped when a round begins -/
structure GcOk (l : List PackI) (m b c : Nat) (B : Sto) : Prop where
  g1 : ∀ (i : Nat) (c1 c2 : Int), gc 5 (sEnv l m b c i) ((c, .box [iv c1, iv c2, .p .nils]) :: B) = (c, .box [iv c1, iv c2, .p .nils]) :: B
  g2 : ∀ (i : Nat) (c1 c2 : Int) (P : List PVal), gc 5 (sEnv l m b c i) ((c + 1, .arr P 0 1) :: (c, .box [iv c1, iv c2, .p .nils]) :: B) = (c, .box [iv c1, iv c2, .p .nils]) :: B
  g3 : ∀ (i : Nat) (c1 c2 : Int) (P R : List PVal) (w n : Nat), gc 5 (sEnv l m b c i) ((c + 2, .arr R w 1) :: (c + 1, .arr P 0 1) :: (c, .box [iv c1, iv c2, .sl (c + 2) w 0 n]) :: B) = (c + 2, .arr R w 1) :: (c, .box [iv c1, iv c2, .sl (c + 2) w 0 n]) :: B
  g4 : ∀ (i : Nat) (c1 c2 : Int) (P R : List PVal) (w n : Nat), gc 5 (sEnv l m b c i) ((c + 3, .arr P 0 1) :: (c + 2, .arr R w 1) :: (c, .box [iv c1, iv c2, .sl (c + 2) w 0 n]) :: B) = (c + 2, .arr R w 1) :: (c, .box [iv c1, iv c2, .sl (c + 2) w 0 n]) :: B
  g5 : ∀ (i : Nat) (c1 c2 : Int) (R : List PVal) (w n : Nat), gc 5 (sEnv l m b c i) ((c + 2, .arr R w 1) :: (c, .box [iv c1, iv c2, .sl (c + 2) w 0 n]) :: B) = (c + 2, .arr R w 1) :: (c, .box [iv c1, iv c2, .sl (c + 2) w 0 n]) :: B

theorem gcA (l : List PackI) (x : Int × Int) (f : Bool) (u v : Int) (m b q : Nat) : GcOk l m b (q + 5) (cB0 l x f [iv u, iv v, .p .nils] none 0) := by
  constructor <;> intros <;> simp -implicitDefEqProofs [sEnv, cB0, cLoop, cEnv]
theorem gcB (l : List PackI) (x : Int × Int) (f : Bool) (u v : Int) (m b r w0 n0 : Nat) (R0 : List PVal) : GcOk l m b (r + 6) ((r + 5, .arr R0 w0 1) :: cB0 l x f [iv u, iv v, .sl (r + 5) w0 0 n0] none 0) := by
  constructor <;> intros <;> simp -implicitDefEqProofs [sEnv, cB0, cLoop, cEnv]

def impS (l : List PackI) (s : List Int) : Int := impF l s s.length
theorem sums_take (l : List PackI) (s : List Int) (y : Int) : ∀ k, k ≤ s.length → impF l (s ++ [y]) k = impF l s k ∧ cstF l (s ++ [y]) k = cstF l s k := by
  intro k
  induction k with
  | zero => intro _; exact ⟨rfl, rfl⟩
  | succ k ih =>
    intro hk
    obtain ⟨h1, h2⟩ := ih (by omega)
    have ha : atI l (s ++ [y]) k = atI l s k := by
      unfold atI
      congr 2
      simp [List.getD_eq_getElem?_getD, List.getElem?_append_left (show k < s.length by omega)]
    refine ⟨?_, ?_⟩ <;> simp only [impF, cstF, h1, h2, ha]
theorem sums_snoc (l : List PackI) (s : List Int) (i : Nat) (hi : i < l.length) : impS l (s ++ [(i : Int)]) = impS l s + impI l[i] ∧ cst l (s ++ [(i : Int)]) = cst l s + l[i].cost := by
  have ha : atI l (s ++ [(i : Int)]) s.length = l[i] := by
    unfold atI
    have : (s ++ [(i : Int)]).getD s.length 0 = (i : Int) := by simp [List.getD_eq_getElem?_getD]
    rw [this, Int.toNat_natCast, getD_at hi]
  obtain ⟨h1, h2⟩ := sums_take l s i s.length (Nat.le_refl _)
  have hl : (s ++ [(i : Int)]).length = s.length + 1 := by simp
  unfold impS cst
  rw [hl]
  refine ⟨?_, ?_⟩ <;> simp only [impF, cstF, h1, h2, ha]

/-- the store at a round: the set so far -/
def xS (l : List PackI) (s : List Int) (c : Nat) (B : Sto) : Sto := if s = [] then (c, .box [iv 0, iv 0, .p .nils]) :: B else (c + 2, .arr (pI s) (s.length - 1) 1) :: (c, .box [iv (cst l s), iv (impS l s), .sl (c + 2) (s.length - 1) 0 s.length]) :: B

theorem and_one (q : Nat) : IntKind.i64.wrap ((BitVec.ofInt 64 (q : Int) &&& BitVec.ofInt 64 1).toNat : Int) = ((q % 2 : Nat) : Int) := by
  have h : (BitVec.ofInt 64 (q : Int) &&& BitVec.ofInt 64 1).toNat = q % 2 := by
    rw [BitVec.toNat_and]
    have h1 : (BitVec.ofInt 64 (q : Int)).toNat = q % 2 ^ 64 := by simp []
    have h2 : (BitVec.ofInt 64 1).toNat = 1 := by decide
    rw [h1, h2, Nat.and_one_is_mod]
    omega
  rw [h]
  exact wrap64 (by omega) (by omega)

theorem and_one' {q r : Nat} (h : q % 2 = r) : IntKind.i64.wrap ((q % 2 ^ IntKind.i64.bits &&& 1 % 2 ^ IntKind.i64.bits : Nat) : Int) = (r : Int) := by
  have h1 : q % 2 ^ IntKind.i64.bits &&& 1 % 2 ^ IntKind.i64.bits = q % 2 := by
    show q % 2 ^ 64 &&& 1 % 2 ^ 64 = q % 2
    rw [show 1 % 2 ^ 64 = 1 by decide, Nat.and_one_is_mod]
    omega
  rw [h1, h]
  exact wrap64 (by omega) (by omega)

theorem sets_loop {d : Nat} {l : List PackI} (hp : PksOk l) (m b c : Nat) (_hb : b < 1000) (B : Sto) (hg : GcOk l m b c B) :
    loopN (loopS (evFn F C0 G0 (d + 2)) C0 G0 5 true [0, 1, 3, 4, 9, 10, 13, 14, 15] c176L0) loopFuel ⟨sEnv l m b c 0, (c, .box [iv 0, iv 0, .p .nils]) :: B⟩ = .ret (.exit 2, ⟨sEnv l m b c l.length ++ [(16, .p (.bool false))], xS l (selF b l.length) c B⟩) := by
  have hfew := hp.few
  let J : Nat → St := fun i => ⟨sEnv l m b c i, xS l (selF b i) c B⟩
  have hgc : ∀ i, gc 5 (sEnv l m b c i) (xS l (selF b i) c B) = xS l (selF b i) c B := fun i => by
    unfold xS
    split
    · exact hg.g1 i 0 0
    · exact hg.g5 i _ _ _ _ _
  have hre : ∀ i, restrict (sEnv l m b c i) [0, 1, 3, 4, 9, 10, 13, 14, 15] = sEnv l m b c i := fun i => rfl
  refine loop_run' J l.length (e := .exit 2) (by simp) rfl (fun i hi => ?_) ?_ (by simp [loopFuel]; omega)
  · have hlt' : (i : Int) < l.length := by omega
    have hx := cP_drop l i hi
    have hlt : i * 4 < l.length * 4 := by omega
    have hlt4 : i * 4 + 4 ≤ l.length * 4 := by omega
    have hpk := hp.all _ (List.getElem_mem hi)
    have him := imp_in hpk
    have hco := hpk.cost
    have h5 := impulse142 (n := d + 2) (by omega) hpk
    obtain ⟨r1, r2⟩ := selF_in b i
    have hlim : (selF b i).length + 1 ≤ lim := by have := hfew; simp only [lim]; omega
    have hin : InR l.length (selF b i) := fun y hy => by have := r1 y hy; omega
    have hsum := sums_in hp hin (selF b i).length (Nat.le_refl _)
    obtain ⟨s1, s2⟩ := sums_snoc l (selF b i) i hi
    have hi1 : impF l (selF b i) (selF b i).length = impS l (selF b i) := rfl
    have hc1 : cstF l (selF b i) (selF b i).length = cst l (selF b i) := rfl
    rw [hi1, hc1] at hsum
    have hs : selF b (i + 1) = if b / 2 ^ i % 2 = 1 then selF b i ++ [(i : Int)] else selF b i := rfl
    have hgi := hgc i
    have hmin : Nat.min i 64 = i := Nat.min_eq_left (by have := hfew; omega)
    have hfd : shiftP false (iv b) (iv i) = some (iv (b / 2 ^ i : Nat)) := by
      have h0 : ¬ (i : Int) < 0 := by omega
      simp only [shiftP, h0, if_false, Bool.false_eq_true, Int.toNat_natCast, IntKind.bits]
      rw [hmin, Int.fdiv_eq_ediv_of_nonneg _ (Int.pow_nonneg (by omega))]
      norm_cast
    have hsame : ∀ B1, gc 5 (sEnv l m b c (i + 1)) B1 = xS l (selF b (i + 1)) c B → loopS (evFn F C0 G0 (d + 2)) C0 G0 5 true [0, 1, 3, 4, 9, 10, 13, 14, 15] c176L0 ⟨sEnv l m b c (i + 1), B1⟩ = loopS (evFn F C0 G0 (d + 2)) C0 G0 5 true [0, 1, 3, 4, 9, 10, 13, 14, 15] c176L0 (J (i + 1)) := fun B1 h =>
      loopS_same rfl (by
        show gc 5 (sEnv l m b c (i + 1)) B1 = gc 5 (sEnv l m b c (i + 1)) (xS l (selF b (i + 1)) c B)
        rw [h, hgc])
    have n1 : ¬ c + 1 + 1 = c := by omega
    have n2 : ¬ c = c + 1 + 1 := by omega
    have n3 : ¬ c = c + 1 := by omega
    have n4 : ¬ c + 1 + 1 = c + 1 := by omega
    have n5 : ¬ c + 1 = c + 1 + 1 := by omega
    have n6 : ¬ c + 1 + 1 + 1 = c := by omega
    have n7 : ¬ c = c + 1 + 1 + 1 := by omega
    have hlim1 : 1 ≤ lim := by simp [lim]
    have hw := wrap_succ (i := i) (by have := hfew; omega)
    generalize b / 2 ^ i = q at *
    generalize hS1 : selF b (i + 1) = S1 at *
    generalize hS : selF b i = S at *
    by_cases he : S = []
    · have hxs : xS l S c B = (c, .box [iv 0, iv 0, .p .nils]) :: B := by rw [xS, if_pos he]
      subst he
      have z1 : cst l [] = 0 := rfl
      have z2 : impS l [] = 0 := rfl
      by_cases hc : q % 2 = 1
      · rw [if_pos hc] at hs
        rw [List.nil_append] at s1 s2 hs
        have hand1 := and_one' hc
        have w1 : IntKind.i64.wrap l[i].cost = l[i].cost := wrap64 (by omega) (by omega)
        have w2 : IntKind.i64.wrap (impI l[i]) = impI l[i] := wrap64 (by omega) (by omega)
        refine ⟨⟨sEnv l m b c (i + 1), (c + 2, .arr (pI S1) 0 1) :: (c + 1, .arr (pkc l[i]) 0 1) :: (c, .box [iv (cst l S1), iv (impS l S1), .sl (c + 2) 0 0 1]) :: B⟩, ?_, ?_⟩
        · simp only [J, hS]
          rw [loopS_eq]
          simp only [hre, if_true, hgi]
          simp only [hxs]
          simp -implicitDefEqProofs [sEnv, c176L0, hlt', hx, hlt, hfd, hand1, hs, s1, s2, n1, hlim1, h5, hw, w1, w2, z1, z2]
          rfl
        · refine hsame _ ?_
          rw [hg.g3, hs]
          rfl
      · rw [if_neg hc] at hs
        subst hs
        have hand0 := and_one' (show q % 2 = 0 by omega)
        refine ⟨⟨sEnv l m b c (i + 1), (c + 1, .arr (pkc l[i]) 0 1) :: (c, .box [iv 0, iv 0, .p .nils]) :: B⟩, ?_, ?_⟩
        · simp only [J, hS]
          rw [loopS_eq]
          simp only [hre, if_true, hgi]
          simp only [hxs]
          simp -implicitDefEqProofs [sEnv, c176L0, hlt', hx, hlt, hfd, hand0, hw]
        · refine hsame _ ?_
          rw [hg.g2, hxs]
    · obtain ⟨k, hk⟩ : ∃ k, S.length = k + 1 := ⟨S.length - 1, by have := List.length_pos_iff.2 he; omega⟩
      have hxs : xS l S c B = (c + 2, .arr (pI S) k 1) :: (c, .box [iv (cst l S), iv (impS l S), .sl (c + 2) k 0 (k + 1)]) :: B := by rw [xS, if_neg he, hk]; rfl
      rw [hk] at hlim
      by_cases hc : q % 2 = 1
      · rw [if_pos hc] at hs
        have hand1 := and_one' hc
        have w1 : IntKind.i64.wrap (cst l S + l[i].cost) = cst l S + l[i].cost := wrap64 (by omega) (by omega)
        have w2 : IntKind.i64.wrap (impS l S + impI l[i]) = impS l S + impI l[i] := wrap64 (by omega) (by omega)
        have hl1 : S1.length = k + 2 := by rw [hs]; simp [hk]
        have he1 : ¬ S1 = [] := fun h => by rw [h] at hl1; simp at hl1
        refine ⟨⟨sEnv l m b c (i + 1), (c + 3, .arr (pkc l[i]) 0 1) :: (c + 2, .arr (pI S1) (k + 1) 1) :: (c, .box [iv (cst l S1), iv (impS l S1), .sl (c + 2) (k + 1) 0 (k + 2)]) :: B⟩, ?_, ?_⟩
        · simp only [J, hS]
          rw [loopS_eq]
          simp only [hre, if_true, hgi]
          simp only [hxs]
          simp -implicitDefEqProofs [sEnv, c176L0, hlt', hx, hlt, hfd, hand1, hs, s1, s2, n6, hlim, h5, hw, w1, w2, hk, pI_snoc]
        · refine hsame _ ?_
          rw [hg.g4, xS, if_neg he1, hl1]
          rfl
      · rw [if_neg hc] at hs
        subst hs
        have hand0 := and_one' (show q % 2 = 0 by omega)
        refine ⟨⟨sEnv l m b c (i + 1), (c + 3, .arr (pkc l[i]) 0 1) :: (c + 2, .arr (pI S1) k 1) :: (c, .box [iv (cst l S1), iv (impS l S1), .sl (c + 2) k 0 (k + 1)]) :: B⟩, ?_, ?_⟩
        · simp only [J, hS]
          rw [loopS_eq]
          simp only [hre, if_true, hgi]
          simp only [hxs]
          simp -implicitDefEqProofs [sEnv, c176L0, hlt', hx, hlt, hfd, hand0, hw]
        · refine hsame _ ?_
          rw [hg.g4, hxs]
  · have hgl := hgc l.length
    simp only [J]
    rw [loopS_eq]
    simp only [hre, if_true, hgl]
    simp -implicitDefEqProofs [sEnv, c176L0]
end Fw
