/- Several texts in one: steps of the proof, no condition of their own. -/
import Derived.Test.YtombnimlolbekaaGreatDoorPuX5
import Derived.Test.YtombnimlolbekaaGreatDoorPuAp4
import Derived.Test.YtombnimlolbekaaGreatDoorFwC
attribute [local irreducible] Fw.evCode Fw.evOps Fw.evOpsD Fw.evOper Fw.evOperD Fw.evOp Fw.evFn Fw.loopN Fw.T.All Fw.T.bind Fw.callPure Fw.callOp Fw.opsK Fw.opsDK Fw.restK Fw.seqK Fw.blockK Fw.loopS Fw.setK Fw.setQ Fw.giveK Fw.scalK Fw.gcK Fw.finish Fw.finS Fw.rfunK Fw.yldK Fw.yldB Fw.loopK
section
set_option maxHeartbeats 8000000
namespace Fw
open Go

def selF (b : Nat) : Nat → List Int
 | 0 => []
 | i + 1 => if b / 2 ^ i % 2 = 1 then selF b i ++ [(i : Int)] else selF b i
theorem selF_in (b : Nat) : ∀ n, (∀ i ∈ selF b n, 0 ≤ i ∧ i < n) ∧ (selF b n).length ≤ n := by
 intro n
 induction n with
 | zero => exact ⟨fun i hi => by simp [selF] at hi, by simp [selF]⟩
 | succ n ih =>
  simp only [selF]
  split
  ·refine ⟨fun i hi => ?_, by simp; exact ih.2⟩
   rcases List.mem_append.1 hi with h | h
   ·have := ih.1 i h; omega
   ·simp at h; omega
  ·exact ⟨fun i hi => by have := ih.1 i hi; omega, by have := ih.2; omega⟩

def cst (l : List PackI) (s : List Int) : Int := cstF l s s.length
def betterB (l : List PackI) (s o : List Int) : Bool := decide (cst l s < cst l o) || (decide (cst l s = cst l o) && beforeB s o)
def accB (l : List PackI) (x : Int × Int) (s : List Int) (o : Option (List Int)) : Bool := fitB l s x && match o with
 | none => true
 | some o => betterB l s o
def bestF (l : List PackI) (x : Int × Int) : Nat → Option (List Int)
 | 0 => none
 | b + 1 => if accB l x (selF b l.length) (bestF l x b) = true then some (selF b l.length) else bestF l x b
def idF (l : List PackI) (x : Int × Int) : Nat → Nat
 | 0 => 0
 | b + 1 => if accB l x (selF b l.length) (bestF l x b) = true then idF l x b + 1 else idF l x b

theorem idF_pos (l : List PackI) (x : Int × Int) : ∀ b, (bestF l x b = none → idF l x b = 0) ∧ (∀ s, bestF l x b = some s → 0 < idF l x b) ∧ ∀ s, bestF l x b = some s → (∀ i ∈ s, 0 ≤ i ∧ i < l.length) ∧ s.length ≤ l.length := by
 intro b
 induction b with
 | zero => exact ⟨fun _ => rfl, fun s h => (by cases h), fun s h => (by cases h)⟩
 | succ b ih =>
  simp only [bestF, idF]
  split
  ·exact ⟨fun h => (by cases h), fun s _ => (by omega), fun s h => (by cases h; exact selF_in b l.length)⟩
  ·exact ih

end Fw
end

section
set_option maxHeartbeats 8000000
namespace Fw
open Go

def lexG (a b : List Int) (i : Nat) : Int := if b.length ≤ i then 1 else cmpI (a.getD i 0) (b.getD i 0)
def scmpI (a b : List Int) : Int := if firstE ((List.range a.length).map (lexG a b)) = 0 then (if a.length < b.length then -1 else 0) else firstE ((List.range a.length).map (lexG a b))
theorem scmp_eq {a b : List Int} (h : a.length = b.length) : scmpI a b = lexI a b := by
 have hm : (List.range a.length).map (lexG a b) = (List.range a.length).map (lexE a b) := by
  refine List.map_congr_left (fun i hi => ?_)
  have := List.mem_range.1 hi
  rw [lexG, if_neg (by omega)]; rfl
 unfold scmpI lexI
 rw [hm]
 split
 ·rename_i hz; rw [if_neg (by omega), hz]
 ·rfl

theorem scmpG175 {n : Nat} (hn : 3 ≤ n) (a b : List Int) (hl : a.length < 1000000) : RUN n 175 [isl a, isl b] = .ret (iv (scmpI a b)) := by
 obtain ⟨d, rfl⟩ : ∃ d, n = d + 3 := ⟨n - 3, by omega⟩
 rw [RUN, call_eq fe175 _ rfl]
 let inv : Nat → St := fun i => ⟨[(0, isl a), (1, isl b), (9, isl a), (10, iv a.length), (11, iv i)], []⟩
 have key := loop_first (step := loopS (evFn F C0 G0 (d + 2)) C0 G0 0 false [0, 1, 9, 10, 11] c175L0) inv (lexG a b) a.length (.exit 0, ⟨(inv a.length).env ++ [(12, .p (.bool false))], []⟩) (fun i => (.ret, ⟨[(4, iv (lexG a b i))], []⟩))
  (st0 := ⟨[(0, isl a), (1, isl b), (9, isl a), (10, iv a.length), (11, iv 0)], []⟩) rfl (fun i hi => by
   have hlt' : (i : Int) < a.length := by omega
   have g1 : a.getD i 0 = a[i] := by simp [List.getD_eq_getElem?_getD, List.getElem?_eq_getElem hi]
   by_cases hib : i < b.length
   ·have hltb : (i : Int) < b.length := by omega
    have hnb : ¬ (b.length : Int) ≤ i := by omega
    have hnb2 : ¬ b.length ≤ i := by omega
    have g2 : b.getD i 0 = b[i] := by simp [List.getD_eq_getElem?_getD, List.getElem?_eq_getElem hib]
    have he : lexG a b i = cmpI a[i] b[i] := by simp only [lexG, g1, g2, if_neg hnb2]
    have h1 := cmp174 (n := d + 2) (by omega) a[i] b[i]
    rw [he]
    refine ⟨fun hz => ⟨inv (i + 1), ?_, rfl⟩, fun hz => ?_⟩
    ·simp -implicitDefEqProofs [inv, loopS_eq, c175L0, hi, hib, hlt', hltb, hnb, h1, hz, wrap_succ (i := i) (by omega)]
    ·simp -implicitDefEqProofs [inv, loopS_eq, c175L0, hi, hib, hlt', hltb, hnb, h1, hz]
   ·have hge : (b.length : Int) ≤ i := by omega
    have hge2 : b.length ≤ i := by omega
    have he : lexG a b i = 1 := by rw [lexG, if_pos hge2]
    rw [he]
    refine ⟨fun hz => absurd hz (by decide), fun _ => ?_⟩
    simp -implicitDefEqProofs [inv, loopS_eq, c175L0, hi, hlt', hge]) (fun i => by simp) (by simp -implicitDefEqProofs [inv, loopS_eq, c175L0]) (by simp) (fuel := loopFuel) (by simp [loopFuel]; omega)
 simp -implicitDefEqProofs [c175]
 rcases key with ⟨k1, k2⟩ | ⟨j, hj, k1, k2, k3, _⟩
 ·rw [k1, scmpI, if_pos k2]
  by_cases hab : a.length < b.length
  ·have hi : (a.length : Int) < b.length := by omega
   simp -implicitDefEqProofs [inv, hab, hi]
  ·have hi : ¬ (a.length : Int) < b.length := by omega
   simp -implicitDefEqProofs [inv, hab, hi]
 ·rw [k1, scmpI, k2, if_neg k3]
  simp -implicitDefEqProofs

def setV (a : List Int) (k v : Nat) : AVal := if a = [] then .p .nils else .sl k v 0 a.length
def cmpC (ca cb : Int) (a b : List Int) : Int := firstE [cmpI ca cb, cmpI a.length b.length, scmpI a b]

theorem cmpC_neg {ca cb : Int} {a b : List Int} : decide (cmpC ca cb a b < 0) = (decide (ca < cb) || (decide (ca = cb) && beforeB a b)) := by
 have h1 : ∀ x y : Int, (cmpI x y = 0 ↔ x = y) ∧ (cmpI x y < 0 ↔ x < y) := fun x y => by unfold cmpI; split <;> (try split) <;> omega
 obtain ⟨a1, a2⟩ := h1 ca cb
 obtain ⟨b1, b2⟩ := h1 a.length b.length
 rw [Bool.eq_iff_iff, Bool.or_eq_true, Bool.and_eq_true, decide_eq_true_eq, decide_eq_true_eq, decide_eq_true_eq]
 have hC : cmpC ca cb a b = if cmpI ca cb = 0 then (if cmpI a.length b.length = 0 then (if scmpI a b = 0 then 0 else scmpI a b) else cmpI a.length b.length) else cmpI ca cb := rfl
 rw [hC]
 by_cases c1 : ca = cb
 ·rw [if_pos (a1.2 c1)]
  have hlt : ¬ ca < cb := by omega
  by_cases c2 : a.length = b.length
  ·rw [if_pos (b1.2 (by omega)), scmp_eq c2]
   have hB : beforeB a b = decide (lexI a b < 0) := by rw [beforeB, if_pos c2]
   simp only [hB, decide_eq_true_eq]
   constructor
   ·intro h
    right
    refine ⟨c1, ?_⟩
    split at h
    ·omega
    ·exact h
   ·rintro (h | ⟨_, h⟩)
    ·omega
    ·rw [if_neg (by omega)]; exact h
  ·have hB : beforeB a b = decide (a.length < b.length) := by rw [beforeB, if_neg c2]
   rw [if_neg (fun h => c2 (by have := b1.1 h; omega))]
   simp only [hB, decide_eq_true_eq, b2]
   omega
 ·rw [if_neg (fun h => c1 (a1.1 h)), a2]
  constructor
  ·intro h; exact .inl h
  ·rintro (h | ⟨h, _⟩)
   ·exact h
   ·exact absurd h c1

theorem compare143 {d : Nat} (S R : Sto) (t : Nat) (o0 : Obj) (hS : S = (t, o0) :: R) (a b : List Int) (ca ia cb ib : Int) (ka kb va vb : Nat) (ha : a ≠ [] → get S ka = some (.arr (pI a) va 1) ∧ ka ≤ t) (hb : b ≠ [] → get S kb = some (.arr (pI b) vb 1) ∧ kb ≤ t) (hl : a.length < 1000000) :
  evFn F C0 G0 (d + 4) (.fn 143) [.agg [iv ca, iv ia, setV a ka va], .agg [iv cb, iv ib, setV b kb vb]] S = .ret (iv (cmpC ca cb a b), (t + 1 + 1, .box [iv cb, iv ib, setV b kb vb]) :: (t + 1, .box [iv ca, iv ia, setV a ka va]) :: S) := by
 subst hS
 simp only [get] at ha hb
 rw [evFn_fn fe143]
 have h1 := cmp174 (n := d + 3) (by omega) ca cb
 have h2 := cmp174 (n := d + 3) (by omega) a.length b.length
 have h3 := scmpG175 (n := d + 3) (by omega) a b hl
 have h4 := or173_3 (n := d + 3) (by omega) (cmpI ca cb) (cmpI a.length b.length) (scmpI a b)
 have e : firstE [cmpI ca cb, cmpI a.length b.length, scmpI a b] = cmpC ca cb a b := rfl
 rw [e] at h4
 by_cases qa : a = []
 ·subst qa
  simp only [isl, pI_nil, List.length_nil, Int.natCast_zero] at h2 h3 h4
  by_cases qb : b = []
  ·subst qb
   simp only [pI_nil, List.length_nil, Int.natCast_zero] at h2 h3 h4
   simp -implicitDefEqProofs [c143, setV, h1, h2, h3, h4]
  ·obtain ⟨g1, g2⟩ := hb qb
   have n1 : ¬ t + 1 = kb := by omega
   have n2 : ¬ t + 1 + 1 = kb := by omega
   simp -implicitDefEqProofs [c143, setV, qb, h1, h2, h3, h4, g1, n1, n2]
 ·obtain ⟨f1, f2⟩ := ha qa
  have m1 : ¬ t + 1 = ka := by omega
  have m2 : ¬ t + 1 + 1 = ka := by omega
  by_cases qb : b = []
  ·subst qb
   simp only [isl, pI_nil, List.length_nil, Int.natCast_zero] at h2 h3 h4
   simp -implicitDefEqProofs [c143, setV, qa, h1, h2, h3, h4, f1, m1, m2]
  ·obtain ⟨g1, g2⟩ := hb qb
   have n1 : ¬ t + 1 = kb := by omega
   have n2 : ¬ t + 1 + 1 = kb := by omega
   simp -implicitDefEqProofs [c143, setV, qa, qb, h1, h2, h3, h4, f1, m1, m2, g1, n1, n2]
end Fw
end

section
set_option maxHeartbeats 8000000
namespace Fw
open Go

def cEnv (l : List PackI) : Env := [(3, .ptr 0 0 0), (4, .p .nils), (5, iv 0), (6, iv 0), (8, .ptr 1 0 0), (9, .ptr 2 0 0), (10, .ptr 3 0 0), (22, .p (.clo 176 [] [.pp [.sl (cP l) l.length]]))]
def cLoop (l : List PackI) (j : Option ACode) (e : Nat) : Obj := .loop (cEnv l) [23] c78A0 c78B0 j e
def cB0 (l : List PackI) (x : Int × Int) (f : Bool) (o : List AVal) (j : Option ACode) (e : Nat) : Sto := [(4, cLoop l j e), (3, .box [.p (.clo 143 [] [])]), (2, .arr [.bool f] 0 1), (1, .box o), (0, .arr [.int .i64 x.1, .int .i64 x.2] 0 1)]

def sEnv (l : List PackI) (m b c i : Nat) : Env := [(0, .yld 4), (1, .p (.pp [.sl (cP l) l.length])), (3, iv b), (4, .ptr c 0 0), (9, iv m), (10, iv b), (13, psl l), (14, iv l.length), (15, iv i)]

structure GcOk (l : List PackI) (m b c : Nat) (B : Sto) : Prop where
 g1 : ∀ (i : Nat) (c1 c2 : Int), gc 5 (sEnv l m b c i) ((c, .box [iv c1, iv c2, .p .nils]) :: B) = (c, .box [iv c1, iv c2, .p .nils]) :: B
 g2 : ∀ (i : Nat) (c1 c2 : Int) (P : List PVal), gc 5 (sEnv l m b c i) ((c + 1, .arr P 0 1) :: (c, .box [iv c1, iv c2, .p .nils]) :: B) = (c, .box [iv c1, iv c2, .p .nils]) :: B
 g3 : ∀ (i : Nat) (c1 c2 : Int) (P R : List PVal) (w n : Nat), gc 5 (sEnv l m b c i) ((c + 2, .arr R w 1) :: (c + 1, .arr P 0 1) :: (c, .box [iv c1, iv c2, .sl (c + 2) w 0 n]) :: B) = (c + 2, .arr R w 1) :: (c, .box [iv c1, iv c2, .sl (c + 2) w 0 n]) :: B
 g4 : ∀ (i : Nat) (c1 c2 : Int) (P R : List PVal) (w n : Nat), gc 5 (sEnv l m b c i) ((c + 3, .arr P 0 1) :: (c + 2, .arr R w 1) :: (c, .box [iv c1, iv c2, .sl (c + 2) w 0 n]) :: B) = (c + 2, .arr R w 1) :: (c, .box [iv c1, iv c2, .sl (c + 2) w 0 n]) :: B
 g5 : ∀ (i : Nat) (c1 c2 : Int) (R : List PVal) (w n : Nat), gc 5 (sEnv l m b c i) ((c + 2, .arr R w 1) :: (c, .box [iv c1, iv c2, .sl (c + 2) w 0 n]) :: B) = (c + 2, .arr R w 1) :: (c, .box [iv c1, iv c2, .sl (c + 2) w 0 n]) :: B

theorem gcA (l : List PackI) (x : Int × Int) (f : Bool) (u v : Int) (m b q : Nat) : GcOk l m b (q + 5) (cB0 l x f [iv u, iv v, .p .nils] none 0) := by
 constructor <;> intros <;> simp -implicitDefEqProofs [sEnv, cB0, cLoop, cEnv]
theorem gcB (l : List PackI) (x : Int × Int) (f : Bool) (u v : Int) (m b r w0 n0 : Nat) (R0 : List PVal) : GcOk l m b (r + 6) ((r + 5, .arr R0 w0 1) :: cB0 l x f [iv u, iv v, .sl (r + 5) w0 0 n0] none 0) := by
 constructor <;> intros <;> simp -implicitDefEqProofs [sEnv, cB0, cLoop, cEnv]

def impS (l : List PackI) (s : List Int) : Int := impF l s s.length
theorem sums_take (l : List PackI) (s : List Int) (y : Int) : ∀ k, k ≤ s.length → impF l (s ++ [y]) k = impF l s k ∧ cstF l (s ++ [y]) k = cstF l s k := by
 intro k
 induction k with
 | zero => intro _; exact ⟨rfl, rfl⟩
 | succ k ih =>
  intro hk
  obtain ⟨h1, h2⟩ := ih (by omega)
  have ha : atI l (s ++ [y]) k = atI l s k := by
   unfold atI
   congr 2
   simp [List.getD_eq_getElem?_getD, List.getElem?_append_left (show k < s.length by omega)]
  refine ⟨?_, ?_⟩ <;> simp only [impF, cstF, h1, h2, ha]
theorem sums_snoc (l : List PackI) (s : List Int) (i : Nat) (hi : i < l.length) : impS l (s ++ [(i : Int)]) = impS l s + impI l[i] ∧ cst l (s ++ [(i : Int)]) = cst l s + l[i].cost := by
 have ha : atI l (s ++ [(i : Int)]) s.length = l[i] := by
  unfold atI
  have : (s ++ [(i : Int)]).getD s.length 0 = (i : Int) := by simp [List.getD_eq_getElem?_getD]
  rw [this, Int.toNat_natCast, getD_at hi]
 obtain ⟨h1, h2⟩ := sums_take l s i s.length (Nat.le_refl _)
 have hl : (s ++ [(i : Int)]).length = s.length + 1 := by simp
 unfold impS cst
 rw [hl]
 refine ⟨?_, ?_⟩ <;> simp only [impF, cstF, h1, h2, ha]

def xS (l : List PackI) (s : List Int) (c : Nat) (B : Sto) : Sto := if s = [] then (c, .box [iv 0, iv 0, .p .nils]) :: B else (c + 2, .arr (pI s) (s.length - 1) 1) :: (c, .box [iv (cst l s), iv (impS l s), .sl (c + 2) (s.length - 1) 0 s.length]) :: B

theorem and_one' {q r : Nat} (h : q % 2 = r) : IntKind.i64.wrap ((q % 2 ^ IntKind.i64.bits &&& 1 % 2 ^ IntKind.i64.bits : Nat) : Int) = (r : Int) := by
 have h1 : q % 2 ^ IntKind.i64.bits &&& 1 % 2 ^ IntKind.i64.bits = q % 2 := by
  show q % 2 ^ 64 &&& 1 % 2 ^ 64 = q % 2
  rw [show 1 % 2 ^ 64 = 1 by decide, Nat.and_one_is_mod]
  omega
 rw [h1, h]
 exact wrap64 (by omega) (by omega)

theorem sets_loop {d : Nat} {l : List PackI} (hp : PksOk l) (m b c : Nat) (_hb : b < 1000) (B : Sto) (hg : GcOk l m b c B) :
  loopN (loopS (evFn F C0 G0 (d + 2)) C0 G0 5 true [0, 1, 3, 4, 9, 10, 13, 14, 15] c176L0) loopFuel ⟨sEnv l m b c 0, (c, .box [iv 0, iv 0, .p .nils]) :: B⟩ = .ret (.exit 2, ⟨sEnv l m b c l.length ++ [(16, .p (.bool false))], xS l (selF b l.length) c B⟩) := by
 have hfew := hp.few
 let J : Nat → St := fun i => ⟨sEnv l m b c i, xS l (selF b i) c B⟩
 have hgc : ∀ i, gc 5 (sEnv l m b c i) (xS l (selF b i) c B) = xS l (selF b i) c B := fun i => by
  unfold xS
  split
  ·exact hg.g1 i 0 0
  ·exact hg.g5 i _ _ _ _ _
 have hre : ∀ i, restrict (sEnv l m b c i) [0, 1, 3, 4, 9, 10, 13, 14, 15] = sEnv l m b c i := fun i => rfl
 refine loop_run' J l.length (e := .exit 2) (by simp) rfl (fun i hi => ?_) ?_ (by simp [loopFuel]; omega)
 ·have hlt' : (i : Int) < l.length := by omega
  have hx := cP_drop l i hi
  have hlt : i * 4 < l.length * 4 := by omega
  have hlt4 : i * 4 + 4 ≤ l.length * 4 := by omega
  have hpk := hp.all _ (List.getElem_mem hi)
  have him := imp_in hpk
  have hco := hpk.cost
  have h5 := impulse142 (n := d + 2) (by omega) hpk
  obtain ⟨r1, r2⟩ := selF_in b i
  have hlim : (selF b i).length + 1 ≤ lim := by have := hfew; simp only [lim]; omega
  have hin : InR l.length (selF b i) := fun y hy => by have := r1 y hy; omega
  have hsum := sums_in hp hin (selF b i).length (Nat.le_refl _)
  obtain ⟨s1, s2⟩ := sums_snoc l (selF b i) i hi
  have hi1 : impF l (selF b i) (selF b i).length = impS l (selF b i) := rfl
  have hc1 : cstF l (selF b i) (selF b i).length = cst l (selF b i) := rfl
  rw [hi1, hc1] at hsum
  have hs : selF b (i + 1) = if b / 2 ^ i % 2 = 1 then selF b i ++ [(i : Int)] else selF b i := rfl
  have hgi := hgc i
  have hmin : Nat.min i 64 = i := Nat.min_eq_left (by have := hfew; omega)
  have hfd : shiftP false (iv b) (iv i) = some (iv (b / 2 ^ i : Nat)) := by
   have h0 : ¬ (i : Int) < 0 := by omega
   simp only [shiftP, h0, if_false, Bool.false_eq_true, Int.toNat_natCast, IntKind.bits]
   rw [hmin, Int.fdiv_eq_ediv_of_nonneg _ (Int.pow_nonneg (by omega))]
   norm_cast
  have hsame : ∀ B1, gc 5 (sEnv l m b c (i + 1)) B1 = xS l (selF b (i + 1)) c B → loopS (evFn F C0 G0 (d + 2)) C0 G0 5 true [0, 1, 3, 4, 9, 10, 13, 14, 15] c176L0 ⟨sEnv l m b c (i + 1), B1⟩ = loopS (evFn F C0 G0 (d + 2)) C0 G0 5 true [0, 1, 3, 4, 9, 10, 13, 14, 15] c176L0 (J (i + 1)) := fun B1 h =>
   loopS_same rfl (by
    show gc 5 (sEnv l m b c (i + 1)) B1 = gc 5 (sEnv l m b c (i + 1)) (xS l (selF b (i + 1)) c B)
    rw [h, hgc])
  have n1 : ¬ c + 1 + 1 = c := by omega
  have n2 : ¬ c = c + 1 + 1 := by omega
  have n3 : ¬ c = c + 1 := by omega
  have n4 : ¬ c + 1 + 1 = c + 1 := by omega
  have n5 : ¬ c + 1 = c + 1 + 1 := by omega
  have n6 : ¬ c + 1 + 1 + 1 = c := by omega
  have n7 : ¬ c = c + 1 + 1 + 1 := by omega
  have hlim1 : 1 ≤ lim := by simp [lim]
  have hw := wrap_succ (i := i) (by have := hfew; omega)
  generalize b / 2 ^ i = q at *
  generalize hS1 : selF b (i + 1) = S1 at *
  generalize hS : selF b i = S at *
  by_cases he : S = []
  ·have hxs : xS l S c B = (c, .box [iv 0, iv 0, .p .nils]) :: B := by rw [xS, if_pos he]
   subst he
   have z1 : cst l [] = 0 := rfl
   have z2 : impS l [] = 0 := rfl
   by_cases hc : q % 2 = 1
   ·rw [if_pos hc] at hs
    rw [List.nil_append] at s1 s2 hs
    have hand1 := and_one' hc
    have w1 : IntKind.i64.wrap l[i].cost = l[i].cost := wrap64 (by omega) (by omega)
    have w2 : IntKind.i64.wrap (impI l[i]) = impI l[i] := wrap64 (by omega) (by omega)
    refine ⟨⟨sEnv l m b c (i + 1), (c + 2, .arr (pI S1) 0 1) :: (c + 1, .arr (pkc l[i]) 0 1) :: (c, .box [iv (cst l S1), iv (impS l S1), .sl (c + 2) 0 0 1]) :: B⟩, ?_, ?_⟩
    ·simp only [J, hS]
     rw [loopS_eq]
     simp only [hre, if_true, hgi]
     simp only [hxs]
     simp -implicitDefEqProofs [sEnv, c176L0, hlt', hx, hlt, hfd, hand1, hs, s1, s2, n1, hlim1, h5, hw, w1, w2, z1, z2]
     rfl
    ·refine hsame _ ?_
     rw [hg.g3, hs]
     rfl
   ·rw [if_neg hc] at hs
    subst hs
    have hand0 := and_one' (show q % 2 = 0 by omega)
    refine ⟨⟨sEnv l m b c (i + 1), (c + 1, .arr (pkc l[i]) 0 1) :: (c, .box [iv 0, iv 0, .p .nils]) :: B⟩, ?_, ?_⟩
    ·simp only [J, hS]
     rw [loopS_eq]
     simp only [hre, if_true, hgi]
     simp only [hxs]
     simp -implicitDefEqProofs [sEnv, c176L0, hlt', hx, hlt, hfd, hand0, hw]
    ·refine hsame _ ?_
     rw [hg.g2, hxs]
  ·obtain ⟨k, hk⟩ : ∃ k, S.length = k + 1 := ⟨S.length - 1, by have := List.length_pos_iff.2 he; omega⟩
   have hxs : xS l S c B = (c + 2, .arr (pI S) k 1) :: (c, .box [iv (cst l S), iv (impS l S), .sl (c + 2) k 0 (k + 1)]) :: B := by rw [xS, if_neg he, hk]; rfl
   rw [hk] at hlim
   by_cases hc : q % 2 = 1
   ·rw [if_pos hc] at hs
    have hand1 := and_one' hc
    have w1 : IntKind.i64.wrap (cst l S + l[i].cost) = cst l S + l[i].cost := wrap64 (by omega) (by omega)
    have w2 : IntKind.i64.wrap (impS l S + impI l[i]) = impS l S + impI l[i] := wrap64 (by omega) (by omega)
    have hl1 : S1.length = k + 2 := by rw [hs]; simp [hk]
    have he1 : ¬ S1 = [] := fun h => by rw [h] at hl1; simp at hl1
    refine ⟨⟨sEnv l m b c (i + 1), (c + 3, .arr (pkc l[i]) 0 1) :: (c + 2, .arr (pI S1) (k + 1) 1) :: (c, .box [iv (cst l S1), iv (impS l S1), .sl (c + 2) (k + 1) 0 (k + 2)]) :: B⟩, ?_, ?_⟩
    ·simp only [J, hS]
     rw [loopS_eq]
     simp only [hre, if_true, hgi]
     simp only [hxs]
     simp -implicitDefEqProofs [sEnv, c176L0, hlt', hx, hlt, hfd, hand1, hs, s1, s2, n6, hlim, h5, hw, w1, w2, hk, pI_snoc]
    ·refine hsame _ ?_
     rw [hg.g4, xS, if_neg he1, hl1]
     rfl
   ·rw [if_neg hc] at hs
    subst hs
    have hand0 := and_one' (show q % 2 = 0 by omega)
    refine ⟨⟨sEnv l m b c (i + 1), (c + 3, .arr (pkc l[i]) 0 1) :: (c + 2, .arr (pI S1) k 1) :: (c, .box [iv (cst l S1), iv (impS l S1), .sl (c + 2) k 0 (k + 1)]) :: B⟩, ?_, ?_⟩
    ·simp only [J, hS]
     rw [loopS_eq]
     simp only [hre, if_true, hgi]
     simp only [hxs]
     simp -implicitDefEqProofs [sEnv, c176L0, hlt', hx, hlt, hfd, hand0, hw]
    ·refine hsame _ ?_
     rw [hg.g4, hxs]
 ·have hgl := hgc l.length
  simp only [J]
  rw [loopS_eq]
  simp only [hre, if_true, hgl]
  simp -implicitDefEqProofs [sEnv, c176L0]
end Fw
end

section
set_option maxHeartbeats 8000000
namespace Fw
open Go

theorem selF_ne : ∀ n b, 0 < b → b < 2 ^ n → selF b n ≠ [] := by
 intro n
 induction n with
 | zero => intro b h1 h2; simp at h2; omega
 | succ n ih =>
  intro b h1 h2
  simp only [selF]
  split
  ·simp
  ·rename_i h
   refine ih b h1 ?_
   have hp : 0 < 2 ^ n := Nat.pow_pos (by omega)
   have h3 : b / 2 ^ n < 2 := by rw [Nat.div_lt_iff_lt_mul hp]; rw [Nat.pow_succ] at h2; omega
   have h4 : b / 2 ^ n = 0 := by
    generalize b / 2 ^ n = q at *
    omega
   rcases (Nat.div_eq_zero_iff).1 h4 with h5 | h5
   ·omega
   ·exact h5

theorem cLoop_fold (l : List PackI) (j : Option ACode) (e : Nat) : Obj.loop [(3, .ptr 0 0 0), (4, .p .nils), (5, iv 0), (6, iv 0), (8, .ptr 1 0 0), (9, .ptr 2 0 0), (10, .ptr 3 0 0), (22, .p (.clo 176 [] [.pp [.sl (cP l) l.length]]))] [23] c78A0 c78B0 j e = cLoop l j e := rfl
theorem cLoop_fold' (l : List PackI) (j : Option ACode) (e : Nat) : Obj.loop (cEnv l) [23] c78A0 c78B0 j e = cLoop l j e := rfl
@[simp] theorem refs_cLoop (l : List PackI) (j : Option ACode) (e : Nat) : refsO (cLoop l j e) = [0, 1, 2, 3] := by simp [cLoop, cEnv]

def fitX (x : Int × Int) (i : Int) : Bool := decide (x.1 ≤ i) && decide (i ≤ x.2)

theorem yldA {d : Nat} (l : List PackI) (x : Int × Int) :
  evFn F C0 G0 (d + 5) (.yld 4) [.agg [iv 0, iv 0, .p .nils]] ((5, .box [iv 0, iv 0, .p .nils]) :: cB0 l x false [iv 0, iv 0, .p .nils] none 0) =
   .ret (.p (.bool true), (6, .box [iv 0, iv 0, .p .nils]) :: (5, .box [iv 0, iv 0, .p .nils]) :: cB0 l x (fitX x 0) [iv 0, iv 0, .p .nils] none 0) := by
 rw [evFn_yld (by rfl) (by rfl)]
 by_cases c1 : x.1 ≤ 0
 ·by_cases c2 : (0 : Int) ≤ x.2
  ·simp -implicitDefEqProofs [c78A0, cEnv]
   rw [yldK_eq (by rfl), cLoop_fold']
   simp -implicitDefEqProofs [c78B0, cB0, c1, c2, -gc]
   rw [yldB_normal (by rfl), cLoop_fold']
   simp -implicitDefEqProofs [fitX, c1, c2]
  ·simp -implicitDefEqProofs [c78A0, cEnv]
   rw [yldK_eq (by rfl), cLoop_fold']
   simp -implicitDefEqProofs [c78B0, cB0, c1, c2, -gc]
   rw [yldB_normal (by rfl), cLoop_fold']
   simp -implicitDefEqProofs [fitX, c1, c2]
 ·simp -implicitDefEqProofs [c78A0, cEnv]
  rw [yldK_eq (by rfl), cLoop_fold']
  simp -implicitDefEqProofs [c78B0, cB0, c1, -gc]
  rw [yldB_normal (by rfl), cLoop_fold']
  simp -implicitDefEqProofs [fitX, c1]

theorem yldB1 {d : Nat} (l : List PackI) (x : Int × Int) (s : List Int) (c i : Int) (w : Nat) :
  evFn F C0 G0 (d + 5) (.yld 4) [.agg [iv c, iv i, .sl 7 w 0 s.length]] ((7, .arr (pI s) w 1) :: (5, .box [iv c, iv i, .sl 7 w 0 s.length]) :: cB0 l x false [iv 0, iv 0, .p .nils] none 0) =
   .ret (.p (.bool true), (8, .box [iv c, iv i, .sl 7 w 0 s.length]) :: (7, .arr (pI s) w 1) :: (5, .box [iv c, iv i, .sl 7 w 0 s.length]) :: cB0 l x (fitX x i) (if fitX x i = true then [iv c, iv i, .sl 7 w 0 s.length] else [iv 0, iv 0, .p .nils]) none 0) := by
 rw [evFn_yld (by rfl) (by rfl)]
 by_cases c1 : x.1 ≤ i
 ·by_cases c2 : i ≤ x.2
  ·simp -implicitDefEqProofs [c78A0, cEnv]
   rw [yldK_eq (by rfl), cLoop_fold']
   simp -implicitDefEqProofs [c78B0, cB0, c1, c2, -gc]
   rw [yldB_normal (by rfl), cLoop_fold']
   simp -implicitDefEqProofs [fitX, c1, c2]
  ·simp -implicitDefEqProofs [c78A0, cEnv]
   rw [yldK_eq (by rfl), cLoop_fold']
   simp -implicitDefEqProofs [c78B0, cB0, c1, c2, -gc]
   rw [yldB_normal (by rfl), cLoop_fold']
   simp -implicitDefEqProofs [fitX, c1, c2]
 ·simp -implicitDefEqProofs [c78A0, cEnv]
  rw [yldK_eq (by rfl), cLoop_fold']
  simp -implicitDefEqProofs [c78B0, cB0, c1, -gc]
  rw [yldB_normal (by rfl), cLoop_fold']
  simp -implicitDefEqProofs [fitX, c1]

def accX (x : Int × Int) (c i c0 : Int) (s s0 : List Int) : Bool := fitX x i && decide (cmpC c c0 s s0 < 0)

theorem yldC {d : Nat} (l : List PackI) (x : Int × Int) (s : List Int) (hs : s ≠ []) (hl : s.length < 1000000) (c i : Int) (w : Nat) :
  evFn F C0 G0 (d + 5) (.yld 4) [.agg [iv c, iv i, .sl 7 w 0 s.length]] ((7, .arr (pI s) w 1) :: (5, .box [iv c, iv i, .sl 7 w 0 s.length]) :: cB0 l x true [iv 0, iv 0, .p .nils] none 0) =
   .ret (.p (.bool true), (8, .box [iv c, iv i, .sl 7 w 0 s.length]) :: (7, .arr (pI s) w 1) :: (5, .box [iv c, iv i, .sl 7 w 0 s.length]) :: cB0 l x true (if accX x c i 0 s [] = true then [iv c, iv i, .sl 7 w 0 s.length] else [iv 0, iv 0, .p .nils]) none 0) := by
 rw [evFn_yld (by rfl) (by rfl)]
 have h1 := compare143 (d := d) ((8, .box [iv c, iv i, .sl 7 w 0 s.length]) :: (7, .arr (pI s) w 1) :: (5, .box [iv c, iv i, .sl 7 w 0 s.length]) :: cB0 l x true [iv 0, iv 0, .p .nils] none 1) _ 8 _ rfl s [] c i 0 0 7 0 w 0 (fun _ => ⟨by rfl, by omega⟩) (fun h => absurd rfl h) hl
 simp only [setV, if_neg hs, if_true, cB0] at h1
 have hg := gc_new (lo := 9) (env := [(0, iv (cmpC c 0 s []))]) (X := [(8 + 1 + 1, .box [iv 0, iv 0, .p .nils]), (8 + 1, .box [iv c, iv i, .sl 7 w 0 s.length])]) (S := (8, .box [iv c, iv i, .sl 7 w 0 s.length]) :: (7, .arr (pI s) w 1) :: (5, .box [iv c, iv i, .sl 7 w 0 s.length]) :: cB0 l x true [iv 0, iv 0, .p .nils] none 1) (by simp) (by simp [cB0]) (by simp) (by simp [cB0, refs_cLoop, refsO_arr, refsO_box, hasId, -refsO])
 simp only [List.cons_append, List.nil_append, cB0] at hg
 by_cases c1 : x.1 ≤ i
 ·by_cases c2 : i ≤ x.2
  ·by_cases c3 : cmpC c 0 s [] < 0
   ·simp -implicitDefEqProofs [c78A0, cEnv]
    rw [yldK_eq (by rfl), cLoop_fold']
    simp -implicitDefEqProofs [c78B0, cB0, c1, c2, c3, h1, hg, -gc]
    rw [yldB_normal (by rfl), cLoop_fold']
    simp -implicitDefEqProofs [accX, fitX, c1, c2, c3]
   ·simp -implicitDefEqProofs [c78A0, cEnv]
    rw [yldK_eq (by rfl), cLoop_fold']
    simp -implicitDefEqProofs [c78B0, cB0, c1, c2, c3, h1, hg, -gc]
    rw [yldB_normal (by rfl), cLoop_fold']
    simp -implicitDefEqProofs [accX, fitX, c1, c2, c3]
  ·simp -implicitDefEqProofs [c78A0, cEnv]
   rw [yldK_eq (by rfl), cLoop_fold']
   simp -implicitDefEqProofs [c78B0, cB0, c1, c2, -gc]
   rw [yldB_normal (by rfl), cLoop_fold']
   simp -implicitDefEqProofs [accX, fitX, c1, c2]
 ·simp -implicitDefEqProofs [c78A0, cEnv]
  rw [yldK_eq (by rfl), cLoop_fold']
  simp -implicitDefEqProofs [c78B0, cB0, c1, -gc]
  rw [yldB_normal (by rfl), cLoop_fold']
  simp -implicitDefEqProofs [accX, fitX, c1]

theorem yldD {d : Nat} (l : List PackI) (x : Int × Int) (s s0 : List Int) (hs : s ≠ []) (hs0 : s0 ≠ []) (hl : s.length < 1000000) (c i c0 i0 : Int) (w w0 r : Nat) :
  evFn F C0 G0 (d + 5) (.yld 4) [.agg [iv c, iv i, .sl (r + 8) w 0 s.length]] ((r + 8, .arr (pI s) w 1) :: (r + 6, .box [iv c, iv i, .sl (r + 8) w 0 s.length]) :: (r + 5, .arr (pI s0) w0 1) :: cB0 l x true [iv c0, iv i0, .sl (r + 5) w0 0 s0.length] none 0) =
   .ret (.p (.bool true), (r + 9, .box [iv c, iv i, .sl (r + 8) w 0 s.length]) :: (r + 8, .arr (pI s) w 1) :: (r + 6, .box [iv c, iv i, .sl (r + 8) w 0 s.length]) :: (r + 5, .arr (pI s0) w0 1) :: cB0 l x true (if accX x c i c0 s s0 = true then [iv c, iv i, .sl (r + 8) w 0 s.length] else [iv c0, iv i0, .sl (r + 5) w0 0 s0.length]) none 0) := by
 have hk0 : get ((r + 8, .arr (pI s) w 1) :: (r + 6, .box [iv c, iv i, .sl (r + 8) w 0 s.length]) :: (r + 5, .arr (pI s0) w0 1) :: cB0 l x true [iv c0, iv i0, .sl (r + 5) w0 0 s0.length] none 0) 4 = some (.loop (cEnv l) [23] c78A0 c78B0 none 0) := by simp [cB0, cLoop]
 have hk1 : ∀ oa ob oc od R, get ((r + 9, oa) :: (r + 8, ob) :: (r + 6, oc) :: (r + 5, od) :: (4, cLoop l none 1) :: R) 4 = some (.loop (cEnv l) [23] c78A0 c78B0 none 1) := by intros; simp [cLoop]
 rw [evFn_yld hk0 (by rfl)]
 have h1 := compare143 (d := d) ((r + 9, .box [iv c, iv i, .sl (r + 8) w 0 s.length]) :: (r + 8, .arr (pI s) w 1) :: (r + 6, .box [iv c, iv i, .sl (r + 8) w 0 s.length]) :: (r + 5, .arr (pI s0) w0 1) :: cB0 l x true [iv c0, iv i0, .sl (r + 5) w0 0 s0.length] none 1) _ (r + 9) _ rfl s s0 c i c0 i0 (r + 8) (r + 5) w w0 (fun _ => ⟨by simp, by omega⟩) (fun _ => ⟨by simp, by omega⟩) hl
 simp only [setV, if_neg hs, if_neg hs0, cB0] at h1
 have hg := gc_new (lo := r + 9 + 1) (env := [(0, iv (cmpC c c0 s s0))]) (X := [(r + 9 + 1 + 1, .box [iv c0, iv i0, .sl (r + 5) w0 0 s0.length]), (r + 9 + 1, .box [iv c, iv i, .sl (r + 8) w 0 s.length])]) (S := (r + 9, .box [iv c, iv i, .sl (r + 8) w 0 s.length]) :: (r + 8, .arr (pI s) w 1) :: (r + 6, .box [iv c, iv i, .sl (r + 8) w 0 s.length]) :: (r + 5, .arr (pI s0) w0 1) :: cB0 l x true [iv c0, iv i0, .sl (r + 5) w0 0 s0.length] none 1) (by simp) (by simp [cB0]) (by simp) (by simp [cB0, refs_cLoop, refsO_arr, refsO_box, hasId, -refsO])
 simp only [List.cons_append, List.nil_append, cB0] at hg
 have hk : ∀ (b : Bool) (o : List AVal), get ((r + 9, .box [iv c, iv i, .sl (r + 8) w 0 s.length]) :: (r + 8, .arr (pI s) w 1) :: (r + 6, .box [iv c, iv i, .sl (r + 8) w 0 s.length]) :: (r + 5, .arr (pI s0) w0 1) :: cB0 l x b o none 0) 4 = some (.loop (cEnv l) [23] c78A0 c78B0 none 0) := fun b o => by simp [cB0, cLoop]
 by_cases c1 : x.1 ≤ i
 ·by_cases c2 : i ≤ x.2
  ·by_cases c3 : cmpC c c0 s s0 < 0
   ·simp -implicitDefEqProofs [c78A0, cEnv]
    rw [yldK_eq (by exact hk _ _), cLoop_fold']
    simp -implicitDefEqProofs [c78B0, cB0, c1, c2, c3, h1, hg, -gc]
    rw [yldB_normal (by exact hk1 _ _ _ _ _), cLoop_fold']
    simp -implicitDefEqProofs [accX, fitX, c1, c2, c3]
   ·simp -implicitDefEqProofs [c78A0, cEnv]
    rw [yldK_eq (by exact hk _ _), cLoop_fold']
    simp -implicitDefEqProofs [c78B0, cB0, c1, c2, c3, h1, hg, -gc]
    rw [yldB_normal (by exact hk1 _ _ _ _ _), cLoop_fold']
    simp -implicitDefEqProofs [accX, fitX, c1, c2, c3]
  ·simp -implicitDefEqProofs [c78A0, cEnv]
   rw [yldK_eq (by exact hk _ _), cLoop_fold']
   simp -implicitDefEqProofs [c78B0, cB0, c1, c2, -gc]
   rw [yldB_normal (by exact hk1 _ _ _ _ _), cLoop_fold']
   simp -implicitDefEqProofs [accX, fitX, c1, c2]
 ·simp -implicitDefEqProofs [c78A0, cEnv]
  rw [yldK_eq (by exact hk _ _), cLoop_fold']
  simp -implicitDefEqProofs [c78B0, cB0, c1, -gc]
  rw [yldB_normal (by exact hk1 _ _ _ _ _), cLoop_fold']
  simp -implicitDefEqProofs [accX, fitX, c1]

def kB (l : List PackI) (x : Int × Int) (r : Nat) : Option (List Int) → Sto
 | none => cB0 l x false [iv 0, iv 0, .p .nils] none 0
 | some s => if s = [] then cB0 l x true [iv 0, iv 0, .p .nils] none 0 else (r + 5, .arr (pI s) (s.length - 1) 1) :: cB0 l x true [iv (cst l s), iv (impS l s), .sl (r + 5) (s.length - 1) 0 s.length] none 0
def rF (l : List PackI) (x : Int × Int) : Nat → Nat
 | 0 => 0
 | b + 1 => if accB l x (selF b l.length) (bestF l x b) = true then (match bestF l x b with
   | none => 2
   | some s => if s = [] then 2 else rF l x b + 3) else rF l x b
def oEnv (l : List PackI) (m b : Nat) : Env := [(0, .yld 4), (1, .p (.pp [.sl (cP l) l.length])), (9, iv m), (10, iv b)]
def kS (l : List PackI) (x : Int × Int) (m b : Nat) : St := ⟨oEnv l m b, kB l x (rF l x b) (bestF l x b)⟩

theorem fit_eq (l : List PackI) (s : List Int) (x : Int × Int) : fitB l s x = fitX x (impS l s) := rfl
theorem better_eq (l : List PackI) (s o : List Int) : betterB l s o = decide (cmpC (cst l s) (cst l o) s o < 0) := by
 rw [cmpC_neg]; rfl
theorem acc_eq (l : List PackI) (x : Int × Int) (s o : List Int) : accB l x s (some o) = accX x (cst l s) (impS l s) (cst l o) s o := by
 simp only [accB, accX, fit_eq, better_eq]

theorem sel_zero (n : Nat) : selF 0 n = [] := by
 induction n with
 | zero => rfl
 | succ n ih => simp [selF, ih]

theorem kept_in (l : List PackI) (x : Int × Int) (b : Nat) (s : List Int) (h : bestF l x b = some s) : (∀ i ∈ s, 0 ≤ i ∧ i < l.length) ∧ s.length ≤ l.length := (idF_pos l x b).2.2 s h

abbrev bx (c1 c2 : Int) (w : AVal) : Obj := .box [iv c1, iv c2, w]
theorem gy_a (l : List PackI) (x : Int × Int) (f : Bool) : gc 6 [(0, .p (.bool true))] ((6, bx 0 0 (.p .nils)) :: (5, bx 0 0 (.p .nils)) :: cB0 l x f [iv 0, iv 0, .p .nils] none 0) = (5, bx 0 0 (.p .nils)) :: cB0 l x f [iv 0, iv 0, .p .nils] none 0 := by
 simp -implicitDefEqProofs [cB0, cLoop, cEnv]
theorem gy_1n (l : List PackI) (x : Int × Int) (w n : Nat) (f : Bool) (c1 c2 : Int) (R : List PVal) : gc 8 [(0, .p (.bool true))] ((8, bx c1 c2 (.sl 7 w 0 n)) :: (7, .arr R w 1) :: (5, bx c1 c2 (.sl 7 w 0 n)) :: cB0 l x f [iv 0, iv 0, .p .nils] none 0) = (7, .arr R w 1) :: (5, bx c1 c2 (.sl 7 w 0 n)) :: cB0 l x f [iv 0, iv 0, .p .nils] none 0 := by
 simp -implicitDefEqProofs [cB0, cLoop, cEnv]
theorem gy_1k (l : List PackI) (x : Int × Int) (w n : Nat) (f : Bool) (c1 c2 : Int) (R : List PVal) : gc 8 [(0, .p (.bool true))] ((8, bx c1 c2 (.sl 7 w 0 n)) :: (7, .arr R w 1) :: (5, bx c1 c2 (.sl 7 w 0 n)) :: cB0 l x f [iv c1, iv c2, .sl 7 w 0 n] none 0) = (7, .arr R w 1) :: (5, bx c1 c2 (.sl 7 w 0 n)) :: cB0 l x f [iv c1, iv c2, .sl 7 w 0 n] none 0 := by
 simp -implicitDefEqProofs [cB0, cLoop, cEnv]
theorem gy_2n (l : List PackI) (x : Int × Int) (w n r w0 n0 : Nat) (f : Bool) (c1 c2 d1 d2 : Int) (R R0 : List PVal) : gc (r + 9) [(0, .p (.bool true))] ((r + 9, bx c1 c2 (.sl (r + 8) w 0 n)) :: (r + 8, .arr R w 1) :: (r + 6, bx c1 c2 (.sl (r + 8) w 0 n)) :: (r + 5, .arr R0 w0 1) :: cB0 l x f [iv d1, iv d2, .sl (r + 5) w0 0 n0] none 0) = (r + 8, .arr R w 1) :: (r + 6, bx c1 c2 (.sl (r + 8) w 0 n)) :: (r + 5, .arr R0 w0 1) :: cB0 l x f [iv d1, iv d2, .sl (r + 5) w0 0 n0] none 0 := by
 simp -implicitDefEqProofs [cB0, cLoop, cEnv]
theorem gy_2k (l : List PackI) (x : Int × Int) (w n r w0 : Nat) (f : Bool) (c1 c2 : Int) (R R0 : List PVal) : gc (r + 9) [(0, .p (.bool true))] ((r + 9, bx c1 c2 (.sl (r + 8) w 0 n)) :: (r + 8, .arr R w 1) :: (r + 6, bx c1 c2 (.sl (r + 8) w 0 n)) :: (r + 5, .arr R0 w0 1) :: cB0 l x f [iv c1, iv c2, .sl (r + 8) w 0 n] none 0) = (r + 8, .arr R w 1) :: (r + 6, bx c1 c2 (.sl (r + 8) w 0 n)) :: (r + 5, .arr R0 w0 1) :: cB0 l x f [iv c1, iv c2, .sl (r + 8) w 0 n] none 0 := by
 simp -implicitDefEqProofs [cB0, cLoop, cEnv]

theorem gc_box (l : List PackI) (x : Int × Int) (m b : Nat) (f : Bool) : gc 5 (oEnv l m b) ((5, bx 0 0 (.p .nils)) :: cB0 l x f [iv 0, iv 0, .p .nils] none 0) = cB0 l x f [iv 0, iv 0, .p .nils] none 0 := by
 simp -implicitDefEqProofs [oEnv, cB0, cLoop, cEnv]
theorem gc_n (l : List PackI) (x : Int × Int) (m b : Nat) (f : Bool) : gc 5 (oEnv l m b) (cB0 l x f [iv 0, iv 0, .p .nils] none 0) = cB0 l x f [iv 0, iv 0, .p .nils] none 0 := by
 simp -implicitDefEqProofs [oEnv, cB0, cLoop, cEnv]
theorem gc_k (l : List PackI) (x : Int × Int) (m b r w n : Nat) (f : Bool) (c1 c2 : Int) (R : List PVal) : gc 5 (oEnv l m b) ((r + 5, .arr R w 1) :: cB0 l x f [iv c1, iv c2, .sl (r + 5) w 0 n] none 0) = (r + 5, .arr R w 1) :: cB0 l x f [iv c1, iv c2, .sl (r + 5) w 0 n] none 0 := by
 simp -implicitDefEqProofs [oEnv, cB0, cLoop, cEnv]
theorem gc_1n (l : List PackI) (x : Int × Int) (m b w n : Nat) (f : Bool) (c1 c2 : Int) (R : List PVal) : gc 5 (oEnv l m b) ((7, .arr R w 1) :: (5, bx c1 c2 (.sl 7 w 0 n)) :: cB0 l x f [iv 0, iv 0, .p .nils] none 0) = cB0 l x f [iv 0, iv 0, .p .nils] none 0 := by
 simp -implicitDefEqProofs [oEnv, cB0, cLoop, cEnv]
theorem gc_1k (l : List PackI) (x : Int × Int) (m b w n : Nat) (f : Bool) (c1 c2 : Int) (R : List PVal) : gc 5 (oEnv l m b) ((7, .arr R w 1) :: (5, bx c1 c2 (.sl 7 w 0 n)) :: cB0 l x f [iv c1, iv c2, .sl 7 w 0 n] none 0) = (7, .arr R w 1) :: cB0 l x f [iv c1, iv c2, .sl 7 w 0 n] none 0 := by
 simp -implicitDefEqProofs [oEnv, cB0, cLoop, cEnv]
theorem gc_2n (l : List PackI) (x : Int × Int) (m b w n r w0 n0 : Nat) (f : Bool) (c1 c2 d1 d2 : Int) (R R0 : List PVal) : gc 5 (oEnv l m b) ((r + 8, .arr R w 1) :: (r + 6, bx c1 c2 (.sl (r + 8) w 0 n)) :: (r + 5, .arr R0 w0 1) :: cB0 l x f [iv d1, iv d2, .sl (r + 5) w0 0 n0] none 0) = (r + 5, .arr R0 w0 1) :: cB0 l x f [iv d1, iv d2, .sl (r + 5) w0 0 n0] none 0 := by
 simp -implicitDefEqProofs [oEnv, cB0, cLoop, cEnv]
theorem gc_2k (l : List PackI) (x : Int × Int) (m b w n r w0 : Nat) (f : Bool) (c1 c2 : Int) (R R0 : List PVal) : gc 5 (oEnv l m b) ((r + 8, .arr R w 1) :: (r + 6, bx c1 c2 (.sl (r + 8) w 0 n)) :: (r + 5, .arr R0 w0 1) :: cB0 l x f [iv c1, iv c2, .sl (r + 8) w 0 n] none 0) = (r + 8, .arr R w 1) :: cB0 l x f [iv c1, iv c2, .sl (r + 8) w 0 n] none 0 := by
 simp -implicitDefEqProofs [oEnv, cB0, cLoop, cEnv]

theorem gc_kB (l : List PackI) (x : Int × Int) (m b r : Nat) (o : Option (List Int)) : gc 5 (oEnv l m b) (kB l x r o) = kB l x r o := by
 cases o with
 | none => exact gc_n l x m b false
 | some s =>
  simp only [kB]
  split
  ·exact gc_n l x m b true
  ·exact gc_k l x m b r _ _ true _ _ _

theorem nextId_cB0 (l : List PackI) (x : Int × Int) (f : Bool) (o : List AVal) (j : Option ACode) (e : Nat) : nextId (cB0 l x f o j e) = 5 := rfl
theorem o_round {d : Nat} {l : List PackI} (hp : PksOk l) (x : Int × Int) (b : Nat) (hb : b < 2 ^ l.length) :
  ∃ st1, loopS (evFn F C0 G0 (d + 5)) C0 G0 5 true [0, 1, 9, 10] c176L1 (kS l x (2 ^ l.length) b) = .ret (.normal, st1) ∧ loopS (evFn F C0 G0 (d + 5)) C0 G0 5 true [0, 1, 9, 10] c176L1 st1 = loopS (evFn F C0 G0 (d + 5)) C0 G0 5 true [0, 1, 9, 10] c176L1 (kS l x (2 ^ l.length) (b + 1)) := by
 have hfew := hp.few
 have hpow : ∀ k, k ≤ 8 → 2 ^ k ≤ 256 := by decide
 have hm := hpow _ hfew
 generalize hM : 2 ^ l.length = m at *
 have hlt : (b : Int) < m := by omega
 have hm0 : 0 < m := by omega
 have hb1 : bestF l x (b + 1) = if accB l x (selF b l.length) (bestF l x b) = true then some (selF b l.length) else bestF l x b := rfl
 have hr1 : rF l x (b + 1) = if accB l x (selF b l.length) (bestF l x b) = true then (match bestF l x b with
   | none => 2
   | some s => if s = [] then 2 else rF l x b + 3) else rF l x b := rfl
 have hw := wrap_succ (i := b) (by omega)
 have hgk := gc_kB l x m b (rF l x b) (bestF l x b)
 have hre : restrict (kS l x m b).env [0, 1, 9, 10] = oEnv l m b := rfl
 have hsl : (selF b l.length).length < 1000000 := by have := (selF_in b l.length).2; omega
 have hsame : ∀ S1, gc 5 (oEnv l m (b + 1)) S1 = kB l x (rF l x (b + 1)) (bestF l x (b + 1)) → loopS (evFn F C0 G0 (d + 5)) C0 G0 5 true [0, 1, 9, 10] c176L1 ⟨oEnv l m (b + 1), S1⟩ = loopS (evFn F C0 G0 (d + 5)) C0 G0 5 true [0, 1, 9, 10] c176L1 (kS l x m (b + 1)) := fun S1 h =>
  loopS_same rfl (by
   show gc 5 (oEnv l m (b + 1)) S1 = gc 5 (oEnv l m (b + 1)) (kB l x (rF l x (b + 1)) (bestF l x (b + 1)))
   rw [h, gc_kB])
 rcases Nat.eq_zero_or_pos b with hb0 | hb0
 ·subst hb0
  have hbest : bestF l x 0 = none := rfl
  have hsel := sel_zero l.length
  have key := sets_loop (d := d + 3) hp m 0 5 (by omega) (cB0 l x false [iv 0, iv 0, .p .nils] none 0) (gcA l x false 0 0 m 0 0)
  rw [hsel] at key hb1 hr1
  have ha : accB l x [] (bestF l x 0) = fitX x 0 := by simp [hbest, accB, fit_eq, impS, impF]
  rw [ha, hbest] at hb1 hr1
  have hy := yldA (d := d) l x
  rw [xS, if_pos rfl] at key
  refine ⟨⟨oEnv l m (0 + 1), (5, bx 0 0 (.p .nils)) :: cB0 l x (fitX x 0) [iv 0, iv 0, .p .nils] none 0⟩, ?_, ?_⟩
  ·rw [loopS_eq]
   simp only [hre, if_true]
   simp only [kS, hgk]
   simp only [hbest, kB]
   simp only [sEnv] at key
   simp -implicitDefEqProofs [oEnv, c176L1, hm0, nextId_cB0, -nextId]
   simp only [Int.natCast_zero] at key
   rw [key]
   simp -implicitDefEqProofs [hy, gy_a, nextId_cons, -nextId, -gc]
   exact wrap64 (by decide) (by decide)
  ·refine hsame _ ?_
   rw [gc_box, hb1, hr1]
   cases fitX x 0 <;> rfl
 ·have hne := selF_ne l.length b hb0 (by omega)
  have hxs : ∀ c B, xS l (selF b l.length) c B = (c + 2, .arr (pI (selF b l.length)) ((selF b l.length).length - 1) 1) :: (c, bx (cst l (selF b l.length)) (impS l (selF b l.length)) (.sl (c + 2) ((selF b l.length).length - 1) 0 (selF b l.length).length)) :: B := fun c B => by rw [xS, if_neg hne]
  cases hbest : bestF l x b with
  | none =>
   rw [hbest] at hb1 hr1 hgk
   have key := sets_loop (d := d + 3) hp m b 5 (by omega) (cB0 l x false [iv 0, iv 0, .p .nils] none 0) (gcA l x false 0 0 m b 0)
   rw [hxs] at key
   have ha : accB l x (selF b l.length) none = fitX x (impS l (selF b l.length)) := by simp [accB, fit_eq]
   rw [ha] at hb1 hr1
   have hy := yldB1 (d := d) l x (selF b l.length) (cst l (selF b l.length)) (impS l (selF b l.length)) ((selF b l.length).length - 1)
   generalize hS : selF b l.length = S at *
   cases hF : fitX x (impS l S)
   ·
    rw [hF] at hb1 hr1 hy
    simp only [Bool.false_eq_true, if_false] at hb1 hr1 hy
    refine ⟨⟨oEnv l m (b + 1), (7, .arr (pI S) (S.length - 1) 1) :: (5, bx (cst l S) (impS l S) (.sl 7 (S.length - 1) 0 S.length)) :: cB0 l x false [iv 0, iv 0, .p .nils] none 0⟩, ?_, ?_⟩
    ·rw [loopS_eq]
     simp only [hre, if_true]
     simp only [kS, hbest, hgk]
     simp only [kB]
     simp only [sEnv] at key
     simp -implicitDefEqProofs [oEnv, c176L1, hlt, nextId_cB0, -nextId]
     simp only [Int.natCast_zero] at key
     rw [key]
     simp -implicitDefEqProofs [hy, gy_1n, hw, nextId_cons, -nextId, -gc]
    ·refine hsame _ ?_
     rw [hb1, hr1]
     exact gc_1n l x m (b + 1) _ _ false _ _ _
   ·
    rw [hF] at hb1 hr1 hy
    simp only [if_true] at hb1 hr1 hy
    refine ⟨⟨oEnv l m (b + 1), (7, .arr (pI S) (S.length - 1) 1) :: (5, bx (cst l S) (impS l S) (.sl 7 (S.length - 1) 0 S.length)) :: cB0 l x true [iv (cst l S), iv (impS l S), .sl 7 (S.length - 1) 0 S.length] none 0⟩, ?_, ?_⟩
    ·rw [loopS_eq]
     simp only [hre, if_true]
     simp only [kS, hbest, hgk]
     simp only [kB]
     simp only [sEnv] at key
     simp -implicitDefEqProofs [oEnv, c176L1, hlt, nextId_cB0, -nextId]
     simp only [Int.natCast_zero] at key
     rw [key]
     simp -implicitDefEqProofs [hy, gy_1k, hw, nextId_cons, -nextId, -gc]
    ·refine hsame _ ?_
     rw [hb1, hr1]
     simp only [kB, if_neg hne]
     exact gc_1k l x m (b + 1) _ _ true _ _ _
  | some s0 =>
   rw [hbest] at hb1 hr1 hgk
   rw [acc_eq] at hb1 hr1
   by_cases h0 : s0 = []
   ·subst h0
    have key := sets_loop (d := d + 3) hp m b 5 (by omega) (cB0 l x true [iv 0, iv 0, .p .nils] none 0) (gcA l x true 0 0 m b 0)
    rw [hxs] at key
    have hc0 : cst l [] = 0 := rfl
    rw [hc0] at hb1 hr1
    have hy := yldC (d := d) l x (selF b l.length) hne hsl (cst l (selF b l.length)) (impS l (selF b l.length)) ((selF b l.length).length - 1)
    generalize hS : selF b l.length = S at *
    cases hF : accX x (cst l S) (impS l S) 0 S []
    ·
     rw [hF] at hb1 hr1 hy
     simp only [Bool.false_eq_true, if_false, if_true] at hb1 hr1 hy
     refine ⟨⟨oEnv l m (b + 1), (7, .arr (pI S) (S.length - 1) 1) :: (5, bx (cst l S) (impS l S) (.sl 7 (S.length - 1) 0 S.length)) :: cB0 l x true [iv 0, iv 0, .p .nils] none 0⟩, ?_, ?_⟩
     ·rw [loopS_eq]
      simp only [hre, if_true]
      simp only [kS, hbest, hgk]
      simp only [kB, if_true]
      simp only [sEnv] at key
      simp -implicitDefEqProofs [oEnv, c176L1, hlt, nextId_cB0, -nextId]
      simp only [Int.natCast_zero] at key
      rw [key]
      simp -implicitDefEqProofs [hy, gy_1n, hw, nextId_cons, -nextId, -gc]
     ·refine hsame _ ?_
      rw [hb1, hr1]
      exact gc_1n l x m (b + 1) _ _ true _ _ _
    ·
     rw [hF] at hb1 hr1 hy
     simp only [if_true] at hb1 hr1 hy
     refine ⟨⟨oEnv l m (b + 1), (7, .arr (pI S) (S.length - 1) 1) :: (5, bx (cst l S) (impS l S) (.sl 7 (S.length - 1) 0 S.length)) :: cB0 l x true [iv (cst l S), iv (impS l S), .sl 7 (S.length - 1) 0 S.length] none 0⟩, ?_, ?_⟩
     ·rw [loopS_eq]
      simp only [hre, if_true]
      simp only [kS, hbest, hgk]
      simp only [kB, if_true]
      simp only [sEnv] at key
      simp -implicitDefEqProofs [oEnv, c176L1, hlt, nextId_cB0, -nextId]
      simp only [Int.natCast_zero] at key
      rw [key]
      simp -implicitDefEqProofs [hy, gy_1k, hw, nextId_cons, -nextId, -gc]
     ·refine hsame _ ?_
      rw [hb1, hr1]
      simp only [kB, if_neg hne]
      exact gc_1k l x m (b + 1) _ _ true _ _ _
   ·obtain ⟨k1, k2⟩ := kept_in l x b s0 hbest
    generalize hr : rF l x b = r at *
    have key := sets_loop (d := d + 3) hp m b (r + 6) (by omega) ((r + 5, .arr (pI s0) (s0.length - 1) 1) :: cB0 l x true [iv (cst l s0), iv (impS l s0), .sl (r + 5) (s0.length - 1) 0 s0.length] none 0) (gcB l x true _ _ m b r _ _ _)
    rw [hxs] at key
    have hy := yldD (d := d) l x (selF b l.length) s0 hne h0 hsl (cst l (selF b l.length)) (impS l (selF b l.length)) (cst l s0) (impS l s0) ((selF b l.length).length - 1) (s0.length - 1) r
    simp only [if_neg h0] at hr1
    have h68 : r + 6 + 2 = r + 8 := by omega
    rw [h68] at key
    generalize hS : selF b l.length = S at *
    cases hF : accX x (cst l S) (impS l S) (cst l s0) S s0
    ·
     rw [hF] at hb1 hr1 hy
     simp only [Bool.false_eq_true, if_false] at hb1 hr1 hy
     refine ⟨⟨oEnv l m (b + 1), (r + 8, .arr (pI S) (S.length - 1) 1) :: (r + 6, bx (cst l S) (impS l S) (.sl (r + 8) (S.length - 1) 0 S.length)) :: (r + 5, .arr (pI s0) (s0.length - 1) 1) :: cB0 l x true [iv (cst l s0), iv (impS l s0), .sl (r + 5) (s0.length - 1) 0 s0.length] none 0⟩, ?_, ?_⟩
     ·rw [loopS_eq]
      simp only [hre, if_true]
      simp only [kS, hbest, hr, hgk]
      simp only [kB, if_neg h0]
      simp only [sEnv] at key
      simp -implicitDefEqProofs [oEnv, c176L1, hlt, nextId_cons, -nextId]
      simp only [Int.natCast_zero] at key
      rw [key]
      simp -implicitDefEqProofs [hy, gy_2n, hw, nextId_cons, -nextId, -gc]
     ·refine hsame _ ?_
      rw [hb1, hr1]
      simp only [kB, if_neg h0]
      exact gc_2n l x m (b + 1) _ _ r _ _ true _ _ _ _ _ _
    ·
     rw [hF] at hb1 hr1 hy
     simp only [if_true] at hb1 hr1 hy
     refine ⟨⟨oEnv l m (b + 1), (r + 8, .arr (pI S) (S.length - 1) 1) :: (r + 6, bx (cst l S) (impS l S) (.sl (r + 8) (S.length - 1) 0 S.length)) :: (r + 5, .arr (pI s0) (s0.length - 1) 1) :: cB0 l x true [iv (cst l S), iv (impS l S), .sl (r + 8) (S.length - 1) 0 S.length] none 0⟩, ?_, ?_⟩
     ·rw [loopS_eq]
      simp only [hre, if_true]
      simp only [kS, hbest, hr, hgk]
      simp only [kB, if_neg h0]
      simp only [sEnv] at key
      simp -implicitDefEqProofs [oEnv, c176L1, hlt, nextId_cons, -nextId]
      simp only [Int.natCast_zero] at key
      rw [key]
      simp -implicitDefEqProofs [hy, gy_2k, hw, nextId_cons, -nextId, -gc]
     ·refine hsame _ ?_
      rw [hb1, hr1]
      simp only [kB, if_neg hne]
      exact gc_2k l x m (b + 1) _ _ r _ true _ _ _ _

theorem shl_pow {k : Nat} (h : k ≤ 8) : shiftP true (iv 1) (iv k) = some (iv ((2 ^ k : Nat) : Int)) := by
 have : k = 0 ∨ k = 1 ∨ k = 2 ∨ k = 3 ∨ k = 4 ∨ k = 5 ∨ k = 6 ∨ k = 7 ∨ k = 8 := by omega
 rcases this with rfl | rfl | rfl | rfl | rfl | rfl | rfl | rfl | rfl <;> rfl

theorem o_loop {d : Nat} {l : List PackI} (hp : PksOk l) (x : Int × Int) :
  loopN (loopS (evFn F C0 G0 (d + 5)) C0 G0 5 true [0, 1, 9, 10] c176L1) loopFuel ⟨oEnv l (2 ^ l.length) 0, cB0 l x false [iv 0, iv 0, .p .nils] none 0⟩ = .ret (.exit 0, ⟨oEnv l (2 ^ l.length) (2 ^ l.length) ++ [(11, .p (.bool false))], kB l x (rF l x (2 ^ l.length)) (bestF l x (2 ^ l.length))⟩) := by
 have hpow : ∀ k, k ≤ 8 → 2 ^ k ≤ 256 := by decide
 have hm := hpow _ hp.few
 refine loop_run' (kS l x (2 ^ l.length)) (2 ^ l.length) (by simp) rfl (fun b hb => o_round hp x b hb) ?_ (by simp [loopFuel]; omega)
 have hg := gc_kB l x (2 ^ l.length) (2 ^ l.length) (rF l x (2 ^ l.length)) (bestF l x (2 ^ l.length))
 generalize 2 ^ l.length = m at *
 have hre : restrict (kS l x m m).env [0, 1, 9, 10] = oEnv l m m := rfl
 rw [loopS_eq]
 simp only [hre, if_true]
 simp only [kS, hg]
 generalize kB l x (rF l x m) (bestF l x m) = S at *
 simp -implicitDefEqProofs [oEnv, c176L1]

theorem sets176 {d : Nat} {l : List PackI} (hp : PksOk l) (x : Int × Int) :
  evFn F C0 G0 (d + 6) (.fn 176) [.yld 4, .p (.pp [.sl (cP l) l.length])] (cB0 l x false [iv 0, iv 0, .p .nils] none 0) = .ret (.tup [], kB l x (rF l x (2 ^ l.length)) (bestF l x (2 ^ l.length))) := by
 rw [evFn_fn fe176]
 have key := o_loop (d := d) hp x
 have hs := shl_pow hp.few
 generalize 2 ^ l.length = m at *
 simp only [oEnv, Int.natCast_zero] at key
 simp -implicitDefEqProofs [c176, hs, nextId_cB0, -nextId]
 rw [key]
 simp -implicitDefEqProofs

def chErr (l : List PackI) (x : Int × Int) : Int := firstE [packsE l, targE x]
def chOut (l : List PackI) (x : Int × Int) : List Int := if chErr l x = 0 then (bestF l x (2 ^ l.length)).getD [] else []
def chCost (l : List PackI) (x : Int × Int) : Int := if chErr l x = 0 then (match bestF l x (2 ^ l.length) with
 | none => 0
 | some s => cst l s) else 0
def chE (l : List PackI) (x : Int × Int) : Int := if chErr l x = 0 then (match bestF l x (2 ^ l.length) with
 | none => 18
 | some _ => 0) else chErr l x

theorem cheap78 {n : Nat} (hn : 8 ≤ n) (l : List PackI) (x : Int × Int) (hs : ∀ y ∈ l, y.name.length ≤ 9223372036854775807) : ∃ w, RUN n 78 [psl l, .agg [iv x.1, iv x.2]] = .ret (.tup [w, iv (chCost l x), iv (chE l x)]) ∧ (w = .p (.sl (pI (chOut l x)) (chOut l x).length) ∨ w = .own (pI (chOut l x)) (chOut l x).length 1) := by
 obtain ⟨d, rfl⟩ : ∃ d, n = d + 8 := ⟨n - 8, by omega⟩
 rw [RUN, call_eq fe78 _ rfl]
 have h1 := packs87 (n := d + 7) (by omega) l hs
 have h2 := target141 (n := d + 7) (by omega) x
 have h3 := first92_2 (n := d + 7) (by omega) (packsE l) (targE x)
 have e : firstE [packsE l, targE x] = chErr l x := rfl
 rw [e] at h3
 have h144 : RUN (d + 7) 144 [psl l] = .ret (.p (.clo 176 [] [.pp [.sl (cP l) l.length]])) := by
  rw [RUN, call_eq fe144 _ rfl]
  simp -implicitDefEqProofs [c144]
 by_cases hz : chErr l x = 0
 ·have hp := packs_of ((firstE_zero.1 hz) (packsE l) (by simp))
  have key := sets176 (d := d + 1) hp x
  simp only [cB0] at key
  simp only [chCost, chE, chOut, if_pos hz]
  simp -implicitDefEqProofs [c78, h1, h2, h3, h144, hz, callee]
  rw [cLoop_fold]
  rw [key]
  cases hb : bestF l x (2 ^ l.length) with
  | none =>
   simp -implicitDefEqProofs [kB, cB0]
   rw [cLoop, rfunK_none (by rfl) (by simp)]
   simp -implicitDefEqProofs [cLoop_fold']
  | some s =>
   by_cases h0 : s = []
   ·subst h0
    simp -implicitDefEqProofs [kB, cB0]
    rw [cLoop, rfunK_none (by rfl) (by simp)]
    simp -implicitDefEqProofs [cLoop_fold']
    exact ⟨_, ⟨rfl, rfl⟩, .inl rfl⟩
   ·have hk1 : ∀ oa R, get ((rF l x (2 ^ l.length) + 5, oa) :: (4, cLoop l none 0) :: R) 4 = some (.loop (cEnv l) [23] c78A0 c78B0 none 0) := by intros; simp [cLoop]
    simp -implicitDefEqProofs [kB, cB0, h0]
    rw [rfunK_none (by exact hk1 _ _) (by simp)]
    simp -implicitDefEqProofs [cLoop_fold']
 ·have hb : (chErr l x != 0) = true := by simpa using hz
  simp only [chCost, chE, chOut, if_neg hz]
  simp -implicitDefEqProofs [c78, h1, h2, h3, hb]
end Fw
end

