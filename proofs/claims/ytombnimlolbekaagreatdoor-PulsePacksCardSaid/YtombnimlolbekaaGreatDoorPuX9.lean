/- Cheapest, by the chapter: what is done with each set. -/
import Derived.Test.YtombnimlolbekaaGreatDoorPuX8
import Derived.Test.YtombnimlolbekaaGreatDoorPuT4
import Derived.Test.YtombnimlolbekaaGreatDoorFwC
set_option maxHeartbeats 8000000
namespace Fw
open Go
attribute [local irreducible] evCode evOps evOpsD evOper evOperD evOp evFn loopN T.All T.bind callPure callOp opsK opsDK restK seqK blockK loopS setK setQ giveK scalK gcK finish finS rfunK yldK yldB loopK

theorem selF_ne : ∀ n b, 0 < b → b < 2 ^ n → selF b n ≠ [] := by
  intro n
  induction n with
  | zero => intro b h1 h2; simp at h2; omega
  | succ n ih =>
    intro b h1 h2
    simp only [selF]
    split
    · simp
    · rename_i h
      refine ih b h1 ?_
      have hp : 0 < 2 ^ n := Nat.pow_pos (by omega)
      have h3 : b / 2 ^ n < 2 := by rw [Nat.div_lt_iff_lt_mul hp]; rw [Nat.pow_succ] at h2; omega
      have h4 : b / 2 ^ n = 0 := by
        generalize b / 2 ^ n = q at *
        omega
      rcases (Nat.div_eq_zero_iff).1 h4 with h5 | h5
      · omega
      · exact h5

theorem cLoop_fold (l : List PackI) (j : Option ACode) (e : Nat) : Obj.loop [(3, .ptr 0 0 0), (4, .p .nils), (5, iv 0), (6, iv 0), (8, .ptr 1 0 0), (9, .ptr 2 0 0), (10, .ptr 3 0 0), (22, .p (.clo 176 [] [.pp [.sl (cP l) l.length]]))] [23] c78A0 c78B0 j e = cLoop l j e := rfl
theorem cLoop_fold' (l : List PackI) (j : Option ACode) (e : Nat) : Obj.loop (cEnv l) [23] c78A0 c78B0 j e = cLoop l j e := rfl
@[simp] theorem refs_cLoop (l : List PackI) (j : Option ACode) (e : Nat) : refsO (cLoop l j e) = [0, 1, 2, 3] := by simp [cLoop, cEnv]

def fitX (x : Int × Int) (i : Int) : Bool := decide (x.1 ≤ i) && decide (i ≤ x.2)

/-- the empty set, with nothing kept -/
theorem yldA {d : Nat} (l : List PackI) (x : Int × Int) :
    evFn F C0 G0 (d + 5) (.yld 4) [.agg [iv 0, iv 0, .p .nils]] ((5, .box [iv 0, iv 0, .p .nils]) :: cB0 l x false [iv 0, iv 0, .p .nils] none 0) =
      .ret (.p (.bool true), (6, .box [iv 0, iv 0, .p .nils]) :: (5, .box [iv 0, iv 0, .p .nils]) :: cB0 l x (fitX x 0) [iv 0, iv 0, .p .nils] none 0) := by
  rw [evFn_yld (by rfl) (by rfl)]
  by_cases c1 : x.1 ≤ 0
  · by_cases c2 : (0 : Int) ≤ x.2
    · simp -implicitDefEqProofs [c78A0, cEnv]
      rw [yldK_eq (by rfl), cLoop_fold']
      simp -implicitDefEqProofs [c78B0, cB0, c1, c2, -gc]
      rw [yldB_normal (by rfl), cLoop_fold']
      simp -implicitDefEqProofs [fitX, c1, c2]
    · simp -implicitDefEqProofs [c78A0, cEnv]
      rw [yldK_eq (by rfl), cLoop_fold']
      simp -implicitDefEqProofs [c78B0, cB0, c1, c2, -gc]
      rw [yldB_normal (by rfl), cLoop_fold']
      simp -implicitDefEqProofs [fitX, c1, c2]
  · simp -implicitDefEqProofs [c78A0, cEnv]
    rw [yldK_eq (by rfl), cLoop_fold']
    simp -implicitDefEqProofs [c78B0, cB0, c1, -gc]
    rw [yldB_normal (by rfl), cLoop_fold']
    simp -implicitDefEqProofs [fitX, c1]

/-- another set, with nothing kept -/
theorem yldB1 {d : Nat} (l : List PackI) (x : Int × Int) (s : List Int) (c i : Int) (w : Nat) :
    evFn F C0 G0 (d + 5) (.yld 4) [.agg [iv c, iv i, .sl 7 w 0 s.length]] ((7, .arr (pI s) w 1) :: (5, .box [iv c, iv i, .sl 7 w 0 s.length]) :: cB0 l x false [iv 0, iv 0, .p .nils] none 0) =
      .ret (.p (.bool true), (8, .box [iv c, iv i, .sl 7 w 0 s.length]) :: (7, .arr (pI s) w 1) :: (5, .box [iv c, iv i, .sl 7 w 0 s.length]) :: cB0 l x (fitX x i) (if fitX x i = true then [iv c, iv i, .sl 7 w 0 s.length] else [iv 0, iv 0, .p .nils]) none 0) := by
  rw [evFn_yld (by rfl) (by rfl)]
  by_cases c1 : x.1 ≤ i
  · by_cases c2 : i ≤ x.2
    · simp -implicitDefEqProofs [c78A0, cEnv]
      rw [yldK_eq (by rfl), cLoop_fold']
      simp -implicitDefEqProofs [c78B0, cB0, c1, c2, -gc]
      rw [yldB_normal (by rfl), cLoop_fold']
      simp -implicitDefEqProofs [fitX, c1, c2]
    · simp -implicitDefEqProofs [c78A0, cEnv]
      rw [yldK_eq (by rfl), cLoop_fold']
      simp -implicitDefEqProofs [c78B0, cB0, c1, c2, -gc]
      rw [yldB_normal (by rfl), cLoop_fold']
      simp -implicitDefEqProofs [fitX, c1, c2]
  · simp -implicitDefEqProofs [c78A0, cEnv]
    rw [yldK_eq (by rfl), cLoop_fold']
    simp -implicitDefEqProofs [c78B0, cB0, c1, -gc]
    rw [yldB_normal (by rfl), cLoop_fold']
    simp -implicitDefEqProofs [fitX, c1]

def accX (x : Int × Int) (c i c0 : Int) (s s0 : List Int) : Bool := fitX x i && decide (cmpC c c0 s s0 < 0)

/-- another set, with the empty one kept -/
theorem yldC {d : Nat} (l : List PackI) (x : Int × Int) (s : List Int) (hs : s ≠ []) (hl : s.length < 1000000) (c i : Int) (w : Nat) :
    evFn F C0 G0 (d + 5) (.yld 4) [.agg [iv c, iv i, .sl 7 w 0 s.length]] ((7, .arr (pI s) w 1) :: (5, .box [iv c, iv i, .sl 7 w 0 s.length]) :: cB0 l x true [iv 0, iv 0, .p .nils] none 0) =
      .ret (.p (.bool true), (8, .box [iv c, iv i, .sl 7 w 0 s.length]) :: (7, .arr (pI s) w 1) :: (5, .box [iv c, iv i, .sl 7 w 0 s.length]) :: cB0 l x true (if accX x c i 0 s [] = true then [iv c, iv i, .sl 7 w 0 s.length] else [iv 0, iv 0, .p .nils]) none 0) := by
  rw [evFn_yld (by rfl) (by rfl)]
  have h1 := compare143 (d := d) ((8, .box [iv c, iv i, .sl 7 w 0 s.length]) :: (7, .arr (pI s) w 1) :: (5, .box [iv c, iv i, .sl 7 w 0 s.length]) :: cB0 l x true [iv 0, iv 0, .p .nils] none 1) _ 8 _ rfl s [] c i 0 0 7 0 w 0 (fun _ => ⟨by rfl, by omega⟩) (fun h => absurd rfl h) hl
  simp only [setV, if_neg hs, if_true, cB0] at h1
  have hg := gc_new (lo := 9) (env := [(0, iv (cmpC c 0 s []))]) (X := [(8 + 1 + 1, .box [iv 0, iv 0, .p .nils]), (8 + 1, .box [iv c, iv i, .sl 7 w 0 s.length])]) (S := (8, .box [iv c, iv i, .sl 7 w 0 s.length]) :: (7, .arr (pI s) w 1) :: (5, .box [iv c, iv i, .sl 7 w 0 s.length]) :: cB0 l x true [iv 0, iv 0, .p .nils] none 1) (by simp) (by simp [cB0]) (by simp) (by simp [cB0, refs_cLoop, refsO_arr, refsO_box, hasId, -refsO])
  simp only [List.cons_append, List.nil_append, cB0] at hg
  by_cases c1 : x.1 ≤ i
  · by_cases c2 : i ≤ x.2
    · by_cases c3 : cmpC c 0 s [] < 0
      · simp -implicitDefEqProofs [c78A0, cEnv]
        rw [yldK_eq (by rfl), cLoop_fold']
        simp -implicitDefEqProofs [c78B0, cB0, c1, c2, c3, h1, hg, -gc]
        rw [yldB_normal (by rfl), cLoop_fold']
        simp -implicitDefEqProofs [accX, fitX, c1, c2, c3]
      · simp -implicitDefEqProofs [c78A0, cEnv]
        rw [yldK_eq (by rfl), cLoop_fold']
        simp -implicitDefEqProofs [c78B0, cB0, c1, c2, c3, h1, hg, -gc]
        rw [yldB_normal (by rfl), cLoop_fold']
        simp -implicitDefEqProofs [accX, fitX, c1, c2, c3]
    · simp -implicitDefEqProofs [c78A0, cEnv]
      rw [yldK_eq (by rfl), cLoop_fold']
      simp -implicitDefEqProofs [c78B0, cB0, c1, c2, -gc]
      rw [yldB_normal (by rfl), cLoop_fold']
      simp -implicitDefEqProofs [accX, fitX, c1, c2]
  · simp -implicitDefEqProofs [c78A0, cEnv]
    rw [yldK_eq (by rfl), cLoop_fold']
    simp -implicitDefEqProofs [c78B0, cB0, c1, -gc]
    rw [yldB_normal (by rfl), cLoop_fold']
    simp -implicitDefEqProofs [accX, fitX, c1]

/-- another set, with one kept that has packs -/
theorem yldD {d : Nat} (l : List PackI) (x : Int × Int) (s s0 : List Int) (hs : s ≠ []) (hs0 : s0 ≠ []) (hl : s.length < 1000000) (c i c0 i0 : Int) (w w0 r : Nat) :
    evFn F C0 G0 (d + 5) (.yld 4) [.agg [iv c, iv i, .sl (r + 8) w 0 s.length]] ((r + 8, .arr (pI s) w 1) :: (r + 6, .box [iv c, iv i, .sl (r + 8) w 0 s.length]) :: (r + 5, .arr (pI s0) w0 1) :: cB0 l x true [iv c0, iv i0, .sl (r + 5) w0 0 s0.length] none 0) =
      .ret (.p (.bool true), (r + 9, .box [iv c, iv i, .sl (r + 8) w 0 s.length]) :: (r + 8, .arr (pI s) w 1) :: (r + 6, .box [iv c, iv i, .sl (r + 8) w 0 s.length]) :: (r + 5, .arr (pI s0) w0 1) :: cB0 l x true (if accX x c i c0 s s0 = true then [iv c, iv i, .sl (r + 8) w 0 s.length] else [iv c0, iv i0, .sl (r + 5) w0 0 s0.length]) none 0) := by
  have hk0 : get ((r + 8, .arr (pI s) w 1) :: (r + 6, .box [iv c, iv i, .sl (r + 8) w 0 s.length]) :: (r + 5, .arr (pI s0) w0 1) :: cB0 l x true [iv c0, iv i0, .sl (r + 5) w0 0 s0.length] none 0) 4 = some (.loop (cEnv l) [23] c78A0 c78B0 none 0) := by simp [cB0, cLoop]
  have hk1 : ∀ oa ob oc od R, get ((r + 9, oa) :: (r + 8, ob) :: (r + 6, oc) :: (r + 5, od) :: (4, cLoop l none 1) :: R) 4 = some (.loop (cEnv l) [23] c78A0 c78B0 none 1) := by intros; simp [cLoop]
  rw [evFn_yld hk0 (by rfl)]
  have h1 := compare143 (d := d) ((r + 9, .box [iv c, iv i, .sl (r + 8) w 0 s.length]) :: (r + 8, .arr (pI s) w 1) :: (r + 6, .box [iv c, iv i, .sl (r + 8) w 0 s.length]) :: (r + 5, .arr (pI s0) w0 1) :: cB0 l x true [iv c0, iv i0, .sl (r + 5) w0 0 s0.length] none 1) _ (r + 9) _ rfl s s0 c i c0 i0 (r + 8) (r + 5) w w0 (fun _ => ⟨by simp, by omega⟩) (fun _ => ⟨by simp, by omega⟩) hl
  simp only [setV, if_neg hs, if_neg hs0, cB0] at h1
  have hg := gc_new (lo := r + 9 + 1) (env := [(0, iv (cmpC c c0 s s0))]) (X := [(r + 9 + 1 + 1, .box [iv c0, iv i0, .sl (r + 5) w0 0 s0.length]), (r + 9 + 1, .box [iv c, iv i, .sl (r + 8) w 0 s.length])]) (S := (r + 9, .box [iv c, iv i, .sl (r + 8) w 0 s.length]) :: (r + 8, .arr (pI s) w 1) :: (r + 6, .box [iv c, iv i, .sl (r + 8) w 0 s.length]) :: (r + 5, .arr (pI s0) w0 1) :: cB0 l x true [iv c0, iv i0, .sl (r + 5) w0 0 s0.length] none 1) (by simp) (by simp [cB0]) (by simp) (by simp [cB0, refs_cLoop, refsO_arr, refsO_box, hasId, -refsO])
  simp only [List.cons_append, List.nil_append, cB0] at hg
  have hk : ∀ (b : Bool) (o : List AVal), get ((r + 9, .box [iv c, iv i, .sl (r + 8) w 0 s.length]) :: (r + 8, .arr (pI s) w 1) :: (r + 6, .box [iv c, iv i, .sl (r + 8) w 0 s.length]) :: (r + 5, .arr (pI s0) w0 1) :: cB0 l x b o none 0) 4 = some (.loop (cEnv l) [23] c78A0 c78B0 none 0) := fun b o => by simp [cB0, cLoop]
  by_cases c1 : x.1 ≤ i
  · by_cases c2 : i ≤ x.2
    · by_cases c3 : cmpC c c0 s s0 < 0
      · simp -implicitDefEqProofs [c78A0, cEnv]
        rw [yldK_eq (by exact hk _ _), cLoop_fold']
        simp -implicitDefEqProofs [c78B0, cB0, c1, c2, c3, h1, hg, -gc]
        rw [yldB_normal (by exact hk1 _ _ _ _ _), cLoop_fold']
        simp -implicitDefEqProofs [accX, fitX, c1, c2, c3]
      · simp -implicitDefEqProofs [c78A0, cEnv]
        rw [yldK_eq (by exact hk _ _), cLoop_fold']
        simp -implicitDefEqProofs [c78B0, cB0, c1, c2, c3, h1, hg, -gc]
        rw [yldB_normal (by exact hk1 _ _ _ _ _), cLoop_fold']
        simp -implicitDefEqProofs [accX, fitX, c1, c2, c3]
    · simp -implicitDefEqProofs [c78A0, cEnv]
      rw [yldK_eq (by exact hk _ _), cLoop_fold']
      simp -implicitDefEqProofs [c78B0, cB0, c1, c2, -gc]
      rw [yldB_normal (by exact hk1 _ _ _ _ _), cLoop_fold']
      simp -implicitDefEqProofs [accX, fitX, c1, c2]
  · simp -implicitDefEqProofs [c78A0, cEnv]
    rw [yldK_eq (by exact hk _ _), cLoop_fold']
    simp -implicitDefEqProofs [c78B0, cB0, c1, -gc]
    rw [yldB_normal (by exact hk1 _ _ _ _ _), cLoop_fold']
    simp -implicitDefEqProofs [accX, fitX, c1]

/-- what is kept -/
def kB (l : List PackI) (x : Int × Int) (r : Nat) : Option (List Int) → Sto
  | none => cB0 l x false [iv 0, iv 0, .p .nils] none 0
  | some s => if s = [] then cB0 l x true [iv 0, iv 0, .p .nils] none 0 else (r + 5, .arr (pI s) (s.length - 1) 1) :: cB0 l x true [iv (cst l s), iv (impS l s), .sl (r + 5) (s.length - 1) 0 s.length] none 0
def rF (l : List PackI) (x : Int × Int) : Nat → Nat
  | 0 => 0
  | b + 1 => if accB l x (selF b l.length) (bestF l x b) = true then (match bestF l x b with
      | none => 2
      | some s => if s = [] then 2 else rF l x b + 3) else rF l x b
def oEnv (l : List PackI) (m b : Nat) : Env := [(0, .yld 4), (1, .p (.pp [.sl (cP l) l.length])), (9, iv m), (10, iv b)]
def kS (l : List PackI) (x : Int × Int) (m b : Nat) : St := ⟨oEnv l m b, kB l x (rF l x b) (bestF l x b)⟩

theorem fit_eq (l : List PackI) (s : List Int) (x : Int × Int) : fitB l s x = fitX x (impS l s) := rfl
theorem better_eq (l : List PackI) (s o : List Int) : betterB l s o = decide (cmpC (cst l s) (cst l o) s o < 0) := by
  rw [cmpC_neg]; rfl
theorem acc_eq (l : List PackI) (x : Int × Int) (s o : List Int) : accB l x s (some o) = accX x (cst l s) (impS l s) (cst l o) s o := by
  simp only [accB, accX, fit_eq, better_eq]

theorem best_zero (l : List PackI) (x : Int × Int) : bestF l x 1 = none ∨ bestF l x 1 = some [] := by
  have h : bestF l x 1 = if accB l x (selF 0 l.length) none = true then some (selF 0 l.length) else none := rfl
  have h0 : ∀ n, selF 0 n = [] := by
    intro n
    induction n with
    | zero => rfl
    | succ n ih => simp [selF, ih]
  rw [h, h0]
  split
  · exact .inr rfl
  · exact .inl rfl
theorem sel_zero (n : Nat) : selF 0 n = [] := by
  induction n with
  | zero => rfl
  | succ n ih => simp [selF, ih]

theorem kept_in (l : List PackI) (x : Int × Int) (b : Nat) (s : List Int) (h : bestF l x b = some s) : (∀ i ∈ s, 0 ≤ i ∧ i < l.length) ∧ s.length ≤ l.length := (idF_pos l x b).2.2 s h

abbrev bx (c1 c2 : Int) (w : AVal) : Obj := .box [iv c1, iv c2, w]
theorem gy_a (l : List PackI) (x : Int × Int) (f : Bool) : gc 6 [(0, .p (.bool true))] ((6, bx 0 0 (.p .nils)) :: (5, bx 0 0 (.p .nils)) :: cB0 l x f [iv 0, iv 0, .p .nils] none 0) = (5, bx 0 0 (.p .nils)) :: cB0 l x f [iv 0, iv 0, .p .nils] none 0 := by
  simp -implicitDefEqProofs [cB0, cLoop, cEnv]
theorem gy_1n (l : List PackI) (x : Int × Int) (w n : Nat) (f : Bool) (c1 c2 : Int) (R : List PVal) : gc 8 [(0, .p (.bool true))] ((8, bx c1 c2 (.sl 7 w 0 n)) :: (7, .arr R w 1) :: (5, bx c1 c2 (.sl 7 w 0 n)) :: cB0 l x f [iv 0, iv 0, .p .nils] none 0) = (7, .arr R w 1) :: (5, bx c1 c2 (.sl 7 w 0 n)) :: cB0 l x f [iv 0, iv 0, .p .nils] none 0 := by
  simp -implicitDefEqProofs [cB0, cLoop, cEnv]
theorem gy_1k (l : List PackI) (x : Int × Int) (w n : Nat) (f : Bool) (c1 c2 : Int) (R : List PVal) : gc 8 [(0, .p (.bool true))] ((8, bx c1 c2 (.sl 7 w 0 n)) :: (7, .arr R w 1) :: (5, bx c1 c2 (.sl 7 w 0 n)) :: cB0 l x f [iv c1, iv c2, .sl 7 w 0 n] none 0) = (7, .arr R w 1) :: (5, bx c1 c2 (.sl 7 w 0 n)) :: cB0 l x f [iv c1, iv c2, .sl 7 w 0 n] none 0 := by
  simp -implicitDefEqProofs [cB0, cLoop, cEnv]
theorem gy_2n (l : List PackI) (x : Int × Int) (w n r w0 n0 : Nat) (f : Bool) (c1 c2 d1 d2 : Int) (R R0 : List PVal) : gc (r + 9) [(0, .p (.bool true))] ((r + 9, bx c1 c2 (.sl (r + 8) w 0 n)) :: (r + 8, .arr R w 1) :: (r + 6, bx c1 c2 (.sl (r + 8) w 0 n)) :: (r + 5, .arr R0 w0 1) :: cB0 l x f [iv d1, iv d2, .sl (r + 5) w0 0 n0] none 0) = (r + 8, .arr R w 1) :: (r + 6, bx c1 c2 (.sl (r + 8) w 0 n)) :: (r + 5, .arr R0 w0 1) :: cB0 l x f [iv d1, iv d2, .sl (r + 5) w0 0 n0] none 0 := by
  simp -implicitDefEqProofs [cB0, cLoop, cEnv]
theorem gy_2k (l : List PackI) (x : Int × Int) (w n r w0 : Nat) (f : Bool) (c1 c2 : Int) (R R0 : List PVal) : gc (r + 9) [(0, .p (.bool true))] ((r + 9, bx c1 c2 (.sl (r + 8) w 0 n)) :: (r + 8, .arr R w 1) :: (r + 6, bx c1 c2 (.sl (r + 8) w 0 n)) :: (r + 5, .arr R0 w0 1) :: cB0 l x f [iv c1, iv c2, .sl (r + 8) w 0 n] none 0) = (r + 8, .arr R w 1) :: (r + 6, bx c1 c2 (.sl (r + 8) w 0 n)) :: (r + 5, .arr R0 w0 1) :: cB0 l x f [iv c1, iv c2, .sl (r + 8) w 0 n] none 0 := by
  simp -implicitDefEqProofs [cB0, cLoop, cEnv]

theorem gc_box (l : List PackI) (x : Int × Int) (m b : Nat) (f : Bool) : gc 5 (oEnv l m b) ((5, bx 0 0 (.p .nils)) :: cB0 l x f [iv 0, iv 0, .p .nils] none 0) = cB0 l x f [iv 0, iv 0, .p .nils] none 0 := by
  simp -implicitDefEqProofs [oEnv, cB0, cLoop, cEnv]
theorem gc_n (l : List PackI) (x : Int × Int) (m b : Nat) (f : Bool) : gc 5 (oEnv l m b) (cB0 l x f [iv 0, iv 0, .p .nils] none 0) = cB0 l x f [iv 0, iv 0, .p .nils] none 0 := by
  simp -implicitDefEqProofs [oEnv, cB0, cLoop, cEnv]
theorem gc_k (l : List PackI) (x : Int × Int) (m b r w n : Nat) (f : Bool) (c1 c2 : Int) (R : List PVal) : gc 5 (oEnv l m b) ((r + 5, .arr R w 1) :: cB0 l x f [iv c1, iv c2, .sl (r + 5) w 0 n] none 0) = (r + 5, .arr R w 1) :: cB0 l x f [iv c1, iv c2, .sl (r + 5) w 0 n] none 0 := by
  simp -implicitDefEqProofs [oEnv, cB0, cLoop, cEnv]
theorem gc_1n (l : List PackI) (x : Int × Int) (m b w n : Nat) (f : Bool) (c1 c2 : Int) (R : List PVal) : gc 5 (oEnv l m b) ((7, .arr R w 1) :: (5, bx c1 c2 (.sl 7 w 0 n)) :: cB0 l x f [iv 0, iv 0, .p .nils] none 0) = cB0 l x f [iv 0, iv 0, .p .nils] none 0 := by
  simp -implicitDefEqProofs [oEnv, cB0, cLoop, cEnv]
theorem gc_1k (l : List PackI) (x : Int × Int) (m b w n : Nat) (f : Bool) (c1 c2 : Int) (R : List PVal) : gc 5 (oEnv l m b) ((7, .arr R w 1) :: (5, bx c1 c2 (.sl 7 w 0 n)) :: cB0 l x f [iv c1, iv c2, .sl 7 w 0 n] none 0) = (7, .arr R w 1) :: cB0 l x f [iv c1, iv c2, .sl 7 w 0 n] none 0 := by
  simp -implicitDefEqProofs [oEnv, cB0, cLoop, cEnv]
theorem gc_2n (l : List PackI) (x : Int × Int) (m b w n r w0 n0 : Nat) (f : Bool) (c1 c2 d1 d2 : Int) (R R0 : List PVal) : gc 5 (oEnv l m b) ((r + 8, .arr R w 1) :: (r + 6, bx c1 c2 (.sl (r + 8) w 0 n)) :: (r + 5, .arr R0 w0 1) :: cB0 l x f [iv d1, iv d2, .sl (r + 5) w0 0 n0] none 0) = (r + 5, .arr R0 w0 1) :: cB0 l x f [iv d1, iv d2, .sl (r + 5) w0 0 n0] none 0 := by
  simp -implicitDefEqProofs [oEnv, cB0, cLoop, cEnv]
theorem gc_2k (l : List PackI) (x : Int × Int) (m b w n r w0 : Nat) (f : Bool) (c1 c2 : Int) (R R0 : List PVal) : gc 5 (oEnv l m b) ((r + 8, .arr R w 1) :: (r + 6, bx c1 c2 (.sl (r + 8) w 0 n)) :: (r + 5, .arr R0 w0 1) :: cB0 l x f [iv c1, iv c2, .sl (r + 8) w 0 n] none 0) = (r + 8, .arr R w 1) :: cB0 l x f [iv c1, iv c2, .sl (r + 8) w 0 n] none 0 := by
  simp -implicitDefEqProofs [oEnv, cB0, cLoop, cEnv]

theorem gc_kB (l : List PackI) (x : Int × Int) (m b r : Nat) (o : Option (List Int)) : gc 5 (oEnv l m b) (kB l x r o) = kB l x r o := by
  cases o with
  | none => exact gc_n l x m b false
  | some s =>
    simp only [kB]
    split
    · exact gc_n l x m b true
    · exact gc_k l x m b r _ _ true _ _ _

theorem nextId_cB0 (l : List PackI) (x : Int × Int) (f : Bool) (o : List AVal) (j : Option ACode) (e : Nat) : nextId (cB0 l x f o j e) = 5 := rfl
theorem o_round {d : Nat} {l : List PackI} (hp : PksOk l) (x : Int × Int) (b : Nat) (hb : b < 2 ^ l.length) :
    ∃ st1, loopS (evFn F C0 G0 (d + 5)) C0 G0 5 true [0, 1, 9, 10] c176L1 (kS l x (2 ^ l.length) b) = .ret (.normal, st1) ∧ loopS (evFn F C0 G0 (d + 5)) C0 G0 5 true [0, 1, 9, 10] c176L1 st1 = loopS (evFn F C0 G0 (d + 5)) C0 G0 5 true [0, 1, 9, 10] c176L1 (kS l x (2 ^ l.length) (b + 1)) := by
  have hfew := hp.few
  have hpow : ∀ k, k ≤ 8 → 2 ^ k ≤ 256 := by decide
  have hm := hpow _ hfew
  generalize hM : 2 ^ l.length = m at *
  have hlt : (b : Int) < m := by omega
  have hm0 : 0 < m := by omega
  have hb1 : bestF l x (b + 1) = if accB l x (selF b l.length) (bestF l x b) = true then some (selF b l.length) else bestF l x b := rfl
  have hr1 : rF l x (b + 1) = if accB l x (selF b l.length) (bestF l x b) = true then (match bestF l x b with
      | none => 2
      | some s => if s = [] then 2 else rF l x b + 3) else rF l x b := rfl
  have hw := wrap_succ (i := b) (by omega)
  have hgk := gc_kB l x m b (rF l x b) (bestF l x b)
  have hre : restrict (kS l x m b).env [0, 1, 9, 10] = oEnv l m b := rfl
  have hsl : (selF b l.length).length < 1000000 := by have := (selF_in b l.length).2; omega
  have hsame : ∀ S1, gc 5 (oEnv l m (b + 1)) S1 = kB l x (rF l x (b + 1)) (bestF l x (b + 1)) → loopS (evFn F C0 G0 (d + 5)) C0 G0 5 true [0, 1, 9, 10] c176L1 ⟨oEnv l m (b + 1), S1⟩ = loopS (evFn F C0 G0 (d + 5)) C0 G0 5 true [0, 1, 9, 10] c176L1 (kS l x m (b + 1)) := fun S1 h =>
    loopS_same rfl (by
      show gc 5 (oEnv l m (b + 1)) S1 = gc 5 (oEnv l m (b + 1)) (kB l x (rF l x (b + 1)) (bestF l x (b + 1)))
      rw [h, gc_kB])
  rcases Nat.eq_zero_or_pos b with hb0 | hb0
  · subst hb0
    have hbest : bestF l x 0 = none := rfl
    have hsel := sel_zero l.length
    have key := sets_loop (d := d + 3) hp m 0 5 (by omega) (cB0 l x false [iv 0, iv 0, .p .nils] none 0) (gcA l x false 0 0 m 0 0)
    rw [hsel] at key hb1 hr1
    have ha : accB l x [] (bestF l x 0) = fitX x 0 := by simp [hbest, accB, fit_eq, impS, impF]
    rw [ha, hbest] at hb1 hr1
    have hy := yldA (d := d) l x
    rw [xS, if_pos rfl] at key
    refine ⟨⟨oEnv l m (0 + 1), (5, bx 0 0 (.p .nils)) :: cB0 l x (fitX x 0) [iv 0, iv 0, .p .nils] none 0⟩, ?_, ?_⟩
    · rw [loopS_eq]
      simp only [hre, if_true]
      simp only [kS, hgk]
      simp only [hbest, kB]
      simp only [sEnv] at key
      simp -implicitDefEqProofs [oEnv, c176L1, hm0, nextId_cB0, -nextId]
      simp only [Int.natCast_zero] at key
      rw [key]
      simp -implicitDefEqProofs [hy, gy_a, nextId_cons, -nextId, -gc]
      exact wrap64 (by decide) (by decide)
    · refine hsame _ ?_
      rw [gc_box, hb1, hr1]
      cases fitX x 0 <;> rfl
  · have hne := selF_ne l.length b hb0 (by omega)
    have hxs : ∀ c B, xS l (selF b l.length) c B = (c + 2, .arr (pI (selF b l.length)) ((selF b l.length).length - 1) 1) :: (c, bx (cst l (selF b l.length)) (impS l (selF b l.length)) (.sl (c + 2) ((selF b l.length).length - 1) 0 (selF b l.length).length)) :: B := fun c B => by rw [xS, if_neg hne]
    cases hbest : bestF l x b with
    | none =>
      rw [hbest] at hb1 hr1 hgk
      have key := sets_loop (d := d + 3) hp m b 5 (by omega) (cB0 l x false [iv 0, iv 0, .p .nils] none 0) (gcA l x false 0 0 m b 0)
      rw [hxs] at key
      have ha : accB l x (selF b l.length) none = fitX x (impS l (selF b l.length)) := by simp [accB, fit_eq]
      rw [ha] at hb1 hr1
      have hy := yldB1 (d := d) l x (selF b l.length) (cst l (selF b l.length)) (impS l (selF b l.length)) ((selF b l.length).length - 1)
      generalize hS : selF b l.length = S at *
      cases hF : fitX x (impS l S)
      ·
        rw [hF] at hb1 hr1 hy
        simp only [Bool.false_eq_true, if_false] at hb1 hr1 hy
        refine ⟨⟨oEnv l m (b + 1), (7, .arr (pI S) (S.length - 1) 1) :: (5, bx (cst l S) (impS l S) (.sl 7 (S.length - 1) 0 S.length)) :: cB0 l x false [iv 0, iv 0, .p .nils] none 0⟩, ?_, ?_⟩
        · rw [loopS_eq]
          simp only [hre, if_true]
          simp only [kS, hbest, hgk]
          simp only [kB]
          simp only [sEnv] at key
          simp -implicitDefEqProofs [oEnv, c176L1, hlt, nextId_cB0, -nextId]
          simp only [Int.natCast_zero] at key
          rw [key]
          simp -implicitDefEqProofs [hy, gy_1n, hw, nextId_cons, -nextId, -gc]
        · refine hsame _ ?_
          rw [hb1, hr1]
          exact gc_1n l x m (b + 1) _ _ false _ _ _
      ·
        rw [hF] at hb1 hr1 hy
        simp only [if_true] at hb1 hr1 hy
        refine ⟨⟨oEnv l m (b + 1), (7, .arr (pI S) (S.length - 1) 1) :: (5, bx (cst l S) (impS l S) (.sl 7 (S.length - 1) 0 S.length)) :: cB0 l x true [iv (cst l S), iv (impS l S), .sl 7 (S.length - 1) 0 S.length] none 0⟩, ?_, ?_⟩
        · rw [loopS_eq]
          simp only [hre, if_true]
          simp only [kS, hbest, hgk]
          simp only [kB]
          simp only [sEnv] at key
          simp -implicitDefEqProofs [oEnv, c176L1, hlt, nextId_cB0, -nextId]
          simp only [Int.natCast_zero] at key
          rw [key]
          simp -implicitDefEqProofs [hy, gy_1k, hw, nextId_cons, -nextId, -gc]
        · refine hsame _ ?_
          rw [hb1, hr1]
          simp only [kB, if_neg hne]
          exact gc_1k l x m (b + 1) _ _ true _ _ _
    | some s0 =>
      rw [hbest] at hb1 hr1 hgk
      rw [acc_eq] at hb1 hr1
      by_cases h0 : s0 = []
      · subst h0
        have key := sets_loop (d := d + 3) hp m b 5 (by omega) (cB0 l x true [iv 0, iv 0, .p .nils] none 0) (gcA l x true 0 0 m b 0)
        rw [hxs] at key
        have hc0 : cst l [] = 0 := rfl
        rw [hc0] at hb1 hr1
        have hy := yldC (d := d) l x (selF b l.length) hne hsl (cst l (selF b l.length)) (impS l (selF b l.length)) ((selF b l.length).length - 1)
        generalize hS : selF b l.length = S at *
        cases hF : accX x (cst l S) (impS l S) 0 S []
        ·
          rw [hF] at hb1 hr1 hy
          simp only [Bool.false_eq_true, if_false, if_true] at hb1 hr1 hy
          refine ⟨⟨oEnv l m (b + 1), (7, .arr (pI S) (S.length - 1) 1) :: (5, bx (cst l S) (impS l S) (.sl 7 (S.length - 1) 0 S.length)) :: cB0 l x true [iv 0, iv 0, .p .nils] none 0⟩, ?_, ?_⟩
          · rw [loopS_eq]
            simp only [hre, if_true]
            simp only [kS, hbest, hgk]
            simp only [kB, if_true]
            simp only [sEnv] at key
            simp -implicitDefEqProofs [oEnv, c176L1, hlt, nextId_cB0, -nextId]
            simp only [Int.natCast_zero] at key
            rw [key]
            simp -implicitDefEqProofs [hy, gy_1n, hw, nextId_cons, -nextId, -gc]
          · refine hsame _ ?_
            rw [hb1, hr1]
            exact gc_1n l x m (b + 1) _ _ true _ _ _
        ·
          rw [hF] at hb1 hr1 hy
          simp only [if_true] at hb1 hr1 hy
          refine ⟨⟨oEnv l m (b + 1), (7, .arr (pI S) (S.length - 1) 1) :: (5, bx (cst l S) (impS l S) (.sl 7 (S.length - 1) 0 S.length)) :: cB0 l x true [iv (cst l S), iv (impS l S), .sl 7 (S.length - 1) 0 S.length] none 0⟩, ?_, ?_⟩
          · rw [loopS_eq]
            simp only [hre, if_true]
            simp only [kS, hbest, hgk]
            simp only [kB, if_true]
            simp only [sEnv] at key
            simp -implicitDefEqProofs [oEnv, c176L1, hlt, nextId_cB0, -nextId]
            simp only [Int.natCast_zero] at key
            rw [key]
            simp -implicitDefEqProofs [hy, gy_1k, hw, nextId_cons, -nextId, -gc]
          · refine hsame _ ?_
            rw [hb1, hr1]
            simp only [kB, if_neg hne]
            exact gc_1k l x m (b + 1) _ _ true _ _ _
      · obtain ⟨k1, k2⟩ := kept_in l x b s0 hbest
        generalize hr : rF l x b = r at *
        have key := sets_loop (d := d + 3) hp m b (r + 6) (by omega) ((r + 5, .arr (pI s0) (s0.length - 1) 1) :: cB0 l x true [iv (cst l s0), iv (impS l s0), .sl (r + 5) (s0.length - 1) 0 s0.length] none 0) (gcB l x true _ _ m b r _ _ _)
        rw [hxs] at key
        have hy := yldD (d := d) l x (selF b l.length) s0 hne h0 hsl (cst l (selF b l.length)) (impS l (selF b l.length)) (cst l s0) (impS l s0) ((selF b l.length).length - 1) (s0.length - 1) r
        simp only [if_neg h0] at hr1
        have h68 : r + 6 + 2 = r + 8 := by omega
        rw [h68] at key
        generalize hS : selF b l.length = S at *
        cases hF : accX x (cst l S) (impS l S) (cst l s0) S s0
        ·
          rw [hF] at hb1 hr1 hy
          simp only [Bool.false_eq_true, if_false] at hb1 hr1 hy
          refine ⟨⟨oEnv l m (b + 1), (r + 8, .arr (pI S) (S.length - 1) 1) :: (r + 6, bx (cst l S) (impS l S) (.sl (r + 8) (S.length - 1) 0 S.length)) :: (r + 5, .arr (pI s0) (s0.length - 1) 1) :: cB0 l x true [iv (cst l s0), iv (impS l s0), .sl (r + 5) (s0.length - 1) 0 s0.length] none 0⟩, ?_, ?_⟩
          · rw [loopS_eq]
            simp only [hre, if_true]
            simp only [kS, hbest, hr, hgk]
            simp only [kB, if_neg h0]
            simp only [sEnv] at key
            simp -implicitDefEqProofs [oEnv, c176L1, hlt, nextId_cons, -nextId]
            simp only [Int.natCast_zero] at key
            rw [key]
            simp -implicitDefEqProofs [hy, gy_2n, hw, nextId_cons, -nextId, -gc]
          · refine hsame _ ?_
            rw [hb1, hr1]
            simp only [kB, if_neg h0]
            exact gc_2n l x m (b + 1) _ _ r _ _ true _ _ _ _ _ _
        ·
          rw [hF] at hb1 hr1 hy
          simp only [if_true] at hb1 hr1 hy
          refine ⟨⟨oEnv l m (b + 1), (r + 8, .arr (pI S) (S.length - 1) 1) :: (r + 6, bx (cst l S) (impS l S) (.sl (r + 8) (S.length - 1) 0 S.length)) :: (r + 5, .arr (pI s0) (s0.length - 1) 1) :: cB0 l x true [iv (cst l S), iv (impS l S), .sl (r + 8) (S.length - 1) 0 S.length] none 0⟩, ?_, ?_⟩
          · rw [loopS_eq]
            simp only [hre, if_true]
            simp only [kS, hbest, hr, hgk]
            simp only [kB, if_neg h0]
            simp only [sEnv] at key
            simp -implicitDefEqProofs [oEnv, c176L1, hlt, nextId_cons, -nextId]
            simp only [Int.natCast_zero] at key
            rw [key]
            simp -implicitDefEqProofs [hy, gy_2k, hw, nextId_cons, -nextId, -gc]
          · refine hsame _ ?_
            rw [hb1, hr1]
            simp only [kB, if_neg hne]
            exact gc_2k l x m (b + 1) _ _ r _ true _ _ _ _

theorem shl_pow {k : Nat} (h : k ≤ 8) : shiftP true (iv 1) (iv k) = some (iv ((2 ^ k : Nat) : Int)) := by
  have : k = 0 ∨ k = 1 ∨ k = 2 ∨ k = 3 ∨ k = 4 ∨ k = 5 ∨ k = 6 ∨ k = 7 ∨ k = 8 := by omega
  rcases this with rfl | rfl | rfl | rfl | rfl | rfl | rfl | rfl | rfl <;> rfl

theorem o_loop {d : Nat} {l : List PackI} (hp : PksOk l) (x : Int × Int) :
    loopN (loopS (evFn F C0 G0 (d + 5)) C0 G0 5 true [0, 1, 9, 10] c176L1) loopFuel ⟨oEnv l (2 ^ l.length) 0, cB0 l x false [iv 0, iv 0, .p .nils] none 0⟩ = .ret (.exit 0, ⟨oEnv l (2 ^ l.length) (2 ^ l.length) ++ [(11, .p (.bool false))], kB l x (rF l x (2 ^ l.length)) (bestF l x (2 ^ l.length))⟩) := by
  have hpow : ∀ k, k ≤ 8 → 2 ^ k ≤ 256 := by decide
  have hm := hpow _ hp.few
  refine loop_run' (kS l x (2 ^ l.length)) (2 ^ l.length) (by simp) rfl (fun b hb => o_round hp x b hb) ?_ (by simp [loopFuel]; omega)
  have hg := gc_kB l x (2 ^ l.length) (2 ^ l.length) (rF l x (2 ^ l.length)) (bestF l x (2 ^ l.length))
  generalize 2 ^ l.length = m at *
  have hre : restrict (kS l x m m).env [0, 1, 9, 10] = oEnv l m m := rfl
  rw [loopS_eq]
  simp only [hre, if_true]
  simp only [kS, hg]
  generalize kB l x (rF l x m) (bestF l x m) = S at *
  simp -implicitDefEqProofs [oEnv, c176L1]

theorem sets176 {d : Nat} {l : List PackI} (hp : PksOk l) (x : Int × Int) :
    evFn F C0 G0 (d + 6) (.fn 176) [.yld 4, .p (.pp [.sl (cP l) l.length])] (cB0 l x false [iv 0, iv 0, .p .nils] none 0) = .ret (.tup [], kB l x (rF l x (2 ^ l.length)) (bestF l x (2 ^ l.length))) := by
  rw [evFn_fn fe176]
  have key := o_loop (d := d) hp x
  have hs := shl_pow hp.few
  generalize 2 ^ l.length = m at *
  simp only [oEnv, Int.natCast_zero] at key
  simp -implicitDefEqProofs [c176, hs, nextId_cB0, -nextId]
  rw [key]
  simp -implicitDefEqProofs

/-- the results at any input -/
def chErr (l : List PackI) (x : Int × Int) : Int := firstE [packsE l, targE x]
def chOut (l : List PackI) (x : Int × Int) : List Int := if chErr l x = 0 then (bestF l x (2 ^ l.length)).getD [] else []
def chCost (l : List PackI) (x : Int × Int) : Int := if chErr l x = 0 then (match bestF l x (2 ^ l.length) with
  | none => 0
  | some s => cst l s) else 0
def chE (l : List PackI) (x : Int × Int) : Int := if chErr l x = 0 then (match bestF l x (2 ^ l.length) with
  | none => 18
  | some _ => 0) else chErr l x

theorem cheap78 {n : Nat} (hn : 8 ≤ n) (l : List PackI) (x : Int × Int) (hs : ∀ y ∈ l, y.name.length ≤ 9223372036854775807) : ∃ w, RUN n 78 [psl l, .agg [iv x.1, iv x.2]] = .ret (.tup [w, iv (chCost l x), iv (chE l x)]) ∧ (w = .p (.sl (pI (chOut l x)) (chOut l x).length) ∨ w = .own (pI (chOut l x)) (chOut l x).length 1) := by
  obtain ⟨d, rfl⟩ : ∃ d, n = d + 8 := ⟨n - 8, by omega⟩
  rw [RUN, call_eq fe78 _ rfl]
  have h1 := packs87 (n := d + 7) (by omega) l hs
  have h2 := target141 (n := d + 7) (by omega) x
  have h3 := first92_2 (n := d + 7) (by omega) (packsE l) (targE x)
  have e : firstE [packsE l, targE x] = chErr l x := rfl
  rw [e] at h3
  have h144 : RUN (d + 7) 144 [psl l] = .ret (.p (.clo 176 [] [.pp [.sl (cP l) l.length]])) := by
    rw [RUN, call_eq fe144 _ rfl]
    simp -implicitDefEqProofs [c144]
  by_cases hz : chErr l x = 0
  · have hp := packs_of ((firstE_zero.1 hz) (packsE l) (by simp))
    have key := sets176 (d := d + 1) hp x
    simp only [cB0] at key
    simp only [chCost, chE, chOut, if_pos hz]
    simp -implicitDefEqProofs [c78, h1, h2, h3, h144, hz, callee]
    rw [cLoop_fold]
    rw [key]
    cases hb : bestF l x (2 ^ l.length) with
    | none =>
      simp -implicitDefEqProofs [kB, cB0]
      rw [cLoop, rfunK_none (by rfl) (by simp)]
      simp -implicitDefEqProofs [cLoop_fold']
    | some s =>
      by_cases h0 : s = []
      · subst h0
        simp -implicitDefEqProofs [kB, cB0]
        rw [cLoop, rfunK_none (by rfl) (by simp)]
        simp -implicitDefEqProofs [cLoop_fold']
        exact ⟨_, ⟨rfl, rfl⟩, .inl rfl⟩
      · have hk1 : ∀ oa R, get ((rF l x (2 ^ l.length) + 5, oa) :: (4, cLoop l none 0) :: R) 4 = some (.loop (cEnv l) [23] c78A0 c78B0 none 0) := by intros; simp [cLoop]
        simp -implicitDefEqProofs [kB, cB0, h0]
        rw [rfunK_none (by exact hk1 _ _) (by simp)]
        simp -implicitDefEqProofs [cLoop_fold']
  · have hb : (chErr l x != 0) = true := by simpa using hz
    simp only [chCost, chE, chOut, if_neg hz]
    simp -implicitDefEqProofs [c78, h1, h2, h3, hb]
end Fw
