/- The speed of gates, quotients in lowest terms, overlaps. -/
import Derived.Test.YtfkacogfieiccaaGreatDoorBaL6
set_option maxHeartbeats 8000000
namespace Fw
open Go
attribute [local irreducible] evCode evOps evOpsD evOper evOperD evOp evFn loopN T.All T.bind callPure callOp opsK opsDK restK seqK blockK loopS setK setQ giveK scalK gcK finish finS rfunK yldK yldB loopK

theorem min2 (a b : Int) : minInt a [iv b] = some (min a b) := by
  simp only [minInt]; congr 1; split <;> omega

/-- the speed up to the gate k + 1 -/
def spA (l : List GateI) : Nat → Int × Int
  | 0 => (spL l).getD 0 (0, 0)
  | k + 1 => (max (spA l k).1 ((spL l).getD (k + 1) (0, 0)).1, min (spA l k).2 ((spL l).getD (k + 1) (0, 0)).2)
def spOut (l : List GateI) : Int × Int := spA l (l.length - 2)
def spdA (l : List GateI) : Int × Int := if gatesE l = 0 then (if (spOut l).2 < (spOut l).1 then (0, 0) else spOut l) else (0, 0)
def spdE (l : List GateI) : Int := if gatesE l = 0 then (if (spOut l).2 < (spOut l).1 then 24 else 0) else gatesE l
theorem getD_c {l : List (Int × Int)} {i : Nat} (h : i < l.length) : l.getD i (0, 0) = l[i] := by simp [List.getD_eq_getElem?_getD, List.getElem?_eq_getElem h]

theorem cI_two {l : List (Int × Int)} (h : 0 < l.length) : (cI l).take 2 = [.int .i64 l[0].1, .int .i64 l[0].2] := by
  cases l with
  | nil => cases h
  | cons x r => rfl

theorem speed16 {n : Nat} (hn : 7 ≤ n) (l : List GateI) (hl : l.length < 1000000) : RUN n 16 [gsl l] = .ret (.tup [.agg [iv (spdA l).1, iv (spdA l).2], iv (spdE l)]) := by
  obtain ⟨d, rfl⟩ : ∃ d, n = d + 7 := ⟨n - 7, by omega⟩
  rw [RUN, call_eq fe16 _ rfl]
  have h0 := check24 (n := d + 6) (by omega) l hl
  by_cases z0 : gatesE l = 0
  · have h1 := speeds97 (n := d + 6) (by omega) (gates_of z0)
    obtain ⟨f1, f2⟩ := (gates_of z0).len
    have hp : 0 < l.length - 1 := by omega
    have hp0 : 0 < (spL l).length := by simp; omega
    have hx0 := cI_two hp0
    have hs0 : spA l 0 = (spL l)[0] := getD_c hp0
    have hle2 : 2 ≤ (l.length - 1) * 2 := by omega
    let S : AVal := .p (.sl (cI (spL l)) (l.length - 1))
    let inv : Nat → St := fun i => ⟨[(2, .ptr 0 0 0), (6, .ptr 1 0 0), (20, S), (21, iv ((l.length - 1 : Nat) : Int)), (22, iv i)], [(1, .arr [.int .i64 (spA l (i - 1)).1, .int .i64 (spA l (i - 1)).2] 0 1), (0, .arr [.int .i64 0, .int .i64 0] 0 1)]⟩
    have hstart : loopN (loopS (evFn F C0 G0 (d + 6)) C0 G0 0 true [2, 6, 20, 21, 22] c16L0) loopFuel ⟨[(2, .ptr 0 0 0), (6, .ptr 1 0 0), (20, S), (21, iv ((l.length - 1 : Nat) : Int)), (22, iv 0)], [(1, .arr [.int .i64 (spL l)[0].1, .int .i64 (spL l)[0].2] 0 1), (0, .arr [.int .i64 0, .int .i64 0] 0 1)]⟩ = .ret (.exit 0, ⟨(inv (l.length - 1)).env ++ [(23, .p (.bool false))], (inv (l.length - 1)).sto⟩) := by
      refine loop_run' inv (l.length - 1) (by simp) ?_ ?_ ?_ (by simp [loopFuel]; omega)
      · exact loopS_same rfl (by simp [inv, S, hs0])
      · intro i hi
        have hi' : i < (spL l).length := by simpa using hi
        have hx := cI_drop (spL l) i hi'
        have hlt : i * 2 < (l.length - 1) * 2 := by omega
        have hlt' : (i : Int) < ((l.length - 1 : Nat) : Int) := by omega
        have hws := wrap_succ (i := i) (by omega)
        have gi := getD_c hi'
        have hmx : max (spA l (i - 1)).1 (spL l)[i].1 = (spA l i).1 := by
          cases i with
          | zero => rw [show (0 - 1 : Nat) = 0 from rfl, hs0]; omega
          | succ k => simp only [spA, gi, Nat.add_sub_cancel]
        have hmn : min (spA l (i - 1)).2 (spL l)[i].2 = (spA l i).2 := by
          cases i with
          | zero => rw [show (0 - 1 : Nat) = 0 from rfl, hs0]; omega
          | succ k => simp only [spA, gi, Nat.add_sub_cancel]
        generalize (spL l)[i] = x at *
        refine ⟨?_, ?h1, ?h2⟩
        case h1 =>
          simp -implicitDefEqProofs [inv, S, loopS_eq, c16L0, hx, hlt, hlt', hws, max2, min2, hmx, hmn]
          exact rfl
        case h2 => exact loopS_same rfl (by simp [inv, S])
      · simp -implicitDefEqProofs [inv, S, loopS_eq, c16L0]
    have ho : spA l (l.length - 1 - 1) = spOut l := rfl
    simp only [S] at hstart
    by_cases c1 : (spOut l).2 < (spOut l).1
    · have e1 : spdA l = (0, 0) := by simp [spdA, z0, c1]
      have e2 : spdE l = 24 := by simp [spdE, z0, c1]
      rw [e1, e2]
      simp -implicitDefEqProofs [c16, h0, z0, h1, hx0, hle2, hp, hstart, inv, S, ho, c1]
    · have e1 : spdA l = spOut l := by simp [spdA, z0, c1]
      have e2 : spdE l = 0 := by simp [spdE, z0, c1]
      rw [e1, e2]
      simp -implicitDefEqProofs [c16, h0, z0, h1, hx0, hle2, hp, hstart, inv, S, ho, c1]
  · have e1 : spdA l = (0, 0) := by simp [spdA, z0]
    have e2 : spdE l = gatesE l := by simp [spdE, z0]
    have hb : (gatesE l != 0) = true := by simpa using z0
    rw [e1, e2]
    simp -implicitDefEqProofs [c16, h0, hb]

theorem speed22 {n : Nat} (hn : 4 ≤ n) {l : List GateI} (z0 : gatesE l = 0) : RUN n 22 [gsl l] = .ret (.tup [.agg [iv (spdA l).1, iv (spdA l).2], iv (spdE l)]) := by
  obtain ⟨d, rfl⟩ : ∃ d, n = d + 4 := ⟨n - 4, by omega⟩
  rw [RUN, call_eq fe22 _ rfl]
  have h1 := speeds21 (n := d + 3) (by omega) (gates_of z0)
  obtain ⟨f1, f2⟩ := (gates_of z0).len
  have hp : 0 < l.length - 1 := by omega
  have hp0 : 0 < (spL l).length := by simp; omega
  have hx0 := cI_two hp0
  have hs0 : spA l 0 = (spL l)[0] := getD_c hp0
  have hle2 : 2 ≤ (l.length - 1) * 2 := by omega
  let S : AVal := .p (.sl (cI (spL l)) (l.length - 1))
  let inv : Nat → St := fun k => ⟨[(2, .ptr 0 0 0), (4, S), (5, .ptr 1 0 0), (6, iv ((k + 1 : Nat) : Int))], [(1, .arr [.int .i64 (spA l k).1, .int .i64 (spA l k).2] 0 1), (0, .arr [.int .i64 0, .int .i64 0] 0 1)]⟩
  have hend : ((l.length - 2 : Nat) : Int) + 1 = ((l.length - 1 : Nat) : Int) := by omega
  have hstart : loopN (loopS (evFn F C0 G0 (d + 3)) C0 G0 0 false [2, 4, 5, 6] c22L0) loopFuel ⟨[(2, .ptr 0 0 0), (4, S), (5, .ptr 1 0 0), (6, iv 1)], [(1, .arr [.int .i64 (spL l)[0].1, .int .i64 (spL l)[0].2] 0 1), (0, .arr [.int .i64 0, .int .i64 0] 0 1)]⟩ = .ret (.exit 0, ⟨(inv (l.length - 2)).env ++ [(15, .p (.bool false))], (inv (l.length - 2)).sto⟩) := by
    refine loop_run' inv (l.length - 2) (by simp) ?_ ?_ ?_ (by simp [loopFuel]; omega)
    · simp [inv, S, hs0]
    · intro k hk
      have hi' : k + 1 < (spL l).length := by simp; omega
      have hx := cI_drop (spL l) (k + 1) hi'
      have hlt : (k + 1) * 2 < (l.length - 1) * 2 := by omega
      have hlt1 : (k : Int) + 1 < ((l.length - 1 : Nat) : Int) := by omega
      have hnn : (0 : Int) ≤ (k : Int) + 1 := by omega
      have htn : ((k : Int) + 1).toNat = k + 1 := by omega
      have hwk2 : IntKind.i64.wrap ((k : Int) + 1 + 1) = (k : Int) + 1 + 1 := wrap64 (by omega) (by omega)
      have gi := getD_c hi'
      have hmx : max (spA l k).1 (spL l)[k + 1].1 = (spA l (k + 1)).1 := by simp only [spA, gi]
      have hmn : min (spA l k).2 (spL l)[k + 1].2 = (spA l (k + 1)).2 := by simp only [spA, gi]
      generalize (spL l)[k + 1] = x at *
      refine ⟨inv (k + 1), ?h1, rfl⟩
      case h1 =>
        simp -implicitDefEqProofs [inv, S, loopS_eq, c22L0, hx, hlt, hlt1, hnn, htn, hwk2, max2, min2, hmx, hmn]
    · simp -implicitDefEqProofs [inv, S, loopS_eq, c22L0, hend]
  have ho : spA l (l.length - 2) = spOut l := rfl
  simp only [S] at hstart
  by_cases c1 : (spOut l).2 < (spOut l).1
  · have e1 : spdA l = (0, 0) := by simp [spdA, z0, c1]
    have e2 : spdE l = 24 := by simp [spdE, z0, c1]
    rw [e1, e2]
    simp -implicitDefEqProofs [c22, h1, hx0, hle2, hp, hstart, inv, S, ho, c1]
  · have e1 : spdA l = spOut l := by simp [spdA, z0, c1]
    have e2 : spdE l = 0 := by simp [spdE, z0, c1]
    rw [e1, e2]
    simp -implicitDefEqProofs [c22, h1, hx0, hle2, hp, hstart, inv, S, ho, c1]

/-! greatest common divisors -/
theorem gcd_loop {step : St → T (Ex × St)} (inv : Nat → Nat → St) (fin : Nat → St) {e : Ex} (he : e ≠ .normal) (hstep : ∀ a b, b ≠ 0 → step (inv a b) = .ret (.normal, inv b (a % b))) (hend : ∀ a, step (inv a 0) = .ret (e, fin a)) :
    ∀ (b a fuel : Nat), b < fuel → loopN step fuel (inv a b) = .ret (e, fin (Nat.gcd a b)) := by
  intro b
  induction b using Nat.strongRecOn with
  | ind b ih =>
    intro a fuel hf
    by_cases hb : b = 0
    · subst hb
      rw [Nat.gcd_zero_right]
      exact loopN_end (hend a) he hf
    · rw [loopN_on (hstep a b hb) (by omega)]
      have hlt : a % b < b := Nat.mod_lt _ (by omega)
      rw [ih (a % b) hlt b (fuel - 1) (by omega), Nat.gcd_comm a b, Nat.gcd_rec b a, Nat.gcd_comm]

theorem natmod (a b : Nat) : (a : Int).tmod (b : Int) = ((a % b : Nat) : Int) := rfl
theorem max_abs (x : Int) : max x (-x) = (x.natAbs : Int) := by omega

def lowN (x : Int) (y : Nat) : Int × Int := (x.tdiv (Nat.gcd x.natAbs y : Nat), (y : Int).tdiv (Nat.gcd x.natAbs y : Nat))
/-- a quotient in lowest terms -/
def lowI (x y : Int) : Int × Int := if y < 0 then lowN (-x) y.natAbs else lowN x y.natAbs

theorem tdiv_gcd {x : Int} {g B : Int} (h1 : -B ≤ x) (h2 : x ≤ B) (hg : 0 < g) : -B ≤ x.tdiv g ∧ x.tdiv g ≤ B := by
  have := tdiv_small x g hg B h1 h2
  omega

theorem lowest100 {n : Nat} (hn : 1 ≤ n) (x y : Int) (hy : y ≠ 0) (h1 : -4611686018427387904 ≤ x) (h2 : x ≤ 4611686018427387904) (h3 : -4611686018427387904 ≤ y) (h4 : y ≤ 4611686018427387904) : RUN n 100 [iv x, iv y] = .ret (.agg [iv (lowI x y).1, iv (lowI x y).2]) := by
  obtain ⟨d, rfl⟩ : ∃ d, n = d + 1 := ⟨n - 1, by omega⟩
  rw [RUN, call_eq fe100 _ rfl]
  have main : ∀ (x' : Int) (y' : Nat), y' ≠ 0 → -4611686018427387904 ≤ x' → x' ≤ 4611686018427387904 → y' ≤ 4611686018427387904 →
      loopN (loopS (evFn F C0 G0 d) C0 G0 0 false [0, 1, 4, 5, 6] c100L0) loopFuel ⟨[(0, iv x'), (1, iv (y' : Int)), (4, .ptr 0 0 0), (5, iv (x'.natAbs : Int)), (6, iv (y' : Int))], [(0, .arr [.int .i64 0, .int .i64 0] 0 1)]⟩ = .ret (.exit 0, ⟨[(0, iv x'), (1, iv (y' : Int)), (4, .ptr 0 0 0), (5, iv (Nat.gcd x'.natAbs y' : Nat)), (6, iv 0), (19, .p (.bool false))], [(0, .arr [.int .i64 0, .int .i64 0] 0 1)]⟩) := by
    intro x' y' hy' hx1 hx2 hy2
    refine gcd_loop (fun a b => ⟨[(0, iv x'), (1, iv (y' : Int)), (4, .ptr 0 0 0), (5, iv (a : Int)), (6, iv (b : Int))], [(0, .arr [.int .i64 0, .int .i64 0] 0 1)]⟩) (fun g => ⟨[(0, iv x'), (1, iv (y' : Int)), (4, .ptr 0 0 0), (5, iv (g : Int)), (6, iv 0), (19, .p (.bool false))], [(0, .arr [.int .i64 0, .int .i64 0] 0 1)]⟩) (by simp) (fun a b hb => ?_) (fun a => ?_) y' x'.natAbs loopFuel (by simp [loopFuel]; omega)
    · have hb' : ¬ (b : Int) = 0 := by omega
      have hbn : ((b : Int) != 0) = true := by simpa using hb
      simp -implicitDefEqProofs [loopS_eq, c100L0, hb, hbn, natmod]
    · simp -implicitDefEqProofs [loopS_eq, c100L0]
  have post : ∀ (x' : Int) (y' : Nat), y' ≠ 0 → -4611686018427387904 ≤ x' → x' ≤ 4611686018427387904 → y' ≤ 4611686018427387904 → ((Nat.gcd x'.natAbs y' : Nat) : Int) ≠ 0 ∧ IntKind.i64.wrap (x'.tdiv (Nat.gcd x'.natAbs y' : Nat)) = (lowN x' y').1 ∧ IntKind.i64.wrap ((y' : Int).tdiv (Nat.gcd x'.natAbs y' : Nat)) = (lowN x' y').2 := by
    intro x' y' hy' hx1 hx2 hy2
    have hg : 0 < Nat.gcd x'.natAbs y' := Nat.gcd_pos_of_pos_right _ (by omega)
    have q1 := tdiv_gcd (g := (Nat.gcd x'.natAbs y' : Nat)) hx1 hx2 (by omega)
    have q2 := tdiv_gcd (x := (y' : Int)) (g := (Nat.gcd x'.natAbs y' : Nat)) (B := 4611686018427387904) (by omega) (by omega) (by omega)
    exact ⟨by omega, wrap64 (by omega) (by omega), wrap64 (by omega) (by omega)⟩
  unfold lowI
  by_cases c1 : y < 0
  · rw [if_pos c1]
    have m := main (-x) y.natAbs (by omega) (by omega) (by omega) (by omega)
    obtain ⟨p1, p2, p3⟩ := post (-x) y.natAbs (by omega) (by omega) (by omega) (by omega)
    have w1 : IntKind.i64.wrap (-x) = -x := wrap64 (by omega) (by omega)
    have w2 : IntKind.i64.wrap (-y) = -y := wrap64 (by omega) (by omega)
    have w3 : IntKind.i64.wrap x = x := wrap64 (by omega) (by omega)
    have ey : ((y.natAbs : Nat) : Int) = -y := by omega
    have ea : (((-x).natAbs : Nat) : Int) = max (-x) x := by omega
    rw [ey] at m p3
    rw [ea] at m
    rw [Int.neg_tdiv] at p2 p3
    generalize lowN (-x) y.natAbs = r at *
    generalize ((Nat.gcd (-x).natAbs y.natAbs : Nat) : Int) = g at *
    simp -implicitDefEqProofs [c100, c1, w1, w2, w3, max2, m, p1, p2, p3]
  · rw [if_neg c1]
    have m := main x y.natAbs (by omega) (by omega) (by omega) (by omega)
    obtain ⟨p1, p2, p3⟩ := post x y.natAbs (by omega) (by omega) (by omega) (by omega)
    have w1 : IntKind.i64.wrap (-x) = -x := wrap64 (by omega) (by omega)
    have ey : ((y.natAbs : Nat) : Int) = y := by omega
    have ea : ((x.natAbs : Nat) : Int) = max x (-x) := by omega
    rw [ey] at m p3
    rw [ea] at m
    generalize lowN x y.natAbs = r at *
    generalize ((Nat.gcd x.natAbs y.natAbs : Nat) : Int) = g at *
    simp -implicitDefEqProofs [c100, c1, w1, max2, m, p1, p2, p3]

theorem divisor154 {n : Nat} (hn : 1 ≤ n) (x y : Int) (h1 : -4611686018427387904 ≤ x) (h2 : x ≤ 4611686018427387904) (h3 : -4611686018427387904 ≤ y) (h4 : y ≤ 4611686018427387904) : RUN n 154 [iv x, iv y] = .ret (iv (Nat.gcd x.natAbs y.natAbs : Nat)) := by
  obtain ⟨d, rfl⟩ : ∃ d, n = d + 1 := ⟨n - 1, by omega⟩
  rw [RUN, call_eq fe154 _ rfl]
  have m : loopN (loopS (evFn F C0 G0 d) C0 G0 0 false [0, 1] c154L0) loopFuel ⟨[(0, iv (x.natAbs : Int)), (1, iv (y.natAbs : Int))], []⟩ = .ret (.exit 0, ⟨[(0, iv (Nat.gcd x.natAbs y.natAbs : Nat)), (1, iv 0), (14, .p (.bool false))], []⟩) := by
    refine gcd_loop (fun a b => ⟨[(0, iv (a : Int)), (1, iv (b : Int))], []⟩) (fun g => ⟨[(0, iv (g : Int)), (1, iv 0), (14, .p (.bool false))], []⟩) (by simp) (fun a b hb => ?_) (fun a => ?_) y.natAbs x.natAbs loopFuel (by simp [loopFuel]; omega)
    · have hb' : ¬ (b : Int) = 0 := by omega
      have hbn : ((b : Int) != 0) = true := by simpa using hb
      simp -implicitDefEqProofs [loopS_eq, c154L0, hb, hbn, natmod]
    · simp -implicitDefEqProofs [loopS_eq, c154L0]
  have w1 : IntKind.i64.wrap (-x) = -x := wrap64 (by omega) (by omega)
  have w2 : IntKind.i64.wrap (-y) = -y := wrap64 (by omega) (by omega)
  have ea : ((x.natAbs : Nat) : Int) = max x (-x) := by omega
  have ey : ((y.natAbs : Nat) : Int) = max y (-y) := by omega
  rw [ea, ey] at m
  generalize Nat.gcd x.natAbs y.natAbs = g at *
  simp -implicitDefEqProofs [c154, w1, w2, max2, m]

theorem lowest106 {n : Nat} (hn : 2 ≤ n) (x y : Int) (hy : y ≠ 0) (h1 : -4611686018427387904 ≤ x) (h2 : x ≤ 4611686018427387904) (h3 : -4611686018427387904 ≤ y) (h4 : y ≤ 4611686018427387904) : RUN n 106 [iv x, iv y] = .ret (.agg [iv (lowI x y).1, iv (lowI x y).2]) := by
  obtain ⟨d, rfl⟩ : ∃ d, n = d + 2 := ⟨n - 2, by omega⟩
  rw [RUN, call_eq fe106 _ rfl]
  have post : ∀ (x' : Int) (y' : Nat), y' ≠ 0 → -4611686018427387904 ≤ x' → x' ≤ 4611686018427387904 → y' ≤ 4611686018427387904 → ((Nat.gcd x'.natAbs y' : Nat) : Int) ≠ 0 ∧ IntKind.i64.wrap (x'.tdiv (Nat.gcd x'.natAbs y' : Nat)) = (lowN x' y').1 ∧ IntKind.i64.wrap ((y' : Int).tdiv (Nat.gcd x'.natAbs y' : Nat)) = (lowN x' y').2 := by
    intro x' y' hy' hx1 hx2 hy2
    have hg : 0 < Nat.gcd x'.natAbs y' := Nat.gcd_pos_of_pos_right _ (by omega)
    have q1 := tdiv_gcd (g := (Nat.gcd x'.natAbs y' : Nat)) hx1 hx2 (by omega)
    have q2 := tdiv_gcd (x := (y' : Int)) (g := (Nat.gcd x'.natAbs y' : Nat)) (B := 4611686018427387904) (by omega) (by omega) (by omega)
    exact ⟨by omega, wrap64 (by omega) (by omega), wrap64 (by omega) (by omega)⟩
  unfold lowI
  by_cases c1 : y < 0
  · rw [if_pos c1]
    have m := divisor154 (n := d + 1) (by omega) (-x) (-y) (by omega) (by omega) (by omega) (by omega)
    obtain ⟨p1, p2, p3⟩ := post (-x) y.natAbs (by omega) (by omega) (by omega) (by omega)
    have w1 : IntKind.i64.wrap (-x) = -x := wrap64 (by omega) (by omega)
    have w2 : IntKind.i64.wrap (-y) = -y := wrap64 (by omega) (by omega)
    have ey : ((y.natAbs : Nat) : Int) = -y := by omega
    rw [ey] at p3
    rw [Int.natAbs_neg y] at m
    rw [Int.neg_tdiv] at p2 p3
    generalize lowN (-x) y.natAbs = r at *
    generalize ((Nat.gcd (-x).natAbs y.natAbs : Nat) : Int) = g at *
    simp -implicitDefEqProofs [c106, c1, w1, w2, m, p1, p2, p3]
  · rw [if_neg c1]
    have m := divisor154 (n := d + 1) (by omega) x y (by omega) (by omega) (by omega) (by omega)
    obtain ⟨p1, p2, p3⟩ := post x y.natAbs (by omega) (by omega) (by omega) (by omega)
    have ey : ((y.natAbs : Nat) : Int) = y := by omega
    rw [ey] at p3
    generalize lowN x y.natAbs = r at *
    generalize ((Nat.gcd x.natAbs y.natAbs : Nat) : Int) = g at *
    simp -implicitDefEqProofs [c106, c1, m, p1, p2, p3]

/-! overlaps -/
def spanE (a b : Int) : Int := whenE (decide (a < 0) || decide (b ≤ a) || decide (1000000 < b)) 14
theorem spanE_zero {a b : Int} : spanE a b = 0 ↔ 0 ≤ a ∧ a < b ∧ b ≤ 1000000 := by
  unfold spanE
  rw [whenE_zero (by decide)]
  simp only [Bool.or_eq_false_iff, decide_eq_false_iff_not]
  omega
theorem span99 {n : Nat} (hn : 2 ≤ n) (a b : Int) : RUN n 99 [.agg [iv a, iv b]] = .ret (iv (spanE a b)) := by
  obtain ⟨d, rfl⟩ : ∃ d, n = d + 2 := ⟨n - 2, by omega⟩
  rw [RUN, call_eq fe99 _ rfl]
  have h1 := fun b e => when107 (n := d + 1) (by omega) b e
  by_cases c1 : a < 0
  · simp -implicitDefEqProofs [c99, h1, c1, spanE]
  · by_cases c2 : b ≤ a
    · simp -implicitDefEqProofs [c99, h1, c1, c2, spanE]
    · simp -implicitDefEqProofs [c99, h1, c1, c2, spanE]
theorem span20 {n : Nat} (hn : 2 ≤ n) (a b : Int) : RUN n 20 [.agg [iv a, iv b]] = .ret (iv (spanE a b)) := by
  obtain ⟨d, rfl⟩ : ∃ d, n = d + 2 := ⟨n - 2, by omega⟩
  rw [RUN, call_eq fe20 _ rfl]
  have h1 := fun b e => when55 (n := d + 1) (by omega) b e
  by_cases c1 : a < 0
  · simp -implicitDefEqProofs [c20, h1, c1, spanE]
  · by_cases c2 : b ≤ a
    · simp -implicitDefEqProofs [c20, h1, c1, c2, spanE]
    · simp -implicitDefEqProofs [c20, h1, c1, c2, spanE]

def twoE (a b c e : Int) : Int := firstE [spanE a b, spanE c e]
def bothI (a b c e : Int) : Int := min b e - max a c
def ovA (a b c e : Int) : Int × Int := if twoE a b c e = 0 then (if bothI a b c e ≤ 0 then (0, 0) else lowI (bothI a b c e) (b - a)) else (0, 0)
def ovE (a b c e : Int) : Int := if twoE a b c e = 0 then (if bothI a b c e ≤ 0 then 7 else 0) else twoE a b c e

theorem two_zero {a b c e : Int} (h : twoE a b c e = 0) : (0 ≤ a ∧ a < b ∧ b ≤ 1000000) ∧ 0 ≤ c ∧ c < e ∧ e ≤ 1000000 := by
  have h := firstE_zero.1 h
  exact ⟨spanE_zero.1 (h _ (by simp)), spanE_zero.1 (h _ (by simp))⟩

theorem low_self {x : Int} (h : 0 < x) : lowI x x = (1, 1) := by
  have hx : ((Nat.gcd x.natAbs x.natAbs : Nat) : Int) = x := by rw [Nat.gcd_self]; omega
  have hx2 : ((x.natAbs : Nat) : Int) = x := by omega
  unfold lowI lowN
  rw [if_neg (by omega), hx, hx2, Int.tdiv_self (by omega)]

theorem overlap17 {n : Nat} (hn : 4 ≤ n) (a b c e : Int) : RUN n 17 [.agg [iv a, iv b], .agg [iv c, iv e]] = .ret (.tup [.agg [iv (ovA a b c e).1, iv (ovA a b c e).2], iv (ovE a b c e)]) := by
  obtain ⟨d, rfl⟩ : ∃ d, n = d + 4 := ⟨n - 4, by omega⟩
  rw [RUN, call_eq fe17 _ rfl]
  have h1 := fun a b => span99 (n := d + 3) (by omega) a b
  have h2 := first98_2 (n := d + 3) (by omega) (spanE a b) (spanE c e)
  rw [show firstE [spanE a b, spanE c e] = twoE a b c e from rfl] at h2
  by_cases z0 : twoE a b c e = 0
  · obtain ⟨⟨a1, a2, a3⟩, c1, c2, c3⟩ := two_zero z0
    have w1 : IntKind.i64.wrap (min b e - max a c) = bothI a b c e := wrap64 (by omega) (by omega)
    have w2 : IntKind.i64.wrap (b - a) = b - a := wrap64 (by omega) (by omega)
    by_cases q : a = c ∧ b = e
    · obtain ⟨rfl, rfl⟩ := q
      have hb : bothI a b a b = b - a := by unfold bothI; omega
      have e1 : ovA a b a b = (1, 1) := by
        unfold ovA
        rw [if_pos z0, if_neg (by omega), hb]
        exact low_self (by omega)
      have e2 : ovE a b a b = 0 := by
        unfold ovE
        rw [if_pos z0, if_neg (by omega)]
      rw [e1, e2]
      simp -implicitDefEqProofs [c17, h1, h2, z0]
    · have hq : (a == c && b == e) = false := by
        rw [Bool.and_eq_false_iff]
        by_cases h : a = c
        · right; simpa using fun h2 => q ⟨h, h2⟩
        · left; simpa using h
      by_cases c0 : bothI a b c e ≤ 0
      · have e1 : ovA a b c e = (0, 0) := by simp [ovA, z0, c0]
        have e2 : ovE a b c e = 7 := by simp [ovE, z0, c0]
        rw [e1, e2]
        simp -implicitDefEqProofs [c17, h1, h2, z0, hq, max2, min2, w1, c0]
      · have e1 : ovA a b c e = lowI (bothI a b c e) (b - a) := by simp [ovA, z0, c0]
        have e2 : ovE a b c e = 0 := by simp [ovE, z0, c0]
        have hbb : bothI a b c e ≤ 1000000 := by unfold bothI; omega
        have h3 := lowest100 (n := d + 3) (by omega) (bothI a b c e) (b - a) (by omega) (by omega) (by omega) (by omega) (by omega)
        rw [e1, e2]
        simp -implicitDefEqProofs [c17, h1, h2, z0, hq, max2, min2, w1, w2, c0, h3]
  · have e1 : ovA a b c e = (0, 0) := by simp [ovA, z0]
    have e2 : ovE a b c e = twoE a b c e := by simp [ovE, z0]
    have hb : (twoE a b c e != 0) = true := by simpa using z0
    rw [e1, e2]
    simp -implicitDefEqProofs [c17, h1, h2, hb]

theorem overlap23 {n : Nat} (hn : 3 ≤ n) {a b c e : Int} (z0 : twoE a b c e = 0) : RUN n 23 [.agg [iv a, iv b], .agg [iv c, iv e]] = .ret (.tup [.agg [iv (ovA a b c e).1, iv (ovA a b c e).2], iv (ovE a b c e)]) := by
  obtain ⟨d, rfl⟩ : ∃ d, n = d + 3 := ⟨n - 3, by omega⟩
  rw [RUN, call_eq fe23 _ rfl]
  obtain ⟨⟨a1, a2, a3⟩, c1, c2, c3⟩ := two_zero z0
  have w1 : IntKind.i64.wrap (min b e - max a c) = bothI a b c e := wrap64 (by omega) (by omega)
  have w2 : IntKind.i64.wrap (b - a) = b - a := wrap64 (by omega) (by omega)
  by_cases c0 : bothI a b c e ≤ 0
  · have e1 : ovA a b c e = (0, 0) := by simp [ovA, z0, c0]
    have e2 : ovE a b c e = 7 := by simp [ovE, z0, c0]
    rw [e1, e2]
    simp -implicitDefEqProofs [c23, max2, min2, w1, c0]
  · have e1 : ovA a b c e = lowI (bothI a b c e) (b - a) := by simp [ovA, z0, c0]
    have e2 : ovE a b c e = 0 := by simp [ovE, z0, c0]
    have hbb : bothI a b c e ≤ 1000000 := by unfold bothI; omega
    have h3 := lowest106 (n := d + 2) (by omega) (bothI a b c e) (b - a) (by omega) (by omega) (by omega) (by omega) (by omega)
    rw [e1, e2]
    simp -implicitDefEqProofs [c23, max2, min2, w1, w2, c0, h3]
end Fw
