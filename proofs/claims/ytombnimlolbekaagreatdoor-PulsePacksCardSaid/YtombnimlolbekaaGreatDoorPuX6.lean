/- The cheapest set, by the reference. -/
import Derived.Test.YtombnimlolbekaaGreatDoorPuX5
set_option maxHeartbeats 8000000
namespace Fw
open Go
attribute [local irreducible] evCode evOps evOpsD evOper evOperD evOp evFn loopN T.All T.bind callPure callOp opsK opsDK restK seqK blockK loopS setK setQ giveK scalK gcK finish finS rfunK yldK yldB loopK

/-- the set that a number stands for -/
def selF (b : Nat) : Nat → List Int
  | 0 => []
  | i + 1 => if b / 2 ^ i % 2 = 1 then selF b i ++ [(i : Int)] else selF b i
theorem selF_in (b : Nat) : ∀ n, (∀ i ∈ selF b n, 0 ≤ i ∧ i < n) ∧ (selF b n).length ≤ n := by
  intro n
  induction n with
  | zero => exact ⟨fun i hi => by simp [selF] at hi, by simp [selF]⟩
  | succ n ih =>
    simp only [selF]
    split
    · refine ⟨fun i hi => ?_, by simp; exact ih.2⟩
      rcases List.mem_append.1 hi with h | h
      · have := ih.1 i h; omega
      · simp at h; omega
    · exact ⟨fun i hi => by have := ih.1 i hi; omega, by have := ih.2; omega⟩

def cst (l : List PackI) (s : List Int) : Int := cstF l s s.length
def betterB (l : List PackI) (s o : List Int) : Bool := decide (cst l s < cst l o) || (decide (cst l s = cst l o) && beforeB s o)
def accB (l : List PackI) (x : Int × Int) (s : List Int) (o : Option (List Int)) : Bool := fitB l s x && match o with
  | none => true
  | some o => betterB l s o
def bestF (l : List PackI) (x : Int × Int) : Nat → Option (List Int)
  | 0 => none
  | b + 1 => if accB l x (selF b l.length) (bestF l x b) = true then some (selF b l.length) else bestF l x b
def idF (l : List PackI) (x : Int × Int) : Nat → Nat
  | 0 => 0
  | b + 1 => if accB l x (selF b l.length) (bestF l x b) = true then idF l x b + 1 else idF l x b

theorem half_facts (b i : Nat) (hb : b < 1000000) : (((b / 2 ^ i : Nat) : Int).tmod 2 == 1) = decide (b / 2 ^ i % 2 = 1) ∧ IntKind.i64.wrap (((b / 2 ^ i : Nat) : Int).tdiv 2) = ((b / 2 ^ (i + 1) : Nat) : Int) := by
  have h0 : b / 2 ^ i ≤ b := Nat.div_le_self _ _
  have h2 : b / 2 ^ (i + 1) = b / 2 ^ i / 2 := by rw [Nat.pow_succ, Nat.div_div_eq_div_mul]
  rw [h2]
  generalize b / 2 ^ i = q at *
  constructor
  · have : (q : Int).tmod 2 = ((q % 2 : Nat) : Int) := by rw [Int.tmod_eq_emod_of_nonneg (by omega)]; omega
    rw [this, Bool.eq_iff_iff]
    simp
    omega
  · have : (q : Int).tdiv 2 = ((q / 2 : Nat) : Int) := by rw [Int.tdiv_eq_ediv_of_nonneg (by omega)]; omega
    rw [this]
    exact wrap64 (by omega) (by omega)

/-- the set of a number is written down -/
theorem sel_loop {d : Nat} (l : List PackI) (b : Nat) (hb : b < 1000000) (hl : l.length ≤ 8) (X Y Z Q : AVal) (id : Nat) (B : Sto) :
    loopN (loopS (evFn F C0 G0 d) C0 G0 0 false [0, 3, 7, 8, 9, 10, 12, 13, 14, 15] c85L1) loopFuel ⟨[(0, psl l), (3, .ptr 0 0 0), (7, X), (8, Y), (9, Z), (10, Q), (12, iv b), (13, .sl id 0 0 0), (14, iv b), (15, iv 0)], (id, .arr [] 0 1) :: B⟩ =
      .ret (.exit 4, ⟨[(0, psl l), (3, .ptr 0 0 0), (7, X), (8, Y), (9, Z), (10, Q), (12, iv b), (13, .sl id (selF b l.length).length 0 (selF b l.length).length), (14, iv (b / 2 ^ l.length : Nat)), (15, iv l.length), (35, .p (.bool false))], (id, .arr (pI (selF b l.length)) (selF b l.length).length 1) :: B⟩) := by
  let J : Nat → St := fun i => ⟨[(0, psl l), (3, .ptr 0 0 0), (7, X), (8, Y), (9, Z), (10, Q), (12, iv b), (13, .sl id (selF b i).length 0 (selF b i).length), (14, iv (b / 2 ^ i : Nat)), (15, iv i)], (id, .arr (pI (selF b i)) (selF b i).length 1) :: B⟩
  refine loop_run J l.length (by simp) (by simp [J, selF]) (fun i hi => ?_) ?_ (by simp [loopFuel]; omega)
  · have hlt' : (i : Int) < l.length := by omega
    obtain ⟨f1, f2⟩ := half_facts b i hb
    have hlen := (selF_in b i).2
    have hlim : (selF b i).length + 1 ≤ lim := by simp only [lim]; omega
    have hs : selF b (i + 1) = if b / 2 ^ i % 2 = 1 then selF b i ++ [(i : Int)] else selF b i := rfl
    generalize hq : ((b / 2 ^ i : Nat) : Int) = q at *
    by_cases hc : b / 2 ^ i % 2 = 1
    · rw [if_pos hc] at hs
      rw [decide_eq_true hc] at f1
      simp -implicitDefEqProofs [J, hq, loopS_eq, c85L1, hlt', f1, f2, hlim, hs, ← pI_snoc, wrap_succ (i := i) (by omega), -Int.natCast_ediv, -Int.natCast_pow]
    · rw [if_neg hc] at hs
      rw [decide_eq_false hc] at f1
      simp -implicitDefEqProofs [J, hq, loopS_eq, c85L1, hlt', f1, f2, hs, wrap_succ (i := i) (by omega), -Int.natCast_ediv, -Int.natCast_pow]
  · simp -implicitDefEqProofs [J, loopS_eq, c85L1]

theorem idF_pos (l : List PackI) (x : Int × Int) : ∀ b, (bestF l x b = none → idF l x b = 0) ∧ (∀ s, bestF l x b = some s → 0 < idF l x b) ∧ ∀ s, bestF l x b = some s → (∀ i ∈ s, 0 ≤ i ∧ i < l.length) ∧ s.length ≤ l.length := by
  intro b
  induction b with
  | zero => exact ⟨fun _ => rfl, fun s h => (by cases h), fun s h => (by cases h)⟩
  | succ b ih =>
    simp only [bestF, idF]
    split
    · exact ⟨fun h => (by cases h), fun s _ => (by omega), fun s h => (by cases h; exact selF_in b l.length)⟩
    · exact ih

def stB (l : List PackI) (x : Int × Int) (Q : AVal) (b : Nat) : St := match bestF l x b with
  | none => ⟨[(0, psl l), (3, .ptr 0 0 0), (7, .p .nils), (8, iv 0), (9, .p (.bool false)), (10, Q), (12, iv b)], [(0, .arr [.int .i64 x.1, .int .i64 x.2] 0 1)]⟩
  | some s => ⟨[(0, psl l), (3, .ptr 0 0 0), (7, .sl (idF l x b) s.length 0 s.length), (8, iv (cst l s)), (9, .p (.bool true)), (10, Q), (12, iv b)], [(idF l x b, .arr (pI s) s.length 1), (0, .arr [.int .i64 x.1, .int .i64 x.2] 0 1)]⟩

theorem cheap_round {d : Nat} {l : List PackI} (hp : PksOk l) (x : Int × Int) (m b : Nat) (hb : b < m) (hm : m ≤ 256) :
    ∃ st1, loopS (evFn F C0 G0 (d + 3)) C0 G0 0 true [0, 3, 7, 8, 9, 10, 12] c85L2 (stB l x (iv m) b) = .ret (.normal, st1) ∧ loopS (evFn F C0 G0 (d + 3)) C0 G0 0 true [0, 3, 7, 8, 9, 10, 12] c85L2 st1 = loopS (evFn F C0 G0 (d + 3)) C0 G0 0 true [0, 3, 7, 8, 9, 10, 12] c85L2 (stB l x (iv m) (b + 1)) := by
  have hfew := hp.few
  obtain ⟨i1, i2, i3⟩ := idF_pos l x b
  obtain ⟨r1, r2⟩ := selF_in b l.length
  have hin : InR l.length (selF b l.length) := r1
  have h1 := sum147 (n := d + 3) (by omega) hp hin (by omega)
  have h2 := fits84 (n := d + 3) (by omega) hp hin (by omega) x
  have hc : cstF l (selF b l.length) (selF b l.length).length = cst l (selF b l.length) := rfl
  rw [hc] at h1
  have hlt : (b : Int) < m := by omega
  have hb1 : bestF l x (b + 1) = if accB l x (selF b l.length) (bestF l x b) = true then some (selF b l.length) else bestF l x b := rfl
  have hd1 : idF l x (b + 1) = if accB l x (selF b l.length) (bestF l x b) = true then idF l x b + 1 else idF l x b := rfl
  have hw := wrap_succ (i := b) (by omega)
  have key := fun X Y Z id B => sel_loop (d := d + 3) l b (by omega) hfew X Y Z (iv m) id B
  generalize hS : selF b l.length = S at *
  cases hbest : bestF l x b with
  | none =>
    rw [hbest] at hb1 hd1
    have hid := i1 hbest
    rw [hid] at hd1
    have key := key (.p .nils) (iv 0) (.p (.bool false)) 1 [(0, .arr [.int .i64 x.1, .int .i64 x.2] 0 1)]
    cases hf : fitB l S x with
    | false =>
      rw [hf] at h2
      have ha : accB l x S none = false := by simp [accB, hf]
      rw [ha] at hb1
      refine ⟨⟨[(0, psl l), (3, .ptr 0 0 0), (7, .p .nils), (8, iv 0), (9, .p (.bool false)), (10, iv m), (12, iv (b + 1 : Nat))], [(1, .arr (pI S) S.length 1), (0, .arr [.int .i64 x.1, .int .i64 x.2] 0 1)]⟩, ?_, ?_⟩
      · simp -implicitDefEqProofs [stB, hbest, loopS_eq, c85L2, hlt]
        rw [key]
        simp -implicitDefEqProofs [h1, h2, hw]
      · simp only [stB, hb1]
        exact loopS_same rfl (by simp)
    | true =>
      rw [hf] at h2
      have ha : accB l x S none = true := by simp [accB, hf]
      rw [ha] at hb1 hd1
      refine ⟨⟨[(0, psl l), (3, .ptr 0 0 0), (7, .sl 1 S.length 0 S.length), (8, iv (cst l S)), (9, .p (.bool true)), (10, iv m), (12, iv (b + 1 : Nat))], [(1, .arr (pI S) S.length 1), (0, .arr [.int .i64 x.1, .int .i64 x.2] 0 1)]⟩, ?_, ?_⟩
      · simp -implicitDefEqProofs [stB, hbest, loopS_eq, c85L2, hlt]
        rw [key]
        simp -implicitDefEqProofs [h1, h2, hw]
      · simp only [stB, hb1, hd1, if_true, Nat.zero_add]
  | some s0 =>
    rw [hbest] at hb1 hd1
    have hid := i2 s0 hbest
    have hs0 := (i3 s0 hbest).2
    obtain ⟨q, hq⟩ : ∃ q, idF l x b = q + 1 := ⟨idF l x b - 1, by omega⟩
    rw [hq] at hd1
    have key := key (.sl (q + 1) s0.length 0 s0.length) (iv (cst l s0)) (.p (.bool true)) (q + 1 + 1) [(q + 1, .arr (pI s0) s0.length 1), (0, .arr [.int .i64 x.1, .int .i64 x.2] 0 1)]
    have h3 := before148 (n := d + 3) (by omega) S s0 (by omega)
    have hno : ∀ Z : Bool, accB l x S (some s0) = false → loopS (evFn F C0 G0 (d + 3)) C0 G0 0 true [0, 3, 7, 8, 9, 10, 12] c85L2 ⟨[(0, psl l), (3, .ptr 0 0 0), (7, .sl (q + 1) s0.length 0 s0.length), (8, iv (cst l s0)), (9, .p (.bool true)), (10, iv m), (12, iv (b + 1 : Nat))], [(q + 1 + 1, .arr (pI S) S.length 1), (q + 1, .arr (pI s0) s0.length 1), (0, .arr [.int .i64 x.1, .int .i64 x.2] 0 1)]⟩ = loopS (evFn F C0 G0 (d + 3)) C0 G0 0 true [0, 3, 7, 8, 9, 10, 12] c85L2 (stB l x (iv m) (b + 1)) := fun _ ha => by
      rw [ha] at hb1 hd1
      simp only [Bool.false_eq_true, if_false] at hb1 hd1
      simp only [stB, hb1, hd1]
      exact loopS_same rfl (by simp)
    have hyes : accB l x S (some s0) = true → loopS (evFn F C0 G0 (d + 3)) C0 G0 0 true [0, 3, 7, 8, 9, 10, 12] c85L2 ⟨[(0, psl l), (3, .ptr 0 0 0), (7, .sl (q + 1 + 1) S.length 0 S.length), (8, iv (cst l S)), (9, .p (.bool true)), (10, iv m), (12, iv (b + 1 : Nat))], [(q + 1 + 1, .arr (pI S) S.length 1), (q + 1, .arr (pI s0) s0.length 1), (0, .arr [.int .i64 x.1, .int .i64 x.2] 0 1)]⟩ = loopS (evFn F C0 G0 (d + 3)) C0 G0 0 true [0, 3, 7, 8, 9, 10, 12] c85L2 (stB l x (iv m) (b + 1)) := fun ha => by
      rw [ha] at hb1 hd1
      simp only [if_true] at hb1 hd1
      simp only [stB, hb1, hd1]
      exact loopS_same rfl (by simp)
    cases hf : fitB l S x with
    | false =>
      rw [hf] at h2
      refine ⟨_, ?_, hno true (by simp [accB, hf])⟩
      simp -implicitDefEqProofs [stB, hbest, hq, loopS_eq, c85L2, hlt]
      rw [key]
      simp -implicitDefEqProofs [h1, h2, hw]
    | true =>
      rw [hf] at h2
      by_cases c1 : cst l S < cst l s0
      · refine ⟨_, ?_, hyes (by simp [accB, hf, betterB, c1])⟩
        simp -implicitDefEqProofs [stB, hbest, hq, loopS_eq, c85L2, hlt]
        rw [key]
        simp -implicitDefEqProofs [h1, h2, hw, c1]
      · by_cases c2 : cst l S = cst l s0
        · have hce : (cst l S == cst l s0) = true := by simpa using c2
          cases hbf : beforeB S s0 with
          | true =>
            rw [hbf] at h3
            refine ⟨_, ?_, hyes (by simp [accB, hf, betterB, c2, hbf])⟩
            simp -implicitDefEqProofs [stB, hbest, hq, loopS_eq, c85L2, hlt]
            rw [key]
            simp -implicitDefEqProofs [h1, h2, hw, c1, hce, h3]
          | false =>
            rw [hbf] at h3
            refine ⟨_, ?_, hno true (by simp [accB, hf, betterB, c2, hbf])⟩
            simp -implicitDefEqProofs [stB, hbest, hq, loopS_eq, c85L2, hlt]
            rw [key]
            simp -implicitDefEqProofs [h1, h2, hw, c1, hce, h3]
        · have hce : (cst l S == cst l s0) = false := by simpa using c2
          refine ⟨_, ?_, hno true (by simp [accB, hf, betterB, c1, c2])⟩
          simp -implicitDefEqProofs [stB, hbest, hq, loopS_eq, c85L2, hlt]
          rw [key]
          simp -implicitDefEqProofs [h1, h2, hw, c1, hce]

theorem cheapest85 {n : Nat} (hn : 4 ≤ n) {l : List PackI} (hp : PksOk l) (x : Int × Int) : RUN n 85 [psl l, .agg [iv x.1, iv x.2]] = .ret (match bestF l x (2 ^ l.length) with
    | none => .tup [.p (.sl [] 0), iv 0, iv 18]
    | some s => .tup [.own (pI s) s.length 1, iv (cst l s), iv 0]) := by
  obtain ⟨d, rfl⟩ : ∃ d, n = d + 4 := ⟨n - 4, by omega⟩
  rw [RUN, call_eq fe85 _ rfl]
  have hfew := hp.few
  let T0 : Sto := [(0, .arr [.int .i64 x.1, .int .i64 x.2] 0 1)]
  have hpow : ∀ k, k ≤ 8 → 2 ^ k ≤ 256 := by decide
  let J : Nat → St := fun i => ⟨[(0, psl l), (3, .ptr 0 0 0), (7, .p .nils), (8, iv 0), (9, .p (.bool false)), (10, iv (2 ^ i : Nat)), (11, iv i)], T0⟩
  have key0 : ∀ st0 : St, st0 = ⟨[(0, psl l), (3, .ptr 0 0 0), (7, .p .nils), (8, iv 0), (9, .p (.bool false)), (10, iv 1), (11, iv 0)], T0⟩ → loopN (loopS (evFn F C0 G0 (d + 3)) C0 G0 0 false [0, 3, 7, 8, 9, 10, 11] c85L0) loopFuel st0 = .ret (.exit 0, ⟨(J l.length).env ++ [(21, .p (.bool false))], T0⟩) := by
    rintro st0 rfl
    refine loop_run J l.length (by simp) rfl (fun i hi => ?_) ?_ (by simp [loopFuel]; omega)
    · have hlt' : (i : Int) < l.length := by omega
      have h1 := hpow i (by omega)
      have h3 := hpow (i + 1) (by omega)
      have h2 : 2 * 2 ^ i = 2 ^ (i + 1) := by rw [Nat.pow_succ]; omega
      generalize hA : 2 ^ i = A at *
      generalize hB : 2 ^ (i + 1) = B at *
      have w : IntKind.i64.wrap (2 * (A : Int)) = (B : Int) := by rw [wrap64 (by omega) (by omega)]; omega
      simp -implicitDefEqProofs [J, hA, hB, loopS_eq, c85L0, hlt', w, wrap_succ (i := i) (by omega), -Int.natCast_pow]
    · simp -implicitDefEqProofs [J, loopS_eq, c85L0]
  have key0 := key0 _ rfl
  simp only [T0] at key0
  generalize hM : 2 ^ l.length = m at *
  have hm : m ≤ 256 := by rw [← hM]; exact hpow _ hfew
  have key1 : loopN (loopS (evFn F C0 G0 (d + 3)) C0 G0 0 true [0, 3, 7, 8, 9, 10, 12] c85L2) loopFuel (stB l x (iv m) 0) = .ret (.exit 2, ⟨(stB l x (iv m) m).env ++ [(28, .p (.bool false))], (stB l x (iv m) m).sto⟩) := by
    refine loop_run' (stB l x (iv m)) m (by simp) rfl (fun b hb => cheap_round hp x m b hb hm) ?_ (by simp [loopFuel]; omega)
    cases hbest : bestF l x m with
    | none => simp -implicitDefEqProofs [stB, hbest, loopS_eq, c85L2]
    | some s =>
      have hid := (idF_pos l x m).2.1 s hbest
      obtain ⟨q, hq⟩ : ∃ q, idF l x m = q + 1 := ⟨idF l x m - 1, by omega⟩
      simp -implicitDefEqProofs [stB, hbest, hq, loopS_eq, c85L2]
  have h0 : stB l x (iv m) 0 = ⟨[(0, psl l), (3, .ptr 0 0 0), (7, .p .nils), (8, iv 0), (9, .p (.bool false)), (10, iv m), (12, iv 0)], [(0, .arr [.int .i64 x.1, .int .i64 x.2] 0 1)]⟩ := rfl
  rw [h0] at key1
  simp -implicitDefEqProofs [c85]
  rw [key0]
  simp -implicitDefEqProofs [J, hM, -Int.natCast_pow]
  rw [key1]
  cases hbest : bestF l x m <;> simp -implicitDefEqProofs [stB, hbest]
end Fw
