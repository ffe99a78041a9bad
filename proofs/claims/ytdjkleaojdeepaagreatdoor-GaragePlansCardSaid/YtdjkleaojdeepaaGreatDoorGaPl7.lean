/- All orders of jobs by the reference. -/
import Derived.Test.YtdjkleaojdeepaaGreatDoorGaPl6
set_option maxHeartbeats 16000000
set_option maxRecDepth 8000
namespace Fw
open Go
attribute [local irreducible] evCode evOps evOpsD evOper evOperD evOp evFn loopN T.All T.bind callPure callOp opsK opsDK restK seqK blockK loopS setK setQ giveK scalK gcK finish finS rfunK yldK yldB loopK

def slO (o : List Int) : PVal := .sl (pI o) o.length
/-- the orders of the first choices -/
def accF (n k : Nat) (b : List Int) : Nat → List (List Int)
  | 0 => []
  | i + 1 => if b.contains (Int.ofNat i) = true then accF n k b i else accF n k b i ++ prmF n k (b ++ [Int.ofNat i])
def verF (n k : Nat) (b : List Int) : Nat → Nat
  | 0 => 0
  | i + 1 => if b.contains (Int.ofNat i) = true then verF n k b i else if (prmF n k (b ++ [Int.ofNat i])).length = 0 then verF n k b i else verF n k b i + 1
theorem accF_eq (n k : Nat) (b : List Int) : ∀ i, accF n k b i = (List.range i).flatMap fun (i : Nat) => if b.contains (Int.ofNat i) then [] else prmF n k (b ++ [Int.ofNat i]) := by
  intro i
  induction i with
  | zero => rfl
  | succ i ih =>
    rw [List.range_succ, List.flatMap_append, ← ih]
    simp only [accF, List.flatMap_cons, List.flatMap_nil, List.append_nil]
    split <;> simp
theorem prmF_len (n : Nat) (hn : n ≤ 5) : ∀ k b, (prmF n k b).length ≤ 5 ^ k := by
  intro k
  induction k with
  | zero => intro b; simp [prmF]
  | succ k ih =>
    intro b
    have key : ∀ i, (accF n k b i).length ≤ i * 5 ^ k := by
      intro i
      induction i with
      | zero => simp [accF]
      | succ i ih2 =>
        have := ih (b ++ [Int.ofNat i])
        simp only [accF]
        split
        · rw [Nat.succ_mul]; omega
        · rw [List.length_append, Nat.succ_mul]; omega
    have e : prmF n (k + 1) b = accF n k b n := by rw [accF_eq]; rfl
    rw [e]
    have h1 := key n
    have h2 : n * 5 ^ k ≤ 5 * 5 ^ k := Nat.mul_le_mul_right _ hn
    rw [Nat.pow_succ, Nat.mul_comm (5 ^ k) 5]
    omega
theorem orders_rec (n : Nat) (hn : n ≤ 5) : ∀ k b, b.length + k = n → ∀ d, k + 3 ≤ d → ∃ a, RUN d 120 [iv n, isl b] = .ret a ∧ disownR a = .p (.sl ((prmF n k b).map slO) (prmF n k b).length) := by
  intro k
  induction k with
  | zero =>
    intro b hb d hd
    obtain ⟨d, rfl⟩ : ∃ q, d = q + 3 := ⟨d - 3, by omega⟩
    rw [RUN, call_eq fe120 _ rfl]
    have he : (b.length : Int) = n := by omega
    refine ⟨.p (.sl [.sl (pI b) b.length] 1), ?_, rfl⟩
    simp only [isl]
    generalize pI b = B at *
    simp -implicitDefEqProofs [c120, he]
  | succ k ih =>
    intro b hb d hd
    obtain ⟨d, rfl⟩ : ∃ q, d = q + (k + 3) + 1 := ⟨d - (k + 4), by omega⟩
    rw [RUN, call_eq fe120 _ rfl]
    have he : ((b.length : Int) == n) = false := by simp; omega
    have he2 : ¬ (b.length : Int) = n := by omega
    have e1 : prmF n (k + 1) b = accF n k b n := by rw [accF_eq]; rfl
    rw [e1]
    let inv : Nat → St := fun i => ⟨[(0, iv n), (1, isl b), (5, .sl 0 (verF n k b i) 0 (accF n k b i).length), (6, iv i)], [(0, .arr ((accF n k b i).map slO) (verF n k b i) 1)]⟩
    have key : loopN (loopS (evFn F C0 G0 (d + (k + 3))) C0 G0 0 true [0, 1, 5, 6] c120L0) loopFuel (inv 0) = .ret (.exit 0, ⟨(inv n).env ++ [(15, .p (.bool false))], (inv n).sto⟩) := by
      rw [loop_run' inv n (e := .exit 0) (st' := ⟨(inv n).env ++ [(15, .p (.bool false))], (inv n).sto⟩) (by simp)]
      · rfl
      · intro i hi
        have hii : (i : Int) < n := by omega
        have wi := wrap_succ (i := i) (by omega)
        have kh := has73 (n := d + (k + 3)) (by omega) b (by omega) (i : Int)
        have hce : b.contains (Int.ofNat i) = decide ((i : Int) ∈ b) := List.contains_eq_mem _ _
        obtain ⟨a, ka, hda⟩ := ih (b ++ [Int.ofNat i]) (by simp; omega) (d + (k + 3)) (by omega)
        have hal : (accF n k b i).length ≤ 5 ^ 6 := by
          have h1 : ∀ j, j ≤ n → (accF n k b j).length ≤ j * 5 ^ k := by
            intro j
            induction j with
            | zero => intro _; simp [accF]
            | succ j ih2 =>
              intro hj
              have ih2 := ih2 (by omega)
              have := prmF_len n hn k (b ++ [Int.ofNat j])
              simp only [accF]
              split
              · rw [Nat.succ_mul]; omega
              · rw [List.length_append, Nat.succ_mul]; omega
          have h2 := h1 i (by omega)
          have h3 : i * 5 ^ k ≤ 5 * 5 ^ k := Nat.mul_le_mul_right _ (by omega)
          have h4 : 5 ^ k ≤ 5 ^ 5 := Nat.pow_le_pow_right (by omega) (by omega)
          omega
        have hpl : (prmF n k (b ++ [Int.ofNat i])).length ≤ 5 ^ 5 := Nat.le_trans (prmF_len n hn k _) (Nat.pow_le_pow_right (by omega) (by omega))
        have hlim1 : (prmF n k (b ++ [Int.ofNat i])).length ≤ lim := by simp only [lim]; omega
        have hlim2 : (accF n k b i).length + (prmF n k (b ++ [Int.ofNat i])).length ≤ lim := by simp only [lim]; omega
        have hlim0 : (accF n k b i).length ≤ lim := by simp only [lim]; omega
        have hb1 : (b ++ [Int.ofNat i]).length = b.length + 1 := by simp
        have hb2 : pI (b ++ [Int.ofNat i]) = pI b ++ [.int .i64 (i : Int)] := by simp [pI]
        have hB := pI_len b
        have hlb : b.length ≤ lim := by simp only [lim]; omega
        have hlb1 : b.length + 1 ≤ lim := by simp only [lim]; omega
        have hm1 : ((prmF n k (b ++ [Int.ofNat i])).map slO).length = (prmF n k (b ++ [Int.ofNat i])).length := by simp
        have hm2 : ((accF n k b i).map slO).length = (accF n k b i).length := by simp
        simp only [isl, hb1, hb2] at ka
        simp only [inv, accF, verF, hce]
        by_cases hc : (i : Int) ∈ b
        · have hcd : decide ((i : Int) ∈ b) = true := by simpa using hc
          rw [hcd] at kh
          simp only [hcd, if_true]
          simp only [isl] at *
          generalize (accF n k b i).map slO = AC at *
          generalize (accF n k b i).length = z at *
          generalize pI b = B at *
          refine ⟨?_, ?h1, ?h2⟩
          case h1 =>
            simp -implicitDefEqProofs [loopS_eq, c120L0, hii, kh, wi]
            exact rfl
          case h2 => exact loopS_same (by simp) (by simp)
        · have hcd : decide ((i : Int) ∈ b) = false := by simpa using hc
          rw [hcd] at kh
          simp only [hcd, Bool.false_eq_true, if_false, List.map_append, List.length_append]
          generalize (prmF n k (b ++ [Int.ofNat i])).map slO = PM at *
          generalize (prmF n k (b ++ [Int.ofNat i])).length = y at *
          simp only [isl] at *
          generalize (accF n k b i).map slO = AC at *
          generalize (accF n k b i).length = z at *
          have hne : b ++ [Int.ofNat i] ≠ [] := by simp
          by_cases hb0 : b.length = 0
          · have hbn : b = [] := List.eq_nil_of_length_eq_zero hb0
            subst hbn
            have hl1 : 1 ≤ lim := by decide
            simp only [pI, List.map_nil, List.length_nil, List.nil_append, Nat.zero_add] at *
            by_cases hy : y = 0
            · subst hy
              have hPM : PM = [] := List.eq_nil_of_length_eq_zero hm1
              subst hPM
              simp only [if_true, List.append_nil, Nat.add_zero]
              refine ⟨?_, ?h1, ?h2⟩
              case h1 =>
                simp -implicitDefEqProofs [loopS_eq, c120L0, hii, kh, hl1, ka, hda, hm2, hlim0, wi]
                exact rfl
              case h2 => exact loopS_same (by simp) (by simp)
            · simp only [hy, if_false]
              refine ⟨?_, ?h1, ?h2⟩
              case h1 =>
                simp -implicitDefEqProofs [loopS_eq, c120L0, hii, kh, hl1, ka, hda, hm1, hm2, hy, hlim2, wi]
                exact rfl
              case h2 => exact loopS_same (by simp) (by simp)
          · generalize pI b = B at *
            by_cases hy : y = 0
            · subst hy
              have hPM : PM = [] := List.eq_nil_of_length_eq_zero hm1
              subst hPM
              simp only [if_true, List.append_nil, Nat.add_zero]
              refine ⟨?_, ?h1, ?h2⟩
              case h1 =>
                simp -implicitDefEqProofs [loopS_eq, c120L0, hii, kh, hB, hb0, hlb, hlb1, ka, hda, hm2, hlim0, wi]
                exact rfl
              case h2 => exact loopS_same (by simp) (by simp)
            · simp only [hy, if_false]
              refine ⟨?_, ?h1, ?h2⟩
              case h1 =>
                simp -implicitDefEqProofs [loopS_eq, c120L0, hii, kh, hB, hb0, hlb, hlb1, ka, hda, hm1, hm2, hy, hlim2, wi]
                exact rfl
              case h2 => exact loopS_same (by simp) (by simp)
      · simp -implicitDefEqProofs [loopS_eq, c120L0, inv]
      · simp [loopFuel]; omega
    have hm2 : ((accF n k b n).map slO).length = (accF n k b n).length := by simp
    refine ⟨.own ((accF n k b n).map slO) (accF n k b n).length 1, ?_, rfl⟩
    simp only [inv, isl] at key ⊢
    generalize (accF n k b n).map slO = AC at *
    generalize (accF n k b n).length = z at *
    generalize pI b = B at *
    simp only [Int.natCast_zero, accF, verF, List.map_nil, List.length_nil] at key
    simp -implicitDefEqProofs [c120, he]
    rw [show loopN _ _ _ = _ from key]
    simp -implicitDefEqProofs [hm2]
theorem orders120 {n : Nat} (h : n ≤ 5) {d : Nat} (hd : n + 3 ≤ d) : ∃ a, RUN d 120 [iv n, .p (.sl [] 0)] = .ret a ∧ disownR a = .p (.sl ((prm n).map slO) (prm n).length) :=
  orders_rec n h n [] (by simp) d hd
end Fw
