/- A line that has a form, read by the chapter. -/
import Derived.Test.YtfkacogfieiccaaGreatDoorBaS1
import Derived.Test.YtfkacogfieiccaaGreatDoorBaS2
import Derived.Test.YtfkacogfieiccaaGreatDoorBaN1
set_option maxHeartbeats 8000000
namespace Fw
open Go
attribute [local irreducible] evCode evOps evOpsD evOper evOperD evOp evFn loopN T.All T.bind callPure callOp opsK opsDK restK seqK blockK loopS setK setQ giveK scalK gcK finish finS rfunK yldK yldB loopK

def rdP (w : List UInt8) (k : Nat) (A : List UInt8) : Option (List Int) := match splitS 32 A with
  | w0 :: r => if w0 = w ∧ r.length = k ∧ r.all digOk = true then some (r.map digV) else none
  | [] => none
def formW : Nat → List UInt8
  | 0 => wallW
  | 1 => fricW
  | 2 => brakeW
  | _ => pullW
def formK : Nat → Nat
  | 0 => 1
  | 1 => 2
  | 2 => 2
  | _ => 1
def lineQ (i : Nat) (A : List UInt8) : Option (List Int) := rdP (formW i) (formK i) A
theorem rdP_len {w : List UInt8} {k : Nat} {A : List UInt8} {x : List Int} (h : rdP w k A = some x) : x.length = k := by
  unfold rdP at h
  split at h
  · split at h
    · rename_i hc
      cases h
      simp [hc.2.1]
    · cases h
  · cases h

def digW (r : List (List UInt8)) (i : Nat) : Int := if digOk (r.getD i []) = true then 0 else 1
theorem digW_all {r : List (List UInt8)} (h : firstE ((List.range r.length).map (digW r)) = 0) : r.all digOk = true := by
  rw [List.all_eq_true]
  intro x hx
  obtain ⟨i, hi, rfl⟩ := List.getElem_of_mem hx
  have := all_zero h i hi
  have hg : r.getD i [] = r[i] := by simp [List.getD_eq_getElem?_getD, List.getElem?_eq_getElem hi]
  simp only [digW, hg] at this
  by_cases c : digOk r[i] = true
  · exact c
  · rw [if_neg c] at this; exact absurd this (by decide)
theorem digW_not {r : List (List UInt8)} {j : Nat} (hj : j < r.length) (h : digW r j ≠ 0) : r.all digOk = false := by
  have hg : r.getD j [] = r[j] := by simp [List.getD_eq_getElem?_getD, List.getElem?_eq_getElem hj]
  simp only [digW, hg] at h
  cases c : r.all digOk with
  | false => rfl
  | true => exact absurd (by rw [if_pos (List.all_eq_true.1 c _ (List.getElem_mem hj))]) h

theorem splitS_small (c : UInt8) : ∀ l : List UInt8, ∀ x ∈ splitS c l, x.length ≤ l.length := by
  intro l
  induction l with
  | nil => intro x hx; simp [splitS] at hx; subst hx; simp
  | cons b r ih =>
    intro x hx
    simp only [splitS] at hx
    split at hx
    · rcases List.mem_cons.1 hx with e | e
      · subst e; simp
      · have := ih x e; simp; omega
    · split at hx
      · simp at hx; subst hx; simp
      · rename_i w q e
        rcases List.mem_cons.1 hx with e2 | e2
        · subst e2
          have := ih w (by rw [e]; simp)
          simp; omega
        · have := ih x (by rw [e]; simp [e2])
          simp; omega

theorem read_bad {n : Nat} (hn : 6 ≤ n) (w : List UInt8) (k : Int) (line : List UInt8) (hl : line.length < 100000) (h : ¬ line.drop (line.length - 1) = [10]) : RUN n 149 [.agg [sv w, iv k], sv line] = .ret (.tup [.p (.sl [] 0), .p (.bool false)]) := by
  obtain ⟨d, rfl⟩ : ∃ d, n = d + 6 := ⟨n - 6, by omega⟩
  rw [RUN, call_eq fe149 _ rfl]
  have h1 := cut174 (n := d + 5) (by omega) line 10 (by omega)
  rw [if_neg h] at h1
  have h2 := split175 (n := d + 5) (by omega) line 32 (by omega)
  simp -implicitDefEqProofs [c149, h1, h2]

theorem read_ok {n : Nat} (hn : 6 ≤ n) (w : List UInt8) (k : Nat) (hk : k < 100) (line : List UInt8) (hl : line.length < 100000) (h : line.drop (line.length - 1) = [10]) :
    RUN n 149 [.agg [sv w, iv k], sv line] = .ret (match rdP w k (line.take (line.length - 1)) with
      | some x => .tup [.own (pI x) x.length 1, .p (.bool true)]
      | none => .tup [.p (.sl [] 0), .p (.bool false)]) := by
  obtain ⟨d, rfl⟩ : ∃ d, n = d + 6 := ⟨n - 6, by omega⟩
  rw [RUN, call_eq fe149 _ rfl]
  have h1 := cut174 (n := d + 5) (by omega) line 10 (by omega)
  rw [if_pos h] at h1
  have hA : (line.take (line.length - 1)).length < 100000 := by simp; omega
  generalize line.take (line.length - 1) = A at *
  have h2 := split175 (n := d + 5) (by omega) A 32 (by omega)
  have hsm := splitS_small 32 A
  have hln := splitS_length 32 A
  have hcl : A.count 32 ≤ A.length := List.count_le_length
  unfold rdP
  cases hs : splitS 32 A with
  | nil => exact absurd hs (splitS_ne 32 A)
  | cons w0 r =>
    rw [hs] at h2 hsm hln
    simp only [List.length_cons] at hln
    have hp : pStr (w0 :: r) = .str w0 :: pStr r := rfl
    rw [hp] at h2
    simp only [List.length_cons] at h2
    simp only
    have hwk : IntKind.i64.wrap ((k : Int) + 1) = (k : Int) + 1 := wrap64 (by omega) (by omega)
    by_cases c1 : w0 = w
    · subst c1
      have b1 : (w0 == w0) = true := by simp
      by_cases c2 : r.length = k
      · subst c2
        have hlen1 : (1 : Int) ≤ (r.length : Int) + 1 := by omega
        have htl : (pStr r).take r.length = pStr r := List.take_of_length_le (by simp)
        let B : Obj := .arr [.str w0, .int .i64 r.length] 0 1
        let inv : Nat → St := fun i => ⟨[(9, .sl 1 i 0 i), (40, .p (.sl (pStr r) r.length)), (41, iv r.length), (42, iv i)], [(1, .arr (pI ((r.map digV).take i)) i 1), (0, B)]⟩
        have key := loop_firstR (step := loopS (evFn F C0 G0 (d + 5)) C0 G0 0 false [9, 40, 41, 42] c149L0) inv (digW r) r.length (.exit 0, ⟨(inv r.length).env ++ [(43, .p (.bool false))], (inv r.length).sto⟩) (fun _ st => st.env = [(4, .p .nils), (5, .p (.bool false))])
          (st0 := ⟨[(9, .sl 1 0 0 0), (40, .p (.sl (pStr r) r.length)), (41, iv r.length), (42, iv 0)], [(1, .arr [] 0 1), (0, B)]⟩) rfl (fun i hi => by
            have hlt' : (i : Int) < r.length := by omega
            have hlim : i + 1 ≤ lim := by simp only [lim]; omega
            have hg : r.getD i [] = r[i] := by simp [List.getD_eq_getElem?_getD, List.getElem?_eq_getElem hi]
            have hgo : r[i]? = some r[i] := List.getElem?_eq_getElem hi
            have hx := hsm r[i] (List.mem_cons_of_mem _ (List.getElem_mem hi))
            have hin := integer176 (n := d + 5) (by omega) r[i] (by omega)
            have hei : digW r i = if digOk r[i] = true then 0 else 1 := by simp only [digW, hg]
            have hto : ((r.map digV).take i).length = i := by simp; omega
            have ht : pI ((r.map digV).take (i + 1)) = pI ((r.map digV).take i) ++ [.int .i64 (digV r[i])] := by
              rw [pI_snoc]; congr 1; rw [List.take_add_one]; simp [hi]
            rw [hei]
            cases c : digOk r[i] with
            | true =>
              have hv := intV_ok c
              rw [c, hv] at hin
              refine ⟨fun _ => ⟨?_, ?h1, ?h2⟩, fun h => absurd (by simp) h⟩
              case h1 =>
                simp -implicitDefEqProofs [inv, B, loopS_eq, c149L0, hi, hlt', hlim, hto, hin, -List.map_take, wrap_succ (i := i) (by omega)]
                exact rfl
              case h2 => simp [inv, B, ht, -List.map_take]
            | false =>
              rw [c] at hin
              refine ⟨fun h => absurd h (by simp), fun _ => ⟨?_, ?h3, ?h4⟩⟩
              case h3 =>
                simp -implicitDefEqProofs [inv, B, loopS_eq, c149L0, hi, hlt', hin, -List.map_take]
                exact rfl
              case h4 => rfl) (by simp -implicitDefEqProofs [inv, B, loopS_eq, c149L0]) (by simp) (fuel := loopFuel) (by simp [loopFuel]; omega)
        simp only [B] at key
        have htk : (r.map digV).take r.length = r.map digV := List.take_of_length_le (by simp)
        rcases key with ⟨k1, k2⟩ | ⟨j, st, hj, k1, kr, k2, k3, _⟩
        · rw [if_pos ⟨rfl, rfl, digW_all k2⟩]
          simp -implicitDefEqProofs [c149, h1, h2, hwk, hlen1, htl, strBin]
          rw [k1]
          simp -implicitDefEqProofs [inv, B, htk, -List.map_take]
        · have hno := digW_not hj k3
          rw [if_neg (fun h => by rw [hno] at h; exact absurd h.2.2 (by decide))]
          obtain ⟨env, sto⟩ := st
          simp only at kr
          subst kr
          simp -implicitDefEqProofs [c149, h1, h2, hwk, hlen1, htl, strBin]
          rw [k1]
          simp -implicitDefEqProofs
      · have b2 : ((r.length : Int) + 1 != (k : Int) + 1) = true := by simp; omega
        rw [if_neg (fun h => c2 h.2.1)]
        simp -implicitDefEqProofs [c149, h1, h2, hwk, b2, strBin]
    · have b1 : (w0 == w) = false := by simpa using c1
      rw [if_neg (fun h => c1 h.1)]
      simp -implicitDefEqProofs [c149, h1, h2, b1, strBin]
end Fw
