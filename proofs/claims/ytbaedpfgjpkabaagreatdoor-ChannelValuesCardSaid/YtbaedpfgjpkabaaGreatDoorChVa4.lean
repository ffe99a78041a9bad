/- The spans of values that are clipped: the reference's. -/
import Derived.Test.YtbaedpfgjpkabaaGreatDoorChVa3
set_option maxHeartbeats 16000000
namespace Fw
open Go
attribute [local irreducible] evCode evOps evOpsD evOper evOperD evOp evFn loopN T.All T.bind callPure callOp opsK opsDK restK seqK blockK loopS setK setQ giveK scalK gcK finish finS rfunK yldK yldB loopK

def eD (l : List ValI) (m i : Nat) : Env := [(0, vsl l), (3, .sl 0 m 0 m), (4, iv i)]
theorem round62 {d : Nat} (l : List ValI) (hl : l.length ≤ 5000) (i : Nat) (hi : i < l.length) (out : List (Int × Int)) (ho : out.length ≤ i) :
    ∃ st1, loopS (evFn F C0 G0 d) C0 G0 0 false [0, 3, 4] c62L0 ⟨eD l out.length i, [(0, .arr (cI out) out.length 2)]⟩ = .ret (.normal, st1) ∧ loopS (evFn F C0 G0 d) C0 G0 0 false [0, 3, 4] c62L0 st1 = loopS (evFn F C0 G0 d) C0 G0 0 false [0, 3, 4] c62L0 ⟨eD l (if clp l[i] = true then cl1 out i else out).length (i + 1), [(0, .arr (cI (if clp l[i] = true then cl1 out i else out)) (if clp l[i] = true then cl1 out i else out).length 2)]⟩ := by
  have hR := vR_len l
  have wi := wrap_succ (i := i) (by omega)
  have hlt : i * 4 < l.length * 4 := by omega
  have hlt1 : i * 4 + 1 < l.length * 4 := by omega
  have hlt2 : i * 4 + 2 < l.length * 4 := by omega
  have hlt3 : i * 4 + 3 < l.length * 4 := by omega
  have hlt4 : i * 4 + 4 ≤ l.length * 4 := by omega
  have hdr := rowC_drop vc_len l i hi
  have hdr1 : (rowC vc l).drop (i * 4 + 1) = [.int .i64 l[i].high, .bool l[i].under, .bool l[i].over] ++ rowC vc (l.drop (i + 1)) := by
    rw [← List.drop_drop, hdr]; rfl
  have hdr2 : (rowC vc l).drop (i * 4 + 2) = [.bool l[i].under, .bool l[i].over] ++ rowC vc (l.drop (i + 1)) := by
    rw [← List.drop_drop, hdr]; rfl
  have hdr3 : (rowC vc l).drop (i * 4 + 3) = [.bool l[i].over] ++ rowC vc (l.drop (i + 1)) := by
    rw [← List.drop_drop, hdr]; rfl
  have hlim : out.length + 1 ≤ lim := by simp only [lim]; omega
  have hcl : (cI out).length = out.length * 2 := cI_length out
  have wo := wrap64 (n := (out.length : Int) - 1) (by omega) (by omega)
  simp only [eD]
  generalize hA : rowC vc l = A at *
  generalize rowC vc (l.drop (i + 1)) = R2 at *
  generalize l[i] = v at *
  obtain ⟨a, b, u, o⟩ := v
  simp only [vc] at hdr hdr1 hdr2 hdr3
  cases hc : clp ⟨a, b, u, o⟩ with
  | false =>
    simp only [Bool.false_eq_true, if_false]
    cases u <;> cases o <;> simp [clp] at hc
    refine ⟨?_, ?h1, ?h2⟩
    case h1 =>
      simp -implicitDefEqProofs [loopS_eq, c62L0, hi, hA, hR, hlt, hdr, wi]
      exact rfl
    case h2 => simp
  | true =>
    simp only [if_true]
    by_cases h0 : out = []
    · subst h0
      have e1 : cl1 [] i = [((i : Int), (i : Int) + 1)] := by simp [cl1]
      have e2 : cI [((i : Int), (i : Int) + 1)] = [.int .i64 i, .int .i64 ((i : Int) + 1)] := rfl
      have e3 : cI ([] : List (Int × Int)) = [] := rfl
      have vm : IntKind.i64.wrap (-1) = -1 := by decide
      rw [e1, e2, e3]
      have hlim1 : 1 ≤ lim := by decide
      cases u <;> cases o <;> simp [clp] at hc
      all_goals
        refine ⟨?_, ?_, ?_⟩
        case refine_2 =>
          simp -implicitDefEqProofs [loopS_eq, c62L0, hi, hA, hR, hlt, hdr, wi, hlim1]
          exact rfl
        case refine_3 => simp
    · obtain ⟨P, x, hP⟩ : ∃ P x, out = P ++ [x] := ⟨out.dropLast, out.getLast h0, (List.dropLast_concat_getLast _).symm⟩
      obtain ⟨xa, xb⟩ := x
      have hol : out.length = P.length + 1 := by rw [hP]; simp
      obtain ⟨c1, c2, c3⟩ := last_cells P xa xb ((i : Int) + 1)
      rw [← hP] at c1 c2 c3
      have hlast : out.getLastD (0, 0) = (xa, xb) := by rw [hP]; simp
      have hdl : out.dropLast = P := by rw [hP]; simp
      have t1 : ((out.length : Int) - 1) = P.length := by omega
      have t0 : out.length - 1 = P.length := by omega
      have q0 : (0 : Int) < (out.length : Int) := by omega
      have q00 : 0 < out.length := by omega
      have q1 : (0 : Int) ≤ (P.length : Int) := by omega
      have q2 : (P.length : Int) < (out.length : Int) := by omega
      have q3 : P.length * 2 + 1 < out.length * 2 := by omega
      have q4 : P.length * 2 + 1 + 1 ≤ out.length * 2 := by omega
      rw [t1] at wo
      have c2g : ∀ q : P.length * 2 + 1 < (cI out).length, (cI out)[P.length * 2 + 1]'q = .int .i64 xb := fun q => by
        rw [List.getElem?_eq_getElem q] at c2; exact Option.some.inj c2
      by_cases hx : xb = (i : Int)
      · have e1 : cl1 out i = P ++ [(xa, (i : Int) + 1)] := by
          unfold cl1; rw [hlast, hdl, if_pos ⟨h0, hx⟩]
        have e2 : (P ++ [(xa, (i : Int) + 1)]).length = out.length := by rw [hol]; simp
        rw [e1, e2, ← c3]
        subst hx
        generalize cI out = C at *
        cases u <;> cases o <;> simp [clp] at hc
        all_goals
          refine ⟨?_, ?_, ?_⟩
          case refine_2 =>
            simp -implicitDefEqProofs [loopS_eq, c62L0, hi, hA, hR, hlt, hdr, wi, t1, wo, q00, q1, q2, q3, q4, c2g, hcl]
            exact rfl
          case refine_3 => simp
      · have e1 : cl1 out i = out ++ [((i : Int), (i : Int) + 1)] := by
          unfold cl1; rw [hlast, if_neg (fun h => hx h.2)]
        have e2 : (out ++ [((i : Int), (i : Int) + 1)]).length = out.length + 1 := by simp
        have e3 : cI (out ++ [((i : Int), (i : Int) + 1)]) = cI out ++ [.int .i64 i, .int .i64 ((i : Int) + 1)] := by rw [cI_append]; rfl
        rw [e1, e2, e3]
        have hxb : (xb == (i : Int)) = false := by simpa using hx
        generalize cI out = C at *
        cases u <;> cases o <;> simp [clp] at hc
        all_goals
          refine ⟨?_, ?_, ?_⟩
          case refine_2 =>
            simp -implicitDefEqProofs [loopS_eq, c62L0, hi, hA, hR, hlt, hdr, wi, t1, wo, q00, q1, q2, q3, c2g, hcl, hxb, hlim]
            exact rfl
          case refine_3 => simp

theorem clipped62 {n : Nat} (hn : 1 ≤ n) (l : List ValI) (hl : l.length ≤ 5000) :
    RUN n 62 [vsl l] = .ret (.own (cI (clO l l.length)) (clO l l.length).length 2) := by
  obtain ⟨d, rfl⟩ : ∃ d, n = d + 1 := ⟨n - 1, by omega⟩
  rw [RUN, call_eq fe62 _ rfl]
  have hcl : ∀ i, (cI (clO l i)).length = (clO l i).length * 2 := fun i => cI_length _
  have hloop : loopN (loopS (evFn F C0 G0 d) C0 G0 0 false [0, 3, 4] c62L0) loopFuel ⟨eD l 0 0, [(0, .arr [] 0 2)]⟩ = .ret (.exit 0, ⟨eD l (clO l l.length).length l.length ++ [(9, .p (.bool false))], [(0, .arr (cI (clO l l.length)) (clO l l.length).length 2)]⟩) := by
    refine loop_run' (fun i => ⟨eD l (clO l i).length i, [(0, .arr (cI (clO l i)) (clO l i).length 2)]⟩) l.length (by simp) rfl ?_ ?_ (by simp [loopFuel]; omega)
    · intro i hi
      have := round62 (d := d) l hl i hi (clO l i) (clO_len l i)
      have hg : l.getD i zV = l[i] := by simp [List.getD_eq_getElem?_getD, List.getElem?_eq_getElem hi]
      have hs : clO l (i + 1) = if clp l[i] = true then cl1 (clO l i) i else clO l i := by simp only [clO, hg]
      simp only [hs]
      exact this
    · simp only [eD]
      generalize rowC vc l = A at *
      simp -implicitDefEqProofs [loopS_eq, c62L0]
  simp only [eD, iv, Int.natCast_zero] at hloop
  have hc := hcl l.length
  generalize clO l l.length = O at *
  generalize cI O = CO at *
  simp -implicitDefEqProofs [c62]
  rw [hloop]
  simp -implicitDefEqProofs [hc]
end Fw
