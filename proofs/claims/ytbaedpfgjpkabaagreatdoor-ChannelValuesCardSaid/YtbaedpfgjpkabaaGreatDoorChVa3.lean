/- The spans of values that are clipped: the program's and the reference's. -/
import Derived.Test.YtbaedpfgjpkabaaGreatDoorChVa2
set_option maxHeartbeats 16000000
namespace Fw
open Go
attribute [local irreducible] evCode evOps evOpsD evOper evOperD evOp evFn loopN T.All T.bind callPure callOp opsK opsDK restK seqK blockK loopS setK setQ giveK scalK gcK finish finS rfunK yldK yldB loopK

def clp (v : ValI) : Bool := v.under || v.over
/-- one more value that is clipped -/
def cl1 (out : List (Int × Int)) (i : Nat) : List (Int × Int) := if out ≠ [] ∧ (out.getLastD (0, 0)).2 = i then out.dropLast ++ [((out.getLastD (0, 0)).1, (i : Int) + 1)] else out ++ [((i : Int), (i : Int) + 1)]
def clO (l : List ValI) : Nat → List (Int × Int)
  | 0 => []
  | i + 1 => if clp (l.getD i zV) = true then cl1 (clO l i) i else clO l i
theorem cl1_len (out : List (Int × Int)) (i : Nat) : (cl1 out i).length ≤ out.length + 1 := by
  unfold cl1
  split
  · simp
  · simp
theorem clO_len (l : List ValI) : ∀ i, (clO l i).length ≤ i := by
  intro i
  induction i with
  | zero => exact Nat.le_refl _
  | succ i ih =>
    simp only [clO]
    split
    · have := cl1_len (clO l i) i; omega
    · omega
theorem clipped147 {n : Nat} (hn : 1 ≤ n) (v : ValI) : RUN n 147 [va v] = .ret (.p (.bool (clp v))) := by
  obtain ⟨d, rfl⟩ : ∃ d, n = d + 1 := ⟨n - 1, by omega⟩
  rw [RUN, call_eq fe147 _ rfl]
  obtain ⟨a, b, u, o⟩ := v
  cases u <;> cases o <;> simp -implicitDefEqProofs [c147, clp, eqK, keyOk, eqP]
theorem same63 {n : Nat} (hn : 1 ≤ n) (a b : List (Int × Int)) (ha : a.length < 1000000) : RUN n 63 [csl a, csl b] = .ret (.p (.bool (decide (a = b)))) := by
  obtain ⟨d, rfl⟩ : ∃ d, n = d + 1 := ⟨n - 1, by omega⟩
  rw [RUN, call_eq fe63 _ rfl]
  by_cases hl : a.length = b.length
  · let inv : Nat → St := fun i => ⟨[(0, csl a), (1, csl b), (5, iv i)], []⟩
    let out : Nat → Ex × St := fun i => if a.drop i = b.drop i then (.exit 0, ⟨(inv a.length).env ++ [(14, .p (.bool false))], []⟩) else (.ret, ⟨[(4, .p (.bool false))], []⟩)
    simp -implicitDefEqProofs [c63, hl]
    rw [loop_rec inv out a.length (by simp [inv])]
    · by_cases hq : a = b <;> simp [out, inv, hq]
    · intro i hi
      have hi' : i < b.length := by omega
      have hx := cI_drop a i hi
      have hy := cI_drop b i hi'
      have hlt : i * 2 < a.length * 2 := by omega
      have hlt' : i * 2 < b.length * 2 := by omega
      have hd : (a.drop i = b.drop i) ↔ a[i] = b[i] ∧ a.drop (i + 1) = b.drop (i + 1) := by
        rw [List.drop_eq_getElem_cons hi, List.drop_eq_getElem_cons hi', List.cons.injEq]
      have hp : (a[i] = b[i]) ↔ (a[i].1 = b[i].1 ∧ a[i].2 = b[i].2) := Prod.ext_iff
      by_cases h : a[i].1 = b[i].1 ∧ a[i].2 = b[i].2
      · refine .inl ⟨?_, ?_⟩
        · simp -implicitDefEqProofs [inv, loopS_eq, c63L0, hi', hx, hy, hlt', hl, h.1, h.2, eqK, keyOk, eqP, wrap_succ (i := i) (by omega)]
        · simp [out, hd, hp, h]
      · have hb : ((a[i].1 == b[i].1) && (a[i].2 == b[i].2)) = false := by rw [Bool.eq_false_iff]; simpa using h
        refine .inr ⟨?_, ?_⟩
        · simp -implicitDefEqProofs [inv, loopS_eq, c63L0, hi', hx, hy, hlt', hl, hb, eqK, keyOk, eqP, out, hd, hp, h]
        · simp [out, hd, hp, h]
    · have h1 : a.drop a.length = [] := List.drop_of_length_le (by omega)
      have h2 : b.drop a.length = [] := List.drop_of_length_le (by omega)
      simp [inv, loopS_eq, c63L0, out, hl]
    · simp [loopFuel]; omega
  · have : ¬ a = b := fun h => hl (by rw [h])
    have hl' : ¬ (a.length : Int) = b.length := by omega
    simp -implicitDefEqProofs [c63, hl', this]


/-- the last span of some, in the cells -/
theorem last_cells (P : List (Int × Int)) (a b z : Int) : (cI (P ++ [(a, b)])).length = P.length * 2 + 2 ∧ (cI (P ++ [(a, b)]))[P.length * 2 + 1]? = some (.int .i64 b) ∧ (cI (P ++ [(a, b)])).set (P.length * 2 + 1) (.int .i64 z) = cI (P ++ [(a, z)]) := by
  have h1 : ∀ x y : Int, cI (P ++ [(x, y)]) = cI P ++ [.int .i64 x, .int .i64 y] := fun x y => by rw [cI_append]; rfl
  have hl : (cI P).length = P.length * 2 := cI_length P
  rw [h1, h1]
  refine ⟨by simp [hl], ?_, ?_⟩
  · rw [List.getElem?_append_right (by omega), hl]
    have : P.length * 2 + 1 - P.length * 2 = 1 := by omega
    rw [this]; rfl
  · rw [List.set_append_right _ _ (by omega), hl]
    have : P.length * 2 + 1 - P.length * 2 = 1 := by omega
    rw [this]; rfl

def eC (l : List ValI) (m i : Nat) : Env := [(5, .p (.clo 147 [] [])), (6, .sl 0 m 0 m), (16, vsl l), (17, iv l.length), (18, iv i)]
theorem round59 {d : Nat} (l : List ValI) (hl : l.length ≤ 5000) (i : Nat) (hi : i < l.length) (out : List (Int × Int)) (ho : out.length ≤ i) :
    ∃ st1, loopS (evFn F C0 G0 (d + 1)) C0 G0 0 true [5, 6, 16, 17, 18] c59L0 ⟨eC l out.length i, [(0, .arr (cI out) out.length 2)]⟩ = .ret (.normal, st1) ∧ loopS (evFn F C0 G0 (d + 1)) C0 G0 0 true [5, 6, 16, 17, 18] c59L0 st1 = loopS (evFn F C0 G0 (d + 1)) C0 G0 0 true [5, 6, 16, 17, 18] c59L0 ⟨eC l (if clp l[i] = true then cl1 out i else out).length (i + 1), [(0, .arr (cI (if clp l[i] = true then cl1 out i else out)) (if clp l[i] = true then cl1 out i else out).length 2)]⟩ := by
  have hR := vR_len l
  have wi := wrap_succ (i := i) (by omega)
  have hlt : i * 4 < l.length * 4 := by omega
  have hlt4 : i * 4 + 4 ≤ l.length * 4 := by omega
  have hdr := rowC_drop vc_len l i hi
  have k := clipped147 (n := d + 1) (by omega) l[i]
  have hlim : out.length + 1 ≤ lim := by simp only [lim]; omega
  have hcl : (cI out).length = out.length * 2 := cI_length out
  have wo := wrap64 (n := (out.length : Int) - 1) (by omega) (by omega)
  simp only [eC]
  generalize hA : rowC vc l = A at *
  generalize rowC vc (l.drop (i + 1)) = R2 at *
  generalize l[i] = v at *
  obtain ⟨a, b, u, o⟩ := v
  cases hc : clp ⟨a, b, u, o⟩ with
  | false =>
    rw [hc] at k
    simp only [Bool.false_eq_true, if_false]
    refine ⟨?_, ?h1, ?h2⟩
    case h1 =>
      simp -implicitDefEqProofs [loopS_eq, c59L0, hi, hA, hR, hlt, hdr, vc, k, wi]
      exact rfl
    case h2 => exact loopS_same (by simp) (by simp)
  | true =>
    rw [hc] at k
    simp only [if_true]
    have huo : (u = false ∧ o = false) = False := by
      cases u <;> cases o <;> simp [clp] at hc ⊢
    by_cases h0 : out = []
    · subst h0
      have e1 : cl1 [] i = [((i : Int), (i : Int) + 1)] := by simp [cl1]
      have e2 : cI [((i : Int), (i : Int) + 1)] = [.int .i64 i, .int .i64 ((i : Int) + 1)] := rfl
      have e3 : cI ([] : List (Int × Int)) = [] := rfl
      have vm : IntKind.i64.wrap (-1) = -1 := by decide
      rw [e1, e2, e3]
      have hlim1 : 1 ≤ lim := by decide
      cases u <;> cases o <;> simp [clp] at hc
      all_goals
        refine ⟨?_, ?_, ?_⟩
        case refine_2 =>
          simp -implicitDefEqProofs [loopS_eq, c59L0, hi, hA, hR, hlt, hdr, vc, k, wi, vm, hlim1]
          exact rfl
        case refine_3 => exact loopS_same (by simp) (by simp)
    · obtain ⟨P, x, hP⟩ : ∃ P x, out = P ++ [x] := ⟨out.dropLast, out.getLast h0, (List.dropLast_concat_getLast _).symm⟩
      obtain ⟨xa, xb⟩ := x
      have hol : out.length = P.length + 1 := by rw [hP]; simp
      obtain ⟨c1, c2, c3⟩ := last_cells P xa xb ((i : Int) + 1)
      rw [← hP] at c1 c2 c3
      have hlast : out.getLastD (0, 0) = (xa, xb) := by rw [hP]; simp
      have hdl : out.dropLast = P := by rw [hP]; simp
      have wo1 : IntKind.i64.wrap ((P.length : Int)) = P.length := wrap64 (by omega) (by omega)
      have t1 : ((out.length : Int) - 1) = P.length := by omega
      have q1 : (0 : Int) ≤ (P.length : Int) := by omega
      have q2 : (P.length : Int) < (out.length : Int) := by omega
      have q3 : P.length * 2 + 1 < out.length * 2 := by omega
      have q4 : P.length * 2 + 1 + 1 ≤ out.length * 2 := by omega
      rw [t1] at wo
      by_cases hx : xb = (i : Int)
      · have e1 : cl1 out i = P ++ [(xa, (i : Int) + 1)] := by
          unfold cl1; rw [hlast, hdl, if_pos ⟨h0, hx⟩]
        have e2 : (P ++ [(xa, (i : Int) + 1)]).length = out.length := by rw [hol]; simp
        rw [e1, e2, ← c3]
        have hxb : (xb == (i : Int)) = true := by simpa using hx
        subst hx
        have c2g : ∀ q : P.length * 2 + 1 < (cI out).length, (cI out)[P.length * 2 + 1]'q = .int .i64 i := fun q => by
          rw [List.getElem?_eq_getElem q] at c2; exact Option.some.inj c2
        generalize cI out = C at *
        cases u <;> cases o <;> simp [clp] at hc
        all_goals
          refine ⟨?_, ?_, ?_⟩
          case refine_2 =>
            simp -implicitDefEqProofs [loopS_eq, c59L0, hi, hA, hR, hlt, hdr, vc, k, wi, t1, wo, q1, q2, q3, q4, c2g, hcl]
            exact rfl
          case refine_3 => exact loopS_same (by simp) (by simp)
      · have e1 : cl1 out i = out ++ [((i : Int), (i : Int) + 1)] := by
          unfold cl1; rw [hlast, if_neg (fun h => hx h.2)]
        have e2 : (out ++ [((i : Int), (i : Int) + 1)]).length = out.length + 1 := by simp
        have e3 : cI (out ++ [((i : Int), (i : Int) + 1)]) = cI out ++ [.int .i64 i, .int .i64 ((i : Int) + 1)] := by rw [cI_append]; rfl
        rw [e1, e2, e3]
        have hxb : (xb == (i : Int)) = false := by simpa using hx
        have c2g : ∀ q : P.length * 2 + 1 < (cI out).length, (cI out)[P.length * 2 + 1]'q = .int .i64 xb := fun q => by
          rw [List.getElem?_eq_getElem q] at c2; exact Option.some.inj c2
        generalize cI out = C at *
        cases u <;> cases o <;> simp [clp] at hc
        all_goals
          refine ⟨?_, ?_, ?_⟩
          case refine_2 =>
            simp -implicitDefEqProofs [loopS_eq, c59L0, hi, hA, hR, hlt, hdr, vc, k, wi, t1, wo, q1, q2, q3, c2g, hcl, hxb, hlim]
            exact rfl
          case refine_3 => exact loopS_same (by simp) (by simp)

theorem clipped59 {n : Nat} (hn : 7 ≤ n) (l : List ValI) (hl : l.length ≤ 5000) :
    RUN n 59 [vsl l] = .ret (if valsE l = 0 then .tup [.own (cI (clO l l.length)) (clO l l.length).length 2, iv 0] else .tup [.p (.sl [] 0), iv (valsE l)]) := by
  obtain ⟨d, rfl⟩ : ∃ d, n = d + 7 := ⟨n - 7, by omega⟩
  rw [RUN, call_eq fe59 _ rfl]
  have k1 := check137 (n := d + 6) (by omega) l (by omega)
  by_cases hz : valsE l = 0
  · rw [if_pos hz]
    rw [hz] at k1
    have hcl : ∀ i, (cI (clO l i)).length = (clO l i).length * 2 := fun i => cI_length _
    have hloop : loopN (loopS (evFn F C0 G0 (d + 6)) C0 G0 0 true [5, 6, 16, 17, 18] c59L0) loopFuel ⟨eC l 0 0, [(0, .arr [] 0 2)]⟩ = .ret (.exit 0, ⟨eC l (clO l l.length).length l.length ++ [(19, .p (.bool false))], [(0, .arr (cI (clO l l.length)) (clO l l.length).length 2)]⟩) := by
      refine loop_run' (fun i => ⟨eC l (clO l i).length i, [(0, .arr (cI (clO l i)) (clO l i).length 2)]⟩) l.length (by simp) rfl ?_ ?_ (by simp [loopFuel]; omega)
      · intro i hi
        have := round59 (d := d + 5) l hl i hi (clO l i) (clO_len l i)
        have hg : l.getD i zV = l[i] := by simp [List.getD_eq_getElem?_getD, List.getElem?_eq_getElem hi]
        have hs : clO l (i + 1) = if clp l[i] = true then cl1 (clO l i) i else clO l i := by simp only [clO, hg]
        simp only [hs]
        exact this
      · simp only [eC]
        generalize rowC vc l = A at *
        simp -implicitDefEqProofs [loopS_eq, c59L0]
    simp only [eC, vsl, iv, Int.natCast_zero] at hloop k1
    have hc := hcl l.length
    generalize clO l l.length = O at *
    generalize cI O = CO at *
    generalize hA : rowC vc l = A at *
    simp -implicitDefEqProofs [c59, vsl, hA, k1]
    rw [hloop]
    simp -implicitDefEqProofs [hc]
  · rw [if_neg hz]
    generalize valsE l = E at *
    simp only [vsl] at k1
    generalize hA : rowC vc l = A at *
    simp -implicitDefEqProofs [c59, hA, k1, hz]
end Fw
