/- Several texts in one: each is told at its head. -/
import Derived.Test.YtbaedpfgjpkabaaGreatDoorChSt11
import Derived.Test.YtbaedpfgjpkabaaGreatDoorChSt5
import Derived.Test.YtbaedpfgjpkabaaGreatDoorChSt3
section
/- A text of sensors, read by the chapter. -/
set_option maxHeartbeats 8000000
namespace Fw
open Go
attribute [local irreducible] evCode evOps evOpsD evOper evOperD evOp evFn loopN T.All T.bind callPure callOp opsK opsDK restK seqK blockK loopS setK setQ giveK scalK gcK finish finS rfunK yldK yldB loopK

/-- what a text says: the sensors, the line that is wrong, the error -/
def parseL (s : List UInt8) : List SenI × Int × Int :=
  if (goL (splitS 10 s) []).1 = true then
    (if sensE (goL (splitS 10 s) []).2 = 0 then ((goL (splitS 10 s) []).2, 0, 0) else ([], (goL (splitS 10 s) []).2.length, sensE (goL (splitS 10 s) []).2))
  else ([], (goL (splitS 10 s) []).2.length, 25)

theorem parse94 {n : Nat} (hn : 12 ≤ n) (s : List UInt8) : RUN n 94 [sv s] = .ret (if 4096 < s.length then .tup [.p (.sl [] 0), iv 0, iv 26] else .tup [if (parseL s).2.2 = 0 then .own (rowC sc (parseL s).1) (parseL s).1.length 4 else .p (.sl [] 0), iv (parseL s).2.1, iv (parseL s).2.2]) := by
  obtain ⟨d, rfl⟩ : ∃ d, n = d + 12 := ⟨n - 12, by omega⟩
  rw [RUN, call_eq fe94 _ rfl]
  by_cases h4 : (4096 : Int) < s.length
  · have h4n : 4096 < s.length := by omega
    rw [if_pos h4n]
    simp -implicitDefEqProofs [c94, h4]
  · have h4n : ¬ 4096 < s.length := by omega
    rw [if_neg h4n]
    obtain ⟨e, env', r', key, he⟩ := lines_loop (d := d + 2) s.length s [] lE loopFuel (Nat.le_refl _) (by omega) (by simp; omega) (by simp [loopFuel]; omega) rfl
    have f165 : ∀ S : Sto, nextId S = 5 → evFn F C0 G0 (d + 11) (.fn 165) [sv s] S = .ret (.clo 195 [] [.ptr 5 0 0], (5, .arr [.str s] 0 1) :: S) := fun S hS => by
      rw [evFn_fn fe165]
      simp -implicitDefEqProofs [c165, hS, -nextId]
    have hol : (goL (splitS 10 s) []).2.length < 1000000 := by
      have h := goL_length (splitS 10 s) []
      rw [splitS_length] at h
      have h2 : s.count 10 ≤ s.length := List.count_le_length
      simp at h
      omega
    have hpd : parseL s = if (goL (splitS 10 s) []).1 = true then (if sensE (goL (splitS 10 s) []).2 = 0 then ((goL (splitS 10 s) []).2, 0, 0) else ([], ((goL (splitS 10 s) []).2.length : Int), sensE (goL (splitS 10 s) []).2)) else ([], ((goL (splitS 10 s) []).2.length : Int), 25) := rfl
    have hnm : ∀ x ∈ (goL (splitS 10 s) []).2, x.name.length ≤ 9223372036854775807 := goL_names _ _ _ (fun w hw => by have := splitS_small 10 s w hw; omega) (by simp)
    generalize hG : goL (splitS 10 s) [] = G at *
    obtain ⟨g1, g2⟩ := G
    simp only at key hol hpd hnm
    have hr0 : rowC sc [] = [] := rfl
    have h161 := check161 (n := d + 11) (by omega) g2 hol hnm
    have hR := sR_len g2
    simp only [ssl] at h161
    have f195 : evFn F C0 G0 (d + 11) (.fn 195) [.yld 6, .ptr 5 0 0] ((6, pLoop none 0) :: pS0 [] 0 s) = .ret (.tup [], if g1 = true then (6, pLoop none 0) :: pS0 g2 g2.length r' else (6, pLoop (some .ret) 2) :: pS9 g2 g2.length r') := by
      rw [evFn_fn fe195]
      simp only [lE, pS0, List.length_nil, hr0] at key
      simp -implicitDefEqProofs [c195, pS0]
      rw [key]
      rcases he with rfl | rfl <;> simp -implicitDefEqProofs
    have f165 := f165 [(4, .box [.sl 3 0 0 0]), (3, .arr [] 0 4), (2, .arr [.int .i64 0] 0 1), (1, .arr [.int .i64 0] 0 1), (0, .box [.p .nils])] rfl
    let E : Env := [(2, .ptr 0 0 0), (3, .ptr 1 0 0), (4, .ptr 2 0 0), (5, .ptr 4 0 0), (19, .clo 195 [] [.ptr 5 0 0])]
    have hrf : evCode (evFn F C0 G0 (d + 11)) C0 G0 0 (.rfun (.t 19) [20] c94A0 c94B0) ⟨E, pS0 [] 0 s⟩ = .ret (if g1 = true then .normal else .ret, ⟨E, if g1 = true then pS0 g2 g2.length r' else pS9 g2 g2.length r'⟩) := by
      rw [ev_rfun]
      have h1 : callee (evOpd G0 E) (.val (.t 19)) = some (.fn 195, [], [.ptr 5 0 0]) := rfl
      have h2 : nextId (pS0 [] 0 s) = 6 := rfl
      simp only [h1, h2, List.nil_append]
      have h3 : (6, Obj.loop E [20] c94A0 c94B0 none 0) :: pS0 [] 0 s = (6, pLoop none 0) :: pS0 [] 0 s := rfl
      rw [h3]
      have h4 : [AVal.yld 6] ++ [AVal.ptr 5 0 0] = [.yld 6, .ptr 5 0 0] := rfl
      rw [h4, f195, bind_ret]
      cases g1 with
      | true =>
        simp only [if_true]
        rw [rfunK_none (by rfl) (by decide)]
        simp -implicitDefEqProofs [E, pS0]
      | false =>
        simp only [Bool.false_eq_true, if_false]
        rw [rfunK_ret (by rfl) (by decide)]
        simp -implicitDefEqProofs [E, pS9]
    simp only [E, pS0, pS9, hr0] at hrf
    generalize hA : rowC sc g2 = A at *
    simp -implicitDefEqProofs [c94, h4, f165, hrf, -ev_rfun]
    cases g1 with
    | false =>
      simp -implicitDefEqProofs [hpd]
    | true =>
      by_cases hz : sensE g2 = 0
      · simp -implicitDefEqProofs [hpd, h161, hz, hR, hA]
        done
      · simp -implicitDefEqProofs [hpd, h161, hz, hR, hide, hidI, hidT4, stOp, plain]
        done
end Fw
end

section
/- A text of sensors, read by the reference. -/
set_option maxHeartbeats 8000000
namespace Fw
open Go
attribute [local irreducible] evCode evOps evOpsD evOper evOperD evOp evFn loopN T.All T.bind callPure callOp opsK opsDK restK seqK blockK loopS setK setQ giveK scalK gcK finish finS rfunK yldK yldB loopK

def rS (W : List (List UInt8)) (E : Nat) (out : List SenI) (i : Nat) : St := ⟨[(5, .p (.sl (pStr W) W.length)), (6, iv E), (7, .sl 0 out.length 0 out.length), (8, iv i)], [(0, .arr (rowC sc out) out.length 4)]⟩
abbrev rBad (out : List SenI) (i : Nat) : Ex × St := (.ret, ⟨[(2, .p .nils), (3, iv i), (4, iv 25)], [(0, .arr (rowC sc out) out.length 4)]⟩)

theorem ref_round {d : Nat} (W : List (List UInt8)) (E : Nat) (out : List SenI) (i : Nat) (hi : i < E) (hE : W.length = E + 1) (hW : W.length < 100000) (ho : out.length < 100000) (w : List UInt8) (hw : W[i]? = some w) (hl : w.length < 100000) :
    loopS (evFn F C0 G0 (d + 2)) C0 G0 0 false [5, 6, 7, 8] c97L0 (rS W E out i) = .ret (match lineP w with
      | some x => (.normal, rS W E (out ++ [x]) (i + 1))
      | none => rBad out i) := by
  have hi0 : i < W.length := by omega
  have hgw : W[i] = w := by rw [List.getElem?_eq_getElem hi0] at hw; exact Option.some.inj hw
  have hdr := pStr_drop W i hi0
  rw [hgw] at hdr
  have hlt : (i : Int) < E := by omega
  have hsp : RUN (d + 2) 100 [sv w, .p (.int .u8 32)] = _ := splitR100 (n := d + 2) (by omega) w 32 (by omega)
  have hlim : out.length + 1 ≤ lim := by simp only [lim]; omega
  have hq : splitS 32 w ≠ [] := splitS_ne 32 w
  have hpl : (pStr W).length = W.length := by simp
  have wi := wrap_succ (i := i) (by omega)
  unfold lineP
  generalize splitS 32 w = ws at *
  generalize hQ : pStr W = Q at *
  have hR := sR_len out
  have p1 : ∀ w0 : List UInt8, pStr [w0] = [.str w0] := fun _ => rfl
  have p2 : ∀ w0 a : List UInt8, pStr [w0, a] = [.str w0, .str a] := fun _ _ => rfl
  have p3 : ∀ w0 a b : List UInt8, pStr [w0, a, b] = [.str w0, .str a, .str b] := fun _ _ _ => rfl
  have p4 : ∀ w0 a b c : List UInt8, pStr [w0, a, b, c] = [.str w0, .str a, .str b, .str c] := fun _ _ _ _ => rfl
  have p5 : ∀ w0 a b c e : List UInt8, pStr [w0, a, b, c, e] = [.str w0, .str a, .str b, .str c, .str e] := fun _ _ _ _ _ => rfl
  match ws with
  | [] => exact absurd rfl hq
  | [w0] => simp -implicitDefEqProofs [rS, hQ, loopS_eq, c97L0, hi0, hlt, hdr, hpl, hsp, p1]
  | [w0, a] => simp -implicitDefEqProofs [rS, hQ, loopS_eq, c97L0, hi0, hlt, hdr, hpl, hsp, p2]
  | [w0, a, b] => simp -implicitDefEqProofs [rS, hQ, loopS_eq, c97L0, hi0, hlt, hdr, hpl, hsp, p3]
  | [w0, a, b, c] => simp -implicitDefEqProofs [rS, hQ, loopS_eq, c97L0, hi0, hlt, hdr, hpl, hsp, p4]
  | w0 :: a :: b :: c :: e :: f :: r =>
    have h3 : (((w0 :: a :: b :: c :: e :: f :: r).length : Int) != 5) = true := by simp; omega
    have hp : pStr (w0 :: a :: b :: c :: e :: f :: r) = .str w0 :: .str a :: .str b :: .str c :: .str e :: .str f :: pStr r := rfl
    generalize hL : (w0 :: a :: b :: c :: e :: f :: r).length = L at *
    simp -implicitDefEqProofs [rS, hQ, loopS_eq, c97L0, hi0, hlt, hdr, hpl, hsp, hp, h3]
  | [w0, a, b, c, e] =>
    have d1 := digits171 (n := d + 2) (by omega) b
    have d2 := digits171 (n := d + 2) (by omega) c
    have d3 := digits171 (n := d + 2) (by omega) e
    cases hw0 : (w0 != [115, 101, 110, 115, 111, 114]) with
    | true =>
      have hne : ¬ w0 = senW := by simpa [senW] using hw0
      have hbe : (w0 == [115, 101, 110, 115, 111, 114]) = false := by simpa [senW] using hne
      simp -implicitDefEqProofs [rS, hQ, loopS_eq, c97L0, hi0, hlt, hdr, hpl, hsp, p5, strBin, hne, hbe]
    | false =>
      have he : w0 = senW := by simpa [senW] using hw0
      subst he
      have hsw : senW = [115, 101, 110, 115, 111, 114] := rfl
      rw [hsw] at hsp
      cases ha : (a == []) with
      | true =>
        have ha' : a = [] := by simpa using ha
        simp -implicitDefEqProofs [rS, hQ, loopS_eq, c97L0, hi0, hlt, hdr, hpl, hsp, p5, strBin, ha']
      | false =>
        have ha' : a ≠ [] := by simpa using ha
        cases hb : digOk b with
        | false =>
          simp only [hb] at d1
          simp -implicitDefEqProofs [rS, hQ, loopS_eq, c97L0, hi0, hlt, hdr, hpl, hsp, p5, strBin, ha, ha', d1, d2, d3, hb]
        | true =>
          simp only [hb, if_true] at d1
          cases hc : digOk c with
          | false =>
            simp only [hc] at d2
            simp -implicitDefEqProofs [rS, hQ, loopS_eq, c97L0, hi0, hlt, hdr, hpl, hsp, p5, strBin, ha, ha', d1, d2, d3, hb, hc]
          | true =>
            simp only [hc, if_true] at d2
            cases he : digOk e with
            | false =>
              simp only [he] at d3
              simp -implicitDefEqProofs [rS, hQ, loopS_eq, c97L0, hi0, hlt, hdr, hpl, hsp, p5, strBin, ha, ha', d1, d2, d3, hb, hc, he]
            | true =>
              simp only [he, if_true] at d3
              have hr : rowC sc (out ++ [⟨a, digV b, digV c, digV e⟩]) = rowC sc out ++ [.str a, .int .i64 (digV b), .int .i64 (digV c), .int .i64 (digV e)] := rowC_snoc ..
              simp only [ha', hb, hc, he, ne_eq, not_false_eq_true, and_self, if_true, rS, hr]
              generalize rowC sc out = A at *
              simp -implicitDefEqProofs [hQ, loopS_eq, c97L0, hi0, hlt, hdr, hpl, hsp, p5, strBin, ha, d1, d2, d3, hlim, hR, wi]

theorem ref_end {d : Nat} (W : List (List UInt8)) (E : Nat) (out : List SenI) : loopS (evFn F C0 G0 (d + 2)) C0 G0 0 false [5, 6, 7, 8] c97L0 (rS W E out E) = .ret (.exit 0, ⟨(rS W E out E).env ++ [(27, .p (.bool false))], (rS W E out E).sto⟩) := by
  simp -implicitDefEqProofs [rS, loopS_eq, c97L0]

theorem ref_loop {d : Nat} (W : List (List UInt8)) (E : Nat) (hE : W.length = E + 1) (hW : W.length < 50000) (hl : ∀ x ∈ W, x.length < 100000) (lst : List UInt8) (hlst : W[E]? = some lst) : ∀ (q : List (List UInt8)) (i : Nat) (out : List SenI) (fuel : Nat), W.drop i = q → q ≠ [] → out.length = i → q.length + 1 < fuel →
    (∃ o, loopN (loopS (evFn F C0 G0 (d + 2)) C0 G0 0 false [5, 6, 7, 8] c97L0) fuel (rS W E out i) = .ret (.exit 0, ⟨(rS W E o E).env ++ [(27, .p (.bool false))], (rS W E o E).sto⟩) ∧ goL q out = (decide (lst = []), o) ∧ o.length = E) ∨
    ∃ o, loopN (loopS (evFn F C0 G0 (d + 2)) C0 G0 0 false [5, 6, 7, 8] c97L0) fuel (rS W E out i) = .ret (rBad o o.length) ∧ goL q out = (false, o) := by
  intro q
  induction q with
  | nil => intro i out fuel _ h; exact absurd rfl h
  | cons w r ih =>
    intro i out fuel hd _ ho hf
    have hi : i < W.length := by
      rcases Nat.lt_or_ge i W.length with h | h
      · exact h
      · rw [List.drop_of_length_le h] at hd; cases hd
    rw [List.drop_eq_getElem_cons hi] at hd
    injection hd with h1 h2
    have hg : W[i]? = some w := by rw [List.getElem?_eq_getElem hi, h1]
    have hlen := congrArg List.length h2
    simp only [List.length_drop] at hlen
    simp only [List.length_cons] at hf
    cases r with
    | nil =>
      simp only [List.length_nil] at hlen
      have : i = E := by omega
      subst this
      rw [hg] at hlst
      cases hlst
      exact .inl ⟨out, loopN_end (ref_end W i out) (by simp) (by omega), goL_one .., ho⟩
    | cons y q2 =>
      simp only [List.length_cons] at hlen
      have hr := ref_round (d := d) W E out i (by omega) hE (by omega) (by omega) w hg (by rw [← h1]; exact hl _ (List.getElem_mem hi))
      rw [goL_more (by simp)]
      cases hp : lineP w with
      | none =>
        rw [hp] at hr
        refine .inr ⟨out, ?_, rfl⟩
        rw [ho]
        exact loopN_end hr (by simp) (by omega)
      | some x =>
        rw [hp] at hr
        rw [loopN_on hr (by omega)]
        exact ih (i + 1) (out ++ [x]) (fuel - 1) h2 (by simp) (by simp [ho]) (by simp at hf ⊢; omega)
end Fw
end

section
/- Both parsers of sensors say the same. -/
set_option maxHeartbeats 8000000
namespace Fw
open Go
attribute [local irreducible] evCode evOps evOpsD evOper evOperD evOp evFn loopN T.All T.bind callPure callOp opsK opsDK restK seqK blockK loopS setK setQ giveK scalK gcK finish finS rfunK yldK yldB loopK

theorem parse97 {n : Nat} (hn : 6 ≤ n) (s : List UInt8) : RUN n 97 [sv s] = .ret (if 4096 < s.length then .tup [.p (.sl [] 0), iv 0, iv 26] else .tup [if (parseL s).2.2 = 0 then .own (rowC sc (parseL s).1) (parseL s).1.length 4 else .p (.sl [] 0), iv (parseL s).2.1, iv (parseL s).2.2]) := by
  obtain ⟨d, rfl⟩ : ∃ d, n = d + 6 := ⟨n - 6, by omega⟩
  rw [RUN, call_eq fe97 _ rfl]
  by_cases h4 : (4096 : Int) < s.length
  · have h4n : 4096 < s.length := by omega
    rw [if_pos h4n]
    simp -implicitDefEqProofs [c97, h4]
  · have h4n : ¬ 4096 < s.length := by omega
    rw [if_neg h4n]
    have hsp : RUN (d + 5) 100 [sv s, .p (.int .u8 10)] = _ := splitR100 (n := d + 5) (by omega) s 10 (by omega)
    have hwl := splitS_length 10 s
    have hcl : s.count 10 ≤ s.length := List.count_le_length
    have hne := splitS_ne 10 s
    have hmem := splitS_small 10 s
    obtain ⟨E, hE⟩ : ∃ E, (splitS 10 s).length = E + 1 := ⟨s.count 10, hwl⟩
    have hlt : E < (splitS 10 s).length := by omega
    obtain ⟨lst, hlst⟩ : ∃ lst, (splitS 10 s)[E]? = some lst := ⟨_, List.getElem?_eq_getElem hlt⟩
    have key := ref_loop (d := d + 3) (splitS 10 s) E hE (by omega) (fun x hx => by have := hmem x hx; omega) lst hlst (splitS 10 s) 0 [] loopFuel rfl hne rfl (by simp [loopFuel]; omega)
    have hpd : parseL s = if (goL (splitS 10 s) []).1 = true then (if sensE (goL (splitS 10 s) []).2 = 0 then ((goL (splitS 10 s) []).2, 0, 0) else ([], ((goL (splitS 10 s) []).2.length : Int), sensE (goL (splitS 10 s) []).2)) else ([], ((goL (splitS 10 s) []).2.length : Int), 25) := rfl
    generalize goL (splitS 10 s) [] = G at *
    generalize splitS 10 s = W at *
    have hdr : (pStr W).drop E = .str lst :: (pStr W).drop (E + 1) := by
      have h := pStr_drop W E hlt
      have : W[E] = lst := by rw [List.getElem?_eq_getElem hlt] at hlst; exact Option.some.inj hlst
      rw [this] at h; exact h
    have hpl : (pStr W).length = E + 1 := by simp [hE]
    have hEE : (E : Int) < (E : Int) + 1 := by omega
    have w1 := wrap64 (n := (E : Int)) (by omega) (by omega)
    generalize hQ : pStr W = Q at *
    simp only [rS, List.length_nil, hE, hQ, Int.natCast_zero] at key
    have hr0 : rowC sc [] = [] := rfl
    simp only [hr0] at key
    simp -implicitDefEqProofs [c97, h4, hsp, hE, w1]
    rcases key with ⟨o, k1, k2, k3⟩ | ⟨o, k1, k2⟩
    · rw [k1]
      subst k2
      simp only at hpd
      by_cases hz : lst = []
      · subst hz
        simp only [decide_true, if_true] at hpd
        have h95 := check95 (n := d + 5) (by omega) o (by omega)
        have hR := sR_len o
        simp only [ssl, k3] at h95
        rw [k3] at hR
        generalize hA : rowC sc o = A at *
        by_cases hs : sensE o = 0
        · rw [if_pos hs] at hpd
          simp -implicitDefEqProofs [hpd, hEE, hpl, hdr, strBin, h95, hs, hR, hA, k3]
        · rw [if_neg hs] at hpd
          simp -implicitDefEqProofs [hpd, hEE, hpl, hdr, strBin, h95, hs, hR, k3]
      · have hb : (lst == []) = false := by simpa using hz
        simp only [hz, decide_false, Bool.false_eq_true, if_false] at hpd
        simp -implicitDefEqProofs [hpd, hEE, hpl, hdr, strBin, hb, k3]
    · rw [k1]
      subst k2
      simp only [Bool.false_eq_true, if_false] at hpd
      simp -implicitDefEqProofs [hpd]
end Fw
end

