/- The steps of a text, by the reference. -/
import Derived.Test.YtombnimlolbekaaGreatDoorPuT5
set_option maxHeartbeats 8000000
namespace Fw
open Go
attribute [local irreducible] evCode evOps evOpsD evOper evOperD evOp evFn loopN T.All T.bind callPure callOp opsK opsDK restK seqK blockK loopS setK setQ giveK scalK gcK finish finS rfunK yldK yldB loopK

theorem splitS_mem (c : UInt8) : ∀ l : List UInt8, ∀ x ∈ splitS c l, x.length ≤ l.length := by
  intro l
  induction l with
  | nil => intro x hx; simp [splitS] at hx; subst hx; simp
  | cons b r ih =>
    intro x hx
    simp only [splitS] at hx
    split at hx
    · rcases List.mem_cons.1 hx with e | e
      · subst e; simp
      · have := ih x e; simp; omega
    · split at hx
      · simp at hx; subst hx; simp
      · rename_i w q e
        rcases List.mem_cons.1 hx with e2 | e2
        · subst e2
          have := ih w (by rw [e]; simp)
          simp; omega
        · have := ih x (by rw [e]; simp [e2])
          simp; omega

theorem goL_full : ∀ (ps : List (List UInt8)) (out : List (Int × Int)), ps ≠ [] → (goL ps out).1 = true → (goL ps out).2.length = out.length + (ps.length - 1) := by
  intro ps
  induction ps with
  | nil => intro out h; exact absurd rfl h
  | cons w q ih =>
    intro out _ h
    cases q with
    | nil => rw [goL_one]; simp
    | cons y r =>
      rw [goL_more (by simp)] at h ⊢
      cases hp : lineP w with
      | none => rw [hp] at h; simp at h
      | some x =>
        rw [hp] at h
        simp only at h ⊢
        rw [ih (out ++ [x]) (by simp) h]
        simp; omega

def rS (W : List (List UInt8)) (out : List (Int × Int)) (i : Nat) : St := ⟨[(5, .sl 0 out.length 0 out.length), (6, .p (.sl (pStr W) W.length)), (7, iv i)], [(0, .arr (cI out) out.length 2)]⟩

theorem ref_round {d : Nat} (W : List (List UInt8)) (out : List (Int × Int)) (i : Nat) (hi : i + 1 < W.length) (hW : W.length < 100000) (ho : out.length < 100000) (hl : (W.getD i []).length < 100000) :
    loopS (evFn F C0 G0 (d + 2)) C0 G0 0 false [5, 6, 7] c72L0 (rS W out i) = .ret (match lineP (W.getD i []) with
      | some x => (.normal, rS W (out ++ [x]) (i + 1))
      | none => (.ret, ⟨[(2, .p .nils), (3, iv i), (4, iv 25)], [(0, .arr (cI out) out.length 2)]⟩)) := by
  have hi0 : i < W.length := by omega
  have hg : W.getD i [] = W[i] := by simp [List.getD_eq_getElem?_getD, List.getElem?_eq_getElem hi0]
  rw [hg] at hl ⊢
  have hdr := pStr_drop W i hi0
  have hlt : (i : Int) < W.length := by omega
  have w1 := wrap64 (n := (W.length : Int) - 1) (by omega) (by omega)
  have hnl : ((i : Int) == (W.length : Int) - 1) = false := by simp; omega
  have hsp : RUN (d + 2) 74 [sv W[i], .p (.int .u8 32)] = _ := splitR74 (n := d + 2) (by omega) W[i] 32 (by omega)
  have hlim : out.length + 1 ≤ lim := by simp only [lim]; omega
  have hq : splitS 32 W[i] ≠ [] := splitS_ne 32 W[i]
  unfold lineP
  generalize splitS 32 W[i] = ws at *
  have p1 : ∀ w0 : List UInt8, pStr [w0] = [.str w0] := fun _ => rfl
  have p2 : ∀ w0 a : List UInt8, pStr [w0, a] = [.str w0, .str a] := fun _ _ => rfl
  have p3 : ∀ w0 a b : List UInt8, pStr [w0, a, b] = [.str w0, .str a, .str b] := fun _ _ _ => rfl
  match ws with
  | [] => exact absurd rfl hq
  | [w0] => simp -implicitDefEqProofs [rS, loopS_eq, c72L0, hi0, hlt, hdr, w1, hnl, hsp, p1]
  | [w0, w1'] => simp -implicitDefEqProofs [rS, loopS_eq, c72L0, hi0, hlt, hdr, w1, hnl, hsp, p2]
  | w0 :: a :: b :: e :: r =>
    have h3 : (((w0 :: a :: b :: e :: r).length : Int) != 3) = true := by simp; omega
    have hp : pStr (w0 :: a :: b :: e :: r) = .str w0 :: .str a :: .str b :: .str e :: pStr r := rfl
    generalize hL : (w0 :: a :: b :: e :: r).length = L at *
    simp -implicitDefEqProofs [rS, loopS_eq, c72L0, hi0, hlt, hdr, w1, hnl, hsp, hp, h3]
  | [w0, a, b] =>
    have d1 := digits139 (n := d + 2) (by omega) a
    have d2 := digits139 (n := d + 2) (by omega) b
    cases hw0 : (w0 != [115, 116, 101, 112]) with
    | true =>
      have hne : ¬ w0 = [115, 116, 101, 112] := by simpa using hw0
      have hbe : (w0 == [115, 116, 101, 112]) = false := by simpa using hne
      simp -implicitDefEqProofs [rS, loopS_eq, c72L0, hi0, hlt, hdr, w1, hnl, hsp, p3, strBin, hne, hbe]
    | false =>
      have he : w0 = [115, 116, 101, 112] := by simpa using hw0
      subst he
      cases ha : digOk a with
      | false =>
        simp only [ha] at d1
        simp -implicitDefEqProofs [rS, loopS_eq, c72L0, hi0, hlt, hdr, w1, hnl, hsp, p3, strBin, d1, d2, ha]
      | true =>
        simp only [ha, if_true] at d1
        cases hb : digOk b with
        | false =>
          simp only [hb] at d2
          simp -implicitDefEqProofs [rS, loopS_eq, c72L0, hi0, hlt, hdr, w1, hnl, hsp, p3, strBin, d1, d2, ha, hb]
        | true =>
          simp only [hb, if_true] at d2
          simp -implicitDefEqProofs [rS, loopS_eq, c72L0, hi0, hlt, hdr, w1, hnl, hsp, p3, strBin, d1, d2, ha, hb, hlim, cI_append, cI, wrap_succ (i := i) (by omega)]

theorem ref_last {d : Nat} (W : List (List UInt8)) (out : List (Int × Int)) (i : Nat) (hi : i + 1 = W.length) (hW : W.length < 100000) :
    loopS (evFn F C0 G0 (d + 2)) C0 G0 0 false [5, 6, 7] c72L0 (rS W out i) = .ret (if W.getD i [] = [] then (.normal, rS W out (i + 1)) else (.ret, ⟨[(2, .p .nils), (3, iv i), (4, iv 25)], [(0, .arr (cI out) out.length 2)]⟩)) := by
  have hi0 : i < W.length := by omega
  have hg : W.getD i [] = W[i] := by simp [List.getD_eq_getElem?_getD, List.getElem?_eq_getElem hi0]
  rw [hg]
  have hdr := pStr_drop W i hi0
  have hlt : (i : Int) < W.length := by omega
  have w1 := wrap64 (n := (W.length : Int) - 1) (by omega) (by omega)
  have hnl : ((i : Int) == (W.length : Int) - 1) = true := by simp; omega
  by_cases he : W[i] = []
  · rw [if_pos he]
    simp -implicitDefEqProofs [rS, loopS_eq, c72L0, hi0, hlt, hdr, he, w1, hnl, strBin, wrap_succ (i := i) (by omega)]
  · rw [if_neg he]
    have hb : (W[i] == []) = false := by simpa using he
    simp -implicitDefEqProofs [rS, loopS_eq, c72L0, hi0, hlt, hdr, w1, hnl, strBin, hb]

theorem ref_loop {d : Nat} (W : List (List UInt8)) (hW : W.length < 50000) (hl : ∀ x ∈ W, x.length < 100000) : ∀ (q : List (List UInt8)) (i : Nat) (out : List (Int × Int)) (fuel : Nat), W.drop i = q → q ≠ [] → out.length = i → q.length + 1 < fuel →
    loopN (loopS (evFn F C0 G0 (d + 2)) C0 G0 0 false [5, 6, 7] c72L0) fuel (rS W out i) = .ret (if (goL q out).1 = true then (.exit 0, ⟨(rS W (goL q out).2 W.length).env ++ [(22, .p (.bool false))], (rS W (goL q out).2 W.length).sto⟩) else (.ret, ⟨[(2, .p .nils), (3, iv (goL q out).2.length), (4, iv 25)], [(0, .arr (cI (goL q out).2) (goL q out).2.length 2)]⟩)) := by
  intro q
  induction q with
  | nil => intro i out fuel _ h; exact absurd rfl h
  | cons w r ih =>
    intro i out fuel hd _ ho hf
    have hi : i < W.length := by
      rcases Nat.lt_or_ge i W.length with h | h
      · exact h
      · rw [List.drop_of_length_le h] at hd; cases hd
    rw [List.drop_eq_getElem_cons hi] at hd
    injection hd with h1 h2
    have hg : W.getD i [] = w := by simp [List.getD_eq_getElem?_getD, List.getElem?_eq_getElem hi, h1]
    cases r with
    | nil =>
      have hlen : i + 1 = W.length := by
        have := congrArg List.length h2
        simp at this; omega
      have hr := ref_last (d := d) W out i hlen (by omega)
      rw [hg] at hr
      rw [goL_one]
      by_cases he : w = []
      · rw [if_pos he] at hr
        rw [loopN_on hr (by simp at hf; omega)]
        simp only [he, decide_true, if_true]
        refine loopN_end ?_ (by simp) (by simp at hf; omega)
        have hnl : ¬ ((i + 1 : Nat) : Int) < W.length := by omega
        rw [hlen] at *
        simp -implicitDefEqProofs [rS, loopS_eq, c72L0]
      · rw [if_neg he] at hr
        rw [loopN_end hr (by simp) (by simp at hf; omega)]
        simp [he, ho]
    | cons y q2 =>
      have hlen : i + 1 < W.length := by
        have := congrArg List.length h2
        simp at this; omega
      have hr := ref_round (d := d) W out i hlen (by omega) (by omega) (by rw [hg, ← h1]; exact hl _ (List.getElem_mem hi))
      rw [hg] at hr
      rw [goL_more (by simp)]
      cases hp : lineP w with
      | none =>
        rw [hp] at hr
        rw [loopN_end hr (by simp) (by omega)]
        simp [ho]
      | some x =>
        rw [hp] at hr
        rw [loopN_on hr (by omega)]
        exact ih (i + 1) (out ++ [x]) (fuel - 1) h2 (by simp) (by simp [ho]) (by simp at hf ⊢; omega)

theorem parse72 {n : Nat} (hn : 4 ≤ n) (s : List UInt8) : RUN n 72 [sv s] = .ret (if 4096 < s.length then .tup [.p (.sl [] 0), iv 0, iv 26] else .tup [if (parseL s).2.2 = 0 then .own (cI (parseL s).1) (parseL s).1.length 2 else .p (.sl [] 0), iv (parseL s).2.1, iv (parseL s).2.2]) := by
  obtain ⟨d, rfl⟩ : ∃ d, n = d + 4 := ⟨n - 4, by omega⟩
  rw [RUN, call_eq fe72 _ rfl]
  by_cases h4 : (4096 : Int) < s.length
  · have h4n : 4096 < s.length := by omega
    rw [if_pos h4n]
    simp -implicitDefEqProofs [c72, h4]
  · have h4n : ¬ 4096 < s.length := by omega
    rw [if_neg h4n]
    have hsp : RUN (d + 3) 74 [sv s, .p (.int .u8 10)] = _ := splitR74 (n := d + 3) (by omega) s 10 (by omega)
    have hwl := splitS_length 10 s
    have hcl : s.count 10 ≤ s.length := List.count_le_length
    have hne := splitS_ne 10 s
    have hmem := splitS_mem 10 s
    have hfull := goL_full (splitS 10 s) [] hne
    have key := ref_loop (d := d + 1) (splitS 10 s) (by omega) (fun x hx => by have := hmem x hx; omega) (splitS 10 s) 0 [] loopFuel rfl hne rfl (by simp [loopFuel]; omega)
    have hpd : parseL s = if (goL (splitS 10 s) []).1 = true then (if settingE (goL (splitS 10 s) []).2 = 0 then ((goL (splitS 10 s) []).2, 0, 0) else ([], ((goL (splitS 10 s) []).2.length : Int), settingE (goL (splitS 10 s) []).2)) else ([], ((goL (splitS 10 s) []).2.length : Int), 25) := rfl
    have hol := goL_length (splitS 10 s) []
    generalize hG : goL (splitS 10 s) [] = G at *
    obtain ⟨g1, g2⟩ := G
    simp only at key hpd hfull hol
    generalize splitS 10 s = W at *
    have h19 := setting19 (n := d + 3) (by omega) g2 (by simp at hol; omega)
    simp only [rS, List.length_nil, cI] at key
    have key' : loopN (loopS (evFn F C0 G0 (d + 3)) C0 G0 0 false [5, 6, 7] c72L0) loopFuel ⟨[(5, .sl 0 0 0 0), (6, .p (.sl (pStr W) W.length)), (7, iv 0)], [(0, .arr [] 0 2)]⟩ = _ := key
    simp -implicitDefEqProofs [c72, h4, hsp]
    rw [key']
    cases g1 with
    | false => simp -implicitDefEqProofs [hpd]
    | true =>
      have hlen := hfull rfl
      simp only [List.length_nil, Nat.zero_add] at hlen
      have hpos : 0 < W.length := List.length_pos_iff.2 hne
      have w1 := wrap64 (n := (W.length : Int) - 1) (by omega) (by omega)
      have e1 : (W.length : Int) - 1 = (g2.length : Int) := by omega
      rw [e1] at w1
      by_cases hz : settingE g2 = 0
      · simp -implicitDefEqProofs [hpd, h19, hz]
      · simp -implicitDefEqProofs [hpd, h19, hz, e1, w1]
end Fw
