/- The indices at which a trace moves, by the reference. -/
import Derived.Test.YtdjkleaojdeepaaGreatDoorGaV1
set_option maxHeartbeats 16000000
namespace Fw
open Go
attribute [local irreducible] evCode evOps evOpsD evOper evOperD evOp evFn loopN T.All T.bind callPure callOp opsK opsDK restK seqK blockK loopS setK setQ giveK scalK gcK finish finS rfunK yldK yldB loopK

/-- is an index in one of the first spans? -/
def freF (g : List (Int × Int)) (v : Int) : Nat → Bool
  | 0 => false
  | k + 1 => freF g v k || (decide ((g.getD k (0, 0)).1 ≤ v) && decide (v < (g.getD k (0, 0)).2))
/-- the indices up to a round at which a trace moves outside of all spans -/
def mvF (l : List Int) (g : List (Int × Int)) : Nat → List Int
  | 0 => []
  | k + 1 => if l.getD (k + 1) 0 ≠ l.getD k 0 ∧ freF g (k + 1) g.length = false then mvF l g k ++ [(k : Int) + 1] else mvF l g k
theorem mvF_len (l : List Int) (g : List (Int × Int)) : ∀ k, (mvF l g k).length ≤ k := by
  intro k
  induction k with
  | zero => simp [mvF]
  | succ k ih =>
    simp only [mvF]
    split
    · simp only [List.length_append, List.length_cons, List.length_nil]; omega
    · omega
def inv46 (l : List Int) (g : List (Int × Int)) (acc : List Int) (v : Int) (b0 : Bool) (k : Nat) : St := ⟨[(0, isl l), (1, csl g), (5, .sl 0 acc.length 0 acc.length), (6, iv v), (7, .p (.bool (b0 || freF g v k))), (8, iv k)], [(0, .arr (pI acc) acc.length 1)]⟩
theorem inner46 {d : Nat} (l : List Int) (g : List (Int × Int)) (hg : g.length < 1000000) (acc : List Int) (v : Int) (b0 : Bool) :
    loopN (loopS (evFn F C0 G0 d) C0 G0 0 false [0, 1, 5, 6, 7, 8] c46L0) loopFuel (inv46 l g acc v b0 0) = .ret (.exit 2, ⟨(inv46 l g acc v b0 g.length).env ++ [(28, .p (.bool false))], (inv46 l g acc v b0 g.length).sto⟩) := by
  rw [loop_run (inv46 l g acc v b0) g.length (e := .exit 2) (st' := ⟨(inv46 l g acc v b0 g.length).env ++ [(28, .p (.bool false))], (inv46 l g acc v b0 g.length).sto⟩) (by simp)]
  · rfl
  · intro k hk
    have wk := wrap_succ (i := k) (by omega)
    have hlt : k * 2 < g.length * 2 := by omega
    have hltb : k * 2 + 1 < g.length * 2 := by omega
    have hdr := cI_drop g k hk
    have hdrb : (cI g).drop (k * 2 + 1) = .int .i64 g[k].2 :: cI (g.drop (k + 1)) := by
      rw [← List.drop_drop, hdr]; rfl
    have hgk : g.getD k (0, 0) = g[k] := by simp [List.getD_eq_getElem?_getD, hk]
    simp only [inv46, freF, hgk]
    generalize hA : cI g = A at *
    have hAl : A.length = g.length * 2 := by rw [← hA]; exact cI_len' g
    generalize cI (g.drop (k + 1)) = R2 at *
    generalize g[k] = x at *
    obtain ⟨a, b⟩ := x
    simp only at hdr hdrb ⊢
    cases hf : (b0 || freF g v k) with
    | true =>
      have : (b0 || (freF g v k || (decide (a ≤ v) && decide (v < b)))) = true := by rw [← Bool.or_assoc, hf]; rfl
      rw [this]
      simp -implicitDefEqProofs [loopS_eq, c46L0, hk, wk]
    | false =>
      have : (b0 || (freF g v k || (decide (a ≤ v) && decide (v < b)))) = (decide (a ≤ v) && decide (v < b)) := by rw [← Bool.or_assoc, hf]; rfl
      rw [this]
      by_cases h1 : a ≤ v
      · simp -implicitDefEqProofs [loopS_eq, c46L0, hk, hA, hAl, hlt, hdr, wk, h1]
      · simp -implicitDefEqProofs [loopS_eq, c46L0, hk, hA, hAl, hlt, hdr, wk, h1]
  · simp -implicitDefEqProofs [loopS_eq, c46L0, inv46]
  · simp [loopFuel]; omega
theorem moved46 {n : Nat} (hn : 1 ≤ n) (l : List Int) (hl : l.length < 1000000) (g : List (Int × Int)) (hg : g.length < 1000000) : RUN n 46 [isl l, csl g] = .ret (.own (pI (mvF l g (l.length - 1))) (mvF l g (l.length - 1)).length 1) := by
  obtain ⟨d, rfl⟩ : ∃ d, n = d + 1 := ⟨n - 1, by omega⟩
  rw [RUN, call_eq fe46 _ rfl]
  have hPl : ∀ a : List Int, (pI a).length = a.length := fun a => by simp [pI]
  let inv : Nat → St := fun k => ⟨[(0, isl l), (1, csl g), (5, .sl 0 (mvF l g k).length 0 (mvF l g k).length), (6, iv ((k : Int) + 1))], [(0, .arr (pI (mvF l g k)) (mvF l g k).length 1)]⟩
  have hloop : loopN (loopS (evFn F C0 G0 d) C0 G0 0 false [0, 1, 5, 6] c46L1) loopFuel ⟨[(0, isl l), (1, csl g), (5, .sl 0 0 0 0), (6, iv 1)], [(0, .arr [] 0 1)]⟩ = .ret (.exit 0, ⟨(inv (l.length - 1)).env ++ [(12, .p (.bool false))], (inv (l.length - 1)).sto⟩) := by
    rw [loop_run' inv (l.length - 1) (e := .exit 0) (st' := ⟨(inv (l.length - 1)).env ++ [(12, .p (.bool false))], (inv (l.length - 1)).sto⟩) (by simp)]
    · rfl
    · intro k hk
      have hk0 : k < l.length := by omega
      have hk1 : k + 1 < l.length := by omega
      have hml := mvF_len l g k
      have hlim : (mvF l g k).length + 1 ≤ lim := by simp only [lim]; omega
      have w1 := wrap64 (n := (k : Int) + 1 - 1) (by omega) (by omega)
      have w2 := wrap64 (n := (k : Int) + 1 + 1) (by omega) (by omega)
      have hs : (k : Int) + 1 - 1 = k := by omega
      rw [hs] at w1
      have hlt : (k : Int) + 1 < l.length := by omega
      have hn1 : ((k : Int) + 1).toNat = k + 1 := by omega
      have h0i : 0 ≤ (k : Int) + 1 := by omega
      have hd0 : (pI l).drop k = .int .i64 l[k] :: (pI l).drop (k + 1) := by
        rw [List.drop_eq_getElem_cons (by rw [hPl]; exact hk0)]; simp [pI]
      have hd1 : (pI l).drop (k + 1) = .int .i64 l[k + 1] :: (pI l).drop (k + 2) := by
        rw [List.drop_eq_getElem_cons (by rw [hPl]; exact hk1)]; simp [pI]
      have hg0 : l.getD k 0 = l[k] := by simp [List.getD_eq_getElem?_getD, hk0]
      have hg1 : l.getD (k + 1) 0 = l[k + 1] := by simp [List.getD_eq_getElem?_getD, hk1]
      have hin := inner46 (d := d) l g hg (mvF l g k) ((k : Int) + 1) (l[k + 1] == l[k])
      have hPs : pI (mvF l g k ++ [(k : Int) + 1]) = pI (mvF l g k) ++ [.int .i64 ((k : Int) + 1)] := by simp [pI]
      have hPk := hPl (mvF l g k)
      have hPl := hPl l
      simp only [inv, mvF, hg0, hg1]
      simp only [inv46, freF, Bool.or_false, Int.natCast_zero] at hin
      simp only [isl, csl] at *
      generalize hA : pI l = A at *
      generalize A.drop (k + 2) = R2 at *
      have hcast : (((k + 1 : Nat)) : Int) = (k : Int) + 1 := by omega
      simp only [hcast]
      generalize hf : freF g ((k : Int) + 1) g.length = f at *
      rw [hd1] at hd0
      by_cases he : l[k + 1] = l[k]
      · have heb : (l[k + 1] == l[k]) = true := by simpa using he
        rw [heb] at hin
        rw [if_neg (fun c => c.1 he)]
        generalize l[k] = x at *
        generalize l[k + 1] = y at *
        subst he
        generalize pI (mvF l g k) = Q at *
        generalize (mvF l g k).length = z at *
        refine ⟨?_, ?h1, ?h2⟩
        case h1 =>
          simp -implicitDefEqProofs [loopS_eq, c46L1, hk0, hk1, hlt, hn1, h0i, hPl, hd0, hd1, hs, w1]
          rw [hin]
          simp -implicitDefEqProofs [w2]
          exact rfl
        case h2 => rfl
      · have heb : (l[k + 1] == l[k]) = false := by simpa using he
        rw [heb] at hin
        generalize l[k] = x at *
        generalize l[k + 1] = y at *
        cases f with
        | true =>
          rw [if_neg (fun c => by cases c.2)]
          generalize pI (mvF l g k) = Q at *
          generalize (mvF l g k).length = z at *
          refine ⟨?_, ?h1, ?h2⟩
          case h1 =>
            simp -implicitDefEqProofs [loopS_eq, c46L1, hk0, hk1, hlt, hn1, h0i, hPl, hd0, hd1, hs, w1, heb]
            rw [hin]
            simp -implicitDefEqProofs [w2]
            exact rfl
          case h2 => rfl
        | false =>
          rw [if_pos ⟨he, rfl⟩]
          simp only [hPs, List.length_append, List.length_cons, List.length_nil, Nat.zero_add]
          generalize pI (mvF l g k) = Q at *
          generalize (mvF l g k).length = z at *
          refine ⟨?_, ?h1, ?h2⟩
          case h1 =>
            simp -implicitDefEqProofs [loopS_eq, c46L1, hk0, hk1, hlt, hn1, h0i, hPl, hd0, hd1, hs, w1, heb]
            rw [hin]
            simp -implicitDefEqProofs [w2, hlim, hPk]
            exact rfl
          case h2 => rfl
    · have hnl : ¬ (((l.length - 1 : Nat) : Int) + 1 < l.length) := by omega
      simp -implicitDefEqProofs [loopS_eq, c46L1, inv, hnl]
    · simp [loopFuel]; omega
  simp only [inv, isl, csl] at hloop ⊢
  have hPk := hPl (mvF l g (l.length - 1))
  generalize mvF l g (l.length - 1) = M at *
  simp -implicitDefEqProofs [c46]
  rw [hloop]
  simp -implicitDefEqProofs [hPk]
end Fw
