/- A run of acts by the program: the states after them, or the first act that is not permitted. -/
import Derived.Test.YtdjkleaojdeepaaGreatDoorGaR8
set_option maxHeartbeats 16000000
namespace Fw
open Go
attribute [local irreducible] evCode evOps evOpsD evOper evOperD evOp evFn loopN T.All T.bind callPure callOp opsK opsDK restK seqK blockK loopS setK setQ giveK scalK gcK finish finS rfunK yldK yldB loopK

theorem bg_ok : StOk bgS := ⟨by decide, by decide, by decide, by decide⟩
theorem run161 {d : Nat} (h : HallI) (hh : HallOk h) (l : List ActI) (hl : l.length < 50000) (hx : ∀ x ∈ l, ActOk x) :
    ∃ X, evFn F C0 G0 (d + 7) (.fn 161) [.yld 3, .p (capL l), .p (capH h)] ((3, qLoop h l none 0) :: pR h []) = .ret (.tup [], X ++ (3, qLoop h l none 0) :: pR h (runH h l).1) ∧ ((∃ c4, X = [(4, .arr c4 0 1)]) ∨ ∃ c5 c4, X = [(5, .arr c5 0 1), (4, .arr c4 0 1)]) := by
  obtain ⟨e, env, X, h1, h2, h3⟩ := loop161 (d := d) h hh l hl hx l 0 bgS [] loopFuel rfl (by omega) bg_ok (by simp; omega) (by simp [loopFuel]; omega)
  refine ⟨X, ?_, h3⟩
  rw [evFn_fn fe161]
  have kb := begin138 (n := d + 6) (by omega)
  simp only [List.nil_append] at h1
  rw [show runG h.base (wP h) bgS l = runH h l from rfl] at h1
  generalize hS : X ++ (3, qLoop h l none 0) :: pR h (runH h l).1 = S2 at *
  have hrq := refs_qLoop h l none 0
  simp only [P6] at h1
  generalize qLoop h l none 0 = QL at *
  have e0 : pR h [] = [(2, .box [.sl 1 0 0 0]), (1, .arr [] 0 15), (0, .box [iv h.doors, iv h.base, csl h.t0, csl h.t1, csl h.t2])] := rfl
  rw [e0] at h1 ⊢
  simp only [capH, capL, asl, csl, sc, bgS, iv] at *
  generalize cI h.t0 = A0 at *
  generalize cI h.t1 = A1 at *
  generalize cI h.t2 = A2 at *
  generalize rowC ac l = A at *
  simp only [Int.natCast_zero] at h1
  rcases h2 with rfl | rfl
  · simp -implicitDefEqProofs [c161, kb, -refsO]
    rw [h1]
    simp
  · simp -implicitDefEqProofs [c161, kb, -refsO]
    rw [h1]
    simp

abbrev nilS : AVal := .p (.sl [] 0)
def folR (h : HallI) (l : List ActI) : AVal :=
  if actsE h l ≠ 0 then .tup [nilS, iv 0, iv (actsE h l)] else if (runH h l).2 = true then .tup [.own (rowC sc (runH h l).1) (runH h l).1.length 15, iv 0, iv 0] else .tup [nilS, iv (runH h l).1.length, iv 21]
/-- an act that is right in a valid hall -/
theorem act_ok {h : HallI} (hd : h.doors ≤ 8) {x : ActI} (he : actE h x = 0) : ActOk x := by
  unfold actE at he
  split at he
  · omega
  · rename_i h0
    split at he
    · cases he
    · rename_i h1
      split at he
      · cases he
      · rename_i h2
        have h0 : rangeE 0 100000000 x.tick = 0 := by simpa using h0
        unfold rangeE at h0
        split at h0
        · cases h0
        · refine ⟨⟨by simpa using h1, fun e => ?_, fun e => ?_⟩, by omega, by omega⟩
          · simp only [numsE, e, if_true] at h2; omega
          · have hd : doorB x.kind = false := by
              cases hq : doorB x.kind with
              | false => rfl
              | true =>
                unfold doorB at hq
                simp only [Bool.or_eq_true, beq_iff_eq] at hq
                rcases hq with ((hq | hq) | hq) | hq <;> rw [hq] at e <;> exact absurd e (by decide)
            simp only [numsE, hd, Bool.false_eq_true, if_false, e, if_true] at h2; omega
theorem acts_ok {h : HallI} {l : List ActI} (he : actsE h l = 0) : hallE h = 0 ∧ l.length ≤ 1000 ∧ ∀ x ∈ l, actE h x = 0 := by
  unfold actsE at he
  split at he
  · rename_i h0
    have h1 := firstE_zero.1 h0 (hallE h) (by simp)
    have h2 := firstE_zero.1 h0 (whenE (decide (1000 < l.length)) 5) (by simp)
    refine ⟨h1, ?_, fun x hx => ?_⟩
    · by_cases h3 : 1000 < l.length
      · simp [whenE, h3] at h2
      · omega
    · obtain ⟨i, hi, rfl⟩ := List.getElem_of_mem hx
      have := firstE_zero.1 he _ (List.mem_map.2 ⟨i, List.mem_range.2 hi, rfl⟩)
      rwa [getA hi] at this
  · rename_i h0; exact absurd he h0
theorem tab_le {l : List (Int × Int)} (h : tabE l = 0) : ∀ i, i < l.length → (l.getD i (0, 0)).2 ≤ 1000000 := by
  unfold tabE at h
  split at h
  · cases h
  · split at h
    · cases h
    · have hE := firstE_zero.1 h
      intro i hi
      have h2 := firstE_zero.1 (hE (stE (prvL l i) (l.getD i (0, 0)) (decide (i = 0))) (List.mem_map.2 ⟨i, List.mem_range.2 hi, rfl⟩)) (rangeE 0 1000000 (l.getD i (0, 0)).2) (by simp)
      unfold rangeE at h2
      split at h2
      · cases h2
      · omega
theorem wtP_le {l : List (Int × Int)} (h : ∀ i, i < l.length → (l.getD i (0, 0)).2 ≤ 1000000) (v acc : Int) (ha : 0 ≤ acc ∧ acc ≤ 1000000) : ∀ i, i ≤ l.length → 0 ≤ wtP l v acc i ∧ wtP l v acc i ≤ 1000000 := by
  intro i
  induction i with
  | zero => intro _; exact ha
  | succ i ih =>
    intro hi
    have h1 := ih (by omega)
    have h2 := h i (by omega)
    simp only [wtP]
    split <;> omega
theorem hall_ok {h : HallI} (hz : hallE h = 0) (q0 : h.t0.length < 1000000) (q1 : h.t1.length < 1000000) (q2 : h.t2.length < 1000000) : HallOk h := by
  have hE := firstE_zero.1 hz
  have hb := hE (rangeE 0 1000000 h.base) (by simp)
  unfold rangeE at hb
  split at hb
  · cases hb
  · refine ⟨q0, q1, q2, by omega, by omega, fun a b c => ?_⟩
    unfold waitP
    have h0 := wtP_le (tab_le (hE _ (by simp) : tabE h.t0 = 0)) a 0 (by omega) h.t0.length (Nat.le_refl _)
    have h1 := wtP_le (tab_le (hE _ (by simp) : tabE h.t1 = 0)) b _ h0 h.t1.length (Nat.le_refl _)
    exact wtP_le (tab_le (hE _ (by simp) : tabE h.t2 = 0)) c _ h1 h.t2.length (Nat.le_refl _)

theorem followed88 {n : Nat} (hn : 9 ≤ n) (h : HallI) (q0 : h.t0.length < 1000000) (q1 : h.t1.length < 1000000) (q2 : h.t2.length < 1000000) (l : List ActI) (hl : l.length < 50000) : RUN n 88 [ha h, asl l] = .ret (folR h l) := by
  obtain ⟨d, rfl⟩ : ∃ d, n = d + 9 := ⟨n - 9, by omega⟩
  rw [RUN, call_eq fe88 _ rfl]
  have ke := acts86 (n := d + 8) (by omega) h q0 q1 q2 l (by omega)
  have ks := states137 (n := d + 8) (by omega) h l
  unfold folR
  by_cases h0 : actsE h l = 0
  · obtain ⟨z1, z2, z3⟩ := acts_ok h0
    have hd := (doors_of z1).2
    obtain ⟨X, r1, r2⟩ := run161 (d := d + 1) h (hall_ok z1 q0 q1 q2) l hl (fun x hx => act_ok hd (z3 x hx))
    have hlen := runG_len h.base (wP h) l bgS
    rw [show runG h.base (wP h) bgS l = runH h l from rfl] at hlen
    obtain ⟨g1, g2⟩ := hlen
    rw [h0] at ke
    rw [if_neg (by simpa using h0)]
    have r1 : evFn F C0 G0 (d + 8) (.fn 161) [.yld 3, .p (capL l), .p (capH h)] ((3, qLoop h l none 0) :: pR h []) = .ret (.tup [], X ++ (3, qLoop h l none 0) :: pR h (runH h l).1) := r1
    have e0 : pR h [] = [(2, .box [.sl 1 0 0 0]), (1, .arr [] 0 15), (0, .box [iv h.doors, iv h.base, csl h.t0, csl h.t1, csl h.t2])] := rfl
    rw [e0] at r1
    have hR := sR_len (runH h l).1
    have hlt : if (runH h l).2 = true then l.length ≤ (runH h l).1.length else (runH h l).1.length < l.length := by
      cases hb : (runH h l).2 with
      | true => have := g2.1 hb; simp only [if_true]; omega
      | false =>
        have : ¬ (runH h l).1.length = l.length := fun e => by rw [g2.2 e] at hb; cases hb
        simp only [Bool.false_eq_true, if_false]; omega
    simp only [qLoop, pR, capH, capL, ha, csl, asl] at *
    generalize cI h.t0 = A0 at *
    generalize cI h.t1 = A1 at *
    generalize cI h.t2 = A2 at *
    generalize rowC ac l = A at *
    generalize rowC sc (runH h l).1 = B at *
    generalize (runH h l).2 = w at *
    generalize (runH h l).1.length = y at *
    rcases r2 with ⟨c4, rfl⟩ | ⟨c5, c4, rfl⟩
    · cases w <;> simp only [Bool.false_eq_true, if_false, if_true] at hlt <;> simp -implicitDefEqProofs [c88, ke, ks, r1, hlt, hR, rfunK, callee]
    · cases w <;> simp only [Bool.false_eq_true, if_false, if_true] at hlt <;> simp -implicitDefEqProofs [c88, ke, ks, r1, hlt, hR, rfunK, callee]
  · rw [if_pos h0]
    generalize actsE h l = e at *
    simp only [ha, csl, asl] at *
    generalize cI h.t0 = A0 at *
    generalize cI h.t1 = A1 at *
    generalize cI h.t2 = A2 at *
    generalize rowC ac l = A at *
    simp -implicitDefEqProofs [c88, ke, h0]
end Fw
