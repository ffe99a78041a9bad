/- The check of an act by the reference; waits and acts of a hall. -/
import Derived.Test.YtdjkleaojdeepaaGreatDoorGaH8
set_option maxHeartbeats 16000000
namespace Fw
open Go
attribute [local irreducible] evCode evOps evOpsD evOper evOperD evOp evFn loopN T.All T.bind callPure callOp opsK opsDK restK seqK blockK loopS setK setQ giveK scalK gcK finish finS rfunK yldK yldB loopK

theorem check25 {n : Nat} (hn : 4 ≤ n) (h : HallI) (hd1 : 1 ≤ h.doors) (hd2 : h.doors ≤ 8) (x : ActI) : RUN n 25 [ha h, aa x] = .ret (iv (actE h x)) := by
  obtain ⟨d, rfl⟩ : ∃ d, n = d + 4 := ⟨n - 4, by omega⟩
  rw [RUN, call_eq fe25 _ rfl]
  have kr := range24 (n := d + 3) (by omega) x.tick 0 100000000
  have k2 := fun a b => first23_2 (n := d + 3) (by omega) a b
  have kk := kinds95 (n := d + 3) (by omega)
  have kw := word71 (n := d + 3) (by omega) kindL x.kind (by decide)
  have kn := fun b e => when94 (n := d + 3) (by omega) b e
  have kd := door96 (n := d + 3) (by omega) x.kind
  have kq := key97 (n := d + 3) (by omega) x.kind
  have kv := values79 (n := d + 3) (by omega) x.a x.b x.c
  unfold actE numsE
  have hex : ∀ b, doorB x.kind = true → keyB x.kind = b → b = false := fun b h1 h2 => by
    subst h2
    unfold doorB at h1
    simp only [Bool.or_eq_true, beq_iff_eq] at h1
    rcases h1 with ((h1 | h1) | h1) | h1 <;> rw [h1] <;> decide
  have hme : x.kind = kMeasure → (x.kind == kMeasure) = true := fun h => by simp [h]
  have hmn : ¬ x.kind = kMeasure → (x.kind == kMeasure) = false := fun h => by simpa using h
  have hz : (!zerB x.a x.b x.c) = (!x.a == 0 || (!x.b == 0 || !x.c == 0)) := by simp only [zerB, Bool.not_and]
  simp only [hz]
  have hK : strL kindL = .p (.sl (pStr kindL) 10) := rfl
  rw [hK] at kk
  have hK2 : strL kindL = .p (.sl (pStr kindL) 10) := rfl
  simp only [hK2] at kw
  generalize hE : rangeE 0 100000000 x.tick = e0 at *
  generalize hV : valE x.a x.b x.c = V at *
  have ws : IntKind.i64.wrap (h.doors - 1) = h.doors - 1 := wrap64 (by omega) (by omega)
  have hin : decide (x.kind ∈ kindL) = true ∨ decide (x.kind ∈ kindL) = false := by cases decide (x.kind ∈ kindL) <;> simp
  obtain ⟨t, k, m, a, b, c⟩ := x
  simp only at *
  generalize pStr kindL = PK at *
  by_cases h0 : e0 = 0
  · subst h0
    by_cases hk : k ∈ kindL
    · have hk' : decide (k ∈ kindL) = true := by simpa using hk
      rw [hk'] at kw
      rw [if_neg (by simp), if_neg (by simpa using hk)]
      generalize kindL = KL at *
      cases hdb : doorB k with
      | true =>
        have hkb := hex _ hdb rfl
        rw [hdb] at kd; rw [hkb] at kq
        by_cases c1 : m < 0
        · simp -implicitDefEqProofs [c25, kr, k2, kk, kw, kn, kd, kq, whenE, firstE, ws, c1]
        · by_cases c2 : h.doors ≤ m
          · have c3 : h.doors - 1 < m := by omega
            simp -implicitDefEqProofs [c25, kr, k2, kk, kw, kn, kd, kq, whenE, firstE, ws, c1, c2, c3]
          · have c3 : ¬ h.doors - 1 < m := by omega
            by_cases hm : k = kMeasure
            · rw [hm] at hdb; cases hdb
            · have hm' := hmn hm
              simp -implicitDefEqProofs [c25, kr, k2, kk, kw, kn, kd, kq, whenE, firstE, ws, c1, c2, c3, strBin, hm, hm']
      | false =>
        rw [hdb] at kd
        cases hkb : keyB k with
        | true =>
          rw [hkb] at kq
          by_cases c1 : m < 0
          · simp -implicitDefEqProofs [c25, kr, k2, kk, kw, kn, kd, kq, whenE, firstE, c1]
          · by_cases c2 : 2 ≤ m
            · have c3 : 1 < m := by omega
              simp -implicitDefEqProofs [c25, kr, k2, kk, kw, kn, kd, kq, whenE, firstE, c1, c2, c3]
            · have c3 : ¬ 1 < m := by omega
              by_cases hm : k = kMeasure
              · rw [hm] at hkb; cases hkb
              · have hm' := hmn hm
                simp -implicitDefEqProofs [c25, kr, k2, kk, kw, kn, kd, kq, whenE, firstE, c1, c2, c3, strBin, hm, hm']
        | false =>
          rw [hkb] at kq
          by_cases c1 : m < 0
          · simp -implicitDefEqProofs [c25, kr, k2, kk, kw, kn, kd, kq, whenE, firstE, c1]
          · by_cases c2 : 1 ≤ m
            · have c3 : 0 < m := by omega
              simp -implicitDefEqProofs [c25, kr, k2, kk, kw, kn, kd, kq, whenE, firstE, c1, c2, c3]
            · have c3 : ¬ 0 < m := by omega
              by_cases hm : k = kMeasure
              · have hm' := hme hm
                simp -implicitDefEqProofs [c25, kr, k2, kk, kw, kn, kd, kq, whenE, firstE, c1, c2, c3, strBin, hm', kv]
                simp [hm]
              · have hm' := hmn hm
                simp -implicitDefEqProofs [c25, kr, k2, kk, kw, kn, kd, kq, whenE, firstE, c1, c2, c3, strBin, hm, hm']
    · have hk' : decide (k ∈ kindL) = false := by simpa using hk
      rw [hk'] at kw
      rw [if_neg (by simp), if_pos (by simpa using hk)]
      generalize kindL = KL at *
      simp -implicitDefEqProofs [c25, kr, k2, kk, kw, kn, whenE, firstE]
  · rw [if_pos (by simpa using h0)]
    have k2' := fun b => k2 e0 b
    have hf : ∀ b, firstE [e0, b] = e0 := fun b => by simp [firstE, h0]
    simp only [hf] at k2'
    cases hk' : decide (k ∈ kindL) <;> rw [hk'] at kw <;> generalize kindL = KL at * <;> simp -implicitDefEqProofs [c25, kr, k2', kk, kw, kn, h0]
/-- the steps of a valid table -/
theorem tab_of {l : List (Int × Int)} (h : tabE l = 0) : (∀ i, i < l.length → 0 ≤ (l.getD i (0, 0)).2) ∧ ∀ i, i + 1 < l.length → (l.getD i (0, 0)).2 ≤ (l.getD (i + 1) (0, 0)).2 := by
  unfold tabE at h
  split at h
  · cases h
  · split at h
    · cases h
    · have hE := firstE_zero.1 h
      have hst : ∀ i, i < l.length → stE (prvL l i) (l.getD i (0, 0)) (decide (i = 0)) = 0 := fun i hi => hE _ (List.mem_map.2 ⟨i, List.mem_range.2 hi, rfl⟩)
      refine ⟨fun i hi => ?_, fun i hi => ?_⟩
      · have h2 := firstE_zero.1 (hst i hi) (rangeE 0 1000000 (l.getD i (0, 0)).2) (by simp)
        unfold rangeE at h2
        split at h2
        · cases h2
        · omega
      · have h3 := firstE_zero.1 (hst (i + 1) hi) (whenE (ordB (prvL l (i + 1)) (l.getD (i + 1) (0, 0)) (decide (i + 1 = 0))) 11) (by simp)
        cases ho : ordB (prvL l (i + 1)) (l.getD (i + 1) (0, 0)) (decide (i + 1 = 0)) with
        | true => rw [ho] at h3; cases h3
        | false =>
          simp only [ordB, Bool.or_eq_false_iff, decide_eq_false_iff_not] at ho
          have := ho.2
          simp only [prvL] at this
          omega
theorem wt_same (l : List (Int × Int)) (hl : tabE l = 0) (v acc : Int) (ha : 0 ≤ acc) : wtP l v acc l.length = max acc (wtR l v l.length) := by
  obtain ⟨h1, h2⟩ := tab_of hl
  have key : ∀ i, i ≤ l.length → wtP l v acc i = max acc (wtR l v i) ∧ 0 ≤ wtR l v i ∧ (i < l.length → wtR l v i ≤ (l.getD i (0, 0)).2) := by
    intro i
    induction i with
    | zero => intro _; exact ⟨by simp only [wtP, wtR]; omega, Int.le_refl _, fun h => h1 0 h⟩
    | succ i ih =>
      intro hi
      obtain ⟨a, b, c⟩ := ih (by omega)
      have c := c (by omega)
      have hb := h1 i (by omega)
      simp only [wtP, wtR]
      by_cases hv : (l.getD i (0, 0)).1 ≤ v
      · rw [if_pos hv, if_pos hv, a]
        exact ⟨by omega, hb, fun h => h2 i h⟩
      · rw [if_neg hv, if_neg hv]
        exact ⟨a, b, fun h => by have := h2 i h; omega⟩
  exact (key _ (Nat.le_refl _)).1
theorem wait_same (h : HallI) (hz : hallE h = 0) (a b c : Int) : waitP h a b c = waitR h a b c := by
  have hE := firstE_zero.1 hz
  have n0 := wt_same h.t0 (hE _ (by simp)) a 0 (by omega)
  unfold waitP waitR
  rw [n0]
  have n1 := wt_same h.t1 (hE _ (by simp)) b (max 0 (wtR h.t0 a h.t0.length)) (by omega)
  rw [n1]
  exact wt_same h.t2 (hE _ (by simp)) c _ (by omega)
/-- the doors of a valid hall -/
theorem doors_of {h : HallI} (hz : hallE h = 0) : 1 ≤ h.doors ∧ h.doors ≤ 8 := by
  have := firstE_zero.1 hz (rangeE 1 8 h.doors) (by simp)
  unfold rangeE at this
  split at this
  · cases this
  · omega
end Fw
