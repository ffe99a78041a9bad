/- Enclosed: the weights put together by index, in whatever order the map gives them. -/
import Derived.Test.YtbaedpfgjpkabaaGreatDoorChE2
set_option maxHeartbeats 8000000
namespace Fw
open Go
attribute [local irreducible] evCode evOps evOpsD evOper evOperD evOp evFn loopN T.All T.bind callPure callOp opsK opsDK restK seqK blockK loopS setK setQ giveK scalK gcK finish finS rfunK yldK yldB loopK
section
variable {C : Nat → List AVal → Option (T AVal)} {G : Nat → Option (List PVal)} {d : Nat}

theorem loop_allP {step : St → T (Ex × St)} (inv : Nat → St) (P : Nat → Prop) (n : Nat) {K : Ex × St → Prop} {st0 : St} (h0 : step st0 = step (inv 0)) (hP : P 0)
    (hstep : ∀ i, i < n → P i → (step (inv i)).All (fun r => (P (i + 1) ∧ r.1 = .normal ∧ step r.2 = step (inv (i + 1))) ∨ (r.1 ≠ .normal ∧ K r))) (hend : P n → (step (inv n)).All (fun r => r.1 ≠ .normal ∧ K r)) {fuel : Nat} (hf : n < fuel) :
    (loopN step fuel st0).All K := by
  have : ∀ k, k ≤ n → ∀ fuel st0, P (n - k) → step st0 = step (inv (n - k)) → k < fuel → (loopN step fuel st0).All K := by
    intro k
    induction k with
    | zero =>
      intro _ fuel st0 hP h0 hf
      obtain ⟨fuel, rfl⟩ : ∃ k, fuel = k + 1 := ⟨fuel - 1, by omega⟩
      rw [Nat.sub_zero] at hP
      rw [loopN_succ, h0, T.All_bind, Nat.sub_zero]
      refine T.All_mono (hend hP) (fun r hr => ?_)
      obtain ⟨ex, st⟩ := r
      cases ex with
      | normal => exact absurd rfl hr.1
      | exit id => rw [loopK_exit, All_ret]; exact hr.2
      | ret => rw [loopK_ret, All_ret]; exact hr.2
    | succ k ih =>
      intro hk fuel st0 hP h0 hf
      obtain ⟨fuel, rfl⟩ : ∃ k, fuel = k + 1 := ⟨fuel - 1, by omega⟩
      rw [loopN_succ, h0, T.All_bind]
      refine T.All_mono (hstep (n - (k + 1)) (by omega) hP) (fun r hr => ?_)
      obtain ⟨ex, st⟩ := r
      rcases hr with ⟨hp, h1, h2⟩ | ⟨h1, h2⟩
      · simp only at h1 h2
        subst h1
        rw [loopK_normal]
        exact ih (by omega) fuel st (by rw [show n - k = n - (k + 1) + 1 by omega]; exact hp) (by rw [h2, show n - (k + 1) + 1 = n - k by omega]) (by omega)
      · cases ex with
        | normal => exact absurd rfl h1
        | exit id => rw [loopK_exit, All_ret]; exact h2
        | ret => rw [loopK_ret, All_ret]; exact h2
  exact this n (Nat.le_refl _) fuel st0 (by rw [Nat.sub_self]; exact hP) (by rw [Nat.sub_self]; exact h0) hf

/-- one weight more at an index -/
theorem enc_yld (E : Env) (h12 : look E 12 = .ptr 2 0 0) (iter r0 : Obj) (M : List (Int × Int)) (x w : Int) (hb : asum M + w.natAbs ≤ 1000000000) :
    evFn F C G (d + 1) (.yld 3) [.p (.int .i64 x), .p (.int .i64 w)] [(4, iter), (3, .loop E [52, 53] c51A0 c51B0 none 0), (2, .box [.mp 1]), (1, .map (kA M) (kB M)), (0, r0)] =
    .ret (.p (.bool true), [(4, iter), (3, .loop E [52, 53] c51A0 c51B0 none 0), (2, .box [.mp 1]), (1, .map (kA (addE M x w)) (kB (addE M x w))), (0, r0)]) := by
  rw [evFn_yld (env := E) (ps := [52, 53]) (a := c51A0) (b := c51B0) rfl rfl]
  have hlk := look_kA M x
  cases hv : lookE M x with
  | none =>
    rw [hv] at hlk
    have hn := lookE_none hv w
    have h0 := asum_nonneg M
    have wz := wrap64 (n := 0 + w) (by omega) (by omega)
    simp at hlk
    simp [c51A0, h12]
    rw [yldK_eq (e2 := E) (p2 := [52, 53]) (a2 := c51A0) (b2 := c51B0) rfl]
    simp [c51B0, hlk]
    rw [yldB_normal rfl]
    rw [Int.zero_add] at wz
    simp [c51A0, hn, wz]
    exact ⟨kA_snoc .., kB_snoc ..⟩
  | some v =>
    rw [hv] at hlk
    have hn := set_kA hv w
    have hvb := look_bound hv
    have wz := wrap64 (n := v + w) (by omega) (by omega)
    simp at hlk
    simp [c51A0, h12]
    rw [yldK_eq (e2 := E) (p2 := [52, 53]) (a2 := c51A0) (b2 := c51B0) rfl]
    simp [c51B0, hlk]
    rw [yldB_normal rfl]
    simp [c51A0, hn, wz]

def encE (l : List (Int × Int)) (W : PVal) (D : Int) (at' v : Nat) : Env :=
  [(0, .p (.sl (cI l) l.length)), (4, .p .nils), (5, .p (.int .i64 0)), (8, .p W), (9, .p (.int .i64 D)), (10, .sl 0 v 0 v), (12, .ptr 2 0 0), (42, .p (.int .i64 l.length)), (43, .p (.int .i64 at')), (51, .p (.clo 181 [] [.pp [W], .pp [.int .i64 l.length], .pp [.int .i64 at']]))]

def encR (l : List (Int × Int)) (W : PVal) (D : Int) (at' v : Nat) (outs : List PVal) (M : List (Int × Int)) : Sto :=
  [(3, .loop (encE l W D at' v) [52, 53] c51A0 c51B0 none 0), (2, .box [.mp 1]), (1, .map (kA M) (kB M)), (0, .arr outs v 2)]

def encSt (l : List (Int × Int)) (W : PVal) (D : Int) (at' v : Nat) (outs : List PVal) (es : List (Int × Int)) (cur : Option (PVal × PVal)) (M : List (Int × Int)) : St :=
  ⟨[(0, .yld 3), (2, .p (.pp [.int .i64 l.length])), (3, .p (.pp [.int .i64 at'])), (8, .it 4)], (4, .miter (kA es) (kB es) cur) :: encR l W D at' v outs M⟩

@[simp] theorem encE_refs (l : List (Int × Int)) (W : PVal) (D : Int) (at' v : Nat) : refsE (encE l W D at' v) = [0, 2] := rfl

theorem encSt_gc (l : List (Int × Int)) (W : PVal) (D : Int) (at' v : Nat) (outs : List PVal) (es : List (Int × Int)) (cur : Option (PVal × PVal)) (M : List (Int × Int)) :
    gc 4 (restrict (encSt l W D at' v outs es cur M).env [0, 2, 3, 8]) (encSt l W D at' v outs es cur M).sto = (encSt l W D at' v outs es cur M).sto := by
  simp [encSt, encR]

theorem enc_step (l : List (Int × Int)) (W : PVal) (D : Int) (at' v : Nat) (outs : List PVal) (ha1 : at' < l.length) (hxl : l.length < 1000000) (es : List (Int × Int)) (hes : ∀ e ∈ es, -1000000 ≤ e.1 ∧ e.1 ≤ 1000000) (cur : Option (PVal × PVal)) (M : List (Int × Int)) (hb : asum M + asum es ≤ 1000000000) (hne : 0 < es.length) :
    (loopS (evFn F C G (d + 1)) C G 4 true [0, 2, 3, 8] c181L0 (encSt l W D at' v outs es cur M)).All (fun r => ∃ i, ∃ h : i < es.length, ∃ cur' M', M' = addE M (clampI at' es[i].1 l.length) es[i].2 ∧
      r = (.normal, ⟨(encSt l W D at' v outs (es.eraseIdx i) cur' M').env ++ [(24, .p (.bool false))], (encSt l W D at' v outs (es.eraseIdx i) cur' M').sto⟩)) := by
  rw [loopS_eq, if_pos rfl, encSt_gc]
  simp only [c181L0, encSt, ev_seq, ev_ops, evOps_cons, evOper_none, evOp, restrict, List.map, look, if_true, if_false, OfNat.ofNat, Nat.reduceEqDiff]
  rw [nxt_pick (id := 4) (ks := kA es) (vs := kB es) (cur := cur) rfl rfl (by simp) (by simpa using hne)]
  simp only [bind_pick, All_pick]
  refine ⟨by simpa using hne, fun i hi => ?_⟩
  have hi' : i < es.length := by simpa using hi
  rw [nxtK_eq (kA_get es i hi') (kB_get es i hi'), kA_erase, kB_erase]
  have hk1 := (hes es[i] (List.getElem_mem hi')).1
  have hk2 := (hes es[i] (List.getElem_mem hi')).2
  have hwb := asum_mem (List.getElem_mem hi')
  generalize hm : (if (at' : Int) + es[i].1 < (l.length : Int) - 1 then (at' : Int) + es[i].1 else (l.length : Int) - 1) = m
  have hmin : minInt (IntKind.i64.wrap (↑l.length - 1)) [AVal.p (PVal.int IntKind.i64 (IntKind.i64.wrap (↑at' + es[i].fst)))] = some m := by
    rw [wrap64 (n := (l.length : Int) - 1) (by omega) (by omega), wrap64 (n := (at' : Int) + es[i].1) (by omega) (by omega)]
    simp only [minInt, hm]
  have hmax : maxInt 0 [AVal.p (PVal.int IntKind.i64 m)] = some (clampI at' es[i].1 l.length) := by
    simp only [maxInt, clampI, hm]
  have hy := enc_yld (C := C) (G := G) (d := d) (encE l W D at' v) rfl (.miter (kA (es.eraseIdx i)) (kB (es.eraseIdx i)) (some (.int .i64 es[i].1, .int .i64 es[i].2))) (.arr outs v 2) M (clampI at' es[i].1 l.length) es[i].2 (by omega)
  refine T.All_mono (Q := fun r => r = (.normal, ⟨(encSt l W D at' v outs (es.eraseIdx i) (some (.int .i64 es[i].1, .int .i64 es[i].2)) (addE M (clampI at' es[i].1 l.length) es[i].2)).env ++ [(24, .p (.bool false))], (encSt l W D at' v outs (es.eraseIdx i) (some (.int .i64 es[i].1, .int .i64 es[i].2)) (addE M (clampI at' es[i].1 l.length) es[i].2)).sto⟩)) ?_ (fun r hr => ⟨i, hi', _, _, rfl, hr⟩)
  simp [encR, encSt, hmin, hmax, hy]

theorem enc_end (l : List (Int × Int)) (W : PVal) (D : Int) (at' v : Nat) (outs : List PVal) (cur : Option (PVal × PVal)) (M : List (Int × Int)) :
    loopS (evFn F C G (d + 1)) C G 4 true [0, 2, 3, 8] c181L0 (encSt l W D at' v outs [] cur M) = .ret (.exit 0, ⟨(encSt l W D at' v outs [] cur M).env ++ [(10, .p (.bool false))], (encSt l W D at' v outs [] cur M).sto⟩) := by
  rw [loopS_eq, if_pos rfl, encSt_gc]
  simp only [c181L0, encSt, ev_seq, ev_ops, evOps_cons, evOper_none, evOp, restrict, List.map, look, if_true, if_false, OfNat.ofNat, Nat.reduceEqDiff]
  rw [nxt_none (id := 4) (cur := cur) rfl rfl]
  simp [encR]

theorem enc_more (l : List (Int × Int)) (W : PVal) (D : Int) (at' v : Nat) (outs : List PVal) (es : List (Int × Int)) (cur : Option (PVal × PVal)) (M : List (Int × Int)) :
    loopS (evFn F C G (d + 1)) C G 4 true [0, 2, 3, 8] c181L0 ⟨(encSt l W D at' v outs es cur M).env ++ [(24, .p (.bool false))], (encSt l W D at' v outs es cur M).sto⟩ = loopS (evFn F C G (d + 1)) C G 4 true [0, 2, 3, 8] c181L0 (encSt l W D at' v outs es cur M) := by
  rw [loopS_eq, loopS_eq]
  rfl

/-- what the map is, whatever order was taken -/
def EncM (n at' : Nat) (M0 es M : List (Int × Int)) : Prop :=
  asum M ≤ asum M0 + asum es ∧ M.length ≤ M0.length + es.length ∧ (keysE M).Nodup ∧ (∀ k ∈ keysE M, 0 ≤ k ∧ k < n) ∧ ∀ h : Int → Int, dot h M = dot h M0 + dot (fun k => h (clampI at' k n)) es

theorem clamp_in (at' : Nat) (k : Int) {n : Nat} (h : 0 < n) : 0 ≤ clampI at' k n ∧ clampI at' k n < n := by
  simp only [clampI]
  split <;> split <;> omega

theorem enc_loop (l : List (Int × Int)) (W : PVal) (D : Int) (at' v : Nat) (outs : List PVal) (ha1 : at' < l.length) (hxl : l.length < 1000000) : ∀ (n : Nat) (es : List (Int × Int)), es.length = n → (∀ e ∈ es, -1000000 ≤ e.1 ∧ e.1 ≤ 1000000) → ∀ (cur : Option (PVal × PVal)) (M : List (Int × Int)) (fuel : Nat) (st : St), asum M + asum es ≤ 1000000000 → (keysE M).Nodup → (∀ k ∈ keysE M, 0 ≤ k ∧ k < l.length) → n < fuel →
    loopS (evFn F C G (d + 1)) C G 4 true [0, 2, 3, 8] c181L0 st = loopS (evFn F C G (d + 1)) C G 4 true [0, 2, 3, 8] c181L0 (encSt l W D at' v outs es cur M) →
    (loopN (loopS (evFn F C G (d + 1)) C G 4 true [0, 2, 3, 8] c181L0) fuel st).All (fun r => ∃ cur' M', EncM l.length at' M es M' ∧
      r = (.exit 0, ⟨(encSt l W D at' v outs [] cur' M').env ++ [(10, .p (.bool false))], (encSt l W D at' v outs [] cur' M').sto⟩)) := by
  intro n
  induction n with
  | zero =>
    intro es hn hes cur M fuel st hb hnd hks hf hst
    have : es = [] := List.eq_nil_of_length_eq_zero hn
    subst this
    obtain ⟨fuel, rfl⟩ : ∃ k, fuel = k + 1 := ⟨fuel - 1, by omega⟩
    rw [loopN_succ, hst, enc_end, bind_ret, loopK_exit, All_ret]
    exact ⟨cur, M, ⟨by simp [asum], by simp, hnd, hks, fun h => by simp [dot]⟩, rfl⟩
  | succ n ih =>
    intro es hn hes cur M fuel st hb hnd hks hf hst
    obtain ⟨fuel, rfl⟩ : ∃ k, fuel = k + 1 := ⟨fuel - 1, by omega⟩
    rw [loopN_succ, hst, T.All_bind]
    refine T.All_mono (enc_step l W D at' v outs ha1 hxl es hes cur M hb (by omega)) (fun r hr => ?_)
    obtain ⟨i, hi, cur', M', he, rfl⟩ := hr
    rw [loopK_normal]
    have ha := asum_addE M (clampI at' es[i].1 l.length) es[i].2
    have hee := asum_erase es i hi
    have hk := keys_addE M (clampI at' es[i].1 l.length) es[i].2
    have hlen : (es.eraseIdx i).length = n := by rw [List.length_eraseIdx]; simp [hi]; omega
    refine T.All_mono (ih (es.eraseIdx i) hlen (fun e he => hes e (List.mem_of_mem_eraseIdx he)) cur' M' fuel _ (by rw [he]; omega) (by rw [he]; exact nodup_addE hnd _ _) (fun k hm => by
      rw [he] at hm
      rcases (hk k).1 hm with h1 | h1
      · exact hks k h1
      · subst h1; exact clamp_in at' _ (by omega)) (by omega) (enc_more ..)) (fun r hr => ?_)
    obtain ⟨cur2, M2, ⟨h1, h1b, h2, h3, h4⟩, h5⟩ := hr
    refine ⟨cur2, M2, ⟨by rw [he] at h1; omega, ?_, h2, h3, fun h => ?_⟩, h5⟩
    · have := length_addE M (clampI at' es[i].1 l.length) es[i].2
      rw [he] at h1b; omega
    · rw [h4 h, he, dot_addE, dot_erase _ es i hi]; omega

theorem enc_tot (l : List (Int × Int)) (D : Int) (at' v : Nat) (outs : List PVal) (ha1 : at' < l.length) (hxl : l.length < 1000000) (es : List (Int × Int)) (hel : es.length < 1000000) (hes : ∀ e ∈ es, -1000000 ≤ e.1 ∧ e.1 ≤ 1000000) (hb : asum es ≤ 1000000000) :
    (evCode (evFn F C G (d + 2)) C G 0 (.rfun (.t 51) [52, 53] c51A0 c51B0) ⟨encE l (.map (kA es) (kB es)) D at' v, [(2, .box [.mp 1]), (1, .map [] []), (0, .arr outs v 2)]⟩).All
      (fun r => ∃ M, EncM l.length at' [] es M ∧ r = (.normal, ⟨encE l (.map (kA es) (kB es)) D at' v, [(2, .box [.mp 1]), (1, .map (kA M) (kB M)), (0, .arr outs v 2)]⟩)) := by
  rw [ev_rfun]
  have hc : callee (evOpd G (encE l (.map (kA es) (kB es)) D at' v)) (.val (.t 51)) = some (.fn 181, [], [.p (.pp [.map (kA es) (kB es)]), .p (.pp [.int .i64 l.length]), .p (.pp [.int .i64 at'])]) := rfl
  simp only [hc]
  rw [evFn_fn fe181]
  simp [nextId, c181]
  rw [T.All_bind, T.All_bind, T.All_bind]
  refine T.All_mono (enc_loop l (.map (kA es) (kB es)) D at' v outs ha1 hxl es.length es rfl hes none [] loopFuel _ (by simp only [asum]; omega) (by simp [keysE]) (by simp [keysE]) (by simp only [loopFuel]; omega) rfl) (fun r hr => ?_)
  obtain ⟨cur', M', h1, rfl⟩ := hr
  rw [blockK_exit, if_pos rfl, All_ret, finS_normal]
  simp [encSt]
  rw [rfunK_none rfl (by decide)]
  simp [encR]
  exact ⟨M', h1, rfl, rfl⟩
end
end Fw
