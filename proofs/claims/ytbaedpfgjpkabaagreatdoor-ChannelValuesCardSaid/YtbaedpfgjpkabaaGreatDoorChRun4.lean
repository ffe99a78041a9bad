import Derived.Test.YtbaedpfgjpkabaaGreatDoorChLib
set_option maxHeartbeats 8000000
namespace Fw
open Go
attribute [local irreducible] evCode evOps evOpsD evOper evOperD evOp evFn loopN T.All T.bind callPure callOp opsK opsDK restK seqK blockK loopS setK setQ giveK scalK gcK finish finS rfunK yldK yldB loopK
section
variable {C : Nat → List AVal → Option (T AVal)} {G : Nat → Option (List PVal)} {d : Nat}

def unitO (b : Nat) : Option Int := match FloatKind.f32.format.mul 1098907648 b with
  | some r => match (FloatKind.f32.decode r).toInt .zero with
    | some n => if IntKind.i64.min ≤ n ∧ n ≤ IntKind.i64.max then some n else none
    | none => none
  | none => none

def sampleO (n : Int) : Option Nat := FloatKind.f32.format.div (FloatKind.f32.nearest n) 1098907648

def pF (l : List Nat) : List PVal := l.map (.flt .f32)

theorem unit_ok (hC : ∀ as, C 155 as = none) {b : Nat} {n : Int} (h : unitO b = some n) : callPure (evFn F C G (d + 1)) C (.fn 155) [.p (.flt .f32 b)] = .ret (.p (.int .i64 n)) := by
  rw [call_eq fe155 _ (hC _)]
  unfold unitO at h
  split at h
  · rename_i r hr
    split at h
    · rename_i m hm
      split at h
      · rename_i hb
        cases h
        have h0 : -9223372036854775808 ≤ n := hb.1
        have h1 : n ≤ 9223372036854775807 := hb.2
        simp [c155, fltBin, hr, hm, hb.1, h1]
      · cases h
    · cases h
  · cases h

theorem sample_ok (hC : ∀ as, C 154 as = none) {n : Int} {b : Nat} (h : sampleO n = some b) : callPure (evFn F C G (d + 1)) C (.fn 154) [.p (.int .i64 n)] = .ret (.p (.flt .f32 b)) := by
  rw [call_eq fe154 _ (hC _)]
  unfold sampleO at h
  simp [c154, fltBin, h]

theorem range_ok (hC : ∀ as, C 177 as = none) (hC' : ∀ as, C 104 as = none) (n : Int) : callPure (evFn F C G (d + 2)) C (.fn 177) [.p (.int .i64 n)] = .ret (.p (.int .i64 (if n < -16384 ∨ 16384 < n then 4 else 0))) := by
  rw [call_eq fe177 _ (hC _)]
  have hw := fun b e => when_ok (G := G) (d := d) hC' b e
  by_cases h1 : n < -16384 <;> by_cases h2 : 16384 < n <;> simp [c177, h1, h2, hw]

theorem m175 : c175 = mapC (.p (.int .i64 0)) 8 := rfl
theorem m131 : c131 = mapC (.p (.int .i64 0)) 8 := rfl
theorem m178 : c178 = mapC (.p (.flt .f32 0)) 4 := rfl
theorem m103 : c103 = firstC := rfl

def unitsO : List PVal → Option (List Int)
  | [] => some []
  | .flt .f32 b :: r => match unitO b, unitsO r with
    | some n, some l => some (n :: l)
    | _, _ => none
  | _ => none

def unitP (p : PVal) : PVal := match p with
  | .flt .f32 b => .int .i64 ((unitO b).getD 0)
  | _ => .int .i64 0

theorem unitsO_spec : ∀ {cs : List PVal} {xs : List Int}, unitsO cs = some xs → pI xs = cs.map unitP ∧ ∀ c ∈ cs, ∃ b n, c = .flt .f32 b ∧ unitO b = some n ∧ unitP c = .int .i64 n := by
  intro cs
  induction cs with
  | nil => intro xs h; cases h; exact ⟨rfl, fun c hc => by cases hc⟩
  | cons c r ih =>
    intro xs h
    unfold unitsO at h
    split at h
    · cases ‹_ :: _ = []›
    · rename_i b r' he
      cases he
      split at h
      · rename_i n l hn hl
        cases h
        obtain ⟨h1, h2⟩ := ih hl
        refine ⟨by simp only [pI, List.map_cons, unitP, hn, Option.getD_some]; rw [← h1]; rfl, fun c hc => ?_⟩
        rcases List.mem_cons.1 hc with e | e
        · subst e; exact ⟨b, n, rfl, hn, by simp [unitP, hn]⟩
        · exact h2 c e
      · cases h
    · cases h

theorem units_ok (hC : ∀ as, C 115 as = none) (hC1 : ∀ as, C 175 as = none) (hC2 : ∀ as, C 155 as = none) {cs : List PVal} {xs : List Int} (h : unitsO cs = some xs) (hl : cs.length < 1000000) :
    callPure (evFn F C G (d + 3)) C (.fn 115) [.p (.sl cs cs.length)] = .ret (.p (.sl (pI xs) cs.length)) := by
  obtain ⟨h1, h2⟩ := unitsO_spec h
  rw [call_eq fe115 _ (hC _)]
  have hm := map_ok (C := C) (G := G) (d := d + 1) (m175 ▸ fe175) (by decide) hC1 cs 155 [] unitP hl (by simp) (fun c hc => by
    obtain ⟨b, n, rfl, hn, hu⟩ := h2 c hc
    rw [hu]
    exact ⟨unit_ok hC2 hn, rfl⟩)
  simp [c115, hm, h1]

def runE0 (W : PVal) (D : Int) (_xs : List Int) : Env := [(1, .p W), (2, .p (.int .i64 D)), (6, .p .nils), (7, .p (.int .i64 0)), (8, .ptr 0 0 0)]

/-- what the program makes of each index -/
def runOut (xs : List Int) (es : List (Int × Int)) (D : Int) (a : Nat) : Int := nearI (IntKind.i64.wrap (wsum xs a es)) D

def runInv (W : PVal) (D : Int) (xs outs : List Int) (i : Nat) : St :=
  ⟨[(1, .p W), (2, .p (.int .i64 D)), (6, .p .nils), (7, .p (.int .i64 0)), (8, .ptr 0 0 0), (9, .sl 1 i 0 i), (18, .p (.int .i64 xs.length)), (19, .p (.int .i64 i))], [(1, .arr (pI (outs.take i)) i 1), (0, .box [.p (.sl (pI xs) xs.length)])]⟩


theorem padded_ok (hC : ∀ as, C 136 as = none) (es : List (Int × Int)) (a n : Int) : callPure (evFn F C G (d + 1)) C (.fn 136) [.p (.map (kA es) (kB es)), .p (.int .i64 a), .p (.int .i64 n)] = .ret (.p (.clo 181 [] [.pp [.map (kA es) (kB es)], .pp [.int .i64 n], .pp [.int .i64 a]])) := by
  rw [call_eq fe136 _ (hC _)]
  simp [c136]

theorem run_round (hC : ∀ f ∈ [136, 181, 270, 268], ∀ as, C f as = none) (hG : G 4 = some [.clo 270 [] []]) (D : Int) (xs : List Int) (outs : List Int) (es : List (Int × Int)) (hel : es.length < 1000000) (hes : ∀ e ∈ es, -1000000 ≤ e.1 ∧ e.1 ≤ 1000000) (hxl : xs.length < 1000000)
    (hD : 0 < D) (hD2 : D ≤ 1099511627776) (hol : outs.length = xs.length) (i : Nat) (hi : i < xs.length) (ho : outs[i]? = some (runOut xs es D i)) (hb : -1099511627776 ≤ IntKind.i64.wrap (wsum xs i es) ∧ IntKind.i64.wrap (wsum xs i es) ≤ 1099511627776) :
    (loopS (evFn F C G (d + 2)) C G 0 true [1, 2, 6, 7, 8, 9, 18, 19] c123L1 (runInv (.map (kA es) (kB es)) D xs outs i)).All (fun r => r = (.normal, ⟨(runInv (.map (kA es) (kB es)) D xs outs (i + 1)).env, (2, .arr [.int .i64 (IntKind.i64.wrap (wsum xs i es))] 0 1) :: (runInv (.map (kA es) (kB es)) D xs outs (i + 1)).sto⟩)) := by
  have hgc : gc 0 (restrict (runInv (.map (kA es) (kB es)) D xs outs i).env [1, 2, 6, 7, 8, 9, 18, 19]) (runInv (.map (kA es) (kB es)) D xs outs i).sto = (runInv (.map (kA es) (kB es)) D xs outs i).sto := by
    simp [runInv]
  rw [loopS_eq, if_pos rfl, hgc]
  have hp := fun (a n : Int) => padded_ok (C := C) (G := G) (d := d + 1) (hC 136 (by simp)) es a n
  have hn := near_ok (C := C) (G := G) (d := d) (fun f as => by
    by_cases h : f = 268
    · subst h; exact .inl (hC 268 (by simp) as)
    · by_cases h' : f = 270
      · subst h'; exact .inl (hC 270 (by simp) as)
      · exact .inr ⟨h, h'⟩) (IntKind.i64.wrap (wsum xs i es)) D hD hD2 hb.1 hb.2
  have hlim : i + 1 ≤ lim := by simp only [lim]; omega
  have hmin : min i outs.length = i := by omega
  have htake : outs.take (i + 1) = outs.take i ++ [runOut xs es D i] := by
    rw [List.take_add_one, ho]; rfl
  simp [c123L1, runInv, hi, hp, -ev_rfun]
  simp only [T.All_bind]
  refine T.All_mono (run_sum D xs i i (pI (outs.take i)) hi hxl es hel hes) (fun r hr => ?_)
  subst hr
  simp [runE, hG, hn, runOut, htake, pI_snoc, hlim, hmin, wrap_succ (i := i) (by omega)]

theorem run_next (W : PVal) (D : Int) (xs outs : List Int) (i : Nat) (x : Int) : loopS (evFn F C G d) C G 0 true [1, 2, 6, 7, 8, 9, 18, 19] c123L1 ⟨(runInv W D xs outs i).env, (2, .arr [.int .i64 x] 0 1) :: (runInv W D xs outs i).sto⟩ = loopS (evFn F C G d) C G 0 true [1, 2, 6, 7, 8, 9, 18, 19] c123L1 (runInv W D xs outs i) := by
  rw [loopS_eq, loopS_eq]
  congr 2

theorem run_stop (W : PVal) (D : Int) (xs outs : List Int) : loopS (evFn F C G d) C G 0 true [1, 2, 6, 7, 8, 9, 18, 19] c123L1 (runInv W D xs outs xs.length) = .ret (.exit 0, ⟨(runInv W D xs outs xs.length).env ++ [(20, .p (.bool false))], (runInv W D xs outs xs.length).sto⟩) := by
  rw [loopS_eq]
  simp [runInv, c123L1]

theorem run_stop' (W : PVal) (D : Int) (xs outs : List Int) : (loopS (evFn F C G d) C G 0 true [1, 2, 6, 7, 8, 9, 18, 19] c123L1 (runInv W D xs outs xs.length)).All (fun r => r.1 ≠ .normal ∧ r = (.exit 0, ⟨(runInv W D xs outs xs.length).env ++ [(20, .p (.bool false))], (runInv W D xs outs xs.length).sto⟩)) := by
  rw [run_stop, All_ret]
  exact ⟨by simp, rfl⟩

/-- contract -/
def entO : List PVal → List PVal → Option (List (Int × Int))
  | [], [] => some []
  | .int .i64 k :: r, .int .i64 v :: q => match entO r q with
    | some l => if -1000000 ≤ k ∧ k ≤ 1000000 then some ((k, v) :: l) else none
    | none => none
  | _, _ => none

def samplesO : List Int → Option (List Nat)
  | [] => some []
  | n :: r => match sampleO n, samplesO r with
    | some b, some l => some (b :: l)
    | _, _ => none

def runC : Con := fun as => match as with
  | [.p (.sl l n), .p (.map ks vs), .p (.int .i64 D)] => match unitsO l, entO ks vs with
    | some xs, some es =>
      let sums := (List.range xs.length).map fun (a : Nat) => IntKind.i64.wrap (wsum xs a es)
      if n = l.length ∧ l.length < 1000000 ∧ es.length < 1000000 ∧ 0 < D ∧ D ≤ 1099511627776 ∧ (sums.all fun s => decide (-1099511627776 ≤ s) && decide (s ≤ 1099511627776)) = true then
        let outs := sums.map fun s => nearI s D
        if (outs.all fun n => decide (-16384 ≤ n) && decide (n ≤ 16384)) = true then
          match samplesO outs with
          | some fs => some (.ret (.tup [.p (.sl (pF fs) n), .p (.int .i64 0)]))
          | none => none
        else some (.ret (.tup [.p (.sl [] 0), .p (.int .i64 4)]))
      else none
    | _, _ => none
  | _ => none

theorem entO_spec : ∀ {ks vs : List PVal} {es : List (Int × Int)}, entO ks vs = some es → ks = kA es ∧ vs = kB es ∧ ∀ e ∈ es, -1000000 ≤ e.1 ∧ e.1 ≤ 1000000 := by
  intro ks
  induction ks with
  | nil =>
    intro vs es h
    cases vs with
    | nil => cases h; exact ⟨rfl, rfl, fun e he => by cases he⟩
    | cons => simp [entO] at h
  | cons k r ih =>
    intro vs es h
    unfold entO at h
    split at h
    · cases h; simp at *
    · rename_i k' r' v' q' he1
      cases he1
      split at h
      · rename_i l hl
        split at h
        · rename_i hb
          cases h
          obtain ⟨h1, h2, h3⟩ := ih hl
          refine ⟨by rw [h1]; simp [kA, pI], by rw [h2]; simp [kB, pI], fun e he => ?_⟩
          rcases List.mem_cons.1 he with e' | e'
          · subst e'; exact hb
          · exact h3 e e'
        · cases h
      · cases h
    · cases h

def sampP (p : PVal) : PVal := match p with
  | .int .i64 n => .flt .f32 ((sampleO n).getD 0)
  | _ => .flt .f32 0

theorem samplesO_spec : ∀ {l : List Int} {fs : List Nat}, samplesO l = some fs → pF fs = (pI l).map sampP ∧ ∀ c ∈ pI l, ∃ n b, c = .int .i64 n ∧ sampleO n = some b ∧ sampP c = .flt .f32 b := by
  intro l
  induction l with
  | nil => intro fs h; cases h; exact ⟨rfl, fun c hc => by cases hc⟩
  | cons n r ih =>
    intro fs h
    unfold samplesO at h
    split at h
    · rename_i b q hb hq
      cases h
      obtain ⟨h1, h2⟩ := ih hq
      refine ⟨by simp only [pF, pI, List.map_cons, sampP, hb, Option.getD_some]; rw [show List.map (PVal.flt FloatKind.f32) q = pF q from rfl, h1]; rfl, fun c hc => ?_⟩
      simp only [pI, List.map_cons, List.mem_cons] at hc
      rcases hc with e | e
      · subst e; exact ⟨n, b, rfl, hb, by simp [sampP, hb]⟩
      · exact h2 c e
    · cases h

theorem firstE_range (l : List Int) : firstE (l.map fun n => if n < -16384 ∨ 16384 < n then 4 else 0) = if (l.all fun n => decide (-16384 ≤ n) && decide (n ≤ 16384)) = true then 0 else 4 := by
  induction l with
  | nil => rfl
  | cons n r ih =>
    simp only [List.map_cons, firstE, ih, List.all_cons]
    by_cases h : n < -16384 ∨ 16384 < n
    · rw [if_pos h]
      have : (decide (-16384 ≤ n) && decide (n ≤ 16384)) = false := by
        simp only [Bool.and_eq_false_iff, decide_eq_false_iff_not]
        omega
      simp [this]
    · rw [if_neg h]
      have h1 : -16384 ≤ n := by omega
      have h2 : n ≤ 16384 := by omega
      simp [h1, h2]

theorem run_ok (hC : ∀ f ∈ [123, 115, 175, 155, 136, 181, 270, 268, 131, 177, 104, 103, 178, 154], ∀ as, C f as = none) (hG : G 4 = some [.clo 270 [] []]) {as : List AVal} {t : T AVal} (h : runC as = some t) (K : AVal → Prop) (hK : t.All K) :
    (callPure (evFn F C G (d + 4)) C (.fn 123) as).All K := by
  unfold runC at h
  split at h
  · rename_i l n ks vs D
    split at h
    · rename_i xs es hxs hes
      simp only at h
      split at h
      · rename_i hc
        obtain ⟨rfl, hl, hel, hD, hD2, hb⟩ := hc
        obtain ⟨rfl, rfl, hes'⟩ := entO_spec hes
        have hxl : xs.length = l.length := by
          have := (unitsO_spec hxs).1
          have := congrArg List.length this
          simpa using this
        have hu := units_ok (C := C) (G := G) (d := d) (hC 115 (by simp)) (hC 175 (by simp)) (hC 155 (by simp)) hxs hl
        generalize hsums : ((List.range xs.length).map fun (a : Nat) => IntKind.i64.wrap (wsum xs a es)) = sums at h hb
        generalize houts : (sums.map fun s => nearI s D) = outs at h
        have hol : outs.length = xs.length := by rw [← houts, ← hsums]; simp
        have hout : ∀ i, i < xs.length → outs[i]? = some (runOut xs es D i) := fun i hi => by
          rw [← houts, ← hsums]; simp [hi, runOut]
        have hbd : ∀ i, i < xs.length → -1099511627776 ≤ IntKind.i64.wrap (wsum xs i es) ∧ IntKind.i64.wrap (wsum xs i es) ≤ 1099511627776 := fun i hi => by
          simp only [List.all_eq_true, Bool.and_eq_true, decide_eq_true_eq] at hb
          exact hb _ (by rw [← hsums]; exact List.mem_map.2 ⟨i, by simpa using hi, rfl⟩)
        rw [call_eq fe123 _ (hC 123 (by simp) _)]
        simp [c123, hu]
        simp only [T.All_bind]
        refine T.All_mono (loop_all (K := fun r => r = (.exit 0, ⟨(runInv (.map (kA es) (kB es)) D xs outs xs.length).env ++ [(20, .p (.bool false))], (runInv (.map (kA es) (kB es)) D xs outs xs.length).sto⟩)) (runInv (.map (kA es) (kB es)) D xs outs) xs.length ?_ ?_ ?_ ?_) ?_
        · rw [← hxl]
          refine congrArg (loopS (evFn F C G (d + 3)) C G 0 true [1, 2, 6, 7, 8, 9, 18, 19] c123L1) ?_
          simp [runInv]
        · intro i hi
          refine T.All_mono (run_round (fun f hf => hC f (by simp at hf ⊢; omega)) hG D xs outs es hel hes' (by omega) hD hD2 hol i hi (hout i hi) (hbd i hi)) (fun r hr => ?_)
          subst hr
          exact ⟨rfl, run_next ..⟩
        · exact run_stop' ..
        · simp only [loopFuel]; omega
        · intro r hr
          subst hr
          have htake : outs.take xs.length = outs := List.take_of_length_le (by omega)
          have hm1 := map_ok (C := C) (G := G) (d := d + 2) (m131 ▸ fe131) (by decide) (hC 131 (by simp)) (pI outs) 177 [] (fun p => match p with | .int .i64 n => .int .i64 (if n < -16384 ∨ 16384 < n then 4 else 0) | _ => .int .i64 0) (by simp; omega) (by simp) (fun c hc => by
            simp only [pI, List.mem_map] at hc
            obtain ⟨n, _, rfl⟩ := hc
            exact ⟨range_ok (d := d) (hC 177 (by simp)) (hC 104 (by simp)) n, rfl⟩)
          have hm1' : (pI outs).map (fun p => match p with | .int .i64 n => .int .i64 (if n < -16384 ∨ 16384 < n then 4 else 0) | _ => .int .i64 0) = pI (outs.map fun n => if n < -16384 ∨ 16384 < n then 4 else 0) := by simp [pI]
          rw [hm1'] at hm1
          have hf := first_ok (C := C) (G := G) (d := d + 2) (m103 ▸ fe103) (hC 103 (by simp)) (outs.map fun n => if n < -16384 ∨ 16384 < n then 4 else 0) (by simp; omega)
          rw [firstE_range] at hf
          simp only [pI_length, List.length_map, hol] at hm1 hf
          by_cases ha : (outs.all fun n => decide (-16384 ≤ n) && decide (n ≤ 16384)) = true
          · rw [if_pos ha] at h hf
            split at h
            · rename_i fs hfs
              cases h
              obtain ⟨s1, s2⟩ := samplesO_spec hfs
              have hm2 := map_ok (C := C) (G := G) (d := d + 2) (m178 ▸ fe178) (by decide) (hC 178 (by simp)) (pI outs) 154 [] sampP (by simp; omega) (by simp) (fun c hc => by
                obtain ⟨n, b, rfl, hb, hs⟩ := s2 c hc
                rw [hs]
                exact ⟨sample_ok (d := d + 1) (hC 154 (by simp)) hb, rfl⟩)
              rw [← s1] at hm2
              simp only [pI_length, hol] at hm2
              rw [All_ret] at hK
              simp -implicitDefEqProofs [runInv, htake, hol, hm1, hf, hm2]
              rw [hxl]; exact hK
            · cases h
          · rw [if_neg ha] at h hf
            cases h
            rw [All_ret] at hK
            simp -implicitDefEqProofs [runInv, htake, hol, hm1, hf]
            exact hK
      · cases h
    · cases h
  · cases h
end
end Fw
