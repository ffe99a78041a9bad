/- The law on jobs: what it returns at any input. -/
import Derived.Test.YtdjkleaojdeepaaGreatDoorGaJ8
set_option maxHeartbeats 16000000
set_option maxRecDepth 8000
namespace Fw
open Go
attribute [local irreducible] evCode evOps evOpsD evOper evOperD evOp evFn loopN T.All T.bind callPure callOp opsK opsDK restK seqK blockK loopS setK setQ giveK scalK gcK finish finS rfunK yldK yldB loopK

theorem apart56 {n : Nat} (hn : 1 ≤ n) (l : List JobI) (st : List Int) (hl : JobsOk l) (hs : StOkJ l.length st) : RUN n 56 [jsl l, isl st] = .ret (.p (.bool (decide (conE l st = 0)))) := by
  obtain ⟨d, rfl⟩ : ∃ d, n = d + 1 := ⟨n - 1, by omega⟩
  rw [RUN, call_eq fe56 _ rfl]
  have h8 := hl.1
  let inv : Nat → St := fun i => ⟨[(0, jsl l), (1, isl st), (5, iv i)], []⟩
  have key := loop_firstR (step := loopS (evFn F C0 G0 d) C0 G0 0 false [0, 1, 5] c56L1) inv (con1 l st) l.length (.exit 0, ⟨(inv l.length).env ++ [(12, .p (.bool false))], (inv l.length).sto⟩) (fun _ s => s.env = [(4, .p (.bool false))]) (st0 := inv 0) rfl (fun i hi => by
      have wi := wrap_succ (i := i) (by omega)
      have hin := inner56 (d := d) l st hl hs i hi
      simp only [P56, inv, jsl, isl] at *
      generalize rowC jc l = J at *
      generalize pI st = A at *
      simp only [Int.natCast_zero] at hin
      rcases hin with ⟨e1, hin⟩ | ⟨e1, ⟨env, sto⟩, hin, hev⟩
      · rw [e1]
        refine ⟨fun _ => ⟨?_, ?h1, ?h2⟩, fun h => absurd rfl h⟩
        case h1 =>
          simp -implicitDefEqProofs [loopS_eq, c56L1, hi]
          rw [show loopN _ _ _ = _ from hin]
          simp -implicitDefEqProofs [wi]
          exact rfl
        case h2 => rfl
      · simp only at hev
        subst hev
        rw [e1]
        refine ⟨fun h => absurd h (by decide), fun _ => ⟨?_, ?h1, ?h2⟩⟩
        case h1 =>
          simp -implicitDefEqProofs [loopS_eq, c56L1, hi]
          rw [show loopN _ _ _ = _ from hin]
          simp -implicitDefEqProofs []
          exact rfl
        case h2 => rfl) (by simp -implicitDefEqProofs [inv, loopS_eq, c56L1]) (by simp) (fuel := loopFuel) (by simp [loopFuel]; omega)
  simp only [inv, jsl, isl] at *
  simp only [Int.natCast_zero] at key
  generalize rowC jc l = J at *
  generalize pI st = A at *
  rcases key with ⟨h1, h2⟩ | ⟨j, ⟨env, sto⟩, hj, h1, h2, h3, h4, _⟩
  · rw [show conE l st = 0 from h2]
    simp -implicitDefEqProofs [c56]
    rw [show loopN _ _ _ = _ from h1]
    simp
  · have hne : ¬ conE l st = 0 := by
      have e : conE l st = con1 l st j := h3
      rw [e]; exact h4
    rw [decide_eq_false hne]
    simp only at h2
    subst h2
    simp -implicitDefEqProofs [c56]
    rw [show loopN _ _ _ = _ from h1]
    simp
def plcO (l : List JobI) (o : List Int) : List Int := if firstE [jobE l, ordE l.length o] = 0 then plF l o l.length else []
theorem starts48 {n : Nat} (hn : 5 ≤ n) (l : List JobI) (hl : l.length < 1000000) (hx : ∀ x ∈ l, x.name.length ≤ 9223372036854775807) (o : List Int) (ho : o.length < 1000000) :
    RUN n 48 [jsl l, isl o] = .ret (.tup [isl (plcO l o), iv (firstE [jobE l, ordE l.length o])]) := by
  obtain ⟨d, rfl⟩ : ∃ d, n = d + 5 := ⟨n - 5, by omega⟩
  rw [RUN, call_eq fe48 _ rfl]
  have k57 := jobs57 (n := d + 4) (by omega) l (by omega) hx
  have k109 := order109 (n := d + 4) (by omega) l hl o ho
  unfold plcO
  have hf : ∀ a b : Int, firstE [a, b] = if a = 0 then b else a := fun a b => by
    by_cases h : a = 0
    · subst h; by_cases h2 : b = 0 <;> simp [firstE, h2]
    · simp [firstE, h]
  rw [hf]
  by_cases hj : jobE l = 0
  · rw [if_pos hj]
    by_cases hoE : ordE l.length o = 0
    · have k110 := starts110 (n := d + 4) (by omega) l o (jobs_ok hj) (ord_ok hoE)
      have hln := plF_len l o l.length
      rw [if_pos hoE, hoE]
      rw [hj] at k57
      rw [hoE] at k109
      simp only [jsl, isl, hln] at *
      generalize rowC jc l = J at *
      generalize pI (plF l o l.length) = P2 at *
      generalize pI o = PO at *
      simp -implicitDefEqProofs [c48, k57, k109, k110]
    · rw [if_neg hoE]
      rw [hj] at k57
      generalize ordE l.length o = e at *
      simp only [jsl, isl] at *
      generalize rowC jc l = J at *
      generalize pI o = PO at *
      simp -implicitDefEqProofs [c48, k57, k109, hoE, pI]
  · rw [if_neg hj, if_neg hj]
    generalize jobE l = e at *
    simp only [jsl, isl] at *
    generalize rowC jc l = J at *
    generalize pI o = PO at *
    simp -implicitDefEqProofs [c48, k57, hj, pI]
def schE (l : List JobI) (st : List Int) : Int := if firstE [jobE l, staE l.length st] = 0 then conE l st else firstE [jobE l, staE l.length st]
theorem end50 {n : Nat} (hn : 7 ≤ n) (l : List JobI) (hl : l.length ≤ 9223372036854775807) (hx : ∀ x ∈ l, x.name.length ≤ 9223372036854775807) (st : List Int) (hs : st.length < 1000000) :
    RUN n 50 [jsl l, isl st] = .ret (.tup [iv (if schE l st = 0 then endF l st l.length else 0), iv (schE l st)]) := by
  obtain ⟨d, rfl⟩ : ∃ d, n = d + 7 := ⟨n - 7, by omega⟩
  rw [RUN, call_eq fe50 _ rfl]
  have k58 := schedule58 (n := d + 6) (by omega) l hl hx st hs
  rw [show (if firstE [jobE l, staE l.length st] = 0 then conE l st else firstE [jobE l, staE l.length st]) = schE l st from rfl] at k58
  by_cases h : schE l st = 0
  · have hE : firstE [jobE l, staE l.length st] = 0 := by
      unfold schE at h
      split at h
      · assumption
      · exact h
    have k111 := end111 (n := d + 6) (by omega) l st (jobs_ok (firstE_zero.1 hE (jobE l) (by simp))) (sta_ok (firstE_zero.1 hE (staE l.length st) (by simp)))
    rw [if_pos h, h]
    rw [h] at k58
    generalize endF l st l.length = e at *
    simp only [jsl, isl] at *
    generalize rowC jc l = J at *
    generalize pI st = A at *
    simp -implicitDefEqProofs [c50, k58, k111]
  · rw [if_neg h]
    generalize schE l st = e at *
    simp only [jsl, isl] at *
    generalize rowC jc l = J at *
    generalize pI st = A at *
    simp -implicitDefEqProofs [c50, k58, h]
theorem job_at (ka : RUN 60 17 [] = .ret (.p (.bool true))) (l : List JobI) (hl : l.length ≤ 9223372036854775807) (hx : ∀ x ∈ l, x.name.length ≤ 9223372036854775807) (o st : List Int) : RUN 61 6 [jsl l, isl o, isl st] = .ret (.p (.bool true)) := by
  rw [RUN, call_eq fe6 _ rfl]
  have k47 := short47 (n := 60) (by omega) l hl
  cases hsh : (decide (firstE (l.map lnJ) = 0) && (decide (l.length ≤ 6) || decide (l.length = 9))) with
  | false =>
    rw [hsh] at k47
    simp only [jsl, isl] at *
    generalize rowC jc l = J at *
    simp -implicitDefEqProofs [c6, k47, ka]
  | true =>
    rw [hsh] at k47
    by_cases ho : o.length ≤ 9
    · have ho' : ¬ (9 : Int) < o.length := by omega
      by_cases hs : st.length ≤ 9
      · have hs' : ¬ (9 : Int) < st.length := by omega
        simp only [Bool.and_eq_true, Bool.or_eq_true, decide_eq_true_eq] at hsh
        have hl1 : l.length < 1000000 := by omega
        have k49 := tests49 (n := 60) (by omega) l hl1
        have k43 := ints43 (n := 60) (by omega) o (by omega)
        have k43s := ints43 (n := 60) (by omega) st (by omega)
        have k48 := starts48 (n := 60) (by omega) l hl1 hx o (by omega)
        have k50 := end50 (n := 60) (by omega) l hl hx st (by omega)
        have k51 := jobs51 (n := 60) (by omega) l hl
        have k57 := jobs57 (n := 60) (by omega) l hl hx
        have k58 := schedule58 (n := 60) (by omega) l hl hx st (by omega)
        rw [show (if firstE [jobE l, staE l.length st] = 0 then conE l st else firstE [jobE l, staE l.length st]) = schE l st from rfl] at k58
        have k52 := order52 (n := 60) (by omega) l hl1 o (by omega)
        have k53 := starts53 (n := 60) (by omega) l hl1 st (by omega)
        have hf : ∀ a b : Int, firstE [a, b] = if a = 0 then b else a := fun a b => by
          by_cases h : a = 0
          · subst h; by_cases h2 : b = 0 <;> simp [firstE, h2]
          · simp [firstE, h]
        have hpl : (plcO l o).length < 1000000 := by
          unfold plcO
          split
          · rw [plF_len]; omega
          · simp
        have k38 := same38 (n := 60) (by omega) (plcO l o) (plcO l o) hpl
        have k38z : RUN 60 38 [.p (.sl [] 0), .p (.sl [] 0)] = .ret (.p (.bool (decide (([] : List Int) = [])))) := same38 (n := 60) (by omega) [] [] (by simp)
        have hcv := conE_val l st
        rw [hf] at k48
        simp only [schE, hf] at k50 k58
        simp only [plcO, hf] at k48 k38
        by_cases hj : jobE l = 0
        · have hJ := jobs_ok hj
          simp only [hj, if_true] at *
          by_cases hoE : ordE l.length o = 0
          · have k54 := starts54 (n := 60) (by omega) l o hJ (ord_ok hoE)
            have hln := plF_len l o l.length
            simp only [hoE, if_true, decide_true] at *
            by_cases hsE : staE l.length st = 0
            · have hS := sta_ok hsE
              have k55 := end55 (n := 60) (by omega) l st hJ hS
              have k56 := apart56 (n := 60) (by omega) l st hJ hS
              simp only [hsE, if_true] at *
              generalize endF l st l.length = en at *
              generalize plF l o l.length = PL at *
              simp only [jsl, isl, hln] at *
              generalize pI PL = PP at *
              generalize rowC jc l = J at *
              generalize pI o = PO at *
              generalize pI st = PS at *
              rcases hcv with hc | hc
              · simp only [hc, if_true, decide_true] at *
                simp -implicitDefEqProofs [c6, k47, ka, ho', hs', k49, k43, k43s, k48, k50, k51, k52, k53, k54, k55, k56, k57, k58, k38]
              · have hc0 : ¬ (24 : Int) = 0 := by decide
                simp only [hc, hc0, if_false, decide_false] at *
                simp -implicitDefEqProofs [c6, k47, ka, ho', hs', k49, k43, k43s, k48, k50, k51, k52, k53, k54, k55, k56, k57, k58, k38]
            · simp only [hsE, if_false] at k50 k58
              generalize staE l.length st = se at *
              generalize plF l o l.length = PL at *
              simp only [jsl, isl, hln] at *
              generalize pI PL = PP at *
              generalize rowC jc l = J at *
              generalize pI o = PO at *
              generalize pI st = PS at *
              simp -implicitDefEqProofs [c6, k47, ka, ho', hs', k49, k43, k43s, k48, k50, k51, k52, k53, k54, k57, k58, k38, hsE]
          · simp only [hoE, if_false] at k48 k38
            have e0 : isl [] = .p (.sl [] 0) := rfl
            rw [e0] at k48
            by_cases hsE : staE l.length st = 0
            · have hS := sta_ok hsE
              have k55 := end55 (n := 60) (by omega) l st hJ hS
              have k56 := apart56 (n := 60) (by omega) l st hJ hS
              simp only [hsE, if_true] at *
              generalize endF l st l.length = en at *
              generalize ordE l.length o = oe at *
              simp only [jsl, isl] at *
              generalize rowC jc l = J at *
              generalize pI o = PO at *
              generalize pI st = PS at *
              rcases hcv with hc | hc
              · simp only [hc, if_true, decide_true] at *
                simp -implicitDefEqProofs [c6, k47, ka, ho', hs', k49, k43, k43s, k48, k50, k51, k52, k53, k55, k56, k57, k58, k38z, hoE]
              · have hc0 : ¬ (24 : Int) = 0 := by decide
                simp only [hc, hc0, if_false, decide_false, decide_true] at *
                simp -implicitDefEqProofs [c6, k47, ka, ho', hs', k49, k43, k43s, k48, k50, k51, k52, k53, k55, k56, k57, k58, k38z, hoE]
            · simp only [hsE, if_false] at k50 k58
              generalize staE l.length st = se at *
              generalize ordE l.length o = oe at *
              simp only [jsl, isl] at *
              generalize rowC jc l = J at *
              generalize pI o = PO at *
              generalize pI st = PS at *
              simp -implicitDefEqProofs [c6, k47, ka, ho', hs', k49, k43, k43s, k48, k50, k51, k52, k53, k57, k58, k38z, hoE, hsE]
        · simp only [hj, if_false] at k48 k38 k50 k58
          have e0 : isl [] = .p (.sl [] 0) := rfl
          rw [e0] at k48
          generalize jobE l = je at *
          simp only [jsl, isl] at *
          generalize rowC jc l = J at *
          generalize pI o = PO at *
          generalize pI st = PS at *
          simp -implicitDefEqProofs [c6, k47, ka, ho', hs', k49, k43, k43s, k48, k50, k51, k57, k58, k38z, hj]
      · have hs' : (9 : Int) < st.length := by omega
        simp only [jsl, isl] at *
        generalize rowC jc l = J at *
        generalize pI o = PO at *
        generalize pI st = PS at *
        simp -implicitDefEqProofs [c6, k47, ka, ho', hs']
    · have ho' : (9 : Int) < o.length := by omega
      simp only [jsl, isl] at *
      generalize rowC jc l = J at *
      generalize pI o = PO at *
      generalize pI st = PS at *
      simp -implicitDefEqProofs [c6, k47, ka, ho']
end Fw
