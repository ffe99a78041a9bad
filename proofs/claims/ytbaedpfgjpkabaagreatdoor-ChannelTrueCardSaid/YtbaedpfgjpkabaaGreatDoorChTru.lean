/- The law of what is true of channels, at any input. -/
import Derived.Test.YtbaedpfgjpkabaaGreatDoorChTr3
set_option maxHeartbeats 16000000
namespace Fw
open Go
attribute [local irreducible] evCode evOps evOpsD evOper evOperD evOp evFn loopN T.All T.bind callPure callOp opsK opsDK restK seqK blockK loopS setK setQ giveK scalK gcK finish finS rfunK yldK yldB loopK

theorem hid8 : hidT 8 = [3] := by decide
theorem bytes_map (l : List UInt8) : bytesOf (l.map fun b => .int .u8 (b.toNat : Int)) = some l := by
  induction l with
  | nil => rfl
  | cons b r ih => simp only [List.map_cons, bytesOf, ih]; simp
theorem bytes_set (l : List UInt8) (i : Nat) (v : UInt8) : bytesOf ((l.map fun b => PVal.int .u8 (b.toNat : Int)).set i (.int .u8 (v.toNat : Int))) = some (l.set i v) := by
  rw [← bytes_map (l.set i v), List.map_set]

theorem tmod_pos {n m : Int} (h0 : 0 ≤ n) (hm : 0 < m) : 0 ≤ n.tmod m ∧ n.tmod m < m := ⟨Int.tmod_nonneg _ h0, Int.tmod_lt_of_pos _ hm⟩

abbrev u16 (n : Int) : AVal := .p (.int .u16 n)
abbrev u8 (n : Int) : AVal := .p (.int .u8 n)

theorem tru_at (ka : RUN 60 15 [] = .ret (.p (.bool true))) (s : SenI) (l : List Int) (hb : ∀ n ∈ l, -32768 ≤ n ∧ n ≤ 32767) (c : CodeI) (n0 n1 n2 at' by' : Int) (h0 : 0 ≤ n0 ∧ n0 ≤ 65535) (h1 : 0 ≤ n1 ∧ n1 ≤ 65535) (h2 : 0 ≤ n2 ∧ n2 ≤ 65535) (ha : 0 ≤ at' ∧ at' ≤ 255) (hy : 0 ≤ by' ∧ by' ≤ 255) :
    RUN 61 10 [sea s, l16 l, .agg [sv c.place, iv c.axis, iv c.sign, u16 n0, u16 n1, u16 n2, u8 at', u8 by']] = .ret (.p (.bool true)) := by
  rw [RUN, call_eq (d := 60) fe10 _ rfl]
  have k27 := sensor27 (n := 60) (by omega) s
  have k18 := code18 (n := 60) (by omega) c
  by_cases g1 : (40 : Int) < s.name.length
  · obtain ⟨nm, sc, sl, sh⟩ := s
    simp only at g1
    simp -implicitDefEqProofs [c10, ka, g1]
  · by_cases g2 : senE s = 0
    · by_cases g3 : (l.length : Int) < 1
      · rw [g2] at k27
        obtain ⟨nm, sc, sl, sh⟩ := s
        simp only at g1
        simp -implicitDefEqProofs [c10, ka, g1, k27, g3]
      · by_cases g4 : (20 : Int) < l.length
        · rw [g2] at k27
          obtain ⟨nm, sc, sl, sh⟩ := s
          simp only at g1
          simp -implicitDefEqProofs [c10, ka, g1, k27, g3, g4]
        · by_cases g5 : (40 : Int) < c.place.length
          · rw [g2] at k27
            obtain ⟨nm, sc, sl, sh⟩ := s
            simp only at g1
            simp -implicitDefEqProofs [c10, ka, g1, k27, g3, g4, g5]
          · by_cases g6 : codeE c = 0
            · rw [g2] at k27
              rw [g6] at k18
              have hs := sen_of g2
              have hc := code_of g6
              have l0 := hs.l0
              have l1 := hs.l1
              have l2 := hs.l2
              have s0 := hs.s0
              have s1 := hs.s1
              have hl0 : 0 < l.length := by omega
              have hl20 : l.length ≤ 20 := by omega
              -- the samples
              obtain ⟨hA1, hA2⟩ := made_ok (truO_in l)
              have hAl : (truF l).length = l.length := by simp
              have hAdef : (truO l).map smpF = truF l := rfl
              rw [hAdef] at hA1 hA2
              have ka10 := fun o0 o1 => loop10a (d := 59) l hl20 hb o0 o1
              have i1 := floats24 (n := 60) (by omega) (truF l) (by omega)
              generalize truF l = A at *
              -- time zero
              have hzz := tmod_pos (n := n0) (m := (l.length : Int)) h0.1 (by omega)
              generalize hz0 : n0.tmod (l.length : Int) = zz at *
              have hze : zeE A (1 + zz) = 0 := by
                unfold zeE
                rw [firstE_zero]
                intro e he
                simp only [List.mem_cons, List.not_mem_nil, or_false] at he
                rcases he with e1 | e1 | e1 <;> subst e1
                · exact smps_iff.2 ⟨by omega, hA1⟩
                · exact rangeE_zero.2 ⟨by omega, by omega⟩
                · exact (whenE_zero (by decide)).2 (decide_eq_false (by omega))
              have hcv : cvE s A (1 + zz) = 0 := by
                unfold cvE
                rw [firstE_zero]
                intro e he
                simp only [List.mem_cons, List.not_mem_nil, or_false] at he
                rcases he with e1 | e1 <;> subst e1
                · exact g2
                · exact hze
              have p23 := offset23 (n := 60) (by omega) A (by omega) (1 + zz)
              have p25 := converted25 (n := 60) (by omega) s (by omega) A (by omega) (1 + zz)
              rw [if_pos hze] at p23
              rw [if_pos hcv] at p25
              obtain ⟨o1, o2, o3⟩ := off_in hze
              have hoff := fun i hi hil => off_at hze i hi hil
              have p84 := ends103' (n := 60) (by omega) (offL A (1 + zz)) (offH A (1 + zz)) (-16384) 16384
              have hiv : ivE (-16384) 16384 (offL A (1 + zz), offH A (1 + zz)) = 0 := by
                unfold ivE
                rw [firstE_zero]
                intro e he
                simp only [List.mem_cons, List.not_mem_nil, or_false] at he
                rcases he with e1 | e1 | e1 <;> subst e1
                · exact rangeE_zero.2 ⟨by omega, by omega⟩
                · exact rangeE_zero.2 ⟨by omega, by omega⟩
                · exact (whenE_zero (by decide)).2 (decide_eq_false (by omega))
              rw [hiv] at p84
              have hvl : (valsO s A (1 + zz)).length = l.length := by simp [valsO, hAl]
              have hvd : valsO s A (1 + zz) = (A.map smpN).map (valO s (offL A (1 + zz)) (offH A (1 + zz))) := rfl
              simp only [vsl, hvl] at p25
              rw [hvd] at p25
              generalize offL A (1 + zz) = oL at *
              generalize offH A (1 + zz) = oH at *
              -- an offset, a sensitivity
              have hq1 := tmod_pos (n := n1) (m := oH - oL + 1) h1.1 (by omega)
              have hq2 := tmod_pos (n := n2) (m := s.hi - s.lo + 1) h2.1 (by omega)
              have hq3 := tmod_pos (n := n1) (m := 4000) h1.1 (by omega)
              generalize hD : oH - oL = D at *
              generalize hD2 : s.hi - s.lo = D2 at *
              generalize hr1 : n1.tmod (D + 1) = r1 at *
              generalize hr2 : n2.tmod (D2 + 1) = r2 at *
              generalize hr3 : n1.tmod 4000 = r3 at *
              have klb := loop10b (d := 59) hs A hA1 (by omega) (1 + zz) oL oH (oL + r1) (s.lo + r2) (fun i hi hlt => hoff i hlt hi) o1 o3 (by omega) (by omega) (by omega) (by omega) c.place c.axis c.sign n0 n1 n2 at' by'
              simp only [fsl, hAl] at klb i1 p23 p25
              generalize rowC vc (List.map (valO s oL oH) (List.map smpN A)) = VR at *
              -- a reference
              have hme : (((1 + r3) * (s.lo + r2)).natAbs : Int) ≤ 4000 * 4000 := mul_abs (by omega) (by omega)
              have hme0 : 0 ≤ (1 + r3) * (s.lo + r2) := Int.mul_nonneg (by omega) (by omega)
              have htd : ((1 + r3) * (s.lo + r2)).tdiv 1000 = (1 + r3) * (s.lo + r2) / 1000 := Int.tdiv_eq_ediv_of_nonneg hme0
              have hshB := sh_true (s := s) (e := (1 + r3) * (s.lo + r2) / 1000) (m := 1 + r3) (a := s.lo + r2) (by omega) (by omega) (by omega) rfl
              have p26 := shunted26 (n := 60) (by omega) s (by omega) ((1 + r3) * (s.lo + r2) / 1000) (1 + r3)
              have hshE : 1 ≤ (1 + r3) * (s.lo + r2) / 1000 → shE s ((1 + r3) * (s.lo + r2) / 1000) (1 + r3) = 0 := fun h => by
                unfold shE
                rw [firstE_zero]
                intro e he
                simp only [List.mem_cons, List.not_mem_nil, or_false] at he
                rcases he with e1 | e1 | e1 <;> subst e1
                · exact g2
                · exact rangeE_zero.2 ⟨h, by omega⟩
                · exact rangeE_zero.2 ⟨by omega, by omega⟩
              rw [hshB] at p26
              generalize hM : (1 + r3) * (s.lo + r2) = M at *
              generalize hEx : M / 1000 = ex at *
              -- codes
              have p16 := coded16 (n := 60) (by omega) c (by omega)
              rw [if_pos g6, g6] at p16
              have p17 := decoded17 (n := 60) (by omega) (codS c)
              rw [dec_cod hc] at p17
              have hWl := cod_len c
              have hWle := cod_le hc
              have hbad := dec_bad hc
              generalize codS c = W at *
              have hW0 : 0 < W.length := by omega
              have hqa := tmod_pos (n := at') (m := (W.length : Int)) ha.1 (by omega)
              have hqb := tmod_pos (n := by') (m := 25) hy.1 (by omega)
              obtain ⟨j, hj⟩ : ∃ j : Nat, at'.tmod (W.length : Int) = (j : Int) := ⟨_, (Int.toNat_of_nonneg hqa.1).symm⟩
              obtain ⟨q, hq⟩ : ∃ q : Nat, by'.tmod 25 = (q : Int) := ⟨_, (Int.toNat_of_nonneg hqb.1).symm⟩
              rw [hj] at hqa
              rw [hq] at hqb
              have hjl : j < W.length := by omega
              have hbj := hWle W[j] (List.getElem_mem hjl)
              have hv : (UInt8.ofNat (W[j].toNat + (1 + q))).toNat = W[j].toNat + (1 + q) := by
                rw [UInt8.toNat_ofNat']; omega
              have hB := hbad j hjl (UInt8.ofNat (W[j].toNat + (1 + q))) (by omega) (by omega)
              have p17b := decoded17 (n := 60) (by omega) (W.set j (UInt8.ofNat (W[j].toNat + (1 + q))))
              have hby := bytes_set W j (UInt8.ofNat (W[j].toNat + (1 + q)))
              rw [hv] at hby
              generalize W.set j (UInt8.ofNat (W[j].toNat + (1 + q))) = W2 at *
              generalize decB W2 = R at *
              obtain ⟨⟨t1, t2, t3⟩, t4⟩ := R
              simp only at hB p17b
              have w1 := wrap64 (n := n0) (by omega) (by omega)
              have w2 := wrap64 (n := 1 + zz) (by omega) (by omega)
              have w3 := wrap64 (n := n1) (by omega) (by omega)
              have w4 := wrap64 (n := D) (by omega) (by omega)
              have w5 := wrap64 (n := D + 1) (by omega) (by omega)
              have w6 := wrap64 (n := oL + r1) (by omega) (by omega)
              have w7 := wrap64 (n := n2) (by omega) (by omega)
              have w8 := wrap64 (n := D2) (by omega) (by omega)
              have w9 := wrap64 (n := D2 + 1) (by omega) (by omega)
              have w10 := wrap64 (n := s.lo + r2) (by omega) (by omega)
              have w11 := wrap64 (n := 1 + r3) (by omega) (by omega)
              have w12 := wrap64 (n := M) (by omega) (by omega)
              have w13 := wrap64 (n := ex) (by omega) (by omega)
              have w14 := wrap64 (n := (c.place.length : Int) + 4) (by omega) (by omega)
              have w15 := wrap64 (n := at') (by omega) (by omega)
              have w16 : IntKind.u8.wrap (1 + (q : Int)) = 1 + (q : Int) := by rw [IntKind.wrap_u8]; omega
              have w17 : IntKind.u8.wrap ((W[j].toNat : Int) + (1 + (q : Int))) = (W[j].toNat : Int) + (1 + (q : Int)) := by rw [IntKind.wrap_u8]; omega
              have e1 : ¬ D + 1 = 0 := by omega
              have e2 : ¬ D2 + 1 = 0 := by omega
              have e3 : ¬ l.length = 0 := by omega
              have hcast : ((W[j].toNat + (1 + q) : Nat) : Int) = (W[j].toNat : Int) + (1 + (q : Int)) := by omega
              rw [hcast] at hby
              have hB' : (t4 == 0) = false := by simpa using hB
              generalize hbv : W[j].toNat = bv at *
              obtain ⟨nm, sc, sl, sh⟩ := s
              obtain ⟨pl, ax, sg⟩ := c
              simp only at g1 g5 hWl hD2 p16 p17 p23 p25 p26 klb w10 w14 hM
              have hlW : (W.length : Int) = (pl.length : Int) + 4 := by omega
              have hj' : at'.tmod ((pl.length : Int) + 4) = (j : Int) := by rw [← hlW]; exact hj
              have e5 : ¬ (pl.length : Int) + 4 = 0 := by omega
              have hj2 : (j : Int) < (pl.length : Int) + 4 := by omega
              have hj3 : j + 1 ≤ W.length := by omega
              by_cases x1 : 1 ≤ ex
              · rw [if_pos (hshE x1)] at p26
                simp -implicitDefEqProofs [c10, ka, g1, k27, g3, g4, g5, k18, ka10, hz0, i1, hAl, p23, p25, p84, hD, hD2, hr1, hr2, hr3, klb, hM, htd, p26, x1, p16, p17, hlW, hj', hj2, hj3, e5, hq, hjl, hbv, hby, p17b, hB', w1, w2, w3, w4, w5, w6, w7, w8, w9, w10, w11, w12, w13, w14, w15, w16, w17, e1, e2, e3, hidI, hid8, refsL, keptB, sameO, samePs, sameP, eqK, keyOk, eqP]
              · simp -implicitDefEqProofs [c10, ka, g1, k27, g3, g4, g5, k18, ka10, hz0, i1, hAl, p23, p25, p84, hD, hD2, hr1, hr2, hr3, klb, hM, htd, x1, p16, p17, hlW, hj', hj2, hj3, e5, hq, hjl, hbv, hby, p17b, hB', w1, w2, w3, w4, w5, w6, w7, w8, w9, w10, w11, w12, w13, w14, w15, w16, w17, e1, e2, e3, hidI, hid8, refsL, keptB, sameO, samePs, sameP, eqK, keyOk, eqP]
            · rw [g2] at k27
              have zb : (codeE c != 0) = true := by simpa using g6
              generalize codeE c = E at *
              obtain ⟨nm, sc, sl, sh⟩ := s
              obtain ⟨pl, ax, sg⟩ := c
              simp only at g1 g5
              simp -implicitDefEqProofs [c10, ka, g1, k27, g3, g4, g5, k18, zb]
    · have zb : (senE s != 0) = true := by simpa using g2
      generalize senE s = E at *
      obtain ⟨nm, sc, sl, sh⟩ := s
      simp only at g1
      simp -implicitDefEqProofs [c10, ka, g1, k27, zb]
end Fw
