/- The law on runs: what it returns at any input. -/
import Derived.Test.YtombnimlolbekaaGreatDoorPuS5
import Derived.Test.YtombnimlolbekaaGreatDoorPuLanes
set_option maxHeartbeats 16000000
namespace Fw
open Go
attribute [local irreducible] evCode evOps evOpsD evOper evOperD evOp evFn loopN T.All T.bind callPure callOp opsK opsDK restK seqK blockK loopS setK setQ giveK scalK gcK finish finS rfunK yldK yldB loopK

theorem steps14 {n : Nat} (hn : 1 ≤ n) (c : List (Int × Int)) (hl : c.length < 1000000) : RUN n 14 [csl c] = .ret (.own (cI c) c.length 2) := by
  obtain ⟨d, rfl⟩ : ∃ d, n = d + 1 := ⟨n - 1, by omega⟩
  rw [RUN, call_eq fe14 _ rfl]
  let inv : Nat → St := fun i => ⟨[(3, .sl 0 i 0 i), (6, csl c), (7, iv c.length), (8, iv i)], [(0, .arr (cI (c.take i)) i 2)]⟩
  have htl : c.take c.length = c := List.take_of_length_le (by omega)
  simp -implicitDefEqProofs [c14]
  rw [loop_run' inv c.length (e := .exit 0) (st' := ⟨(inv c.length).env ++ [(9, .p (.bool false))], (inv c.length).sto⟩) (by simp)]
  · simp -implicitDefEqProofs [inv, htl]
  · rfl
  · intro i hi
    have hx := cI_drop c i hi
    have hlt : i * 2 < c.length * 2 := by omega
    have hlt' : (i : Int) < c.length := by omega
    have hlim : i + 1 ≤ lim := by simp only [lim]; omega
    have hto : (c.take i).length = i := by simp; omega
    have ht : cI (c.take (i + 1)) = cI (c.take i) ++ [.int .i64 c[i].1, .int .i64 c[i].2] := by
      rw [cI_snoc, List.take_append_getElem]
    refine ⟨⟨(inv (i + 1)).env, (1, .arr [.int .i64 c[i].1, .int .i64 c[i].2] 0 1) :: (inv (i + 1)).sto⟩, ?_, loopS_same rfl (by simp [inv])⟩
    simp -implicitDefEqProofs [inv, loopS_eq, c14L0, hx, hlt, hlt', hlim, hto, wrap_succ (i := i) (by omega), ht]
  · simp [inv, loopS_eq, c14L0]
  · simp [loopFuel]; omega

theorem same30 {n : Nat} (hn : 1 ≤ n) (a b : List (Int × Int)) (ha : a.length < 1000000) : RUN n 30 [csl a, csl b] = .ret (.p (.bool (decide (a = b)))) := by
  obtain ⟨d, rfl⟩ : ∃ d, n = d + 1 := ⟨n - 1, by omega⟩
  rw [RUN, call_eq fe30 _ rfl]
  by_cases hl : a.length = b.length
  · let inv : Nat → St := fun i => ⟨[(0, csl a), (1, csl b), (5, iv i)], []⟩
    let out : Nat → Ex × St := fun i => if a.drop i = b.drop i then (.exit 0, ⟨(inv a.length).env ++ [(14, .p (.bool false))], []⟩) else (.ret, ⟨[(4, .p (.bool false))], []⟩)
    simp -implicitDefEqProofs [c30, hl]
    rw [loop_rec inv out a.length (by simp [inv])]
    · by_cases hq : a = b <;> simp [out, inv, hq]
    · intro i hi
      have hi' : i < b.length := by omega
      have hx := cI_drop a i hi
      have hy := cI_drop b i hi'
      have hlt : i * 2 < a.length * 2 := by omega
      have hlt' : i * 2 < b.length * 2 := by omega
      have hd : (a.drop i = b.drop i) ↔ a[i] = b[i] ∧ a.drop (i + 1) = b.drop (i + 1) := by
        rw [List.drop_eq_getElem_cons hi, List.drop_eq_getElem_cons hi', List.cons.injEq]
      have hp : (a[i] = b[i]) ↔ (a[i].1 = b[i].1 ∧ a[i].2 = b[i].2) := Prod.ext_iff
      by_cases h : a[i].1 = b[i].1 ∧ a[i].2 = b[i].2
      · refine .inl ⟨?_, ?_⟩
        · simp -implicitDefEqProofs [inv, loopS_eq, c30L0, hi', hx, hy, hlt', hl, h.1, h.2, eqK, keyOk, eqP, wrap_succ (i := i) (by omega)]
        · simp [out, hd, hp, h]
      · have hb : ((a[i].1 == b[i].1) && (a[i].2 == b[i].2)) = false := by rw [Bool.eq_false_iff]; simpa using h
        refine .inr ⟨?_, ?_⟩
        · simp -implicitDefEqProofs [inv, loopS_eq, c30L0, hi', hx, hy, hlt', hl, hb, eqK, keyOk, eqP, out, hd, hp, h]
        · simp [out, hd, hp, h]
    · have h1 : a.drop a.length = [] := List.drop_of_length_le (by omega)
      have h2 : b.drop a.length = [] := List.drop_of_length_le (by omega)
      simp [inv, loopS_eq, c30L0, out, hl]
    · simp [loopFuel]; omega
  · have : ¬ a = b := fun h => hl (by rw [h])
    have hl' : ¬ (a.length : Int) = b.length := by omega
    simp -implicitDefEqProofs [c30, hl', this]


@[irreducible] def c3r : ACode := tlS (tlS c3.body)
theorem c3_body : c3.body = .seq (hdS c3.body) (.seq (hdS (tlS c3.body)) c3r) := by unfold c3r; rfl

abbrev two (k : Int × Int) : List PVal := [.int .i64 k.1, .int .i64 k.2]

theorem runs_rest (s : SledI) (l : List (Int × Int)) (k : Int × Int) (hl : l.length < 1000000) :
    (evCode (evFn F C0 G0 60) C0 G0 0 c3r ⟨[(1, csl l), (3, .ptr 0 0 0), (5, .ptr 1 0 0), (24, .p (.bool false))], [(1, .arr (two k) 0 1), (0, .arr (slc s) 0 1)]⟩).bind (finish [.tmp 6]) = .ret (.p (.bool true)) := by
  have ka := awake12
  have k14 := steps14 (n := 60) (by omega) l hl
  have k13 := valves13 (n := 60) (by omega) l k.2 hl
  have k15 := run15 (n := 60) (by omega) s l k.1 k.2 hl
  have k16 := encl16 (n := 60) (by omega) s l k.2 hl
  have k17 := safe17 (n := 60) (by omega) s l k.2 hl
  have k19 := setting19 (n := 60) (by omega) l hl
  have k20 := ticks20 (n := 60) (by omega) k.2
  have k21 := sled21 (n := 60) (by omega) s
  have k22 := gain22 (n := 60) (by omega) s k.1
  have k27 := sled27 (n := 60) (by omega) s
  have k28 := setting28 (n := 60) (by omega) l hl
  have k18a := first18_2 (n := 60) (by omega) (settingE l) (rangeE 1 64 k.2)
  have k18b := first18_3 (n := 60) (by omega) (sledE s) (settingE l) (rangeE 1 64 k.2)
  have k18c := first18_4 (n := 60) (by omega) (sledE s) (settingE l) (rangeE s.low s.high k.1) (rangeE 1 64 k.2)
  have e1 : firstE [settingE l, rangeE 1 64 k.2] = badV l k.2 := rfl
  have e3 : firstE [sledE s, settingE l, rangeE 1 64 k.2] = badN s l k.2 := rfl
  have e2 : firstE [sledE s, settingE l, rangeE s.low s.high k.1, rangeE 1 64 k.2] = badR s l k.1 k.2 := rfl
  rw [e1] at k18a
  rw [e3] at k18b
  rw [e2] at k18c
  have k29n := same29 (n := 60) (by omega) [] [] (by simp)
  have k30n := same30 (n := 60) (by omega) [] [] (by simp)
  simp only [isl, csl, pI_nil, cI, List.length_nil] at k29n k30n
  unfold c3r
  have hv : badV l k.2 = 0 → Valid l ∧ ∃ m : Nat, k.2 = m ∧ m ≤ 64 := fun h => by
    have hz := firstE_zero.1 h
    have hk := rangeE_zero.1 (hz (rangeE 1 64 k.2) (by simp))
    exact ⟨valid_of (hz (settingE l) (by simp)), k.2.toNat, by omega, by omega⟩
  have hNV : badN s l k.2 = 0 → badV l k.2 = 0 ∧ SledOk s := fun h => by
    have hz := firstE_zero.1 h
    exact ⟨firstE_zero.2 (fun e he => hz e (by simp at he ⊢; rcases he with he | he <;> simp [he])), sled_of (hz (sledE s) (by simp))⟩
  have hRN : badR s l k.1 k.2 = 0 → badN s l k.2 = 0 ∧ s.low ≤ k.1 ∧ k.1 ≤ s.high := fun h => by
    have hz := firstE_zero.1 h
    exact ⟨firstE_zero.2 (fun e he => hz e (by simp at he ⊢; rcases he with he | he | he <;> simp [he])), rangeE_zero.1 (hz (rangeE s.low s.high k.1) (by simp))⟩
  by_cases h1 : badV l k.2 = 0
  · obtain ⟨hV, m, hm, hm2⟩ := hv h1
    rw [if_pos h1] at k13
    have k23 := valves23 (n := 60) (by omega) hV m (by omega)
    have hvl : (valvesL l m).length = m := by simp [valvesL]
    have k29v := same29 (n := 60) (by omega) (valvesL l m) (valvesL l m) (by omega)
    simp only [isl, hvl] at k29v
    rw [hm] at k13 k15 k16 k17 k18a k18b k18c h1 hNV hRN k20 e1 e2 e3
    simp only [Int.toNat_natCast] at k13 k15 k16 k17
    by_cases h3 : badN s l m = 0
    · obtain ⟨_, hS⟩ := hNV h3
      rw [if_pos h3] at k16 k17
      have k25 := encl25 (n := 60) (by omega) hS hV m (by omega)
      have k26 := safe26 (n := 60) (by omega) hS hV m (by omega)
      have k30e := same30 (n := 60) (by omega) (enclL s l m) (enclL s l m) (by rw [enclL_length]; omega)
      simp only [csl, enclL_length] at k30e
      by_cases h2 : badR s l k.1 m = 0
      · obtain ⟨_, g1, g2⟩ := hRN h2
        rw [if_pos h2] at k15
        have k24 := run24 (n := 60) (by omega) hS hV (g := k.1) (by have := hS.low; omega) (by have := hS.high; omega) m (by omega)
        have k29r := same29 (n := 60) (by omega) (runL s l k.1 m) (runL s l k.1 m) (by rw [runL_length]; omega)
        simp only [isl, runL_length] at k29r
        simp -implicitDefEqProofs [tlS, c3, hm, ka, k14, k13, k15, k16, k17, k19, k20, k21, k22, k27, k28, k18a, k18b, k18c, h1, h2, h3, k23, k24, k25, k26, k29v, k29r, k30e]
      · rw [if_neg h2] at k15
        simp -implicitDefEqProofs [tlS, c3, hm, ka, k14, k13, k15, k16, k17, k19, k20, k21, k22, k27, k28, k18a, k18b, k18c, h1, h2, h3, k23, k25, k26, k29v, k29n, k30e]
    · have h2 : ¬ badR s l k.1 m = 0 := fun h => h3 (hRN h).1
      rw [if_neg h3] at k16 k17
      rw [if_neg h2] at k15
      simp -implicitDefEqProofs [tlS, c3, hm, ka, k14, k13, k15, k16, k17, k19, k20, k21, k22, k27, k28, k18a, k18b, k18c, h1, h2, h3, k23, k29v, k29n, k30n]
  · have h3 : ¬ badN s l k.2 = 0 := fun h => h1 (hNV h).1
    have h2 : ¬ badR s l k.1 k.2 = 0 := fun h => h3 (hRN h).1
    rw [if_neg h1] at k13
    rw [if_neg h3] at k16 k17
    rw [if_neg h2] at k15
    simp -implicitDefEqProofs [tlS, c3, ka, k14, k13, k15, k16, k17, k19, k20, k21, k22, k27, k28, k18a, k18b, k18c, h1, h2, h3, k29n, k30n]

theorem runs_at (s : SledI) (l : List (Int × Int)) (k : Int × Int) : RUN 61 3 [sla s, csl l, .agg [iv k.1, iv k.2]] = .ret (.p (.bool true)) := by
  rw [RUN, call_eq (d := 60) fe3 _ rfl]
  have ka := awake12
  have hk := runs_rest s l k
  rw [c3_body]
  by_cases h1 : (13 : Int) < l.length
  · simp -implicitDefEqProofs [hdS, tlS, c3, h1, ka]
  · have hk := hk (by omega)
    simp only [two, slc] at hk
    simp -implicitDefEqProofs [hdS, tlS, c3, h1, hk]
end Fw
