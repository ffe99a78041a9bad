/- The law on moves: what it returns at any input. -/
import Derived.Test.YtdjkleaojdeepaaGreatDoorGaV4
set_option maxHeartbeats 16000000
namespace Fw
open Go
attribute [local irreducible] evCode evOps evOpsD evOper evOperD evOp evFn loopN T.All T.bind callPure callOp opsK opsDK restK seqK blockK loopS setK setQ giveK scalK gcK finish finS rfunK yldK yldB loopK

theorem vloop42 {d : Nat} (l : List Int) (hl : l.length < 1000000) (g : List (Int × Int)) (hg : g.length < 1000000) :
    loopN (loopS (evFn F C0 G0 (d + 3)) C0 G0 0 true [0, 1, 12, 13] c42L1) loopFuel ⟨[(0, isl l), (1, csl g), (12, .sl 0 0 0 0), (13, .ptr 1 0 0)], [(1, .arr [.int .i64 1] 0 1), (0, .arr [] 0 1)]⟩ = .ret (.exit 2, ⟨(V42 l g (l.length - 1)).env ++ [(70, .p (.bool false))], (V42 l g (l.length - 1)).sto⟩) := by
  rw [loop_run' (V42 l g) (l.length - 1) (e := .exit 2) (st' := ⟨(V42 l g (l.length - 1)).env ++ [(70, .p (.bool false))], (V42 l g (l.length - 1)).sto⟩) (by simp)]
  · rfl
  · intro k hk
    exact round42 l hl g hg k (by omega)
  · have hnl : ¬ (((l.length - 1 : Nat) : Int) + 1 < l.length) := by omega
    simp -implicitDefEqProofs [loopS_eq, c42L1, V42, hnl]
  · simp [loopFuel]; omega
def movE (l : List Int) (g : List (Int × Int)) : Int := firstE [traE l, spnE g]
def movO (l : List Int) (g : List (Int × Int)) : List Int := if movE l g = 0 then mvF l g (l.length - 1) else []
theorem moved42 {n : Nat} (hn : 5 ≤ n) (l : List Int) (hl : l.length < 1000000) (g : List (Int × Int)) (hg : g.length < 1000000) :
    ∃ a, RUN n 42 [isl l, csl g] = .ret (.tup [a, iv (movE l g)]) ∧ disown a = isl (movO l g) := by
  obtain ⟨d, rfl⟩ : ∃ d, n = d + 5 := ⟨n - 5, by omega⟩
  rw [RUN, call_eq fe42 _ rfl]
  have km := map105t (n := d + 4) (by omega) l hl
  have kf := first91 (n := d + 4) (by omega) (l.map (rangeE (-100000) 100000)) (by simpa using hl)
  have kw := fun b e => when104 (n := d + 4) (by omega) b e
  have k3 := fun a b c => first91_3 (n := d + 4) (by omega) a b c
  have ks := spans42 (d := d + 1) l g hg
  have kv := vloop42 (d := d + 1) l hl g hg
  have hA1 : decide ((1024 : Int) < l.length) = decide (1024 < l.length) := by
    by_cases h : 1024 < l.length
    · have : (1024 : Int) < l.length := by omega
      simp [h, this]
    · have : ¬ (1024 : Int) < l.length := by omega
      simp [h, this]
  have hB1 : decide ((32 : Int) < g.length) = decide (32 < g.length) := by
    by_cases h : 32 < g.length
    · have : (32 : Int) < g.length := by omega
      simp [h, this]
    · have : ¬ (32 : Int) < g.length := by omega
      simp [h, this]
  have hE : movE l g = if firstE [whenE (decide (1024 < l.length)) 5, firstE (l.map (rangeE (-100000) 100000)), whenE (decide (32 < g.length)) 5] = 0 then firstE (spnL g) else firstE [whenE (decide (1024 < l.length)) 5, firstE (l.map (rangeE (-100000) 100000)), whenE (decide (32 < g.length)) 5] := by
    unfold movE traE spnE
    by_cases hA : 1024 < l.length
    · simp [hA, firstE, whenE]
    · by_cases hr : firstE (l.map (rangeE (-100000) 100000)) = 0
      · by_cases hB : 32 < g.length
        · simp [hA, hr, hB, firstE, whenE]
        · simp [hA, hr, hB, firstE, whenE]
          exact fun h => h.symm
      · simp [hA, hr, firstE, whenE]
  have hlm : (l.map (rangeE (-100000) 100000)).length = l.length := by simp
  rw [hlm] at kf
  have hM := pI (mvF l g (l.length - 1))
  have hMl : (pI (mvF l g (l.length - 1))).length = (mvF l g (l.length - 1)).length := by simp [pI]
  unfold movO
  generalize hF : firstE [whenE (decide (1024 < l.length)) 5, firstE (l.map (rangeE (-100000) 100000)), whenE (decide (32 < g.length)) 5] = f at *
  by_cases hf : f = 0
  · subst hf
    rw [if_pos rfl] at hE
    rw [hE]
    rcases ks with ⟨ks, hs⟩ | ⟨⟨env, sto⟩, ks, hs1, hs2⟩
    · rw [if_pos hs, hs]
      refine ⟨.own (pI (mvF l g (l.length - 1))) (mvF l g (l.length - 1)).length 1, ?_, rfl⟩
      simp only [V42, isl, csl] at *
      generalize pI (mvF l g (l.length - 1)) = Q at *
      generalize (mvF l g (l.length - 1)).length = z at *
      generalize firstE (l.map (rangeE (-100000) 100000)) = fr at *
      generalize pI (l.map (rangeE (-100000) 100000)) = PR at *
      generalize pI l = A at *
      generalize cI g = G at *
      simp -implicitDefEqProofs [c42, km, kf, kw, k3, hA1, hB1, hF]
      rw [ks]
      simp -implicitDefEqProofs []
      rw [kv]
      simp -implicitDefEqProofs [hMl]
    · simp only at hs1
      subst hs1
      rw [if_neg hs2]
      refine ⟨.p (.sl [] 0), ?_, rfl⟩
      generalize firstE (spnL g) = fs at *
      simp only [isl, csl] at *
      generalize firstE (l.map (rangeE (-100000) 100000)) = fr at *
      generalize pI (l.map (rangeE (-100000) 100000)) = PR at *
      generalize pI l = A at *
      generalize cI g = G at *
      simp -implicitDefEqProofs [c42, km, kf, kw, k3, hA1, hB1, hF]
      rw [ks]
      simp -implicitDefEqProofs []
  · rw [if_neg hf] at hE
    rw [hE, if_neg hf]
    refine ⟨.p (.sl [] 0), ?_, rfl⟩
    simp only [isl, csl] at *
    generalize firstE (l.map (rangeE (-100000) 100000)) = fr at *
    generalize pI (l.map (rangeE (-100000) 100000)) = PR at *
    generalize pI l = A at *
    generalize cI g = G at *
    simp -implicitDefEqProofs [c42, km, kf, kw, k3, hA1, hB1, hF, hf]
theorem mov_at (ka : RUN 60 17 [] = .ret (.p (.bool true))) (l : List Int) (g : List (Int × Int)) : RUN 61 5 [isl l, csl g] = .ret (.p (.bool true)) := by
  rw [RUN, call_eq fe5 _ rfl]
  have k40 := short40 (n := 60) (by omega) l
  have k41 := short41 (n := 60) (by omega) g
  cases hs : (decide (l.length ≤ 40) || decide (l.length = 1025)) with
  | false =>
    rw [hs] at k40
    simp only [isl, csl] at *
    generalize pI l = A at *
    generalize cI g = G at *
    simp -implicitDefEqProofs [c5, k40, ka]
  | true =>
    rw [hs] at k40
    cases hs2 : (decide (g.length ≤ 8) || decide (g.length = 33)) with
    | false =>
      rw [hs2] at k41
      simp only [isl, csl] at *
      generalize pI l = A at *
      generalize cI g = G at *
      simp -implicitDefEqProofs [c5, k40, k41, ka]
    | true =>
      rw [hs2] at k41
      simp only [Bool.or_eq_true, decide_eq_true_eq] at hs hs2
      have hl : l.length < 1000000 := by omega
      have hg : g.length < 1000000 := by omega
      have k43 := ints43 (n := 60) (by omega) l hl
      obtain ⟨a, k42, hd⟩ := moved42 (n := 60) (by omega) l hl g hg
      have k44 := trace44 (n := 60) (by omega) l hl
      have k45 := spans45 (n := 60) (by omega) g hg
      have k23 := first23_2 (n := 60) (by omega) (traE l) (spnE g)
      have k46 := moved46 (n := 60) (by omega) l hl g hg
      have hml := mvF_len l g (l.length - 1)
      have k38 := same38 (n := 60) (by omega) (movO l g) (movO l g) (by
        unfold movO
        split
        · omega
        · simp)
      rw [show firstE [traE l, spnE g] = movE l g from rfl] at k23
      have hglim : g.length ≤ lim := by simp only [lim]; omega
      have hGl := cI_len' g
      have hz : g.length = 0 → cI g = [] := fun e => by rw [List.eq_nil_of_length_eq_zero e]; rfl
      have hmo : movO l g = if movE l g = 0 then mvF l g (l.length - 1) else [] := rfl
      by_cases g0 : g.length = 0
      · have g0 : g = [] := List.eq_nil_of_length_eq_zero g0
        subst g0
        have k41 : RUN 60 41 [.p (.sl [] 0)] = .ret (.p (.bool true)) := k41
        have k42 : RUN 60 42 [isl l, .p (.sl [] 0)] = _ := k42
        have k45 : RUN 60 45 [.p (.sl [] 0)] = _ := k45
        have k46 : RUN 60 46 [isl l, .p (.sl [] 0)] = _ := k46
        have e1 : csl [] = .p (.sl [] 0) := rfl
        rw [e1]
        by_cases hm : movE l [] = 0
        · rw [if_pos hm] at hmo
          rw [hmo] at hd k38
          rw [hm] at k42 k23
          generalize mvF l [] (l.length - 1) = M at *
          simp only [isl, decide_true] at *
          generalize pI M = Q at *
          generalize M.length = z at *
          generalize traE l = t1 at *
          generalize spnE [] = t2 at *
          generalize pI l = A at *
          simp -implicitDefEqProofs [c5, k40, k41, ka, k43, k42, hd, k44, k45, k23, k46, k38]
        · rw [if_neg hm] at hmo
          rw [hmo] at hd k38
          have hd : disown a = .p (.sl [] 0) := hd
          have k38 : RUN 60 38 [.p (.sl [] 0), .p (.sl [] 0)] = .ret (.p (.bool (decide (([] : List Int) = [])))) := k38
          simp only [isl, decide_true] at *
          generalize pI l = A at *
          generalize traE l = t1 at *
          generalize spnE [] = t2 at *
          generalize movE l [] = me at *
          simp -implicitDefEqProofs [c5, k40, k41, ka, k43, k42, hd, k44, k45, k23, k38, hm]
      · by_cases hm : movE l g = 0
        · rw [if_pos hm] at hmo
          rw [hmo] at hd k38
          rw [hm] at k42 k23
          generalize mvF l g (l.length - 1) = M at *
          simp only [isl, csl, decide_true] at *
          generalize pI M = Q at *
          generalize M.length = z at *
          generalize traE l = t1 at *
          generalize spnE g = t2 at *
          generalize pI l = A at *
          generalize cI g = G at *
          simp -implicitDefEqProofs [c5, k40, k41, ka, k43, k42, hd, k44, k45, k23, k46, k38, g0, hglim, hGl]
        · rw [if_neg hm] at hmo
          rw [hmo] at hd k38
          have hd : disown a = .p (.sl [] 0) := hd
          have k38 : RUN 60 38 [.p (.sl [] 0), .p (.sl [] 0)] = .ret (.p (.bool (decide (([] : List Int) = [])))) := k38
          simp only [isl, csl, decide_true] at *
          generalize pI l = A at *
          generalize traE l = t1 at *
          generalize spnE g = t2 at *
          generalize movE l g = me at *
          generalize cI g = G at *
          simp -implicitDefEqProofs [c5, k40, k41, ka, k43, k42, hd, k44, k45, k23, k38, g0, hglim, hGl, hm]
end Fw
