/- The law of filled records, at any input. -/
import Derived.Test.YtbaedpfgjpkabaaGreatDoorChFi8
set_option maxHeartbeats 8000000
namespace Fw
open Go
attribute [local irreducible] evCode evOps evOpsD evOper evOperD evOp evFn loopN T.All T.bind callPure callOp opsK opsDK restK seqK blockK loopS setK setQ giveK scalK gcK finish finS rfunK yldK yldB loopK

theorem somK_mL (g : List (Int × Int)) (n : Nat) : (decide (0 < n) && somK g n) = (mL g n).any (!·) := by
  have : somK g n = (mL g n).any (!·) := by simp only [somK, mL, List.any_map]; rfl
  rw [this]
  cases n with
  | zero => rfl
  | succ n => simp

theorem filled69 {n : Nat} (hn : 5 ≤ n) (l : List Nat) (g : List (Int × Int)) (r : Int) (h : fiE l g r = 0) : RUN n 69 [fsl l, csl g, iv r] = .ret (if fiE2 l g r = 0 then .tup [.own (cI (fiYs l g r)) l.length 2, iv 0] else .tup [.p (.sl [] 0), iv (fiE2 l g r)]) := by
  obtain ⟨d, rfl⟩ : ∃ d, n = d + 5 := ⟨n - 5, by omega⟩
  rw [RUN, call_eq fe69 _ rfl]
  obtain ⟨⟨ha, hb⟩, hg, hr⟩ := fi_of h
  have hfew := hg.few
  have ho := outer69 (d := d + 1) l g (by omega) r ha hb hr
  rw [somK_mL] at ho
  have kw := fun b e => when109 (n := d + 4) (by omega) b e
  have k29 := fun a b => first29_2 (n := d + 4) (by omega) a b
  have hlen : (fiYs l g r).length = l.length := by simp
  have he : fiE2 l g r = firstE [whenE (!(mL g l.length).any (!·)) 12, whenE (apB (fiYs l g r)) 24] := by
    unfold fiE2
    rw [conE_ap]
    cases (mL g l.length).any (!·) <;> cases apB (fiYs l g r) <;> rfl
  rw [he]
  generalize (mL g l.length).any (!·) = s at *
  generalize fiYs l g r = ys at *
  generalize apB ys = a at *
  have k4 := k29 (whenE (!s) 12) (whenE a 24)
  generalize hE : firstE [whenE (!s) 12, whenE a 24] = E at *
  by_cases z : E = 0
  · rw [if_pos z]
    rw [z] at k4
    simp -implicitDefEqProofs [c69, ho, kw, k4, hlen]
  · rw [if_neg z]
    simp -implicitDefEqProofs [c69, ho, kw, k4, z]

theorem fil_at (ka : RUN 60 15 [] = .ret (.p (.bool true))) (l : List Nat) (g : List (Int × Int)) (r : Int) : RUN 61 8 [fsl l, csl g, iv r] = .ret (.p (.bool true)) := by
  rw [RUN, call_eq (d := 60) fe8 _ rfl]
  have s1 := short22 (n := 60) (by omega) l
  have s2 := short64 (n := 60) (by omega) g
  by_cases c1 : (decide (l.length ≤ 40) || decide (l.length = 4097)) = true
  · by_cases c2 : (decide (g.length ≤ 8) || decide (g.length = 33)) = true
    · have hl : l.length < 1000000 := by simp at c1; omega
      have hgl : g.length < 1000000 := by simp at c2; omega
      have i1 := floats24 (n := 60) (by omega) l hl
      have i2 := spans66 (n := 60) (by omega) g hgl
      have p65 := filled65 (n := 60) (by omega) l hl g hgl r
      have p43 := samples43 (n := 60) (by omega) l hl
      have p67 := gaps67 (n := 60) (by omega) l g hgl
      have p68 := rate68 (n := 60) (by omega) r
      have p29 := first29_3 (n := 60) (by omega) (smpsE l) (gapE g l.length) (rangeE 0 16384 r)
      have he : firstE [smpsE l, gapE g l.length, rangeE 0 16384 r] = fiE l g r := rfl
      rw [he] at p29
      have k55n : RUN 60 55 [.p (.sl [] 0), .p (.sl [] 0)] = .ret (.p (.bool true)) := (same55 (n := 60) (by omega) [] [] (by simp)).trans (by rw [decide_eq_true rfl])
      have k55 := same55 (n := 60) (by omega) (fiYs l g r) (fiYs l g r) (by simpa using hl)
      rw [decide_eq_true rfl] at k55
      simp only [csl, fiYs_length] at k55
      have p69 := fun h => filled69 (n := 60) (by omega) l g r h
      generalize smpsE l = E1 at *
      generalize gapE g l.length = E2 at *
      generalize rangeE 0 16384 r = E3 at *
      generalize fiE l g r = z at *
      generalize fiE2 l g r = z2 at *
      generalize fiYs l g r = ys at *
      by_cases y : z = 0
      · have p69' := p69 y
        rw [if_pos y] at p65
        rw [y] at p29
        by_cases y2 : z2 = 0
        · rw [if_pos y2] at p65 p69'
          simp -implicitDefEqProofs [c8, ka, s1, s2, c1, c2, i1, i2, p65, p43, p67, p68, p29, p69', k55]
        · rw [if_neg y2] at p65 p69'
          simp -implicitDefEqProofs [c8, ka, s1, s2, c1, c2, i1, i2, p65, p43, p67, p68, p29, p69', k55n]
      · rw [if_neg y] at p65
        simp -implicitDefEqProofs [c8, ka, s1, s2, c1, c2, i1, i2, p65, p43, p67, p68, p29, y, k55n]
    · simp -implicitDefEqProofs [c8, ka, s1, s2, c1, c2]
  · simp -implicitDefEqProofs [c8, ka, s1, c1]
end Fw
