/- The law on strings of acts: what it returns at any input. -/
import Derived.Test.YtdjkleaojdeepaaGreatDoorGaSG
import Derived.Test.YtdjkleaojdeepaaGreatDoorGaS5
import Derived.Test.YtdjkleaojdeepaaGreatDoorGaRun
set_option maxHeartbeats 16000000
set_option maxRecDepth 8000
namespace Fw
open Go
attribute [local irreducible] evCode evOps evOpsD evOper evOperD evOp evFn loopN T.All T.bind callPure callOp opsK opsDK restK seqK blockK loopS setK setQ giveK scalK gcK finish finS rfunK yldK yldB loopK

@[irreducible] def c8r : ACode := tlS (tlS c8.body)
theorem c8_body : c8.body = .seq (hdS c8.body) (.seq (hdS (tlS c8.body)) c8r) := by unfold c8r; rfl
theorem parseL_length (h : HallI) (s : List UInt8) (hs : s.length ≤ 4096) : (parseL h s).1.length < 50000 := by
 have hg := goL_length (splitS 10 s) []
 rw [splitS_length] at hg
 have h2 : s.count 10 ≤ s.length := List.count_le_length
 unfold parseL
 split
 ·split
  ·simp
  ·split
   ·simp only [List.length_nil] at hg ⊢; omega
   ·simp
 ·simp
theorem str_rest (ka : RUN 60 17 [] = .ret (.p (.bool true))) (h : HallI) (g0 : h.t0.length < 1000000) (g1 : h.t1.length < 1000000) (g2 : h.t2.length < 1000000) (l : List ActI) (s : List UInt8) (hl : l.length < 50000) (tl : Env) :
  (evCode (evFn F C0 G0 60) C0 G0 0 c8r ⟨(1, asl l) :: (2, sv s) :: (3, .ptr 0 0 0) :: tl, [(0, .box (hc h))]⟩).bind (finish [.tmp 6]) = .ret (.p (.bool true)) := by
 have k19 := own19 (n := 60) (by omega) h g0 g1 g2
 have k20 := done20 (n := 60) (by omega) l (by omega)
 have k63 := print63 (n := 60) (by omega) h g0 g1 g2 l hl
 have k64 := parse64 (n := 60) (by omega) h g0 g1 g2 s
 have k26 := check26 (n := 60) (by omega) h g0 g1 g2 l hl
 have k65 := hall65 (n := 60) (by omega) h g0 g1 g2
 have k67 := fun e => parse67 (n := 60) (by omega) h g0 g1 g2 e s
 have k66 := fun e => print66 (n := 60) (by omega) l hl e
 have k69n : RUN 60 69 [.p (.sl [] 0)] = _ := back69 (n := 60) (by omega) [] (by simp)
 have k68n : RUN 60 68 [.p (.sl [] 0), .p (.sl [] 0)] = _ := same68 (n := 60) (by omega) [] (by simp)
 have hr0 : rowC ac [] = [] := rfl
 simp only [hr0, List.length_nil] at k69n
 unfold c8r
 have hP := fun e : actsE h l = 0 => acts_P e
 have hcz : chkE h l = 0 → actsE h l = 0 := fun e => by
  unfold chkE at e
  split at e
  ·rename_i q; exact absurd e q
  ·rename_i q; simpa using q
 have hpl := parseL_length h s
 unfold parP at k64 k67
 have hlast : ∀ A : List ActI, A.length < 1000000 → RUN 60 69 [asl A] = .ret (.own (rowC ac A) A.length 6) ∧ RUN 60 68 [asl A, asl A] = .ret (.p (.bool true)) := fun A hA => ⟨back69 (n := 60) (by omega) A hA, same68 (n := 60) (by omega) A hA⟩
 generalize parseL h s = PL at *
 have main : ∀ (T : List UInt8) (e : Int), RUN 60 63 [ha h, asl l] = .ret (.tup [sv T, iv e]) → ((chkE h l = 0 ∧ RUN 60 66 [asl l] = .ret (.tup [sv T, iv e])) ∨ (¬ chkE h l = 0 ∧ T = [] ∧ e = chkE h l)) → (evCode (evFn F C0 G0 60) C0 G0 0 (tlS (tlS c8.body)) ⟨(1, asl l) :: (2, sv s) :: (3, .ptr 0 0 0) :: tl, [(0, .box (hc h))]⟩).bind (finish [.tmp 6]) = .ret (.p (.bool true)) := by
  intro T e k63 hc1
  by_cases hz : hallE h = 0
  ·have k67z := k67 hz
   clear k67
   rw [if_neg (by simpa using hz)] at k64
   rw [hz] at k65
   by_cases h4 : 4096 < s.length
   ·rw [if_pos h4] at k64 k67z
    simp only [ha, csl, asl, hc] at *
    generalize cI h.t0 = A0 at *
    generalize cI h.t1 = A1 at *
    generalize cI h.t2 = A2 at *
    rcases hc1 with ⟨q1, q2⟩ | ⟨q1, rfl, rfl⟩
    ·rw [q1] at k26
     simp -implicitDefEqProofs [tlS, c8, ka, k19, k20, k63, k64, k26, k65, k67z, q2, k69n, k68n, strBin]
    ·generalize chkE h l = ce at *
     simp -implicitDefEqProofs [tlS, c8, ka, k19, k20, k63, k64, k26, k65, k67z, q1, k69n, k68n, strBin]
   ·rw [if_neg h4] at k64 k67z
    obtain ⟨kb, ks⟩ := hlast PL.1 (by have := hpl (by omega); omega)
    simp only [ha, csl, asl, hc] at *
    generalize cI h.t0 = A0 at *
    generalize cI h.t1 = A1 at *
    generalize cI h.t2 = A2 at *
    by_cases hp : PL.2.2 = 0
    ·rw [if_pos hp, hp] at k64 k67z
     rcases hc1 with ⟨q1, q2⟩ | ⟨q1, rfl, rfl⟩
     ·rw [q1] at k26
      simp -implicitDefEqProofs [tlS, c8, ka, k19, k20, k63, k64, k26, k65, k67z, q2, kb, ks, strBin]
     ·generalize chkE h l = ce at *
      simp -implicitDefEqProofs [tlS, c8, ka, k19, k20, k63, k64, k26, k65, k67z, q1, kb, ks, strBin]
    ·rw [if_neg hp] at k64 k67z
     rcases hc1 with ⟨q1, q2⟩ | ⟨q1, rfl, rfl⟩
     ·rw [q1] at k26
      simp -implicitDefEqProofs [tlS, c8, ka, k19, k20, k63, k64, k26, k65, k67z, q2, k69n, k68n, strBin]
     ·generalize chkE h l = ce at *
      simp -implicitDefEqProofs [tlS, c8, ka, k19, k20, k63, k64, k26, k65, k67z, q1, k69n, k68n, strBin]
  ·rw [if_pos hz] at k64
   have hcn : ¬ chkE h l = 0 := fun e => hz (acts_ok (hcz e)).1
   generalize hallE h = eh at *
   simp only [ha, csl, asl, hc] at *
   generalize cI h.t0 = A0 at *
   generalize cI h.t1 = A1 at *
   generalize cI h.t2 = A2 at *
   rcases hc1 with ⟨q1, q2⟩ | ⟨q1, rfl, rfl⟩
   ·exact absurd q1 hcn
   ·generalize chkE h l = ce at *
    simp -implicitDefEqProofs [tlS, c8, ka, k19, k20, k63, k64, k26, k65, hz, q1, k69n, k68n, strBin]
 by_cases q : chkE h l = 0
 ·rw [if_pos q, if_pos q] at k63
  exact main _ _ k63 (.inl ⟨q, k66 (hP (hcz q))⟩)
 ·rw [if_neg q, if_neg q] at k63
  exact main _ _ k63 (.inr ⟨q, rfl, rfl⟩)

theorem str_at (ka : RUN 60 17 [] = .ret (.p (.bool true))) (h : HallI) (l : List ActI) (hl : l.length ≤ 9223372036854775807) (s : List UInt8) : RUN 61 8 [ha h, asl l, sv s] = .ret (.p (.bool true)) := by
 rw [RUN, call_eq (d := 60) fe8 _ rfl, c8_body]
 have k15 : RUN 60 15 [ha h] = .ret (.p (.bool (shortH h))) := short15 (n := 60) (by omega) h
 have k16 : RUN 60 16 [asl l] = .ret (.p (.bool (shortA l))) := short16 (n := 60) (by omega) l hl
 cases hsh : shortH h with
 | false =>
  rw [hsh] at k15
  simp only [ha, csl, asl] at *
  generalize cI h.t0 = A0 at *
  generalize cI h.t1 = A1 at *
  generalize cI h.t2 = A2 at *
  simp -implicitDefEqProofs [hdS, tlS, c8, k15, ka]
 | true =>
  rw [hsh] at k15
  cases hsa : shortA l with
  | false =>
   rw [hsa] at k16
   simp only [ha, csl, asl] at *
   generalize cI h.t0 = A0 at *
   generalize cI h.t1 = A1 at *
   generalize cI h.t2 = A2 at *
   generalize rowC ac l = A at *
   simp -implicitDefEqProofs [hdS, tlS, c8, k15, k16, ka]
  | true =>
   rw [hsa] at k16
   simp only [shortH, shortA, Bool.and_eq_true, Bool.or_eq_true, decide_eq_true_eq] at hsh hsa
   obtain ⟨s0, s1, s2⟩ := hsh
   have hk := fun tl => str_rest ka h (by omega) (by omega) (by omega) l s (by omega) tl
   simp only [ha, csl, asl, hc] at *
   generalize cI h.t0 = A0 at *
   generalize cI h.t1 = A1 at *
   generalize cI h.t2 = A2 at *
   generalize rowC ac l = A at *
   cases h2 : ((s.length : Int) != 4097) <;> by_cases h1 : (400 : Int) < s.length
   all_goals first
    | (simp -implicitDefEqProofs [hdS, tlS, c8, h1, h2, ka, k15, k16]; done)
    | (simp -implicitDefEqProofs [hdS, tlS, c8, h1, h2, k15, k16, hk])
end Fw
