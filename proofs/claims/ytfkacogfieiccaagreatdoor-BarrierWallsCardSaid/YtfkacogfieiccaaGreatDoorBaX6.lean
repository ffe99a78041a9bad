/- The law on walls: what it returns at any input. -/
import Derived.Test.YtfkacogfieiccaaGreatDoorBaX1
import Derived.Test.YtfkacogfieiccaaGreatDoorBaX3
import Derived.Test.YtfkacogfieiccaaGreatDoorBaX5
import Derived.Test.YtfkacogfieiccaaGreatDoorBaTab
set_option maxHeartbeats 32000000
namespace Fw
open Go
attribute [local irreducible] evCode evOps evOpsD evOper evOperD evOp evFn loopN T.All T.bind callPure callOp opsK opsDK restK seqK blockK loopS setK setQ giveK scalK gcK finish finS rfunK yldK yldB loopK

@[irreducible] def c8r : ACode := tlS (tlS c8.body)
theorem c8_body : c8.body = .seq (hdS c8.body) (.seq (hdS (tlS c8.body)) c8r) := by unfold c8r; rfl

theorem wal_rest (w : List LoadI) (f g : List Int) (x : Int) (hw40 : ∀ i, (hi : i < w.length) → w[i].name.length ≤ 40 ∧ w[i].s.length ≤ 65) (hw : w.length < 1000000) (hf : f.length < 1000000) (hg : g.length < 1000000) :
    (evCode (evFn F C0 G0 60) C0 G0 0 c8r ⟨[(0, lol w), (3, .ptr 0 0 0), (50, .p (.bool false))], [(0, .box [isl f, isl g, iv x])]⟩).bind (finish [.tmp 4]) = .ret (.p (.bool true)) := by
  have ka := awake13
  have k63 := loads63 (n := 60) (by omega) w hw (fun i hi => by have := (hw40 i hi).2; omega)
  have k72 := impulse72 (n := 60) (by omega) w hw hw40
  have k73 := peak73 (n := 60) (by omega) w hw hw40
  have k74 := centre74 (n := 60) (by omega) w hw hw40 x
  have k75 := crush75 (n := 60) (by omega) f g hf hg
  have k52f := ints52 (n := 60) (by omega) f hf
  have k52g := ints52 (n := 60) (by omega) g hg
  have k66 := check66 (n := 60) (by omega) w hw hw40
  have k76 := check76 (n := 60) (by omega) f g hf hg
  have k82 := check82 (n := 60) (by omega) w hw hw40
  have cr : (crushE f g = 0 ∧ RUN 60 81 [isl f, isl g] = .ret (iv (crA f g))) ∨ ((crushE f g == 0) = false ∧ crA f g = 0) := by
    by_cases z : crushE f g = 0
    · exact .inl ⟨z, crush81 (by omega) z⟩
    · exact .inr ⟨by simpa using z, by simp [crA, z]⟩
  unfold c8r
  by_cases z0 : wallE w = 0
  · have hwo := wall_of z0
    rw [if_pos z0] at k72
    have k77 := impulse77 (n := 60) (by omega) hwo
    have k78 := peak78 (n := 60) (by omega) hwo
    have k79 := check79 (n := 60) (by omega) hwo x
    have e1 : pkA w = pkF (forL w) (wid w - 1) := by simp [pkA, z0]
    rw [e1] at k73
    generalize pkF (forL w) (wid w - 1) = P at *
    generalize tot (impL w) = Q at *
    by_cases z1 : idxE w x = 0
    · obtain ⟨x0, x1⟩ := idxE_zero.1 z1
      obtain ⟨j, rfl⟩ : ∃ j : Nat, x = j := ⟨x.toNat, by omega⟩
      have k80 := centre80 (n := 60) (by omega) hwo (j := j) (by omega)
      have eF : cenF w j = cenE w j := by simp [cenF, z0, z1]
      by_cases z2 : cenE w j = 0
      · have eP : cenP w j = cenA w j := by simp [cenP, eF, z2]
        have eQ : cenQ w j = cenB w j := by simp [cenQ, eF, z2]
        rw [eP, eQ, eF, z2] at k74
        rw [if_pos z2] at k80
        generalize cenA w j = A at *
        generalize cenB w j = B at *
        rcases cr with ⟨r1, r2⟩ | ⟨r1, r2⟩
        · rw [r1] at k75 k76
          simp -implicitDefEqProofs [c8, tlS, ka, k63, k72, k73, k74, k75, k52f, k52g, k66, k76, k82, k77, k78, k79, k80, z0, z1, r2]
        · rw [r2] at k75
          simp -implicitDefEqProofs [c8, tlS, ka, k63, k72, k73, k74, k75, k52f, k52g, k66, k76, k82, k77, k78, k79, k80, z0, z1, r1]
      · have eP : cenP w j = (0, 0) := by simp [cenP, eF, z2]
        have eQ : cenQ w j = (0, 0) := by simp [cenQ, eF, z2]
        rw [eP, eQ, eF] at k74
        rw [if_neg z2] at k80
        rcases cr with ⟨r1, r2⟩ | ⟨r1, r2⟩
        · rw [r1] at k75 k76
          simp -implicitDefEqProofs [c8, tlS, ka, k63, k72, k73, k74, k75, k52f, k52g, k66, k76, k82, k77, k78, k79, k80, z0, z1, r2]
        · rw [r2] at k75
          simp -implicitDefEqProofs [c8, tlS, ka, k63, k72, k73, k74, k75, k52f, k52g, k66, k76, k82, k77, k78, k79, k80, z0, z1, r1]
    · have q1 : (idxE w x == 0) = false := by simpa using z1
      have eF : cenF w x = idxE w x := by simp [cenF, z0, z1]
      have eP : cenP w x = (0, 0) := by simp [cenP, eF, z1]
      have eQ : cenQ w x = (0, 0) := by simp [cenQ, eF, z1]
      rw [eP, eQ, eF] at k74
      rcases cr with ⟨r1, r2⟩ | ⟨r1, r2⟩
      · rw [r1] at k75 k76
        simp -implicitDefEqProofs [c8, tlS, ka, k63, k72, k73, k74, k75, k52f, k52g, k66, k76, k82, k77, k78, k79, z0, q1, r2]
      · rw [r2] at k75
        simp -implicitDefEqProofs [c8, tlS, ka, k63, k72, k73, k74, k75, k52f, k52g, k66, k76, k82, k77, k78, k79, z0, q1, r1]
  · have q0 : (wallE w == 0) = false := by simpa using z0
    rw [if_neg z0] at k72
    have e1 : pkA w = (0, 0) := by simp [pkA, z0]
    have eF : cenF w x = wallE w := by simp [cenF, z0]
    have eP : cenP w x = (0, 0) := by simp [cenP, eF, z0]
    have eQ : cenQ w x = (0, 0) := by simp [cenQ, eF, z0]
    rw [e1] at k73
    rw [eP, eQ, eF] at k74
    rcases cr with ⟨r1, r2⟩ | ⟨r1, r2⟩
    · rw [r1] at k75 k76
      simp -implicitDefEqProofs [c8, tlS, ka, k63, k72, k73, k74, k75, k52f, k52g, k66, k76, k82, q0, r2]
    · rw [r2] at k75
      simp -implicitDefEqProofs [c8, tlS, ka, k63, k72, k73, k74, k75, k52f, k52g, k66, k76, k82, q0, r1]

theorem wal_at (w : List LoadI) (hbw : w.length ≤ 9223372036854775807) (f g : List Int) (x : Int) : RUN 61 8 [lol w, .agg [isl f, isl g, iv x]] = .ret (.p (.bool true)) := by
  rw [RUN, call_eq (d := 60) fe8 _ rfl]
  have ka := awake13
  have k58 := short58 (n := 60) (by omega) w hbw
  rw [c8_body]
  by_cases hsw : shortW w = true
  · by_cases cf : 10 < f.length ∧ f.length ≠ 65
    · have c1 : (10 : Int) < f.length := by omega
      have c2 : ((f.length : Int) != 65) = true := by simp; omega
      simp -implicitDefEqProofs [hdS, tlS, c8, ka, k58, hsw, c1, c2]
    · by_cases cg : 10 < g.length ∧ g.length ≠ 65
      · have d1 : (10 : Int) < g.length := by omega
        have d2 : ((g.length : Int) != 65) = true := by simp; omega
        by_cases c1 : (10 : Int) < f.length
        · have c2 : ((f.length : Int) != 65) = false := by simp; omega
          simp -implicitDefEqProofs [hdS, tlS, c8, ka, k58, hsw, c1, c2, d1, d2]
        · simp -implicitDefEqProofs [hdS, tlS, c8, ka, k58, hsw, c1, d1, d2]
      · obtain ⟨hw40, hw17⟩ := shortW_of hsw
        have hk := wal_rest w f g x hw40 (by omega) (by omega) (by omega)
        by_cases c1 : (10 : Int) < f.length
        · have c2 : ((f.length : Int) != 65) = false := by simp; omega
          by_cases d1 : (10 : Int) < g.length
          · have d2 : ((g.length : Int) != 65) = false := by simp; omega
            simp -implicitDefEqProofs [hdS, tlS, c8, k58, hsw, c1, c2, d1, d2, hk]
          · simp -implicitDefEqProofs [hdS, tlS, c8, k58, hsw, c1, c2, d1, hk]
        · by_cases d1 : (10 : Int) < g.length
          · have d2 : ((g.length : Int) != 65) = false := by simp; omega
            simp -implicitDefEqProofs [hdS, tlS, c8, k58, hsw, c1, d1, d2, hk]
          · simp -implicitDefEqProofs [hdS, tlS, c8, k58, hsw, c1, d1, hk]
  · have hsw' : shortW w = false := by simpa using hsw
    simp -implicitDefEqProofs [hdS, tlS, c8, ka, k58, hsw']
end Fw
