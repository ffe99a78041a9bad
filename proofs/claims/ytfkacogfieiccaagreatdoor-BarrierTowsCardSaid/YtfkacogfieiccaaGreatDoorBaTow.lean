/- The law on tows: what it returns at any input. -/
import Derived.Test.YtfkacogfieiccaaGreatDoorBaL4
import Derived.Test.YtfkacogfieiccaaGreatDoorBaTab
set_option maxHeartbeats 16000000
namespace Fw
open Go
attribute [local irreducible] evCode evOps evOpsD evOper evOperD evOp evFn loopN T.All T.bind callPure callOp opsK opsDK restK seqK blockK loopS setK setQ giveK scalK gcK finish finS rfunK yldK yldB loopK

@[irreducible] def c5r : ACode := tlS (tlS c5.body)
theorem c5_body : c5.body = .seq (hdS c5.body) (.seq (hdS (tlS c5.body)) c5r) := by unfold c5r; rfl

theorem tow_rest (t : TowI) (c f b : Int) (hl : t.pull.length < 1000000) (tl : Env) :
    (evCode (evFn F C0 G0 60) C0 G0 0 c5r ⟨(2, .ptr 0 0 0) :: (3, .ptr 1 0 0) :: tl, [(1, .arr [.int .i64 c, .int .i64 f, .int .i64 b] 0 1), (0, .box (twl t))]⟩).bind (finish [.tmp 4]) = .ret (.p (.bool true)) := by
  have ka := awake13
  have k35 := given35 (n := 60) (by omega) t hl
  have k34 := run34 (n := 60) (by omega) t hl f
  have k36 := reach36 (n := 60) (by omega) t hl
  have k37 := brake37 (n := 60) (by omega) t hl c f b
  have k38 := safe38 (n := 60) (by omega) t hl c
  have k39 := last39 (n := 60) (by omega) t hl
  have k40 := tow40 (n := 60) (by omega) t hl
  have k48 := tow48 (n := 60) (by omega) t hl
  have k41a := in41 (n := 60) (by omega) f t.fl t.fh
  have k41b := in41 (n := 60) (by omega) b t.bl t.bh
  have k42 := cell42 (n := 60) (by omega) t c
  have k19 := fun x y z => first19_3 (n := 60) (by omega) x y z
  have e : firstE [cellE t c, rangeE t.fl t.fh f, rangeE t.bl t.bh b] = brE t c f b := rfl
  have k49n := same49 (n := 60) (by omega) [] [] (by simp)
  have k25n := same25 (n := 60) (by omega) [] [] (by simp)
  simp only [isl, csl, cI, pI_nil, List.length_nil] at k49n k25n
  unfold c5r
  by_cases z0 : towE t = 0
  · have h := tow_of z0
    have hw := h.wl
    have hfew := h.few
    have hfr := h.fr
    have hbr := h.br
    have k46 := reach46 (n := 60) (by omega) h
    have k47 := last47 (n := 60) (by omega) h
    have k25 := same25 (n := 60) (by omega) (reL t) (reL t) (by rw [reL_length]; omega)
    simp only [csl, reL_length] at k25
    rw [if_pos z0] at k34 k36 k37 k38 k39
    have hrun : ∀ z1 : rangeE t.fl t.fh f = 0, RUN 60 43 [twa t, iv f] = .ret (.own (pI (runL t f)) (t.pull.length + 1) 1) := fun z1 => by
      have := rangeE_zero.1 z1
      exact run43 (n := 60) (by omega) h (by omega)
    have k49 := same49 (n := 60) (by omega) (runL t f) (runL t f) (by rw [runL_length]; omega)
    simp only [isl, runL_length] at k49
    by_cases z1 : rangeE t.fl t.fh f = 0
    · have k43 := hrun z1
      rw [if_pos z1] at k34
      simp only [isl, runL_length] at k34
      have hf := rangeE_zero.1 z1
      by_cases z2 : cellE t c = 0
      · have hc := cellE_zero.1 z2
        obtain ⟨k, rfl⟩ : ∃ k : Nat, c = k := ⟨c.toNat, by omega⟩
        have k45 := safe45 (n := 60) (by omega) h hc.2
        rw [if_pos z2] at k38
        rw [Int.toNat_natCast] at k37 k38
        have e1 : firstE [0, 0, rangeE t.bl t.bh b] = brE t k f b := by rw [← e, z1, z2]
        by_cases z3 : brE t k f b = 0
        · have hb := rangeE_zero.1 (firstE_zero.1 z3 (rangeE t.bl t.bh b) (by simp))
          have k44 := brake44 (n := 60) (by omega) h hc.2 (f := f) (b := b) (by omega) (by omega)
          rw [if_pos z3] at k37
          simp -implicitDefEqProofs [tlS, c5, ka, k35, k34, k36, k37, k38, k39, k40, k48, k41a, k41b, k42, k19, e1, k46, k47, k25, k43, k49, k45, k44, z0, z1, z2, z3]
        · rw [if_neg z3] at k37
          have q3 : (brE t k f b == 0) = false := by simpa using z3
          simp -implicitDefEqProofs [tlS, c5, ka, k35, k34, k36, k37, k38, k39, k40, k48, k41a, k41b, k42, k19, e1, k46, k47, k25, k43, k49, k45, z0, z1, z2, q3]
      · rw [if_neg z2] at k38
        have q2 : (cellE t c == 0) = false := by simpa using z2
        have z3 : ¬ brE t c f b = 0 := fun hz => z2 (firstE_zero.1 hz (cellE t c) (by simp))
        have q3 : (brE t c f b == 0) = false := by simpa using z3
        rw [if_neg z3] at k37
        have e1 : firstE [cellE t c, 0, rangeE t.bl t.bh b] = brE t c f b := by rw [← e, z1]
        simp -implicitDefEqProofs [tlS, c5, ka, k35, k34, k36, k37, k38, k39, k40, k48, k41a, k41b, k42, k19, e1, k46, k47, k25, k43, k49, z0, z1, q2, q3]
    · rw [if_neg z1] at k34
      have q1 : (rangeE t.fl t.fh f == 0) = false := by simpa using z1
      have z3 : ¬ brE t c f b = 0 := fun hz => z1 (firstE_zero.1 hz (rangeE t.fl t.fh f) (by simp))
      have q3 : (brE t c f b == 0) = false := by simpa using z3
      rw [if_neg z3] at k37
      by_cases z2 : cellE t c = 0
      · have hc := cellE_zero.1 z2
        obtain ⟨k, rfl⟩ : ∃ k : Nat, c = k := ⟨c.toNat, by omega⟩
        have k45 := safe45 (n := 60) (by omega) h hc.2
        rw [if_pos z2] at k38
        rw [Int.toNat_natCast] at k38
        have e1 : firstE [0, rangeE t.fl t.fh f, rangeE t.bl t.bh b] = brE t k f b := by rw [← e, z2]
        simp -implicitDefEqProofs [tlS, c5, ka, k35, k34, k36, k37, k38, k39, k40, k48, k41a, k41b, k42, k19, e1, k46, k47, k25, k49n, k45, z0, q1, z2, q3]
      · rw [if_neg z2] at k38
        have q2 : (cellE t c == 0) = false := by simpa using z2
        simp -implicitDefEqProofs [tlS, c5, ka, k35, k34, k36, k37, k38, k39, k40, k48, k41a, k41b, k42, k19, k46, k47, k25, k49n, z0, q1, q2, q3, e]
  · rw [if_neg z0] at k34 k36 k37 k38 k39
    have q0 : (towE t == 0) = false := by simpa using z0
    simp -implicitDefEqProofs [tlS, c5, ka, k35, k34, k36, k37, k38, k39, k40, k48, k49n, k25n, q0]

theorem tow_at (t : TowI) (c f b : Int) : RUN 61 5 [twa t, .agg [iv c, iv f, iv b]] = .ret (.p (.bool true)) := by
  rw [RUN, call_eq (d := 60) fe5 _ rfl]
  have ka := awake13
  rw [c5_body]
  by_cases h1 : (65 : Int) < t.pull.length
  · simp -implicitDefEqProofs [hdS, tlS, c5, ka, h1]
  · have hk := fun tl => tow_rest t c f b (by omega) tl
    simp -implicitDefEqProofs [hdS, tlS, c5, h1, hk]
end Fw
