/- The law on packs: what it returns at any input. -/
import Derived.Test.YtombnimlolbekaaGreatDoorPuX9
import Derived.Test.YtombnimlolbekaaGreatDoorPuLanes
set_option maxHeartbeats 16000000
namespace Fw
open Go
attribute [local irreducible] evCode evOps evOpsD evOper evOperD evOp evFn loopN T.All T.bind callPure callOp opsK opsDK restK seqK blockK loopS setK setQ giveK scalK gcK finish finS rfunK yldK yldB loopK

@[irreducible] def c10r : ACode := tlS (tlS c10.body)
theorem c10_body : c10.body = .seq (hdS c10.body) (.seq (hdS (tlS c10.body)) c10r) := by unfold c10r; rfl

theorem pk_rest (l : List PackI) (set : List Int) (x : Int × Int) (price : Int) (hl : l.length < 1000000) (hs : ∀ y ∈ l, y.name.length ≤ 9223372036854775807) (hset : set.length < 1000000) (tl : Env) :
    (evCode (evFn F C0 G0 60) C0 G0 0 c10r ⟨(0, psl l) :: (1, isl set) :: (5, .ptr 0 0 0) :: tl, [(0, .arr [.int .i64 x.1, .int .i64 x.2, .int .i64 price] 0 1)]⟩).bind (finish [.tmp 6]) = .ret (.p (.bool true)) := by
  have ka := awake12
  have k77 := bags77 (n := 60) (by omega) l hl
  have k33 := (ints33 (n := 60) (by omega) set hset).choose_spec.1
  have k76 := fits76 (n := 60) (by omega) l set x hs hset
  obtain ⟨w, k78, hw⟩ := cheap78 (n := 60) (by omega) l x hs
  have k79 := bound79 (n := 60) (by omega) l x price hs
  have k80 := packs80 (n := 60) (by omega) l
  have k87 := packs87 (n := 60) (by omega) l hs
  have k81 := target81 (n := 60) (by omega) x
  have k82 := price82 (n := 60) (by omega) price
  have k83 := set83 (n := 60) (by omega) l set hset
  have k18 := fun a b => first18_2 (n := 60) (by omega) a b
  have k29n := same29 (n := 60) (by omega) [] [] (by simp)
  simp only [isl, pI_nil, List.length_nil] at k29n
  have hd1 : disown w = .p (.sl (pI (chOut l x)) (chOut l x).length) := by rcases hw with rfl | rfl <;> rfl
  have hb1 : badF l set x = if packsE l = 0 then firstE [setEr l.length set, targE x] else packsE l := by simp only [badF, firstE]
  have hb2 : chErr l x = if packsE l = 0 then targE x else packsE l := by
    simp only [chErr, firstE]
    by_cases ht : targE x = 0 <;> simp [ht]
  have hb3 : badB l x price = firstE [chErr l x, rangeE (-1000) 1000 price] := by
    rw [hb2]
    simp only [badB, firstE]
    by_cases hp : packsE l = 0
    · simp only [hp, if_true]
    · simp only [hp, if_false]
  have he2 : firstE [packsE l, targE x] = chErr l x := rfl
  have he3 : firstE [chErr l x, rangeE (-1000) 1000 price] = badB l x price := hb3.symm
  unfold c10r
  by_cases hp : packsE l = 0
  · rw [if_pos hp] at hb1 hb2
    have hpo := packs_of hp
    have k18a := k18 (packsE l) (targE x)
    rw [he2, hp] at k18a
    have k18b := k18 (chErr l x) (rangeE (-1000) 1000 price)
    rw [he3] at k18b
    have k18c := k18 (setEr l.length set) (targE x)
    rw [← hb1] at k18c
    have hfit : ∀ v, badF l set x = 0 → RUN 60 84 [psl l, isl set, .agg [iv x.1, iv x.2]] = .ret (.p (.bool v)) → v = fitB l set x := by
      intro v hz h
      have hr := set_of (firstE_zero.1 (hb1 ▸ hz) (setEr l.length set) (by simp))
      rw [fits84 (n := 60) (by omega) hpo hr hset x] at h
      cases h; rfl
    have k84 : badF l set x = 0 → RUN 60 84 [psl l, isl set, .agg [iv x.1, iv x.2]] = .ret (.p (.bool (fitB l set x))) := fun hz =>
      fits84 (n := 60) (by omega) hpo (set_of (firstE_zero.1 (hb1 ▸ hz) (setEr l.length set) (by simp))) hset x
    have k86 : badB l x price = 0 → RUN 60 86 [psl l, .agg [iv x.1, iv x.2], iv price] = .ret (iv (bndF l price (bnd0 x price) l.length)) := fun hz => by
      have hz1 := firstE_zero.1 (show firstE [packsE l, targE x, rangeE (-1000) 1000 price] = 0 from hz)
      exact bound86 (n := 60) (by omega) hpo (hz1 (targE x) (by simp)) (rangeE_zero.1 (hz1 _ (by simp)))
    have k85 := cheapest85 (n := 60) (by omega) hpo x
    have hlen : (chOut l x).length ≤ 8 := by
      unfold chOut
      split
      · cases hb : bestF l x (2 ^ l.length) with
        | none => simp
        | some s => have := (kept_in l x _ s hb).2; have := hpo.few; simp; omega
      · simp
    have k29 := same29 (n := 60) (by omega) (chOut l x) (chOut l x) (by omega)
    simp only [decide_true] at k29
    have k85' : chErr l x = 0 → ∃ w2, RUN 60 85 [psl l, .agg [iv x.1, iv x.2]] = .ret (.tup [w2, iv (chCost l x), iv (chE l x)]) ∧ disown w2 = .p (.sl (pI (chOut l x)) (chOut l x).length) := fun hz => by
      rw [k85]
      simp only [chOut, chCost, chE, if_pos hz]
      cases bestF l x (2 ^ l.length) with
      | none => exact ⟨_, rfl, rfl⟩
      | some s => exact ⟨_, rfl, rfl⟩
    by_cases z2 : chErr l x = 0
    · obtain ⟨w2, k85, hd2⟩ := k85' z2
      rw [z2] at k18a k18b
      by_cases z1 : badF l set x = 0
      · have k84 := k84 z1
        rw [if_pos z1] at k76
        by_cases z3 : badB l x price = 0
        · have k86 := k86 z3
          rw [if_pos z3] at k79
          simp -implicitDefEqProofs [tlS, c10, ka, k77, k33, k76, k78, k79, k80, k87, k81, k82, k83, k18a, k18b, k18c, k29, hd1, hd2, hp, z1, z3, k84, k85, k86]
        · rw [if_neg z3] at k79
          simp -implicitDefEqProofs [tlS, c10, ka, k77, k33, k76, k78, k79, k80, k87, k81, k82, k83, k18a, k18b, k18c, k29, hd1, hd2, hp, z1, z3, k84, k85]
      · rw [if_neg z1] at k76
        by_cases z3 : badB l x price = 0
        · have k86 := k86 z3
          rw [if_pos z3] at k79
          simp -implicitDefEqProofs [tlS, c10, ka, k77, k33, k76, k78, k79, k80, k87, k81, k82, k83, k18a, k18b, k18c, k29, hd1, hd2, hp, z1, z3, k85, k86]
        · rw [if_neg z3] at k79
          simp -implicitDefEqProofs [tlS, c10, ka, k77, k33, k76, k78, k79, k80, k87, k81, k82, k83, k18a, k18b, k18c, k29, hd1, hd2, hp, z1, z3, k85]
    · have ho : chOut l x = [] := if_neg z2
      have hcst : chCost l x = 0 := if_neg z2
      have hce : chE l x = chErr l x := if_neg z2
      rw [ho] at hd1
      rw [hcst, hce] at k78
      simp only [pI_nil, List.length_nil] at hd1
      have z3 : ¬ badB l x price = 0 := by
        rw [hb3]; intro h; exact z2 (firstE_zero.1 h (chErr l x) (by simp))
      have z1 : ¬ badF l set x = 0 := by
        rw [hb1]; intro h; exact z2 (by rw [hb2]; exact firstE_zero.1 h (targE x) (by simp))
      rw [if_neg z3] at k79
      rw [if_neg z1] at k76
      simp -implicitDefEqProofs [tlS, c10, ka, k77, k33, k76, k78, k79, k80, k87, k81, k82, k83, k18a, k18b, k18c, k29n, hd1, hp, z1, z2, z3]
  · rw [if_neg hp] at hb1 hb2
    have z2 : ¬ chErr l x = 0 := by rw [hb2]; exact hp
    have k18a := k18 (packsE l) (targE x)
    have k18b := k18 (chErr l x) (rangeE (-1000) 1000 price)
    rw [he2] at k18a
    rw [he3] at k18b
    have ho : chOut l x = [] := if_neg z2
    have hcst : chCost l x = 0 := if_neg z2
    have hce : chE l x = chErr l x := if_neg z2
    rw [ho] at hd1
    rw [hcst, hce] at k78
    simp only [pI_nil, List.length_nil] at hd1
    have z3 : ¬ badB l x price = 0 := by
      rw [hb3]; intro h; exact z2 (firstE_zero.1 h (chErr l x) (by simp))
    have hb3' : badB l x price = packsE l := by
      rw [hb3, hb2, firstE, if_neg hp]
    rw [hb2] at k18a k78
    rw [hb2, hb3'] at k18b
    rw [if_neg z3, hb3'] at k79
    rw [hb1, if_neg hp] at k76
    simp -implicitDefEqProofs [tlS, c10, ka, k77, k33, k76, k78, k79, k80, k87, k81, k82, k18a, k18b, k29n, hd1, hp]

theorem pk_at (l : List PackI) (set : List Int) (x : Int × Int) (price : Int) (hl : l.length ≤ 9223372036854775807) (hs : ∀ y ∈ l, y.name.length ≤ 9223372036854775807) : RUN 61 10 [psl l, isl set, .agg [iv x.1, iv x.2, iv price]] = .ret (.p (.bool true)) := by
  rw [RUN, call_eq (d := 60) fe10 _ rfl]
  have ka := awake12
  have k75 := short75 (n := 60) (by omega) l hl
  rw [c10_body]
  cases hS : shortPB l with
  | false =>
    rw [hS] at k75
    simp -implicitDefEqProofs [hdS, tlS, c10, ka, k75]
  | true =>
    rw [hS] at k75
    have hl9 : l.length ≤ 9 := by
      simp only [shortPB, Bool.and_eq_true, Bool.or_eq_true, decide_eq_true_eq] at hS
      omega
    by_cases h9 : (9 : Int) < set.length
    · simp -implicitDefEqProofs [hdS, tlS, c10, ka, k75, h9]
    · have hk := fun tl => pk_rest l set x price (by omega) hs (by omega) tl
      simp -implicitDefEqProofs [hdS, tlS, c10, k75, h9, hk]
end Fw
