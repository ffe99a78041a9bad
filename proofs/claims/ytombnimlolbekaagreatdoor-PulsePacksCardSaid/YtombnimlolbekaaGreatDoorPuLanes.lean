/- The law on lanes: what it returns at any input. -/
import Derived.Test.YtombnimlolbekaaGreatDoorPuL5
import Derived.Test.YtombnimlolbekaaGreatDoorPuA
import Derived.Test.YtombnimlolbekaaGreatDoorFwC
set_option maxHeartbeats 16000000
namespace Fw
open Go
attribute [local irreducible] evCode evOps evOpsD evOper evOperD evOp evFn loopN T.All T.bind callPure callOp opsK opsDK restK seqK blockK loopS setK setQ giveK scalK gcK finish finS rfunK yldK yldB loopK

theorem spans32 {n : Nat} (hn : 1 ≤ n) (c : List (Int × Int)) (hl : c.length < 1000000) : RUN n 32 [csl c] = .ret (.own (cI c) c.length 2) := by
  obtain ⟨d, rfl⟩ : ∃ d, n = d + 1 := ⟨n - 1, by omega⟩
  rw [RUN, call_eq fe32 _ rfl]
  have hlim : c.length ≤ lim := by simp only [lim]; omega
  by_cases h : c.length = 0
  · have : c = [] := List.eq_nil_of_length_eq_zero h
    subst this
    simp -implicitDefEqProofs [c32, lim, cI]
  · simp -implicitDefEqProofs [c32, hlim, h]

theorem awake12 : RUN 60 12 [] = .ret (.p (.bool true)) := awake

def hdS : ACode → ACode
  | .seq a _ => a
  | c => c
def tlS : ACode → ACode
  | .seq _ b => b
  | c => c
@[irreducible] def c4r : ACode := tlS (tlS c4.body)
theorem c4_body : c4.body = .seq (hdS c4.body) (.seq (hdS (tlS c4.body)) c4r) := by unfold c4r; rfl

theorem lanes_rest (c : List (Int × Int)) (p : List Int) (hc : c.length < 1000000) (hp : p.length < 1000000) : (evCode (evFn F C0 G0 60) C0 G0 0 c4r ⟨[(0, csl c), (1, isl p), (38, .p (.bool false))], []⟩).bind (finish [.tmp 4]) = .ret (.p (.bool true)) := by
  have ka := awake12
  have k32 := spans32 (n := 60) (by omega) c hc
  have k33 := (ints33 (n := 60) (by omega) p hp).choose_spec.1
  have k31 := inside31 (n := 60) (by omega) c p hc hp
  have k34 := excess34 (n := 60) (by omega) c p hc hp
  have k35 := speeds35 (n := 60) (by omega) p hp
  have k36 := ways36 (n := 60) (by omega) p hp
  have k37 := corr37 (n := 60) (by omega) c hc
  have k38 := fit38 (n := 60) (by omega) c p hp
  have k18 := first18_2 (n := 60) (by omega) (corrE c) (fitE c p)
  have k39 := pulse39 (n := 60) (by omega) p hp
  have k43 := corr43 (n := 60) (by omega) c hc
  have k29 := fun a b ha => same29 (n := 60) (by omega) a b ha
  have k29n := same29 (n := 60) (by omega) [] [] (by simp)
  simp only [isl, pI_nil, List.length_nil] at k29n
  unfold c4r
  by_cases hb : firstE [corrE c, fitE c p] = 0
  · have k40 := inside40 (n := 60) (by omega) (fit_of hb)
    have k41 := excess41 (n := 60) (by omega) (fit_of hb)
    rw [if_pos hb] at k31 k34
    by_cases ha : pulseE p = 0
    · obtain ⟨_, q1, q2⟩ := pulse_of ha
      have k42 := sums42 (n := 60) (by omega) (small_of q1 q2).1
      have k42b := sums42 (n := 60) (by omega) (small_of q1 q2).2
      have k29a := k29 (sumsL p) (sumsL p) (by rw [sumsL_length]; omega)
      have k29b := k29 (sumsL (sumsL p)) (sumsL (sumsL p)) (by rw [sumsL_length, sumsL_length]; omega)
      simp only [isl, sumsL_length] at k29a k29b k42b
      rw [if_pos ha] at k35 k36
      simp -implicitDefEqProofs [tlS, c4, ka, k32, k33, k31, k34, k35, k36, k37, k38, k18, k39, k43, k40, k41, k42, k42b, k29a, k29b, hb, ha]
    · rw [if_neg ha] at k35 k36
      simp -implicitDefEqProofs [tlS, c4, ka, k32, k33, k31, k34, k35, k36, k37, k38, k18, k39, k43, k40, k41, k29n, hb, ha]
  · rw [if_neg hb] at k31 k34
    have hbb : (firstE [corrE c, fitE c p] == 0) = false := by simpa using hb
    by_cases ha : pulseE p = 0
    · obtain ⟨_, q1, q2⟩ := pulse_of ha
      have k42 := sums42 (n := 60) (by omega) (small_of q1 q2).1
      have k42b := sums42 (n := 60) (by omega) (small_of q1 q2).2
      have k29a := k29 (sumsL p) (sumsL p) (by rw [sumsL_length]; omega)
      have k29b := k29 (sumsL (sumsL p)) (sumsL (sumsL p)) (by rw [sumsL_length, sumsL_length]; omega)
      simp only [isl, sumsL_length] at k29a k29b k42b
      rw [if_pos ha] at k35 k36
      simp -implicitDefEqProofs [tlS, c4, ka, k32, k33, k31, k34, k35, k36, k37, k38, k18, k39, k43, k42, k42b, k29a, k29b, hbb, ha]
    · rw [if_neg ha] at k35 k36
      simp -implicitDefEqProofs [tlS, c4, ka, k32, k33, k31, k34, k35, k36, k37, k38, k18, k39, k43, k29n, hbb, ha]

theorem lanes_at (c : List (Int × Int)) (p : List Int) : RUN 61 4 [csl c, isl p] = .ret (.p (.bool true)) := by
  rw [RUN, call_eq (d := 60) fe4 _ rfl]
  have ka := awake12
  have hk := lanes_rest c p
  rw [c4_body]
  cases h2 : ((c.length : Int) != 65) <;> cases h4 : ((p.length : Int) != 65) <;> by_cases h1 : (20 : Int) < c.length <;> by_cases h3 : (20 : Int) < p.length
  all_goals first
    | (simp -implicitDefEqProofs [hdS, tlS, c4, h1, h2, h3, h4, ka]; done)
    | (have hk := hk (by first | omega | (have : (c.length : Int) = 65 := by simpa using h2
                                          omega)) (by first | omega | (have : (p.length : Int) = 65 := by simpa using h4
                                                                       omega))
       simp -implicitDefEqProofs [hdS, tlS, c4, h1, h2, h3, h4, hk])
end Fw
