/- The law on stops: every cell up to the wall. -/
import Derived.Test.YtfkacogfieiccaaGreatDoorBaT3
set_option maxHeartbeats 16000000
namespace Fw
open Go
attribute [local irreducible] evCode evOps evOpsD evOper evOperD evOp evFn loopN T.All T.bind callPure callOp opsK opsDK restK seqK blockK loopS setK setQ giveK scalK gcK finish finS rfunK yldK yldB loopK

def r3 (t : TowI) (f b : Int) (i : Nat) : Env := [(2, .ptr 0 0 0), (7, iv f), (8, iv b), (9, isl (runL t f)), (13, iv (lastI t)), (15, isl (tabL t)), (19, iv i)]

theorem cell_round {t : TowI} (h : TowOk t) (hz : towE t = 0) (hp : ∀ v ∈ t.pull, v ≤ 60) (hfew : t.pull.length ≤ 12) {f b : Int} (hf1 : t.fl ≤ f) (hf2 : f ≤ t.fh) (hb1 : t.bl ≤ b) (hb2 : b ≤ t.bh) (x y : Int) (c : Nat) (hc : (c : Int) ≤ t.wall) :
    ∃ st1, loopS (evFn F C0 G0 60) C0 G0 0 false [2, 7, 8, 9, 13, 15, 19] c10L3 ⟨r3 t f b c, stS t x y⟩ = .ret (.normal, st1) ∧ loopS (evFn F C0 G0 60) C0 G0 0 false [2, 7, 8, 9, 13, 15, 19] c10L3 st1 = loopS (evFn F C0 G0 60) C0 G0 0 false [2, 7, 8, 9, 13, 15, 19] c10L3 ⟨r3 t f b (c + 1), stS t x y⟩ := by
  have hfr := h.fr
  have hbr := h.br
  have hw := h.wl
  have htl := tabL_length h
  have k35 := given35 (n := 60) (by omega) t (by omega)
  have k37 := brake37 (n := 60) (by omega) t (by omega) c f b
  have k38 := safe38 (n := 60) (by omega) t (by omega) c
  have k51 : RUN 60 51 [twa t, .p (.sl (pI (tabL t)) (tabL t).length), iv c] = _ := check51 (n := 60) (by omega) t (by omega) (tabL t) (by omega) c
  have k52 : RUN 60 52 [.p (.sl (pI (tabL t)) (tabL t).length)] = _ := ints52 (n := 60) (by omega) (tabL t) (by omega)
  have ce : cellE t c = 0 := cellE_zero.2 ⟨by omega, hc⟩
  have be : brE t c f b = 0 := firstE_zero.2 (by
    intro z hzz
    simp only [List.mem_cons, List.not_mem_nil, or_false] at hzz
    rcases hzz with rfl | rfl | rfl
    · exact ce
    · exact rangeE_zero.2 ⟨hf1, hf2⟩
    · exact rangeE_zero.2 ⟨hb1, hb2⟩)
  rw [if_pos hz, if_pos be, Int.toNat_natCast] at k37
  rw [if_pos hz, if_pos ce, Int.toNat_natCast] at k38
  have hV := runF_nonneg t f c
  have hVb := runF_le t (f := f) (by omega) hp c
  have ks := fun a e s => sim_loop (isl (runL t f)) (isl (tabL t)) f b (lastI t) c a e s (runF t f c) (stS t x y) (by omega) (by omega) (by omega) hV (by omega)
  have hbk := brake_is (t := t) (f := f) (b := b) (by omega) (by omega) c
  have hss := fun hs => stop_safe h hc hf1 hb1 hs
  have hck := check_is h hz hp hc
  have hls := fun hl => last_safe (t := t) (c := c) hl
  have hln := fun hl => last_next (t := t) hc hl
  have hta := tabL_get h hc
  have han := runF_anti t hf1 c
  have hrg : ∀ q, (pI (runL t f))[c]'q = .int .i64 (runF t f c) := fun q => by simp [pI, runL]
  have htg : ∀ q, (pI (tabL t))[c]'q = .int .i64 (runF t t.fl c) := fun q => by
    have hcl : c < (tabL t).length := by omega
    rw [List.getD_eq_getElem?_getD, List.getElem?_eq_getElem hcl] at hta
    simpa [pI] using hta
  have hrl : (pI (runL t f)).length = t.pull.length + 1 := by simp
  have htl' : (pI (tabL t)).length = (tabL t).length := by simp
  have g1 : (c : Int) < (t.pull.length : Int) + 1 := by omega
  have g2 : c < t.pull.length + 1 := by omega
  have g3 : (c : Int) < ((tabL t).length : Int) := by omega
  have g4 : c < (tabL t).length := by omega
  have hwc := wrap_succ (i := c) (by omega)
  have hwl := last_in h
  have hwl1 := wrap64 (n := lastI t + 1) (by omega) (by omega)
  have hnt : ¬ runF t t.fl c < runF t f c := by omega
  simp only [stS, s2] at ks
  generalize hP : pI (runL t f) = P at *
  generalize hQ : pI (tabL t) = Q at *
  generalize hM : (tabL t).length = M at *
  generalize hA : (brA t c f b).1 = A at *
  generalize hE : (brA t c f b).2 = E at *
  generalize hS : safeB t c = S at *
  generalize hK : checkE t (tabL t) c = K at *
  generalize hL : lastI t = L at *
  generalize (c : Int) + stepsN (runF t f c) (f + b) = H at *
  generalize runF t f c - stepsN (runF t f c) (f + b) * (f + b) = v at *
  clear hta
  generalize runF t f c = r at *
  generalize runF t t.fl c = r2 at *
  have h7 : ∀ z : Int, z = 7 → ¬ z = 0 := by omega
  cases hSv : S with
  | true =>
    rw [hSv] at k38 hss hck hln
    obtain ⟨sE, sA⟩ := hss rfl
    rw [sE] at hbk k37
    have sA' : ¬ t.wall < A := by omega
    obtain ⟨_, bv, bA⟩ : (0 : Int) = 0 ∧ v ≤ 0 ∧ A = H := by
      rcases hbk with hbk | hbk
      · exact hbk
      · exact absurd hbk.1 (by decide)
    have bv' : ¬ 0 < v := by omega
    have bA' : A = H := bA
    have hne : ¬ (c : Int) = L + 1 := fun hcc => absurd (hln hcc) (by decide)
    have hneb : ((c : Int) == L + 1) = false := by simpa using hne
    subst bA'
    rcases hck with ⟨kK, _⟩ | ⟨kK, kl⟩
    · rw [kK] at k51
      by_cases hcl : (c : Int) ≤ L
      · have hcl' : (c : Int) ≤ L := hcl
        refine ⟨?_, ?h1, ?h2⟩
        case h1 =>
          simp -implicitDefEqProofs [r3, stS, loopS_eq, c10L3, hP, hL, hc, g1, g2, hrg, hrl, k35, k37, k38]
          rw [ks]
          simp -implicitDefEqProofs [hP, hQ, hM, g1, g2, g3, g4, hrg, htg, hrl, htl', hwc, hwl1, hnt, k35, k51, k52, sA', bv', hcl', hneb]
          exact rfl
        case h2 => simp [r3, stS, hL]
      · have hcl' : ¬ (c : Int) ≤ L := hcl
        refine ⟨?_, ?h1, ?h2⟩
        case h1 =>
          simp -implicitDefEqProofs [r3, stS, loopS_eq, c10L3, hP, hL, hc, g1, g2, hrg, hrl, k35, k37, k38]
          rw [ks]
          simp -implicitDefEqProofs [hP, hQ, hM, g1, g2, g3, g4, hrg, htg, hrl, htl', hwc, hwl1, hnt, k35, k51, k52, sA', bv', hcl', hneb]
          exact rfl
        case h2 => simp [r3, stS, hL]
    · rw [kK] at k51
      have hcl' : ¬ (c : Int) ≤ L := by omega
      refine ⟨?_, ?h1, ?h2⟩
      case h1 =>
        simp -implicitDefEqProofs [r3, stS, loopS_eq, c10L3, hP, hL, hc, g1, g2, hrg, hrl, k35, k37, k38]
        rw [ks]
        simp -implicitDefEqProofs [hP, hQ, hM, g1, g2, g3, g4, hrg, htg, hrl, htl', hwc, hwl1, hnt, k35, k51, k52, sA', bv', hcl', hneb]
        exact rfl
      case h2 => simp [r3, stS, hL]
  | false =>
    rw [hSv] at k38 hck hls
    have hcl' : ¬ (c : Int) ≤ L := fun hl => absurd (hls hl) (by decide)
    obtain ⟨kK, _⟩ : K = 19 ∧ L < c := by
      rcases hck with hck | hck
      · exact absurd hck.2 (by decide)
      · exact hck
    rw [kK] at k51
    rcases hbk with ⟨bE, bv, bA⟩ | ⟨bE, bv⟩
    · rw [bE] at k37
      have bv' : ¬ 0 < v := by omega
      subst bA
      by_cases hne : (c : Int) = L + 1
      · have hneb : ((c : Int) == L + 1) = true := by simpa using hne
        have hnet : ((c : Int) = L + 1) = True := eq_true hne
        refine ⟨?_, ?h1, ?h2⟩
        case h1 =>
          simp -implicitDefEqProofs [r3, stS, loopS_eq, c10L3, hP, hL, hc, g1, g2, hrg, hrl, k35, k37, k38]
          rw [ks]
          simp -implicitDefEqProofs [hP, hQ, hM, g1, g2, g3, g4, hrg, htg, hrl, htl', hwc, hwl1, hnt, k35, k51, k52, bv', hcl', hneb]
          exact rfl
        case h2 => simp [r3, stS, hL]
      · have hneb : ((c : Int) == L + 1) = false := by simpa using hne
        refine ⟨?_, ?h1, ?h2⟩
        case h1 =>
          simp -implicitDefEqProofs [r3, stS, loopS_eq, c10L3, hP, hL, hc, g1, g2, hrg, hrl, k35, k37, k38]
          rw [ks]
          simp -implicitDefEqProofs [hP, hQ, hM, g1, g2, g3, g4, hrg, htg, hrl, htl', hwc, hwl1, hnt, k35, k51, k52, bv', hcl', hneb]
          exact rfl
        case h2 => simp [r3, stS, hL]
    · rw [bE] at k37
      have bv' : ¬ v ≤ 0 := by omega
      by_cases hne : (c : Int) = L + 1
      · have hneb : ((c : Int) == L + 1) = true := by simpa using hne
        have hnet : ((c : Int) = L + 1) = True := eq_true hne
        refine ⟨?_, ?h1, ?h2⟩
        case h1 =>
          simp -implicitDefEqProofs [r3, stS, loopS_eq, c10L3, hP, hL, hc, g1, g2, hrg, hrl, k35, k37, k38]
          rw [ks]
          simp -implicitDefEqProofs [hP, hQ, hM, g1, g2, g3, g4, hrg, htg, hrl, htl', hwc, hwl1, hnt, k35, k51, k52, bv', hcl', hneb]
          exact rfl
        case h2 => simp [r3, stS, hL]
      · have hneb : ((c : Int) == L + 1) = false := by simpa using hne
        refine ⟨?_, ?h1, ?h2⟩
        case h1 =>
          simp -implicitDefEqProofs [r3, stS, loopS_eq, c10L3, hP, hL, hc, g1, g2, hrg, hrl, k35, k37, k38]
          rw [ks]
          simp -implicitDefEqProofs [hP, hQ, hM, g1, g2, g3, g4, hrg, htg, hrl, htl', hwc, hwl1, hnt, k35, k51, k52, bv', hcl', hneb]
          exact rfl
        case h2 => simp [r3, stS, hL]

theorem cell_loop {t : TowI} (h : TowOk t) (hz : towE t = 0) (hp : ∀ v ∈ t.pull, v ≤ 60) (hfew : t.pull.length ≤ 12) {f b : Int} (hf1 : t.fl ≤ f) (hf2 : f ≤ t.fh) (hb1 : t.bl ≤ b) (hb2 : b ≤ t.bh) (x y : Int) :
    loopN (loopS (evFn F C0 G0 60) C0 G0 0 false [2, 7, 8, 9, 13, 15, 19] c10L3) loopFuel ⟨r3 t f b 0, stS t x y⟩ = .ret (.exit 4, ⟨r3 t f b (t.wall.toNat + 1) ++ [(227, .p (.bool false))], stS t x y⟩) := by
  have hw := h.wl
  refine loop_run' (fun i => ⟨r3 t f b i, stS t x y⟩) (t.wall.toNat + 1) (by simp) rfl (fun i hi => cell_round h hz hp hfew hf1 hf2 hb1 hb2 x y i (by omega)) ?_ (by simp [loopFuel]; omega)
  have g : ¬ (((t.wall.toNat + 1 : Nat) : Int) ≤ t.wall) := by omega
  generalize t.wall.toNat + 1 = k at *
  simp -implicitDefEqProofs [r3, stS, loopS_eq, c10L3, g]
end Fw
