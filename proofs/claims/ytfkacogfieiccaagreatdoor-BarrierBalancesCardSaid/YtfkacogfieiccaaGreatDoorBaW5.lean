/- The law on balances: what it returns at any input. -/
import Derived.Test.YtfkacogfieiccaaGreatDoorBaW4
import Derived.Test.YtfkacogfieiccaaGreatDoorBaTab
set_option maxHeartbeats 16000000
namespace Fw
open Go
attribute [local irreducible] evCode evOps evOpsD evOper evOperD evOp evFn loopN T.All T.bind callPure callOp opsK opsDK restK seqK blockK loopS setK setQ giveK scalK gcK finish finS rfunK yldK yldB loopK

theorem explain70 {n : Nat} (hn : 5 ≤ n) {l : List PartI} {w : List LoadI} (hl : l.length ≤ 8) (hok : ∀ i, (hi : i < l.length) → PartOk l[i]) (hwo : WallOk w) :
    RUN n 70 [ptl l, lol w] = .ret (if balB l w = true then .tup [.p (.sl [] 0), iv 21] else .tup [.own (pStr (exL l w w.length)) (exL l w w.length).length 1, iv 0]) := by
  obtain ⟨d, rfl⟩ : ∃ d, n = d + 5 := ⟨n - 5, by omega⟩
  rw [RUN, call_eq fe70 _ rfl]
  have hwl := hwo.len
  have h0 := balanced69 (n := d + 4) (by omega) hl hok hwo
  cases z : balB l w with
  | true =>
    rw [if_pos rfl]
    simp -implicitDefEqProofs [c70, h0, z]
  | false =>
    rw [if_neg (by simp)]
    have h1 := change68 (n := d + 4) (by omega) hl hok
    have h2 := impulse77 (n := d + 4) (by omega) hwo
    have hc := chgI_in hl hok
    have ht := totI_in hwo
    unfold InB at ht
    let inv : Nat → St := fun i => ⟨[(0, ptl l), (1, lol w), (6, .sl 0 (exL l w i).length 0 (exL l w i).length), (7, iv i)], [(0, .arr (pStr (exL l w i)) (exL l w i).length 1)]⟩
    have key : loopN (loopS (evFn F C0 G0 (d + 4)) C0 G0 0 true [0, 1, 6, 7] c70L0) loopFuel ⟨[(0, ptl l), (1, lol w), (6, .sl 0 0 0 0), (7, iv 0)], [(0, .arr [] 0 1)]⟩ = .ret (.exit 0, ⟨(inv w.length).env ++ [(17, .p (.bool false))], (inv w.length).sto⟩) := by
      refine loop_run' inv w.length (by simp) ?_ ?_ ?_ (by simp [loopFuel]; omega)
      · exact loopS_same rfl (by simp [inv, exL])
      · intro i hi
        have hx := rowC_drop lc6_len w i hi
        have hlt : i * 6 < w.length * 6 := by omega
        have hlt' : (i : Int) < w.length := by omega
        have hle := exL_le l w i
        have hlim : (exL l w i).length + 1 ≤ lim := by simp only [lim]; omega
        have hs : exL l w (i + 1) = if exB l w i = true then exL l w i ++ [w[i].name] else exL l w i := by simp only [exL, getD_w hi]
        have hi3 := impulse133 (n := d + 4) (by omega) (hwo.ok i hi)
        have hii := impI_in (hwo.ok i hi)
        have haa := anyI_in (hwo.ok i hi)
        have hlo := hwo.ok i hi
        have hot := oth_tot hi
        have hoin := tot_in (oth_in hwo hi)
        have hol : (othI w i).length = w.length := by unfold othI; simp
        rw [hol] at hoin
        unfold InB at hoin
        have hany : anyI w[i] = (-(100 * (w[i].s.length : Int) * w[i].scale), 100 * (w[i].s.length : Int) * w[i].scale) := rfl
        have hmc : 100 * w[i].scale * (w[i].s.length : Int) = 100 * (w[i].s.length : Int) * w[i].scale := Int.mul_right_comm _ _ _
        have w1 : IntKind.i64.wrap (100 * w[i].scale) = 100 * w[i].scale := wrap64 (by have := hlo.sc; omega) (by have := hlo.sc; omega)
        have w2 : IntKind.i64.wrap (100 * w[i].scale * (w[i].s.length : Int)) = (anyI w[i]).2 := by
          rw [hmc, hany]
          rw [hany] at haa
          simp only at haa ⊢
          exact wrap64 (by omega) (by omega)
        have h6 := meets132 (n := d + 4) (by omega) (a := (chgI l).1) (b := (chgI l).2) (c := (tot (othI w i)).1) (e := (tot (othI w i)).2) (by omega) (by omega) (by omega) hoin.2.2
        rw [show meetB (-(chgI l).2) (-(chgI l).1) (tot (othI w i)).1 (tot (othI w i)).2 = exB l w i from rfl] at h6
        rw [hot] at h6 hoin
        simp only at h6 hoin
        have hp := pStr_snoc (exL l w i) w[i].name
        have hi0 : inv i = ⟨[(0, ptl l), (1, lol w), (6, .sl 0 (exL l w i).length 0 (exL l w i).length), (7, iv i)], [(0, .arr (pStr (exL l w i)) (exL l w i).length 1)]⟩ := rfl
        have hi1 : inv (i + 1) = ⟨[(0, ptl l), (1, lol w), (6, .sl 0 (exL l w (i + 1)).length 0 (exL l w (i + 1)).length), (7, iv ((i + 1 : Nat) : Int))], [(0, .arr (pStr (exL l w (i + 1))) (exL l w (i + 1)).length 1)]⟩ := rfl
        rw [hi0, hi1, hs]
        clear hany hmc
        generalize exL l w i = E at *
        generalize exB l w i = eb at *
        generalize impI w[i] = m at *
        generalize anyI w[i] = a at *
        generalize tot (impL w) = t at *
        generalize w[i] = x at *
        have w3 : IntKind.i64.wrap (t.1 - m.1) = t.1 - m.1 := wrap64 (by omega) (by omega)
        have w4 : IntKind.i64.wrap (t.1 - m.1 - a.2) = t.1 - m.1 + a.1 := by
          rw [show t.1 - m.1 + a.1 = t.1 - m.1 - a.2 by omega]
          exact wrap64 (by omega) (by omega)
        have w5 : IntKind.i64.wrap (t.2 - m.2) = t.2 - m.2 := wrap64 (by omega) (by omega)
        have w6 : IntKind.i64.wrap (t.2 - m.2 + a.2) = t.2 - m.2 + a.2 := wrap64 (by omega) (by omega)
        cases eb with
        | true =>
          rw [if_pos rfl]
          refine ⟨?_, ?h1, ?h2⟩
          case h1 =>
            simp -implicitDefEqProofs [loopS_eq, c70L0, cW_len, hx, hlt, hlt', hi3, h2, h1, w1, w2, w3, w4, w5, w6, h6, hlim, wrap_succ (i := i) (by omega)]
            exact rfl
          case h2 => exact loopS_same (by simp) (by simp [← hp])
        | false =>
          rw [if_neg (by simp)]
          refine ⟨?_, ?h3, ?h4⟩
          case h3 =>
            simp -implicitDefEqProofs [loopS_eq, c70L0, cW_len, hx, hlt, hlt', hi3, h2, h1, w1, w2, w3, w4, w5, w6, h6, wrap_succ (i := i) (by omega)]
            exact rfl
          case h4 => exact loopS_same (by simp) (by simp)
      · simp -implicitDefEqProofs [inv, loopS_eq, c70L0]
    simp -implicitDefEqProofs [c70, h0, z, key, inv]

theorem bal_at (l : List PartI) (hbig : l.length ≤ 9223372036854775807) (w : List LoadI) (hbw : w.length ≤ 9223372036854775807) : RUN 61 7 [ptl l, lol w] = .ret (.p (.bool true)) := by
  rw [RUN, call_eq (d := 60) fe7 _ rfl]
  have ka := awake13
  have k57 := short57 (n := 60) (by omega) l hbig
  have k58 := short58 (n := 60) (by omega) w hbw
  by_cases hs : shortP l = true
  · by_cases hsw : shortW w = true
    · obtain ⟨h40, hl9⟩ := shortP_of hs
      obtain ⟨hw40, hw17⟩ := shortW_of hsw
      have hl : l.length < 1000000 := by omega
      have hw : w.length < 1000000 := by omega
      have k60 := parts60 (n := 60) (by omega) l hl
      have k63 := loads63 (n := 60) (by omega) w hw (fun i hi => by have := (hw40 i hi).2; omega)
      have k59 := momentum59 (n := 60) (by omega) l hl h40
      have k61 := change61 (n := 60) (by omega) l hl h40
      have k62 := balanced62 (n := 60) (by omega) l hl h40 w hw hw40
      have k64 := explain64 (n := 60) (by omega) l hl h40 w hw hw40
      have k65 := check65 (n := 60) (by omega) l hl
      have k66 := check66 (n := 60) (by omega) w hw hw40
      have k71 := check71 (n := 60) (by omega) l hl h40
      have k19 := first19_2 (n := 60) (by omega) (partsE l) (wallE w)
      rw [show firstE [partsE l, wallE w] = testE l w from rfl] at k19
      have k33n := same33 (n := 60) (by omega) [] [] (by simp)
      simp only [wsl, pStr_nil, List.length_nil] at k33n
      by_cases z0 : partsE l = 0
      · obtain ⟨hl8, hok⟩ := parts_of z0
        have k67 := momentum67 (n := 60) (by omega) hl8.2 hok
        have k68 := change68 (n := 60) (by omega) hl8.2 hok
        have e1 : mbA l = momF bfI l l.length := by simp [mbA, z0]
        have e2 : maA l = momF afI l l.length := by simp [maA, z0]
        have e3 : chA l = chgI l := by simp [chA, z0]
        rw [e1, e2] at k59
        rw [e3] at k61
        rw [z0] at k19
        by_cases z1 : testE l w = 0
        · have hwo := wall_of (test_zero z1).2
          have k69 := balanced69 (n := 60) (by omega) hl8.2 hok hwo
          have k70 := explain70 (n := 60) (by omega) hl8.2 hok hwo
          rw [if_pos z1] at k62 k64
          cases z : balB l w with
          | true =>
            rw [if_pos z] at k64 k70
            simp -implicitDefEqProofs [c7, ka, k57, hs, k58, hsw, k60, k63, k59, k61, k62, k64, k65, k66, k71, k19, k67, k68, k69, k70, k33n, z0, z1, z]
          | false =>
            rw [if_neg (by simp [z])] at k64 k70
            have k33 := same33 (n := 60) (by omega) (exL l w w.length) (exL l w w.length) (by have := exL_le l w w.length; omega)
            simp -implicitDefEqProofs [c7, ka, k57, hs, k58, hsw, k60, k63, k59, k61, k62, k64, k65, k66, k71, k19, k67, k68, k69, k70, k33, z0, z1, z]
        · rw [if_neg z1] at k62 k64
          have q1 : (testE l w == 0) = false := by simpa using z1
          simp -implicitDefEqProofs [c7, ka, k57, hs, k58, hsw, k60, k63, k59, k61, k62, k64, k65, k66, k71, k19, k67, k68, k33n, z0, q1]
      · have q0 : (partsE l == 0) = false := by simpa using z0
        have e1 : mbA l = (0, 0) := by simp [mbA, z0]
        have e2 : maA l = (0, 0) := by simp [maA, z0]
        have e3 : chA l = (0, 0) := by simp [chA, z0]
        rw [e1, e2] at k59
        rw [e3] at k61
        have z1 : ¬ testE l w = 0 := fun h => z0 (test_zero h).1
        rw [if_neg z1] at k62 k64
        have q1 : (testE l w == 0) = false := by simpa using z1
        simp -implicitDefEqProofs [c7, ka, k57, hs, k58, hsw, k60, k63, k59, k61, k62, k64, k65, k66, k71, k19, k33n, q0, q1]
    · have hsw' : shortW w = false := by simpa using hsw
      simp -implicitDefEqProofs [c7, ka, k57, hs, k58, hsw']
  · have hs' : shortP l = false := by simpa using hs
    simp -implicitDefEqProofs [c7, ka, k57, hs']
end Fw
