/- The law on sensors that are printed and read: what it returns at any input. -/
import Derived.Test.YtbaedpfgjpkabaaGreatDoorChBk1
import Derived.Test.YtbaedpfgjpkabaaGreatDoorChStr
set_option maxHeartbeats 16000000
namespace Fw
open Go
attribute [local irreducible] evCode evOps evOpsD evOper evOperD evOp evFn loopN T.All T.bind callPure callOp opsK opsDK restK seqK blockK loopS setK setQ giveK scalK gcK finish finS rfunK yldK yldB loopK

@[irreducible] def c14r : ACode := tlS (tlS (tlS c14.body))
theorem c14_body : c14.body = .seq (hdS c14.body) (.seq (hdS (tlS c14.body)) (.seq (hdS (tlS (tlS c14.body))) c14r)) := by unfold c14r; rfl

theorem back_rest (ka : RUN 60 15 [] = .ret (.p (.bool true))) (l : List SenI) (s : List UInt8) (hl : l.length ≤ 16) (hs : s.length ≤ 300) (hnl : ∀ s ∈ l, s.name.length ≤ 40) (tl : Env) :
    (evCode (evFn F C0 G0 60) C0 G0 0 c14r ⟨(0, ssl l) :: (1, sv s) :: tl, []⟩).bind (finish [.tmp 4]) = .ret (.p (.bool true)) := by
  have k95 := check95 (n := 60) (by omega) l (by omega)
  unfold c14r
  by_cases hz : sensE l = 0
  · rw [hz] at k95
    have k93 := gauges93 (n := 60) (by omega) l (by omega)
    have k92 := print92 (n := 60) (by omega) l (by omega) (fun s h => by have := hnl s h; omega)
    rw [if_pos hz, hz] at k92
    have ht := text_small hz
    have k94t := parse94 (n := 60) (by omega) (textS l)
    rw [if_neg (by omega), parse_text hz, if_pos rfl] at k94t
    have k99 := sensors99 (n := 60) (by omega) l (by omega)
    have k98 := sameS98 (n := 60) (by omega) l (by omega)
    have k100 : RUN 60 100 [sv (textS l), .p (.int .u8 10)] = _ := splitR100 (n := 60) (by omega) (textS l) 10 (by omega)
    have hsl := split_text hz
    have k94s := parse94 (n := 60) (by omega) s
    rw [if_neg (by omega)] at k94s
    have wl := wrap64 (n := (l.length : Int) + 1) (by omega) (by omega)
    have wl2 := wrap64 (n := (l.length : Int) - 1) (by omega) (by omega)
    simp only [ssl] at k93 k92 k99 k98 k95
    by_cases h0 : l = []
    · subst h0
      have hr0 : rowC sc [] = [] := rfl
      have ht0 : textS [] = [] := rfl
      simp only [hr0, ht0, List.length_nil] at k93 k92 k94t k99 k98 k100 hsl k95 wl
      by_cases hp : (parseL s).2.2 = 0
      · obtain ⟨y1, y2⟩ := text_parse hp
        have hy := (sens_of y1).1
        have k92y := print92 (n := 60) (by omega) (parseL s).1 (by omega) (fun s h => by have := name_len ((sens_of y1).2 s h).name; omega)
        rw [if_pos y1, y1, y2] at k92y
        rw [if_pos hp, hp] at k94s
        simp only [ssl] at k92y
        simp -implicitDefEqProofs [tlS, c14, ka, k93, k92, k94t, k99, k98, k100, k94s, k92y, k95, hsl, ww1, strBin]
      · have hpb : ((parseL s).2.2 == 0) = false := by simpa using hp
        rw [if_neg hp] at k94s
        simp -implicitDefEqProofs [tlS, c14, ka, k93, k92, k94t, k99, k98, k100, k94s, k95, hsl, hpb, ww1, strBin]
    · have hlp : 0 < l.length := List.length_pos_iff.2 h0
      obtain ⟨pc, htp⟩ := parse_cut hz h0
      have k94c := parse94 (n := 60) (by omega) ((textS l).take ((textS l).length - 1))
      rw [if_neg (by rw [List.length_take]; omega), pc, if_neg (show ¬ (25 : Int) = 0 by decide)] at k94c
      have w3 := wrap64 (n := ((textS l).length : Int) - 1) (by omega) (by omega)
      have t3 : (((textS l).length : Int) - 1).toNat = (textS l).length - 1 := by omega
      have b3 : (1 : Int) ≤ ((textS l).length : Int) := by omega
      have b6 : ((textS l).length : Int) - 1 ≤ ((textS l).length : Int) := by omega
      have b4 : ¬ (l.length : Int) = 0 := by omega
      have b5 : ((l.length : Int) == 0) = false := by simpa using b4
      generalize textS l = W at *
      generalize splitS 10 W = Ps at *
      by_cases hp : (parseL s).2.2 = 0
      · obtain ⟨y1, y2⟩ := text_parse hp
        have hy := (sens_of y1).1
        have k92y := print92 (n := 60) (by omega) (parseL s).1 (by omega) (fun s h => by have := name_len ((sens_of y1).2 s h).name; omega)
        rw [if_pos y1, y1, y2] at k92y
        rw [if_pos hp, hp] at k94s
        simp only [ssl] at k92y
        simp -implicitDefEqProofs [tlS, c14, ka, k93, k92, k94t, k99, k98, k100, k94s, k92y, k95, k94c, hsl, wl, wl2, w3, t3, b3, b5, b6, strBin]
      · have hpb : ((parseL s).2.2 == 0) = false := by simpa using hp
        rw [if_neg hp] at k94s
        simp -implicitDefEqProofs [tlS, c14, ka, k93, k92, k94t, k99, k98, k100, k94s, k95, k94c, hsl, hpb, wl, wl2, w3, t3, b3, b5, b6]
  · have hzb : (sensE l != 0) = true := by simpa using hz
    simp -implicitDefEqProofs [tlS, c14, ka, k95, hzb]

def nmE (l : List SenI) (i : Nat) : Int := if 40 < (l.getD i ⟨[], 0, 0, 0⟩).name.length then 1 else 0
theorem back_at (ka : RUN 60 15 [] = .ret (.p (.bool true))) (l : List SenI) (s : List UInt8) : RUN 61 14 [ssl l, sv s] = .ret (.p (.bool true)) := by
  rw [RUN, call_eq (d := 60) fe14 _ rfl, c14_body]
  by_cases h1 : (16 : Int) < l.length
  · simp -implicitDefEqProofs [hdS, tlS, c14, h1, ka]
  · by_cases h2 : (300 : Int) < s.length
    · simp -implicitDefEqProofs [hdS, tlS, c14, h1, h2, ka]
    · have hl : l.length ≤ 16 := by omega
      have hR := sR_len l
      let inv : Nat → St := fun i => ⟨[(0, ssl l), (1, sv s), (29, ssl l), (30, iv l.length), (31, iv i)], []⟩
      have key := loop_first (step := loopS (evFn F C0 G0 60) C0 G0 0 true [0, 1, 29, 30, 31] c14L0) inv (nmE l) l.length (.exit 0, ⟨(inv l.length).env ++ [(32, .p (.bool false))], []⟩) (fun i => (.ret, ⟨[(4, .p (.bool true))], [(0, .arr (sc (l.getD i ⟨[], 0, 0, 0⟩)) 0 1)]⟩)) (st0 := inv 0) rfl (fun i hi => by
        have wi := wrap_succ (i := i) (by omega)
        have hg : l.getD i ⟨[], 0, 0, 0⟩ = l[i] := by simp [List.getD_eq_getElem?_getD, List.getElem?_eq_getElem hi]
        have hlt : i * 4 < l.length * 4 := by omega
        have hdr := rowC_drop sc_len l i hi
        unfold nmE
        simp only [hg, inv]
        generalize hA : rowC sc l = A at *
        generalize rowC sc (l.drop (i + 1)) = R2 at *
        generalize l[i] = v at *
        obtain ⟨nm, sk, sl, sh⟩ := v
        simp only at hdr ⊢
        by_cases c : 40 < nm.length
        · have c' : (40 : Int) < nm.length := by omega
          refine ⟨fun he => by simp [c] at he, fun _ => ?_⟩
          simp -implicitDefEqProofs [loopS_eq, c14L0, hi, hA, hR, hlt, hdr, sc, c', ka]
        · have c' : ¬ (40 : Int) < nm.length := by omega
          refine ⟨fun _ => ?_, fun he => by simp [c] at he⟩
          refine ⟨?_, ?g1, ?g2⟩
          case g1 =>
            simp -implicitDefEqProofs [loopS_eq, c14L0, hi, hA, hR, hlt, hdr, sc, c', wi]
            exact rfl
          case g2 => exact loopS_same rfl (by simp)) (fun i => by simp) (by simp -implicitDefEqProofs [inv, loopS_eq, c14L0]) (by simp) (fuel := loopFuel) (by simp [loopFuel]; omega)
      simp only [inv, Int.natCast_zero] at key
      simp -implicitDefEqProofs [hdS, tlS, c14, h1, h2]
      rcases key with ⟨k1, k2⟩ | ⟨j, hj, k1, k2, k3, _⟩
      · have hnl : ∀ s ∈ l, s.name.length ≤ 40 := by
          intro x hx
          obtain ⟨i, hi, rfl⟩ := List.getElem_of_mem hx
          have := firstE_zero.1 k2 (nmE l i) (List.mem_map.2 ⟨i, List.mem_range.2 hi, rfl⟩)
          have hg : l.getD i ⟨[], 0, 0, 0⟩ = l[i] := by simp [List.getD_eq_getElem?_getD, List.getElem?_eq_getElem hi]
          unfold nmE at this
          rw [hg] at this
          split at this
          · cases this
          · omega
        have hk := back_rest ka l s hl (by omega) hnl
        rw [k1]
        simp -implicitDefEqProofs [hk]
      · rw [k1]
        simp -implicitDefEqProofs
end Fw
