/- The codes of channels: Decoded of the reference. -/
import Derived.Test.YtbaedpfgjpkabaaGreatDoorChC3
set_option maxHeartbeats 16000000
namespace Fw
open Go
attribute [local irreducible] evCode evOps evOpsD evOper evOperD evOp evFn loopN T.All T.bind callPure callOp opsK opsDK restK seqK blockK loopS setK setQ giveK scalK gcK finish finS rfunK yldK yldB loopK

def axN (a : UInt8) : Nat → Int
  | 0 => -1
  | i + 1 => if a.toNat = 120 + i then (i : Int) else axN a i
def sgN (g : UInt8) : Int := if g.toNat = 45 then -1 else if g.toNat = 43 then 1 else 0
theorem ax_all : ∀ n : Nat, n < 256 → axN (UInt8.ofNat n) 3 = axI (UInt8.ofNat n) := by decide +kernel
theorem sg_all : ∀ n : Nat, n < 256 → (sgN (UInt8.ofNat n) = 0 ∧ sgI (UInt8.ofNat n) < 0) ∨ (sgN (UInt8.ofNat n) = 1 - 2 * sgI (UInt8.ofNat n) ∧ sgN (UInt8.ofNat n) ≠ 0 ∧ 0 ≤ sgI (UInt8.ofNat n)) := by decide +kernel
theorem ax_eq (a : UInt8) : axN a 3 = axI a := by
  have h := ax_all a.toNat a.toNat_lt
  rwa [UInt8.ofNat_toNat] at h
theorem sg_eq (g : UInt8) : (sgN g = 0 ∧ sgI g < 0) ∨ (sgN g = 1 - 2 * sgI g ∧ sgN g ≠ 0 ∧ 0 ≤ sgI g) := by
  have h := sg_all g.toNat g.toNat_lt
  rwa [UInt8.ofNat_toNat] at h

theorem axis_loop {d : Nat} (s p : List UInt8) (a : UInt8) (o : Obj) (hp : p.length ≤ 1000) (_hs : (p.length : Int) + 1 < s.length) (g1 : s[p.length + 1]? = some a) :
    loopN (loopS (evFn F C0 G0 d) C0 G0 0 false [0, 2, 4, 5, 6] c20L0) loopFuel ⟨[(0, sv s), (2, .ptr 0 0 0), (4, iv p.length), (5, .ptr 1 0 0), (6, iv 0)], [(1, .arr [.str p, .int .i64 (-1), .int .i64 0] 0 1), (0, o)]⟩ = .ret (.exit 0, ⟨[(0, sv s), (2, .ptr 0 0 0), (4, iv p.length), (5, .ptr 1 0 0), (6, iv 3), (24, .p (.bool false))], [(1, .arr [.str p, .int .i64 (axI a), .int .i64 0] 0 1), (0, o)]⟩) := by
  let inv : Nat → St := fun i => ⟨[(0, sv s), (2, .ptr 0 0 0), (4, iv p.length), (5, .ptr 1 0 0), (6, iv i)], [(1, .arr [.str p, .int .i64 (axN a i), .int .i64 0] 0 1), (0, o)]⟩
  have w1 := wrap64 (n := (p.length : Int) + 1) (by omega) (by omega)
  have n1 : ((p.length : Int) + 1).toNat = p.length + 1 := by omega
  have z1 : (0 : Int) ≤ (p.length : Int) + 1 := by omega
  refine loop_run' inv 3 (by simp) rfl ?_ ?_ (by simp [loopFuel])
  · intro i hi
    have hc : i = 0 ∨ i = 1 ∨ i = 2 := by omega
    have q1 : IntKind.i64.wrap 1 = 1 := by decide
    have q2 : IntKind.i64.wrap 2 = 2 := by decide
    have q3 : IntKind.i64.wrap 3 = 3 := by decide
    rcases hc with rfl | rfl | rfl
    · by_cases h : a.toNat = 120
      · have hI : (a.toNat : Int) = 120 := by omega
        refine ⟨?_, ?h1, ?h2⟩
        case h1 =>
          simp -implicitDefEqProofs [inv, loopS_eq, c20L0, g1, w1, n1, z1, hI, q1]
          exact rfl
        case h2 => simp [inv, axN, h]
      · have hI : ¬ (a.toNat : Int) = 120 := by omega
        refine ⟨?_, ?h3, ?h4⟩
        case h3 =>
          simp -implicitDefEqProofs [inv, loopS_eq, c20L0, g1, w1, n1, z1, hI, q1]
          exact rfl
        case h4 => simp [inv, axN, h]
    · by_cases h : a.toNat = 121
      · have hI : (a.toNat : Int) = 121 := by omega
        refine ⟨?_, ?h5, ?h6⟩
        case h5 =>
          simp -implicitDefEqProofs [inv, loopS_eq, c20L0, g1, w1, n1, z1, hI, q2]
          exact rfl
        case h6 => simp [inv, axN, h]
      · have hI : ¬ (a.toNat : Int) = 121 := by omega
        refine ⟨?_, ?h7, ?h8⟩
        case h7 =>
          simp -implicitDefEqProofs [inv, loopS_eq, c20L0, g1, w1, n1, z1, hI, q2]
          exact rfl
        case h8 => simp [inv, axN, h]
    · by_cases h : a.toNat = 122
      · have hI : (a.toNat : Int) = 122 := by omega
        refine ⟨?_, ?h9, ?h10⟩
        case h9 =>
          simp -implicitDefEqProofs [inv, loopS_eq, c20L0, g1, w1, n1, z1, hI, q3]
          exact rfl
        case h10 => simp [inv, axN, h]
      · have hI : ¬ (a.toNat : Int) = 122 := by omega
        refine ⟨?_, ?h11, ?h12⟩
        case h11 =>
          simp -implicitDefEqProofs [inv, loopS_eq, c20L0, g1, w1, n1, z1, hI, q3]
          exact rfl
        case h12 => simp [inv, axN, h]
  · have h3 := ax_eq a
    simp only [inv, h3]
    simp -implicitDefEqProofs [loopS_eq, c20L0]

theorem decoded20 {n : Nat} (hn : 4 ≤ n) (s : List UInt8) : RUN n 20 [sv s] = .ret (.tup [cda (decB s).1, iv (decB s).2]) := by
  obtain ⟨d, rfl⟩ : ∃ d, n = d + 4 := ⟨n - 4, by omega⟩
  rw [RUN, call_eq fe20 _ rfl]
  by_cases c1 : (28 : Int) < s.length
  · have hd : decB s = (zC, 26) := by unfold decB; rw [if_pos (by omega)]
    rw [hd]
    simp -implicitDefEqProofs [c20, c1, zC]
  · by_cases c2 : (s.length : Int) < 5
    · have hd : decB s = (zC, 25) := by unfold decB; rw [if_neg (by omega), if_pos (by omega)]
      rw [hd]
      simp -implicitDefEqProofs [c20, c1, c2, zC]
    · obtain ⟨p, x, a, g, k, hs, hd⟩ := tail4 (s := s) (by omega)
      rw [hd, if_neg (by omega)]
      have hl : s.length = p.length + 4 := by rw [hs]; simp
      have h1 := fun b e => when109 (n := d + 3) (by omega) b e
      have h2 := fun x y => first29_2 (n := d + 3) (by omega) x y
      have k3 := cname107 (n := d + 3) (by omega) p
      have k4 := letter110 (n := d + 3) (by omega) (p ++ [x, a, g]) (by simp; omega)
      have w0 := wrap64 (n := (p.length : Int)) (by omega) (by omega)
      have w1 := wrap64 (n := (p.length : Int) + 1) (by omega) (by omega)
      have w2 := wrap64 (n := (p.length : Int) + 2) (by omega) (by omega)
      have w3 := wrap64 (n := (p.length : Int) + 3) (by omega) (by omega)
      have s4 : (s.length : Int) - 4 = p.length := by omega
      have g0 : s[p.length]? = some x := by rw [hs]; simp
      have g1 : s[p.length + 1]? = some a := by rw [hs]; simp
      have g2 : s[p.length + 2]? = some g := by rw [hs]; simp
      have g3 : s[p.length + 3]? = some k := by rw [hs]; simp
      have t0 : s.take p.length = p := by rw [hs]; simp
      have t3 : s.take (p.length + 3) = p ++ [x, a, g] := by rw [hs, List.take_append]; simp [List.take_of_length_le]
      have t4 : s.drop (p.length + 3) = [k] := by rw [hs, List.drop_append]; simp
      have t5 : s.take s.length = s := List.take_of_length_le (by omega)
      have n1 : ((p.length : Int) + 1).toNat = p.length + 1 := by omega
      have n2 : ((p.length : Int) + 2).toNat = p.length + 2 := by omega
      have n3 : ((p.length : Int) + 3).toNat = p.length + 3 := by omega
      have b0 : (p.length : Int) < s.length := by omega
      have b1 : (p.length : Int) + 1 < s.length := by omega
      have b2 : (p.length : Int) + 2 < s.length := by omega
      have b3 : (p.length : Int) + 3 < s.length := by omega
      have e0 : (p.length : Int) ≤ s.length := by omega
      have e3 : (p.length : Int) + 3 ≤ s.length := by omega
      have z1 : (0 : Int) ≤ (p.length : Int) + 1 := by omega
      have z2 : (0 : Int) ≤ (p.length : Int) + 2 := by omega
      have z3 : (0 : Int) ≤ (p.length : Int) + 3 := by omega
      have key := axis_loop (d := d + 3) s p a (.arr [.str [], .int .i64 0, .int .i64 0] 0 1) (by omega) b1 g1
      simp -implicitDefEqProofs [c20, c1, c2, s4, w0, e0, t0]
      rw [key]
      have hsg := sg_eq g
      unfold dec4 badC
      by_cases g43 : (g.toNat : Int) = 43
      · have hG : sgI g = 0 := by
          have : sgN g = 1 := by unfold sgN; rw [if_neg (by omega), if_pos (by omega)]
          omega
        have hGl : ¬ (0 : Int) < 0 := by omega
        rw [hG]
        cases x1 : ((x.toNat : Int) != 45) with
        | true => simp -implicitDefEqProofs [w2, g0, g2, n2, z2, g43, x1, zC]
        | false =>
          by_cases x2 : axI a < 0
          · simp -implicitDefEqProofs [w2, g0, g2, n2, z2, g43, x1, x2, zC]
          · by_cases x4 : (k.toNat : Int) < 65
            · simp -implicitDefEqProofs [w2, w3, g0, g2, g3, n2, n3, z2, z3, g43, x1, x2, x4, zC]
            · by_cases x5 : (90 : Int) < k.toNat
              · simp -implicitDefEqProofs [w2, w3, g0, g2, g3, n2, n3, z2, z3, g43, x1, x2, x4, x5, zC]
              · unfold decE
                cases y1 : nameB p with
                | false => simp -implicitDefEqProofs [h1, h2, whenE, firstE, w2, w3, g0, g2, g3, n2, n3, e3, z2, z3, k3, k4, t3, t4, t5, strBin, g43, x1, x2, x4, x5, y1, zC]
                | true =>
                  by_cases y : letS (p ++ [x, a, g]) = k
                  · have y2 : (((letS (p ++ [x, a, g])).toNat : Int) != (k.toNat : Int)) = false := by rw [y]; simp
                    have y3 : ([letS (p ++ [x, a, g])] != [k]) = false := by rw [y]; simp
                    generalize letS (p ++ [x, a, g]) = L at *
                    simp -implicitDefEqProofs [h1, h2, whenE, firstE, w2, w3, g0, g2, g3, n2, n3, e3, z2, z3, k3, k4, t3, t4, t5, strBin, g43, x1, x2, x4, x5, y, y1]
                  · have y2 : (((letS (p ++ [x, a, g])).toNat : Int) != (k.toNat : Int)) = true := by
                      have : ¬ (letS (p ++ [x, a, g])).toNat = k.toNat := fun e => y (UInt8.toNat_inj.1 e)
                      simp; omega
                    have y3 : ([letS (p ++ [x, a, g])] != [k]) = true := by simpa using y
                    generalize letS (p ++ [x, a, g]) = L at *
                    simp -implicitDefEqProofs [h1, h2, whenE, firstE, w2, w3, g0, g2, g3, n2, n3, e3, z2, z3, k3, k4, t3, t4, t5, strBin, g43, x1, x2, x4, x5, y, y1, y2, zC]
      · by_cases g45 : (g.toNat : Int) = 45
        · have hG : sgI g = 1 := by
            have : sgN g = -1 := by unfold sgN; rw [if_pos (by omega)]
            omega
          rw [hG]
          cases x1 : ((x.toNat : Int) != 45) with
          | true => simp -implicitDefEqProofs [w2, g0, g2, n2, z2, g45, x1, zC]
          | false =>
            by_cases x2 : axI a < 0
            · simp -implicitDefEqProofs [w2, g0, g2, n2, z2, g45, x1, x2, zC]
            · by_cases x4 : (k.toNat : Int) < 65
              · simp -implicitDefEqProofs [w2, w3, g0, g2, g3, n2, n3, z2, z3, g45, x1, x2, x4, zC]
              · by_cases x5 : (90 : Int) < k.toNat
                · simp -implicitDefEqProofs [w2, w3, g0, g2, g3, n2, n3, z2, z3, g45, x1, x2, x4, x5, zC]
                · unfold decE
                  cases y1 : nameB p with
                  | false => simp -implicitDefEqProofs [h1, h2, whenE, firstE, w2, w3, g0, g2, g3, n2, n3, e3, z2, z3, k3, k4, t3, t4, t5, strBin, g45, x1, x2, x4, x5, y1, zC]
                  | true =>
                    by_cases y : letS (p ++ [x, a, g]) = k
                    · have y2 : (((letS (p ++ [x, a, g])).toNat : Int) != (k.toNat : Int)) = false := by rw [y]; simp
                      have y3 : ([letS (p ++ [x, a, g])] != [k]) = false := by rw [y]; simp
                      generalize letS (p ++ [x, a, g]) = L at *
                      simp -implicitDefEqProofs [h1, h2, whenE, firstE, w2, w3, g0, g2, g3, n2, n3, e3, z2, z3, k3, k4, t3, t4, t5, strBin, g45, x1, x2, x4, x5, y, y1]
                    · have y2 : (((letS (p ++ [x, a, g])).toNat : Int) != (k.toNat : Int)) = true := by
                        have : ¬ (letS (p ++ [x, a, g])).toNat = k.toNat := fun e => y (UInt8.toNat_inj.1 e)
                        simp; omega
                      have y3 : ([letS (p ++ [x, a, g])] != [k]) = true := by simpa using y
                      generalize letS (p ++ [x, a, g]) = L at *
                      simp -implicitDefEqProofs [h1, h2, whenE, firstE, w2, w3, g0, g2, g3, n2, n3, e3, z2, z3, k3, k4, t3, t4, t5, strBin, g45, x1, x2, x4, x5, y, y1, y2, zC]
        · have hG : sgI g < 0 := by
            have : sgN g = 0 := by unfold sgN; rw [if_neg (by omega), if_neg (by omega)]
            omega
          cases x1 : ((x.toNat : Int) != 45) with
          | true => simp -implicitDefEqProofs [w2, g0, g2, n2, z2, g43, g45, hG, x1, zC]
          | false =>
            by_cases x2 : axI a < 0
            · simp -implicitDefEqProofs [w2, g0, g2, n2, z2, g43, g45, hG, x1, x2, zC]
            · simp -implicitDefEqProofs [w2, g0, g2, n2, z2, g43, g45, hG, x1, x2, zC]
end Fw
