/- The codes of channels: Decoded of the chapter. -/
import Derived.Test.YtbaedpfgjpkabaaGreatDoorChC2
set_option maxHeartbeats 16000000
namespace Fw
open Go
attribute [local irreducible] evCode evOps evOpsD evOper evOperD evOp evFn loopN T.All T.bind callPure callOp opsK opsDK restK seqK blockK loopS setK setQ giveK scalK gcK finish finS rfunK yldK yldB loopK

def zC : CodeI := ⟨[], 0, 0⟩
def axI (a : UInt8) : Int := idxB [120, 121, 122] a
def sgI (g : UInt8) : Int := idxB [43, 45] g
def badC (x a g k : UInt8) : Bool := ((x.toNat : Int) != 45) || decide (axI a < 0) || decide (sgI g < 0) || decide ((k.toNat : Int) < 65) || decide ((90 : Int) < k.toNat)
def decE (p : List UInt8) (x a g k : UInt8) : Int := firstE [whenE (!nameB p) 8, whenE (((letS (p ++ [x, a, g])).toNat : Int) != (k.toNat : Int)) 27]
def dec4 (p : List UInt8) (x a g k : UInt8) : CodeI × Int := if badC x a g k = true then (zC, 25) else if decE p x a g k = 0 then (⟨p, axI a, 1 - 2 * sgI g⟩, 0) else (zC, decE p x a g k)
def decB (s : List UInt8) : CodeI × Int := if 28 < s.length then (zC, 26) else if s.length ≤ 4 then (zC, 25) else dec4 (s.take (s.length - 4)) (s.getD (s.length - 4) 0) (s.getD (s.length - 3) 0) (s.getD (s.length - 2) 0) (s.getD (s.length - 1) 0)

theorem tail4 {s : List UInt8} (h : 4 < s.length) : ∃ (p : List UInt8) (x a g k : UInt8), s = p ++ [x, a, g, k] ∧ decB s = if 28 < s.length then (zC, 26) else dec4 p x a g k := by
  have h2 : (s.drop (s.length - 4)).length = 4 := by simp; omega
  obtain ⟨x, a, g, k, e⟩ : ∃ x a g k, s.drop (s.length - 4) = [x, a, g, k] := by
    match s.drop (s.length - 4), h2 with
    | [x, a, g, k], _ => exact ⟨x, a, g, k, rfl⟩
  have hs : s = s.take (s.length - 4) ++ [x, a, g, k] := by rw [← e, List.take_append_drop]
  refine ⟨s.take (s.length - 4), x, a, g, k, hs, ?_⟩
  have hp : (s.take (s.length - 4)).length = s.length - 4 := by simp
  generalize hP : s.take (s.length - 4) = p at *
  unfold decB
  by_cases h3 : 28 < s.length
  · rw [if_pos h3, if_pos h3]
  · rw [if_neg h3, if_neg h3, if_neg (by omega), hP]
    have hl : s.length = p.length + 4 := by omega
    have i0 : s.getD (s.length - 4) 0 = x := by rw [hl, hs]; simp
    have i1 : s.getD (s.length - 3) 0 = a := by
      rw [show s.length - 3 = p.length + 1 by omega, hs]; simp
    have i2 : s.getD (s.length - 2) 0 = g := by
      rw [show s.length - 2 = p.length + 2 by omega, hs]; simp
    have i3 : s.getD (s.length - 1) 0 = k := by
      rw [show s.length - 1 = p.length + 3 by omega, hs]; simp
    rw [i0, i1, i2, i3]

theorem idxB_in (l : List UInt8) (v : UInt8) : -1 ≤ idxB l v ∧ idxB l v ≤ l.length := by
  unfold idxB
  split
  · omega
  · have h : l.idxOf v ≤ l.length := List.idxOf_le_length
    omega

theorem decoded17 {n : Nat} (hn : 3 ≤ n) (s : List UInt8) : RUN n 17 [sv s] = .ret (.tup [cda (decB s).1, iv (decB s).2]) := by
  obtain ⟨d, rfl⟩ : ∃ d, n = d + 3 := ⟨n - 3, by omega⟩
  rw [RUN, call_eq fe17 _ rfl]
  have h1 := fun b e => when104 (n := d + 2) (by omega) b e
  have h2 := fun x y => first103_2 (n := d + 2) (by omega) x y
  by_cases c1 : (28 : Int) < s.length
  · have c1n : 28 < s.length := by omega
    have c2 : ¬ (s.length : Int) ≤ 4 := by omega
    have hd : decB s = (zC, 26) := by unfold decB; rw [if_pos c1n]
    rw [hd]
    simp -implicitDefEqProofs [c17, h1, h2, c1, c2, whenE, firstE, zC]
  · by_cases c2 : (s.length : Int) ≤ 4
    · have hd : decB s = (zC, 25) := by unfold decB; rw [if_neg (by omega), if_pos (by omega)]
      rw [hd]
      simp -implicitDefEqProofs [c17, h1, h2, c1, c2, whenE, firstE, zC]
    · obtain ⟨p, x, a, g, k, hs, hd⟩ := tail4 (s := s) (by omega)
      rw [hd, if_neg (by omega)]
      have hl : s.length = p.length + 4 := by rw [hs]; simp
      have hlI : (s.length : Int) = (p.length : Int) + 4 := by omega
      have k1 : RUN (d + 2) 105 [.p (.sl [.int .u8 120, .int .u8 121, .int .u8 122] 3), .p (.int .u8 (a.toNat : Int))] = .ret (iv (axI a)) := index105 (n := d + 2) (by omega) [120, 121, 122] a (by simp)
      have k2 : RUN (d + 2) 105 [.p (.sl [.int .u8 43, .int .u8 45] 2), .p (.int .u8 (g.toNat : Int))] = .ret (iv (sgI g)) := index105 (n := d + 2) (by omega) [43, 45] g (by simp)
      have k3 := name106 (n := d + 2) (by omega) p (by omega)
      have k4 := letter102 (n := d + 2) (by omega) (p ++ [x, a, g]) (by simp; omega)
      have w0 := wrap64 (n := (p.length : Int)) (by omega) (by omega)
      have w1 := wrap64 (n := (p.length : Int) + 1) (by omega) (by omega)
      have w2 := wrap64 (n := (p.length : Int) + 2) (by omega) (by omega)
      have w3 := wrap64 (n := (p.length : Int) + 3) (by omega) (by omega)
      have s4 : (s.length : Int) - 4 = p.length := by omega
      have g0 : s[p.length]? = some x := by rw [hs]; simp
      have g1 : s[p.length + 1]? = some a := by rw [hs]; simp
      have g2 : s[p.length + 2]? = some g := by rw [hs]; simp
      have g3 : s[p.length + 3]? = some k := by rw [hs]; simp
      have t0 : s.take p.length = p := by rw [hs]; simp
      have t3 : s.take (p.length + 3) = p ++ [x, a, g] := by rw [hs, List.take_append]; simp [List.take_of_length_le]
      have n1 : ((p.length : Int) + 1).toNat = p.length + 1 := by omega
      have n2 : ((p.length : Int) + 2).toNat = p.length + 2 := by omega
      have n3 : ((p.length : Int) + 3).toNat = p.length + 3 := by omega
      have b0 : (p.length : Int) < s.length := by omega
      have b1 : (p.length : Int) + 1 < s.length := by omega
      have b2 : (p.length : Int) + 2 < s.length := by omega
      have b3 : (p.length : Int) + 3 < s.length := by omega
      have e0 : (p.length : Int) ≤ s.length := by omega
      have e3 : (p.length : Int) + 3 ≤ s.length := by omega
      have z1 : (0 : Int) ≤ (p.length : Int) + 1 := by omega
      have z2 : (0 : Int) ≤ (p.length : Int) + 2 := by omega
      have z3 : (0 : Int) ≤ (p.length : Int) + 3 := by omega
      have sg := idxB_in [43, 45] g
      have sg1 : -1 ≤ sgI g ∧ sgI g ≤ 2 := sg
      have w5 := wrap64 (n := 2 * sgI g) (by omega) (by omega)
      have w6 := wrap64 (n := 1 - 2 * sgI g) (by omega) (by omega)
      unfold dec4 badC
      cases x1 : ((x.toNat : Int) != 45) with
      | true => simp -implicitDefEqProofs [c17, Fw.g0, Fw.g1, G0, h1, h2, c1, c2, whenE, firstE, s4, w0, w1, w2, g0, g1, g2, n1, n2, z1, z2, k1, k2, x1, zC]
      | false =>
        by_cases x2 : axI a < 0
        · simp -implicitDefEqProofs [c17, Fw.g0, Fw.g1, G0, h1, h2, c1, c2, whenE, firstE, s4, w0, w1, w2, g0, g1, g2, n1, n2, z1, z2, k1, k2, x1, x2, zC]
        · by_cases x3 : sgI g < 0
          · simp -implicitDefEqProofs [c17, Fw.g0, Fw.g1, G0, h1, h2, c1, c2, whenE, firstE, s4, w0, w1, w2, g0, g1, g2, n1, n2, z1, z2, k1, k2, x1, x2, x3, zC]
          · by_cases x4 : (k.toNat : Int) < 65
            · simp -implicitDefEqProofs [c17, Fw.g0, Fw.g1, G0, h1, h2, c1, c2, whenE, firstE, s4, w0, w1, w2, w3, g0, g1, g2, g3, n1, n2, n3, z1, z2, z3, k1, k2, x1, x2, x3, x4, zC]
            · by_cases x5 : (90 : Int) < k.toNat
              · simp -implicitDefEqProofs [c17, Fw.g0, Fw.g1, G0, h1, h2, c1, c2, whenE, firstE, s4, w0, w1, w2, w3, g0, g1, g2, g3, n1, n2, n3, z1, z2, z3, k1, k2, x1, x2, x3, x4, x5, zC]
              · unfold decE
                cases y1 : nameB p with
                | false => simp -implicitDefEqProofs [c17, Fw.g0, Fw.g1, G0, h1, h2, c1, c2, whenE, firstE, s4, w0, w1, w2, w3, g0, g1, g2, g3, n1, n2, n3, e0, e3, z1, z2, z3, k1, k2, k3, k4, t0, t3, x1, x2, x3, x4, x5, y1, zC]
                | true =>
                  cases y2 : (((letS (p ++ [x, a, g])).toNat : Int) != (k.toNat : Int)) with
                  | true => simp -implicitDefEqProofs [c17, Fw.g0, Fw.g1, G0, h1, h2, c1, c2, whenE, firstE, s4, w0, w1, w2, w3, g0, g1, g2, g3, n1, n2, n3, e0, e3, z1, z2, z3, k1, k2, k3, k4, t0, t3, x1, x2, x3, x4, x5, y1, y2, zC]
                  | false => simp -implicitDefEqProofs [c17, Fw.g0, Fw.g1, G0, h1, h2, c1, c2, whenE, firstE, s4, w0, w1, w2, w3, g0, g1, g2, g3, n1, n2, n3, e0, e3, z1, z2, z3, k1, k2, k3, k4, t0, t3, x1, x2, x3, x4, x5, y1, y2, w5, w6]
end Fw
