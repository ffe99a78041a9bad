/- The state after an act, both sides (printed by genR4.py). -/
import Derived.Test.YtdjkleaojdeepaaGreatDoorGaR3
set_option maxHeartbeats 16000000
namespace Fw
open Go
attribute [local irreducible] evCode evOps evOpsD evOper evOperD evOp evFn loopN T.All T.bind callPure callOp opsK opsDK restK seqK blockK loopS setK setQ giveK scalK gcK finish finS rfunK yldK yldB loopK

def aftS (base W : Int) (s : StaI) (x : ActI) : StaI :=
 if x.kind = kOpen then setO { s with tick := x.tick } x.num true else if x.kind = kClose then setO { s with tick := x.tick } x.num false
 else if x.kind = kInsert then setY { s with tick := x.tick } x.num true else if x.kind = kRemove then setY { s with tick := x.tick } x.num false
 else if x.kind = kEnter then { s with tick := x.tick, people := s.people + 1 } else if x.kind = kLeave then { s with tick := x.tick, people := s.people - 1 }
 else if x.kind = kArm then { s with tick := x.tick, armed := true } else if x.kind = kDisarm then { s with tick := x.tick, armed := false }
 else if x.kind = kShoot then { s with tick := x.tick, shot := x.tick, adm := -1, armed := false }
 else { s with tick := x.tick, adm := max (s.shot + base) (x.tick + W) }
def StOk (s : StaI) : Prop := 0 ≤ s.people ∧ s.people ≤ 100 ∧ -1 ≤ s.shot ∧ s.shot ≤ 100000000

theorem after162 {n : Nat} (hn : 4 ≤ n) (h : HallI) (g0' : h.t0.length < 1000000) (g1' : h.t1.length < 1000000) (g2' : h.t2.length < 1000000) (s : StaI) (x : ActI) (hx : NumOk x) (hs : StOk s) (hb : 0 ≤ h.base ∧ h.base ≤ 1000000) (ht : 0 ≤ x.tick ∧ x.tick ≤ 100000000) (hW : 0 ≤ waitP h x.a x.b x.c ∧ waitP h x.a x.b x.c ≤ 1000000) : RUN n 162 [sa s, ha h, aa x] = .ret (sa (aftS h.base (waitP h x.a x.b x.c) s x)) := by
 obtain ⟨d, rfl⟩ : ∃ d, n = d + 4 := ⟨n - 4, by omega⟩
 rw [RUN, call_eq fe162 _ rfl]
 have hk := numOk_cases hx
 have mx := fun a b => max2 a b
 have kb := byWord136 (n := d + 3) (by omega)
 have hG : G0 0 = some g0 := rfl
 have kq := wait132 (n := d + 2) (by omega) h g0' g1' g2' x.a x.b x.c
 obtain ⟨q1, q2, q3, q4⟩ := hs
 have w1 := wrap64 (n := s.people + 1) (by omega) (by omega)
 have w2 := wrap64 (n := s.people - 1) (by omega) (by omega)
 have w3 := wrap64 (n := s.shot + h.base) (by omega) (by omega)
 generalize hWW : waitP h x.a x.b x.c = W at *
 have w4 := wrap64 (n := x.tick + W) (by omega) (by omega)
 obtain ⟨t, k, m, a, b, c⟩ := x
 obtain ⟨st, o0, o1, o2, o3, o4, o5, o6, o7, k0, k1, pp, ar, sh, ad⟩ := s
 simp only at hk w1 w2 w3 w4
 simp only [ha, csl] at *
 generalize cI h.t0 = A0 at *
 generalize cI h.t1 = A1 at *
 generalize cI h.t2 = A2 at *
 rcases hk with rfl | rfl | rfl | rfl | rfl | rfl | rfl | rfl | rfl | rfl
 ·have hm : mapFind (.str kOpen) (pStr kindL) [.int .i64 0, .int .i64 1, .int .i64 2, .int .i64 3, .int .i64 4, .int .i64 5, .int .i64 6, .int .i64 7, .int .i64 8, .int .i64 9] = some (some (.int .i64 0)) := by kernel_rfl
  rcases eight (hx.2.1 (show doorB kOpen = true by decide)) with rfl | rfl | rfl | rfl | rfl | rfl | rfl | rfl <;> simp -implicitDefEqProofs [c162, kb, hm, hG, g0, evFn_fn fe219, c219, aftS, setO]
 ·have hm : mapFind (.str kClose) (pStr kindL) [.int .i64 0, .int .i64 1, .int .i64 2, .int .i64 3, .int .i64 4, .int .i64 5, .int .i64 6, .int .i64 7, .int .i64 8, .int .i64 9] = some (some (.int .i64 1)) := by kernel_rfl
  rcases eight (hx.2.1 (show doorB kClose = true by decide)) with rfl | rfl | rfl | rfl | rfl | rfl | rfl | rfl <;> simp -implicitDefEqProofs [c162, kb, hm, hG, g0, evFn_fn fe221, c221, aftS, setO]
 ·have hm : mapFind (.str kInsert) (pStr kindL) [.int .i64 0, .int .i64 1, .int .i64 2, .int .i64 3, .int .i64 4, .int .i64 5, .int .i64 6, .int .i64 7, .int .i64 8, .int .i64 9] = some (some (.int .i64 2)) := by kernel_rfl
  rcases two (hx.2.2 (show keyB kInsert = true by decide)) with rfl | rfl <;> simp -implicitDefEqProofs [c162, kb, hm, hG, g0, evFn_fn fe224, c224, aftS, setY]
 ·have hm : mapFind (.str kRemove) (pStr kindL) [.int .i64 0, .int .i64 1, .int .i64 2, .int .i64 3, .int .i64 4, .int .i64 5, .int .i64 6, .int .i64 7, .int .i64 8, .int .i64 9] = some (some (.int .i64 3)) := by kernel_rfl
  rcases two (hx.2.2 (show keyB kRemove = true by decide)) with rfl | rfl <;> simp -implicitDefEqProofs [c162, kb, hm, hG, g0, evFn_fn fe226, c226, aftS, setY]
 ·have hm : mapFind (.str kEnter) (pStr kindL) [.int .i64 0, .int .i64 1, .int .i64 2, .int .i64 3, .int .i64 4, .int .i64 5, .int .i64 6, .int .i64 7, .int .i64 8, .int .i64 9] = some (some (.int .i64 4)) := by kernel_rfl
  simp -implicitDefEqProofs [c162, kb, hm, hG, g0, evFn_fn fe228, c228, aftS, w1]
 ·have hm : mapFind (.str kLeave) (pStr kindL) [.int .i64 0, .int .i64 1, .int .i64 2, .int .i64 3, .int .i64 4, .int .i64 5, .int .i64 6, .int .i64 7, .int .i64 8, .int .i64 9] = some (some (.int .i64 5)) := by kernel_rfl
  simp -implicitDefEqProofs [c162, kb, hm, hG, g0, evFn_fn fe230, c230, aftS, w2]
 ·have hm : mapFind (.str kArm) (pStr kindL) [.int .i64 0, .int .i64 1, .int .i64 2, .int .i64 3, .int .i64 4, .int .i64 5, .int .i64 6, .int .i64 7, .int .i64 8, .int .i64 9] = some (some (.int .i64 6)) := by kernel_rfl
  simp -implicitDefEqProofs [c162, kb, hm, hG, g0, evFn_fn fe233, c233, aftS]
 ·have hm : mapFind (.str kDisarm) (pStr kindL) [.int .i64 0, .int .i64 1, .int .i64 2, .int .i64 3, .int .i64 4, .int .i64 5, .int .i64 6, .int .i64 7, .int .i64 8, .int .i64 9] = some (some (.int .i64 7)) := by kernel_rfl
  simp -implicitDefEqProofs [c162, kb, hm, hG, g0, evFn_fn fe235, c235, aftS]
 ·have hm : mapFind (.str kShoot) (pStr kindL) [.int .i64 0, .int .i64 1, .int .i64 2, .int .i64 3, .int .i64 4, .int .i64 5, .int .i64 6, .int .i64 7, .int .i64 8, .int .i64 9] = some (some (.int .i64 8)) := by kernel_rfl
  simp -implicitDefEqProofs [c162, kb, hm, hG, g0, evFn_fn fe237, c237, aftS]
 ·have hm : mapFind (.str kMeasure) (pStr kindL) [.int .i64 0, .int .i64 1, .int .i64 2, .int .i64 3, .int .i64 4, .int .i64 5, .int .i64 6, .int .i64 7, .int .i64 8, .int .i64 9] = some (some (.int .i64 9)) := by kernel_rfl
  simp -implicitDefEqProofs [c162, kb, hm, hG, g0, evFn_fn fe239, c239, aftS, w3, w4, mx, kq]

theorem after133 {n : Nat} (hn : 4 ≤ n) (h : HallI) (g0' : h.t0.length < 1000000) (g1' : h.t1.length < 1000000) (g2' : h.t2.length < 1000000) (s : StaI) (x : ActI) (hx : NumOk x) (hs : StOk s) (hb : 0 ≤ h.base ∧ h.base ≤ 1000000) (ht : 0 ≤ x.tick ∧ x.tick ≤ 100000000) (hW : 0 ≤ waitR h x.a x.b x.c ∧ waitR h x.a x.b x.c ≤ 1000000) : RUN n 133 [ha h, sa s, aa x] = .ret (sa (aftS h.base (waitR h x.a x.b x.c) s x)) := by
 obtain ⟨d, rfl⟩ : ∃ d, n = d + 4 := ⟨n - 4, by omega⟩
 rw [RUN, call_eq fe133 _ rfl]
 have hk := numOk_cases hx
 have mx := fun a b => max2 a b
 have kq := wait80 (n := d + 3) (by omega) h g0' g1' g2' x.a x.b x.c
 obtain ⟨q1, q2, q3, q4⟩ := hs
 have w1 := wrap64 (n := s.people + 1) (by omega) (by omega)
 have w2 := wrap64 (n := s.people - 1) (by omega) (by omega)
 have w3 := wrap64 (n := s.shot + h.base) (by omega) (by omega)
 generalize hWW : waitR h x.a x.b x.c = W at *
 have w4 := wrap64 (n := x.tick + W) (by omega) (by omega)
 obtain ⟨t, k, m, a, b, c⟩ := x
 obtain ⟨st, o0, o1, o2, o3, o4, o5, o6, o7, k0, k1, pp, ar, sh, ad⟩ := s
 simp only at hk w1 w2 w3 w4
 simp only [ha, csl] at *
 generalize cI h.t0 = A0 at *
 generalize cI h.t1 = A1 at *
 generalize cI h.t2 = A2 at *
 rcases hk with rfl | rfl | rfl | rfl | rfl | rfl | rfl | rfl | rfl | rfl
 ·rcases eight (hx.2.1 (show doorB kOpen = true by decide)) with rfl | rfl | rfl | rfl | rfl | rfl | rfl | rfl <;> simp -implicitDefEqProofs [c133, strBin, aftS, setO]
 ·rcases eight (hx.2.1 (show doorB kClose = true by decide)) with rfl | rfl | rfl | rfl | rfl | rfl | rfl | rfl <;> simp -implicitDefEqProofs [c133, strBin, aftS, setO]
 ·rcases two (hx.2.2 (show keyB kInsert = true by decide)) with rfl | rfl <;> simp -implicitDefEqProofs [c133, strBin, aftS, setY]
 ·rcases two (hx.2.2 (show keyB kRemove = true by decide)) with rfl | rfl <;> simp -implicitDefEqProofs [c133, strBin, aftS, setY]
 ·simp -implicitDefEqProofs [c133, strBin, aftS, w1]
 ·simp -implicitDefEqProofs [c133, strBin, aftS, w2]
 ·simp -implicitDefEqProofs [c133, strBin, aftS]
 ·simp -implicitDefEqProofs [c133, strBin, aftS]
 ·simp -implicitDefEqProofs [c133, strBin, aftS]
 ·simp -implicitDefEqProofs [c133, strBin, aftS, w3, w4, mx, kq]

end Fw
