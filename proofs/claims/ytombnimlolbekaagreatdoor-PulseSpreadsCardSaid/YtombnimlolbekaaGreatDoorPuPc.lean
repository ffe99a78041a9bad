/- Parts of slopes. -/
import Derived.Test.YtombnimlolbekaaGreatDoorPuPb
set_option maxHeartbeats 8000000
namespace Fw
open Go
attribute [local irreducible] evCode evOps evOpsD evOper evOperD evOp evFn loopN T.All T.bind callPure callOp opsK opsDK restK seqK blockK loopS setK setQ giveK scalK gcK finish finS rfunK yldK yldB loopK

def partF (w a f : Int) : Int × Int := (a * f / w, -(-a * f / w))

theorem part126 {n : Nat} (hn : 2 ≤ n) (s : SlopeI) (a f : Int) (hw : 0 < s.whole) (ha : -100000 ≤ a ∧ a ≤ 100000) (hp : -100000000 ≤ a * f ∧ a * f ≤ 100000000) : RUN n 126 [spa s, iv a, iv f] = .ret (.agg [iv (partF s.whole a f).1, iv (partF s.whole a f).2]) := by
  obtain ⟨d, rfl⟩ : ∃ d, n = d + 2 := ⟨n - 2, by omega⟩
  rw [RUN, call_eq fe126 _ rfl]
  have hneg : -a * f = -(a * f) := Int.neg_mul a f
  have w1 := wrap64 (n := a * f) (by omega) (by omega)
  have w2 := wrap64 (n := 0 - a) (by omega) (by omega)
  have e0 : (0 : Int) - a = -a := by omega
  rw [e0] at w2
  have w3 := wrap64 (n := -a * f) (by omega) (by omega)
  have f1 := floor122 (n := d + 1) (by omega) (a * f) s.whole hw (by omega) (by omega)
  have f2 := floor122 (n := d + 1) (by omega) (-a * f) s.whole hw (by omega) (by omega)
  have hb := div_between (x := -a * f) (d := s.whole) (by omega)
  have w4 : IntKind.i64.wrap (0 - -a * f / s.whole) = 0 - -a * f / s.whole := by
    have hq : -100000000 ≤ -a * f / s.whole ∧ -a * f / s.whole ≤ 100000000 := by
      by_cases hc : 0 ≤ -a * f
      · have := hb.1 hc
        omega
      · have := hb.2 (by omega)
        omega
    exact wrap64 (by omega) (by omega)
  have e1 : 0 - -a * f / s.whole = -(-a * f / s.whole) := by omega
  rw [e1] at w4
  simp -implicitDefEqProofs [c126, w1, w2, w3, f1, f2, w4, partF]
end Fw
