/- Split, by the chapter. -/
import Derived.Test.YtombnimlolbekaaGreatDoorPuPe
set_option maxHeartbeats 8000000
namespace Fw
open Go
attribute [local irreducible] evCode evOps evOpsD evOper evOperD evOp evFn loopN T.All T.bind callPure callOp opsK opsDK restK seqK blockK loopS setK setQ giveK scalK gcK finish finS rfunK yldK yldB loopK

structure SlopeOk (s : SlopeI) : Prop where
  along : 0 ≤ s.along ∧ s.along ≤ 1000
  across : 0 ≤ s.across ∧ s.across ≤ 1000
  whole : 1 ≤ s.whole ∧ s.whole ≤ 1000

theorem slope_of {s : SlopeI} (h : slopeE s = 0) : SlopeOk s := by
  have h1 := firstE_zero.1 h
  exact ⟨rangeE_zero.1 (h1 _ (List.mem_cons_self ..)), rangeE_zero.1 (h1 (rangeE 0 1000 s.across) (by simp)), rangeE_zero.1 (h1 (rangeE 1 1000 s.whole) (by simp))⟩

theorem prod_in {a f : Int} (ha : -100000 ≤ a ∧ a ≤ 100000) (hf : 0 ≤ f ∧ f ≤ 1000) : -100000000 ≤ a * f ∧ a * f ≤ 100000000 := by
  have h1 : a * f ≤ 100000 * f := Int.mul_le_mul_of_nonneg_right ha.2 hf.1
  have h2 : -100000 * f ≤ a * f := Int.mul_le_mul_of_nonneg_right ha.1 hf.1
  omega

def badS (s : SlopeI) (p : List Int) : Int := firstE [slopeE s, pulseE p]

theorem split60 {n : Nat} (hn : 7 ≤ n) (s : SlopeI) (p : List Int) (hp : p.length < 1000000) : RUN n 60 [spa s, isl p] = .ret (if badS s p = 0 then .tup [.p (.sl (cI (p.map fun a => partF s.whole a s.along)) p.length), .p (.sl (cI (p.map fun a => partF s.whole a s.across)) p.length), iv 0] else .tup [.p (.sl [] 0), .p (.sl [] 0), iv (badS s p)]) := by
  obtain ⟨d, rfl⟩ : ∃ d, n = d + 7 := ⟨n - 7, by omega⟩
  rw [RUN, call_eq fe60 _ rfl]
  have h1 := slope68 (n := d + 6) (by omega) s
  have h2 := pulse110 (n := d + 6) (by omega) p hp
  have h3 := first92_2 (n := d + 6) (by omega) (slopeE s) (pulseE p)
  have hb : firstE [slopeE s, pulseE p] = badS s p := rfl
  rw [hb] at h3
  by_cases hz : badS s p = 0
  · have hs := slope_of (firstE_zero.1 hz (slopeE s) (by simp))
    obtain ⟨_, _, q⟩ := pulse_of (firstE_zero.1 hz (pulseE p) (by simp))
    have hw := hs.whole
    have m1 := map124 (d := d + 5) p 125 [.pp (spc s)] (by simp) (fun a => partF s.whole a s.along) hp (fun x hx => along125 (n := d + 5) (by omega) s x (by omega) (q x hx) (prod_in (q x hx) hs.along))
    have m2 := map124 (d := d + 5) p 127 [.pp (spc s)] (by simp) (fun a => partF s.whole a s.across) hp (fun x hx => across127 (n := d + 5) (by omega) s x (by omega) (q x hx) (prod_in (q x hx) hs.across))
    rw [if_pos hz]
    simp -implicitDefEqProofs [c60, h1, h2, h3, hz, m1, m2]
  · rw [if_neg hz]
    simp -implicitDefEqProofs [c60, h1, h2, h3, hz]
end Fw
