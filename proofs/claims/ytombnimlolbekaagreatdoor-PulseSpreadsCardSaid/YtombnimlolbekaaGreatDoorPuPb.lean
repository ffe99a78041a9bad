/- Short runs; parts of slopes. -/
import Derived.Test.YtombnimlolbekaaGreatDoorPuPa
set_option maxHeartbeats 8000000
namespace Fw
open Go
attribute [local irreducible] evCode evOps evOpsD evOper evOperD evOp evFn loopN T.All T.bind callPure callOp opsK opsDK restK seqK blockK loopS setK setQ giveK scalK gcK finish finS rfunK yldK yldB loopK

def longE (l : List Int) : Int := if 20 < l.length ∧ l.length ≠ 65 then 1 else 0
def shortB (ls : List (List Int)) : Bool := decide (firstE (ls.map longE) = 0) && decide (ls.length ≤ 9)

theorem short55 {n : Nat} (hn : 1 ≤ n) (ls : List (List Int)) (hl : ls.length ≤ 9223372036854775807) : RUN n 55 [llsl ls] = .ret (.p (.bool (shortB ls))) := by
  obtain ⟨d, rfl⟩ : ∃ d, n = d + 1 := ⟨n - 1, by omega⟩
  rw [RUN, call_eq fe55 _ rfl]
  let inv : Nat → St := fun i => ⟨[(0, llsl ls), (3, iv i)], []⟩
  let e : Nat → Int := fun i => longE (ls.getD i [])
  have hm : ls.map longE = (List.range ls.length).map e := by
    refine List.ext_getElem (by simp) (fun i h1 h2 => ?_)
    have : i < ls.length := by simpa using h1
    simp [e, List.getElem?_eq_getElem this]
  have hsb : shortB ls = (decide (firstE ((List.range ls.length).map e) = 0) && decide (ls.length ≤ 9)) := by rw [shortB, hm]
  rw [hsb]
  simp -implicitDefEqProofs [c55]
  have key := loop_first (step := loopS (evFn F C0 G0 d) C0 G0 0 false [0, 3] c55L0) inv e ls.length (.exit 0, ⟨(inv ls.length).env ++ [(7, .p (.bool false))], []⟩) (fun _ => (.ret, ⟨[(2, .p (.bool false))], []⟩))
    (st0 := ⟨[(0, llsl ls), (3, iv 0)], []⟩) rfl ?_ (fun i => by simp) (by simp [inv, loopS_eq, c55L0]) (by simp) (fuel := loopFuel) (by simp [loopFuel]; omega)
  · rcases key with ⟨k1, k2⟩ | ⟨j, hj, k1, k2, k3, _⟩
    · rw [k1, k2]
      simp -implicitDefEqProofs [inv]
      omega
    · rw [k1, k2]
      simp -implicitDefEqProofs [k3]
  · intro i hi
    have hlt' : (i : Int) < ls.length := by omega
    have hgi : ls.getD i [] = ls[i] := by simp [List.getD_eq_getElem?_getD, List.getElem?_eq_getElem hi]
    have hd := drop_lsl ls i hi
    have he : e i = longE ls[i] := by simp only [e, hgi]
    rw [he]
    generalize ls[i] = l at *
    refine ⟨fun hz => ⟨inv (i + 1), ?_, rfl⟩, fun hz => ?_⟩
    · by_cases h1 : 20 < l.length
      · have h2 : l.length = 65 := by
          refine Classical.byContradiction (fun hc => ?_)
          simp [longE, h1, hc] at hz
        simp -implicitDefEqProofs [inv, loopS_eq, c55L0, hi, hlt', hd, lsl, h2, wrap_succ (i := i) (by omega)]
      · have h1i : ¬ (20 : Int) < l.length := by omega
        simp -implicitDefEqProofs [inv, loopS_eq, c55L0, hi, hlt', hd, lsl, h1i, wrap_succ (i := i) (by omega)]
    · have h1 : 20 < l.length ∧ l.length ≠ 65 := by
        refine Classical.byContradiction (fun hc => hz ?_)
        rw [longE, if_neg hc]
      have h2 : ((l.length : Int) != 65) = true := by simp; omega
      have h1i : (20 : Int) < l.length := by omega
      simp -implicitDefEqProofs [inv, loopS_eq, c55L0, hi, hlt', hd, lsl, h1i, h2]
end Fw
