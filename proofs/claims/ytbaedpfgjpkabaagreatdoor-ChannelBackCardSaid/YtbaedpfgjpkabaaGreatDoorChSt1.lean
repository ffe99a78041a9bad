/- Lists of sensors: short ones, copies, lines. -/
import Derived.Test.YtbaedpfgjpkabaaGreatDoorChSe1
import Derived.Test.YtbaedpfgjpkabaaGreatDoorChR
set_option maxHeartbeats 8000000
namespace Fw
open Go
attribute [local irreducible] evCode evOps evOpsD evOper evOperD evOp evFn loopN T.All T.bind callPure callOp opsK opsDK restK seqK blockK loopS setK setQ giveK scalK gcK finish finS rfunK yldK yldB loopK

def sc (s : SenI) : List PVal := [.str s.name, .int .i64 s.scale, .int .i64 s.lo, .int .i64 s.hi]
abbrev ssl (l : List SenI) : AVal := .p (.sl (rowC sc l) l.length)
theorem sc_len (s : SenI) : (sc s).length = 4 := rfl
theorem sR_len (l : List SenI) : (rowC sc l).length = l.length * 4 := rowC_len sc_len l
/-- a name that is not short -/
def lnE (s : SenI) : Int := if 40 < s.name.length then 1 else 0

theorem gauges93 {n : Nat} (hn : 1 ≤ n) (l : List SenI) (hl : l.length < 1000000) : RUN n 93 [ssl l] = .ret (.own (rowC sc l) l.length 4) := by
  obtain ⟨d, rfl⟩ : ∃ d, n = d + 1 := ⟨n - 1, by omega⟩
  rw [RUN, call_eq fe93 _ rfl]
  let inv : Nat → St := fun i => ⟨[(3, .sl 0 i 0 i), (6, ssl l), (7, iv l.length), (8, iv i)], [(0, .arr (rowC sc (l.take i)) i 4)]⟩
  have hR := sR_len l
  simp -implicitDefEqProofs [c93]
  rw [loop_run' inv l.length (e := .exit 0) (st' := ⟨(inv l.length).env ++ [(9, .p (.bool false))], (inv l.length).sto⟩) (by simp)]
  · simp -implicitDefEqProofs [inv, hR]
  · rfl
  · intro i hi
    have hlim : i + 1 ≤ lim := by simp only [lim]; omega
    have wi := wrap_succ (i := i) (by omega)
    have hti : (l.take i).length = i := by simp; omega
    have hln := sR_len (l.take i)
    rw [hti] at hln
    have hr : rowC sc (l.take (i + 1)) = rowC sc (l.take i) ++ sc l[i] := rowC_take _ _ hi
    have hm4 : (i + 1) * 4 = i * 4 + 4 := by omega
    have hlt : i * 4 < l.length * 4 := by omega
    have hdr := rowC_drop sc_len l i hi
    simp only [inv]
    generalize hA : rowC sc l = A at *
    generalize rowC sc (l.take i) = R' at *
    generalize rowC sc (l.drop (i + 1)) = R2 at *
    generalize hv : l[i] = v at *
    refine ⟨?_, ?h1, ?h2⟩
    case h1 =>
      simp -implicitDefEqProofs [loopS_eq, c93L0, hi, hA, hR, hlt, hdr, sc, hlim, hln, wi]
      exact rfl
    case h2 => exact loopS_same rfl (by simp [hr, sc])
  · simp -implicitDefEqProofs [inv, loopS_eq, c93L0]
  · simp [loopFuel]; omega

theorem sensors99 {n : Nat} (hn : 1 ≤ n) (l : List SenI) (hl : l.length < 1000000) : RUN n 99 [ssl l] = .ret (.own (rowC sc l) l.length 4) := by
  obtain ⟨d, rfl⟩ : ∃ d, n = d + 1 := ⟨n - 1, by omega⟩
  have k := gauges93 (n := d + 1) (by omega) l hl
  rw [RUN, call_eq fe93 _ rfl] at k
  rw [RUN, call_eq fe99 _ rfl]
  exact k

theorem m193 : c193 = mapC (.p (.str [])) 16 := rfl
theorem texts193 {n : Nat} (hn : 2 ≤ n) (l : List Int) (hl : l.length < 1000000) (hb : ∀ x ∈ l, -9223372036854775808 ≤ x ∧ x ≤ 9223372036854775807) : RUN n 193 [isl l, .p (.clo 194 [] [])] = .ret (.own (pStr (l.map itoaS)) l.length 1) := by
  obtain ⟨d, rfl⟩ : ∃ d, n = d + 1 := ⟨n - 1, by omega⟩
  have hm := map_ok (C := C0) (G := G0) (d := d) (m193 ▸ fe193) (by decide) (fun _ => rfl) (pI l) 194 [] (fun p => match p with | .int .i64 x => .str (itoaS x) | _ => .str []) (by simpa using hl) (by simp) (fun c hc => by
    simp only [pI, List.mem_map] at hc
    obtain ⟨x, hx, rfl⟩ := hc
    have := hb x hx
    exact ⟨itoa194 (n := d) x (by omega) (by omega), rfl⟩)
  have : (pI l).map (fun p => match p with | .int .i64 x => .str (itoaS x) | _ => .str []) = pStr (l.map itoaS) := by
    simp [pI, pStr]
  rw [this] at hm
  simpa using hm
/-- the line of a sensor -/
def lineS (s : SenI) : List UInt8 := Lib.join [[115, 101, 110, 115, 111, 114], s.name, itoaS s.scale, itoaS s.lo, itoaS s.hi] [32] ++ [10]

theorem line164 {n : Nat} (hn : 4 ≤ n) (s : SenI) (h0 : -1000000000 ≤ s.scale ∧ s.scale ≤ 1000000000) (h1 : -1000000000 ≤ s.lo ∧ s.lo ≤ 1000000000) (h2 : -1000000000 ≤ s.hi ∧ s.hi ≤ 1000000000) (hl : (Lib.join [[115, 101, 110, 115, 111, 114], s.name, itoaS s.scale, itoaS s.lo, itoaS s.hi] [32]).length ≤ lim - 1) : RUN n 164 [sea s] = .ret (sv (lineS s)) := by
  obtain ⟨d, rfl⟩ : ∃ d, n = d + 4 := ⟨n - 4, by omega⟩
  rw [RUN, call_eq fe164 _ rfl]
  have k1 := texts193 (n := d + 3) (by omega) [s.scale, s.lo, s.hi] (by simp) (by simp; omega)
  have k2 := join162 (n := d + 3) [[115, 101, 110, 115, 111, 114], s.name, itoaS s.scale, itoaS s.lo, itoaS s.hi] [32] (by simp [lim]) (by simp only [lim] at hl ⊢; omega)
  have hj : lineS s = Lib.join [[115, 101, 110, 115, 111, 114], s.name, itoaS s.scale, itoaS s.lo, itoaS s.hi] [32] ++ [10] := rfl
  rw [hj]
  generalize Lib.join [[115, 101, 110, 115, 111, 114], s.name, itoaS s.scale, itoaS s.lo, itoaS s.hi] [32] = J at *
  obtain ⟨nm, sk, sl, sh⟩ := s
  simp only [isl, pI, pStr, List.map_cons, List.map_nil, List.length_cons, List.length_nil] at k1 k2
  have hJ : J.length ≤ 1073741823 := by simp only [lim] at hl; omega
  simp -implicitDefEqProofs [c164, k1, k2, lim, hJ]
end Fw
