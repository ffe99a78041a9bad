/- Filled records: the program's, the intervals. -/
import Derived.Test.YtbaedpfgjpkabaaGreatDoorChFi4
import Derived.Test.YtbaedpfgjpkabaaGreatDoorChSe1
set_option maxHeartbeats 8000000
namespace Fw
open Go
attribute [local irreducible] evCode evOps evOpsD evOper evOperD evOp evFn loopN T.All T.bind callPure callOp opsK opsDK restK seqK blockK loopS setK setQ giveK scalK gcK finish finS rfunK yldK yldB loopK

/-- an interval is narrowed by a sample that is known -/
def nar (u : List Int) (r : Int) (i : Nat) (x : Int × Int) (k : Int) : Int × Int :=
  if 0 ≤ k then (max x.1 (u.getD k.toNat 0 - r * max ((i : Int) - k) (k - i)), min x.2 (u.getD k.toNat 0 + r * max ((i : Int) - k) (k - i))) else x
def fiY (L : List Bool) (u : List Int) (r : Int) (i : Nat) : Int × Int := nar u r i (nar u r i (-16384, 16384) (lft L i)) (rgt L i)

section
variable {d : Nat}
theorem near65 (L : List Bool) (u : List Int) (r : Int) (i : Nat) (outs : List PVal) (v : Nat) (hL : L.length = u.length) (hi : i < u.length) (hu : u.length ≤ 4096) (hb : In16 u) (hr : 0 ≤ r ∧ r ≤ 16384) :
    loopN (loopS (evFn F C0 G0 (d + 1)) C0 G0 0 false [2, 9, 13, 14, 15, 16, 61, 62, 66, 67] c65L2) loopFuel ⟨[(2, iv r), (9, .sl 0 0 0 u.length), (13, isl u), (14, .sl 1 v 0 v), (15, iv i), (16, .ptr 2 0 0), (61, iv u.length), (62, iv i), (66, .agg [.p (.int .i64 (-1)), .p (.int .i64 1)]), (67, .p (.int .i64 0))], [(2, .arr [.int .i64 (-16384), .int .i64 16384] 0 1), (1, .arr outs v 2), (0, .arr (pB L) 0 1)]⟩ =
    .ret (.exit 6, ⟨[(2, iv r), (9, .sl 0 0 0 u.length), (13, isl u), (14, .sl 1 v 0 v), (15, iv i), (16, .ptr 2 0 0), (61, iv u.length), (62, iv i), (66, .agg [.p (.int .i64 (-1)), .p (.int .i64 1)]), (67, .p (.int .i64 2)), (68, .p (.bool false))], [(2, .arr [.int .i64 (fiY L u r i).1, .int .i64 (fiY L u r i).2] 0 1), (1, .arr outs v 2), (0, .arr (pB L) 0 1)]⟩) := by
  have kl := toward_l (n := d + 1) (by omega) L (by omega) i (by omega)
  have kr := toward_r (n := d + 1) (by omega) L (by omega) i (by omega)
  simp only [bsl, hL] at kl kr
  have sl := lft_spec L i (by omega)
  have sr := rgt_spec L i (by omega)
  have one : ∀ (x : Int × Int) (k : Nat), k < u.length → nar u r i x (k : Int) = (max x.1 (u.getD k 0 - r * max ((i : Int) - k) ((k : Int) - i)), min x.2 (u.getD k 0 + r * max ((i : Int) - k) ((k : Int) - i))) := fun x k hk => by
    rw [nar, if_pos (by omega), Int.toNat_natCast]
  have none : ∀ (x : Int × Int), nar u r i x (-1) = x := fun x => by rw [nar, if_neg (by omega)]
  have hw : ∀ (k : Nat) (hk : k < u.length), IntKind.i64.wrap ((i : Int) - k) = (i : Int) - k ∧ IntKind.i64.wrap ((k : Int) - i) = (k : Int) - i ∧ IntKind.i64.wrap (r * max ((i : Int) - k) ((k : Int) - i)) = r * max ((i : Int) - k) ((k : Int) - i) ∧ IntKind.i64.wrap (u.getD k 0 - r * max ((i : Int) - k) ((k : Int) - i)) = u.getD k 0 - r * max ((i : Int) - k) ((k : Int) - i) ∧ IntKind.i64.wrap (u.getD k 0 + r * max ((i : Int) - k) ((k : Int) - i)) = u.getD k 0 + r * max ((i : Int) - k) ((k : Int) - i) ∧ u[k] = u.getD k 0 := fun k hk => by
    have hg : u.getD k 0 = u[k] := by rw [List.getD_eq_getElem?_getD, List.getElem?_eq_getElem hk]; rfl
    have h1 := hb u[k] (List.getElem_mem hk)
    have h2 : ((r * max ((i : Int) - k) ((k : Int) - i)).natAbs : Int) ≤ 16384 * 4096 := mul_abs (by omega) (by omega)
    rw [hg]
    generalize r * max ((i : Int) - k) ((k : Int) - i) = P at *
    exact ⟨wrap64 (by omega) (by omega), wrap64 (by omega) (by omega), wrap64 (by omega) (by omega), wrap64 (by omega) (by omega), wrap64 (by omega) (by omega), rfl⟩
  let X : Nat → Int × Int := fun t => if t = 0 then (-16384, 16384) else if t = 1 then nar u r i (-16384, 16384) (lft L i) else fiY L u r i
  let inv : Nat → St := fun t => ⟨[(2, iv r), (9, .sl 0 0 0 u.length), (13, isl u), (14, .sl 1 v 0 v), (15, iv i), (16, .ptr 2 0 0), (61, iv u.length), (62, iv i), (66, .agg [.p (.int .i64 (-1)), .p (.int .i64 1)]), (67, iv t)], [(2, .arr [.int .i64 (X t).1, .int .i64 (X t).2] 0 1), (1, .arr outs v 2), (0, .arr (pB L) 0 1)]⟩
  have w1 : IntKind.i64.wrap 1 = 1 := by decide
  have w2 : IntKind.i64.wrap 2 = 2 := by decide
  refine loop_run inv 2 (by simp) (by rfl) ?_ ?_ (by simp [loopFuel])
  · intro t ht
    obtain h | h : t = 0 ∨ t = 1 := by omega
    · subst h
      simp only [inv, X, if_true, show (0 + 1 = 0) = False by simp, if_false]
      rcases sl with ⟨e, _⟩ | ⟨k, e, hk, _⟩
      · rw [e] at kl ⊢
        rw [none]
        simp -implicitDefEqProofs [loopS_eq, c65L2, kl, hL, w1]
      · rw [e] at kl ⊢
        have hk' : k < u.length := by omega
        obtain ⟨a1, a2, a3, a4, a5, a6⟩ := hw k hk'
        rw [one _ k hk']
        simp only
        generalize u.getD k 0 = uk at *
        generalize hP : r * max ((i : Int) - k) ((k : Int) - i) = P at *
        simp -implicitDefEqProofs [loopS_eq, c65L2, kl, hL, hk', a1, a2, a3, a4, a5, a6, hP, w1, max2, min2]
    · subst h
      have hf : fiY L u r i = nar u r i (nar u r i (-16384, 16384) (lft L i)) (rgt L i) := rfl
      simp only [inv, X, show (1 = 0) = False by simp, show (1 + 1 = 0) = False by simp, show (1 + 1 = 1) = False by simp, if_true, if_false]
      rw [hf]
      generalize nar u r i (-16384, 16384) (lft L i) = y at *
      obtain ⟨p, q⟩ := y
      rcases sr with ⟨e, _⟩ | ⟨k, e, _, hk', _⟩
      · rw [e] at kr ⊢
        rw [none]
        simp -implicitDefEqProofs [loopS_eq, c65L2, kr, hL, w2]
      · rw [e] at kr ⊢
        rw [hL] at hk'
        obtain ⟨a1, a2, a3, a4, a5, a6⟩ := hw k hk'
        rw [one _ k hk']
        simp only
        generalize u.getD k 0 = uk at *
        generalize hP : r * max ((i : Int) - k) ((k : Int) - i) = P at *
        simp -implicitDefEqProofs [loopS_eq, c65L2, kr, hL, hk', a1, a2, a3, a4, a5, a6, hP, w2, max2, min2]
  · simp -implicitDefEqProofs [inv, X, loopS_eq, c65L2]
end
end Fw
