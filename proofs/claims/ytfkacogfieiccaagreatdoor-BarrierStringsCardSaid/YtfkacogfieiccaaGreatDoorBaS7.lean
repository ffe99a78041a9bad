/- A tow's text, read by the reference: the words of a line. -/
import Derived.Test.YtfkacogfieiccaaGreatDoorBaS6
set_option maxHeartbeats 8000000
namespace Fw
open Go
attribute [local irreducible] evCode evOps evOpsD evOper evOperD evOp evFn loopN T.All T.bind callPure callOp opsK opsDK restK seqK blockK loopS setK setQ giveK scalK gcK finish finS rfunK yldK yldB loopK

def dvz (l : List UInt8) : Int := if digOk l = true then digV l else 0
def tblW : AVal := .p (.sl [.str wallW, .str fricW, .str brakeW] 3)
def kE (A : AVal) (ws : List (List UInt8)) (i : Int) (ok : Bool) (v : AVal) (j : Int) : Env := [(2, .ptr 0 0 0), (5, .ptr 1 0 0), (6, A), (7, tblW), (8, iv i), (9, .p (.sl (pStr ws) ws.length)), (12, .p (.bool ok)), (13, v), (14, iv j)]

theorem words_loop {d : Nat} (A : AVal) (i : Int) (w0 : List UInt8) (r : List (List UInt8)) (ok0 : Bool) (m : Nat) (S0 : Sto) (hl : r.length < 100000) :
    loopN (loopS (evFn F C0 G0 (d + 1)) C0 G0 0 false [2, 5, 6, 7, 8, 9, 12, 13, 14] c86L0) loopFuel ⟨kE A (w0 :: r) i ok0 (.sl m 0 0 0) 1, (m, .arr [] 0 1) :: S0⟩ = .ret (.exit 2, ⟨kE A (w0 :: r) i (ok0 && r.all digOk) (.sl m r.length 0 r.length) (r.length + 1) ++ [(76, .p (.bool false))], (m, .arr (pI (r.map dvz)) r.length 1) :: S0⟩) := by
  let inv : Nat → St := fun k => ⟨kE A (w0 :: r) i (ok0 && (r.take k).all digOk) (.sl m k 0 k) (k + 1), (m, .arr (pI ((r.map dvz).take k)) k 1) :: S0⟩
  have hT : r.take r.length = r := List.take_of_length_le (by omega)
  have hT2 : (r.map dvz).take r.length = r.map dvz := List.take_of_length_le (by simp)
  have hend : loopS (evFn F C0 G0 (d + 1)) C0 G0 0 false [2, 5, 6, 7, 8, 9, 12, 13, 14] c86L0 (inv r.length) = .ret (.exit 2, ⟨kE A (w0 :: r) i (ok0 && r.all digOk) (.sl m r.length 0 r.length) (r.length + 1) ++ [(76, .p (.bool false))], (m, .arr (pI (r.map dvz)) r.length 1) :: S0⟩) := by
    simp only [inv, hT, hT2]
    generalize (ok0 && r.all digOk) = b
    simp -implicitDefEqProofs [kE, loopS_eq, c86L0]
  refine loop_run' inv r.length (by simp) (by simp [inv]) ?_ hend (by simp [loopFuel]; omega)
  intro k hk
  have hdg := digits152 (n := d + 1) (by omega) r[k]
  have hlt' : (k : Int) + 1 < (r.length : Int) + 1 := by omega
  have hgo : r[k]? = some r[k] := List.getElem?_eq_getElem hk
  have hgk : ∀ q, (pStr r)[k]'q = .str r[k] := fun q => by simp [pStr]
  have hw := wrap64 (n := (k : Int) + 1 + 1) (by omega) (by omega)
  have hlim : k + 1 ≤ lim := by simp only [lim]; omega
  have hto : ((r.map dvz).take k).length = k := by simp; omega
  have ht : pI ((r.map dvz).take (k + 1)) = pI ((r.map dvz).take k) ++ [.int .i64 (dvz r[k])] := by
    rw [pI_snoc]; congr 1; rw [List.take_add_one]; simp [hk]
  have hb : (ok0 && (r.take (k + 1)).all digOk) = ((ok0 && (r.take k).all digOk) && digOk r[k]) := by
    rw [List.take_add_one, List.all_append, Bool.and_assoc]; simp [hk]
  have hv : (if digOk r[k] = true then digV r[k] else 0) = dvz r[k] := rfl
  rw [hv] at hdg
  simp only [inv, ht, hb]
  generalize (ok0 && (r.take k).all digOk) = b
  generalize hX : pI ((r.map dvz).take k) = X
  have hXl : X.length = k := by rw [← hX]; simp; omega
  have hpr : (pStr r).length = r.length := by simp
  generalize hR : pStr r = R at *
  have t1 : ((k : Int) + 1).toNat = k + 1 := by omega
  have hnn : (0 : Int) ≤ (k : Int) + 1 := by omega
  have hRk : k < R.length := by omega
  have hp : pStr (w0 :: r) = .str w0 :: R := by rw [← hR]; rfl
  simp only [kE, hp, List.length_cons]
  have hgk' : R[k]? = some (.str r[k]) := by rw [← hR]; simp [pStr, hgo]
  cases b with
  | true =>
    refine ⟨?_, ?h1, ?h2⟩
    case h1 =>
      simp -implicitDefEqProofs [loopS_eq, c86L0, hlt', hgk, hlim, hXl, hdg, hw, t1, hnn, hRk]
      exact rfl
    case h2 => simp
  | false =>
    refine ⟨?_, ?h3, ?h4⟩
    case h3 =>
      simp -implicitDefEqProofs [loopS_eq, c86L0, hlt', hgk, hlim, hXl, hdg, hw, t1, hnn, hRk]
      exact rfl
    case h4 => simp
end Fw
