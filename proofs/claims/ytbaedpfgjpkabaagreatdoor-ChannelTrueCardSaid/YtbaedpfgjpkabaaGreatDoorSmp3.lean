/- The two checks of a sample: the program's. -/
import Derived.Test.YtbaedpfgjpkabaaGreatDoorSmp2
import Derived.Laws.Bits64b
import Derived.Laws.FloatBits
set_option maxHeartbeats 8000000
namespace Fw
open Go Ieee
attribute [local irreducible] evCode evOps evOpsD evOper evOperD evOp evFn loopN T.All T.bind callPure callOp opsK opsDK restK seqK blockK loopS setK setQ giveK scalK gcK finish finS rfunK yldK yldB loopK

/-- the contracts of the library that these functions come to -/
structure LibOk (C : Nat → List AVal → Option (T AVal)) : Prop where
  bits : ∀ b, C 243 [.p (.flt .f64 b)] = some (.ret (.p (.int .u64 b)))
  from' : ∀ n : Int, C 242 [.p (.int .u64 n)] = some (.ret (.p (.flt .f64 n.toNat)))
  down : ∀ as, C 234 as = cIntegral .down as

theorem read_abs {y : Nat} (_hy : y < 2 ^ 64) : (∀ s k q, double.read y = .number s k q → double.read (y % 2 ^ 63) = .number false k q) ∧ (∀ s, double.read y = .infinity s → double.read (y % 2 ^ 63) = .infinity false) := by
  have hs : double.signWeight = 2 ^ 63 := rfl
  have e1 : y % 2 ^ 63 / 2 ^ 63 % 2 = 0 := by omega
  have e2 : y % 2 ^ 63 % 2 ^ 63 = y % 2 ^ 63 := by omega
  unfold Format.read
  simp only [hs, e1, e2]
  generalize y % 2 ^ 63 = r
  refine ⟨fun s k q => ?_, fun s => ?_⟩
  · split
    · intro h; injection h with _ a b; subst a b; rfl
    · split
      · intro h; injection h with _ a b; subst a b; rfl
      · split <;> (intro h; cases h)
  · split
    · intro h; cases h
    · split
      · intro h; cases h
      · split
        · intro h; rfl
        · intro h; cases h

section
variable {C : Nat → List AVal → Option (T AVal)} {G : Nat → Option (List PVal)} {d : Nat}

theorem abs233 (hC : ∀ as, C 233 as = none) (hL : LibOk C) (y : Nat) (hy : y < 2 ^ 64) : callPure (evFn F C G (d + 1)) C (.fn 233) [.p (.flt .f64 y)] = .ret (.p (.flt .f64 (y % 2 ^ 63))) := by
  rw [call_eq fe233 _ (hC _)]
  have k1 : ∀ n, callPure (evFn F C G n) C (.fn 243) [.p (.flt .f64 y)] = .ret (.p (.int .u64 y)) := fun n => by simp only [callPure, hL.bits]
  have k2 : ∀ (n : Nat) (m : Int), callPure (evFn F C G n) C (.fn 242) [.p (.int .u64 m)] = .ret (.p (.flt .f64 m.toNat)) := fun n m => by simp only [callPure, hL.from']
  have hq : (IntKind.u64.wrap ((y % 18446744073709551616 &&& 9223372036854775807 : Nat) : Int)).toNat = y % 2 ^ 63 := by
    have e : y % 18446744073709551616 &&& 9223372036854775807 = y % 2 ^ 63 := by
      rw [Nat.mod_eq_of_lt (show y < 18446744073709551616 from hy)]
      exact Nat.and_two_pow_sub_one_eq_mod y 63
    rw [e, IntKind.wrap_u64]; omega
  have hbits : IntKind.u64.bits = 64 := rfl
  generalize y % 2 ^ 63 = z at *
  simp -implicitDefEqProofs [c233, k1, k2, hbits, hq]

/-- is a float not a number, or infinite? -/
theorem inf223 (hC : ∀ f ∈ [223, 233], ∀ as, C f as = none) (hL : LibOk C) {y : Nat} (hy : y < 2 ^ 64) : (∀ s k q, double.read y = .number s k q → -2000 ≤ q → (∃ T, T ≤ 2128 ∧ V k q < 2 ^ T) → callPure (evFn F C G (d + 2)) C (.fn 223) [.p (.flt .f64 y), .p (.int .i64 0)] = .ret (.p (.bool false))) ∧
    (∀ s, double.read y = .infinity s → callPure (evFn F C G (d + 2)) C (.fn 223) [.p (.flt .f64 y), .p (.int .i64 0)] = .ret (.p (.bool true))) := by
  have ka := abs233 (G := G) (d := d) (hC 233 (by simp)) hL y hy
  obtain ⟨r1, r2⟩ := read_abs hy
  refine ⟨fun s k q h hq hv => ?_, fun s h => ?_⟩
  · have h1 : FloatKind.f64.decode (y % 2 ^ 63) = .number false k q := r1 s k q h
    have h2 : (FloatKind.f64.format.order (y % 2 ^ 63) 9218868437227405311 == some .gt) = false := by
      rw [ord_num h1 (show FloatKind.f64.decode _ = _ from rmax64) hq (by decide), cmp_gt]
      obtain ⟨T, hT, hb⟩ := hv
      have v1 : 2 ^ T ≤ V 9007199254740991 971 := Nat.le_trans (V_ge 971 T (by omega)) (V_le 971 (by decide))
      have : ¬ (V 9007199254740991 971 : Int) < (V k q : Int) := by omega
      simpa [sV] using this
    generalize y % 2 ^ 63 = z at *
    rw [call_eq fe223 _ (hC 223 (by simp) _)]
    simp -implicitDefEqProofs [c223, ka, fltBin, h2]
  · have h1 : double.read (y % 2 ^ 63) = .infinity false := r2 s h
    have h2 : FloatKind.f64.format.order (y % 2 ^ 63) 9218868437227405311 = some .gt := by
      unfold Format.order
      rw [show FloatKind.f64.format.read (y % 2 ^ 63) = .infinity false from h1, show FloatKind.f64.format.read _ = _ from rmax64]
      rfl
    generalize y % 2 ^ 63 = z at *
    rw [call_eq fe223 _ (hC 223 (by simp) _)]
    simp -implicitDefEqProofs [c223, ka, fltBin, h2]

theorem nan222 (hC : ∀ as, C 222 as = none) (y : Nat) : callPure (evFn F C G (d + 1)) C (.fn 222) [.p (.flt .f64 y)] = .ret (.p (.bool (FloatKind.f64.format.order y y != some .eq))) := by
  rw [call_eq fe222 _ (hC _)]
  simp -implicitDefEqProofs [c222, fltBin]

theorem self_num {y : Nat} {s : Bool} {k : Nat} {q : Int} (h : double.read y = .number s k q) (hq : -2000 ≤ q) : (FloatKind.f64.format.order y y != some .eq) = false := by
  have h' : FloatKind.f64.decode y = .number s k q := h
  rw [ord_num h' h' hq hq, cmp_ne]; simp
theorem self_inf {y : Nat} {s : Bool} (h : double.read y = .infinity s) : (FloatKind.f64.format.order y y != some .eq) = false := by
  unfold Format.order
  rw [show FloatKind.f64.format.read y = .infinity s from h]
  cases s <;> rfl

theorem enc_lt (x : Datum) : FloatKind.f64.encode x < 2 ^ 64 := Format.write_lt _ x

def finB (b : Nat) : Bool := match single.read b with
  | .number .. => false
  | _ => true

/-- is a sample not a number, or infinite? -/
theorem infinite212 (hC : ∀ f ∈ [212, 222, 223, 233], ∀ as, C f as = none) (hL : LibOk C) (b : Nat) (K : AVal → Prop) (hK : K (.p (.bool (finB b)))) : (callPure (evFn F C G (d + 3)) C (.fn 212) [.p (.flt .f32 b)]).All K := by
  rw [call_eq fe212 _ (hC 212 (by simp) _)]
  cases hr : single.read b with
  | number s m p =>
    have hfin : finB b = false := by unfold finB; rw [hr]
    rw [hfin] at hK
    obtain ⟨h1, h2, h3⟩ := read32 b hr
    have f3 : FloatKind.f32.decode b = .number s m p := hr
    obtain ⟨k, q, f4, g2, g3, g4⟩ := conv64 hr
    have hlt := enc_lt (.number s m p)
    generalize hy : FloatKind.f64.encode (.number s m p) = y at *
    have fin : (Datum.number s k q).isInfinity = false := rfl
    have k1 := nan222 (C := C) (G := G) (d := d + 1) (hC 222 (by simp)) y
    rw [self_num f4 (by omega)] at k1
    have k2 := (inf223 (C := C) (G := G) (d := d) (fun f hf => hC f (by simp at hf ⊢; omega)) hL hlt).1 s k q f4 (by omega) (by rw [g2]; exact V_small h1 (by omega) h3)
    simp -implicitDefEqProofs [c212, f3, hy, f4, fin, k1, k2, hK]
  | infinity s =>
    have hfin : finB b = true := by unfold finB; rw [hr]
    rw [hfin] at hK
    have f3 : FloatKind.f32.decode b = .infinity s := hr
    have hlt := enc_lt (.infinity s)
    have hy : double.read (FloatKind.f64.encode (.infinity s)) = .infinity s := by cases s <;> decide +kernel
    generalize hy2 : FloatKind.f64.encode (.infinity s) = y at *
    have k1 := nan222 (C := C) (G := G) (d := d + 1) (hC 222 (by simp)) y
    rw [self_inf hy] at k1
    have k2 := (inf223 (C := C) (G := G) (d := d) (fun f hf => hC f (by simp at hf ⊢; omega)) hL hlt).2 s hy
    simp -implicitDefEqProofs [c212, f3, hy2, k1, k2, hK]
  | nan s t =>
    have hfin : finB b = true := by unfold finB; rw [hr]
    rw [hfin] at hK
    have f3 : FloatKind.f32.decode b = .nan s t := hr
    simp -implicitDefEqProofs [c212, f3, nanC]
    simp -implicitDefEqProofs only [T.All_bind, All_pick]
    refine ⟨nan_pos64, fun i _ => ?_⟩
    obtain ⟨s', u, hu⟩ := nanB64 (i := i)
    have k1 := nan222 (C := C) (G := G) (d := d + 1) (hC 222 (by simp)) (nanB .f64 i)
    rw [neq_nan (k := .f64) (y := nanB .f64 i) (x := nanB .f64 i) hu] at k1
    have hb : (none != some Ordering.eq) = true := rfl
    rw [hb] at k1
    generalize nanB .f64 i = z at *
    simp -implicitDefEqProofs [k1, hK]
end
end Fw
