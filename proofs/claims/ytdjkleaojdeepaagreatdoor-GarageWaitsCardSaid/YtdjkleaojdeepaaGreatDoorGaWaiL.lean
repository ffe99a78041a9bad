import Derived.Test.YtdjkleaojdeepaaGreatDoorGaWt6
import Derived.Test.YtdjkleaojdeepaaGreatDoorGaA
import Derived.Test.YtdjkleaojdeepaaGreatDoorGaArgs
import Derived.Test.YtdjkleaojdeepaaGreatDoorGaG
namespace Fw
open Go
theorem rows_b : ∀ (rows : List (List PVal)), (∀ r ∈ rows, HasTy (.int .u8) r ∧ r.length = Ty.size (.int .u8)) → ∃ l : List UInt8, rows.flatten = pB l ∧ l.length = rows.length := by
 intro rows
 induction rows with
 | nil => intro _; exact ⟨[], rfl, rfl⟩
 | cons r rest ih =>
  intro h
  obtain ⟨l, h1, h2⟩ := ih (fun r hr => h r (by simp [hr]))
  obtain ⟨n, hn, b0, b1⟩ := (h r (by simp)).1
  have b1 : n ≤ 255 := b1
  have b0 : 0 ≤ n := b0
  refine ⟨UInt8.ofNat n.toNat :: l, ?_, by simp [h2]⟩
  have e : ((UInt8.ofNat n.toNat).toNat : Int) = n := by
   rw [UInt8.toNat_ofNat']
   omega
  rw [List.flatten_cons, h1, hn]
  simp only [pB, List.map_cons, e]
  rfl
theorem bytes_args {ps : List PVal} (h : HasTy (.sl (.int .u8)) ps) : ∃ l : List UInt8, ps = [.sl (pB l) l.length] := by
 obtain ⟨rows, rfl, b1, _⟩ := h
 obtain ⟨l, s1, s2⟩ := rows_b rows b1
 exact ⟨l, by rw [s1, ← s2]⟩
theorem four8_args {ps : List PVal} (h : HasTy (.arr 4 (.int .u8)) ps) : ∃ a b c d : Int, ps = [.int .u8 a, .int .u8 b, .int .u8 c, .int .u8 d] ∧ (0 ≤ a ∧ a ≤ 255) ∧ (0 ≤ b ∧ b ≤ 255) ∧ (0 ≤ c ∧ c ≤ 255) ∧ (0 ≤ d ∧ d ≤ 255) := by
 obtain ⟨rows, h1, rfl, h2⟩ := h
 match rows, h1 with
 | [x, y, z, w], _ =>
  obtain ⟨a, rfl, ha⟩ := (h2 x (by simp)).1
  obtain ⟨b, rfl, hb⟩ := (h2 y (by simp)).1
  obtain ⟨c, rfl, hc⟩ := (h2 z (by simp)).1
  obtain ⟨d, rfl, hd⟩ := (h2 w (by simp)).1
  exact ⟨a, b, c, d, rfl, ha, hb, hc, hd⟩
theorem u16_nat {r : List PVal} (h : HasTy (.int .u16) r) : ∃ n : Nat, r = [.int .u16 n] ∧ n ≤ 65535 := by
 obtain ⟨a, rfl, h0, h1⟩ := h
 have h0 : 0 ≤ a := h0
 have h1 : a ≤ 65535 := h1
 exact ⟨a.toNat, by rw [Int.toNat_of_nonneg h0], by omega⟩
theorem six_args {ps : List PVal} (h : HasTy (.arr 6 (.int .u16)) ps) : ∃ n0 n1 n2 n3 n4 n5 : Nat, ps = [.int .u16 n0, .int .u16 n1, .int .u16 n2, .int .u16 n3, .int .u16 n4, .int .u16 n5] ∧ n0 ≤ 65535 ∧ n1 ≤ 65535 ∧ n2 ≤ 65535 ∧ n3 ≤ 65535 ∧ n4 ≤ 65535 ∧ n5 ≤ 65535 := by
 obtain ⟨rows, h1, rfl, h2⟩ := h
 match rows, h1 with
 | [x0, x1, x2, x3, x4, x5], _ =>
  obtain ⟨n0, rfl, b0⟩ := u16_nat (h2 x0 (by simp)).1
  obtain ⟨n1, rfl, b1⟩ := u16_nat (h2 x1 (by simp)).1
  obtain ⟨n2, rfl, b2⟩ := u16_nat (h2 x2 (by simp)).1
  obtain ⟨n3, rfl, b3⟩ := u16_nat (h2 x3 (by simp)).1
  obtain ⟨n4, rfl, b4⟩ := u16_nat (h2 x4 (by simp)).1
  obtain ⟨n5, rfl, b5⟩ := u16_nat (h2 x5 (by simp)).1
  exact ⟨n0, n1, n2, n3, n4, n5, rfl, b0, b1, b2, b3, b4, b5⟩
end Fw
namespace Go.Proofs.YtdjkleaojdeepaaGreatDoor
open Go Fw
set_option maxRecDepth 100000
theorem evP_RUN (f : Nat) (args : List AVal) : evP F C0 G0 61 f args = RUN 61 f args := rfl
theorem awake60 : RUN 60 17 [] = .ret (.p (.bool true)) := awake
attribute [local irreducible] evP T.All callPure
abbrev TsWai : List Ty := [hallTy, .arr 6 (.int .u16), .st [.sl (.int .u8), .arr 4 (.int .u8)]]
theorem wai_law (pss : List (List PVal)) (h : HasArgs TsWai pss) : (evP F C0 G0 61 10 (argsOf TsWai pss)).All (· = .p (.bool true)) := by
 obtain ⟨ps, qs, rs, rfl, h1, h2, h3⟩ := HasArgs3 h
 obtain ⟨y, rfl⟩ := hall_args h1
 obtain ⟨n0, n1, n2, n3, n4, n5, rfl, u0, u1, u2, u3, u4, u5⟩ := six_args h2
 obtain ⟨_, q1, rfl, hp, _, _, q2, rfl, h4, _, hq⟩ := h3
 have hq' : q2 = [] := hq
 subst hq'
 obtain ⟨P, rfl⟩ := bytes_args hp
 obtain ⟨k0, k1, k2, k3, rfl, b0, b1, b2, b3⟩ := four8_args h4
 have ha : argsOf TsWai [[.int .i64 y.doors, .int .i64 y.base, .sl (cI y.t0) y.t0.length, .sl (cI y.t1) y.t1.length, .sl (cI y.t2) y.t2.length], [.int .u16 n0, .int .u16 n1, .int .u16 n2, .int .u16 n3, .int .u16 n4, .int .u16 n5], [.sl (pB P) P.length] ++ ([.int .u8 k0, .int .u8 k1, .int .u8 k2, .int .u8 k3] ++ [])] =
   [ha y, .agg [.p (.int .u16 n0), .p (.int .u16 n1), .p (.int .u16 n2), .p (.int .u16 n3), .p (.int .u16 n4), .p (.int .u16 n5)], .agg (xC P k0 k1 k2 k3)] := rfl
 rw [evP_RUN, ha, wai_at awake60 y P k0 k1 k2 k3 b0 b1 b2 b3 n0 n1 n2 n3 n4 n5 u0 u1 u2 u3 u4 u5, All_ret]
end Go.Proofs.YtdjkleaojdeepaaGreatDoor
