import Derived.Test.YtbaedpfgjpkabaaGreatDoorChTru
import Derived.Test.YtbaedpfgjpkabaaGreatDoorChA
import Derived.Test.YtbaedpfgjpkabaaGreatDoorChArgs
import Derived.Test.YtbaedpfgjpkabaaGreatDoorChG
namespace Fw
open Go
theorem rows_16 : ∀ (rows : List (List PVal)), (∀ r ∈ rows, HasTy (.int .i16) r ∧ r.length = Ty.size (.int .i16)) → ∃ l : List Int, rows.flatten = p16 l ∧ l.length = rows.length ∧ ∀ n ∈ l, -32768 ≤ n ∧ n ≤ 32767 := by
  intro rows
  induction rows with
  | nil => intro _; exact ⟨[], rfl, rfl, fun x hx => by cases hx⟩
  | cons r rest ih =>
    intro h
    obtain ⟨l, h1, h2, h3⟩ := ih (fun r hr => h r (by simp [hr]))
    obtain ⟨n, hn, hb⟩ := (h r (by simp)).1
    refine ⟨n :: l, by simp [hn, h1, p16], by simp [h2], fun x hx => ?_⟩
    rcases List.mem_cons.1 hx with e | e
    · subst e; exact hb
    · exact h3 x e
theorem ints16_args {ps : List PVal} (h : HasTy (.sl (.int .i16)) ps) : ∃ l : List Int, ps = [.sl (p16 l) l.length] ∧ ∀ n ∈ l, -32768 ≤ n ∧ n ≤ 32767 := by
  obtain ⟨rows, rfl, b1, _⟩ := h
  obtain ⟨l, s1, s2, s3⟩ := rows_16 rows b1
  exact ⟨l, by rw [s1, ← s2], s3⟩
theorem three_args {ps : List PVal} (h : HasTy (.arr 3 (.int .u16)) ps) : ∃ a b d : Int, ps = [.int .u16 a, .int .u16 b, .int .u16 d] ∧ (0 ≤ a ∧ a ≤ 65535) ∧ (0 ≤ b ∧ b ≤ 65535) ∧ (0 ≤ d ∧ d ≤ 65535) := by
  obtain ⟨rows, h1, rfl, h2⟩ := h
  match rows, h1 with
  | [x, y, z], _ =>
    obtain ⟨a, rfl, ha⟩ := (h2 x (by simp)).1
    obtain ⟨b, rfl, hb⟩ := (h2 y (by simp)).1
    obtain ⟨d, rfl, hd⟩ := (h2 z (by simp)).1
    exact ⟨a, b, d, rfl, ha, hb, hd⟩
end Fw
namespace Go.Proofs.YtbaedpfgjpkabaaGreatDoor
open Go Fw
set_option maxRecDepth 100000
theorem evP_RUN (f : Nat) (args : List AVal) : evP F C0 G0 61 f args = RUN 61 f args := rfl
theorem awake60 : RUN 60 15 [] = .ret (.p (.bool true)) := awake
attribute [local irreducible] evP T.All callPure
abbrev truTy : Ty := .st [.str, .int .i64, bandTy]
abbrev trhTy : Ty := .st [.st [.str, .int .i64, .int .i64], .arr 3 (.int .u16), .int .u8, .int .u8]
abbrev TsTru : List Ty := [truTy, .sl (.int .i16), trhTy]
theorem tru_law (pss : List (List PVal)) (h : HasArgs TsTru pss) : (evP F C0 G0 61 10 (argsOf TsTru pss)).All (· = .p (.bool true)) := by
  obtain ⟨ps, qs, rs, rfl, h1, h2, h3⟩ := HasArgs3 h
  obtain ⟨_, r1, rfl, ⟨p, rfl, _⟩, _, _, r2, rfl, ⟨sc, rfl, _⟩, _, _, r3, rfl, hb, _, hr⟩ := h1
  have hr' : r3 = [] := hr
  subst hr'
  obtain ⟨a, b, rfl⟩ := band_args hb
  obtain ⟨l, rfl, hl⟩ := ints16_args h2
  obtain ⟨_, q1, rfl, hc, _, _, q2, rfl, h3n, _, _, q3, rfl, ⟨at', rfl, hat⟩, _, _, q4, rfl, ⟨by', rfl, hby⟩, _, hq⟩ := h3
  have hq' : q4 = [] := hq
  subst hq'
  obtain ⟨_, t1, rfl, ⟨pl, rfl, _⟩, _, _, t2, rfl, ⟨ax, rfl, _⟩, _, _, t3, rfl, ⟨sg, rfl, _⟩, _, ht⟩ := hc
  have ht' : t3 = [] := ht
  subst ht'
  obtain ⟨n0, n1, n2, rfl, b0, b1, b2⟩ := three_args h3n
  have ha : argsOf TsTru [[.str p] ++ ([.int .i64 sc] ++ ([.int .i64 a, .int .i64 b] ++ [])), [.sl (p16 l) l.length], ([.str pl] ++ ([.int .i64 ax] ++ ([.int .i64 sg] ++ []))) ++ ([.int .u16 n0, .int .u16 n1, .int .u16 n2] ++ ([.int .u8 at'] ++ ([.int .u8 by'] ++ [])))] = [sea ⟨p, sc, a, b⟩, l16 l, .agg [sv pl, iv ax, iv sg, u16 n0, u16 n1, u16 n2, u8 at', u8 by']] := rfl
  rw [evP_RUN, ha, tru_at awake60 ⟨p, sc, a, b⟩ l hl ⟨pl, ax, sg⟩ n0 n1 n2 at' by' b0 b1 b2 hat hby, All_ret]
end Go.Proofs.YtbaedpfgjpkabaaGreatDoor
