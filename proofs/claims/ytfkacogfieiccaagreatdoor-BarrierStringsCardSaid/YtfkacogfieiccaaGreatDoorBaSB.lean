/- The law of a tow's text. -/
import Derived.Test.YtfkacogfieiccaaGreatDoorBaSA
import Derived.Test.YtfkacogfieiccaaGreatDoorBaTab
set_option maxHeartbeats 16000000
namespace Fw
open Go
attribute [local irreducible] evCode evOps evOpsD evOper evOperD evOp evFn loopN T.All T.bind callPure callOp opsK opsDK restK seqK blockK loopS setK setQ giveK scalK gcK finish finS rfunK yldK yldB loopK

theorem same87 {n : Nat} (hn : 2 ≤ n) (t : TowI) (hl : t.pull.length < 1000000) : RUN n 87 [twa t, twa t] = .ret (.p (.bool true)) := by
  obtain ⟨d, rfl⟩ : ∃ d, n = d + 2 := ⟨n - 2, by omega⟩
  rw [RUN, call_eq fe87 _ rfl]
  have h := same49 (n := d + 1) (by omega) t.pull t.pull hl
  obtain ⟨p, b, c, e, f, a⟩ := t
  simp only at h hl
  simp -implicitDefEqProofs [c87, h]
theorem told88 {n : Nat} (hn : 1 ≤ n) (t : TowI) : RUN n 88 [twa t] = .ret (twa t) := by
  obtain ⟨d, rfl⟩ : ∃ d, n = d + 1 := ⟨n - 1, by omega⟩
  rw [RUN, call_eq fe88 _ rfl]
  obtain ⟨p, b, c, e, f, a⟩ := t
  simp -implicitDefEqProofs [c88]

theorem flat_rows {g : List (List Int)} (h : RowsOk g) : (towUp g).pull.length ≤ g.length := by
  rcases rows_any h with rfl | ⟨a, rfl⟩ | ⟨a, b, c, rfl⟩ | ⟨a, b, c, e, f, ys, rfl⟩
  · simp [towUp]
  · simp [towUp]
  · simp [towUp]
  · rw [towUp_shape]; simp; omega
theorem parseB_len (s : List UInt8) : (parseB s).1.pull.length < 1000000 := by
  unfold parseB
  have hz : zeroT.pull.length < 1000000 := by decide
  split
  · exact hz
  · rename_i h4
    have hrok : RowsOk (goB (splitS 10 s) []).2 := goB_ok _ _ (fun i hi => by simp at hi)
    have h := goB_length (splitS 10 s) []
    rw [splitS_length] at h
    have h2 : s.count 10 ≤ s.length := List.count_le_length
    have h3 := flat_rows hrok
    simp only [List.length_nil] at h
    unfold parseG
    split
    · split
      · exact hz
      · split
        · show (towUp (goB (splitS 10 s) []).2).pull.length < 1000000
          omega
        · exact hz
    · exact hz

theorem str_at (t : TowI) (s : List UInt8) : RUN 61 9 [twa t, sv s] = .ret (.p (.bool true)) := by
  rw [RUN, call_eq (d := 60) fe9 _ rfl]
  have ka := awake13
  by_cases h1 : (65 : Int) < t.pull.length
  · simp -implicitDefEqProofs [c9, ka, h1]
  · have k35 := given35 (n := 60) (by omega) t (by omega)
    have k83 := print83 (n := 60) (by omega) t (by omega)
    have k84 := parse84 (n := 60) (by omega) s
    have k86 := parse86 (n := 60) (by omega) s
    have k40 := tow40 (n := 60) (by omega) t (by omega)
    have hpl := parseB_len s
    generalize parseB s = R at *
    obtain ⟨t2, p, q⟩ := R
    simp only at k84 k86 hpl
    have k87 := same87 (n := 60) (by omega) t2 hpl
    have k88 := told88 (n := 60) (by omega) t2
    have k85 : towE t = 0 → RUN 60 85 [twa t] = .ret (sv (towS t)) := fun h => print85 (n := 60) (by omega) (tow_of h)
    generalize hE : towE t = E at *
    generalize towS t = W at *
    obtain ⟨a0, a1, a2, a3, a4, a5⟩ := t
    obtain ⟨b0, b1, b2, b3, b4, b5⟩ := t2
    simp only at h1 k35 k83 k84 k86 k40 k87 k88
    by_cases h2 : (300 : Int) < s.length
    · by_cases h3 : (s.length : Int) = 4097
      · have h3t : ((s.length : Int) = 4097) = True := eq_true h3
        have h3b : ((s.length : Int) == 4097) = true := by simpa using h3
        by_cases z0 : E = 0
        · subst z0
          have k85 := k85 rfl
          rw [if_pos rfl] at k83
          simp -implicitDefEqProofs [c9, ka, h1, h2, h3t, k35, k83, k84, k86, k40, k85, k87, k88, strBin]
        · have z1 : (E == 0) = false := by simpa using z0
          rw [if_neg z0] at k83
          simp -implicitDefEqProofs [c9, ka, h1, h2, h3t, k35, k83, k84, k86, k40, z1, k87, k88, strBin]
      · have h3b : ((s.length : Int) == 4097) = false := by simpa using h3
        simp -implicitDefEqProofs [c9, ka, h1, h2, h3]
    · by_cases z0 : E = 0
      · subst z0
        have k85 := k85 rfl
        rw [if_pos rfl] at k83
        simp -implicitDefEqProofs [c9, ka, h1, h2, k35, k83, k84, k86, k40, k85, k87, k88, strBin]
      · have z1 : (E == 0) = false := by simpa using z0
        rw [if_neg z0] at k83
        simp -implicitDefEqProofs [c9, ka, h1, h2, k35, k83, k84, k86, k40, z1, k87, k88, strBin]
end Fw
