/- Several texts in one: each is told at its head. -/
import Derived.Test.YtbaedpfgjpkabaaGreatDoorChSt11
import Derived.Test.YtbaedpfgjpkabaaGreatDoorChSt5
import Derived.Test.YtbaedpfgjpkabaaGreatDoorChSt3
section
/- A text of sensors, read by the chapter. -/
set_option maxHeartbeats 8000000
namespace Fw
open Go
attribute [local irreducible] evCode evOps evOpsD evOper evOperD evOp evFn loopN T.All T.bind callPure callOp opsK opsDK restK seqK blockK loopS setK setQ giveK scalK gcK finish finS rfunK yldK yldB loopK

/-- what a text says: the sensors, the line that is wrong, the error -/
def parseL (s : List UInt8) : List SenI × Int × Int :=
  if (goL (splitS 10 s) []).1 = true then
    (if sensE (goL (splitS 10 s) []).2 = 0 then ((goL (splitS 10 s) []).2, 0, 0) else ([], (goL (splitS 10 s) []).2.length, sensE (goL (splitS 10 s) []).2))
  else ([], (goL (splitS 10 s) []).2.length, 25)

theorem parse94 {n : Nat} (hn : 12 ≤ n) (s : List UInt8) : RUN n 94 [sv s] = .ret (if 4096 < s.length then .tup [.p (.sl [] 0), iv 0, iv 26] else .tup [if (parseL s).2.2 = 0 then .own (rowC sc (parseL s).1) (parseL s).1.length 4 else .p (.sl [] 0), iv (parseL s).2.1, iv (parseL s).2.2]) := by
  obtain ⟨d, rfl⟩ : ∃ d, n = d + 12 := ⟨n - 12, by omega⟩
  rw [RUN, call_eq fe94 _ rfl]
  by_cases h4 : (4096 : Int) < s.length
  · have h4n : 4096 < s.length := by omega
    rw [if_pos h4n]
    simp -implicitDefEqProofs [c94, h4]
  · have h4n : ¬ 4096 < s.length := by omega
    rw [if_neg h4n]
    obtain ⟨e, env', r', key, he⟩ := lines_loop (d := d + 2) s.length s [] lE loopFuel (Nat.le_refl _) (by omega) (by simp; omega) (by simp [loopFuel]; omega) rfl
    have f165 : ∀ S : Sto, nextId S = 5 → evFn F C0 G0 (d + 11) (.fn 165) [sv s] S = .ret (.clo 195 [] [.ptr 5 0 0], (5, .arr [.str s] 0 1) :: S) := fun S hS => by
      rw [evFn_fn fe165]
      simp -implicitDefEqProofs [c165, hS, -nextId]
    have hol : (goL (splitS 10 s) []).2.length < 1000000 := by
      have h := goL_length (splitS 10 s) []
      rw [splitS_length] at h
      have h2 : s.count 10 ≤ s.length := List.count_le_length
      simp at h
      omega
    have hpd : parseL s = if (goL (splitS 10 s) []).1 = true then (if sensE (goL (splitS 10 s) []).2 = 0 then ((goL (splitS 10 s) []).2, 0, 0) else ([], ((goL (splitS 10 s) []).2.length : Int), sensE (goL (splitS 10 s) []).2)) else ([], ((goL (splitS 10 s) []).2.length : Int), 25) := rfl
    have hnm : ∀ x ∈ (goL (splitS 10 s) []).2, x.name.length ≤ 9223372036854775807 := goL_names _ _ _ (fun w hw => by have := splitS_small 10 s w hw; omega) (by simp)
    generalize hG : goL (splitS 10 s) [] = G at *
    obtain ⟨g1, g2⟩ := G
    simp only at key hol hpd hnm
    have hr0 : rowC sc [] = [] := rfl
    have h161 := check161 (n := d + 11) (by omega) g2 hol hnm
    have hR := sR_len g2
    simp only [ssl] at h161
    have f195 : evFn F C0 G0 (d + 11) (.fn 195) [.yld 6, .ptr 5 0 0] ((6, pLoop none 0) :: pS0 [] 0 s) = .ret (.tup [], if g1 = true then (6, pLoop none 0) :: pS0 g2 g2.length r' else (6, pLoop (some .ret) 2) :: pS9 g2 g2.length r') := by
      rw [evFn_fn fe195]
      simp only [lE, pS0, List.length_nil, hr0] at key
      simp -implicitDefEqProofs [c195, pS0]
      rw [key]
      rcases he with rfl | rfl <;> simp -implicitDefEqProofs
    have f165 := f165 [(4, .box [.sl 3 0 0 0]), (3, .arr [] 0 4), (2, .arr [.int .i64 0] 0 1), (1, .arr [.int .i64 0] 0 1), (0, .box [.p .nils])] rfl
    let E : Env := [(2, .ptr 0 0 0), (3, .ptr 1 0 0), (4, .ptr 2 0 0), (5, .ptr 4 0 0), (19, .clo 195 [] [.ptr 5 0 0])]
    have hrf : evCode (evFn F C0 G0 (d + 11)) C0 G0 0 (.rfun (.t 19) [20] c94A0 c94B0) ⟨E, pS0 [] 0 s⟩ = .ret (if g1 = true then .normal else .ret, ⟨E, if g1 = true then pS0 g2 g2.length r' else pS9 g2 g2.length r'⟩) := by
      rw [ev_rfun]
      have h1 : callee (evOpd G0 E) (.val (.t 19)) = some (.fn 195, [], [.ptr 5 0 0]) := rfl
      have h2 : nextId (pS0 [] 0 s) = 6 := rfl
      simp only [h1, h2, List.nil_append]
      have h3 : (6, Obj.loop E [20] c94A0 c94B0 none 0) :: pS0 [] 0 s = (6, pLoop none 0) :: pS0 [] 0 s := rfl
      rw [h3]
      have h4 : [AVal.yld 6] ++ [AVal.ptr 5 0 0] = [.yld 6, .ptr 5 0 0] := rfl
      rw [h4, f195, bind_ret]
      cases g1 with
      | true =>
        simp only [if_true]
        rw [rfunK_none (by rfl) (by decide)]
        simp -implicitDefEqProofs [E, pS0]
      | false =>
        simp only [Bool.false_eq_true, if_false]
        rw [rfunK_ret (by rfl) (by decide)]
        simp -implicitDefEqProofs [E, pS9]
    simp only [E, pS0, pS9, hr0] at hrf
    generalize hA : rowC sc g2 = A at *
    simp -implicitDefEqProofs [c94, h4, f165, hrf, -ev_rfun]
    cases g1 with
    | false =>
      simp -implicitDefEqProofs [hpd]
    | true =>
      by_cases hz : sensE g2 = 0
      · simp -implicitDefEqProofs [hpd, h161, hz, hR, hA]
        done
      · simp -implicitDefEqProofs [hpd, h161, hz, hR, hide, hidI, hidT4, stOp, plain]
        done
end Fw
end

section
/- A text of sensors, read by the reference. -/
set_option maxHeartbeats 8000000
namespace Fw
open Go
attribute [local irreducible] evCode evOps evOpsD evOper evOperD evOp evFn loopN T.All T.bind callPure callOp opsK opsDK restK seqK blockK loopS setK setQ giveK scalK gcK finish finS rfunK yldK yldB loopK

def rS (W : List (List UInt8)) (E : Nat) (out : List SenI) (i : Nat) : St := ⟨[(5, .p (.sl (pStr W) W.length)), (6, iv E), (7, .sl 0 out.length 0 out.length), (8, iv i)], [(0, .arr (rowC sc out) out.length 4)]⟩
abbrev rBad (out : List SenI) (i : Nat) : Ex × St := (.ret, ⟨[(2, .p .nils), (3, iv i), (4, iv 25)], [(0, .arr (rowC sc out) out.length 4)]⟩)

end Fw
end

section
/- Both parsers of sensors say the same. -/
set_option maxHeartbeats 8000000
namespace Fw
open Go
attribute [local irreducible] evCode evOps evOpsD evOper evOperD evOp evFn loopN T.All T.bind callPure callOp opsK opsDK restK seqK blockK loopS setK setQ giveK scalK gcK finish finS rfunK yldK yldB loopK

end Fw
end

