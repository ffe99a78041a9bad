/- Both parsers say the same. -/
import Derived.Test.YtfkacogfieiccaaGreatDoorBaS9
set_option maxHeartbeats 16000000
namespace Fw
open Go
attribute [local irreducible] evCode evOps evOpsD evOper evOperD evOp evFn loopN T.All T.bind callPure callOp opsK opsDK restK seqK blockK loopS setK setQ giveK scalK gcK finish finS rfunK yldK yldB loopK

theorem parse86 {n : Nat} (hn : 6 ≤ n) (s : List UInt8) : RUN n 86 [sv s] = .ret (.tup [twa (parseB s).1, iv (parseB s).2.1, iv (parseB s).2.2]) := by
  obtain ⟨d, rfl⟩ : ∃ d, n = d + 6 := ⟨n - 6, by omega⟩
  rw [RUN, call_eq fe86 _ rfl]
  unfold parseB
  by_cases h4 : (4096 : Int) < s.length
  · have h4n : 4096 < s.length := by omega
    rw [if_pos h4n]
    simp -implicitDefEqProofs [c86, h4, zeroT]
  · have h4n : ¬ 4096 < s.length := by omega
    rw [if_neg h4n]
    have hsp : RUN (d + 5) 89 [sv s, .p (.int .u8 10)] = _ := splitR89 (n := d + 5) (by omega) s 10 (by omega)
    have hln := splitS_length 10 s
    have hcl : s.count 10 ≤ s.length := List.count_le_length
    have hsm := splitS_small 10 s
    have key := parse_loop (d := d + 4) (splitS 10 s) (by omega) (fun w h => by have := hsm w h; omega) (splitS 10 s) [] [] ⟨envR (splitS 10 s) (0 : Nat), stR []⟩ loopFuel rfl rfl (splitS_ne _ _) (fun i hi => by simp at hi) (by simp [loopFuel]; omega) rfl
    have hrok : RowsOk (goB (splitS 10 s) []).2 := goB_ok _ _ (fun i hi => by simp at hi)
    generalize splitS 10 s = ps at *
    generalize goB ps [] = G at *
    obtain ⟨g1, g2⟩ := G
    simp only at key hrok
    have hs0 : stR [] = [(1, .box [.p .nils, iv 0, iv 0, iv 0, iv 0, iv 0]), (0, .box [.p .nils, iv 0, iv 0, iv 0, iv 0, iv 0])] := rfl
    have u2 := wrap64 (n := (ps.length : Int) - 1) (by omega) (by omega)
    have htb : tblW = .p (.sl [.str [119, 97, 108, 108], .str [102, 114, 105, 99, 116, 105, 111, 110], .str [98, 114, 97, 107, 101]] 3) := rfl
    unfold parseG
    simp only [hs0, envR, htb, stp, Int.natCast_zero] at key
    cases g1 with
    | false =>
      simp only [Bool.false_eq_true, if_false] at key ⊢
      obtain ⟨S, k1, k2⟩ := key
      simp -implicitDefEqProofs [c86, h4, hsp]
      rw [k1]
      simp -implicitDefEqProofs [k2, zeroT]
    | true =>
      simp only [if_true] at key ⊢
      obtain ⟨k1, k2⟩ := key
      have hgl : (ps.length : Int) - 1 = g2.length := by omega
      rw [hgl] at u2
      by_cases hz : g2.length < 3
      · have hz' : (g2.length : Int) < 3 := by omega
        rw [if_pos hz]
        simp only [stR, if_pos (show g2.length ≤ 3 by omega)] at k1
        generalize towUp g2 = t at *
        simp -implicitDefEqProofs [c86, h4, hsp]
        rw [k1]
        simp -implicitDefEqProofs [hgl, u2, hz', zeroT]
      · have hz' : ¬ (g2.length : Int) < 3 := by omega
        rw [if_neg hz]
        obtain ⟨M, hM⟩ : ∃ M, M = g2.length := ⟨_, rfl⟩
        rw [← hM] at hgl u2 hz'
        obtain ⟨a, b, c, e, f, ys, rfl⟩ := rows_shape hrok (by omega)
        rw [towUp_shape]
        have h40 := tow40 (n := d + 5) (by omega) ⟨ys, b, c, e, f, a⟩ (by simp at k2; simp; omega)
        generalize hE : towE ⟨ys, b, c, e, f, a⟩ = E at *
        cases ys with
        | nil =>
          rw [stR_few] at k1
          have h40 : callPure (evFn F C0 G0 (d + 5)) C0 (.fn 40) [.agg [.p (.sl [] 0), .p (.int .i64 b), .p (.int .i64 c), .p (.int .i64 e), .p (.int .i64 f), .p (.int .i64 a)]] = .ret (iv E) := h40
          simp -implicitDefEqProofs [c86, h4, hsp]
          rw [k1]
          by_cases hz0 : E = 0
          · subst hz0
            rw [if_pos rfl]
            simp -implicitDefEqProofs [hgl, u2, hz', h40]
          · rw [if_neg hz0]
            simp -implicitDefEqProofs [hgl, u2, hz', zeroT, h40, hz0]
            simp at hM; omega
        | cons y r =>
          rw [stR_more] at k1
          have h40 : callPure (evFn F C0 G0 (d + 5)) C0 (.fn 40) [.agg [.p (.sl (pI (y :: r)) (r.length + 1)), .p (.int .i64 b), .p (.int .i64 c), .p (.int .i64 e), .p (.int .i64 f), .p (.int .i64 a)]] = .ret (iv E) := h40
          have hal : (pI (y :: r)).all scalarP = true := by simp [pI]
          have hpl : (pI (y :: r)).length = r.length + 1 := by simp
          generalize hL : pI (y :: r) = L at *
          simp -implicitDefEqProofs [c86, h4, hsp]
          rw [k1]
          by_cases hz0 : E = 0
          · subst hz0
            rw [if_pos rfl]
            simp -implicitDefEqProofs [hgl, u2, hz', h40, hpl]
            exact hL.symm
          · rw [if_neg hz0]
            simp -implicitDefEqProofs [hgl, u2, hz', zeroT, h40, hpl, hz0]
            simp at hM; omega
end Fw
