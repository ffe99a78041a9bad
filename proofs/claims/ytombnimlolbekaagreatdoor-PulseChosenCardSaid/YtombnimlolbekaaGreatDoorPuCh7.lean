/- The law on what is chosen: what it returns at any input. -/
import Derived.Test.YtombnimlolbekaaGreatDoorPuCh6
set_option maxHeartbeats 16000000
set_option maxRecDepth 8000
namespace Fw
open Go
attribute [local irreducible] evCode evOps evOpsD evOper evOperD evOp evFn loopN T.All T.bind callPure callOp opsK opsDK restK seqK blockK loopS setK setQ giveK scalK gcK finish finS rfunK yldK yldB loopK

theorem rB11 {l : List PackI} (h5 : l.length ≤ 5) (hpe : packsE l = 0) (hnm : ∀ y ∈ l, y.name ≠ moreN) (hs : ∀ y ∈ l, y.name.length ≤ 9223372036854775807) {x : Int × Int} (ht : targE x = 0) (n0 n1 : Int) (b0 : -32768 ≤ n0 ∧ n0 ≤ 32767) (b1 : -32768 ≤ n1 ∧ n1 ≤ 32767) (tl : Env) :
  (evCode (evFn F C0 G0 60) C0 G0 0 v11B ⟨(0, psl l) :: (4, .ptr 0 0 0) :: (5, .ptr 1 0 0) :: tl, cS x n0 n1⟩).bind (finish [.tmp 6]) = .ret (.p (.bool true)) := by
 have hc := chosen_of hpe ht
 have kC := fun tl => rC11 h5 hpe hnm hs ht n0 n1 b0 b1 tl
 have k77 := bags77 (n := 60) (by omega) l (by omega)
 obtain ⟨w, k78, hw⟩ := cheap78 (n := 60) (by omega) l x hs
 have hdw : disown w = .p (.sl (pI (chOut l x)) (chOut l x).length) := by rcases hw with rfl | rfl <;> rfl
 have kS := all_sets (packs_of hpe) hpe h5 hs ht n0 n1 hc
 have hsh := shl_pow (k := l.length) (by omega)
 have hfin : (chE l x = 0 ∧ setEr l.length (chOut l x) = 0 ∧ (chOut l x).length ≤ l.length) ∨ chE l x = 18 := by
  cases hb : bestF l x (2 ^ l.length) with
  | none => exact .inr (cheap_none hpe ht hb).1
  | some s =>
   obtain ⟨a1, _, a3⟩ := cheap_some hpe ht hb
   obtain ⟨_, b, _, hsb⟩ := (best_facts l x (2 ^ l.length)).1 s hb
   exact .inl ⟨a1, by rw [a3, hsb]; exact sel_ok b l.length, by rw [a3]; exact (kept_in l x _ s hb).2⟩
 have z00 : ((0 : Nat) : Int) = 0 := rfl
 obtain ⟨x1, x2⟩ := x
 simp only [D2, cS, z00] at kS kC ⊢
 rw [v11B_eq]
 generalize 2 ^ l.length = N at *
 rcases hfin with ⟨e1, e2, e3⟩ | e1
 ·have k83 := set83 (n := 60) (by omega) l (chOut l (x1, x2)) (by omega)
  rw [e2] at k83
  rw [e1] at k78 kS kC
  simp -implicitDefEqProofs [hdS, dropC, tlS, c11, k77, k78, hdw, k83, hsh]
  rw [kS]
  simp -implicitDefEqProofs [kC]
 ·rw [e1] at k78 kS kC
  simp -implicitDefEqProofs [hdS, dropC, tlS, c11, k77, k78, hdw, hsh]
  rw [kS]
  simp -implicitDefEqProofs [kC]

theorem cho_at (l : List PackI) (x : Int × Int) (n0 n1 : Int) (hl : l.length ≤ 9223372036854775807) (hs : ∀ y ∈ l, y.name.length ≤ 9223372036854775807) (b0 : -32768 ≤ n0 ∧ n0 ≤ 32767) (b1 : -32768 ≤ n1 ∧ n1 ≤ 32767) :
  RUN 61 11 [psl l, .agg [iv x.1, iv x.2], .agg [.p (.int .i16 n0), .p (.int .i16 n1)]] = .ret (.p (.bool true)) := by
 have ka := awake12
 rw [RUN, call_eq (d := 60) fe11 _ rfl, c11_body]
 have k75 := short75 (n := 60) (by omega) l hl
 have k80 := packs80 (n := 60) (by omega) l
 have k81 := target81 (n := 60) (by omega) x
 have kn := name_loop (l := l)
 have kB := fun h5 hpe hnm ht tl => rB11 (l := l) h5 hpe hnm hs (x := x) ht n0 n1 b0 b1 tl
 obtain ⟨x1, x2⟩ := x
 simp only at k81
 cases hS : shortPB l with
 | false =>
  rw [hS] at k75
  simp -implicitDefEqProofs [hdS, dropC, tlS, c11, k75, ka]
 | true =>
  rw [hS] at k75
  by_cases h5 : (5 : Int) < l.length
  ·simp -implicitDefEqProofs [hdS, dropC, tlS, c11, k75, h5, ka]
  ·by_cases hpe : packsE l = 0
   ·rw [hpe] at k80
    by_cases ht : targE (x1, x2) = 0
    ·rw [ht] at k81
     obtain ⟨s, kn⟩ := kn (by omega) (x1, x2) n0 n1
     have z00 : ((0 : Nat) : Int) = 0 := rfl
     simp only [D0, cS, z00] at kn
     cases hn : noM l with
     | false =>
      rw [hn] at kn
      simp only [Bool.false_eq_true, if_false] at kn
      simp -implicitDefEqProofs [hdS, dropC, tlS, c11, k75, h5, k80, k81]
      rw [kn]
      simp -implicitDefEqProofs
     | true =>
      rw [hn] at kn
      simp only [if_true] at kn
      have hnm : ∀ y ∈ l, y.name ≠ moreN := by
       simpa only [noM, List.all_eq_true, bne_iff_ne, ne_eq] using hn
      have kB := kB (by omega) hpe hnm ht
      simp only [cS] at kB
      simp -implicitDefEqProofs [hdS, dropC, tlS, c11, k75, h5, k80, k81]
      rw [kn]
      simp -implicitDefEqProofs [kB]
    ·have hb : (targE (x1, x2) != 0) = true := by simpa using ht
     simp -implicitDefEqProofs [hdS, dropC, tlS, c11, k75, h5, k80, k81, hb, ka]
   ·have hb : (packsE l != 0) = true := by simpa using hpe
    simp -implicitDefEqProofs [hdS, dropC, tlS, c11, k75, h5, k80, hb, ka]
end Fw
