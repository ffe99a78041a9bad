/- The law on what is chosen: a wider target, a pack more. -/
import Derived.Test.YtombnimlolbekaaGreatDoorPuCh5
set_option maxHeartbeats 16000000
set_option maxRecDepth 8000
namespace Fw
open Go
attribute [local irreducible] evCode evOps evOpsD evOper evOperD evOp evFn loopN T.All T.bind callPure callOp opsK opsDK restK seqK blockK loopS setK setQ giveK scalK gcK finish finS rfunK yldK yldB loopK

theorem hidT16c : hidT 16 = [4] := by decide
theorem cP_scal : ∀ l : List PackI, (cP l).all scalarP = true
 | [] => rfl
 | a :: r => by simp only [cP, List.all_cons, cP_scal r]; rfl
theorem chosen_of {l : List PackI} {x : Int × Int} (hp : packsE l = 0) (ht : targE x = 0) : Chosen l x (chOut l x) (chCost l x) (chE l x) :=
 ⟨fun h => cheap_none hp ht h, fun _s h => cheap_some hp ht h⟩

theorem rC11 {l : List PackI} (h5 : l.length ≤ 5) (hpe : packsE l = 0) (hnm : ∀ y ∈ l, y.name ≠ moreN) (hs : ∀ y ∈ l, y.name.length ≤ 9223372036854775807) {x : Int × Int} (ht : targE x = 0) (n0 n1 : Int) (b0 : -32768 ≤ n0 ∧ n0 ≤ 32767) (b1 : -32768 ≤ n1 ∧ n1 ≤ 32767) (tl : Env) :
  (evCode (evFn F C0 G0 60) C0 G0 0 v11C ⟨(0, psl l) :: (4, .ptr 0 0 0) :: (5, .ptr 1 0 0) :: (9, isl (chOut l x)) :: (10, iv (chCost l x)) :: (11, iv (chE l x)) :: tl, cS x n0 n1⟩).bind (finish [.tmp 6]) = .ret (.p (.bool true)) := by
 obtain ⟨x0, x1, x2, x3, x4⟩ := targ_of ht
 have hc := chosen_of hpe ht
 have kD := fun tl o3 o2 => rD11 h5 hpe hs ht hc n0 n1 b0 b1 tl o3 o2
 have k77 := bags77 (n := 60) (by omega) l (by omega)
 have w0 := wrap64 (n := n0) (by omega) (by omega)
 have w1 := wrap64 (n := n1) (by omega) (by omega)
 have m0 : maxInt 0 [iv n0] = some (max 0 n0) := by simp only [maxInt]; congr 1; omega
 have m1 : maxInt 0 [iv n1] = some (max 0 n1) := by simp only [maxInt]; congr 1; omega
 have w2 := wrap64 (n := x.1 - max 0 n0) (by omega) (by omega)
 have w3 := wrap64 (n := x.2 + max 0 n1) (by omega) (by omega)
 have m2 : maxInt 0 [iv (x.1 - max 0 n0)] = some (max 0 (x.1 - max 0 n0)) := by simp only [maxInt]; congr 1; omega
 have m3 := minP2 10000000 (x.2 + max 0 n1)
 obtain ⟨y, hy⟩ : ∃ y : Int × Int, y = (max 0 (x.1 - max 0 n0), min 10000000 (x.2 + max 0 n1)) := ⟨_, rfl⟩
 have hy1 : max 0 (x.1 - max 0 n0) = y.1 := by rw [hy]
 have hy2 : min 10000000 (x.2 + max 0 n1) = y.2 := by rw [hy]
 have hty : targE y = 0 := targ_to (by omega)
 have k73 := to73 (n := 60) (by omega) y.1 y.2
 obtain ⟨wy, k78y, hwy⟩ := cheap78 (n := 60) (by omega) l y hs
 have hpm := packs_more hpe (by omega) hnm
 have hsm : ∀ z ∈ l ++ [moreP], z.name.length ≤ 9223372036854775807 := fun z hz => by
  rcases List.mem_append.1 hz with q | q
  ·exact hs z q
  ·have : z = moreP := by simpa using q
   subst this
   decide
 obtain ⟨wm, k78m, hwm⟩ := cheap78 (n := 60) (by omega) (l ++ [moreP]) x hsm
 have hml : (l ++ [moreP]).length = l.length + 1 := by simp
 have hcm : cP (l ++ [moreP]) = cP l ++ pkc moreP := by rw [cP_append]; rfl
 have hbm := best_more (l := l) (m := moreP) rfl rfl x
 have hcl : (cP l).length = l.length * 4 := by simp
 have hlim : l.length + 1 ≤ lim := by simp only [lim]; omega
 have hmul : (l.length + 1) * 4 = l.length * 4 + 4 := by omega
 have k29 := fun a b ha => same29 (n := 60) (by omega) a b ha
 -- what is known of the three
 have hfin : (chE l x = 0 ∧ chE l y = 0 ∧ ¬ chCost l x < chCost l y ∧ chE (l ++ [moreP]) x = 0 ∧ chCost (l ++ [moreP]) x = chCost l x ∧ chOut (l ++ [moreP]) x = chOut l x ∧ (chOut l x).length ≤ l.length) ∨ (chE l x = 18 ∧ chE (l ++ [moreP]) x = 18) := by
  cases hb : bestF l x (2 ^ l.length) with
  | none =>
   exact .inr ⟨(cheap_none hpe ht hb).1, (cheap_none hpm ht (hbm.trans hb)).1⟩
  | some s =>
   left
   obtain ⟨a1, a2, a3⟩ := cheap_some hpe ht hb
   obtain ⟨s', hb', hle⟩ := best_wide (l := l) (x := x) (y := y) (by omega) (by omega) (2 ^ l.length) hb
   obtain ⟨c1, c2, _⟩ := cheap_some hpe hty hb'
   obtain ⟨d1, d2, d3⟩ := cheap_some hpm ht (hbm.trans hb)
   have hin := kept_in l x _ s hb
   have hcs := cst_more moreP (l := l) (s := s) hin.1
   refine ⟨a1, c1, by omega, d1, by rw [d2, a2, hcs], by rw [d3, a3], by rw [a3]; exact hin.2⟩
 simp only [psl, hml, hcm] at k78m
 have hdy : disown wy = .p (.sl (pI (chOut l y)) (chOut l y).length) := by rcases hwy with rfl | rfl <;> rfl
 have hdm : disown wm = .p (.sl (pI (chOut (l ++ [moreP]) x)) (chOut (l ++ [moreP]) x).length) := by rcases hwm with rfl | rfl <;> rfl
 have hsc : (cP l ++ pkc moreP).all scalarP = true := by
  rw [List.all_append, Bool.and_eq_true]
  exact ⟨cP_scal l, rfl⟩
 have hsl : (cP l ++ pkc moreP).length = (l.length + 1) * 4 := by simp [hcl]; omega
 have k78m : RUN 60 78 [.p (.sl (cP l ++ [.str [109, 111, 114, 101], .int .i64 0, .int .i64 1, .int .i64 0]) (l.length + 1)), .agg [iv x.1, iv x.2]] = .ret (.tup [wm, iv (chCost (l ++ [moreP]) x), iv (chE (l ++ [moreP]) x)]) := k78m
 obtain ⟨x1', x2'⟩ := x
 obtain ⟨y1', y2'⟩ := y
 simp only at *
 rw [v11C_eq]
 simp only [cS]
 simp only [cS] at kD
 rcases hfin with ⟨e1, e2, e3, e4, e5, e6, e7⟩ | ⟨e1, e2⟩
 ·have k29a := k29 (chOut l (x1', x2')) (chOut l (x1', x2')) (by omega)
  rw [e2] at k78y
  rw [e4, e5] at k78m
  rw [e6] at hdm
  rw [e1] at kD ⊢
  simp -implicitDefEqProofs [hdS, dropC, tlS, c11, k77, w0, w1, m0, m1, w2, w3, m2, m3, hy1, hy2, k73, k78y, hdy, hcl, hlim, hidI, hidT16c, hmul, k78m, hdm, e3, k29a]
  simp -implicitDefEqProofs [kD]
 ·rw [e2] at k78m
  rw [e1] at kD ⊢
  simp -implicitDefEqProofs [hdS, dropC, tlS, c11, k77, w0, w1, m0, m1, w2, w3, m2, m3, hy1, hy2, k73, k78y, hdy, hcl, hlim, hidI, hidT16c, hmul, k78m, hdm]
  simp -implicitDefEqProofs [kD]
end Fw
