/- The law on what is chosen: its stages. -/
import Derived.Test.YtombnimlolbekaaGreatDoorPuCh4
import Derived.Test.YtombnimlolbekaaGreatDoorPuUt
set_option maxHeartbeats 16000000
set_option maxRecDepth 8000
namespace Fw
open Go
attribute [local irreducible] evCode evOps evOpsD evOper evOperD evOp evFn loopN T.All T.bind callPure callOp opsK opsDK restK seqK blockK loopS setK setQ giveK scalK gcK finish finS rfunK yldK yldB loopK

def dropC : Nat → ACode → ACode
 | 0, c => c
 | n + 1, c => dropC n (tlS c)
@[irreducible] def v11D : ACode := dropC 10 c11.body
@[irreducible] def v11C : ACode := dropC 6 c11.body
@[irreducible] def v11B : ACode := dropC 3 c11.body
theorem v11D_eq : v11D = .seq (hdS (dropC 10 c11.body)) (.seq (hdS (dropC 11 c11.body)) (dropC 12 c11.body)) := by unfold v11D; rfl
theorem v11C_eq : v11C = .seq (hdS (dropC 6 c11.body)) (.seq (hdS (dropC 7 c11.body)) (.seq (hdS (dropC 8 c11.body)) (.seq (hdS (dropC 9 c11.body)) v11D))) := by unfold v11C v11D; rfl
theorem v11B_eq : v11B = .seq (hdS (dropC 3 c11.body)) (.seq (hdS (dropC 4 c11.body)) (.seq (hdS (dropC 5 c11.body)) v11C)) := by unfold v11B v11C; rfl
theorem c11_body : c11.body = .seq (hdS (dropC 0 c11.body)) (.seq (hdS (dropC 1 c11.body)) (.seq (hdS (dropC 2 c11.body)) v11B)) := by unfold v11B; rfl

theorem all_sets {l : List PackI} (hp : PksOk l) (hpe : packsE l = 0) (h5 : l.length ≤ 5) (hs : ∀ y ∈ l, y.name.length ≤ 9223372036854775807) {x : Int × Int} (ht : targE x = 0) (n0 n1 : Int) {out : List Int} {co e : Int} (hc : Chosen l x out co e) :
  loopN (loopS (evFn F C0 G0 60) C0 G0 0 true [0, 4, 5, 9, 10, 11, 87, 88] c11L2) loopFuel ⟨D2 l out co e 0, cS x n0 n1⟩ = .ret (.exit 2, ⟨D2 l out co e (2 ^ l.length) ++ [(89, .p (.bool false))], cS x n0 n1⟩) := by
 have hpow : ∀ k, k ≤ 5 → 2 ^ k ≤ 32 := by decide
 have hm := hpow _ h5
 refine loop_run' (fun b => ⟨D2 l out co e b, cS x n0 n1⟩) (2 ^ l.length) (by simp) rfl (fun b hb => sets_round hp hpe h5 hs ht n0 n1 hc b hb (by omega)) ?_ (by simp only [loopFuel]; omega)
 simp only [D2]
 generalize 2 ^ l.length = N at *
 simp -implicitDefEqProofs [cS, loopS_eq, c11L2]

theorem tmod_in (n : Int) {m : Int} (h : 0 < m) : -m < n.tmod m ∧ n.tmod m < m := ⟨Int.lt_tmod_of_pos n h, Int.tmod_lt_of_pos n h⟩

theorem rD11 {l : List PackI} (h5 : l.length ≤ 5) (hpe : packsE l = 0) (hs : ∀ y ∈ l, y.name.length ≤ 9223372036854775807) {x : Int × Int} (ht : targE x = 0) {out : List Int} {co e : Int} (hc : Chosen l x out co e) (n0 n1 : Int) (b0 : -32768 ≤ n0 ∧ n0 ≤ 32767) (b1 : -32768 ≤ n1 ∧ n1 ≤ 32767) (tl : Env) (o3 o2 : Obj) :
  (evCode (evFn F C0 G0 60) C0 G0 0 v11D ⟨(0, psl l) :: (4, .ptr 0 0 0) :: (5, .ptr 1 0 0) :: (10, iv co) :: (11, iv e) :: tl, (3, o3) :: (2, o2) :: cS x n0 n1⟩).bind (finish [.tmp 6]) = .ret (.p (.bool true)) := by
 have ka := awake12
 have t1 := tmod_in n0 (show (0 : Int) < 1001 by omega)
 have t2 := tmod_in n1 (show (0 : Int) < 1001 by omega)
 have t3 := tmod_in n0 (show (0 : Int) < 7 by omega)
 have kp := price_loop h5 hpe hs ht hc 0 (n0.tmod 1001) (n1.tmod 1001) (n0.tmod 7) (by omega) (by omega) (by omega) (by omega) ((3, o3) :: (2, o2) :: cS x n0 n1) rfl
 have w0 := wrap64 (n := n0) (by omega) (by omega)
 have w1 := wrap64 (n := n1) (by omega) (by omega)
 have w2 := wrap64 (n := n0.tmod 1001) (by omega) (by omega)
 have w3 := wrap64 (n := n1.tmod 1001) (by omega) (by omega)
 have w4 := wrap64 (n := n0.tmod 7) (by omega) (by omega)
 have z00 : ((0 : Nat) : Int) = 0 := rfl
 simp only [D3, cS, z00] at kp
 simp only [cS]
 rw [v11D_eq]
 simp -implicitDefEqProofs [hdS, dropC, tlS, c11, w0, w1]
 rw [kp]
 simp -implicitDefEqProofs [ka]
end Fw
