import Derived.Test.YtbaedpfgjpkabaaGreatDoorChRun
set_option maxHeartbeats 8000000
namespace Fw
open Go
attribute [local irreducible] evCode evOps evOpsD evOper evOperD evOp evFn loopN T.All T.bind callPure callOp opsK opsDK restK seqK blockK loopS setK setQ giveK scalK gcK finish finS rfunK yldK yldB loopK
section
variable {C : Nat → List AVal → Option (T AVal)} {G : Nat → Option (List PVal)} {d : Nat}


theorem run_sum (D : Int) (xs : List Int) (at' v : Nat) (outs : List PVal) (ha1 : at' < xs.length) (hxl : xs.length < 1000000) (es : List (Int × Int)) (hel : es.length < 1000000) (hes : ∀ e ∈ es, -1000000 ≤ e.1 ∧ e.1 ≤ 1000000) :
    (evCode (evFn F C G (d + 2)) C G 0 (.rfun (.t 26) [27, 28] c123A0 c123B0) ⟨runE (.map (kA es) (kB es)) D xs at' v, [(2, .arr [.int .i64 0] 0 1), (1, .arr outs v 1), (0, .box [.p (.sl (pI xs) xs.length)])]⟩).All
      (fun r => r = (.normal, ⟨runE (.map (kA es) (kB es)) D xs at' v, [(2, .arr [.int .i64 (IntKind.i64.wrap (wsum xs at' es))] 0 1), (1, .arr outs v 1), (0, .box [.p (.sl (pI xs) xs.length)])]⟩)) := by
  rw [ev_rfun]
  have hc : callee (evOpd G (runE (.map (kA es) (kB es)) D xs at' v)) (.val (.t 26)) = some (.fn 181, [], [.p (.pp [.map (kA es) (kB es)]), .p (.pp [.int .i64 xs.length]), .p (.pp [.int .i64 at'])]) := rfl
  simp only [hc]
  rw [evFn_fn fe181]
  have hst : (nextId [(2, Obj.arr [.int .i64 0] 0 1), (1, .arr outs v 1), (0, .box [.p (.sl (pI xs) xs.length)])]) = 3 := rfl
  simp [nextId, c181]
  rw [T.All_bind, T.All_bind, T.All_bind]
  refine T.All_mono (run_loop (.map (kA es) (kB es)) D xs at' v outs ha1 hxl es.length es rfl hes none 0 loopFuel _ (by simp [IntKind.wrap_i64]) (by simp only [loopFuel]; omega) rfl) (fun r hr => ?_)
  obtain ⟨cur', acc', h1, rfl⟩ := hr
  rw [blockK_exit, if_pos rfl, All_ret, finS_normal]
  simp [runSt]
  rw [rfunK_none rfl (by decide)]
  rw [Int.zero_add] at h1
  simp [runR, ← h1]
  trace_state
end
end Fw
