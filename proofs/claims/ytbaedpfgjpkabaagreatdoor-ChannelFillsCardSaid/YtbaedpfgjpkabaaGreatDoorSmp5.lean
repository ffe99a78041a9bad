/- Samples of integers; samples by contract. -/
import Derived.Test.YtbaedpfgjpkabaaGreatDoorSmp4
set_option maxHeartbeats 8000000
namespace Fw
open Go Ieee
attribute [local irreducible] evCode evOps evOpsD evOper evOperD evOp evFn loopN T.All T.bind callPure callOp opsK opsDK restK seqK blockK loopS setK setQ giveK scalK gcK finish finS rfunK yldK yldB loopK

/-- the sample of an integer -/
def smpF (n : Int) : Nat := (sampleO n).getD 0
/-! contracts -/
def smpC1 : Con := fun as => match as with
  | [.p (.flt .f32 b)] => some (.ret (.p (.int .i64 (smpE b))))
  | _ => none
def smpC2 : Con := fun as => match as with
  | [.p (.flt .f32 b), .p (.int .i64 n)] => if n = 16384 then some (.ret (.p (.int .i64 (smpE b)))) else none
  | _ => none
section
variable {C : Nat → List AVal → Option (T AVal)} {G : Nat → Option (List PVal)} {d : Nat}
theorem smpC1_ok (hC : ∀ f ∈ [201, 213, 224, 211, 199, 212, 222, 223, 233], ∀ as, C f as = none) (hL : LibOk C) {as : List AVal} {t : T AVal} (h : smpC1 as = some t) (K : AVal → Prop) (hK : t.All K) : (callPure (evFn F C G (d + 4)) C (.fn 201) as).All K := by
  unfold smpC1 at h
  split at h
  · cases h
    rw [All_ret] at hK
    exact sample201 hC hL _ K hK
  · cases h
theorem smpC2_ok (hC : ∀ as, C 202 as = none) {as : List AVal} {t : T AVal} (h : smpC2 as = some t) (K : AVal → Prop) (hK : t.All K) : (callPure (evFn F C G (d + 1)) C (.fn 202) as).All K := by
  unfold smpC2 at h
  split at h
  · split at h
    · rename_i e
      cases h
      subst e
      rw [All_ret] at hK
      exact part202 hC _ K hK
    · cases h
  · cases h
end
end Fw
