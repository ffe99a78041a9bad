/- The best plan of no job. -/
import Derived.Test.YtdjkleaojdeepaaGreatDoorGaPlC
set_option maxHeartbeats 16000000
set_option maxRecDepth 8000
namespace Fw
open Go
def pkN : T AVal → Nat
  | .pick n _ => n
  | _ => 0
def pkA : T AVal → Nat → T AVal
  | .pick _ k, i => k i
  | _, _ => .fail
theorem All_pk {t : T AVal} {Q : AVal → Prop} (h : pkN t = 2) (h0 : (pkA t 0).All Q) (h1 : (pkA t 1).All Q) : t.All Q := by
  cases t with
  | ret a => cases h
  | fail => cases h
  | pick n k =>
    have h : n = 2 := h
    subst h
    refine ⟨by omega, fun i hi => ?_⟩
    have : i = 0 ∨ i = 1 := by omega
    rcases this with rfl | rfl
    · exact h0
    · exact h1
theorem p0n : pkN (RUN 60 59 [.p (.sl [] 0)]) = 2 := by kernel_rfl
theorem p0a : pkA (RUN 60 59 [.p (.sl [] 0)]) 0 = .ret (.tup [.p (.sl [] 0), iv 0, iv 0]) := by kernel_rfl
theorem p0b : pkA (RUN 60 59 [.p (.sl [] 0)]) 1 = .ret (.tup [.own [] 0 1, iv 0, iv 0]) := by kernel_rfl
theorem plan59z : (RUN 60 59 [.p (.sl [] 0)]).All (fun v => v = .tup [.p (.sl [] 0), iv 0, iv 0] ∨ v = .tup [.own [] 0 1, iv 0, iv 0]) := All_pk p0n (by rw [p0a]; exact .inl rfl) (by rw [p0b]; exact .inr rfl)
end Fw
