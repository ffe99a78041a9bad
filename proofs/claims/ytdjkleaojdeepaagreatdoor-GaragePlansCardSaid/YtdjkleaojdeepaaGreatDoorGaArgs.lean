/- Arguments: lists of integers and of intervals. -/
import Derived.Test.YtdjkleaojdeepaaGreatDoorGaH7
import Derived.Test.YtdjkleaojdeepaaGreatDoorFwC
namespace Fw
open Go

def in64 (n : Int) : Prop := -9223372036854775808 ≤ n ∧ n ≤ 9223372036854775807

theorem HasArgs1 {A : Ty} {pss : List (List PVal)} (h : HasArgs [A] pss) : ∃ p, pss = [p] ∧ HasTy A p := by
  match pss, h with
  | [p], ⟨h1, _, _⟩ => exact ⟨p, rfl, h1⟩
abbrev bandTy : Ty := .st [.int .i64, .int .i64]
abbrev actTy : Ty := .st [.int .i64, .str, .int .i64, .arr 3 (.int .i64)]
abbrev hallTy : Ty := .st [.int .i64, .int .i64, .arr 3 (.sl bandTy)]
end Fw
