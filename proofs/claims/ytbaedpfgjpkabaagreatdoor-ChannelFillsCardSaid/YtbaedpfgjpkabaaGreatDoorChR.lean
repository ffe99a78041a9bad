/- Lists of rows of cells: what stands at a place, what is written behind. -/
import Derived.Test.YtbaedpfgjpkabaaGreatDoorChK
set_option maxHeartbeats 4000000
namespace Fw
open Go

/-- the cells of a list of rows -/
def rowC {α : Type} (f : α → List PVal) : List α → List PVal
  | [] => []
  | x :: r => f x ++ rowC f r
section
variable {α : Type} {f : α → List PVal} {k : Nat}
@[simp] theorem rowC_nil : rowC f [] = [] := rfl
end
end Fw
