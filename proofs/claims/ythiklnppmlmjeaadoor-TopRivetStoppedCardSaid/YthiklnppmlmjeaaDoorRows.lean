/-
  NARROWER THAN 'FOR EVERY INPUT', by the rows' own cells (each row's printed sentence says how): TopRivetWaits: laid · TopRivetStopped: laid · TopRivetNever: laid · TopRivetSoaked: laid.
  DERIVED. THE GIVEN ROWS OF THIS SEAT. 4 by the template 'for every input the law returns true; each argument reads behind the call as it read before'; 0 by the template 'total and deterministic' (their statements: YthiklnppmlmjeaaDoorTotals.lean).
  GIVEN WITH THE SEED: the statements are not yours to turn. If you find one false, say at which input.
  Laid BY PROGRAM, IN A SANDBOX (cutbox-rows.mjs): the forced cells as the released guide's own fill.sh prints them over the translation bb492d043cad49c8… (all of the seat's roots in one cut). By AI agents, Wed Nov 11 2026. No macro, syntax, notation, axiom, sorry.
-/
import Derived.Test.YthiklnppmlmjeaaDoorChecked
import GoSem.Claim
import GoSem.ClaimJoined
import GoSem.ClaimMapViews
import Derived.JoinedTies
import Derived.KernelRfl
namespace Go.Proofs.YthiklnppmlmjeaaDoor
/- THE CELL 'sum', in the pinned program and in every row, IS THE sha256 OF THE DUMP (.gsa) THAT YthiklnppmlmjeaaDoorProg.lean LOADS. Nothing in Lean hashes anything: it is a label: what it is worth is what the hold of that sum in a sandbox is worth. -/
noncomputable def Tryd.pinned : Pinned := { name := "ythiklnppmlmjeaadoor", sum := "bb492d043cad49c81967e175ba7d0dc531f322546bbdf4b2cf81106d8f6de1c7", checked := Tryd.checked }
namespace Rows
def none {H : Type} : Left H := { results := [], args := [] }

/- WHAT THE LISTED PACKAGE-LEVEL VARIABLES READ AS WHEN THE CALL BEGINS. Each datum BY PROGRAM (the guide's laid-datum.mjs) off the statement by which the dump's own 'gosem.cut.vars' lays the variable. In a bare row this is a premise. The card (YthiklnppmlmjeaaDoorCards.lean) ties it to the program's text. -/
def laid_crumple_garage_kinds {H : Type} : DataW H := .iface "func table" (.agg [.agg [.lit (.string [111, 112, 101, 110]), .iface "func" (.lit (.string [99, 114, 117, 109, 112, 108, 101, 47, 103, 97, 114, 97, 103, 101, 46, 100, 111, 111, 114, 115])), .iface "func" (.lit (.string [99, 114, 117, 109, 112, 108, 101, 47, 103, 97, 114, 97, 103, 101, 46, 107, 105, 110, 100, 115, 36, 49])), .iface "func" (.lit (.string [99, 114, 117, 109, 112, 108, 101, 47, 103, 97, 114, 97, 103, 101, 46, 107, 105, 110, 100, 115, 36, 50]))], .agg [.lit (.string [99, 108, 111, 115, 101]), .iface "func" (.lit (.string [99, 114, 117, 109, 112, 108, 101, 47, 103, 97, 114, 97, 103, 101, 46, 100, 111, 111, 114, 115])), .iface "func" (.lit (.string [99, 114, 117, 109, 112, 108, 101, 47, 103, 97, 114, 97, 103, 101, 46, 107, 105, 110, 100, 115, 36, 51])), .iface "func" (.lit (.string [99, 114, 117, 109, 112, 108, 101, 47, 103, 97, 114, 97, 103, 101, 46, 107, 105, 110, 100, 115, 36, 52]))], .agg [.lit (.string [105, 110, 115, 101, 114, 116]), .iface "func" (.lit (.string [99, 114, 117, 109, 112, 108, 101, 47, 103, 97, 114, 97, 103, 101, 46, 107, 101, 121, 115])), .iface "func" (.lit (.string [99, 114, 117, 109, 112, 108, 101, 47, 103, 97, 114, 97, 103, 101, 46, 107, 105, 110, 100, 115, 36, 53])), .iface "func" (.lit (.string [99, 114, 117, 109, 112, 108, 101, 47, 103, 97, 114, 97, 103, 101, 46, 107, 105, 110, 100, 115, 36, 54]))], .agg [.lit (.string [114, 101, 109, 111, 118, 101]), .iface "func" (.lit (.string [99, 114, 117, 109, 112, 108, 101, 47, 103, 97, 114, 97, 103, 101, 46, 107, 101, 121, 115])), .iface "func" (.lit (.string [99, 114, 117, 109, 112, 108, 101, 47, 103, 97, 114, 97, 103, 101, 46, 107, 105, 110, 100, 115, 36, 55])), .iface "func" (.lit (.string [99, 114, 117, 109, 112, 108, 101, 47, 103, 97, 114, 97, 103, 101, 46, 107, 105, 110, 100, 115, 36, 56]))], .agg [.lit (.string [101, 110, 116, 101, 114]), .iface "func" (.lit (.string [99, 114, 117, 109, 112, 108, 101, 47, 103, 97, 114, 97, 103, 101, 46, 100, 111, 111, 114, 115])), .iface "func" (.lit (.string [99, 114, 117, 109, 112, 108, 101, 47, 103, 97, 114, 97, 103, 101, 46, 107, 105, 110, 100, 115, 36, 57])), .iface "func" (.lit (.string [99, 114, 117, 109, 112, 108, 101, 47, 103, 97, 114, 97, 103, 101, 46, 107, 105, 110, 100, 115, 36, 49, 48]))], .agg [.lit (.string [108, 101, 97, 118, 101]), .iface "func" (.lit (.string [99, 114, 117, 109, 112, 108, 101, 47, 103, 97, 114, 97, 103, 101, 46, 100, 111, 111, 114, 115])), .iface "func" (.lit (.string [99, 114, 117, 109, 112, 108, 101, 47, 103, 97, 114, 97, 103, 101, 46, 107, 105, 110, 100, 115, 36, 49, 49])), .iface "func" (.lit (.string [99, 114, 117, 109, 112, 108, 101, 47, 103, 97, 114, 97, 103, 101, 46, 107, 105, 110, 100, 115, 36, 49, 50]))], .agg [.lit (.string [97, 114, 109]), .iface "func" (.lit (.string [99, 114, 117, 109, 112, 108, 101, 47, 103, 97, 114, 97, 103, 101, 46, 110, 111, 116, 104, 105, 110, 103])), .iface "func" (.lit (.string [99, 114, 117, 109, 112, 108, 101, 47, 103, 97, 114, 97, 103, 101, 46, 107, 105, 110, 100, 115, 36, 49, 51])), .iface "func" (.lit (.string [99, 114, 117, 109, 112, 108, 101, 47, 103, 97, 114, 97, 103, 101, 46, 107, 105, 110, 100, 115, 36, 49, 52]))], .agg [.lit (.string [100, 105, 115, 97, 114, 109]), .iface "func" (.lit (.string [99, 114, 117, 109, 112, 108, 101, 47, 103, 97, 114, 97, 103, 101, 46, 110, 111, 116, 104, 105, 110, 103])), .iface "func" (.lit (.string [99, 114, 117, 109, 112, 108, 101, 47, 103, 97, 114, 97, 103, 101, 46, 107, 105, 110, 100, 115, 36, 49, 53])), .iface "func" (.lit (.string [99, 114, 117, 109, 112, 108, 101, 47, 103, 97, 114, 97, 103, 101, 46, 107, 105, 110, 100, 115, 36, 49, 54]))], .agg [.lit (.string [115, 104, 111, 111, 116]), .iface "func" (.lit (.string [99, 114, 117, 109, 112, 108, 101, 47, 103, 97, 114, 97, 103, 101, 46, 110, 111, 116, 104, 105, 110, 103])), .iface "func" (.lit (.string [99, 114, 117, 109, 112, 108, 101, 47, 103, 97, 114, 97, 103, 101, 46, 107, 105, 110, 100, 115, 36, 49, 55])), .iface "func" (.lit (.string [99, 114, 117, 109, 112, 108, 101, 47, 103, 97, 114, 97, 103, 101, 46, 107, 105, 110, 100, 115, 36, 49, 56]))], .agg [.lit (.string [109, 101, 97, 115, 117, 114, 101]), .iface "func" (.lit (.string [99, 114, 117, 109, 112, 108, 101, 47, 103, 97, 114, 97, 103, 101, 46, 110, 111, 116, 104, 105, 110, 103])), .iface "func" (.lit (.string [99, 114, 117, 109, 112, 108, 101, 47, 103, 97, 114, 97, 103, 101, 46, 107, 105, 110, 100, 115, 36, 49, 57])), .iface "func" (.lit (.string [99, 114, 117, 109, 112, 108, 101, 47, 103, 97, 114, 97, 103, 101, 46, 107, 105, 110, 100, 115, 36, 50, 48]))]])
def laid_crumple_garage_all {H : Type} : DataW H := .iface "func table" (.agg [.agg [.lit (.string [116, 105, 99, 107]), .iface "func" (.lit (.string [99, 114, 117, 109, 112, 108, 101, 47, 103, 97, 114, 97, 103, 101, 46, 97, 108, 108, 36, 49]))], .agg [.lit (.string [115, 116, 97, 116, 101]), .iface "func" (.lit (.string [99, 114, 117, 109, 112, 108, 101, 47, 103, 97, 114, 97, 103, 101, 46, 97, 108, 108, 36, 50]))], .agg [.lit (.string [97, 114, 109, 101, 100]), .iface "func" (.lit (.string [99, 114, 117, 109, 112, 108, 101, 47, 103, 97, 114, 97, 103, 101, 46, 97, 108, 108, 36, 51]))], .agg [.lit (.string [100, 111, 111, 114]), .iface "func" (.lit (.string [99, 114, 117, 109, 112, 108, 101, 47, 103, 97, 114, 97, 103, 101, 46, 97, 108, 108, 36, 52]))], .agg [.lit (.string [112, 101, 111, 112, 108, 101]), .iface "func" (.lit (.string [99, 114, 117, 109, 112, 108, 101, 47, 103, 97, 114, 97, 103, 101, 46, 97, 108, 108, 36, 53]))], .agg [.lit (.string [107, 101, 121]), .iface "func" (.lit (.string [99, 114, 117, 109, 112, 108, 101, 47, 103, 97, 114, 97, 103, 101, 46, 97, 108, 108, 36, 54]))], .agg [.lit (.string [119, 97, 105, 116]), .iface "func" (.lit (.string [99, 114, 117, 109, 112, 108, 101, 47, 103, 97, 114, 97, 103, 101, 46, 97, 108, 108, 36, 55]))]])

/-- 'crumpletop.TopRivetWaits': WHATEVER THE INPUT: true; the input reads as it did. -/
def topRivetWaitsSpec : ChangeSpec := { name := "topRivetWaits", fn := fun _ => fun
  | [d1, d2] => { results := [.lit (.bool true)], args := [d1, d2] }
  | _ => none }
def topRivetWaitsRow : OpenClaim := { program := "ythiklnppmlmjeaadoor", sum := "bb492d043cad49c81967e175ba7d0dc531f322546bbdf4b2cf81106d8f6de1c7", func := "crumple/crumpletop.TopRivetWaits", spec := "topRivetWaits", unfollowed := true, recurses := true, named := ["crumple/garage.kinds", "crumple/garage.all"], apart := false, laid := [("crumple/garage.kinds", laid_crumple_garage_kinds), ("crumple/garage.all", laid_crumple_garage_all)] }
def TopRivetWaitsSaid : Prop := topRivetWaitsRow.holds Tryd.pinned (OpenSpec.ofChange topRivetWaitsSpec)

/-- ITS FALSE NEIGHBOUR: 'it returns false'. Refute it at one input. -/
def topRivetWaitsWrong : ChangeSpec := { name := "topRivetWaits", fn := fun _ => fun
  | [d1, d2] => { results := [.lit (.bool false)], args := [d1, d2] }
  | _ => none }
def TopRivetWaitsWrongFalsely : Prop := topRivetWaitsRow.holds Tryd.pinned (OpenSpec.ofChange topRivetWaitsWrong)

/-- 'crumpletop.TopRivetStopped': WHATEVER THE INPUT: true; the input reads as it did. -/
def topRivetStoppedSpec : ChangeSpec := { name := "topRivetStopped", fn := fun _ => fun
  | [d1, d2, d3] => { results := [.lit (.bool true)], args := [d1, d2, d3] }
  | _ => none }
def topRivetStoppedRow : OpenClaim := { program := "ythiklnppmlmjeaadoor", sum := "bb492d043cad49c81967e175ba7d0dc531f322546bbdf4b2cf81106d8f6de1c7", func := "crumple/crumpletop.TopRivetStopped", spec := "topRivetStopped", unfollowed := true, recurses := true, named := ["crumple/garage.kinds", "crumple/garage.all"], apart := false, laid := [("crumple/garage.kinds", laid_crumple_garage_kinds), ("crumple/garage.all", laid_crumple_garage_all)] }
def TopRivetStoppedSaid : Prop := topRivetStoppedRow.holds Tryd.pinned (OpenSpec.ofChange topRivetStoppedSpec)

/-- ITS FALSE NEIGHBOUR: 'it returns false'. Refute it at one input. -/
def topRivetStoppedWrong : ChangeSpec := { name := "topRivetStopped", fn := fun _ => fun
  | [d1, d2, d3] => { results := [.lit (.bool false)], args := [d1, d2, d3] }
  | _ => none }
def TopRivetStoppedWrongFalsely : Prop := topRivetStoppedRow.holds Tryd.pinned (OpenSpec.ofChange topRivetStoppedWrong)

/-- 'crumpletop.TopRivetNever': WHATEVER THE INPUT: true; the input reads as it did. -/
def topRivetNeverSpec : ChangeSpec := { name := "topRivetNever", fn := fun _ => fun
  | [d1, d2, d3] => { results := [.lit (.bool true)], args := [d1, d2, d3] }
  | _ => none }
def topRivetNeverRow : OpenClaim := { program := "ythiklnppmlmjeaadoor", sum := "bb492d043cad49c81967e175ba7d0dc531f322546bbdf4b2cf81106d8f6de1c7", func := "crumple/crumpletop.TopRivetNever", spec := "topRivetNever", unfollowed := true, recurses := true, named := ["crumple/garage.kinds", "crumple/garage.all"], apart := false, laid := [("crumple/garage.kinds", laid_crumple_garage_kinds), ("crumple/garage.all", laid_crumple_garage_all)] }
def TopRivetNeverSaid : Prop := topRivetNeverRow.holds Tryd.pinned (OpenSpec.ofChange topRivetNeverSpec)

/-- ITS FALSE NEIGHBOUR: 'it returns false'. Refute it at one input. -/
def topRivetNeverWrong : ChangeSpec := { name := "topRivetNever", fn := fun _ => fun
  | [d1, d2, d3] => { results := [.lit (.bool false)], args := [d1, d2, d3] }
  | _ => none }
def TopRivetNeverWrongFalsely : Prop := topRivetNeverRow.holds Tryd.pinned (OpenSpec.ofChange topRivetNeverWrong)

/-- 'crumpletop.TopRivetSoaked': WHATEVER THE INPUT: true; the input reads as it did. -/
def topRivetSoakedSpec : ChangeSpec := { name := "topRivetSoaked", fn := fun _ => fun
  | [d1, d2, d3] => { results := [.lit (.bool true)], args := [d1, d2, d3] }
  | _ => none }
def topRivetSoakedRow : OpenClaim := { program := "ythiklnppmlmjeaadoor", sum := "bb492d043cad49c81967e175ba7d0dc531f322546bbdf4b2cf81106d8f6de1c7", func := "crumple/crumpletop.TopRivetSoaked", spec := "topRivetSoaked", unfollowed := true, recurses := true, named := ["crumple/garage.kinds", "crumple/garage.all"], apart := false, laid := [("crumple/garage.kinds", laid_crumple_garage_kinds), ("crumple/garage.all", laid_crumple_garage_all)] }
def TopRivetSoakedSaid : Prop := topRivetSoakedRow.holds Tryd.pinned (OpenSpec.ofChange topRivetSoakedSpec)

/-- ITS FALSE NEIGHBOUR: 'it returns false'. Refute it at one input. -/
def topRivetSoakedWrong : ChangeSpec := { name := "topRivetSoaked", fn := fun _ => fun
  | [d1, d2, d3] => { results := [.lit (.bool false)], args := [d1, d2, d3] }
  | _ => none }
def TopRivetSoakedWrongFalsely : Prop := topRivetSoakedRow.holds Tryd.pinned (OpenSpec.ofChange topRivetSoakedWrong)

/- THE SECOND FORM. 'bulk': how many values and letters a reading holds, each counted each time it is reached (what is shared counts as often as it is met; a slice's spare places count too). A statement '..UptoSaid' is the law's where the arguments, and the package variables that the reading takes, are together of bulk at most 1048576: NARROWER than '..Said'. Prove '..Said' where nothing that the law and all that it calls make is longer than what came in: it says more and counts as full. Else prove '..UptoSaid'. A law counts once. -/
mutual
def uptoBulk {H : Type} : DataW H → Nat
  | .lit (.string bytes) => bytes.length + 1
  | .lit _ => 1
  | .nil => 1
  | .ptr d => uptoBulk d + 1
  | .slice elems spare => uptoBulkAll elems + uptoBulkAll spare + 1
  | .agg parts => uptoBulkAll parts + 1
  | .iface _ d => uptoBulk d + 1
  | .map entries => uptoBulkEntries entries + 1
  | .held _ => 1
def uptoBulkAll {H : Type} : List (DataW H) → Nat
  | [] => 0
  | d :: r => uptoBulk d + uptoBulkAll r
def uptoBulkEntries {H : Type} : List (Lit × DataW H) → Nat
  | [] => 0
  | x :: r => uptoBulkEntry x + uptoBulkEntries r
def uptoBulkEntry {H : Type} : Lit × DataW H → Nat
  | (.string bytes, d) => bytes.length + uptoBulk d + 1
  | (_, d) => uptoBulk d + 1
 end
def uptoSmall : (H : Type) → List (DataW H) → Bool := fun _ ds => decide (uptoBulkAll ds ≤ 1048576)
def OpenSpec.upto (s : _root_.Go.ChangeSpec) : _root_.Go.OpenSpec := { _root_.Go.OpenSpec.ofChange s with cond := some uptoSmall }

/-- 'crumpletop.TopRivetWaits', WHERE WHAT IT READS IS OF BULK AT MOST 1048576: true; the input reads as it did. -/
def topRivetWaitsUptoRow : OpenClaim := { program := "ythiklnppmlmjeaadoor", sum := "bb492d043cad49c81967e175ba7d0dc531f322546bbdf4b2cf81106d8f6de1c7", func := "crumple/crumpletop.TopRivetWaits", spec := "topRivetWaits", unfollowed := true, recurses := true, named := ["crumple/garage.kinds", "crumple/garage.all"], apart := false, laid := [("crumple/garage.kinds", laid_crumple_garage_kinds), ("crumple/garage.all", laid_crumple_garage_all)], narrowed := true }
def TopRivetWaitsUptoSaid : Prop := topRivetWaitsUptoRow.holds Tryd.pinned (OpenSpec.upto topRivetWaitsSpec)

/-- 'crumpletop.TopRivetStopped', WHERE WHAT IT READS IS OF BULK AT MOST 1048576: true; the input reads as it did. -/
def topRivetStoppedUptoRow : OpenClaim := { program := "ythiklnppmlmjeaadoor", sum := "bb492d043cad49c81967e175ba7d0dc531f322546bbdf4b2cf81106d8f6de1c7", func := "crumple/crumpletop.TopRivetStopped", spec := "topRivetStopped", unfollowed := true, recurses := true, named := ["crumple/garage.kinds", "crumple/garage.all"], apart := false, laid := [("crumple/garage.kinds", laid_crumple_garage_kinds), ("crumple/garage.all", laid_crumple_garage_all)], narrowed := true }
def TopRivetStoppedUptoSaid : Prop := topRivetStoppedUptoRow.holds Tryd.pinned (OpenSpec.upto topRivetStoppedSpec)

/-- 'crumpletop.TopRivetNever', WHERE WHAT IT READS IS OF BULK AT MOST 1048576: true; the input reads as it did. -/
def topRivetNeverUptoRow : OpenClaim := { program := "ythiklnppmlmjeaadoor", sum := "bb492d043cad49c81967e175ba7d0dc531f322546bbdf4b2cf81106d8f6de1c7", func := "crumple/crumpletop.TopRivetNever", spec := "topRivetNever", unfollowed := true, recurses := true, named := ["crumple/garage.kinds", "crumple/garage.all"], apart := false, laid := [("crumple/garage.kinds", laid_crumple_garage_kinds), ("crumple/garage.all", laid_crumple_garage_all)], narrowed := true }
def TopRivetNeverUptoSaid : Prop := topRivetNeverUptoRow.holds Tryd.pinned (OpenSpec.upto topRivetNeverSpec)

/-- 'crumpletop.TopRivetSoaked', WHERE WHAT IT READS IS OF BULK AT MOST 1048576: true; the input reads as it did. -/
def topRivetSoakedUptoRow : OpenClaim := { program := "ythiklnppmlmjeaadoor", sum := "bb492d043cad49c81967e175ba7d0dc531f322546bbdf4b2cf81106d8f6de1c7", func := "crumple/crumpletop.TopRivetSoaked", spec := "topRivetSoaked", unfollowed := true, recurses := true, named := ["crumple/garage.kinds", "crumple/garage.all"], apart := false, laid := [("crumple/garage.kinds", laid_crumple_garage_kinds), ("crumple/garage.all", laid_crumple_garage_all)], narrowed := true }
def TopRivetSoakedUptoSaid : Prop := topRivetSoakedUptoRow.holds Tryd.pinned (OpenSpec.upto topRivetSoakedSpec)

end Rows
end Go.Proofs.YthiklnppmlmjeaaDoor
