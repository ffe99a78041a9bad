/-
  NARROWER THAN 'FOR EVERY INPUT', by the rows' own cells (each row's printed sentence says how): GarageReasons: laid · GarageDone: laid · GarageMoves: laid · GarageJobs: laid · GaragePlans: laid · GarageStrings: laid · GarageSafe: laid · GarageWaits: laid · GarageBest: laid · GarageBack: laid · GarageRuns: laid · GarageHalls: laid.
  DERIVED. THE GIVEN ROWS OF THIS SEAT. 12 by the template 'for every input the law returns true; each argument reads behind the call as it read before'; 0 by the template 'total and deterministic' (their statements: YtdjkleaojdeepaaGreatDoorTotals.lean).
  GIVEN WITH THE SEED: the statements are not yours to turn. If you find one false, say at which input.
  Laid BY PROGRAM, IN A SANDBOX (cutbox-rows.mjs): the forced cells as the released guide's own fill.sh prints them over the translation 01a27b085fdd03ea… (all of the seat's roots in one cut). By AI agents, Wed Nov 11 2026. No macro, syntax, notation, axiom, sorry.
-/
import Derived.Test.YtdjkleaojdeepaaGreatDoorChecked
import GoSem.PinnedTables
import GoSem.Claim
import GoSem.ClaimJoined
import GoSem.ClaimMapViews
import Derived.JoinedTies
import Derived.KernelRfl
namespace Go.Proofs.YtdjkleaojdeepaaGreatDoor
/- THE CELL 'sum', in the pinned program and in every row, IS THE sha256 OF THE DUMP (.gsa) THAT YtdjkleaojdeepaaGreatDoorProg.lean LOADS. Nothing in Lean hashes anything: it is a label: what it is worth is what the hold of that sum in a sandbox is worth. -/
noncomputable def Tryz.pinned : Pinned := { name := "ytdjkleaojdeepaagreatdoor", sum := "01a27b085fdd03ea397e25761a91e95f842e90ea8e6446568cb89b16205df960", checked := Tryz.checked }
namespace Rows
def none {H : Type} : Left H := { results := [], args := [] }

/- WHAT THE LISTED PACKAGE-LEVEL VARIABLES READ AS WHEN THE CALL BEGINS. Each datum BY PROGRAM (the guide's laid-datum.mjs) off the statement by which the dump's own 'gosem.cut.vars' lays the variable. In a bare row this is a premise. The card (YtdjkleaojdeepaaGreatDoorCards.lean) ties it to the program's text. -/
def laid_math_bits_deBruijn32tab {H : Type} : DataW H := .agg [.lit (.int .u8 0), .lit (.int .u8 1), .lit (.int .u8 28), .lit (.int .u8 2), .lit (.int .u8 29), .lit (.int .u8 14), .lit (.int .u8 24), .lit (.int .u8 3), .lit (.int .u8 30), .lit (.int .u8 22), .lit (.int .u8 20), .lit (.int .u8 15), .lit (.int .u8 25), .lit (.int .u8 17), .lit (.int .u8 4), .lit (.int .u8 8), .lit (.int .u8 31), .lit (.int .u8 27), .lit (.int .u8 13), .lit (.int .u8 23), .lit (.int .u8 21), .lit (.int .u8 19), .lit (.int .u8 16), .lit (.int .u8 7), .lit (.int .u8 26), .lit (.int .u8 12), .lit (.int .u8 18), .lit (.int .u8 6), .lit (.int .u8 11), .lit (.int .u8 5), .lit (.int .u8 10), .lit (.int .u8 9)]
def laid_math_bits_deBruijn64tab {H : Type} : DataW H := .agg [.lit (.int .u8 0), .lit (.int .u8 1), .lit (.int .u8 56), .lit (.int .u8 2), .lit (.int .u8 57), .lit (.int .u8 49), .lit (.int .u8 28), .lit (.int .u8 3), .lit (.int .u8 61), .lit (.int .u8 58), .lit (.int .u8 42), .lit (.int .u8 50), .lit (.int .u8 38), .lit (.int .u8 29), .lit (.int .u8 17), .lit (.int .u8 4), .lit (.int .u8 62), .lit (.int .u8 47), .lit (.int .u8 59), .lit (.int .u8 36), .lit (.int .u8 45), .lit (.int .u8 43), .lit (.int .u8 51), .lit (.int .u8 22), .lit (.int .u8 53), .lit (.int .u8 39), .lit (.int .u8 33), .lit (.int .u8 30), .lit (.int .u8 24), .lit (.int .u8 18), .lit (.int .u8 12), .lit (.int .u8 5), .lit (.int .u8 63), .lit (.int .u8 55), .lit (.int .u8 48), .lit (.int .u8 27), .lit (.int .u8 60), .lit (.int .u8 41), .lit (.int .u8 37), .lit (.int .u8 16), .lit (.int .u8 46), .lit (.int .u8 35), .lit (.int .u8 44), .lit (.int .u8 21), .lit (.int .u8 52), .lit (.int .u8 32), .lit (.int .u8 23), .lit (.int .u8 11), .lit (.int .u8 54), .lit (.int .u8 26), .lit (.int .u8 40), .lit (.int .u8 15), .lit (.int .u8 34), .lit (.int .u8 20), .lit (.int .u8 31), .lit (.int .u8 10), .lit (.int .u8 25), .lit (.int .u8 14), .lit (.int .u8 19), .lit (.int .u8 9), .lit (.int .u8 13), .lit (.int .u8 8), .lit (.int .u8 7), .lit (.int .u8 6)]
def laid_internal_strconv_uint64pow10 {H : Type} : DataW H := .agg [.lit (.int .u64 1), .lit (.int .u64 10), .lit (.int .u64 100), .lit (.int .u64 1000), .lit (.int .u64 10000), .lit (.int .u64 100000), .lit (.int .u64 1000000), .lit (.int .u64 10000000), .lit (.int .u64 100000000), .lit (.int .u64 1000000000), .lit (.int .u64 10000000000), .lit (.int .u64 100000000000), .lit (.int .u64 1000000000000), .lit (.int .u64 10000000000000), .lit (.int .u64 100000000000000), .lit (.int .u64 1000000000000000), .lit (.int .u64 10000000000000000), .lit (.int .u64 100000000000000000), .lit (.int .u64 1000000000000000000), .lit (.int .u64 10000000000000000000)]
def laid_unicode_utf8_acceptRanges {H : Type} : DataW H := .agg [.agg [.lit (.int .u8 128), .lit (.int .u8 191)], .agg [.lit (.int .u8 160), .lit (.int .u8 191)], .agg [.lit (.int .u8 128), .lit (.int .u8 159)], .agg [.lit (.int .u8 144), .lit (.int .u8 191)], .agg [.lit (.int .u8 128), .lit (.int .u8 143)], .agg [.lit (.int .u8 0), .lit (.int .u8 0)], .agg [.lit (.int .u8 0), .lit (.int .u8 0)], .agg [.lit (.int .u8 0), .lit (.int .u8 0)], .agg [.lit (.int .u8 0), .lit (.int .u8 0)], .agg [.lit (.int .u8 0), .lit (.int .u8 0)], .agg [.lit (.int .u8 0), .lit (.int .u8 0)], .agg [.lit (.int .u8 0), .lit (.int .u8 0)], .agg [.lit (.int .u8 0), .lit (.int .u8 0)], .agg [.lit (.int .u8 0), .lit (.int .u8 0)], .agg [.lit (.int .u8 0), .lit (.int .u8 0)], .agg [.lit (.int .u8 0), .lit (.int .u8 0)]]
def laid_crumple_garage_kinds {H : Type} : DataW H := .iface "func table" (.agg [.agg [.lit (.string [111, 112, 101, 110]), .iface "func" (.lit (.string [99, 114, 117, 109, 112, 108, 101, 47, 103, 97, 114, 97, 103, 101, 46, 100, 111, 111, 114, 115])), .iface "func" (.lit (.string [99, 114, 117, 109, 112, 108, 101, 47, 103, 97, 114, 97, 103, 101, 46, 107, 105, 110, 100, 115, 36, 49])), .iface "func" (.lit (.string [99, 114, 117, 109, 112, 108, 101, 47, 103, 97, 114, 97, 103, 101, 46, 107, 105, 110, 100, 115, 36, 50]))], .agg [.lit (.string [99, 108, 111, 115, 101]), .iface "func" (.lit (.string [99, 114, 117, 109, 112, 108, 101, 47, 103, 97, 114, 97, 103, 101, 46, 100, 111, 111, 114, 115])), .iface "func" (.lit (.string [99, 114, 117, 109, 112, 108, 101, 47, 103, 97, 114, 97, 103, 101, 46, 107, 105, 110, 100, 115, 36, 51])), .iface "func" (.lit (.string [99, 114, 117, 109, 112, 108, 101, 47, 103, 97, 114, 97, 103, 101, 46, 107, 105, 110, 100, 115, 36, 52]))], .agg [.lit (.string [105, 110, 115, 101, 114, 116]), .iface "func" (.lit (.string [99, 114, 117, 109, 112, 108, 101, 47, 103, 97, 114, 97, 103, 101, 46, 107, 101, 121, 115])), .iface "func" (.lit (.string [99, 114, 117, 109, 112, 108, 101, 47, 103, 97, 114, 97, 103, 101, 46, 107, 105, 110, 100, 115, 36, 53])), .iface "func" (.lit (.string [99, 114, 117, 109, 112, 108, 101, 47, 103, 97, 114, 97, 103, 101, 46, 107, 105, 110, 100, 115, 36, 54]))], .agg [.lit (.string [114, 101, 109, 111, 118, 101]), .iface "func" (.lit (.string [99, 114, 117, 109, 112, 108, 101, 47, 103, 97, 114, 97, 103, 101, 46, 107, 101, 121, 115])), .iface "func" (.lit (.string [99, 114, 117, 109, 112, 108, 101, 47, 103, 97, 114, 97, 103, 101, 46, 107, 105, 110, 100, 115, 36, 55])), .iface "func" (.lit (.string [99, 114, 117, 109, 112, 108, 101, 47, 103, 97, 114, 97, 103, 101, 46, 107, 105, 110, 100, 115, 36, 56]))], .agg [.lit (.string [101, 110, 116, 101, 114]), .iface "func" (.lit (.string [99, 114, 117, 109, 112, 108, 101, 47, 103, 97, 114, 97, 103, 101, 46, 100, 111, 111, 114, 115])), .iface "func" (.lit (.string [99, 114, 117, 109, 112, 108, 101, 47, 103, 97, 114, 97, 103, 101, 46, 107, 105, 110, 100, 115, 36, 57])), .iface "func" (.lit (.string [99, 114, 117, 109, 112, 108, 101, 47, 103, 97, 114, 97, 103, 101, 46, 107, 105, 110, 100, 115, 36, 49, 48]))], .agg [.lit (.string [108, 101, 97, 118, 101]), .iface "func" (.lit (.string [99, 114, 117, 109, 112, 108, 101, 47, 103, 97, 114, 97, 103, 101, 46, 100, 111, 111, 114, 115])), .iface "func" (.lit (.string [99, 114, 117, 109, 112, 108, 101, 47, 103, 97, 114, 97, 103, 101, 46, 107, 105, 110, 100, 115, 36, 49, 49])), .iface "func" (.lit (.string [99, 114, 117, 109, 112, 108, 101, 47, 103, 97, 114, 97, 103, 101, 46, 107, 105, 110, 100, 115, 36, 49, 50]))], .agg [.lit (.string [97, 114, 109]), .iface "func" (.lit (.string [99, 114, 117, 109, 112, 108, 101, 47, 103, 97, 114, 97, 103, 101, 46, 110, 111, 116, 104, 105, 110, 103])), .iface "func" (.lit (.string [99, 114, 117, 109, 112, 108, 101, 47, 103, 97, 114, 97, 103, 101, 46, 107, 105, 110, 100, 115, 36, 49, 51])), .iface "func" (.lit (.string [99, 114, 117, 109, 112, 108, 101, 47, 103, 97, 114, 97, 103, 101, 46, 107, 105, 110, 100, 115, 36, 49, 52]))], .agg [.lit (.string [100, 105, 115, 97, 114, 109]), .iface "func" (.lit (.string [99, 114, 117, 109, 112, 108, 101, 47, 103, 97, 114, 97, 103, 101, 46, 110, 111, 116, 104, 105, 110, 103])), .iface "func" (.lit (.string [99, 114, 117, 109, 112, 108, 101, 47, 103, 97, 114, 97, 103, 101, 46, 107, 105, 110, 100, 115, 36, 49, 53])), .iface "func" (.lit (.string [99, 114, 117, 109, 112, 108, 101, 47, 103, 97, 114, 97, 103, 101, 46, 107, 105, 110, 100, 115, 36, 49, 54]))], .agg [.lit (.string [115, 104, 111, 111, 116]), .iface "func" (.lit (.string [99, 114, 117, 109, 112, 108, 101, 47, 103, 97, 114, 97, 103, 101, 46, 110, 111, 116, 104, 105, 110, 103])), .iface "func" (.lit (.string [99, 114, 117, 109, 112, 108, 101, 47, 103, 97, 114, 97, 103, 101, 46, 107, 105, 110, 100, 115, 36, 49, 55])), .iface "func" (.lit (.string [99, 114, 117, 109, 112, 108, 101, 47, 103, 97, 114, 97, 103, 101, 46, 107, 105, 110, 100, 115, 36, 49, 56]))], .agg [.lit (.string [109, 101, 97, 115, 117, 114, 101]), .iface "func" (.lit (.string [99, 114, 117, 109, 112, 108, 101, 47, 103, 97, 114, 97, 103, 101, 46, 110, 111, 116, 104, 105, 110, 103])), .iface "func" (.lit (.string [99, 114, 117, 109, 112, 108, 101, 47, 103, 97, 114, 97, 103, 101, 46, 107, 105, 110, 100, 115, 36, 49, 57])), .iface "func" (.lit (.string [99, 114, 117, 109, 112, 108, 101, 47, 103, 97, 114, 97, 103, 101, 46, 107, 105, 110, 100, 115, 36, 50, 48]))]])
def laid_crumple_garage_all {H : Type} : DataW H := .iface "func table" (.agg [.agg [.lit (.string [116, 105, 99, 107]), .iface "func" (.lit (.string [99, 114, 117, 109, 112, 108, 101, 47, 103, 97, 114, 97, 103, 101, 46, 97, 108, 108, 36, 49]))], .agg [.lit (.string [115, 116, 97, 116, 101]), .iface "func" (.lit (.string [99, 114, 117, 109, 112, 108, 101, 47, 103, 97, 114, 97, 103, 101, 46, 97, 108, 108, 36, 50]))], .agg [.lit (.string [97, 114, 109, 101, 100]), .iface "func" (.lit (.string [99, 114, 117, 109, 112, 108, 101, 47, 103, 97, 114, 97, 103, 101, 46, 97, 108, 108, 36, 51]))], .agg [.lit (.string [100, 111, 111, 114]), .iface "func" (.lit (.string [99, 114, 117, 109, 112, 108, 101, 47, 103, 97, 114, 97, 103, 101, 46, 97, 108, 108, 36, 52]))], .agg [.lit (.string [112, 101, 111, 112, 108, 101]), .iface "func" (.lit (.string [99, 114, 117, 109, 112, 108, 101, 47, 103, 97, 114, 97, 103, 101, 46, 97, 108, 108, 36, 53]))], .agg [.lit (.string [107, 101, 121]), .iface "func" (.lit (.string [99, 114, 117, 109, 112, 108, 101, 47, 103, 97, 114, 97, 103, 101, 46, 97, 108, 108, 36, 54]))], .agg [.lit (.string [119, 97, 105, 116]), .iface "func" (.lit (.string [99, 114, 117, 109, 112, 108, 101, 47, 103, 97, 114, 97, 103, 101, 46, 97, 108, 108, 36, 55]))]])
/-- One of Go's own tables, pinned by name: the form's constant. -/
def laid_unicode_utf8_first : DataW Unit := Go.Pinned.utf8First

/-- 'crumplelaw09.GarageReasons': WHATEVER THE INPUT: true; the input reads as it did. -/
def garageReasonsSpec : ChangeSpec := { name := "garageReasons", fn := fun _ => fun
  | [d1, d2, d3] => { results := [.lit (.bool true)], args := [d1, d2, d3] }
  | _ => none }
def garageReasonsRow : OpenClaim := { program := "ytdjkleaojdeepaagreatdoor", sum := "01a27b085fdd03ea397e25761a91e95f842e90ea8e6446568cb89b16205df960", func := "crumple/crumplelaw09.GarageReasons", spec := "garageReasons", inPlace := ["internal/abi.NoEscape", "internal/bytealg.MakeNoZero", "internal/bytealg.IndexByteString", "internal/bytealg.CountString", "internal/bytealg.IndexString"], unfollowed := true, recurses := true, named := ["crumple/garage.kinds", "crumple/garage.all", "internal/strconv.uint64pow10", "math/bits.deBruijn32tab", "math/bits.deBruijn64tab", "unicode/utf8.first", "unicode/utf8.acceptRanges", "internal/bytealg.MaxLen"], apart := false, laid := [("math/bits.deBruijn32tab", laid_math_bits_deBruijn32tab), ("math/bits.deBruijn64tab", laid_math_bits_deBruijn64tab), ("internal/strconv.uint64pow10", laid_internal_strconv_uint64pow10), ("unicode/utf8.acceptRanges", laid_unicode_utf8_acceptRanges), ("crumple/garage.kinds", laid_crumple_garage_kinds), ("crumple/garage.all", laid_crumple_garage_all), ("unicode/utf8.first", laid_unicode_utf8_first)] }
def GarageReasonsSaid : Prop := garageReasonsRow.holds Tryz.pinned (OpenSpec.ofChange garageReasonsSpec)

/-- ITS FALSE NEIGHBOUR: 'it returns false'. Refute it at one input. -/
def garageReasonsWrong : ChangeSpec := { name := "garageReasons", fn := fun _ => fun
  | [d1, d2, d3] => { results := [.lit (.bool false)], args := [d1, d2, d3] }
  | _ => none }
def GarageReasonsWrongFalsely : Prop := garageReasonsRow.holds Tryz.pinned (OpenSpec.ofChange garageReasonsWrong)

/-- 'crumplelaw09.GarageDone': WHATEVER THE INPUT: true; the input reads as it did. -/
def garageDoneSpec : ChangeSpec := { name := "garageDone", fn := fun _ => fun
  | [d1, d2] => { results := [.lit (.bool true)], args := [d1, d2] }
  | _ => none }
def garageDoneRow : OpenClaim := { program := "ytdjkleaojdeepaagreatdoor", sum := "01a27b085fdd03ea397e25761a91e95f842e90ea8e6446568cb89b16205df960", func := "crumple/crumplelaw09.GarageDone", spec := "garageDone", inPlace := ["internal/abi.NoEscape", "internal/bytealg.MakeNoZero", "internal/bytealg.IndexByteString", "internal/bytealg.CountString", "internal/bytealg.IndexString"], unfollowed := true, recurses := true, named := ["crumple/garage.kinds", "crumple/garage.all", "internal/strconv.uint64pow10", "math/bits.deBruijn32tab", "math/bits.deBruijn64tab", "unicode/utf8.first", "unicode/utf8.acceptRanges", "internal/bytealg.MaxLen"], apart := false, laid := [("math/bits.deBruijn32tab", laid_math_bits_deBruijn32tab), ("math/bits.deBruijn64tab", laid_math_bits_deBruijn64tab), ("internal/strconv.uint64pow10", laid_internal_strconv_uint64pow10), ("unicode/utf8.acceptRanges", laid_unicode_utf8_acceptRanges), ("crumple/garage.kinds", laid_crumple_garage_kinds), ("crumple/garage.all", laid_crumple_garage_all), ("unicode/utf8.first", laid_unicode_utf8_first)] }
def GarageDoneSaid : Prop := garageDoneRow.holds Tryz.pinned (OpenSpec.ofChange garageDoneSpec)

/-- ITS FALSE NEIGHBOUR: 'it returns false'. Refute it at one input. -/
def garageDoneWrong : ChangeSpec := { name := "garageDone", fn := fun _ => fun
  | [d1, d2] => { results := [.lit (.bool false)], args := [d1, d2] }
  | _ => none }
def GarageDoneWrongFalsely : Prop := garageDoneRow.holds Tryz.pinned (OpenSpec.ofChange garageDoneWrong)

/-- 'crumplelaw09.GarageMoves': WHATEVER THE INPUT: true; the input reads as it did. -/
def garageMovesSpec : ChangeSpec := { name := "garageMoves", fn := fun _ => fun
  | [d1, d2] => { results := [.lit (.bool true)], args := [d1, d2] }
  | _ => none }
def garageMovesRow : OpenClaim := { program := "ytdjkleaojdeepaagreatdoor", sum := "01a27b085fdd03ea397e25761a91e95f842e90ea8e6446568cb89b16205df960", func := "crumple/crumplelaw09.GarageMoves", spec := "garageMoves", inPlace := ["internal/abi.NoEscape", "internal/bytealg.MakeNoZero", "internal/bytealg.IndexByteString", "internal/bytealg.CountString", "internal/bytealg.IndexString"], unfollowed := true, recurses := true, named := ["crumple/garage.kinds", "crumple/garage.all", "internal/strconv.uint64pow10", "math/bits.deBruijn32tab", "math/bits.deBruijn64tab", "unicode/utf8.first", "unicode/utf8.acceptRanges", "internal/bytealg.MaxLen"], apart := false, laid := [("math/bits.deBruijn32tab", laid_math_bits_deBruijn32tab), ("math/bits.deBruijn64tab", laid_math_bits_deBruijn64tab), ("internal/strconv.uint64pow10", laid_internal_strconv_uint64pow10), ("unicode/utf8.acceptRanges", laid_unicode_utf8_acceptRanges), ("crumple/garage.kinds", laid_crumple_garage_kinds), ("crumple/garage.all", laid_crumple_garage_all), ("unicode/utf8.first", laid_unicode_utf8_first)] }
def GarageMovesSaid : Prop := garageMovesRow.holds Tryz.pinned (OpenSpec.ofChange garageMovesSpec)

/-- ITS FALSE NEIGHBOUR: 'it returns false'. Refute it at one input. -/
def garageMovesWrong : ChangeSpec := { name := "garageMoves", fn := fun _ => fun
  | [d1, d2] => { results := [.lit (.bool false)], args := [d1, d2] }
  | _ => none }
def GarageMovesWrongFalsely : Prop := garageMovesRow.holds Tryz.pinned (OpenSpec.ofChange garageMovesWrong)

/-- 'crumplelaw09.GarageJobs': WHATEVER THE INPUT: true; the input reads as it did. -/
def garageJobsSpec : ChangeSpec := { name := "garageJobs", fn := fun _ => fun
  | [d1, d2, d3] => { results := [.lit (.bool true)], args := [d1, d2, d3] }
  | _ => none }
def garageJobsRow : OpenClaim := { program := "ytdjkleaojdeepaagreatdoor", sum := "01a27b085fdd03ea397e25761a91e95f842e90ea8e6446568cb89b16205df960", func := "crumple/crumplelaw09.GarageJobs", spec := "garageJobs", inPlace := ["internal/abi.NoEscape", "internal/bytealg.MakeNoZero", "internal/bytealg.IndexByteString", "internal/bytealg.CountString", "internal/bytealg.IndexString"], unfollowed := true, recurses := true, named := ["crumple/garage.kinds", "crumple/garage.all", "internal/strconv.uint64pow10", "math/bits.deBruijn32tab", "math/bits.deBruijn64tab", "unicode/utf8.first", "unicode/utf8.acceptRanges", "internal/bytealg.MaxLen"], apart := false, laid := [("math/bits.deBruijn32tab", laid_math_bits_deBruijn32tab), ("math/bits.deBruijn64tab", laid_math_bits_deBruijn64tab), ("internal/strconv.uint64pow10", laid_internal_strconv_uint64pow10), ("unicode/utf8.acceptRanges", laid_unicode_utf8_acceptRanges), ("crumple/garage.kinds", laid_crumple_garage_kinds), ("crumple/garage.all", laid_crumple_garage_all), ("unicode/utf8.first", laid_unicode_utf8_first)] }
def GarageJobsSaid : Prop := garageJobsRow.holds Tryz.pinned (OpenSpec.ofChange garageJobsSpec)

/-- ITS FALSE NEIGHBOUR: 'it returns false'. Refute it at one input. -/
def garageJobsWrong : ChangeSpec := { name := "garageJobs", fn := fun _ => fun
  | [d1, d2, d3] => { results := [.lit (.bool false)], args := [d1, d2, d3] }
  | _ => none }
def GarageJobsWrongFalsely : Prop := garageJobsRow.holds Tryz.pinned (OpenSpec.ofChange garageJobsWrong)

/-- 'crumplelaw09.GaragePlans': WHATEVER THE INPUT: true; the input reads as it did. -/
def garagePlansSpec : ChangeSpec := { name := "garagePlans", fn := fun _ => fun
  | [d] => { results := [.lit (.bool true)], args := [d] }
  | _ => none }
def garagePlansRow : OpenClaim := { program := "ytdjkleaojdeepaagreatdoor", sum := "01a27b085fdd03ea397e25761a91e95f842e90ea8e6446568cb89b16205df960", func := "crumple/crumplelaw09.GaragePlans", spec := "garagePlans", inPlace := ["internal/abi.NoEscape", "internal/bytealg.MakeNoZero", "internal/bytealg.IndexByteString", "internal/bytealg.CountString", "internal/bytealg.IndexString"], unfollowed := true, recurses := true, named := ["crumple/garage.kinds", "crumple/garage.all", "internal/strconv.uint64pow10", "math/bits.deBruijn32tab", "math/bits.deBruijn64tab", "unicode/utf8.first", "unicode/utf8.acceptRanges", "internal/bytealg.MaxLen"], apart := false, laid := [("math/bits.deBruijn32tab", laid_math_bits_deBruijn32tab), ("math/bits.deBruijn64tab", laid_math_bits_deBruijn64tab), ("internal/strconv.uint64pow10", laid_internal_strconv_uint64pow10), ("unicode/utf8.acceptRanges", laid_unicode_utf8_acceptRanges), ("crumple/garage.kinds", laid_crumple_garage_kinds), ("crumple/garage.all", laid_crumple_garage_all), ("unicode/utf8.first", laid_unicode_utf8_first)] }
def GaragePlansSaid : Prop := garagePlansRow.holds Tryz.pinned (OpenSpec.ofChange garagePlansSpec)

/-- ITS FALSE NEIGHBOUR: 'it returns false'. Refute it at one input. -/
def garagePlansWrong : ChangeSpec := { name := "garagePlans", fn := fun _ => fun
  | [d] => { results := [.lit (.bool false)], args := [d] }
  | _ => none }
def GaragePlansWrongFalsely : Prop := garagePlansRow.holds Tryz.pinned (OpenSpec.ofChange garagePlansWrong)

/-- 'crumplelaw09.GarageStrings': WHATEVER THE INPUT: true; the input reads as it did. -/
def garageStringsSpec : ChangeSpec := { name := "garageStrings", fn := fun _ => fun
  | [d1, d2, d3] => { results := [.lit (.bool true)], args := [d1, d2, d3] }
  | _ => none }
def garageStringsRow : OpenClaim := { program := "ytdjkleaojdeepaagreatdoor", sum := "01a27b085fdd03ea397e25761a91e95f842e90ea8e6446568cb89b16205df960", func := "crumple/crumplelaw09.GarageStrings", spec := "garageStrings", inPlace := ["internal/abi.NoEscape", "internal/bytealg.MakeNoZero", "internal/bytealg.IndexByteString", "internal/bytealg.CountString", "internal/bytealg.IndexString"], unfollowed := true, recurses := true, named := ["crumple/garage.kinds", "crumple/garage.all", "internal/strconv.uint64pow10", "math/bits.deBruijn32tab", "math/bits.deBruijn64tab", "unicode/utf8.first", "unicode/utf8.acceptRanges", "internal/bytealg.MaxLen"], apart := false, laid := [("math/bits.deBruijn32tab", laid_math_bits_deBruijn32tab), ("math/bits.deBruijn64tab", laid_math_bits_deBruijn64tab), ("internal/strconv.uint64pow10", laid_internal_strconv_uint64pow10), ("unicode/utf8.acceptRanges", laid_unicode_utf8_acceptRanges), ("crumple/garage.kinds", laid_crumple_garage_kinds), ("crumple/garage.all", laid_crumple_garage_all), ("unicode/utf8.first", laid_unicode_utf8_first)] }
def GarageStringsSaid : Prop := garageStringsRow.holds Tryz.pinned (OpenSpec.ofChange garageStringsSpec)

/-- ITS FALSE NEIGHBOUR: 'it returns false'. Refute it at one input. -/
def garageStringsWrong : ChangeSpec := { name := "garageStrings", fn := fun _ => fun
  | [d1, d2, d3] => { results := [.lit (.bool false)], args := [d1, d2, d3] }
  | _ => none }
def GarageStringsWrongFalsely : Prop := garageStringsRow.holds Tryz.pinned (OpenSpec.ofChange garageStringsWrong)

/-- 'crumplelaw09.GarageSafe': WHATEVER THE INPUT: true; the input reads as it did. -/
def garageSafeSpec : ChangeSpec := { name := "garageSafe", fn := fun _ => fun
  | [d1, d2] => { results := [.lit (.bool true)], args := [d1, d2] }
  | _ => none }
def garageSafeRow : OpenClaim := { program := "ytdjkleaojdeepaagreatdoor", sum := "01a27b085fdd03ea397e25761a91e95f842e90ea8e6446568cb89b16205df960", func := "crumple/crumplelaw09.GarageSafe", spec := "garageSafe", inPlace := ["internal/abi.NoEscape", "internal/bytealg.MakeNoZero", "internal/bytealg.IndexByteString", "internal/bytealg.CountString", "internal/bytealg.IndexString"], unfollowed := true, recurses := true, named := ["crumple/garage.kinds", "crumple/garage.all", "internal/strconv.uint64pow10", "math/bits.deBruijn32tab", "math/bits.deBruijn64tab", "unicode/utf8.first", "unicode/utf8.acceptRanges", "internal/bytealg.MaxLen"], apart := false, laid := [("math/bits.deBruijn32tab", laid_math_bits_deBruijn32tab), ("math/bits.deBruijn64tab", laid_math_bits_deBruijn64tab), ("internal/strconv.uint64pow10", laid_internal_strconv_uint64pow10), ("unicode/utf8.acceptRanges", laid_unicode_utf8_acceptRanges), ("crumple/garage.kinds", laid_crumple_garage_kinds), ("crumple/garage.all", laid_crumple_garage_all), ("unicode/utf8.first", laid_unicode_utf8_first)] }
def GarageSafeSaid : Prop := garageSafeRow.holds Tryz.pinned (OpenSpec.ofChange garageSafeSpec)

/-- ITS FALSE NEIGHBOUR: 'it returns false'. Refute it at one input. -/
def garageSafeWrong : ChangeSpec := { name := "garageSafe", fn := fun _ => fun
  | [d1, d2] => { results := [.lit (.bool false)], args := [d1, d2] }
  | _ => none }
def GarageSafeWrongFalsely : Prop := garageSafeRow.holds Tryz.pinned (OpenSpec.ofChange garageSafeWrong)

/-- 'crumplelaw09.GarageWaits': WHATEVER THE INPUT: true; the input reads as it did. -/
def garageWaitsSpec : ChangeSpec := { name := "garageWaits", fn := fun _ => fun
  | [d1, d2, d3] => { results := [.lit (.bool true)], args := [d1, d2, d3] }
  | _ => none }
def garageWaitsRow : OpenClaim := { program := "ytdjkleaojdeepaagreatdoor", sum := "01a27b085fdd03ea397e25761a91e95f842e90ea8e6446568cb89b16205df960", func := "crumple/crumplelaw09.GarageWaits", spec := "garageWaits", inPlace := ["internal/abi.NoEscape", "internal/bytealg.MakeNoZero", "internal/bytealg.IndexByteString", "internal/bytealg.CountString", "internal/bytealg.IndexString"], unfollowed := true, recurses := true, named := ["crumple/garage.kinds", "crumple/garage.all", "internal/strconv.uint64pow10", "math/bits.deBruijn32tab", "math/bits.deBruijn64tab", "unicode/utf8.first", "unicode/utf8.acceptRanges", "internal/bytealg.MaxLen"], apart := false, laid := [("math/bits.deBruijn32tab", laid_math_bits_deBruijn32tab), ("math/bits.deBruijn64tab", laid_math_bits_deBruijn64tab), ("internal/strconv.uint64pow10", laid_internal_strconv_uint64pow10), ("unicode/utf8.acceptRanges", laid_unicode_utf8_acceptRanges), ("crumple/garage.kinds", laid_crumple_garage_kinds), ("crumple/garage.all", laid_crumple_garage_all), ("unicode/utf8.first", laid_unicode_utf8_first)] }
def GarageWaitsSaid : Prop := garageWaitsRow.holds Tryz.pinned (OpenSpec.ofChange garageWaitsSpec)

/-- ITS FALSE NEIGHBOUR: 'it returns false'. Refute it at one input. -/
def garageWaitsWrong : ChangeSpec := { name := "garageWaits", fn := fun _ => fun
  | [d1, d2, d3] => { results := [.lit (.bool false)], args := [d1, d2, d3] }
  | _ => none }
def GarageWaitsWrongFalsely : Prop := garageWaitsRow.holds Tryz.pinned (OpenSpec.ofChange garageWaitsWrong)

/-- 'crumplelaw09.GarageBest': WHATEVER THE INPUT: true; the input reads as it did. -/
def garageBestSpec : ChangeSpec := { name := "garageBest", fn := fun _ => fun
  | [d1, d2] => { results := [.lit (.bool true)], args := [d1, d2] }
  | _ => none }
def garageBestRow : OpenClaim := { program := "ytdjkleaojdeepaagreatdoor", sum := "01a27b085fdd03ea397e25761a91e95f842e90ea8e6446568cb89b16205df960", func := "crumple/crumplelaw09.GarageBest", spec := "garageBest", inPlace := ["internal/abi.NoEscape", "internal/bytealg.MakeNoZero", "internal/bytealg.IndexByteString", "internal/bytealg.CountString", "internal/bytealg.IndexString"], unfollowed := true, recurses := true, named := ["crumple/garage.kinds", "crumple/garage.all", "internal/strconv.uint64pow10", "math/bits.deBruijn32tab", "math/bits.deBruijn64tab", "unicode/utf8.first", "unicode/utf8.acceptRanges", "internal/bytealg.MaxLen"], apart := false, laid := [("math/bits.deBruijn32tab", laid_math_bits_deBruijn32tab), ("math/bits.deBruijn64tab", laid_math_bits_deBruijn64tab), ("internal/strconv.uint64pow10", laid_internal_strconv_uint64pow10), ("unicode/utf8.acceptRanges", laid_unicode_utf8_acceptRanges), ("crumple/garage.kinds", laid_crumple_garage_kinds), ("crumple/garage.all", laid_crumple_garage_all), ("unicode/utf8.first", laid_unicode_utf8_first)] }
def GarageBestSaid : Prop := garageBestRow.holds Tryz.pinned (OpenSpec.ofChange garageBestSpec)

/-- ITS FALSE NEIGHBOUR: 'it returns false'. Refute it at one input. -/
def garageBestWrong : ChangeSpec := { name := "garageBest", fn := fun _ => fun
  | [d1, d2] => { results := [.lit (.bool false)], args := [d1, d2] }
  | _ => none }
def GarageBestWrongFalsely : Prop := garageBestRow.holds Tryz.pinned (OpenSpec.ofChange garageBestWrong)

/-- 'crumplelaw09.GarageBack': WHATEVER THE INPUT: true; the input reads as it did. -/
def garageBackSpec : ChangeSpec := { name := "garageBack", fn := fun _ => fun
  | [d1, d2, d3] => { results := [.lit (.bool true)], args := [d1, d2, d3] }
  | _ => none }
def garageBackRow : OpenClaim := { program := "ytdjkleaojdeepaagreatdoor", sum := "01a27b085fdd03ea397e25761a91e95f842e90ea8e6446568cb89b16205df960", func := "crumple/crumplelaw09.GarageBack", spec := "garageBack", inPlace := ["internal/abi.NoEscape", "internal/bytealg.MakeNoZero", "internal/bytealg.IndexByteString", "internal/bytealg.CountString", "internal/bytealg.IndexString"], unfollowed := true, recurses := true, named := ["crumple/garage.kinds", "crumple/garage.all", "internal/strconv.uint64pow10", "math/bits.deBruijn32tab", "math/bits.deBruijn64tab", "unicode/utf8.first", "unicode/utf8.acceptRanges", "internal/bytealg.MaxLen"], apart := false, laid := [("math/bits.deBruijn32tab", laid_math_bits_deBruijn32tab), ("math/bits.deBruijn64tab", laid_math_bits_deBruijn64tab), ("internal/strconv.uint64pow10", laid_internal_strconv_uint64pow10), ("unicode/utf8.acceptRanges", laid_unicode_utf8_acceptRanges), ("crumple/garage.kinds", laid_crumple_garage_kinds), ("crumple/garage.all", laid_crumple_garage_all), ("unicode/utf8.first", laid_unicode_utf8_first)] }
def GarageBackSaid : Prop := garageBackRow.holds Tryz.pinned (OpenSpec.ofChange garageBackSpec)

/-- ITS FALSE NEIGHBOUR: 'it returns false'. Refute it at one input. -/
def garageBackWrong : ChangeSpec := { name := "garageBack", fn := fun _ => fun
  | [d1, d2, d3] => { results := [.lit (.bool false)], args := [d1, d2, d3] }
  | _ => none }
def GarageBackWrongFalsely : Prop := garageBackRow.holds Tryz.pinned (OpenSpec.ofChange garageBackWrong)

/-- 'crumplelaw09.GarageRuns': WHATEVER THE INPUT: true; the input reads as it did. -/
def garageRunsSpec : ChangeSpec := { name := "garageRuns", fn := fun _ => fun
  | [d1, d2] => { results := [.lit (.bool true)], args := [d1, d2] }
  | _ => none }
def garageRunsRow : OpenClaim := { program := "ytdjkleaojdeepaagreatdoor", sum := "01a27b085fdd03ea397e25761a91e95f842e90ea8e6446568cb89b16205df960", func := "crumple/crumplelaw09.GarageRuns", spec := "garageRuns", inPlace := ["internal/abi.NoEscape", "internal/bytealg.MakeNoZero", "internal/bytealg.IndexByteString", "internal/bytealg.CountString", "internal/bytealg.IndexString"], unfollowed := true, recurses := true, named := ["crumple/garage.kinds", "crumple/garage.all", "internal/strconv.uint64pow10", "math/bits.deBruijn32tab", "math/bits.deBruijn64tab", "unicode/utf8.first", "unicode/utf8.acceptRanges", "internal/bytealg.MaxLen"], apart := false, laid := [("math/bits.deBruijn32tab", laid_math_bits_deBruijn32tab), ("math/bits.deBruijn64tab", laid_math_bits_deBruijn64tab), ("internal/strconv.uint64pow10", laid_internal_strconv_uint64pow10), ("unicode/utf8.acceptRanges", laid_unicode_utf8_acceptRanges), ("crumple/garage.kinds", laid_crumple_garage_kinds), ("crumple/garage.all", laid_crumple_garage_all), ("unicode/utf8.first", laid_unicode_utf8_first)] }
def GarageRunsSaid : Prop := garageRunsRow.holds Tryz.pinned (OpenSpec.ofChange garageRunsSpec)

/-- ITS FALSE NEIGHBOUR: 'it returns false'. Refute it at one input. -/
def garageRunsWrong : ChangeSpec := { name := "garageRuns", fn := fun _ => fun
  | [d1, d2] => { results := [.lit (.bool false)], args := [d1, d2] }
  | _ => none }
def GarageRunsWrongFalsely : Prop := garageRunsRow.holds Tryz.pinned (OpenSpec.ofChange garageRunsWrong)

/-- 'crumplelaw09.GarageHalls': WHATEVER THE INPUT: true; the input reads as it did. -/
def garageHallsSpec : ChangeSpec := { name := "garageHalls", fn := fun _ => fun
  | [d1, d2] => { results := [.lit (.bool true)], args := [d1, d2] }
  | _ => none }
def garageHallsRow : OpenClaim := { program := "ytdjkleaojdeepaagreatdoor", sum := "01a27b085fdd03ea397e25761a91e95f842e90ea8e6446568cb89b16205df960", func := "crumple/crumplelaw09.GarageHalls", spec := "garageHalls", inPlace := ["internal/abi.NoEscape", "internal/bytealg.MakeNoZero", "internal/bytealg.IndexByteString", "internal/bytealg.CountString", "internal/bytealg.IndexString"], unfollowed := true, recurses := true, named := ["crumple/garage.kinds", "crumple/garage.all", "internal/strconv.uint64pow10", "math/bits.deBruijn32tab", "math/bits.deBruijn64tab", "unicode/utf8.first", "unicode/utf8.acceptRanges", "internal/bytealg.MaxLen"], apart := false, laid := [("math/bits.deBruijn32tab", laid_math_bits_deBruijn32tab), ("math/bits.deBruijn64tab", laid_math_bits_deBruijn64tab), ("internal/strconv.uint64pow10", laid_internal_strconv_uint64pow10), ("unicode/utf8.acceptRanges", laid_unicode_utf8_acceptRanges), ("crumple/garage.kinds", laid_crumple_garage_kinds), ("crumple/garage.all", laid_crumple_garage_all), ("unicode/utf8.first", laid_unicode_utf8_first)] }
def GarageHallsSaid : Prop := garageHallsRow.holds Tryz.pinned (OpenSpec.ofChange garageHallsSpec)

/-- ITS FALSE NEIGHBOUR: 'it returns false'. Refute it at one input. -/
def garageHallsWrong : ChangeSpec := { name := "garageHalls", fn := fun _ => fun
  | [d1, d2] => { results := [.lit (.bool false)], args := [d1, d2] }
  | _ => none }
def GarageHallsWrongFalsely : Prop := garageHallsRow.holds Tryz.pinned (OpenSpec.ofChange garageHallsWrong)

/- THE SECOND FORM. 'bulk': how many values and letters a reading holds, each counted each time it is reached (what is shared counts as often as it is met; a slice's spare places count too). A statement '..UptoSaid' is the law's where the arguments, and the package variables that the reading takes, are together of bulk at most 1048576: NARROWER than '..Said'. Prove '..Said' where nothing that the law and all that it calls make is longer than what came in: it says more and counts as full. Else prove '..UptoSaid'. A law counts once. -/
mutual
def uptoBulk {H : Type} : DataW H → Nat
  | .lit (.string bytes) => bytes.length + 1
  | .lit _ => 1
  | .nil => 1
  | .ptr d => uptoBulk d + 1
  | .slice elems spare => uptoBulkAll elems + uptoBulkAll spare + 1
  | .agg parts => uptoBulkAll parts + 1
  | .iface _ d => uptoBulk d + 1
  | .map entries => uptoBulkEntries entries + 1
  | .held _ => 1
def uptoBulkAll {H : Type} : List (DataW H) → Nat
  | [] => 0
  | d :: r => uptoBulk d + uptoBulkAll r
def uptoBulkEntries {H : Type} : List (Lit × DataW H) → Nat
  | [] => 0
  | x :: r => uptoBulkEntry x + uptoBulkEntries r
def uptoBulkEntry {H : Type} : Lit × DataW H → Nat
  | (.string bytes, d) => bytes.length + uptoBulk d + 1
  | (_, d) => uptoBulk d + 1
 end
def uptoSmall : (H : Type) → List (DataW H) → Bool := fun _ ds => decide (uptoBulkAll ds ≤ 1048576)
def OpenSpec.upto (s : _root_.Go.ChangeSpec) : _root_.Go.OpenSpec := { _root_.Go.OpenSpec.ofChange s with cond := some uptoSmall }

/-- 'crumplelaw09.GarageReasons', WHERE WHAT IT READS IS OF BULK AT MOST 1048576: true; the input reads as it did. -/
def garageReasonsUptoRow : OpenClaim := { program := "ytdjkleaojdeepaagreatdoor", sum := "01a27b085fdd03ea397e25761a91e95f842e90ea8e6446568cb89b16205df960", func := "crumple/crumplelaw09.GarageReasons", spec := "garageReasons", inPlace := ["internal/abi.NoEscape", "internal/bytealg.MakeNoZero", "internal/bytealg.IndexByteString", "internal/bytealg.CountString", "internal/bytealg.IndexString"], unfollowed := true, recurses := true, named := ["crumple/garage.kinds", "crumple/garage.all", "internal/strconv.uint64pow10", "math/bits.deBruijn32tab", "math/bits.deBruijn64tab", "unicode/utf8.first", "unicode/utf8.acceptRanges", "internal/bytealg.MaxLen"], apart := false, laid := [("math/bits.deBruijn32tab", laid_math_bits_deBruijn32tab), ("math/bits.deBruijn64tab", laid_math_bits_deBruijn64tab), ("internal/strconv.uint64pow10", laid_internal_strconv_uint64pow10), ("unicode/utf8.acceptRanges", laid_unicode_utf8_acceptRanges), ("crumple/garage.kinds", laid_crumple_garage_kinds), ("crumple/garage.all", laid_crumple_garage_all), ("unicode/utf8.first", laid_unicode_utf8_first)], narrowed := true }
def GarageReasonsUptoSaid : Prop := garageReasonsUptoRow.holds Tryz.pinned (OpenSpec.upto garageReasonsSpec)

/-- 'crumplelaw09.GarageDone', WHERE WHAT IT READS IS OF BULK AT MOST 1048576: true; the input reads as it did. -/
def garageDoneUptoRow : OpenClaim := { program := "ytdjkleaojdeepaagreatdoor", sum := "01a27b085fdd03ea397e25761a91e95f842e90ea8e6446568cb89b16205df960", func := "crumple/crumplelaw09.GarageDone", spec := "garageDone", inPlace := ["internal/abi.NoEscape", "internal/bytealg.MakeNoZero", "internal/bytealg.IndexByteString", "internal/bytealg.CountString", "internal/bytealg.IndexString"], unfollowed := true, recurses := true, named := ["crumple/garage.kinds", "crumple/garage.all", "internal/strconv.uint64pow10", "math/bits.deBruijn32tab", "math/bits.deBruijn64tab", "unicode/utf8.first", "unicode/utf8.acceptRanges", "internal/bytealg.MaxLen"], apart := false, laid := [("math/bits.deBruijn32tab", laid_math_bits_deBruijn32tab), ("math/bits.deBruijn64tab", laid_math_bits_deBruijn64tab), ("internal/strconv.uint64pow10", laid_internal_strconv_uint64pow10), ("unicode/utf8.acceptRanges", laid_unicode_utf8_acceptRanges), ("crumple/garage.kinds", laid_crumple_garage_kinds), ("crumple/garage.all", laid_crumple_garage_all), ("unicode/utf8.first", laid_unicode_utf8_first)], narrowed := true }
def GarageDoneUptoSaid : Prop := garageDoneUptoRow.holds Tryz.pinned (OpenSpec.upto garageDoneSpec)

/-- 'crumplelaw09.GarageMoves', WHERE WHAT IT READS IS OF BULK AT MOST 1048576: true; the input reads as it did. -/
def garageMovesUptoRow : OpenClaim := { program := "ytdjkleaojdeepaagreatdoor", sum := "01a27b085fdd03ea397e25761a91e95f842e90ea8e6446568cb89b16205df960", func := "crumple/crumplelaw09.GarageMoves", spec := "garageMoves", inPlace := ["internal/abi.NoEscape", "internal/bytealg.MakeNoZero", "internal/bytealg.IndexByteString", "internal/bytealg.CountString", "internal/bytealg.IndexString"], unfollowed := true, recurses := true, named := ["crumple/garage.kinds", "crumple/garage.all", "internal/strconv.uint64pow10", "math/bits.deBruijn32tab", "math/bits.deBruijn64tab", "unicode/utf8.first", "unicode/utf8.acceptRanges", "internal/bytealg.MaxLen"], apart := false, laid := [("math/bits.deBruijn32tab", laid_math_bits_deBruijn32tab), ("math/bits.deBruijn64tab", laid_math_bits_deBruijn64tab), ("internal/strconv.uint64pow10", laid_internal_strconv_uint64pow10), ("unicode/utf8.acceptRanges", laid_unicode_utf8_acceptRanges), ("crumple/garage.kinds", laid_crumple_garage_kinds), ("crumple/garage.all", laid_crumple_garage_all), ("unicode/utf8.first", laid_unicode_utf8_first)], narrowed := true }
def GarageMovesUptoSaid : Prop := garageMovesUptoRow.holds Tryz.pinned (OpenSpec.upto garageMovesSpec)

/-- 'crumplelaw09.GarageJobs', WHERE WHAT IT READS IS OF BULK AT MOST 1048576: true; the input reads as it did. -/
def garageJobsUptoRow : OpenClaim := { program := "ytdjkleaojdeepaagreatdoor", sum := "01a27b085fdd03ea397e25761a91e95f842e90ea8e6446568cb89b16205df960", func := "crumple/crumplelaw09.GarageJobs", spec := "garageJobs", inPlace := ["internal/abi.NoEscape", "internal/bytealg.MakeNoZero", "internal/bytealg.IndexByteString", "internal/bytealg.CountString", "internal/bytealg.IndexString"], unfollowed := true, recurses := true, named := ["crumple/garage.kinds", "crumple/garage.all", "internal/strconv.uint64pow10", "math/bits.deBruijn32tab", "math/bits.deBruijn64tab", "unicode/utf8.first", "unicode/utf8.acceptRanges", "internal/bytealg.MaxLen"], apart := false, laid := [("math/bits.deBruijn32tab", laid_math_bits_deBruijn32tab), ("math/bits.deBruijn64tab", laid_math_bits_deBruijn64tab), ("internal/strconv.uint64pow10", laid_internal_strconv_uint64pow10), ("unicode/utf8.acceptRanges", laid_unicode_utf8_acceptRanges), ("crumple/garage.kinds", laid_crumple_garage_kinds), ("crumple/garage.all", laid_crumple_garage_all), ("unicode/utf8.first", laid_unicode_utf8_first)], narrowed := true }
def GarageJobsUptoSaid : Prop := garageJobsUptoRow.holds Tryz.pinned (OpenSpec.upto garageJobsSpec)

/-- 'crumplelaw09.GaragePlans', WHERE WHAT IT READS IS OF BULK AT MOST 1048576: true; the input reads as it did. -/
def garagePlansUptoRow : OpenClaim := { program := "ytdjkleaojdeepaagreatdoor", sum := "01a27b085fdd03ea397e25761a91e95f842e90ea8e6446568cb89b16205df960", func := "crumple/crumplelaw09.GaragePlans", spec := "garagePlans", inPlace := ["internal/abi.NoEscape", "internal/bytealg.MakeNoZero", "internal/bytealg.IndexByteString", "internal/bytealg.CountString", "internal/bytealg.IndexString"], unfollowed := true, recurses := true, named := ["crumple/garage.kinds", "crumple/garage.all", "internal/strconv.uint64pow10", "math/bits.deBruijn32tab", "math/bits.deBruijn64tab", "unicode/utf8.first", "unicode/utf8.acceptRanges", "internal/bytealg.MaxLen"], apart := false, laid := [("math/bits.deBruijn32tab", laid_math_bits_deBruijn32tab), ("math/bits.deBruijn64tab", laid_math_bits_deBruijn64tab), ("internal/strconv.uint64pow10", laid_internal_strconv_uint64pow10), ("unicode/utf8.acceptRanges", laid_unicode_utf8_acceptRanges), ("crumple/garage.kinds", laid_crumple_garage_kinds), ("crumple/garage.all", laid_crumple_garage_all), ("unicode/utf8.first", laid_unicode_utf8_first)], narrowed := true }
def GaragePlansUptoSaid : Prop := garagePlansUptoRow.holds Tryz.pinned (OpenSpec.upto garagePlansSpec)

/-- 'crumplelaw09.GarageStrings', WHERE WHAT IT READS IS OF BULK AT MOST 1048576: true; the input reads as it did. -/
def garageStringsUptoRow : OpenClaim := { program := "ytdjkleaojdeepaagreatdoor", sum := "01a27b085fdd03ea397e25761a91e95f842e90ea8e6446568cb89b16205df960", func := "crumple/crumplelaw09.GarageStrings", spec := "garageStrings", inPlace := ["internal/abi.NoEscape", "internal/bytealg.MakeNoZero", "internal/bytealg.IndexByteString", "internal/bytealg.CountString", "internal/bytealg.IndexString"], unfollowed := true, recurses := true, named := ["crumple/garage.kinds", "crumple/garage.all", "internal/strconv.uint64pow10", "math/bits.deBruijn32tab", "math/bits.deBruijn64tab", "unicode/utf8.first", "unicode/utf8.acceptRanges", "internal/bytealg.MaxLen"], apart := false, laid := [("math/bits.deBruijn32tab", laid_math_bits_deBruijn32tab), ("math/bits.deBruijn64tab", laid_math_bits_deBruijn64tab), ("internal/strconv.uint64pow10", laid_internal_strconv_uint64pow10), ("unicode/utf8.acceptRanges", laid_unicode_utf8_acceptRanges), ("crumple/garage.kinds", laid_crumple_garage_kinds), ("crumple/garage.all", laid_crumple_garage_all), ("unicode/utf8.first", laid_unicode_utf8_first)], narrowed := true }
def GarageStringsUptoSaid : Prop := garageStringsUptoRow.holds Tryz.pinned (OpenSpec.upto garageStringsSpec)

/-- 'crumplelaw09.GarageSafe', WHERE WHAT IT READS IS OF BULK AT MOST 1048576: true; the input reads as it did. -/
def garageSafeUptoRow : OpenClaim := { program := "ytdjkleaojdeepaagreatdoor", sum := "01a27b085fdd03ea397e25761a91e95f842e90ea8e6446568cb89b16205df960", func := "crumple/crumplelaw09.GarageSafe", spec := "garageSafe", inPlace := ["internal/abi.NoEscape", "internal/bytealg.MakeNoZero", "internal/bytealg.IndexByteString", "internal/bytealg.CountString", "internal/bytealg.IndexString"], unfollowed := true, recurses := true, named := ["crumple/garage.kinds", "crumple/garage.all", "internal/strconv.uint64pow10", "math/bits.deBruijn32tab", "math/bits.deBruijn64tab", "unicode/utf8.first", "unicode/utf8.acceptRanges", "internal/bytealg.MaxLen"], apart := false, laid := [("math/bits.deBruijn32tab", laid_math_bits_deBruijn32tab), ("math/bits.deBruijn64tab", laid_math_bits_deBruijn64tab), ("internal/strconv.uint64pow10", laid_internal_strconv_uint64pow10), ("unicode/utf8.acceptRanges", laid_unicode_utf8_acceptRanges), ("crumple/garage.kinds", laid_crumple_garage_kinds), ("crumple/garage.all", laid_crumple_garage_all), ("unicode/utf8.first", laid_unicode_utf8_first)], narrowed := true }
def GarageSafeUptoSaid : Prop := garageSafeUptoRow.holds Tryz.pinned (OpenSpec.upto garageSafeSpec)

/-- 'crumplelaw09.GarageWaits', WHERE WHAT IT READS IS OF BULK AT MOST 1048576: true; the input reads as it did. -/
def garageWaitsUptoRow : OpenClaim := { program := "ytdjkleaojdeepaagreatdoor", sum := "01a27b085fdd03ea397e25761a91e95f842e90ea8e6446568cb89b16205df960", func := "crumple/crumplelaw09.GarageWaits", spec := "garageWaits", inPlace := ["internal/abi.NoEscape", "internal/bytealg.MakeNoZero", "internal/bytealg.IndexByteString", "internal/bytealg.CountString", "internal/bytealg.IndexString"], unfollowed := true, recurses := true, named := ["crumple/garage.kinds", "crumple/garage.all", "internal/strconv.uint64pow10", "math/bits.deBruijn32tab", "math/bits.deBruijn64tab", "unicode/utf8.first", "unicode/utf8.acceptRanges", "internal/bytealg.MaxLen"], apart := false, laid := [("math/bits.deBruijn32tab", laid_math_bits_deBruijn32tab), ("math/bits.deBruijn64tab", laid_math_bits_deBruijn64tab), ("internal/strconv.uint64pow10", laid_internal_strconv_uint64pow10), ("unicode/utf8.acceptRanges", laid_unicode_utf8_acceptRanges), ("crumple/garage.kinds", laid_crumple_garage_kinds), ("crumple/garage.all", laid_crumple_garage_all), ("unicode/utf8.first", laid_unicode_utf8_first)], narrowed := true }
def GarageWaitsUptoSaid : Prop := garageWaitsUptoRow.holds Tryz.pinned (OpenSpec.upto garageWaitsSpec)

/-- 'crumplelaw09.GarageBest', WHERE WHAT IT READS IS OF BULK AT MOST 1048576: true; the input reads as it did. -/
def garageBestUptoRow : OpenClaim := { program := "ytdjkleaojdeepaagreatdoor", sum := "01a27b085fdd03ea397e25761a91e95f842e90ea8e6446568cb89b16205df960", func := "crumple/crumplelaw09.GarageBest", spec := "garageBest", inPlace := ["internal/abi.NoEscape", "internal/bytealg.MakeNoZero", "internal/bytealg.IndexByteString", "internal/bytealg.CountString", "internal/bytealg.IndexString"], unfollowed := true, recurses := true, named := ["crumple/garage.kinds", "crumple/garage.all", "internal/strconv.uint64pow10", "math/bits.deBruijn32tab", "math/bits.deBruijn64tab", "unicode/utf8.first", "unicode/utf8.acceptRanges", "internal/bytealg.MaxLen"], apart := false, laid := [("math/bits.deBruijn32tab", laid_math_bits_deBruijn32tab), ("math/bits.deBruijn64tab", laid_math_bits_deBruijn64tab), ("internal/strconv.uint64pow10", laid_internal_strconv_uint64pow10), ("unicode/utf8.acceptRanges", laid_unicode_utf8_acceptRanges), ("crumple/garage.kinds", laid_crumple_garage_kinds), ("crumple/garage.all", laid_crumple_garage_all), ("unicode/utf8.first", laid_unicode_utf8_first)], narrowed := true }
def GarageBestUptoSaid : Prop := garageBestUptoRow.holds Tryz.pinned (OpenSpec.upto garageBestSpec)

/-- 'crumplelaw09.GarageBack', WHERE WHAT IT READS IS OF BULK AT MOST 1048576: true; the input reads as it did. -/
def garageBackUptoRow : OpenClaim := { program := "ytdjkleaojdeepaagreatdoor", sum := "01a27b085fdd03ea397e25761a91e95f842e90ea8e6446568cb89b16205df960", func := "crumple/crumplelaw09.GarageBack", spec := "garageBack", inPlace := ["internal/abi.NoEscape", "internal/bytealg.MakeNoZero", "internal/bytealg.IndexByteString", "internal/bytealg.CountString", "internal/bytealg.IndexString"], unfollowed := true, recurses := true, named := ["crumple/garage.kinds", "crumple/garage.all", "internal/strconv.uint64pow10", "math/bits.deBruijn32tab", "math/bits.deBruijn64tab", "unicode/utf8.first", "unicode/utf8.acceptRanges", "internal/bytealg.MaxLen"], apart := false, laid := [("math/bits.deBruijn32tab", laid_math_bits_deBruijn32tab), ("math/bits.deBruijn64tab", laid_math_bits_deBruijn64tab), ("internal/strconv.uint64pow10", laid_internal_strconv_uint64pow10), ("unicode/utf8.acceptRanges", laid_unicode_utf8_acceptRanges), ("crumple/garage.kinds", laid_crumple_garage_kinds), ("crumple/garage.all", laid_crumple_garage_all), ("unicode/utf8.first", laid_unicode_utf8_first)], narrowed := true }
def GarageBackUptoSaid : Prop := garageBackUptoRow.holds Tryz.pinned (OpenSpec.upto garageBackSpec)

/-- 'crumplelaw09.GarageRuns', WHERE WHAT IT READS IS OF BULK AT MOST 1048576: true; the input reads as it did. -/
def garageRunsUptoRow : OpenClaim := { program := "ytdjkleaojdeepaagreatdoor", sum := "01a27b085fdd03ea397e25761a91e95f842e90ea8e6446568cb89b16205df960", func := "crumple/crumplelaw09.GarageRuns", spec := "garageRuns", inPlace := ["internal/abi.NoEscape", "internal/bytealg.MakeNoZero", "internal/bytealg.IndexByteString", "internal/bytealg.CountString", "internal/bytealg.IndexString"], unfollowed := true, recurses := true, named := ["crumple/garage.kinds", "crumple/garage.all", "internal/strconv.uint64pow10", "math/bits.deBruijn32tab", "math/bits.deBruijn64tab", "unicode/utf8.first", "unicode/utf8.acceptRanges", "internal/bytealg.MaxLen"], apart := false, laid := [("math/bits.deBruijn32tab", laid_math_bits_deBruijn32tab), ("math/bits.deBruijn64tab", laid_math_bits_deBruijn64tab), ("internal/strconv.uint64pow10", laid_internal_strconv_uint64pow10), ("unicode/utf8.acceptRanges", laid_unicode_utf8_acceptRanges), ("crumple/garage.kinds", laid_crumple_garage_kinds), ("crumple/garage.all", laid_crumple_garage_all), ("unicode/utf8.first", laid_unicode_utf8_first)], narrowed := true }
def GarageRunsUptoSaid : Prop := garageRunsUptoRow.holds Tryz.pinned (OpenSpec.upto garageRunsSpec)

/-- 'crumplelaw09.GarageHalls', WHERE WHAT IT READS IS OF BULK AT MOST 1048576: true; the input reads as it did. -/
def garageHallsUptoRow : OpenClaim := { program := "ytdjkleaojdeepaagreatdoor", sum := "01a27b085fdd03ea397e25761a91e95f842e90ea8e6446568cb89b16205df960", func := "crumple/crumplelaw09.GarageHalls", spec := "garageHalls", inPlace := ["internal/abi.NoEscape", "internal/bytealg.MakeNoZero", "internal/bytealg.IndexByteString", "internal/bytealg.CountString", "internal/bytealg.IndexString"], unfollowed := true, recurses := true, named := ["crumple/garage.kinds", "crumple/garage.all", "internal/strconv.uint64pow10", "math/bits.deBruijn32tab", "math/bits.deBruijn64tab", "unicode/utf8.first", "unicode/utf8.acceptRanges", "internal/bytealg.MaxLen"], apart := false, laid := [("math/bits.deBruijn32tab", laid_math_bits_deBruijn32tab), ("math/bits.deBruijn64tab", laid_math_bits_deBruijn64tab), ("internal/strconv.uint64pow10", laid_internal_strconv_uint64pow10), ("unicode/utf8.acceptRanges", laid_unicode_utf8_acceptRanges), ("crumple/garage.kinds", laid_crumple_garage_kinds), ("crumple/garage.all", laid_crumple_garage_all), ("unicode/utf8.first", laid_unicode_utf8_first)], narrowed := true }
def GarageHallsUptoSaid : Prop := garageHallsUptoRow.holds Tryz.pinned (OpenSpec.upto garageHallsSpec)

end Rows
end Go.Proofs.YtdjkleaojdeepaaGreatDoor
