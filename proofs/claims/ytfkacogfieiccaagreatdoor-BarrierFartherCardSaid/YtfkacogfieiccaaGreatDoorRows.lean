/-
  NARROWER THAN 'FOR EVERY INPUT', by the rows' own cells (each row's printed sentence says how): BarrierSpeeds: laid · BarrierClasses: laid · BarrierTows: laid · BarrierTables: laid · BarrierBalances: laid · BarrierWalls: laid · BarrierStrings: laid · BarrierStops: laid · BarrierFarther: laid · BarrierTrue: laid.
  DERIVED. THE GIVEN ROWS OF THIS SEAT. 10 by the template 'for every input the law returns true; each argument reads behind the call as it read before'; 0 by the template 'total and deterministic' (their statements: YtfkacogfieiccaaGreatDoorTotals.lean).
  GIVEN WITH THE SEED: the statements are not yours to turn. If you find one false, say at which input.
  Laid BY PROGRAM, IN A SANDBOX (cutbox-rows.mjs): the forced cells as the released guide's own fill.sh prints them over the translation 4de3c6cce6676ab4… (all of the seat's roots in one cut). By AI agents, Wed Nov 11 2026. No macro, syntax, notation, axiom, sorry.
-/
import Derived.Test.YtfkacogfieiccaaGreatDoorChecked
import GoSem.PinnedTables
import GoSem.Claim
import GoSem.ClaimJoined
import GoSem.ClaimMapViews
import Derived.JoinedTies
import Derived.KernelRfl
namespace Go.Proofs.YtfkacogfieiccaaGreatDoor
/- THE CELL 'sum', in the pinned program and in every row, IS THE sha256 OF THE DUMP (.gsa) THAT YtfkacogfieiccaaGreatDoorProg.lean LOADS. Nothing in Lean hashes anything: it is a label: what it is worth is what the hold of that sum in a sandbox is worth. -/
noncomputable def Tryz.pinned : Pinned := { name := "ytfkacogfieiccaagreatdoor", sum := "4de3c6cce6676ab4f575bb015275fab69db33b1c5e54151aeb1e57f525aeb966", checked := Tryz.checked }
namespace Rows
def none {H : Type} : Left H := { results := [], args := [] }

/- WHAT THE LISTED PACKAGE-LEVEL VARIABLES READ AS WHEN THE CALL BEGINS. Each datum BY PROGRAM (the guide's laid-datum.mjs) off the statement by which the dump's own 'gosem.cut.vars' lays the variable. In a bare row this is a premise. The card (YtfkacogfieiccaaGreatDoorCards.lean) ties it to the program's text. -/
def laid_math_bits_deBruijn32tab {H : Type} : DataW H := .agg [.lit (.int .u8 0), .lit (.int .u8 1), .lit (.int .u8 28), .lit (.int .u8 2), .lit (.int .u8 29), .lit (.int .u8 14), .lit (.int .u8 24), .lit (.int .u8 3), .lit (.int .u8 30), .lit (.int .u8 22), .lit (.int .u8 20), .lit (.int .u8 15), .lit (.int .u8 25), .lit (.int .u8 17), .lit (.int .u8 4), .lit (.int .u8 8), .lit (.int .u8 31), .lit (.int .u8 27), .lit (.int .u8 13), .lit (.int .u8 23), .lit (.int .u8 21), .lit (.int .u8 19), .lit (.int .u8 16), .lit (.int .u8 7), .lit (.int .u8 26), .lit (.int .u8 12), .lit (.int .u8 18), .lit (.int .u8 6), .lit (.int .u8 11), .lit (.int .u8 5), .lit (.int .u8 10), .lit (.int .u8 9)]
def laid_math_bits_deBruijn64tab {H : Type} : DataW H := .agg [.lit (.int .u8 0), .lit (.int .u8 1), .lit (.int .u8 56), .lit (.int .u8 2), .lit (.int .u8 57), .lit (.int .u8 49), .lit (.int .u8 28), .lit (.int .u8 3), .lit (.int .u8 61), .lit (.int .u8 58), .lit (.int .u8 42), .lit (.int .u8 50), .lit (.int .u8 38), .lit (.int .u8 29), .lit (.int .u8 17), .lit (.int .u8 4), .lit (.int .u8 62), .lit (.int .u8 47), .lit (.int .u8 59), .lit (.int .u8 36), .lit (.int .u8 45), .lit (.int .u8 43), .lit (.int .u8 51), .lit (.int .u8 22), .lit (.int .u8 53), .lit (.int .u8 39), .lit (.int .u8 33), .lit (.int .u8 30), .lit (.int .u8 24), .lit (.int .u8 18), .lit (.int .u8 12), .lit (.int .u8 5), .lit (.int .u8 63), .lit (.int .u8 55), .lit (.int .u8 48), .lit (.int .u8 27), .lit (.int .u8 60), .lit (.int .u8 41), .lit (.int .u8 37), .lit (.int .u8 16), .lit (.int .u8 46), .lit (.int .u8 35), .lit (.int .u8 44), .lit (.int .u8 21), .lit (.int .u8 52), .lit (.int .u8 32), .lit (.int .u8 23), .lit (.int .u8 11), .lit (.int .u8 54), .lit (.int .u8 26), .lit (.int .u8 40), .lit (.int .u8 15), .lit (.int .u8 34), .lit (.int .u8 20), .lit (.int .u8 31), .lit (.int .u8 10), .lit (.int .u8 25), .lit (.int .u8 14), .lit (.int .u8 19), .lit (.int .u8 9), .lit (.int .u8 13), .lit (.int .u8 8), .lit (.int .u8 7), .lit (.int .u8 6)]
def laid_internal_strconv_uint64pow10 {H : Type} : DataW H := .agg [.lit (.int .u64 1), .lit (.int .u64 10), .lit (.int .u64 100), .lit (.int .u64 1000), .lit (.int .u64 10000), .lit (.int .u64 100000), .lit (.int .u64 1000000), .lit (.int .u64 10000000), .lit (.int .u64 100000000), .lit (.int .u64 1000000000), .lit (.int .u64 10000000000), .lit (.int .u64 100000000000), .lit (.int .u64 1000000000000), .lit (.int .u64 10000000000000), .lit (.int .u64 100000000000000), .lit (.int .u64 1000000000000000), .lit (.int .u64 10000000000000000), .lit (.int .u64 100000000000000000), .lit (.int .u64 1000000000000000000), .lit (.int .u64 10000000000000000000)]
def laid_unicode_utf8_acceptRanges {H : Type} : DataW H := .agg [.agg [.lit (.int .u8 128), .lit (.int .u8 191)], .agg [.lit (.int .u8 160), .lit (.int .u8 191)], .agg [.lit (.int .u8 128), .lit (.int .u8 159)], .agg [.lit (.int .u8 144), .lit (.int .u8 191)], .agg [.lit (.int .u8 128), .lit (.int .u8 143)], .agg [.lit (.int .u8 0), .lit (.int .u8 0)], .agg [.lit (.int .u8 0), .lit (.int .u8 0)], .agg [.lit (.int .u8 0), .lit (.int .u8 0)], .agg [.lit (.int .u8 0), .lit (.int .u8 0)], .agg [.lit (.int .u8 0), .lit (.int .u8 0)], .agg [.lit (.int .u8 0), .lit (.int .u8 0)], .agg [.lit (.int .u8 0), .lit (.int .u8 0)], .agg [.lit (.int .u8 0), .lit (.int .u8 0)], .agg [.lit (.int .u8 0), .lit (.int .u8 0)], .agg [.lit (.int .u8 0), .lit (.int .u8 0)], .agg [.lit (.int .u8 0), .lit (.int .u8 0)]]
def laid_crumple_barrier_axes {H : Type} : DataW H := .iface "func table" (.agg [.agg [.iface "func" (.lit (.string [99, 114, 117, 109, 112, 108, 101, 47, 98, 97, 114, 114, 105, 101, 114, 46, 97, 120, 101, 115, 36, 49]))], .agg [.iface "func" (.lit (.string [99, 114, 117, 109, 112, 108, 101, 47, 98, 97, 114, 114, 105, 101, 114, 46, 97, 120, 101, 115, 36, 50]))]])
def laid_crumple_barrier_forms {H : Type} : DataW H := .agg [.agg [.lit (.string [119, 97, 108, 108]), .lit (.int .i64 1)], .agg [.lit (.string [102, 114, 105, 99, 116, 105, 111, 110]), .lit (.int .i64 2)], .agg [.lit (.string [98, 114, 97, 107, 101]), .lit (.int .i64 2)], .agg [.lit (.string [112, 117, 108, 108]), .lit (.int .i64 1)]]
/-- One of Go's own tables, pinned by name: the form's constant. -/
def laid_unicode_utf8_first : DataW Unit := Go.Pinned.utf8First

/-- 'crumplelaw04.BarrierSpeeds': WHATEVER THE INPUT: true; the input reads as it did. -/
def barrierSpeedsSpec : ChangeSpec := { name := "barrierSpeeds", fn := fun _ => fun
  | [d1, d2] => { results := [.lit (.bool true)], args := [d1, d2] }
  | _ => none }
def barrierSpeedsRow : OpenClaim := { program := "ytfkacogfieiccaagreatdoor", sum := "4de3c6cce6676ab4f575bb015275fab69db33b1c5e54151aeb1e57f525aeb966", func := "crumple/crumplelaw04.BarrierSpeeds", spec := "barrierSpeeds", inPlace := ["internal/abi.NoEscape", "internal/bytealg.MakeNoZero", "internal/bytealg.IndexByteString", "internal/bytealg.CountString", "internal/bytealg.IndexString"], unfollowed := true, recurses := true, named := ["crumple/barrier.axes", "crumple/barrier.forms", "internal/strconv.uint64pow10", "math/bits.deBruijn32tab", "math/bits.deBruijn64tab", "unicode/utf8.first", "unicode/utf8.acceptRanges", "internal/bytealg.MaxLen"], apart := false, laid := [("math/bits.deBruijn32tab", laid_math_bits_deBruijn32tab), ("math/bits.deBruijn64tab", laid_math_bits_deBruijn64tab), ("internal/strconv.uint64pow10", laid_internal_strconv_uint64pow10), ("unicode/utf8.acceptRanges", laid_unicode_utf8_acceptRanges), ("crumple/barrier.axes", laid_crumple_barrier_axes), ("crumple/barrier.forms", laid_crumple_barrier_forms), ("unicode/utf8.first", laid_unicode_utf8_first)] }
def BarrierSpeedsSaid : Prop := barrierSpeedsRow.holds Tryz.pinned (OpenSpec.ofChange barrierSpeedsSpec)

/-- ITS FALSE NEIGHBOUR: 'it returns false'. Refute it at one input. -/
def barrierSpeedsWrong : ChangeSpec := { name := "barrierSpeeds", fn := fun _ => fun
  | [d1, d2] => { results := [.lit (.bool false)], args := [d1, d2] }
  | _ => none }
def BarrierSpeedsWrongFalsely : Prop := barrierSpeedsRow.holds Tryz.pinned (OpenSpec.ofChange barrierSpeedsWrong)

/-- 'crumplelaw04.BarrierClasses': WHATEVER THE INPUT: true; the input reads as it did. -/
def barrierClassesSpec : ChangeSpec := { name := "barrierClasses", fn := fun _ => fun
  | [d1, d2, d3] => { results := [.lit (.bool true)], args := [d1, d2, d3] }
  | _ => none }
def barrierClassesRow : OpenClaim := { program := "ytfkacogfieiccaagreatdoor", sum := "4de3c6cce6676ab4f575bb015275fab69db33b1c5e54151aeb1e57f525aeb966", func := "crumple/crumplelaw04.BarrierClasses", spec := "barrierClasses", inPlace := ["internal/abi.NoEscape", "internal/bytealg.MakeNoZero", "internal/bytealg.IndexByteString", "internal/bytealg.CountString", "internal/bytealg.IndexString"], unfollowed := true, recurses := true, named := ["crumple/barrier.axes", "crumple/barrier.forms", "internal/strconv.uint64pow10", "math/bits.deBruijn32tab", "math/bits.deBruijn64tab", "unicode/utf8.first", "unicode/utf8.acceptRanges", "internal/bytealg.MaxLen"], apart := false, laid := [("math/bits.deBruijn32tab", laid_math_bits_deBruijn32tab), ("math/bits.deBruijn64tab", laid_math_bits_deBruijn64tab), ("internal/strconv.uint64pow10", laid_internal_strconv_uint64pow10), ("unicode/utf8.acceptRanges", laid_unicode_utf8_acceptRanges), ("crumple/barrier.axes", laid_crumple_barrier_axes), ("crumple/barrier.forms", laid_crumple_barrier_forms), ("unicode/utf8.first", laid_unicode_utf8_first)] }
def BarrierClassesSaid : Prop := barrierClassesRow.holds Tryz.pinned (OpenSpec.ofChange barrierClassesSpec)

/-- ITS FALSE NEIGHBOUR: 'it returns false'. Refute it at one input. -/
def barrierClassesWrong : ChangeSpec := { name := "barrierClasses", fn := fun _ => fun
  | [d1, d2, d3] => { results := [.lit (.bool false)], args := [d1, d2, d3] }
  | _ => none }
def BarrierClassesWrongFalsely : Prop := barrierClassesRow.holds Tryz.pinned (OpenSpec.ofChange barrierClassesWrong)

/-- 'crumplelaw04.BarrierTows': WHATEVER THE INPUT: true; the input reads as it did. -/
def barrierTowsSpec : ChangeSpec := { name := "barrierTows", fn := fun _ => fun
  | [d1, d2] => { results := [.lit (.bool true)], args := [d1, d2] }
  | _ => none }
def barrierTowsRow : OpenClaim := { program := "ytfkacogfieiccaagreatdoor", sum := "4de3c6cce6676ab4f575bb015275fab69db33b1c5e54151aeb1e57f525aeb966", func := "crumple/crumplelaw04.BarrierTows", spec := "barrierTows", inPlace := ["internal/abi.NoEscape", "internal/bytealg.MakeNoZero", "internal/bytealg.IndexByteString", "internal/bytealg.CountString", "internal/bytealg.IndexString"], unfollowed := true, recurses := true, named := ["crumple/barrier.axes", "crumple/barrier.forms", "internal/strconv.uint64pow10", "math/bits.deBruijn32tab", "math/bits.deBruijn64tab", "unicode/utf8.first", "unicode/utf8.acceptRanges", "internal/bytealg.MaxLen"], apart := false, laid := [("math/bits.deBruijn32tab", laid_math_bits_deBruijn32tab), ("math/bits.deBruijn64tab", laid_math_bits_deBruijn64tab), ("internal/strconv.uint64pow10", laid_internal_strconv_uint64pow10), ("unicode/utf8.acceptRanges", laid_unicode_utf8_acceptRanges), ("crumple/barrier.axes", laid_crumple_barrier_axes), ("crumple/barrier.forms", laid_crumple_barrier_forms), ("unicode/utf8.first", laid_unicode_utf8_first)] }
def BarrierTowsSaid : Prop := barrierTowsRow.holds Tryz.pinned (OpenSpec.ofChange barrierTowsSpec)

/-- ITS FALSE NEIGHBOUR: 'it returns false'. Refute it at one input. -/
def barrierTowsWrong : ChangeSpec := { name := "barrierTows", fn := fun _ => fun
  | [d1, d2] => { results := [.lit (.bool false)], args := [d1, d2] }
  | _ => none }
def BarrierTowsWrongFalsely : Prop := barrierTowsRow.holds Tryz.pinned (OpenSpec.ofChange barrierTowsWrong)

/-- 'crumplelaw04.BarrierTables': WHATEVER THE INPUT: true; the input reads as it did. -/
def barrierTablesSpec : ChangeSpec := { name := "barrierTables", fn := fun _ => fun
  | [d1, d2, d3] => { results := [.lit (.bool true)], args := [d1, d2, d3] }
  | _ => none }
def barrierTablesRow : OpenClaim := { program := "ytfkacogfieiccaagreatdoor", sum := "4de3c6cce6676ab4f575bb015275fab69db33b1c5e54151aeb1e57f525aeb966", func := "crumple/crumplelaw04.BarrierTables", spec := "barrierTables", inPlace := ["internal/abi.NoEscape", "internal/bytealg.MakeNoZero", "internal/bytealg.IndexByteString", "internal/bytealg.CountString", "internal/bytealg.IndexString"], unfollowed := true, recurses := true, named := ["crumple/barrier.axes", "crumple/barrier.forms", "internal/strconv.uint64pow10", "math/bits.deBruijn32tab", "math/bits.deBruijn64tab", "unicode/utf8.first", "unicode/utf8.acceptRanges", "internal/bytealg.MaxLen"], apart := false, laid := [("math/bits.deBruijn32tab", laid_math_bits_deBruijn32tab), ("math/bits.deBruijn64tab", laid_math_bits_deBruijn64tab), ("internal/strconv.uint64pow10", laid_internal_strconv_uint64pow10), ("unicode/utf8.acceptRanges", laid_unicode_utf8_acceptRanges), ("crumple/barrier.axes", laid_crumple_barrier_axes), ("crumple/barrier.forms", laid_crumple_barrier_forms), ("unicode/utf8.first", laid_unicode_utf8_first)] }
def BarrierTablesSaid : Prop := barrierTablesRow.holds Tryz.pinned (OpenSpec.ofChange barrierTablesSpec)

/-- ITS FALSE NEIGHBOUR: 'it returns false'. Refute it at one input. -/
def barrierTablesWrong : ChangeSpec := { name := "barrierTables", fn := fun _ => fun
  | [d1, d2, d3] => { results := [.lit (.bool false)], args := [d1, d2, d3] }
  | _ => none }
def BarrierTablesWrongFalsely : Prop := barrierTablesRow.holds Tryz.pinned (OpenSpec.ofChange barrierTablesWrong)

/-- 'crumplelaw04.BarrierBalances': WHATEVER THE INPUT: true; the input reads as it did. -/
def barrierBalancesSpec : ChangeSpec := { name := "barrierBalances", fn := fun _ => fun
  | [d1, d2] => { results := [.lit (.bool true)], args := [d1, d2] }
  | _ => none }
def barrierBalancesRow : OpenClaim := { program := "ytfkacogfieiccaagreatdoor", sum := "4de3c6cce6676ab4f575bb015275fab69db33b1c5e54151aeb1e57f525aeb966", func := "crumple/crumplelaw04.BarrierBalances", spec := "barrierBalances", inPlace := ["internal/abi.NoEscape", "internal/bytealg.MakeNoZero", "internal/bytealg.IndexByteString", "internal/bytealg.CountString", "internal/bytealg.IndexString"], unfollowed := true, recurses := true, named := ["crumple/barrier.axes", "crumple/barrier.forms", "internal/strconv.uint64pow10", "math/bits.deBruijn32tab", "math/bits.deBruijn64tab", "unicode/utf8.first", "unicode/utf8.acceptRanges", "internal/bytealg.MaxLen"], apart := false, laid := [("math/bits.deBruijn32tab", laid_math_bits_deBruijn32tab), ("math/bits.deBruijn64tab", laid_math_bits_deBruijn64tab), ("internal/strconv.uint64pow10", laid_internal_strconv_uint64pow10), ("unicode/utf8.acceptRanges", laid_unicode_utf8_acceptRanges), ("crumple/barrier.axes", laid_crumple_barrier_axes), ("crumple/barrier.forms", laid_crumple_barrier_forms), ("unicode/utf8.first", laid_unicode_utf8_first)] }
def BarrierBalancesSaid : Prop := barrierBalancesRow.holds Tryz.pinned (OpenSpec.ofChange barrierBalancesSpec)

/-- ITS FALSE NEIGHBOUR: 'it returns false'. Refute it at one input. -/
def barrierBalancesWrong : ChangeSpec := { name := "barrierBalances", fn := fun _ => fun
  | [d1, d2] => { results := [.lit (.bool false)], args := [d1, d2] }
  | _ => none }
def BarrierBalancesWrongFalsely : Prop := barrierBalancesRow.holds Tryz.pinned (OpenSpec.ofChange barrierBalancesWrong)

/-- 'crumplelaw04.BarrierWalls': WHATEVER THE INPUT: true; the input reads as it did. -/
def barrierWallsSpec : ChangeSpec := { name := "barrierWalls", fn := fun _ => fun
  | [d1, d2] => { results := [.lit (.bool true)], args := [d1, d2] }
  | _ => none }
def barrierWallsRow : OpenClaim := { program := "ytfkacogfieiccaagreatdoor", sum := "4de3c6cce6676ab4f575bb015275fab69db33b1c5e54151aeb1e57f525aeb966", func := "crumple/crumplelaw04.BarrierWalls", spec := "barrierWalls", inPlace := ["internal/abi.NoEscape", "internal/bytealg.MakeNoZero", "internal/bytealg.IndexByteString", "internal/bytealg.CountString", "internal/bytealg.IndexString"], unfollowed := true, recurses := true, named := ["crumple/barrier.axes", "crumple/barrier.forms", "internal/strconv.uint64pow10", "math/bits.deBruijn32tab", "math/bits.deBruijn64tab", "unicode/utf8.first", "unicode/utf8.acceptRanges", "internal/bytealg.MaxLen"], apart := false, laid := [("math/bits.deBruijn32tab", laid_math_bits_deBruijn32tab), ("math/bits.deBruijn64tab", laid_math_bits_deBruijn64tab), ("internal/strconv.uint64pow10", laid_internal_strconv_uint64pow10), ("unicode/utf8.acceptRanges", laid_unicode_utf8_acceptRanges), ("crumple/barrier.axes", laid_crumple_barrier_axes), ("crumple/barrier.forms", laid_crumple_barrier_forms), ("unicode/utf8.first", laid_unicode_utf8_first)] }
def BarrierWallsSaid : Prop := barrierWallsRow.holds Tryz.pinned (OpenSpec.ofChange barrierWallsSpec)

/-- ITS FALSE NEIGHBOUR: 'it returns false'. Refute it at one input. -/
def barrierWallsWrong : ChangeSpec := { name := "barrierWalls", fn := fun _ => fun
  | [d1, d2] => { results := [.lit (.bool false)], args := [d1, d2] }
  | _ => none }
def BarrierWallsWrongFalsely : Prop := barrierWallsRow.holds Tryz.pinned (OpenSpec.ofChange barrierWallsWrong)

/-- 'crumplelaw04.BarrierStrings': WHATEVER THE INPUT: true; the input reads as it did. -/
def barrierStringsSpec : ChangeSpec := { name := "barrierStrings", fn := fun _ => fun
  | [d1, d2] => { results := [.lit (.bool true)], args := [d1, d2] }
  | _ => none }
def barrierStringsRow : OpenClaim := { program := "ytfkacogfieiccaagreatdoor", sum := "4de3c6cce6676ab4f575bb015275fab69db33b1c5e54151aeb1e57f525aeb966", func := "crumple/crumplelaw04.BarrierStrings", spec := "barrierStrings", inPlace := ["internal/abi.NoEscape", "internal/bytealg.MakeNoZero", "internal/bytealg.IndexByteString", "internal/bytealg.CountString", "internal/bytealg.IndexString"], unfollowed := true, recurses := true, named := ["crumple/barrier.axes", "crumple/barrier.forms", "internal/strconv.uint64pow10", "math/bits.deBruijn32tab", "math/bits.deBruijn64tab", "unicode/utf8.first", "unicode/utf8.acceptRanges", "internal/bytealg.MaxLen"], apart := false, laid := [("math/bits.deBruijn32tab", laid_math_bits_deBruijn32tab), ("math/bits.deBruijn64tab", laid_math_bits_deBruijn64tab), ("internal/strconv.uint64pow10", laid_internal_strconv_uint64pow10), ("unicode/utf8.acceptRanges", laid_unicode_utf8_acceptRanges), ("crumple/barrier.axes", laid_crumple_barrier_axes), ("crumple/barrier.forms", laid_crumple_barrier_forms), ("unicode/utf8.first", laid_unicode_utf8_first)] }
def BarrierStringsSaid : Prop := barrierStringsRow.holds Tryz.pinned (OpenSpec.ofChange barrierStringsSpec)

/-- ITS FALSE NEIGHBOUR: 'it returns false'. Refute it at one input. -/
def barrierStringsWrong : ChangeSpec := { name := "barrierStrings", fn := fun _ => fun
  | [d1, d2] => { results := [.lit (.bool false)], args := [d1, d2] }
  | _ => none }
def BarrierStringsWrongFalsely : Prop := barrierStringsRow.holds Tryz.pinned (OpenSpec.ofChange barrierStringsWrong)

/-- 'crumplelaw04.BarrierStops': WHATEVER THE INPUT: true; the input reads as it did. -/
def barrierStopsSpec : ChangeSpec := { name := "barrierStops", fn := fun _ => fun
  | [d1, d2] => { results := [.lit (.bool true)], args := [d1, d2] }
  | _ => none }
def barrierStopsRow : OpenClaim := { program := "ytfkacogfieiccaagreatdoor", sum := "4de3c6cce6676ab4f575bb015275fab69db33b1c5e54151aeb1e57f525aeb966", func := "crumple/crumplelaw04.BarrierStops", spec := "barrierStops", inPlace := ["internal/abi.NoEscape", "internal/bytealg.MakeNoZero", "internal/bytealg.IndexByteString", "internal/bytealg.CountString", "internal/bytealg.IndexString"], unfollowed := true, recurses := true, named := ["crumple/barrier.axes", "crumple/barrier.forms", "internal/strconv.uint64pow10", "math/bits.deBruijn32tab", "math/bits.deBruijn64tab", "unicode/utf8.first", "unicode/utf8.acceptRanges", "internal/bytealg.MaxLen"], apart := false, laid := [("math/bits.deBruijn32tab", laid_math_bits_deBruijn32tab), ("math/bits.deBruijn64tab", laid_math_bits_deBruijn64tab), ("internal/strconv.uint64pow10", laid_internal_strconv_uint64pow10), ("unicode/utf8.acceptRanges", laid_unicode_utf8_acceptRanges), ("crumple/barrier.axes", laid_crumple_barrier_axes), ("crumple/barrier.forms", laid_crumple_barrier_forms), ("unicode/utf8.first", laid_unicode_utf8_first)] }
def BarrierStopsSaid : Prop := barrierStopsRow.holds Tryz.pinned (OpenSpec.ofChange barrierStopsSpec)

/-- ITS FALSE NEIGHBOUR: 'it returns false'. Refute it at one input. -/
def barrierStopsWrong : ChangeSpec := { name := "barrierStops", fn := fun _ => fun
  | [d1, d2] => { results := [.lit (.bool false)], args := [d1, d2] }
  | _ => none }
def BarrierStopsWrongFalsely : Prop := barrierStopsRow.holds Tryz.pinned (OpenSpec.ofChange barrierStopsWrong)

/-- 'crumplelaw04.BarrierFarther': WHATEVER THE INPUT: true; the input reads as it did. -/
def barrierFartherSpec : ChangeSpec := { name := "barrierFarther", fn := fun _ => fun
  | [d1, d2] => { results := [.lit (.bool true)], args := [d1, d2] }
  | _ => none }
def barrierFartherRow : OpenClaim := { program := "ytfkacogfieiccaagreatdoor", sum := "4de3c6cce6676ab4f575bb015275fab69db33b1c5e54151aeb1e57f525aeb966", func := "crumple/crumplelaw04.BarrierFarther", spec := "barrierFarther", inPlace := ["internal/abi.NoEscape", "internal/bytealg.MakeNoZero", "internal/bytealg.IndexByteString", "internal/bytealg.CountString", "internal/bytealg.IndexString"], unfollowed := true, recurses := true, named := ["crumple/barrier.axes", "crumple/barrier.forms", "internal/strconv.uint64pow10", "math/bits.deBruijn32tab", "math/bits.deBruijn64tab", "unicode/utf8.first", "unicode/utf8.acceptRanges", "internal/bytealg.MaxLen"], apart := false, laid := [("math/bits.deBruijn32tab", laid_math_bits_deBruijn32tab), ("math/bits.deBruijn64tab", laid_math_bits_deBruijn64tab), ("internal/strconv.uint64pow10", laid_internal_strconv_uint64pow10), ("unicode/utf8.acceptRanges", laid_unicode_utf8_acceptRanges), ("crumple/barrier.axes", laid_crumple_barrier_axes), ("crumple/barrier.forms", laid_crumple_barrier_forms), ("unicode/utf8.first", laid_unicode_utf8_first)] }
def BarrierFartherSaid : Prop := barrierFartherRow.holds Tryz.pinned (OpenSpec.ofChange barrierFartherSpec)

/-- ITS FALSE NEIGHBOUR: 'it returns false'. Refute it at one input. -/
def barrierFartherWrong : ChangeSpec := { name := "barrierFarther", fn := fun _ => fun
  | [d1, d2] => { results := [.lit (.bool false)], args := [d1, d2] }
  | _ => none }
def BarrierFartherWrongFalsely : Prop := barrierFartherRow.holds Tryz.pinned (OpenSpec.ofChange barrierFartherWrong)

/-- 'crumplelaw04.BarrierTrue': WHATEVER THE INPUT: true; the input reads as it did. -/
def barrierTrueSpec : ChangeSpec := { name := "barrierTrue", fn := fun _ => fun
  | [d1, d2, d3] => { results := [.lit (.bool true)], args := [d1, d2, d3] }
  | _ => none }
def barrierTrueRow : OpenClaim := { program := "ytfkacogfieiccaagreatdoor", sum := "4de3c6cce6676ab4f575bb015275fab69db33b1c5e54151aeb1e57f525aeb966", func := "crumple/crumplelaw04.BarrierTrue", spec := "barrierTrue", inPlace := ["internal/abi.NoEscape", "internal/bytealg.MakeNoZero", "internal/bytealg.IndexByteString", "internal/bytealg.CountString", "internal/bytealg.IndexString"], unfollowed := true, recurses := true, named := ["crumple/barrier.axes", "crumple/barrier.forms", "internal/strconv.uint64pow10", "math/bits.deBruijn32tab", "math/bits.deBruijn64tab", "unicode/utf8.first", "unicode/utf8.acceptRanges", "internal/bytealg.MaxLen"], apart := false, laid := [("math/bits.deBruijn32tab", laid_math_bits_deBruijn32tab), ("math/bits.deBruijn64tab", laid_math_bits_deBruijn64tab), ("internal/strconv.uint64pow10", laid_internal_strconv_uint64pow10), ("unicode/utf8.acceptRanges", laid_unicode_utf8_acceptRanges), ("crumple/barrier.axes", laid_crumple_barrier_axes), ("crumple/barrier.forms", laid_crumple_barrier_forms), ("unicode/utf8.first", laid_unicode_utf8_first)] }
def BarrierTrueSaid : Prop := barrierTrueRow.holds Tryz.pinned (OpenSpec.ofChange barrierTrueSpec)

/-- ITS FALSE NEIGHBOUR: 'it returns false'. Refute it at one input. -/
def barrierTrueWrong : ChangeSpec := { name := "barrierTrue", fn := fun _ => fun
  | [d1, d2, d3] => { results := [.lit (.bool false)], args := [d1, d2, d3] }
  | _ => none }
def BarrierTrueWrongFalsely : Prop := barrierTrueRow.holds Tryz.pinned (OpenSpec.ofChange barrierTrueWrong)

/- THE SECOND FORM. 'bulk': how many values and letters a reading holds, each counted each time it is reached (what is shared counts as often as it is met; a slice's spare places count too). A statement '..UptoSaid' is the law's where the arguments, and the package variables that the reading takes, are together of bulk at most 1048576: NARROWER than '..Said'. Prove '..Said' where nothing that the law and all that it calls make is longer than what came in: it says more and counts as full. Else prove '..UptoSaid'. A law counts once. -/
mutual
def uptoBulk {H : Type} : DataW H → Nat
  | .lit (.string bytes) => bytes.length + 1
  | .lit _ => 1
  | .nil => 1
  | .ptr d => uptoBulk d + 1
  | .slice elems spare => uptoBulkAll elems + uptoBulkAll spare + 1
  | .agg parts => uptoBulkAll parts + 1
  | .iface _ d => uptoBulk d + 1
  | .map entries => uptoBulkEntries entries + 1
  | .held _ => 1
def uptoBulkAll {H : Type} : List (DataW H) → Nat
  | [] => 0
  | d :: r => uptoBulk d + uptoBulkAll r
def uptoBulkEntries {H : Type} : List (Lit × DataW H) → Nat
  | [] => 0
  | x :: r => uptoBulkEntry x + uptoBulkEntries r
def uptoBulkEntry {H : Type} : Lit × DataW H → Nat
  | (.string bytes, d) => bytes.length + uptoBulk d + 1
  | (_, d) => uptoBulk d + 1
 end
def uptoSmall : (H : Type) → List (DataW H) → Bool := fun _ ds => decide (uptoBulkAll ds ≤ 1048576)
def OpenSpec.upto (s : _root_.Go.ChangeSpec) : _root_.Go.OpenSpec := { _root_.Go.OpenSpec.ofChange s with cond := some uptoSmall }

/-- 'crumplelaw04.BarrierSpeeds', WHERE WHAT IT READS IS OF BULK AT MOST 1048576: true; the input reads as it did. -/
def barrierSpeedsUptoRow : OpenClaim := { program := "ytfkacogfieiccaagreatdoor", sum := "4de3c6cce6676ab4f575bb015275fab69db33b1c5e54151aeb1e57f525aeb966", func := "crumple/crumplelaw04.BarrierSpeeds", spec := "barrierSpeeds", inPlace := ["internal/abi.NoEscape", "internal/bytealg.MakeNoZero", "internal/bytealg.IndexByteString", "internal/bytealg.CountString", "internal/bytealg.IndexString"], unfollowed := true, recurses := true, named := ["crumple/barrier.axes", "crumple/barrier.forms", "internal/strconv.uint64pow10", "math/bits.deBruijn32tab", "math/bits.deBruijn64tab", "unicode/utf8.first", "unicode/utf8.acceptRanges", "internal/bytealg.MaxLen"], apart := false, laid := [("math/bits.deBruijn32tab", laid_math_bits_deBruijn32tab), ("math/bits.deBruijn64tab", laid_math_bits_deBruijn64tab), ("internal/strconv.uint64pow10", laid_internal_strconv_uint64pow10), ("unicode/utf8.acceptRanges", laid_unicode_utf8_acceptRanges), ("crumple/barrier.axes", laid_crumple_barrier_axes), ("crumple/barrier.forms", laid_crumple_barrier_forms), ("unicode/utf8.first", laid_unicode_utf8_first)], narrowed := true }
def BarrierSpeedsUptoSaid : Prop := barrierSpeedsUptoRow.holds Tryz.pinned (OpenSpec.upto barrierSpeedsSpec)

/-- 'crumplelaw04.BarrierClasses', WHERE WHAT IT READS IS OF BULK AT MOST 1048576: true; the input reads as it did. -/
def barrierClassesUptoRow : OpenClaim := { program := "ytfkacogfieiccaagreatdoor", sum := "4de3c6cce6676ab4f575bb015275fab69db33b1c5e54151aeb1e57f525aeb966", func := "crumple/crumplelaw04.BarrierClasses", spec := "barrierClasses", inPlace := ["internal/abi.NoEscape", "internal/bytealg.MakeNoZero", "internal/bytealg.IndexByteString", "internal/bytealg.CountString", "internal/bytealg.IndexString"], unfollowed := true, recurses := true, named := ["crumple/barrier.axes", "crumple/barrier.forms", "internal/strconv.uint64pow10", "math/bits.deBruijn32tab", "math/bits.deBruijn64tab", "unicode/utf8.first", "unicode/utf8.acceptRanges", "internal/bytealg.MaxLen"], apart := false, laid := [("math/bits.deBruijn32tab", laid_math_bits_deBruijn32tab), ("math/bits.deBruijn64tab", laid_math_bits_deBruijn64tab), ("internal/strconv.uint64pow10", laid_internal_strconv_uint64pow10), ("unicode/utf8.acceptRanges", laid_unicode_utf8_acceptRanges), ("crumple/barrier.axes", laid_crumple_barrier_axes), ("crumple/barrier.forms", laid_crumple_barrier_forms), ("unicode/utf8.first", laid_unicode_utf8_first)], narrowed := true }
def BarrierClassesUptoSaid : Prop := barrierClassesUptoRow.holds Tryz.pinned (OpenSpec.upto barrierClassesSpec)

/-- 'crumplelaw04.BarrierTows', WHERE WHAT IT READS IS OF BULK AT MOST 1048576: true; the input reads as it did. -/
def barrierTowsUptoRow : OpenClaim := { program := "ytfkacogfieiccaagreatdoor", sum := "4de3c6cce6676ab4f575bb015275fab69db33b1c5e54151aeb1e57f525aeb966", func := "crumple/crumplelaw04.BarrierTows", spec := "barrierTows", inPlace := ["internal/abi.NoEscape", "internal/bytealg.MakeNoZero", "internal/bytealg.IndexByteString", "internal/bytealg.CountString", "internal/bytealg.IndexString"], unfollowed := true, recurses := true, named := ["crumple/barrier.axes", "crumple/barrier.forms", "internal/strconv.uint64pow10", "math/bits.deBruijn32tab", "math/bits.deBruijn64tab", "unicode/utf8.first", "unicode/utf8.acceptRanges", "internal/bytealg.MaxLen"], apart := false, laid := [("math/bits.deBruijn32tab", laid_math_bits_deBruijn32tab), ("math/bits.deBruijn64tab", laid_math_bits_deBruijn64tab), ("internal/strconv.uint64pow10", laid_internal_strconv_uint64pow10), ("unicode/utf8.acceptRanges", laid_unicode_utf8_acceptRanges), ("crumple/barrier.axes", laid_crumple_barrier_axes), ("crumple/barrier.forms", laid_crumple_barrier_forms), ("unicode/utf8.first", laid_unicode_utf8_first)], narrowed := true }
def BarrierTowsUptoSaid : Prop := barrierTowsUptoRow.holds Tryz.pinned (OpenSpec.upto barrierTowsSpec)

/-- 'crumplelaw04.BarrierTables', WHERE WHAT IT READS IS OF BULK AT MOST 1048576: true; the input reads as it did. -/
def barrierTablesUptoRow : OpenClaim := { program := "ytfkacogfieiccaagreatdoor", sum := "4de3c6cce6676ab4f575bb015275fab69db33b1c5e54151aeb1e57f525aeb966", func := "crumple/crumplelaw04.BarrierTables", spec := "barrierTables", inPlace := ["internal/abi.NoEscape", "internal/bytealg.MakeNoZero", "internal/bytealg.IndexByteString", "internal/bytealg.CountString", "internal/bytealg.IndexString"], unfollowed := true, recurses := true, named := ["crumple/barrier.axes", "crumple/barrier.forms", "internal/strconv.uint64pow10", "math/bits.deBruijn32tab", "math/bits.deBruijn64tab", "unicode/utf8.first", "unicode/utf8.acceptRanges", "internal/bytealg.MaxLen"], apart := false, laid := [("math/bits.deBruijn32tab", laid_math_bits_deBruijn32tab), ("math/bits.deBruijn64tab", laid_math_bits_deBruijn64tab), ("internal/strconv.uint64pow10", laid_internal_strconv_uint64pow10), ("unicode/utf8.acceptRanges", laid_unicode_utf8_acceptRanges), ("crumple/barrier.axes", laid_crumple_barrier_axes), ("crumple/barrier.forms", laid_crumple_barrier_forms), ("unicode/utf8.first", laid_unicode_utf8_first)], narrowed := true }
def BarrierTablesUptoSaid : Prop := barrierTablesUptoRow.holds Tryz.pinned (OpenSpec.upto barrierTablesSpec)

/-- 'crumplelaw04.BarrierBalances', WHERE WHAT IT READS IS OF BULK AT MOST 1048576: true; the input reads as it did. -/
def barrierBalancesUptoRow : OpenClaim := { program := "ytfkacogfieiccaagreatdoor", sum := "4de3c6cce6676ab4f575bb015275fab69db33b1c5e54151aeb1e57f525aeb966", func := "crumple/crumplelaw04.BarrierBalances", spec := "barrierBalances", inPlace := ["internal/abi.NoEscape", "internal/bytealg.MakeNoZero", "internal/bytealg.IndexByteString", "internal/bytealg.CountString", "internal/bytealg.IndexString"], unfollowed := true, recurses := true, named := ["crumple/barrier.axes", "crumple/barrier.forms", "internal/strconv.uint64pow10", "math/bits.deBruijn32tab", "math/bits.deBruijn64tab", "unicode/utf8.first", "unicode/utf8.acceptRanges", "internal/bytealg.MaxLen"], apart := false, laid := [("math/bits.deBruijn32tab", laid_math_bits_deBruijn32tab), ("math/bits.deBruijn64tab", laid_math_bits_deBruijn64tab), ("internal/strconv.uint64pow10", laid_internal_strconv_uint64pow10), ("unicode/utf8.acceptRanges", laid_unicode_utf8_acceptRanges), ("crumple/barrier.axes", laid_crumple_barrier_axes), ("crumple/barrier.forms", laid_crumple_barrier_forms), ("unicode/utf8.first", laid_unicode_utf8_first)], narrowed := true }
def BarrierBalancesUptoSaid : Prop := barrierBalancesUptoRow.holds Tryz.pinned (OpenSpec.upto barrierBalancesSpec)

/-- 'crumplelaw04.BarrierWalls', WHERE WHAT IT READS IS OF BULK AT MOST 1048576: true; the input reads as it did. -/
def barrierWallsUptoRow : OpenClaim := { program := "ytfkacogfieiccaagreatdoor", sum := "4de3c6cce6676ab4f575bb015275fab69db33b1c5e54151aeb1e57f525aeb966", func := "crumple/crumplelaw04.BarrierWalls", spec := "barrierWalls", inPlace := ["internal/abi.NoEscape", "internal/bytealg.MakeNoZero", "internal/bytealg.IndexByteString", "internal/bytealg.CountString", "internal/bytealg.IndexString"], unfollowed := true, recurses := true, named := ["crumple/barrier.axes", "crumple/barrier.forms", "internal/strconv.uint64pow10", "math/bits.deBruijn32tab", "math/bits.deBruijn64tab", "unicode/utf8.first", "unicode/utf8.acceptRanges", "internal/bytealg.MaxLen"], apart := false, laid := [("math/bits.deBruijn32tab", laid_math_bits_deBruijn32tab), ("math/bits.deBruijn64tab", laid_math_bits_deBruijn64tab), ("internal/strconv.uint64pow10", laid_internal_strconv_uint64pow10), ("unicode/utf8.acceptRanges", laid_unicode_utf8_acceptRanges), ("crumple/barrier.axes", laid_crumple_barrier_axes), ("crumple/barrier.forms", laid_crumple_barrier_forms), ("unicode/utf8.first", laid_unicode_utf8_first)], narrowed := true }
def BarrierWallsUptoSaid : Prop := barrierWallsUptoRow.holds Tryz.pinned (OpenSpec.upto barrierWallsSpec)

/-- 'crumplelaw04.BarrierStrings', WHERE WHAT IT READS IS OF BULK AT MOST 1048576: true; the input reads as it did. -/
def barrierStringsUptoRow : OpenClaim := { program := "ytfkacogfieiccaagreatdoor", sum := "4de3c6cce6676ab4f575bb015275fab69db33b1c5e54151aeb1e57f525aeb966", func := "crumple/crumplelaw04.BarrierStrings", spec := "barrierStrings", inPlace := ["internal/abi.NoEscape", "internal/bytealg.MakeNoZero", "internal/bytealg.IndexByteString", "internal/bytealg.CountString", "internal/bytealg.IndexString"], unfollowed := true, recurses := true, named := ["crumple/barrier.axes", "crumple/barrier.forms", "internal/strconv.uint64pow10", "math/bits.deBruijn32tab", "math/bits.deBruijn64tab", "unicode/utf8.first", "unicode/utf8.acceptRanges", "internal/bytealg.MaxLen"], apart := false, laid := [("math/bits.deBruijn32tab", laid_math_bits_deBruijn32tab), ("math/bits.deBruijn64tab", laid_math_bits_deBruijn64tab), ("internal/strconv.uint64pow10", laid_internal_strconv_uint64pow10), ("unicode/utf8.acceptRanges", laid_unicode_utf8_acceptRanges), ("crumple/barrier.axes", laid_crumple_barrier_axes), ("crumple/barrier.forms", laid_crumple_barrier_forms), ("unicode/utf8.first", laid_unicode_utf8_first)], narrowed := true }
def BarrierStringsUptoSaid : Prop := barrierStringsUptoRow.holds Tryz.pinned (OpenSpec.upto barrierStringsSpec)

/-- 'crumplelaw04.BarrierStops', WHERE WHAT IT READS IS OF BULK AT MOST 1048576: true; the input reads as it did. -/
def barrierStopsUptoRow : OpenClaim := { program := "ytfkacogfieiccaagreatdoor", sum := "4de3c6cce6676ab4f575bb015275fab69db33b1c5e54151aeb1e57f525aeb966", func := "crumple/crumplelaw04.BarrierStops", spec := "barrierStops", inPlace := ["internal/abi.NoEscape", "internal/bytealg.MakeNoZero", "internal/bytealg.IndexByteString", "internal/bytealg.CountString", "internal/bytealg.IndexString"], unfollowed := true, recurses := true, named := ["crumple/barrier.axes", "crumple/barrier.forms", "internal/strconv.uint64pow10", "math/bits.deBruijn32tab", "math/bits.deBruijn64tab", "unicode/utf8.first", "unicode/utf8.acceptRanges", "internal/bytealg.MaxLen"], apart := false, laid := [("math/bits.deBruijn32tab", laid_math_bits_deBruijn32tab), ("math/bits.deBruijn64tab", laid_math_bits_deBruijn64tab), ("internal/strconv.uint64pow10", laid_internal_strconv_uint64pow10), ("unicode/utf8.acceptRanges", laid_unicode_utf8_acceptRanges), ("crumple/barrier.axes", laid_crumple_barrier_axes), ("crumple/barrier.forms", laid_crumple_barrier_forms), ("unicode/utf8.first", laid_unicode_utf8_first)], narrowed := true }
def BarrierStopsUptoSaid : Prop := barrierStopsUptoRow.holds Tryz.pinned (OpenSpec.upto barrierStopsSpec)

/-- 'crumplelaw04.BarrierFarther', WHERE WHAT IT READS IS OF BULK AT MOST 1048576: true; the input reads as it did. -/
def barrierFartherUptoRow : OpenClaim := { program := "ytfkacogfieiccaagreatdoor", sum := "4de3c6cce6676ab4f575bb015275fab69db33b1c5e54151aeb1e57f525aeb966", func := "crumple/crumplelaw04.BarrierFarther", spec := "barrierFarther", inPlace := ["internal/abi.NoEscape", "internal/bytealg.MakeNoZero", "internal/bytealg.IndexByteString", "internal/bytealg.CountString", "internal/bytealg.IndexString"], unfollowed := true, recurses := true, named := ["crumple/barrier.axes", "crumple/barrier.forms", "internal/strconv.uint64pow10", "math/bits.deBruijn32tab", "math/bits.deBruijn64tab", "unicode/utf8.first", "unicode/utf8.acceptRanges", "internal/bytealg.MaxLen"], apart := false, laid := [("math/bits.deBruijn32tab", laid_math_bits_deBruijn32tab), ("math/bits.deBruijn64tab", laid_math_bits_deBruijn64tab), ("internal/strconv.uint64pow10", laid_internal_strconv_uint64pow10), ("unicode/utf8.acceptRanges", laid_unicode_utf8_acceptRanges), ("crumple/barrier.axes", laid_crumple_barrier_axes), ("crumple/barrier.forms", laid_crumple_barrier_forms), ("unicode/utf8.first", laid_unicode_utf8_first)], narrowed := true }
def BarrierFartherUptoSaid : Prop := barrierFartherUptoRow.holds Tryz.pinned (OpenSpec.upto barrierFartherSpec)

/-- 'crumplelaw04.BarrierTrue', WHERE WHAT IT READS IS OF BULK AT MOST 1048576: true; the input reads as it did. -/
def barrierTrueUptoRow : OpenClaim := { program := "ytfkacogfieiccaagreatdoor", sum := "4de3c6cce6676ab4f575bb015275fab69db33b1c5e54151aeb1e57f525aeb966", func := "crumple/crumplelaw04.BarrierTrue", spec := "barrierTrue", inPlace := ["internal/abi.NoEscape", "internal/bytealg.MakeNoZero", "internal/bytealg.IndexByteString", "internal/bytealg.CountString", "internal/bytealg.IndexString"], unfollowed := true, recurses := true, named := ["crumple/barrier.axes", "crumple/barrier.forms", "internal/strconv.uint64pow10", "math/bits.deBruijn32tab", "math/bits.deBruijn64tab", "unicode/utf8.first", "unicode/utf8.acceptRanges", "internal/bytealg.MaxLen"], apart := false, laid := [("math/bits.deBruijn32tab", laid_math_bits_deBruijn32tab), ("math/bits.deBruijn64tab", laid_math_bits_deBruijn64tab), ("internal/strconv.uint64pow10", laid_internal_strconv_uint64pow10), ("unicode/utf8.acceptRanges", laid_unicode_utf8_acceptRanges), ("crumple/barrier.axes", laid_crumple_barrier_axes), ("crumple/barrier.forms", laid_crumple_barrier_forms), ("unicode/utf8.first", laid_unicode_utf8_first)], narrowed := true }
def BarrierTrueUptoSaid : Prop := barrierTrueUptoRow.holds Tryz.pinned (OpenSpec.upto barrierTrueSpec)

end Rows
end Go.Proofs.YtfkacogfieiccaaGreatDoor
