/-
  NARROWER THAN 'FOR EVERY INPUT', by the rows' own cells (each row's printed sentence says how): PulseRuns: laid · PulseLanes: laid · PulseLearns: laid · PulseSpreads: laid · PulseStrings: laid · PulseBelow: laid · PulseApart: laid · PulsePacks: laid · PulseChosen: laid.
  DERIVED. THE GIVEN ROWS OF THIS SEAT. 9 by the template 'for every input the law returns true; each argument reads behind the call as it read before'; 0 by the template 'total and deterministic' (their statements: YtombnimlolbekaaGreatDoorTotals.lean).
  GIVEN WITH THE SEED: the statements are not yours to turn. If you find one false, say at which input.
  Laid BY PROGRAM, IN A SANDBOX (cutbox-rows.mjs): the forced cells as the released guide's own fill.sh prints them over the translation fba6c2f52066d421… (all of the seat's roots in one cut). By AI agents, Wed Nov 11 2026. No macro, syntax, notation, axiom, sorry.
-/
import Derived.Test.YtombnimlolbekaaGreatDoorChecked
import GoSem.PinnedTables
import GoSem.Claim
import GoSem.ClaimJoined
import GoSem.ClaimMapViews
import Derived.JoinedTies
import Derived.KernelRfl
namespace Go.Proofs.YtombnimlolbekaaGreatDoor
/- THE CELL 'sum', in the pinned program and in every row, IS THE sha256 OF THE DUMP (.gsa) THAT YtombnimlolbekaaGreatDoorProg.lean LOADS. Nothing in Lean hashes anything: it is a label: what it is worth is what the hold of that sum in a sandbox is worth. -/
noncomputable def Tryz.pinned : Pinned := { name := "ytombnimlolbekaagreatdoor", sum := "fba6c2f52066d42114341c1642bc63a7dddd2f69c22110a6f5b8516a99daa3be", checked := Tryz.checked }
namespace Rows
def none {H : Type} : Left H := { results := [], args := [] }

/- WHAT THE LISTED PACKAGE-LEVEL VARIABLES READ AS WHEN THE CALL BEGINS. Each datum BY PROGRAM (the guide's laid-datum.mjs) off the statement by which the dump's own 'gosem.cut.vars' lays the variable. In a bare row this is a premise. The card (YtombnimlolbekaaGreatDoorCards.lean) ties it to the program's text. -/
def laid_math_bits_deBruijn32tab {H : Type} : DataW H := .agg [.lit (.int .u8 0), .lit (.int .u8 1), .lit (.int .u8 28), .lit (.int .u8 2), .lit (.int .u8 29), .lit (.int .u8 14), .lit (.int .u8 24), .lit (.int .u8 3), .lit (.int .u8 30), .lit (.int .u8 22), .lit (.int .u8 20), .lit (.int .u8 15), .lit (.int .u8 25), .lit (.int .u8 17), .lit (.int .u8 4), .lit (.int .u8 8), .lit (.int .u8 31), .lit (.int .u8 27), .lit (.int .u8 13), .lit (.int .u8 23), .lit (.int .u8 21), .lit (.int .u8 19), .lit (.int .u8 16), .lit (.int .u8 7), .lit (.int .u8 26), .lit (.int .u8 12), .lit (.int .u8 18), .lit (.int .u8 6), .lit (.int .u8 11), .lit (.int .u8 5), .lit (.int .u8 10), .lit (.int .u8 9)]
def laid_math_bits_deBruijn64tab {H : Type} : DataW H := .agg [.lit (.int .u8 0), .lit (.int .u8 1), .lit (.int .u8 56), .lit (.int .u8 2), .lit (.int .u8 57), .lit (.int .u8 49), .lit (.int .u8 28), .lit (.int .u8 3), .lit (.int .u8 61), .lit (.int .u8 58), .lit (.int .u8 42), .lit (.int .u8 50), .lit (.int .u8 38), .lit (.int .u8 29), .lit (.int .u8 17), .lit (.int .u8 4), .lit (.int .u8 62), .lit (.int .u8 47), .lit (.int .u8 59), .lit (.int .u8 36), .lit (.int .u8 45), .lit (.int .u8 43), .lit (.int .u8 51), .lit (.int .u8 22), .lit (.int .u8 53), .lit (.int .u8 39), .lit (.int .u8 33), .lit (.int .u8 30), .lit (.int .u8 24), .lit (.int .u8 18), .lit (.int .u8 12), .lit (.int .u8 5), .lit (.int .u8 63), .lit (.int .u8 55), .lit (.int .u8 48), .lit (.int .u8 27), .lit (.int .u8 60), .lit (.int .u8 41), .lit (.int .u8 37), .lit (.int .u8 16), .lit (.int .u8 46), .lit (.int .u8 35), .lit (.int .u8 44), .lit (.int .u8 21), .lit (.int .u8 52), .lit (.int .u8 32), .lit (.int .u8 23), .lit (.int .u8 11), .lit (.int .u8 54), .lit (.int .u8 26), .lit (.int .u8 40), .lit (.int .u8 15), .lit (.int .u8 34), .lit (.int .u8 20), .lit (.int .u8 31), .lit (.int .u8 10), .lit (.int .u8 25), .lit (.int .u8 14), .lit (.int .u8 19), .lit (.int .u8 9), .lit (.int .u8 13), .lit (.int .u8 8), .lit (.int .u8 7), .lit (.int .u8 6)]
def laid_internal_strconv_uint64pow10 {H : Type} : DataW H := .agg [.lit (.int .u64 1), .lit (.int .u64 10), .lit (.int .u64 100), .lit (.int .u64 1000), .lit (.int .u64 10000), .lit (.int .u64 100000), .lit (.int .u64 1000000), .lit (.int .u64 10000000), .lit (.int .u64 100000000), .lit (.int .u64 1000000000), .lit (.int .u64 10000000000), .lit (.int .u64 100000000000), .lit (.int .u64 1000000000000), .lit (.int .u64 10000000000000), .lit (.int .u64 100000000000000), .lit (.int .u64 1000000000000000), .lit (.int .u64 10000000000000000), .lit (.int .u64 100000000000000000), .lit (.int .u64 1000000000000000000), .lit (.int .u64 10000000000000000000)]
def laid_unicode_utf8_acceptRanges {H : Type} : DataW H := .agg [.agg [.lit (.int .u8 128), .lit (.int .u8 191)], .agg [.lit (.int .u8 160), .lit (.int .u8 191)], .agg [.lit (.int .u8 128), .lit (.int .u8 159)], .agg [.lit (.int .u8 144), .lit (.int .u8 191)], .agg [.lit (.int .u8 128), .lit (.int .u8 143)], .agg [.lit (.int .u8 0), .lit (.int .u8 0)], .agg [.lit (.int .u8 0), .lit (.int .u8 0)], .agg [.lit (.int .u8 0), .lit (.int .u8 0)], .agg [.lit (.int .u8 0), .lit (.int .u8 0)], .agg [.lit (.int .u8 0), .lit (.int .u8 0)], .agg [.lit (.int .u8 0), .lit (.int .u8 0)], .agg [.lit (.int .u8 0), .lit (.int .u8 0)], .agg [.lit (.int .u8 0), .lit (.int .u8 0)], .agg [.lit (.int .u8 0), .lit (.int .u8 0)], .agg [.lit (.int .u8 0), .lit (.int .u8 0)], .agg [.lit (.int .u8 0), .lit (.int .u8 0)]]
def laid_crumple_pulse_heads {H : Type} : DataW H := .agg [.lit (.string [115, 116, 101, 112])]
/-- One of Go's own tables, pinned by name: the form's constant. -/
def laid_unicode_utf8_first : DataW Unit := Go.Pinned.utf8First

/-- 'crumplelaw08.PulseRuns': WHATEVER THE INPUT: true; the input reads as it did. -/
def pulseRunsSpec : ChangeSpec := { name := "pulseRuns", fn := fun _ => fun
  | [d1, d2, d3] => { results := [.lit (.bool true)], args := [d1, d2, d3] }
  | _ => none }
def pulseRunsRow : OpenClaim := { program := "ytombnimlolbekaagreatdoor", sum := "fba6c2f52066d42114341c1642bc63a7dddd2f69c22110a6f5b8516a99daa3be", func := "crumple/crumplelaw08.PulseRuns", spec := "pulseRuns", inPlace := ["internal/abi.NoEscape", "internal/bytealg.MakeNoZero", "internal/bytealg.IndexByteString", "internal/bytealg.CountString", "internal/bytealg.IndexString"], unfollowed := true, recurses := true, named := ["crumple/pulse.heads", "internal/strconv.uint64pow10", "math/bits.deBruijn32tab", "math/bits.deBruijn64tab", "unicode/utf8.first", "unicode/utf8.acceptRanges", "internal/bytealg.MaxLen"], apart := false, laid := [("math/bits.deBruijn32tab", laid_math_bits_deBruijn32tab), ("math/bits.deBruijn64tab", laid_math_bits_deBruijn64tab), ("internal/strconv.uint64pow10", laid_internal_strconv_uint64pow10), ("unicode/utf8.acceptRanges", laid_unicode_utf8_acceptRanges), ("crumple/pulse.heads", laid_crumple_pulse_heads), ("unicode/utf8.first", laid_unicode_utf8_first)] }
def PulseRunsSaid : Prop := pulseRunsRow.holds Tryz.pinned (OpenSpec.ofChange pulseRunsSpec)

/-- ITS FALSE NEIGHBOUR: 'it returns false'. Refute it at one input. -/
def pulseRunsWrong : ChangeSpec := { name := "pulseRuns", fn := fun _ => fun
  | [d1, d2, d3] => { results := [.lit (.bool false)], args := [d1, d2, d3] }
  | _ => none }
def PulseRunsWrongFalsely : Prop := pulseRunsRow.holds Tryz.pinned (OpenSpec.ofChange pulseRunsWrong)

/-- 'crumplelaw08.PulseLanes': WHATEVER THE INPUT: true; the input reads as it did. -/
def pulseLanesSpec : ChangeSpec := { name := "pulseLanes", fn := fun _ => fun
  | [d1, d2] => { results := [.lit (.bool true)], args := [d1, d2] }
  | _ => none }
def pulseLanesRow : OpenClaim := { program := "ytombnimlolbekaagreatdoor", sum := "fba6c2f52066d42114341c1642bc63a7dddd2f69c22110a6f5b8516a99daa3be", func := "crumple/crumplelaw08.PulseLanes", spec := "pulseLanes", inPlace := ["internal/abi.NoEscape", "internal/bytealg.MakeNoZero", "internal/bytealg.IndexByteString", "internal/bytealg.CountString", "internal/bytealg.IndexString"], unfollowed := true, recurses := true, named := ["crumple/pulse.heads", "internal/strconv.uint64pow10", "math/bits.deBruijn32tab", "math/bits.deBruijn64tab", "unicode/utf8.first", "unicode/utf8.acceptRanges", "internal/bytealg.MaxLen"], apart := false, laid := [("math/bits.deBruijn32tab", laid_math_bits_deBruijn32tab), ("math/bits.deBruijn64tab", laid_math_bits_deBruijn64tab), ("internal/strconv.uint64pow10", laid_internal_strconv_uint64pow10), ("unicode/utf8.acceptRanges", laid_unicode_utf8_acceptRanges), ("crumple/pulse.heads", laid_crumple_pulse_heads), ("unicode/utf8.first", laid_unicode_utf8_first)] }
def PulseLanesSaid : Prop := pulseLanesRow.holds Tryz.pinned (OpenSpec.ofChange pulseLanesSpec)

/-- ITS FALSE NEIGHBOUR: 'it returns false'. Refute it at one input. -/
def pulseLanesWrong : ChangeSpec := { name := "pulseLanes", fn := fun _ => fun
  | [d1, d2] => { results := [.lit (.bool false)], args := [d1, d2] }
  | _ => none }
def PulseLanesWrongFalsely : Prop := pulseLanesRow.holds Tryz.pinned (OpenSpec.ofChange pulseLanesWrong)

/-- 'crumplelaw08.PulseLearns': WHATEVER THE INPUT: true; the input reads as it did. -/
def pulseLearnsSpec : ChangeSpec := { name := "pulseLearns", fn := fun _ => fun
  | [d1, d2, d3] => { results := [.lit (.bool true)], args := [d1, d2, d3] }
  | _ => none }
def pulseLearnsRow : OpenClaim := { program := "ytombnimlolbekaagreatdoor", sum := "fba6c2f52066d42114341c1642bc63a7dddd2f69c22110a6f5b8516a99daa3be", func := "crumple/crumplelaw08.PulseLearns", spec := "pulseLearns", inPlace := ["internal/abi.NoEscape", "internal/bytealg.MakeNoZero", "internal/bytealg.IndexByteString", "internal/bytealg.CountString", "internal/bytealg.IndexString"], unfollowed := true, recurses := true, named := ["crumple/pulse.heads", "internal/strconv.uint64pow10", "math/bits.deBruijn32tab", "math/bits.deBruijn64tab", "unicode/utf8.first", "unicode/utf8.acceptRanges", "internal/bytealg.MaxLen"], apart := false, laid := [("math/bits.deBruijn32tab", laid_math_bits_deBruijn32tab), ("math/bits.deBruijn64tab", laid_math_bits_deBruijn64tab), ("internal/strconv.uint64pow10", laid_internal_strconv_uint64pow10), ("unicode/utf8.acceptRanges", laid_unicode_utf8_acceptRanges), ("crumple/pulse.heads", laid_crumple_pulse_heads), ("unicode/utf8.first", laid_unicode_utf8_first)] }
def PulseLearnsSaid : Prop := pulseLearnsRow.holds Tryz.pinned (OpenSpec.ofChange pulseLearnsSpec)

/-- ITS FALSE NEIGHBOUR: 'it returns false'. Refute it at one input. -/
def pulseLearnsWrong : ChangeSpec := { name := "pulseLearns", fn := fun _ => fun
  | [d1, d2, d3] => { results := [.lit (.bool false)], args := [d1, d2, d3] }
  | _ => none }
def PulseLearnsWrongFalsely : Prop := pulseLearnsRow.holds Tryz.pinned (OpenSpec.ofChange pulseLearnsWrong)

/-- 'crumplelaw08.PulseSpreads': WHATEVER THE INPUT: true; the input reads as it did. -/
def pulseSpreadsSpec : ChangeSpec := { name := "pulseSpreads", fn := fun _ => fun
  | [d1, d2, d3] => { results := [.lit (.bool true)], args := [d1, d2, d3] }
  | _ => none }
def pulseSpreadsRow : OpenClaim := { program := "ytombnimlolbekaagreatdoor", sum := "fba6c2f52066d42114341c1642bc63a7dddd2f69c22110a6f5b8516a99daa3be", func := "crumple/crumplelaw08.PulseSpreads", spec := "pulseSpreads", inPlace := ["internal/abi.NoEscape", "internal/bytealg.MakeNoZero", "internal/bytealg.IndexByteString", "internal/bytealg.CountString", "internal/bytealg.IndexString"], unfollowed := true, recurses := true, named := ["crumple/pulse.heads", "internal/strconv.uint64pow10", "math/bits.deBruijn32tab", "math/bits.deBruijn64tab", "unicode/utf8.first", "unicode/utf8.acceptRanges", "internal/bytealg.MaxLen"], apart := false, laid := [("math/bits.deBruijn32tab", laid_math_bits_deBruijn32tab), ("math/bits.deBruijn64tab", laid_math_bits_deBruijn64tab), ("internal/strconv.uint64pow10", laid_internal_strconv_uint64pow10), ("unicode/utf8.acceptRanges", laid_unicode_utf8_acceptRanges), ("crumple/pulse.heads", laid_crumple_pulse_heads), ("unicode/utf8.first", laid_unicode_utf8_first)] }
def PulseSpreadsSaid : Prop := pulseSpreadsRow.holds Tryz.pinned (OpenSpec.ofChange pulseSpreadsSpec)

/-- ITS FALSE NEIGHBOUR: 'it returns false'. Refute it at one input. -/
def pulseSpreadsWrong : ChangeSpec := { name := "pulseSpreads", fn := fun _ => fun
  | [d1, d2, d3] => { results := [.lit (.bool false)], args := [d1, d2, d3] }
  | _ => none }
def PulseSpreadsWrongFalsely : Prop := pulseSpreadsRow.holds Tryz.pinned (OpenSpec.ofChange pulseSpreadsWrong)

/-- 'crumplelaw08.PulseStrings': WHATEVER THE INPUT: true; the input reads as it did. -/
def pulseStringsSpec : ChangeSpec := { name := "pulseStrings", fn := fun _ => fun
  | [d1, d2] => { results := [.lit (.bool true)], args := [d1, d2] }
  | _ => none }
def pulseStringsRow : OpenClaim := { program := "ytombnimlolbekaagreatdoor", sum := "fba6c2f52066d42114341c1642bc63a7dddd2f69c22110a6f5b8516a99daa3be", func := "crumple/crumplelaw08.PulseStrings", spec := "pulseStrings", inPlace := ["internal/abi.NoEscape", "internal/bytealg.MakeNoZero", "internal/bytealg.IndexByteString", "internal/bytealg.CountString", "internal/bytealg.IndexString"], unfollowed := true, recurses := true, named := ["crumple/pulse.heads", "internal/strconv.uint64pow10", "math/bits.deBruijn32tab", "math/bits.deBruijn64tab", "unicode/utf8.first", "unicode/utf8.acceptRanges", "internal/bytealg.MaxLen"], apart := false, laid := [("math/bits.deBruijn32tab", laid_math_bits_deBruijn32tab), ("math/bits.deBruijn64tab", laid_math_bits_deBruijn64tab), ("internal/strconv.uint64pow10", laid_internal_strconv_uint64pow10), ("unicode/utf8.acceptRanges", laid_unicode_utf8_acceptRanges), ("crumple/pulse.heads", laid_crumple_pulse_heads), ("unicode/utf8.first", laid_unicode_utf8_first)] }
def PulseStringsSaid : Prop := pulseStringsRow.holds Tryz.pinned (OpenSpec.ofChange pulseStringsSpec)

/-- ITS FALSE NEIGHBOUR: 'it returns false'. Refute it at one input. -/
def pulseStringsWrong : ChangeSpec := { name := "pulseStrings", fn := fun _ => fun
  | [d1, d2] => { results := [.lit (.bool false)], args := [d1, d2] }
  | _ => none }
def PulseStringsWrongFalsely : Prop := pulseStringsRow.holds Tryz.pinned (OpenSpec.ofChange pulseStringsWrong)

/-- 'crumplelaw08.PulseBelow': WHATEVER THE INPUT: true; the input reads as it did. -/
def pulseBelowSpec : ChangeSpec := { name := "pulseBelow", fn := fun _ => fun
  | [d1, d2, d3] => { results := [.lit (.bool true)], args := [d1, d2, d3] }
  | _ => none }
def pulseBelowRow : OpenClaim := { program := "ytombnimlolbekaagreatdoor", sum := "fba6c2f52066d42114341c1642bc63a7dddd2f69c22110a6f5b8516a99daa3be", func := "crumple/crumplelaw08.PulseBelow", spec := "pulseBelow", inPlace := ["internal/abi.NoEscape", "internal/bytealg.MakeNoZero", "internal/bytealg.IndexByteString", "internal/bytealg.CountString", "internal/bytealg.IndexString"], unfollowed := true, recurses := true, named := ["crumple/pulse.heads", "internal/strconv.uint64pow10", "math/bits.deBruijn32tab", "math/bits.deBruijn64tab", "unicode/utf8.first", "unicode/utf8.acceptRanges", "internal/bytealg.MaxLen"], apart := false, laid := [("math/bits.deBruijn32tab", laid_math_bits_deBruijn32tab), ("math/bits.deBruijn64tab", laid_math_bits_deBruijn64tab), ("internal/strconv.uint64pow10", laid_internal_strconv_uint64pow10), ("unicode/utf8.acceptRanges", laid_unicode_utf8_acceptRanges), ("crumple/pulse.heads", laid_crumple_pulse_heads), ("unicode/utf8.first", laid_unicode_utf8_first)] }
def PulseBelowSaid : Prop := pulseBelowRow.holds Tryz.pinned (OpenSpec.ofChange pulseBelowSpec)

/-- ITS FALSE NEIGHBOUR: 'it returns false'. Refute it at one input. -/
def pulseBelowWrong : ChangeSpec := { name := "pulseBelow", fn := fun _ => fun
  | [d1, d2, d3] => { results := [.lit (.bool false)], args := [d1, d2, d3] }
  | _ => none }
def PulseBelowWrongFalsely : Prop := pulseBelowRow.holds Tryz.pinned (OpenSpec.ofChange pulseBelowWrong)

/-- 'crumplelaw08.PulseApart': WHATEVER THE INPUT: true; the input reads as it did. -/
def pulseApartSpec : ChangeSpec := { name := "pulseApart", fn := fun _ => fun
  | [d1, d2, d3] => { results := [.lit (.bool true)], args := [d1, d2, d3] }
  | _ => none }
def pulseApartRow : OpenClaim := { program := "ytombnimlolbekaagreatdoor", sum := "fba6c2f52066d42114341c1642bc63a7dddd2f69c22110a6f5b8516a99daa3be", func := "crumple/crumplelaw08.PulseApart", spec := "pulseApart", inPlace := ["internal/abi.NoEscape", "internal/bytealg.MakeNoZero", "internal/bytealg.IndexByteString", "internal/bytealg.CountString", "internal/bytealg.IndexString"], unfollowed := true, recurses := true, named := ["crumple/pulse.heads", "internal/strconv.uint64pow10", "math/bits.deBruijn32tab", "math/bits.deBruijn64tab", "unicode/utf8.first", "unicode/utf8.acceptRanges", "internal/bytealg.MaxLen"], apart := false, laid := [("math/bits.deBruijn32tab", laid_math_bits_deBruijn32tab), ("math/bits.deBruijn64tab", laid_math_bits_deBruijn64tab), ("internal/strconv.uint64pow10", laid_internal_strconv_uint64pow10), ("unicode/utf8.acceptRanges", laid_unicode_utf8_acceptRanges), ("crumple/pulse.heads", laid_crumple_pulse_heads), ("unicode/utf8.first", laid_unicode_utf8_first)] }
def PulseApartSaid : Prop := pulseApartRow.holds Tryz.pinned (OpenSpec.ofChange pulseApartSpec)

/-- ITS FALSE NEIGHBOUR: 'it returns false'. Refute it at one input. -/
def pulseApartWrong : ChangeSpec := { name := "pulseApart", fn := fun _ => fun
  | [d1, d2, d3] => { results := [.lit (.bool false)], args := [d1, d2, d3] }
  | _ => none }
def PulseApartWrongFalsely : Prop := pulseApartRow.holds Tryz.pinned (OpenSpec.ofChange pulseApartWrong)

/-- 'crumplelaw08.PulsePacks': WHATEVER THE INPUT: true; the input reads as it did. -/
def pulsePacksSpec : ChangeSpec := { name := "pulsePacks", fn := fun _ => fun
  | [d1, d2, d3] => { results := [.lit (.bool true)], args := [d1, d2, d3] }
  | _ => none }
def pulsePacksRow : OpenClaim := { program := "ytombnimlolbekaagreatdoor", sum := "fba6c2f52066d42114341c1642bc63a7dddd2f69c22110a6f5b8516a99daa3be", func := "crumple/crumplelaw08.PulsePacks", spec := "pulsePacks", inPlace := ["internal/abi.NoEscape", "internal/bytealg.MakeNoZero", "internal/bytealg.IndexByteString", "internal/bytealg.CountString", "internal/bytealg.IndexString"], unfollowed := true, recurses := true, named := ["crumple/pulse.heads", "internal/strconv.uint64pow10", "math/bits.deBruijn32tab", "math/bits.deBruijn64tab", "unicode/utf8.first", "unicode/utf8.acceptRanges", "internal/bytealg.MaxLen"], apart := false, laid := [("math/bits.deBruijn32tab", laid_math_bits_deBruijn32tab), ("math/bits.deBruijn64tab", laid_math_bits_deBruijn64tab), ("internal/strconv.uint64pow10", laid_internal_strconv_uint64pow10), ("unicode/utf8.acceptRanges", laid_unicode_utf8_acceptRanges), ("crumple/pulse.heads", laid_crumple_pulse_heads), ("unicode/utf8.first", laid_unicode_utf8_first)] }
def PulsePacksSaid : Prop := pulsePacksRow.holds Tryz.pinned (OpenSpec.ofChange pulsePacksSpec)

/-- ITS FALSE NEIGHBOUR: 'it returns false'. Refute it at one input. -/
def pulsePacksWrong : ChangeSpec := { name := "pulsePacks", fn := fun _ => fun
  | [d1, d2, d3] => { results := [.lit (.bool false)], args := [d1, d2, d3] }
  | _ => none }
def PulsePacksWrongFalsely : Prop := pulsePacksRow.holds Tryz.pinned (OpenSpec.ofChange pulsePacksWrong)

/-- 'crumplelaw08.PulseChosen': WHATEVER THE INPUT: true; the input reads as it did. -/
def pulseChosenSpec : ChangeSpec := { name := "pulseChosen", fn := fun _ => fun
  | [d1, d2, d3] => { results := [.lit (.bool true)], args := [d1, d2, d3] }
  | _ => none }
def pulseChosenRow : OpenClaim := { program := "ytombnimlolbekaagreatdoor", sum := "fba6c2f52066d42114341c1642bc63a7dddd2f69c22110a6f5b8516a99daa3be", func := "crumple/crumplelaw08.PulseChosen", spec := "pulseChosen", inPlace := ["internal/abi.NoEscape", "internal/bytealg.MakeNoZero", "internal/bytealg.IndexByteString", "internal/bytealg.CountString", "internal/bytealg.IndexString"], unfollowed := true, recurses := true, named := ["crumple/pulse.heads", "internal/strconv.uint64pow10", "math/bits.deBruijn32tab", "math/bits.deBruijn64tab", "unicode/utf8.first", "unicode/utf8.acceptRanges", "internal/bytealg.MaxLen"], apart := false, laid := [("math/bits.deBruijn32tab", laid_math_bits_deBruijn32tab), ("math/bits.deBruijn64tab", laid_math_bits_deBruijn64tab), ("internal/strconv.uint64pow10", laid_internal_strconv_uint64pow10), ("unicode/utf8.acceptRanges", laid_unicode_utf8_acceptRanges), ("crumple/pulse.heads", laid_crumple_pulse_heads), ("unicode/utf8.first", laid_unicode_utf8_first)] }
def PulseChosenSaid : Prop := pulseChosenRow.holds Tryz.pinned (OpenSpec.ofChange pulseChosenSpec)

/-- ITS FALSE NEIGHBOUR: 'it returns false'. Refute it at one input. -/
def pulseChosenWrong : ChangeSpec := { name := "pulseChosen", fn := fun _ => fun
  | [d1, d2, d3] => { results := [.lit (.bool false)], args := [d1, d2, d3] }
  | _ => none }
def PulseChosenWrongFalsely : Prop := pulseChosenRow.holds Tryz.pinned (OpenSpec.ofChange pulseChosenWrong)

/- THE SECOND FORM. 'bulk': how many values and letters a reading holds, each counted each time it is reached (what is shared counts as often as it is met; a slice's spare places count too). A statement '..UptoSaid' is the law's where the arguments, and the package variables that the reading takes, are together of bulk at most 1048576: NARROWER than '..Said'. Prove '..Said' where nothing that the law and all that it calls make is longer than what came in: it says more and counts as full. Else prove '..UptoSaid'. A law counts once. -/
mutual
def uptoBulk {H : Type} : DataW H → Nat
  | .lit (.string bytes) => bytes.length + 1
  | .lit _ => 1
  | .nil => 1
  | .ptr d => uptoBulk d + 1
  | .slice elems spare => uptoBulkAll elems + uptoBulkAll spare + 1
  | .agg parts => uptoBulkAll parts + 1
  | .iface _ d => uptoBulk d + 1
  | .map entries => uptoBulkEntries entries + 1
  | .held _ => 1
def uptoBulkAll {H : Type} : List (DataW H) → Nat
  | [] => 0
  | d :: r => uptoBulk d + uptoBulkAll r
def uptoBulkEntries {H : Type} : List (Lit × DataW H) → Nat
  | [] => 0
  | x :: r => uptoBulkEntry x + uptoBulkEntries r
def uptoBulkEntry {H : Type} : Lit × DataW H → Nat
  | (.string bytes, d) => bytes.length + uptoBulk d + 1
  | (_, d) => uptoBulk d + 1
 end
def uptoSmall : (H : Type) → List (DataW H) → Bool := fun _ ds => decide (uptoBulkAll ds ≤ 1048576)
def OpenSpec.upto (s : _root_.Go.ChangeSpec) : _root_.Go.OpenSpec := { _root_.Go.OpenSpec.ofChange s with cond := some uptoSmall }

/-- 'crumplelaw08.PulseRuns', WHERE WHAT IT READS IS OF BULK AT MOST 1048576: true; the input reads as it did. -/
def pulseRunsUptoRow : OpenClaim := { program := "ytombnimlolbekaagreatdoor", sum := "fba6c2f52066d42114341c1642bc63a7dddd2f69c22110a6f5b8516a99daa3be", func := "crumple/crumplelaw08.PulseRuns", spec := "pulseRuns", inPlace := ["internal/abi.NoEscape", "internal/bytealg.MakeNoZero", "internal/bytealg.IndexByteString", "internal/bytealg.CountString", "internal/bytealg.IndexString"], unfollowed := true, recurses := true, named := ["crumple/pulse.heads", "internal/strconv.uint64pow10", "math/bits.deBruijn32tab", "math/bits.deBruijn64tab", "unicode/utf8.first", "unicode/utf8.acceptRanges", "internal/bytealg.MaxLen"], apart := false, laid := [("math/bits.deBruijn32tab", laid_math_bits_deBruijn32tab), ("math/bits.deBruijn64tab", laid_math_bits_deBruijn64tab), ("internal/strconv.uint64pow10", laid_internal_strconv_uint64pow10), ("unicode/utf8.acceptRanges", laid_unicode_utf8_acceptRanges), ("crumple/pulse.heads", laid_crumple_pulse_heads), ("unicode/utf8.first", laid_unicode_utf8_first)], narrowed := true }
def PulseRunsUptoSaid : Prop := pulseRunsUptoRow.holds Tryz.pinned (OpenSpec.upto pulseRunsSpec)

/-- 'crumplelaw08.PulseLanes', WHERE WHAT IT READS IS OF BULK AT MOST 1048576: true; the input reads as it did. -/
def pulseLanesUptoRow : OpenClaim := { program := "ytombnimlolbekaagreatdoor", sum := "fba6c2f52066d42114341c1642bc63a7dddd2f69c22110a6f5b8516a99daa3be", func := "crumple/crumplelaw08.PulseLanes", spec := "pulseLanes", inPlace := ["internal/abi.NoEscape", "internal/bytealg.MakeNoZero", "internal/bytealg.IndexByteString", "internal/bytealg.CountString", "internal/bytealg.IndexString"], unfollowed := true, recurses := true, named := ["crumple/pulse.heads", "internal/strconv.uint64pow10", "math/bits.deBruijn32tab", "math/bits.deBruijn64tab", "unicode/utf8.first", "unicode/utf8.acceptRanges", "internal/bytealg.MaxLen"], apart := false, laid := [("math/bits.deBruijn32tab", laid_math_bits_deBruijn32tab), ("math/bits.deBruijn64tab", laid_math_bits_deBruijn64tab), ("internal/strconv.uint64pow10", laid_internal_strconv_uint64pow10), ("unicode/utf8.acceptRanges", laid_unicode_utf8_acceptRanges), ("crumple/pulse.heads", laid_crumple_pulse_heads), ("unicode/utf8.first", laid_unicode_utf8_first)], narrowed := true }
def PulseLanesUptoSaid : Prop := pulseLanesUptoRow.holds Tryz.pinned (OpenSpec.upto pulseLanesSpec)

/-- 'crumplelaw08.PulseLearns', WHERE WHAT IT READS IS OF BULK AT MOST 1048576: true; the input reads as it did. -/
def pulseLearnsUptoRow : OpenClaim := { program := "ytombnimlolbekaagreatdoor", sum := "fba6c2f52066d42114341c1642bc63a7dddd2f69c22110a6f5b8516a99daa3be", func := "crumple/crumplelaw08.PulseLearns", spec := "pulseLearns", inPlace := ["internal/abi.NoEscape", "internal/bytealg.MakeNoZero", "internal/bytealg.IndexByteString", "internal/bytealg.CountString", "internal/bytealg.IndexString"], unfollowed := true, recurses := true, named := ["crumple/pulse.heads", "internal/strconv.uint64pow10", "math/bits.deBruijn32tab", "math/bits.deBruijn64tab", "unicode/utf8.first", "unicode/utf8.acceptRanges", "internal/bytealg.MaxLen"], apart := false, laid := [("math/bits.deBruijn32tab", laid_math_bits_deBruijn32tab), ("math/bits.deBruijn64tab", laid_math_bits_deBruijn64tab), ("internal/strconv.uint64pow10", laid_internal_strconv_uint64pow10), ("unicode/utf8.acceptRanges", laid_unicode_utf8_acceptRanges), ("crumple/pulse.heads", laid_crumple_pulse_heads), ("unicode/utf8.first", laid_unicode_utf8_first)], narrowed := true }
def PulseLearnsUptoSaid : Prop := pulseLearnsUptoRow.holds Tryz.pinned (OpenSpec.upto pulseLearnsSpec)

/-- 'crumplelaw08.PulseSpreads', WHERE WHAT IT READS IS OF BULK AT MOST 1048576: true; the input reads as it did. -/
def pulseSpreadsUptoRow : OpenClaim := { program := "ytombnimlolbekaagreatdoor", sum := "fba6c2f52066d42114341c1642bc63a7dddd2f69c22110a6f5b8516a99daa3be", func := "crumple/crumplelaw08.PulseSpreads", spec := "pulseSpreads", inPlace := ["internal/abi.NoEscape", "internal/bytealg.MakeNoZero", "internal/bytealg.IndexByteString", "internal/bytealg.CountString", "internal/bytealg.IndexString"], unfollowed := true, recurses := true, named := ["crumple/pulse.heads", "internal/strconv.uint64pow10", "math/bits.deBruijn32tab", "math/bits.deBruijn64tab", "unicode/utf8.first", "unicode/utf8.acceptRanges", "internal/bytealg.MaxLen"], apart := false, laid := [("math/bits.deBruijn32tab", laid_math_bits_deBruijn32tab), ("math/bits.deBruijn64tab", laid_math_bits_deBruijn64tab), ("internal/strconv.uint64pow10", laid_internal_strconv_uint64pow10), ("unicode/utf8.acceptRanges", laid_unicode_utf8_acceptRanges), ("crumple/pulse.heads", laid_crumple_pulse_heads), ("unicode/utf8.first", laid_unicode_utf8_first)], narrowed := true }
def PulseSpreadsUptoSaid : Prop := pulseSpreadsUptoRow.holds Tryz.pinned (OpenSpec.upto pulseSpreadsSpec)

/-- 'crumplelaw08.PulseStrings', WHERE WHAT IT READS IS OF BULK AT MOST 1048576: true; the input reads as it did. -/
def pulseStringsUptoRow : OpenClaim := { program := "ytombnimlolbekaagreatdoor", sum := "fba6c2f52066d42114341c1642bc63a7dddd2f69c22110a6f5b8516a99daa3be", func := "crumple/crumplelaw08.PulseStrings", spec := "pulseStrings", inPlace := ["internal/abi.NoEscape", "internal/bytealg.MakeNoZero", "internal/bytealg.IndexByteString", "internal/bytealg.CountString", "internal/bytealg.IndexString"], unfollowed := true, recurses := true, named := ["crumple/pulse.heads", "internal/strconv.uint64pow10", "math/bits.deBruijn32tab", "math/bits.deBruijn64tab", "unicode/utf8.first", "unicode/utf8.acceptRanges", "internal/bytealg.MaxLen"], apart := false, laid := [("math/bits.deBruijn32tab", laid_math_bits_deBruijn32tab), ("math/bits.deBruijn64tab", laid_math_bits_deBruijn64tab), ("internal/strconv.uint64pow10", laid_internal_strconv_uint64pow10), ("unicode/utf8.acceptRanges", laid_unicode_utf8_acceptRanges), ("crumple/pulse.heads", laid_crumple_pulse_heads), ("unicode/utf8.first", laid_unicode_utf8_first)], narrowed := true }
def PulseStringsUptoSaid : Prop := pulseStringsUptoRow.holds Tryz.pinned (OpenSpec.upto pulseStringsSpec)

/-- 'crumplelaw08.PulseBelow', WHERE WHAT IT READS IS OF BULK AT MOST 1048576: true; the input reads as it did. -/
def pulseBelowUptoRow : OpenClaim := { program := "ytombnimlolbekaagreatdoor", sum := "fba6c2f52066d42114341c1642bc63a7dddd2f69c22110a6f5b8516a99daa3be", func := "crumple/crumplelaw08.PulseBelow", spec := "pulseBelow", inPlace := ["internal/abi.NoEscape", "internal/bytealg.MakeNoZero", "internal/bytealg.IndexByteString", "internal/bytealg.CountString", "internal/bytealg.IndexString"], unfollowed := true, recurses := true, named := ["crumple/pulse.heads", "internal/strconv.uint64pow10", "math/bits.deBruijn32tab", "math/bits.deBruijn64tab", "unicode/utf8.first", "unicode/utf8.acceptRanges", "internal/bytealg.MaxLen"], apart := false, laid := [("math/bits.deBruijn32tab", laid_math_bits_deBruijn32tab), ("math/bits.deBruijn64tab", laid_math_bits_deBruijn64tab), ("internal/strconv.uint64pow10", laid_internal_strconv_uint64pow10), ("unicode/utf8.acceptRanges", laid_unicode_utf8_acceptRanges), ("crumple/pulse.heads", laid_crumple_pulse_heads), ("unicode/utf8.first", laid_unicode_utf8_first)], narrowed := true }
def PulseBelowUptoSaid : Prop := pulseBelowUptoRow.holds Tryz.pinned (OpenSpec.upto pulseBelowSpec)

/-- 'crumplelaw08.PulseApart', WHERE WHAT IT READS IS OF BULK AT MOST 1048576: true; the input reads as it did. -/
def pulseApartUptoRow : OpenClaim := { program := "ytombnimlolbekaagreatdoor", sum := "fba6c2f52066d42114341c1642bc63a7dddd2f69c22110a6f5b8516a99daa3be", func := "crumple/crumplelaw08.PulseApart", spec := "pulseApart", inPlace := ["internal/abi.NoEscape", "internal/bytealg.MakeNoZero", "internal/bytealg.IndexByteString", "internal/bytealg.CountString", "internal/bytealg.IndexString"], unfollowed := true, recurses := true, named := ["crumple/pulse.heads", "internal/strconv.uint64pow10", "math/bits.deBruijn32tab", "math/bits.deBruijn64tab", "unicode/utf8.first", "unicode/utf8.acceptRanges", "internal/bytealg.MaxLen"], apart := false, laid := [("math/bits.deBruijn32tab", laid_math_bits_deBruijn32tab), ("math/bits.deBruijn64tab", laid_math_bits_deBruijn64tab), ("internal/strconv.uint64pow10", laid_internal_strconv_uint64pow10), ("unicode/utf8.acceptRanges", laid_unicode_utf8_acceptRanges), ("crumple/pulse.heads", laid_crumple_pulse_heads), ("unicode/utf8.first", laid_unicode_utf8_first)], narrowed := true }
def PulseApartUptoSaid : Prop := pulseApartUptoRow.holds Tryz.pinned (OpenSpec.upto pulseApartSpec)

/-- 'crumplelaw08.PulsePacks', WHERE WHAT IT READS IS OF BULK AT MOST 1048576: true; the input reads as it did. -/
def pulsePacksUptoRow : OpenClaim := { program := "ytombnimlolbekaagreatdoor", sum := "fba6c2f52066d42114341c1642bc63a7dddd2f69c22110a6f5b8516a99daa3be", func := "crumple/crumplelaw08.PulsePacks", spec := "pulsePacks", inPlace := ["internal/abi.NoEscape", "internal/bytealg.MakeNoZero", "internal/bytealg.IndexByteString", "internal/bytealg.CountString", "internal/bytealg.IndexString"], unfollowed := true, recurses := true, named := ["crumple/pulse.heads", "internal/strconv.uint64pow10", "math/bits.deBruijn32tab", "math/bits.deBruijn64tab", "unicode/utf8.first", "unicode/utf8.acceptRanges", "internal/bytealg.MaxLen"], apart := false, laid := [("math/bits.deBruijn32tab", laid_math_bits_deBruijn32tab), ("math/bits.deBruijn64tab", laid_math_bits_deBruijn64tab), ("internal/strconv.uint64pow10", laid_internal_strconv_uint64pow10), ("unicode/utf8.acceptRanges", laid_unicode_utf8_acceptRanges), ("crumple/pulse.heads", laid_crumple_pulse_heads), ("unicode/utf8.first", laid_unicode_utf8_first)], narrowed := true }
def PulsePacksUptoSaid : Prop := pulsePacksUptoRow.holds Tryz.pinned (OpenSpec.upto pulsePacksSpec)

/-- 'crumplelaw08.PulseChosen', WHERE WHAT IT READS IS OF BULK AT MOST 1048576: true; the input reads as it did. -/
def pulseChosenUptoRow : OpenClaim := { program := "ytombnimlolbekaagreatdoor", sum := "fba6c2f52066d42114341c1642bc63a7dddd2f69c22110a6f5b8516a99daa3be", func := "crumple/crumplelaw08.PulseChosen", spec := "pulseChosen", inPlace := ["internal/abi.NoEscape", "internal/bytealg.MakeNoZero", "internal/bytealg.IndexByteString", "internal/bytealg.CountString", "internal/bytealg.IndexString"], unfollowed := true, recurses := true, named := ["crumple/pulse.heads", "internal/strconv.uint64pow10", "math/bits.deBruijn32tab", "math/bits.deBruijn64tab", "unicode/utf8.first", "unicode/utf8.acceptRanges", "internal/bytealg.MaxLen"], apart := false, laid := [("math/bits.deBruijn32tab", laid_math_bits_deBruijn32tab), ("math/bits.deBruijn64tab", laid_math_bits_deBruijn64tab), ("internal/strconv.uint64pow10", laid_internal_strconv_uint64pow10), ("unicode/utf8.acceptRanges", laid_unicode_utf8_acceptRanges), ("crumple/pulse.heads", laid_crumple_pulse_heads), ("unicode/utf8.first", laid_unicode_utf8_first)], narrowed := true }
def PulseChosenUptoSaid : Prop := pulseChosenUptoRow.holds Tryz.pinned (OpenSpec.upto pulseChosenSpec)

end Rows
end Go.Proofs.YtombnimlolbekaaGreatDoor
