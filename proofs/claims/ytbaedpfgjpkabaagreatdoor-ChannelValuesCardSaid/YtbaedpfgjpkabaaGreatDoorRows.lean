/-
  NARROWER THAN 'FOR EVERY INPUT', by the rows' own cells (each row's printed sentence says how): ChannelCodes: laid · ChannelSensors: laid · ChannelKernels: laid · ChannelEncloses: laid · ChannelValues: laid · ChannelFills: laid · ChannelSums: laid · ChannelTrue: laid · ChannelStays: laid · ChannelWithin: laid · ChannelStrings: laid · ChannelBack: laid.
  DERIVED. THE GIVEN ROWS OF THIS SEAT. 12 by the template 'for every input the law returns true; each argument reads behind the call as it read before'; 0 by the template 'total and deterministic' (their statements: YtbaedpfgjpkabaaGreatDoorTotals.lean).
  GIVEN WITH THE SEED: the statements are not yours to turn. If you find one false, say at which input.
  Laid BY PROGRAM, IN A SANDBOX (cutbox-rows.mjs): the forced cells as the released guide's own fill.sh prints them over the translation 70dcf1a72e1bfb64… (all of the seat's roots in one cut). By AI agents, Wed Nov 11 2026. No macro, syntax, notation, axiom, sorry.
-/
import Derived.Test.YtbaedpfgjpkabaaGreatDoorChecked
import GoSem.PinnedTables
import GoSem.Claim
import GoSem.ClaimJoined
import GoSem.ClaimMapViews
import Derived.JoinedTies
import Derived.KernelRfl
namespace Go.Proofs.YtbaedpfgjpkabaaGreatDoor
/- THE CELL 'sum', in the pinned program and in every row, IS THE sha256 OF THE DUMP (.gsa) THAT YtbaedpfgjpkabaaGreatDoorProg.lean LOADS. Nothing in Lean hashes anything: it is a label: what it is worth is what the hold of that sum in a sandbox is worth. -/
noncomputable def Tryz.pinned : Pinned := { name := "ytbaedpfgjpkabaagreatdoor", sum := "70dcf1a72e1bfb6458344057b31866e249cabb6e895e9fe6e8599e0cc8d3e5ac", checked := Tryz.checked }
namespace Rows
def none {H : Type} : Left H := { results := [], args := [] }

/- WHAT THE LISTED PACKAGE-LEVEL VARIABLES READ AS WHEN THE CALL BEGINS. Each datum BY PROGRAM (the guide's laid-datum.mjs) off the statement by which the dump's own 'gosem.cut.vars' lays the variable. In a bare row this is a premise. The card (YtbaedpfgjpkabaaGreatDoorCards.lean) ties it to the program's text. -/
def laid_math_bits_deBruijn32tab {H : Type} : DataW H := .agg [.lit (.int .u8 0), .lit (.int .u8 1), .lit (.int .u8 28), .lit (.int .u8 2), .lit (.int .u8 29), .lit (.int .u8 14), .lit (.int .u8 24), .lit (.int .u8 3), .lit (.int .u8 30), .lit (.int .u8 22), .lit (.int .u8 20), .lit (.int .u8 15), .lit (.int .u8 25), .lit (.int .u8 17), .lit (.int .u8 4), .lit (.int .u8 8), .lit (.int .u8 31), .lit (.int .u8 27), .lit (.int .u8 13), .lit (.int .u8 23), .lit (.int .u8 21), .lit (.int .u8 19), .lit (.int .u8 16), .lit (.int .u8 7), .lit (.int .u8 26), .lit (.int .u8 12), .lit (.int .u8 18), .lit (.int .u8 6), .lit (.int .u8 11), .lit (.int .u8 5), .lit (.int .u8 10), .lit (.int .u8 9)]
def laid_math_bits_deBruijn64tab {H : Type} : DataW H := .agg [.lit (.int .u8 0), .lit (.int .u8 1), .lit (.int .u8 56), .lit (.int .u8 2), .lit (.int .u8 57), .lit (.int .u8 49), .lit (.int .u8 28), .lit (.int .u8 3), .lit (.int .u8 61), .lit (.int .u8 58), .lit (.int .u8 42), .lit (.int .u8 50), .lit (.int .u8 38), .lit (.int .u8 29), .lit (.int .u8 17), .lit (.int .u8 4), .lit (.int .u8 62), .lit (.int .u8 47), .lit (.int .u8 59), .lit (.int .u8 36), .lit (.int .u8 45), .lit (.int .u8 43), .lit (.int .u8 51), .lit (.int .u8 22), .lit (.int .u8 53), .lit (.int .u8 39), .lit (.int .u8 33), .lit (.int .u8 30), .lit (.int .u8 24), .lit (.int .u8 18), .lit (.int .u8 12), .lit (.int .u8 5), .lit (.int .u8 63), .lit (.int .u8 55), .lit (.int .u8 48), .lit (.int .u8 27), .lit (.int .u8 60), .lit (.int .u8 41), .lit (.int .u8 37), .lit (.int .u8 16), .lit (.int .u8 46), .lit (.int .u8 35), .lit (.int .u8 44), .lit (.int .u8 21), .lit (.int .u8 52), .lit (.int .u8 32), .lit (.int .u8 23), .lit (.int .u8 11), .lit (.int .u8 54), .lit (.int .u8 26), .lit (.int .u8 40), .lit (.int .u8 15), .lit (.int .u8 34), .lit (.int .u8 20), .lit (.int .u8 31), .lit (.int .u8 10), .lit (.int .u8 25), .lit (.int .u8 14), .lit (.int .u8 19), .lit (.int .u8 9), .lit (.int .u8 13), .lit (.int .u8 8), .lit (.int .u8 7), .lit (.int .u8 6)]
def laid_internal_strconv_uint64pow10 {H : Type} : DataW H := .agg [.lit (.int .u64 1), .lit (.int .u64 10), .lit (.int .u64 100), .lit (.int .u64 1000), .lit (.int .u64 10000), .lit (.int .u64 100000), .lit (.int .u64 1000000), .lit (.int .u64 10000000), .lit (.int .u64 100000000), .lit (.int .u64 1000000000), .lit (.int .u64 10000000000), .lit (.int .u64 100000000000), .lit (.int .u64 1000000000000), .lit (.int .u64 10000000000000), .lit (.int .u64 100000000000000), .lit (.int .u64 1000000000000000), .lit (.int .u64 10000000000000000), .lit (.int .u64 100000000000000000), .lit (.int .u64 1000000000000000000), .lit (.int .u64 10000000000000000000)]
def laid_crumple_channel_axes {H : Type} : DataW H := .agg [.lit (.int .u8 120), .lit (.int .u8 121), .lit (.int .u8 122)]
def laid_crumple_channel_signs {H : Type} : DataW H := .agg [.lit (.int .u8 43), .lit (.int .u8 45)]
def laid_crumple_channel_down {H : Type} : DataW H := .iface "func table" (.agg [.iface "func" (.lit (.string [99, 114, 117, 109, 112, 108, 101, 47, 99, 104, 97, 110, 110, 101, 108, 46, 102, 108, 111, 111, 114]))])
def laid_crumple_channel_up {H : Type} : DataW H := .iface "func table" (.agg [.iface "func" (.lit (.string [99, 114, 117, 109, 112, 108, 101, 47, 99, 104, 97, 110, 110, 101, 108, 46, 117, 112, 36, 49]))])
def laid_crumple_channel_near {H : Type} : DataW H := .iface "func table" (.agg [.iface "func" (.lit (.string [99, 114, 117, 109, 112, 108, 101, 47, 99, 104, 97, 110, 110, 101, 108, 46, 110, 101, 97, 114, 36, 49]))])
def laid_unicode_utf8_acceptRanges {H : Type} : DataW H := .agg [.agg [.lit (.int .u8 128), .lit (.int .u8 191)], .agg [.lit (.int .u8 160), .lit (.int .u8 191)], .agg [.lit (.int .u8 128), .lit (.int .u8 159)], .agg [.lit (.int .u8 144), .lit (.int .u8 191)], .agg [.lit (.int .u8 128), .lit (.int .u8 143)], .agg [.lit (.int .u8 0), .lit (.int .u8 0)], .agg [.lit (.int .u8 0), .lit (.int .u8 0)], .agg [.lit (.int .u8 0), .lit (.int .u8 0)], .agg [.lit (.int .u8 0), .lit (.int .u8 0)], .agg [.lit (.int .u8 0), .lit (.int .u8 0)], .agg [.lit (.int .u8 0), .lit (.int .u8 0)], .agg [.lit (.int .u8 0), .lit (.int .u8 0)], .agg [.lit (.int .u8 0), .lit (.int .u8 0)], .agg [.lit (.int .u8 0), .lit (.int .u8 0)], .agg [.lit (.int .u8 0), .lit (.int .u8 0)], .agg [.lit (.int .u8 0), .lit (.int .u8 0)]]
/-- One of Go's own tables, pinned by name: the form's constant. -/
def laid_unicode_utf8_first : DataW Unit := Go.Pinned.utf8First

/-- 'crumplelaw02.ChannelCodes': WHATEVER THE INPUT: true; the input reads as it did. -/
def channelCodesSpec : ChangeSpec := { name := "channelCodes", fn := fun _ => fun
  | [d1, d2] => { results := [.lit (.bool true)], args := [d1, d2] }
  | _ => none }
def channelCodesRow : OpenClaim := { program := "ytbaedpfgjpkabaagreatdoor", sum := "70dcf1a72e1bfb6458344057b31866e249cabb6e895e9fe6e8599e0cc8d3e5ac", func := "crumple/crumplelaw02.ChannelCodes", spec := "channelCodes", inPlace := ["math.Float64bits", "math.Float64frombits", "math.archFloor", "math.archTrunc", "internal/abi.NoEscape", "internal/bytealg.MakeNoZero"], unfollowed := true, recurses := true, named := ["crumple/channel.axes", "crumple/channel.signs", "crumple/channel.down", "crumple/channel.up", "crumple/channel.near", "internal/strconv.uint64pow10", "math/bits.deBruijn32tab", "math/bits.deBruijn64tab"], apart := false, laid := [("math/bits.deBruijn32tab", laid_math_bits_deBruijn32tab), ("math/bits.deBruijn64tab", laid_math_bits_deBruijn64tab), ("internal/strconv.uint64pow10", laid_internal_strconv_uint64pow10), ("crumple/channel.axes", laid_crumple_channel_axes), ("crumple/channel.signs", laid_crumple_channel_signs), ("crumple/channel.down", laid_crumple_channel_down), ("crumple/channel.up", laid_crumple_channel_up), ("crumple/channel.near", laid_crumple_channel_near)] }
def ChannelCodesSaid : Prop := channelCodesRow.holds Tryz.pinned (OpenSpec.ofChange channelCodesSpec)

/-- ITS FALSE NEIGHBOUR: 'it returns false'. Refute it at one input. -/
def channelCodesWrong : ChangeSpec := { name := "channelCodes", fn := fun _ => fun
  | [d1, d2] => { results := [.lit (.bool false)], args := [d1, d2] }
  | _ => none }
def ChannelCodesWrongFalsely : Prop := channelCodesRow.holds Tryz.pinned (OpenSpec.ofChange channelCodesWrong)

/-- 'crumplelaw02.ChannelSensors': WHATEVER THE INPUT: true; the input reads as it did. -/
def channelSensorsSpec : ChangeSpec := { name := "channelSensors", fn := fun _ => fun
  | [d1, d2, d3] => { results := [.lit (.bool true)], args := [d1, d2, d3] }
  | _ => none }
def channelSensorsRow : OpenClaim := { program := "ytbaedpfgjpkabaagreatdoor", sum := "70dcf1a72e1bfb6458344057b31866e249cabb6e895e9fe6e8599e0cc8d3e5ac", func := "crumple/crumplelaw02.ChannelSensors", spec := "channelSensors", inPlace := ["math.Float64bits", "math.Float64frombits", "math.archFloor", "math.archTrunc", "internal/abi.NoEscape", "internal/bytealg.MakeNoZero"], unfollowed := true, recurses := true, named := ["crumple/channel.axes", "crumple/channel.signs", "crumple/channel.down", "crumple/channel.up", "crumple/channel.near", "internal/strconv.uint64pow10", "math/bits.deBruijn32tab", "math/bits.deBruijn64tab"], apart := false, laid := [("math/bits.deBruijn32tab", laid_math_bits_deBruijn32tab), ("math/bits.deBruijn64tab", laid_math_bits_deBruijn64tab), ("internal/strconv.uint64pow10", laid_internal_strconv_uint64pow10), ("crumple/channel.axes", laid_crumple_channel_axes), ("crumple/channel.signs", laid_crumple_channel_signs), ("crumple/channel.down", laid_crumple_channel_down), ("crumple/channel.up", laid_crumple_channel_up), ("crumple/channel.near", laid_crumple_channel_near)] }
def ChannelSensorsSaid : Prop := channelSensorsRow.holds Tryz.pinned (OpenSpec.ofChange channelSensorsSpec)

/-- ITS FALSE NEIGHBOUR: 'it returns false'. Refute it at one input. -/
def channelSensorsWrong : ChangeSpec := { name := "channelSensors", fn := fun _ => fun
  | [d1, d2, d3] => { results := [.lit (.bool false)], args := [d1, d2, d3] }
  | _ => none }
def ChannelSensorsWrongFalsely : Prop := channelSensorsRow.holds Tryz.pinned (OpenSpec.ofChange channelSensorsWrong)

/-- 'crumplelaw02.ChannelKernels': WHATEVER THE INPUT: true; the input reads as it did. -/
def channelKernelsSpec : ChangeSpec := { name := "channelKernels", fn := fun _ => fun
  | [d1, d2] => { results := [.lit (.bool true)], args := [d1, d2] }
  | _ => none }
def channelKernelsRow : OpenClaim := { program := "ytbaedpfgjpkabaagreatdoor", sum := "70dcf1a72e1bfb6458344057b31866e249cabb6e895e9fe6e8599e0cc8d3e5ac", func := "crumple/crumplelaw02.ChannelKernels", spec := "channelKernels", inPlace := ["math.Float64bits", "math.Float64frombits", "math.archFloor", "math.archTrunc", "internal/abi.NoEscape", "internal/bytealg.MakeNoZero"], unfollowed := true, recurses := true, named := ["crumple/channel.axes", "crumple/channel.signs", "crumple/channel.down", "crumple/channel.up", "crumple/channel.near", "internal/strconv.uint64pow10", "math/bits.deBruijn32tab", "math/bits.deBruijn64tab"], apart := false, laid := [("math/bits.deBruijn32tab", laid_math_bits_deBruijn32tab), ("math/bits.deBruijn64tab", laid_math_bits_deBruijn64tab), ("internal/strconv.uint64pow10", laid_internal_strconv_uint64pow10), ("crumple/channel.axes", laid_crumple_channel_axes), ("crumple/channel.signs", laid_crumple_channel_signs), ("crumple/channel.down", laid_crumple_channel_down), ("crumple/channel.up", laid_crumple_channel_up), ("crumple/channel.near", laid_crumple_channel_near)] }
def ChannelKernelsSaid : Prop := channelKernelsRow.holds Tryz.pinned (OpenSpec.ofChange channelKernelsSpec)

/-- ITS FALSE NEIGHBOUR: 'it returns false'. Refute it at one input. -/
def channelKernelsWrong : ChangeSpec := { name := "channelKernels", fn := fun _ => fun
  | [d1, d2] => { results := [.lit (.bool false)], args := [d1, d2] }
  | _ => none }
def ChannelKernelsWrongFalsely : Prop := channelKernelsRow.holds Tryz.pinned (OpenSpec.ofChange channelKernelsWrong)

/-- 'crumplelaw02.ChannelEncloses': WHATEVER THE INPUT: true; the input reads as it did. -/
def channelEnclosesSpec : ChangeSpec := { name := "channelEncloses", fn := fun _ => fun
  | [d1, d2] => { results := [.lit (.bool true)], args := [d1, d2] }
  | _ => none }
def channelEnclosesRow : OpenClaim := { program := "ytbaedpfgjpkabaagreatdoor", sum := "70dcf1a72e1bfb6458344057b31866e249cabb6e895e9fe6e8599e0cc8d3e5ac", func := "crumple/crumplelaw02.ChannelEncloses", spec := "channelEncloses", inPlace := ["math.Float64bits", "math.Float64frombits", "math.archFloor", "math.archTrunc", "internal/abi.NoEscape", "internal/bytealg.MakeNoZero"], unfollowed := true, recurses := true, named := ["crumple/channel.axes", "crumple/channel.signs", "crumple/channel.down", "crumple/channel.up", "crumple/channel.near", "internal/strconv.uint64pow10", "math/bits.deBruijn32tab", "math/bits.deBruijn64tab"], apart := false, laid := [("math/bits.deBruijn32tab", laid_math_bits_deBruijn32tab), ("math/bits.deBruijn64tab", laid_math_bits_deBruijn64tab), ("internal/strconv.uint64pow10", laid_internal_strconv_uint64pow10), ("crumple/channel.axes", laid_crumple_channel_axes), ("crumple/channel.signs", laid_crumple_channel_signs), ("crumple/channel.down", laid_crumple_channel_down), ("crumple/channel.up", laid_crumple_channel_up), ("crumple/channel.near", laid_crumple_channel_near)] }
def ChannelEnclosesSaid : Prop := channelEnclosesRow.holds Tryz.pinned (OpenSpec.ofChange channelEnclosesSpec)

/-- ITS FALSE NEIGHBOUR: 'it returns false'. Refute it at one input. -/
def channelEnclosesWrong : ChangeSpec := { name := "channelEncloses", fn := fun _ => fun
  | [d1, d2] => { results := [.lit (.bool false)], args := [d1, d2] }
  | _ => none }
def ChannelEnclosesWrongFalsely : Prop := channelEnclosesRow.holds Tryz.pinned (OpenSpec.ofChange channelEnclosesWrong)

/-- 'crumplelaw02.ChannelValues': WHATEVER THE INPUT: true; the input reads as it did. -/
def channelValuesSpec : ChangeSpec := { name := "channelValues", fn := fun _ => fun
  | [d] => { results := [.lit (.bool true)], args := [d] }
  | _ => none }
def channelValuesRow : OpenClaim := { program := "ytbaedpfgjpkabaagreatdoor", sum := "70dcf1a72e1bfb6458344057b31866e249cabb6e895e9fe6e8599e0cc8d3e5ac", func := "crumple/crumplelaw02.ChannelValues", spec := "channelValues", inPlace := ["math.Float64bits", "math.Float64frombits", "math.archFloor", "math.archTrunc", "internal/abi.NoEscape", "internal/bytealg.MakeNoZero"], unfollowed := true, recurses := true, named := ["crumple/channel.axes", "crumple/channel.signs", "crumple/channel.down", "crumple/channel.up", "crumple/channel.near", "internal/strconv.uint64pow10", "math/bits.deBruijn32tab", "math/bits.deBruijn64tab"], apart := false, laid := [("math/bits.deBruijn32tab", laid_math_bits_deBruijn32tab), ("math/bits.deBruijn64tab", laid_math_bits_deBruijn64tab), ("internal/strconv.uint64pow10", laid_internal_strconv_uint64pow10), ("crumple/channel.axes", laid_crumple_channel_axes), ("crumple/channel.signs", laid_crumple_channel_signs), ("crumple/channel.down", laid_crumple_channel_down), ("crumple/channel.up", laid_crumple_channel_up), ("crumple/channel.near", laid_crumple_channel_near)] }
def ChannelValuesSaid : Prop := channelValuesRow.holds Tryz.pinned (OpenSpec.ofChange channelValuesSpec)

/-- ITS FALSE NEIGHBOUR: 'it returns false'. Refute it at one input. -/
def channelValuesWrong : ChangeSpec := { name := "channelValues", fn := fun _ => fun
  | [d] => { results := [.lit (.bool false)], args := [d] }
  | _ => none }
def ChannelValuesWrongFalsely : Prop := channelValuesRow.holds Tryz.pinned (OpenSpec.ofChange channelValuesWrong)

/-- 'crumplelaw02.ChannelFills': WHATEVER THE INPUT: true; the input reads as it did. -/
def channelFillsSpec : ChangeSpec := { name := "channelFills", fn := fun _ => fun
  | [d1, d2, d3] => { results := [.lit (.bool true)], args := [d1, d2, d3] }
  | _ => none }
def channelFillsRow : OpenClaim := { program := "ytbaedpfgjpkabaagreatdoor", sum := "70dcf1a72e1bfb6458344057b31866e249cabb6e895e9fe6e8599e0cc8d3e5ac", func := "crumple/crumplelaw02.ChannelFills", spec := "channelFills", inPlace := ["math.Float64bits", "math.Float64frombits", "math.archFloor", "math.archTrunc", "internal/abi.NoEscape", "internal/bytealg.MakeNoZero"], unfollowed := true, recurses := true, named := ["crumple/channel.axes", "crumple/channel.signs", "crumple/channel.down", "crumple/channel.up", "crumple/channel.near", "internal/strconv.uint64pow10", "math/bits.deBruijn32tab", "math/bits.deBruijn64tab"], apart := false, laid := [("math/bits.deBruijn32tab", laid_math_bits_deBruijn32tab), ("math/bits.deBruijn64tab", laid_math_bits_deBruijn64tab), ("internal/strconv.uint64pow10", laid_internal_strconv_uint64pow10), ("crumple/channel.axes", laid_crumple_channel_axes), ("crumple/channel.signs", laid_crumple_channel_signs), ("crumple/channel.down", laid_crumple_channel_down), ("crumple/channel.up", laid_crumple_channel_up), ("crumple/channel.near", laid_crumple_channel_near)] }
def ChannelFillsSaid : Prop := channelFillsRow.holds Tryz.pinned (OpenSpec.ofChange channelFillsSpec)

/-- ITS FALSE NEIGHBOUR: 'it returns false'. Refute it at one input. -/
def channelFillsWrong : ChangeSpec := { name := "channelFills", fn := fun _ => fun
  | [d1, d2, d3] => { results := [.lit (.bool false)], args := [d1, d2, d3] }
  | _ => none }
def ChannelFillsWrongFalsely : Prop := channelFillsRow.holds Tryz.pinned (OpenSpec.ofChange channelFillsWrong)

/-- 'crumplelaw02.ChannelSums': WHATEVER THE INPUT: true; the input reads as it did. -/
def channelSumsSpec : ChangeSpec := { name := "channelSums", fn := fun _ => fun
  | [d1, d2] => { results := [.lit (.bool true)], args := [d1, d2] }
  | _ => none }
def channelSumsRow : OpenClaim := { program := "ytbaedpfgjpkabaagreatdoor", sum := "70dcf1a72e1bfb6458344057b31866e249cabb6e895e9fe6e8599e0cc8d3e5ac", func := "crumple/crumplelaw02.ChannelSums", spec := "channelSums", inPlace := ["math.Float64bits", "math.Float64frombits", "math.archFloor", "math.archTrunc", "internal/abi.NoEscape", "internal/bytealg.MakeNoZero"], unfollowed := true, recurses := true, named := ["crumple/channel.axes", "crumple/channel.signs", "crumple/channel.down", "crumple/channel.up", "crumple/channel.near", "internal/strconv.uint64pow10", "math/bits.deBruijn32tab", "math/bits.deBruijn64tab"], apart := false, laid := [("math/bits.deBruijn32tab", laid_math_bits_deBruijn32tab), ("math/bits.deBruijn64tab", laid_math_bits_deBruijn64tab), ("internal/strconv.uint64pow10", laid_internal_strconv_uint64pow10), ("crumple/channel.axes", laid_crumple_channel_axes), ("crumple/channel.signs", laid_crumple_channel_signs), ("crumple/channel.down", laid_crumple_channel_down), ("crumple/channel.up", laid_crumple_channel_up), ("crumple/channel.near", laid_crumple_channel_near)] }
def ChannelSumsSaid : Prop := channelSumsRow.holds Tryz.pinned (OpenSpec.ofChange channelSumsSpec)

/-- ITS FALSE NEIGHBOUR: 'it returns false'. Refute it at one input. -/
def channelSumsWrong : ChangeSpec := { name := "channelSums", fn := fun _ => fun
  | [d1, d2] => { results := [.lit (.bool false)], args := [d1, d2] }
  | _ => none }
def ChannelSumsWrongFalsely : Prop := channelSumsRow.holds Tryz.pinned (OpenSpec.ofChange channelSumsWrong)

/-- 'crumplelaw02.ChannelTrue': WHATEVER THE INPUT: true; the input reads as it did. -/
def channelTrueSpec : ChangeSpec := { name := "channelTrue", fn := fun _ => fun
  | [d1, d2, d3] => { results := [.lit (.bool true)], args := [d1, d2, d3] }
  | _ => none }
def channelTrueRow : OpenClaim := { program := "ytbaedpfgjpkabaagreatdoor", sum := "70dcf1a72e1bfb6458344057b31866e249cabb6e895e9fe6e8599e0cc8d3e5ac", func := "crumple/crumplelaw02.ChannelTrue", spec := "channelTrue", inPlace := ["math.Float64bits", "math.Float64frombits", "math.archFloor", "math.archTrunc", "internal/abi.NoEscape", "internal/bytealg.MakeNoZero"], unfollowed := true, recurses := true, named := ["crumple/channel.axes", "crumple/channel.signs", "crumple/channel.down", "crumple/channel.up", "crumple/channel.near", "internal/strconv.uint64pow10", "math/bits.deBruijn32tab", "math/bits.deBruijn64tab"], apart := false, laid := [("math/bits.deBruijn32tab", laid_math_bits_deBruijn32tab), ("math/bits.deBruijn64tab", laid_math_bits_deBruijn64tab), ("internal/strconv.uint64pow10", laid_internal_strconv_uint64pow10), ("crumple/channel.axes", laid_crumple_channel_axes), ("crumple/channel.signs", laid_crumple_channel_signs), ("crumple/channel.down", laid_crumple_channel_down), ("crumple/channel.up", laid_crumple_channel_up), ("crumple/channel.near", laid_crumple_channel_near)] }
def ChannelTrueSaid : Prop := channelTrueRow.holds Tryz.pinned (OpenSpec.ofChange channelTrueSpec)

/-- ITS FALSE NEIGHBOUR: 'it returns false'. Refute it at one input. -/
def channelTrueWrong : ChangeSpec := { name := "channelTrue", fn := fun _ => fun
  | [d1, d2, d3] => { results := [.lit (.bool false)], args := [d1, d2, d3] }
  | _ => none }
def ChannelTrueWrongFalsely : Prop := channelTrueRow.holds Tryz.pinned (OpenSpec.ofChange channelTrueWrong)

/-- 'crumplelaw02.ChannelStays': WHATEVER THE INPUT: true; the input reads as it did. -/
def channelStaysSpec : ChangeSpec := { name := "channelStays", fn := fun _ => fun
  | [d1, d2, d3] => { results := [.lit (.bool true)], args := [d1, d2, d3] }
  | _ => none }
def channelStaysRow : OpenClaim := { program := "ytbaedpfgjpkabaagreatdoor", sum := "70dcf1a72e1bfb6458344057b31866e249cabb6e895e9fe6e8599e0cc8d3e5ac", func := "crumple/crumplelaw02.ChannelStays", spec := "channelStays", inPlace := ["math.Float64bits", "math.Float64frombits", "math.archFloor", "math.archTrunc", "internal/abi.NoEscape", "internal/bytealg.MakeNoZero"], unfollowed := true, recurses := true, named := ["crumple/channel.axes", "crumple/channel.signs", "crumple/channel.down", "crumple/channel.up", "crumple/channel.near", "internal/strconv.uint64pow10", "math/bits.deBruijn32tab", "math/bits.deBruijn64tab"], apart := false, laid := [("math/bits.deBruijn32tab", laid_math_bits_deBruijn32tab), ("math/bits.deBruijn64tab", laid_math_bits_deBruijn64tab), ("internal/strconv.uint64pow10", laid_internal_strconv_uint64pow10), ("crumple/channel.axes", laid_crumple_channel_axes), ("crumple/channel.signs", laid_crumple_channel_signs), ("crumple/channel.down", laid_crumple_channel_down), ("crumple/channel.up", laid_crumple_channel_up), ("crumple/channel.near", laid_crumple_channel_near)] }
def ChannelStaysSaid : Prop := channelStaysRow.holds Tryz.pinned (OpenSpec.ofChange channelStaysSpec)

/-- ITS FALSE NEIGHBOUR: 'it returns false'. Refute it at one input. -/
def channelStaysWrong : ChangeSpec := { name := "channelStays", fn := fun _ => fun
  | [d1, d2, d3] => { results := [.lit (.bool false)], args := [d1, d2, d3] }
  | _ => none }
def ChannelStaysWrongFalsely : Prop := channelStaysRow.holds Tryz.pinned (OpenSpec.ofChange channelStaysWrong)

/-- 'crumplelaw02.ChannelWithin': WHATEVER THE INPUT: true; the input reads as it did. -/
def channelWithinSpec : ChangeSpec := { name := "channelWithin", fn := fun _ => fun
  | [d1, d2, d3] => { results := [.lit (.bool true)], args := [d1, d2, d3] }
  | _ => none }
def channelWithinRow : OpenClaim := { program := "ytbaedpfgjpkabaagreatdoor", sum := "70dcf1a72e1bfb6458344057b31866e249cabb6e895e9fe6e8599e0cc8d3e5ac", func := "crumple/crumplelaw02.ChannelWithin", spec := "channelWithin", inPlace := ["math.Float64bits", "math.Float64frombits", "math.archFloor", "math.archTrunc", "internal/abi.NoEscape", "internal/bytealg.MakeNoZero"], unfollowed := true, recurses := true, named := ["crumple/channel.axes", "crumple/channel.signs", "crumple/channel.down", "crumple/channel.up", "crumple/channel.near", "internal/strconv.uint64pow10", "math/bits.deBruijn32tab", "math/bits.deBruijn64tab"], apart := false, laid := [("math/bits.deBruijn32tab", laid_math_bits_deBruijn32tab), ("math/bits.deBruijn64tab", laid_math_bits_deBruijn64tab), ("internal/strconv.uint64pow10", laid_internal_strconv_uint64pow10), ("crumple/channel.axes", laid_crumple_channel_axes), ("crumple/channel.signs", laid_crumple_channel_signs), ("crumple/channel.down", laid_crumple_channel_down), ("crumple/channel.up", laid_crumple_channel_up), ("crumple/channel.near", laid_crumple_channel_near)] }
def ChannelWithinSaid : Prop := channelWithinRow.holds Tryz.pinned (OpenSpec.ofChange channelWithinSpec)

/-- ITS FALSE NEIGHBOUR: 'it returns false'. Refute it at one input. -/
def channelWithinWrong : ChangeSpec := { name := "channelWithin", fn := fun _ => fun
  | [d1, d2, d3] => { results := [.lit (.bool false)], args := [d1, d2, d3] }
  | _ => none }
def ChannelWithinWrongFalsely : Prop := channelWithinRow.holds Tryz.pinned (OpenSpec.ofChange channelWithinWrong)

/-- 'crumplelaw02.ChannelStrings': WHATEVER THE INPUT: true; the input reads as it did. -/
def channelStringsSpec : ChangeSpec := { name := "channelStrings", fn := fun _ => fun
  | [d1, d2] => { results := [.lit (.bool true)], args := [d1, d2] }
  | _ => none }
def channelStringsRow : OpenClaim := { program := "ytbaedpfgjpkabaagreatdoor", sum := "70dcf1a72e1bfb6458344057b31866e249cabb6e895e9fe6e8599e0cc8d3e5ac", func := "crumple/crumplelaw02.ChannelStrings", spec := "channelStrings", inPlace := ["math.Float64bits", "math.Float64frombits", "math.archFloor", "math.archTrunc", "internal/abi.NoEscape", "internal/bytealg.MakeNoZero", "internal/bytealg.IndexByteString", "internal/bytealg.CountString", "internal/bytealg.IndexString"], unfollowed := true, recurses := true, named := ["crumple/channel.axes", "crumple/channel.signs", "crumple/channel.down", "crumple/channel.up", "crumple/channel.near", "internal/strconv.uint64pow10", "math/bits.deBruijn32tab", "math/bits.deBruijn64tab", "unicode/utf8.first", "unicode/utf8.acceptRanges", "internal/bytealg.MaxLen"], apart := false, laid := [("math/bits.deBruijn32tab", laid_math_bits_deBruijn32tab), ("math/bits.deBruijn64tab", laid_math_bits_deBruijn64tab), ("internal/strconv.uint64pow10", laid_internal_strconv_uint64pow10), ("unicode/utf8.acceptRanges", laid_unicode_utf8_acceptRanges), ("crumple/channel.axes", laid_crumple_channel_axes), ("crumple/channel.signs", laid_crumple_channel_signs), ("crumple/channel.down", laid_crumple_channel_down), ("crumple/channel.up", laid_crumple_channel_up), ("crumple/channel.near", laid_crumple_channel_near), ("unicode/utf8.first", laid_unicode_utf8_first)] }
def ChannelStringsSaid : Prop := channelStringsRow.holds Tryz.pinned (OpenSpec.ofChange channelStringsSpec)

/-- ITS FALSE NEIGHBOUR: 'it returns false'. Refute it at one input. -/
def channelStringsWrong : ChangeSpec := { name := "channelStrings", fn := fun _ => fun
  | [d1, d2] => { results := [.lit (.bool false)], args := [d1, d2] }
  | _ => none }
def ChannelStringsWrongFalsely : Prop := channelStringsRow.holds Tryz.pinned (OpenSpec.ofChange channelStringsWrong)

/-- 'crumplelaw02.ChannelBack': WHATEVER THE INPUT: true; the input reads as it did. -/
def channelBackSpec : ChangeSpec := { name := "channelBack", fn := fun _ => fun
  | [d1, d2] => { results := [.lit (.bool true)], args := [d1, d2] }
  | _ => none }
def channelBackRow : OpenClaim := { program := "ytbaedpfgjpkabaagreatdoor", sum := "70dcf1a72e1bfb6458344057b31866e249cabb6e895e9fe6e8599e0cc8d3e5ac", func := "crumple/crumplelaw02.ChannelBack", spec := "channelBack", inPlace := ["math.Float64bits", "math.Float64frombits", "math.archFloor", "math.archTrunc", "internal/abi.NoEscape", "internal/bytealg.MakeNoZero", "internal/bytealg.IndexByteString", "internal/bytealg.CountString", "internal/bytealg.IndexString"], unfollowed := true, recurses := true, named := ["crumple/channel.axes", "crumple/channel.signs", "crumple/channel.down", "crumple/channel.up", "crumple/channel.near", "internal/strconv.uint64pow10", "math/bits.deBruijn32tab", "math/bits.deBruijn64tab", "unicode/utf8.first", "unicode/utf8.acceptRanges", "internal/bytealg.MaxLen"], apart := false, laid := [("math/bits.deBruijn32tab", laid_math_bits_deBruijn32tab), ("math/bits.deBruijn64tab", laid_math_bits_deBruijn64tab), ("internal/strconv.uint64pow10", laid_internal_strconv_uint64pow10), ("unicode/utf8.acceptRanges", laid_unicode_utf8_acceptRanges), ("crumple/channel.axes", laid_crumple_channel_axes), ("crumple/channel.signs", laid_crumple_channel_signs), ("crumple/channel.down", laid_crumple_channel_down), ("crumple/channel.up", laid_crumple_channel_up), ("crumple/channel.near", laid_crumple_channel_near), ("unicode/utf8.first", laid_unicode_utf8_first)] }
def ChannelBackSaid : Prop := channelBackRow.holds Tryz.pinned (OpenSpec.ofChange channelBackSpec)

/-- ITS FALSE NEIGHBOUR: 'it returns false'. Refute it at one input. -/
def channelBackWrong : ChangeSpec := { name := "channelBack", fn := fun _ => fun
  | [d1, d2] => { results := [.lit (.bool false)], args := [d1, d2] }
  | _ => none }
def ChannelBackWrongFalsely : Prop := channelBackRow.holds Tryz.pinned (OpenSpec.ofChange channelBackWrong)

/- THE SECOND FORM. 'bulk': how many values and letters a reading holds, each counted each time it is reached (what is shared counts as often as it is met; a slice's spare places count too). A statement '..UptoSaid' is the law's where the arguments, and the package variables that the reading takes, are together of bulk at most 1048576: NARROWER than '..Said'. Prove '..Said' where nothing that the law and all that it calls make is longer than what came in: it says more and counts as full. Else prove '..UptoSaid'. A law counts once. -/
mutual
def uptoBulk {H : Type} : DataW H → Nat
  | .lit (.string bytes) => bytes.length + 1
  | .lit _ => 1
  | .nil => 1
  | .ptr d => uptoBulk d + 1
  | .slice elems spare => uptoBulkAll elems + uptoBulkAll spare + 1
  | .agg parts => uptoBulkAll parts + 1
  | .iface _ d => uptoBulk d + 1
  | .map entries => uptoBulkEntries entries + 1
  | .held _ => 1
def uptoBulkAll {H : Type} : List (DataW H) → Nat
  | [] => 0
  | d :: r => uptoBulk d + uptoBulkAll r
def uptoBulkEntries {H : Type} : List (Lit × DataW H) → Nat
  | [] => 0
  | x :: r => uptoBulkEntry x + uptoBulkEntries r
def uptoBulkEntry {H : Type} : Lit × DataW H → Nat
  | (.string bytes, d) => bytes.length + uptoBulk d + 1
  | (_, d) => uptoBulk d + 1
 end
def uptoSmall : (H : Type) → List (DataW H) → Bool := fun _ ds => decide (uptoBulkAll ds ≤ 1048576)
def OpenSpec.upto (s : _root_.Go.ChangeSpec) : _root_.Go.OpenSpec := { _root_.Go.OpenSpec.ofChange s with cond := some uptoSmall }

/-- 'crumplelaw02.ChannelCodes', WHERE WHAT IT READS IS OF BULK AT MOST 1048576: true; the input reads as it did. -/
def channelCodesUptoRow : OpenClaim := { program := "ytbaedpfgjpkabaagreatdoor", sum := "70dcf1a72e1bfb6458344057b31866e249cabb6e895e9fe6e8599e0cc8d3e5ac", func := "crumple/crumplelaw02.ChannelCodes", spec := "channelCodes", inPlace := ["math.Float64bits", "math.Float64frombits", "math.archFloor", "math.archTrunc", "internal/abi.NoEscape", "internal/bytealg.MakeNoZero"], unfollowed := true, recurses := true, named := ["crumple/channel.axes", "crumple/channel.signs", "crumple/channel.down", "crumple/channel.up", "crumple/channel.near", "internal/strconv.uint64pow10", "math/bits.deBruijn32tab", "math/bits.deBruijn64tab"], apart := false, laid := [("math/bits.deBruijn32tab", laid_math_bits_deBruijn32tab), ("math/bits.deBruijn64tab", laid_math_bits_deBruijn64tab), ("internal/strconv.uint64pow10", laid_internal_strconv_uint64pow10), ("crumple/channel.axes", laid_crumple_channel_axes), ("crumple/channel.signs", laid_crumple_channel_signs), ("crumple/channel.down", laid_crumple_channel_down), ("crumple/channel.up", laid_crumple_channel_up), ("crumple/channel.near", laid_crumple_channel_near)], narrowed := true }
def ChannelCodesUptoSaid : Prop := channelCodesUptoRow.holds Tryz.pinned (OpenSpec.upto channelCodesSpec)

/-- 'crumplelaw02.ChannelSensors', WHERE WHAT IT READS IS OF BULK AT MOST 1048576: true; the input reads as it did. -/
def channelSensorsUptoRow : OpenClaim := { program := "ytbaedpfgjpkabaagreatdoor", sum := "70dcf1a72e1bfb6458344057b31866e249cabb6e895e9fe6e8599e0cc8d3e5ac", func := "crumple/crumplelaw02.ChannelSensors", spec := "channelSensors", inPlace := ["math.Float64bits", "math.Float64frombits", "math.archFloor", "math.archTrunc", "internal/abi.NoEscape", "internal/bytealg.MakeNoZero"], unfollowed := true, recurses := true, named := ["crumple/channel.axes", "crumple/channel.signs", "crumple/channel.down", "crumple/channel.up", "crumple/channel.near", "internal/strconv.uint64pow10", "math/bits.deBruijn32tab", "math/bits.deBruijn64tab"], apart := false, laid := [("math/bits.deBruijn32tab", laid_math_bits_deBruijn32tab), ("math/bits.deBruijn64tab", laid_math_bits_deBruijn64tab), ("internal/strconv.uint64pow10", laid_internal_strconv_uint64pow10), ("crumple/channel.axes", laid_crumple_channel_axes), ("crumple/channel.signs", laid_crumple_channel_signs), ("crumple/channel.down", laid_crumple_channel_down), ("crumple/channel.up", laid_crumple_channel_up), ("crumple/channel.near", laid_crumple_channel_near)], narrowed := true }
def ChannelSensorsUptoSaid : Prop := channelSensorsUptoRow.holds Tryz.pinned (OpenSpec.upto channelSensorsSpec)

/-- 'crumplelaw02.ChannelKernels', WHERE WHAT IT READS IS OF BULK AT MOST 1048576: true; the input reads as it did. -/
def channelKernelsUptoRow : OpenClaim := { program := "ytbaedpfgjpkabaagreatdoor", sum := "70dcf1a72e1bfb6458344057b31866e249cabb6e895e9fe6e8599e0cc8d3e5ac", func := "crumple/crumplelaw02.ChannelKernels", spec := "channelKernels", inPlace := ["math.Float64bits", "math.Float64frombits", "math.archFloor", "math.archTrunc", "internal/abi.NoEscape", "internal/bytealg.MakeNoZero"], unfollowed := true, recurses := true, named := ["crumple/channel.axes", "crumple/channel.signs", "crumple/channel.down", "crumple/channel.up", "crumple/channel.near", "internal/strconv.uint64pow10", "math/bits.deBruijn32tab", "math/bits.deBruijn64tab"], apart := false, laid := [("math/bits.deBruijn32tab", laid_math_bits_deBruijn32tab), ("math/bits.deBruijn64tab", laid_math_bits_deBruijn64tab), ("internal/strconv.uint64pow10", laid_internal_strconv_uint64pow10), ("crumple/channel.axes", laid_crumple_channel_axes), ("crumple/channel.signs", laid_crumple_channel_signs), ("crumple/channel.down", laid_crumple_channel_down), ("crumple/channel.up", laid_crumple_channel_up), ("crumple/channel.near", laid_crumple_channel_near)], narrowed := true }
def ChannelKernelsUptoSaid : Prop := channelKernelsUptoRow.holds Tryz.pinned (OpenSpec.upto channelKernelsSpec)

/-- 'crumplelaw02.ChannelEncloses', WHERE WHAT IT READS IS OF BULK AT MOST 1048576: true; the input reads as it did. -/
def channelEnclosesUptoRow : OpenClaim := { program := "ytbaedpfgjpkabaagreatdoor", sum := "70dcf1a72e1bfb6458344057b31866e249cabb6e895e9fe6e8599e0cc8d3e5ac", func := "crumple/crumplelaw02.ChannelEncloses", spec := "channelEncloses", inPlace := ["math.Float64bits", "math.Float64frombits", "math.archFloor", "math.archTrunc", "internal/abi.NoEscape", "internal/bytealg.MakeNoZero"], unfollowed := true, recurses := true, named := ["crumple/channel.axes", "crumple/channel.signs", "crumple/channel.down", "crumple/channel.up", "crumple/channel.near", "internal/strconv.uint64pow10", "math/bits.deBruijn32tab", "math/bits.deBruijn64tab"], apart := false, laid := [("math/bits.deBruijn32tab", laid_math_bits_deBruijn32tab), ("math/bits.deBruijn64tab", laid_math_bits_deBruijn64tab), ("internal/strconv.uint64pow10", laid_internal_strconv_uint64pow10), ("crumple/channel.axes", laid_crumple_channel_axes), ("crumple/channel.signs", laid_crumple_channel_signs), ("crumple/channel.down", laid_crumple_channel_down), ("crumple/channel.up", laid_crumple_channel_up), ("crumple/channel.near", laid_crumple_channel_near)], narrowed := true }
def ChannelEnclosesUptoSaid : Prop := channelEnclosesUptoRow.holds Tryz.pinned (OpenSpec.upto channelEnclosesSpec)

/-- 'crumplelaw02.ChannelValues', WHERE WHAT IT READS IS OF BULK AT MOST 1048576: true; the input reads as it did. -/
def channelValuesUptoRow : OpenClaim := { program := "ytbaedpfgjpkabaagreatdoor", sum := "70dcf1a72e1bfb6458344057b31866e249cabb6e895e9fe6e8599e0cc8d3e5ac", func := "crumple/crumplelaw02.ChannelValues", spec := "channelValues", inPlace := ["math.Float64bits", "math.Float64frombits", "math.archFloor", "math.archTrunc", "internal/abi.NoEscape", "internal/bytealg.MakeNoZero"], unfollowed := true, recurses := true, named := ["crumple/channel.axes", "crumple/channel.signs", "crumple/channel.down", "crumple/channel.up", "crumple/channel.near", "internal/strconv.uint64pow10", "math/bits.deBruijn32tab", "math/bits.deBruijn64tab"], apart := false, laid := [("math/bits.deBruijn32tab", laid_math_bits_deBruijn32tab), ("math/bits.deBruijn64tab", laid_math_bits_deBruijn64tab), ("internal/strconv.uint64pow10", laid_internal_strconv_uint64pow10), ("crumple/channel.axes", laid_crumple_channel_axes), ("crumple/channel.signs", laid_crumple_channel_signs), ("crumple/channel.down", laid_crumple_channel_down), ("crumple/channel.up", laid_crumple_channel_up), ("crumple/channel.near", laid_crumple_channel_near)], narrowed := true }
def ChannelValuesUptoSaid : Prop := channelValuesUptoRow.holds Tryz.pinned (OpenSpec.upto channelValuesSpec)

/-- 'crumplelaw02.ChannelFills', WHERE WHAT IT READS IS OF BULK AT MOST 1048576: true; the input reads as it did. -/
def channelFillsUptoRow : OpenClaim := { program := "ytbaedpfgjpkabaagreatdoor", sum := "70dcf1a72e1bfb6458344057b31866e249cabb6e895e9fe6e8599e0cc8d3e5ac", func := "crumple/crumplelaw02.ChannelFills", spec := "channelFills", inPlace := ["math.Float64bits", "math.Float64frombits", "math.archFloor", "math.archTrunc", "internal/abi.NoEscape", "internal/bytealg.MakeNoZero"], unfollowed := true, recurses := true, named := ["crumple/channel.axes", "crumple/channel.signs", "crumple/channel.down", "crumple/channel.up", "crumple/channel.near", "internal/strconv.uint64pow10", "math/bits.deBruijn32tab", "math/bits.deBruijn64tab"], apart := false, laid := [("math/bits.deBruijn32tab", laid_math_bits_deBruijn32tab), ("math/bits.deBruijn64tab", laid_math_bits_deBruijn64tab), ("internal/strconv.uint64pow10", laid_internal_strconv_uint64pow10), ("crumple/channel.axes", laid_crumple_channel_axes), ("crumple/channel.signs", laid_crumple_channel_signs), ("crumple/channel.down", laid_crumple_channel_down), ("crumple/channel.up", laid_crumple_channel_up), ("crumple/channel.near", laid_crumple_channel_near)], narrowed := true }
def ChannelFillsUptoSaid : Prop := channelFillsUptoRow.holds Tryz.pinned (OpenSpec.upto channelFillsSpec)

/-- 'crumplelaw02.ChannelSums', WHERE WHAT IT READS IS OF BULK AT MOST 1048576: true; the input reads as it did. -/
def channelSumsUptoRow : OpenClaim := { program := "ytbaedpfgjpkabaagreatdoor", sum := "70dcf1a72e1bfb6458344057b31866e249cabb6e895e9fe6e8599e0cc8d3e5ac", func := "crumple/crumplelaw02.ChannelSums", spec := "channelSums", inPlace := ["math.Float64bits", "math.Float64frombits", "math.archFloor", "math.archTrunc", "internal/abi.NoEscape", "internal/bytealg.MakeNoZero"], unfollowed := true, recurses := true, named := ["crumple/channel.axes", "crumple/channel.signs", "crumple/channel.down", "crumple/channel.up", "crumple/channel.near", "internal/strconv.uint64pow10", "math/bits.deBruijn32tab", "math/bits.deBruijn64tab"], apart := false, laid := [("math/bits.deBruijn32tab", laid_math_bits_deBruijn32tab), ("math/bits.deBruijn64tab", laid_math_bits_deBruijn64tab), ("internal/strconv.uint64pow10", laid_internal_strconv_uint64pow10), ("crumple/channel.axes", laid_crumple_channel_axes), ("crumple/channel.signs", laid_crumple_channel_signs), ("crumple/channel.down", laid_crumple_channel_down), ("crumple/channel.up", laid_crumple_channel_up), ("crumple/channel.near", laid_crumple_channel_near)], narrowed := true }
def ChannelSumsUptoSaid : Prop := channelSumsUptoRow.holds Tryz.pinned (OpenSpec.upto channelSumsSpec)

/-- 'crumplelaw02.ChannelTrue', WHERE WHAT IT READS IS OF BULK AT MOST 1048576: true; the input reads as it did. -/
def channelTrueUptoRow : OpenClaim := { program := "ytbaedpfgjpkabaagreatdoor", sum := "70dcf1a72e1bfb6458344057b31866e249cabb6e895e9fe6e8599e0cc8d3e5ac", func := "crumple/crumplelaw02.ChannelTrue", spec := "channelTrue", inPlace := ["math.Float64bits", "math.Float64frombits", "math.archFloor", "math.archTrunc", "internal/abi.NoEscape", "internal/bytealg.MakeNoZero"], unfollowed := true, recurses := true, named := ["crumple/channel.axes", "crumple/channel.signs", "crumple/channel.down", "crumple/channel.up", "crumple/channel.near", "internal/strconv.uint64pow10", "math/bits.deBruijn32tab", "math/bits.deBruijn64tab"], apart := false, laid := [("math/bits.deBruijn32tab", laid_math_bits_deBruijn32tab), ("math/bits.deBruijn64tab", laid_math_bits_deBruijn64tab), ("internal/strconv.uint64pow10", laid_internal_strconv_uint64pow10), ("crumple/channel.axes", laid_crumple_channel_axes), ("crumple/channel.signs", laid_crumple_channel_signs), ("crumple/channel.down", laid_crumple_channel_down), ("crumple/channel.up", laid_crumple_channel_up), ("crumple/channel.near", laid_crumple_channel_near)], narrowed := true }
def ChannelTrueUptoSaid : Prop := channelTrueUptoRow.holds Tryz.pinned (OpenSpec.upto channelTrueSpec)

/-- 'crumplelaw02.ChannelStays', WHERE WHAT IT READS IS OF BULK AT MOST 1048576: true; the input reads as it did. -/
def channelStaysUptoRow : OpenClaim := { program := "ytbaedpfgjpkabaagreatdoor", sum := "70dcf1a72e1bfb6458344057b31866e249cabb6e895e9fe6e8599e0cc8d3e5ac", func := "crumple/crumplelaw02.ChannelStays", spec := "channelStays", inPlace := ["math.Float64bits", "math.Float64frombits", "math.archFloor", "math.archTrunc", "internal/abi.NoEscape", "internal/bytealg.MakeNoZero"], unfollowed := true, recurses := true, named := ["crumple/channel.axes", "crumple/channel.signs", "crumple/channel.down", "crumple/channel.up", "crumple/channel.near", "internal/strconv.uint64pow10", "math/bits.deBruijn32tab", "math/bits.deBruijn64tab"], apart := false, laid := [("math/bits.deBruijn32tab", laid_math_bits_deBruijn32tab), ("math/bits.deBruijn64tab", laid_math_bits_deBruijn64tab), ("internal/strconv.uint64pow10", laid_internal_strconv_uint64pow10), ("crumple/channel.axes", laid_crumple_channel_axes), ("crumple/channel.signs", laid_crumple_channel_signs), ("crumple/channel.down", laid_crumple_channel_down), ("crumple/channel.up", laid_crumple_channel_up), ("crumple/channel.near", laid_crumple_channel_near)], narrowed := true }
def ChannelStaysUptoSaid : Prop := channelStaysUptoRow.holds Tryz.pinned (OpenSpec.upto channelStaysSpec)

/-- 'crumplelaw02.ChannelWithin', WHERE WHAT IT READS IS OF BULK AT MOST 1048576: true; the input reads as it did. -/
def channelWithinUptoRow : OpenClaim := { program := "ytbaedpfgjpkabaagreatdoor", sum := "70dcf1a72e1bfb6458344057b31866e249cabb6e895e9fe6e8599e0cc8d3e5ac", func := "crumple/crumplelaw02.ChannelWithin", spec := "channelWithin", inPlace := ["math.Float64bits", "math.Float64frombits", "math.archFloor", "math.archTrunc", "internal/abi.NoEscape", "internal/bytealg.MakeNoZero"], unfollowed := true, recurses := true, named := ["crumple/channel.axes", "crumple/channel.signs", "crumple/channel.down", "crumple/channel.up", "crumple/channel.near", "internal/strconv.uint64pow10", "math/bits.deBruijn32tab", "math/bits.deBruijn64tab"], apart := false, laid := [("math/bits.deBruijn32tab", laid_math_bits_deBruijn32tab), ("math/bits.deBruijn64tab", laid_math_bits_deBruijn64tab), ("internal/strconv.uint64pow10", laid_internal_strconv_uint64pow10), ("crumple/channel.axes", laid_crumple_channel_axes), ("crumple/channel.signs", laid_crumple_channel_signs), ("crumple/channel.down", laid_crumple_channel_down), ("crumple/channel.up", laid_crumple_channel_up), ("crumple/channel.near", laid_crumple_channel_near)], narrowed := true }
def ChannelWithinUptoSaid : Prop := channelWithinUptoRow.holds Tryz.pinned (OpenSpec.upto channelWithinSpec)

/-- 'crumplelaw02.ChannelStrings', WHERE WHAT IT READS IS OF BULK AT MOST 1048576: true; the input reads as it did. -/
def channelStringsUptoRow : OpenClaim := { program := "ytbaedpfgjpkabaagreatdoor", sum := "70dcf1a72e1bfb6458344057b31866e249cabb6e895e9fe6e8599e0cc8d3e5ac", func := "crumple/crumplelaw02.ChannelStrings", spec := "channelStrings", inPlace := ["math.Float64bits", "math.Float64frombits", "math.archFloor", "math.archTrunc", "internal/abi.NoEscape", "internal/bytealg.MakeNoZero", "internal/bytealg.IndexByteString", "internal/bytealg.CountString", "internal/bytealg.IndexString"], unfollowed := true, recurses := true, named := ["crumple/channel.axes", "crumple/channel.signs", "crumple/channel.down", "crumple/channel.up", "crumple/channel.near", "internal/strconv.uint64pow10", "math/bits.deBruijn32tab", "math/bits.deBruijn64tab", "unicode/utf8.first", "unicode/utf8.acceptRanges", "internal/bytealg.MaxLen"], apart := false, laid := [("math/bits.deBruijn32tab", laid_math_bits_deBruijn32tab), ("math/bits.deBruijn64tab", laid_math_bits_deBruijn64tab), ("internal/strconv.uint64pow10", laid_internal_strconv_uint64pow10), ("unicode/utf8.acceptRanges", laid_unicode_utf8_acceptRanges), ("crumple/channel.axes", laid_crumple_channel_axes), ("crumple/channel.signs", laid_crumple_channel_signs), ("crumple/channel.down", laid_crumple_channel_down), ("crumple/channel.up", laid_crumple_channel_up), ("crumple/channel.near", laid_crumple_channel_near), ("unicode/utf8.first", laid_unicode_utf8_first)], narrowed := true }
def ChannelStringsUptoSaid : Prop := channelStringsUptoRow.holds Tryz.pinned (OpenSpec.upto channelStringsSpec)

/-- 'crumplelaw02.ChannelBack', WHERE WHAT IT READS IS OF BULK AT MOST 1048576: true; the input reads as it did. -/
def channelBackUptoRow : OpenClaim := { program := "ytbaedpfgjpkabaagreatdoor", sum := "70dcf1a72e1bfb6458344057b31866e249cabb6e895e9fe6e8599e0cc8d3e5ac", func := "crumple/crumplelaw02.ChannelBack", spec := "channelBack", inPlace := ["math.Float64bits", "math.Float64frombits", "math.archFloor", "math.archTrunc", "internal/abi.NoEscape", "internal/bytealg.MakeNoZero", "internal/bytealg.IndexByteString", "internal/bytealg.CountString", "internal/bytealg.IndexString"], unfollowed := true, recurses := true, named := ["crumple/channel.axes", "crumple/channel.signs", "crumple/channel.down", "crumple/channel.up", "crumple/channel.near", "internal/strconv.uint64pow10", "math/bits.deBruijn32tab", "math/bits.deBruijn64tab", "unicode/utf8.first", "unicode/utf8.acceptRanges", "internal/bytealg.MaxLen"], apart := false, laid := [("math/bits.deBruijn32tab", laid_math_bits_deBruijn32tab), ("math/bits.deBruijn64tab", laid_math_bits_deBruijn64tab), ("internal/strconv.uint64pow10", laid_internal_strconv_uint64pow10), ("unicode/utf8.acceptRanges", laid_unicode_utf8_acceptRanges), ("crumple/channel.axes", laid_crumple_channel_axes), ("crumple/channel.signs", laid_crumple_channel_signs), ("crumple/channel.down", laid_crumple_channel_down), ("crumple/channel.up", laid_crumple_channel_up), ("crumple/channel.near", laid_crumple_channel_near), ("unicode/utf8.first", laid_unicode_utf8_first)], narrowed := true }
def ChannelBackUptoSaid : Prop := channelBackUptoRow.holds Tryz.pinned (OpenSpec.upto channelBackSpec)

end Rows
end Go.Proofs.YtbaedpfgjpkabaaGreatDoor
