/-
  NARROWER THAN 'FOR EVERY INPUT', by the rows' own cells (each row's printed sentence says how): AirLayers: laid · AirPaths: laid · AirPassed: laid · AirArrived: laid · AirWinds: laid · AirBent: laid · AirThere: laid · AirParts: laid · AirExplained: laid · AirEchoes: laid · AirStrings: laid · AirBack: laid.
  DERIVED. THE GIVEN ROWS OF THIS SEAT. 12 by the template 'for every input the law returns true; each argument reads behind the call as it read before'; 0 by the template 'total and deterministic' (their statements: YtmlknpghkclffaaGreatDoorTotals.lean).
  GIVEN WITH THE SEED: the statements are not yours to turn. If you find one false, say at which input.
  Laid BY PROGRAM, IN A SANDBOX (cutbox-rows.mjs): the forced cells as the released guide's own fill.sh prints them over the translation cb48fbf513a34c53… (all of the seat's roots in one cut). By AI agents, Wed Nov 11 2026. No macro, syntax, notation, axiom, sorry.
-/
import Derived.Test.YtmlknpghkclffaaGreatDoorChecked
import GoSem.PinnedTables
import GoSem.Claim
import GoSem.ClaimJoined
import GoSem.ClaimMapViews
import Derived.JoinedTies
import Derived.KernelRfl
namespace Go.Proofs.YtmlknpghkclffaaGreatDoor
/- THE CELL 'sum', in the pinned program and in every row, IS THE sha256 OF THE DUMP (.gsa) THAT YtmlknpghkclffaaGreatDoorProg.lean LOADS. Nothing in Lean hashes anything: it is a label: what it is worth is what the hold of that sum in a sandbox is worth. -/
noncomputable def Tryz.pinned : Pinned := { name := "ytmlknpghkclffaagreatdoor", sum := "cb48fbf513a34c53177d157cd9e793b44cebbb942a62faca3531629d017ee68c", checked := Tryz.checked }
namespace Rows
def none {H : Type} : Left H := { results := [], args := [] }

/- WHAT THE LISTED PACKAGE-LEVEL VARIABLES READ AS WHEN THE CALL BEGINS. Each datum BY PROGRAM (the guide's laid-datum.mjs) off the statement by which the dump's own 'gosem.cut.vars' lays the variable. In a bare row this is a premise. The card (YtmlknpghkclffaaGreatDoorCards.lean) ties it to the program's text. -/
def laid_math_bits_deBruijn32tab {H : Type} : DataW H := .agg [.lit (.int .u8 0), .lit (.int .u8 1), .lit (.int .u8 28), .lit (.int .u8 2), .lit (.int .u8 29), .lit (.int .u8 14), .lit (.int .u8 24), .lit (.int .u8 3), .lit (.int .u8 30), .lit (.int .u8 22), .lit (.int .u8 20), .lit (.int .u8 15), .lit (.int .u8 25), .lit (.int .u8 17), .lit (.int .u8 4), .lit (.int .u8 8), .lit (.int .u8 31), .lit (.int .u8 27), .lit (.int .u8 13), .lit (.int .u8 23), .lit (.int .u8 21), .lit (.int .u8 19), .lit (.int .u8 16), .lit (.int .u8 7), .lit (.int .u8 26), .lit (.int .u8 12), .lit (.int .u8 18), .lit (.int .u8 6), .lit (.int .u8 11), .lit (.int .u8 5), .lit (.int .u8 10), .lit (.int .u8 9)]
def laid_math_bits_deBruijn64tab {H : Type} : DataW H := .agg [.lit (.int .u8 0), .lit (.int .u8 1), .lit (.int .u8 56), .lit (.int .u8 2), .lit (.int .u8 57), .lit (.int .u8 49), .lit (.int .u8 28), .lit (.int .u8 3), .lit (.int .u8 61), .lit (.int .u8 58), .lit (.int .u8 42), .lit (.int .u8 50), .lit (.int .u8 38), .lit (.int .u8 29), .lit (.int .u8 17), .lit (.int .u8 4), .lit (.int .u8 62), .lit (.int .u8 47), .lit (.int .u8 59), .lit (.int .u8 36), .lit (.int .u8 45), .lit (.int .u8 43), .lit (.int .u8 51), .lit (.int .u8 22), .lit (.int .u8 53), .lit (.int .u8 39), .lit (.int .u8 33), .lit (.int .u8 30), .lit (.int .u8 24), .lit (.int .u8 18), .lit (.int .u8 12), .lit (.int .u8 5), .lit (.int .u8 63), .lit (.int .u8 55), .lit (.int .u8 48), .lit (.int .u8 27), .lit (.int .u8 60), .lit (.int .u8 41), .lit (.int .u8 37), .lit (.int .u8 16), .lit (.int .u8 46), .lit (.int .u8 35), .lit (.int .u8 44), .lit (.int .u8 21), .lit (.int .u8 52), .lit (.int .u8 32), .lit (.int .u8 23), .lit (.int .u8 11), .lit (.int .u8 54), .lit (.int .u8 26), .lit (.int .u8 40), .lit (.int .u8 15), .lit (.int .u8 34), .lit (.int .u8 20), .lit (.int .u8 31), .lit (.int .u8 10), .lit (.int .u8 25), .lit (.int .u8 14), .lit (.int .u8 19), .lit (.int .u8 9), .lit (.int .u8 13), .lit (.int .u8 8), .lit (.int .u8 7), .lit (.int .u8 6)]
def laid_internal_strconv_uint64pow10 {H : Type} : DataW H := .agg [.lit (.int .u64 1), .lit (.int .u64 10), .lit (.int .u64 100), .lit (.int .u64 1000), .lit (.int .u64 10000), .lit (.int .u64 100000), .lit (.int .u64 1000000), .lit (.int .u64 10000000), .lit (.int .u64 100000000), .lit (.int .u64 1000000000), .lit (.int .u64 10000000000), .lit (.int .u64 100000000000), .lit (.int .u64 1000000000000), .lit (.int .u64 10000000000000), .lit (.int .u64 100000000000000), .lit (.int .u64 1000000000000000), .lit (.int .u64 10000000000000000), .lit (.int .u64 100000000000000000), .lit (.int .u64 1000000000000000000), .lit (.int .u64 10000000000000000000)]
def laid_flyover_air_heads {H : Type} : DataW H := .agg [.lit (.string [108, 97, 121, 101, 114])]
def laid_unicode_utf8_acceptRanges {H : Type} : DataW H := .agg [.agg [.lit (.int .u8 128), .lit (.int .u8 191)], .agg [.lit (.int .u8 160), .lit (.int .u8 191)], .agg [.lit (.int .u8 128), .lit (.int .u8 159)], .agg [.lit (.int .u8 144), .lit (.int .u8 191)], .agg [.lit (.int .u8 128), .lit (.int .u8 143)], .agg [.lit (.int .u8 0), .lit (.int .u8 0)], .agg [.lit (.int .u8 0), .lit (.int .u8 0)], .agg [.lit (.int .u8 0), .lit (.int .u8 0)], .agg [.lit (.int .u8 0), .lit (.int .u8 0)], .agg [.lit (.int .u8 0), .lit (.int .u8 0)], .agg [.lit (.int .u8 0), .lit (.int .u8 0)], .agg [.lit (.int .u8 0), .lit (.int .u8 0)], .agg [.lit (.int .u8 0), .lit (.int .u8 0)], .agg [.lit (.int .u8 0), .lit (.int .u8 0)], .agg [.lit (.int .u8 0), .lit (.int .u8 0)], .agg [.lit (.int .u8 0), .lit (.int .u8 0)]]
/-- One of Go's own tables, pinned by name: the form's constant. -/
def laid_unicode_utf8_first : DataW Unit := Go.Pinned.utf8First

/-- 'flyoverlaw03.AirLayers': WHATEVER THE INPUT: true; the input reads as it did. -/
def airLayersSpec : ChangeSpec := { name := "airLayers", fn := fun _ => fun
  | [d1, d2] => { results := [.lit (.bool true)], args := [d1, d2] }
  | _ => none }
def airLayersRow : OpenClaim := { program := "ytmlknpghkclffaagreatdoor", sum := "cb48fbf513a34c53177d157cd9e793b44cebbb942a62faca3531629d017ee68c", func := "flyover/flyoverlaw03.AirLayers", spec := "airLayers", inPlace := ["slices.overlaps[flyover/air.Layer]", "math.sqrt", "math.Float64bits", "math.Float64frombits", "math.archTrunc", "internal/abi.NoEscape", "internal/bytealg.MakeNoZero"], unfollowed := true, recurses := true, named := ["flyover/air.heads", "internal/strconv.uint64pow10", "math/bits.deBruijn32tab", "math/bits.deBruijn64tab"], apart := false, laid := [("math/bits.deBruijn32tab", laid_math_bits_deBruijn32tab), ("math/bits.deBruijn64tab", laid_math_bits_deBruijn64tab), ("internal/strconv.uint64pow10", laid_internal_strconv_uint64pow10), ("flyover/air.heads", laid_flyover_air_heads)] }
def AirLayersSaid : Prop := airLayersRow.holds Tryz.pinned (OpenSpec.ofChange airLayersSpec)

/-- ITS FALSE NEIGHBOUR: 'it returns false'. Refute it at one input. -/
def airLayersWrong : ChangeSpec := { name := "airLayers", fn := fun _ => fun
  | [d1, d2] => { results := [.lit (.bool false)], args := [d1, d2] }
  | _ => none }
def AirLayersWrongFalsely : Prop := airLayersRow.holds Tryz.pinned (OpenSpec.ofChange airLayersWrong)

/-- 'flyoverlaw03.AirPaths': WHATEVER THE INPUT: true; the input reads as it did. -/
def airPathsSpec : ChangeSpec := { name := "airPaths", fn := fun _ => fun
  | [d1, d2] => { results := [.lit (.bool true)], args := [d1, d2] }
  | _ => none }
def airPathsRow : OpenClaim := { program := "ytmlknpghkclffaagreatdoor", sum := "cb48fbf513a34c53177d157cd9e793b44cebbb942a62faca3531629d017ee68c", func := "flyover/flyoverlaw03.AirPaths", spec := "airPaths", inPlace := ["slices.overlaps[flyover/air.Layer]", "math.sqrt", "math.Float64bits", "math.Float64frombits", "math.archTrunc", "internal/abi.NoEscape", "internal/bytealg.MakeNoZero"], unfollowed := true, recurses := true, named := ["flyover/air.heads", "internal/strconv.uint64pow10", "math/bits.deBruijn32tab", "math/bits.deBruijn64tab"], apart := false, laid := [("math/bits.deBruijn32tab", laid_math_bits_deBruijn32tab), ("math/bits.deBruijn64tab", laid_math_bits_deBruijn64tab), ("internal/strconv.uint64pow10", laid_internal_strconv_uint64pow10), ("flyover/air.heads", laid_flyover_air_heads)] }
def AirPathsSaid : Prop := airPathsRow.holds Tryz.pinned (OpenSpec.ofChange airPathsSpec)

/-- ITS FALSE NEIGHBOUR: 'it returns false'. Refute it at one input. -/
def airPathsWrong : ChangeSpec := { name := "airPaths", fn := fun _ => fun
  | [d1, d2] => { results := [.lit (.bool false)], args := [d1, d2] }
  | _ => none }
def AirPathsWrongFalsely : Prop := airPathsRow.holds Tryz.pinned (OpenSpec.ofChange airPathsWrong)

/-- 'flyoverlaw03.AirPassed': WHATEVER THE INPUT: true; the input reads as it did. -/
def airPassedSpec : ChangeSpec := { name := "airPassed", fn := fun _ => fun
  | [d1, d2] => { results := [.lit (.bool true)], args := [d1, d2] }
  | _ => none }
def airPassedRow : OpenClaim := { program := "ytmlknpghkclffaagreatdoor", sum := "cb48fbf513a34c53177d157cd9e793b44cebbb942a62faca3531629d017ee68c", func := "flyover/flyoverlaw03.AirPassed", spec := "airPassed", inPlace := ["slices.overlaps[flyover/air.Layer]", "math.sqrt", "math.Float64bits", "math.Float64frombits", "math.archTrunc", "internal/abi.NoEscape", "internal/bytealg.MakeNoZero"], unfollowed := true, recurses := true, named := ["flyover/air.heads", "internal/strconv.uint64pow10", "math/bits.deBruijn32tab", "math/bits.deBruijn64tab"], apart := false, laid := [("math/bits.deBruijn32tab", laid_math_bits_deBruijn32tab), ("math/bits.deBruijn64tab", laid_math_bits_deBruijn64tab), ("internal/strconv.uint64pow10", laid_internal_strconv_uint64pow10), ("flyover/air.heads", laid_flyover_air_heads)] }
def AirPassedSaid : Prop := airPassedRow.holds Tryz.pinned (OpenSpec.ofChange airPassedSpec)

/-- ITS FALSE NEIGHBOUR: 'it returns false'. Refute it at one input. -/
def airPassedWrong : ChangeSpec := { name := "airPassed", fn := fun _ => fun
  | [d1, d2] => { results := [.lit (.bool false)], args := [d1, d2] }
  | _ => none }
def AirPassedWrongFalsely : Prop := airPassedRow.holds Tryz.pinned (OpenSpec.ofChange airPassedWrong)

/-- 'flyoverlaw03.AirArrived': WHATEVER THE INPUT: true; the input reads as it did. -/
def airArrivedSpec : ChangeSpec := { name := "airArrived", fn := fun _ => fun
  | [d1, d2, d3] => { results := [.lit (.bool true)], args := [d1, d2, d3] }
  | _ => none }
def airArrivedRow : OpenClaim := { program := "ytmlknpghkclffaagreatdoor", sum := "cb48fbf513a34c53177d157cd9e793b44cebbb942a62faca3531629d017ee68c", func := "flyover/flyoverlaw03.AirArrived", spec := "airArrived", inPlace := ["slices.overlaps[flyover/air.Layer]", "math.sqrt", "math.Float64bits", "math.Float64frombits", "math.archTrunc", "internal/abi.NoEscape", "internal/bytealg.MakeNoZero"], unfollowed := true, recurses := true, named := ["flyover/air.heads", "internal/strconv.uint64pow10", "math/bits.deBruijn32tab", "math/bits.deBruijn64tab"], apart := false, laid := [("math/bits.deBruijn32tab", laid_math_bits_deBruijn32tab), ("math/bits.deBruijn64tab", laid_math_bits_deBruijn64tab), ("internal/strconv.uint64pow10", laid_internal_strconv_uint64pow10), ("flyover/air.heads", laid_flyover_air_heads)] }
def AirArrivedSaid : Prop := airArrivedRow.holds Tryz.pinned (OpenSpec.ofChange airArrivedSpec)

/-- ITS FALSE NEIGHBOUR: 'it returns false'. Refute it at one input. -/
def airArrivedWrong : ChangeSpec := { name := "airArrived", fn := fun _ => fun
  | [d1, d2, d3] => { results := [.lit (.bool false)], args := [d1, d2, d3] }
  | _ => none }
def AirArrivedWrongFalsely : Prop := airArrivedRow.holds Tryz.pinned (OpenSpec.ofChange airArrivedWrong)

/-- 'flyoverlaw03.AirWinds': WHATEVER THE INPUT: true; the input reads as it did. -/
def airWindsSpec : ChangeSpec := { name := "airWinds", fn := fun _ => fun
  | [d1, d2, d3] => { results := [.lit (.bool true)], args := [d1, d2, d3] }
  | _ => none }
def airWindsRow : OpenClaim := { program := "ytmlknpghkclffaagreatdoor", sum := "cb48fbf513a34c53177d157cd9e793b44cebbb942a62faca3531629d017ee68c", func := "flyover/flyoverlaw03.AirWinds", spec := "airWinds", inPlace := ["slices.overlaps[flyover/air.Layer]", "math.sqrt", "math.Float64bits", "math.Float64frombits", "math.archTrunc", "internal/abi.NoEscape", "internal/bytealg.MakeNoZero"], unfollowed := true, recurses := true, named := ["flyover/air.heads", "internal/strconv.uint64pow10", "math/bits.deBruijn32tab", "math/bits.deBruijn64tab"], apart := false, laid := [("math/bits.deBruijn32tab", laid_math_bits_deBruijn32tab), ("math/bits.deBruijn64tab", laid_math_bits_deBruijn64tab), ("internal/strconv.uint64pow10", laid_internal_strconv_uint64pow10), ("flyover/air.heads", laid_flyover_air_heads)] }
def AirWindsSaid : Prop := airWindsRow.holds Tryz.pinned (OpenSpec.ofChange airWindsSpec)

/-- ITS FALSE NEIGHBOUR: 'it returns false'. Refute it at one input. -/
def airWindsWrong : ChangeSpec := { name := "airWinds", fn := fun _ => fun
  | [d1, d2, d3] => { results := [.lit (.bool false)], args := [d1, d2, d3] }
  | _ => none }
def AirWindsWrongFalsely : Prop := airWindsRow.holds Tryz.pinned (OpenSpec.ofChange airWindsWrong)

/-- 'flyoverlaw03.AirBent': WHATEVER THE INPUT: true; the input reads as it did. -/
def airBentSpec : ChangeSpec := { name := "airBent", fn := fun _ => fun
  | [d1, d2, d3] => { results := [.lit (.bool true)], args := [d1, d2, d3] }
  | _ => none }
def airBentRow : OpenClaim := { program := "ytmlknpghkclffaagreatdoor", sum := "cb48fbf513a34c53177d157cd9e793b44cebbb942a62faca3531629d017ee68c", func := "flyover/flyoverlaw03.AirBent", spec := "airBent", inPlace := ["slices.overlaps[flyover/air.Layer]", "math.sqrt", "math.Float64bits", "math.Float64frombits", "math.archTrunc", "internal/abi.NoEscape", "internal/bytealg.MakeNoZero"], unfollowed := true, recurses := true, named := ["flyover/air.heads", "internal/strconv.uint64pow10", "math/bits.deBruijn32tab", "math/bits.deBruijn64tab"], apart := false, laid := [("math/bits.deBruijn32tab", laid_math_bits_deBruijn32tab), ("math/bits.deBruijn64tab", laid_math_bits_deBruijn64tab), ("internal/strconv.uint64pow10", laid_internal_strconv_uint64pow10), ("flyover/air.heads", laid_flyover_air_heads)] }
def AirBentSaid : Prop := airBentRow.holds Tryz.pinned (OpenSpec.ofChange airBentSpec)

/-- ITS FALSE NEIGHBOUR: 'it returns false'. Refute it at one input. -/
def airBentWrong : ChangeSpec := { name := "airBent", fn := fun _ => fun
  | [d1, d2, d3] => { results := [.lit (.bool false)], args := [d1, d2, d3] }
  | _ => none }
def AirBentWrongFalsely : Prop := airBentRow.holds Tryz.pinned (OpenSpec.ofChange airBentWrong)

/-- 'flyoverlaw03.AirThere': WHATEVER THE INPUT: true; the input reads as it did. -/
def airThereSpec : ChangeSpec := { name := "airThere", fn := fun _ => fun
  | [d1, d2] => { results := [.lit (.bool true)], args := [d1, d2] }
  | _ => none }
def airThereRow : OpenClaim := { program := "ytmlknpghkclffaagreatdoor", sum := "cb48fbf513a34c53177d157cd9e793b44cebbb942a62faca3531629d017ee68c", func := "flyover/flyoverlaw03.AirThere", spec := "airThere", inPlace := ["slices.overlaps[flyover/air.Layer]", "math.sqrt", "math.Float64bits", "math.Float64frombits", "math.archTrunc", "internal/abi.NoEscape", "internal/bytealg.MakeNoZero"], unfollowed := true, recurses := true, named := ["flyover/air.heads", "internal/strconv.uint64pow10", "math/bits.deBruijn32tab", "math/bits.deBruijn64tab"], apart := false, laid := [("math/bits.deBruijn32tab", laid_math_bits_deBruijn32tab), ("math/bits.deBruijn64tab", laid_math_bits_deBruijn64tab), ("internal/strconv.uint64pow10", laid_internal_strconv_uint64pow10), ("flyover/air.heads", laid_flyover_air_heads)] }
def AirThereSaid : Prop := airThereRow.holds Tryz.pinned (OpenSpec.ofChange airThereSpec)

/-- ITS FALSE NEIGHBOUR: 'it returns false'. Refute it at one input. -/
def airThereWrong : ChangeSpec := { name := "airThere", fn := fun _ => fun
  | [d1, d2] => { results := [.lit (.bool false)], args := [d1, d2] }
  | _ => none }
def AirThereWrongFalsely : Prop := airThereRow.holds Tryz.pinned (OpenSpec.ofChange airThereWrong)

/-- 'flyoverlaw03.AirParts': WHATEVER THE INPUT: true; the input reads as it did. -/
def airPartsSpec : ChangeSpec := { name := "airParts", fn := fun _ => fun
  | [d1, d2, d3] => { results := [.lit (.bool true)], args := [d1, d2, d3] }
  | _ => none }
def airPartsRow : OpenClaim := { program := "ytmlknpghkclffaagreatdoor", sum := "cb48fbf513a34c53177d157cd9e793b44cebbb942a62faca3531629d017ee68c", func := "flyover/flyoverlaw03.AirParts", spec := "airParts", inPlace := ["slices.overlaps[flyover/air.Layer]", "math.sqrt", "math.Float64bits", "math.Float64frombits", "math.archTrunc", "internal/abi.NoEscape", "internal/bytealg.MakeNoZero"], unfollowed := true, recurses := true, named := ["flyover/air.heads", "internal/strconv.uint64pow10", "math/bits.deBruijn32tab", "math/bits.deBruijn64tab"], apart := false, laid := [("math/bits.deBruijn32tab", laid_math_bits_deBruijn32tab), ("math/bits.deBruijn64tab", laid_math_bits_deBruijn64tab), ("internal/strconv.uint64pow10", laid_internal_strconv_uint64pow10), ("flyover/air.heads", laid_flyover_air_heads)] }
def AirPartsSaid : Prop := airPartsRow.holds Tryz.pinned (OpenSpec.ofChange airPartsSpec)

/-- ITS FALSE NEIGHBOUR: 'it returns false'. Refute it at one input. -/
def airPartsWrong : ChangeSpec := { name := "airParts", fn := fun _ => fun
  | [d1, d2, d3] => { results := [.lit (.bool false)], args := [d1, d2, d3] }
  | _ => none }
def AirPartsWrongFalsely : Prop := airPartsRow.holds Tryz.pinned (OpenSpec.ofChange airPartsWrong)

/-- 'flyoverlaw03.AirExplained': WHATEVER THE INPUT: true; the input reads as it did. -/
def airExplainedSpec : ChangeSpec := { name := "airExplained", fn := fun _ => fun
  | [d1, d2, d3] => { results := [.lit (.bool true)], args := [d1, d2, d3] }
  | _ => none }
def airExplainedRow : OpenClaim := { program := "ytmlknpghkclffaagreatdoor", sum := "cb48fbf513a34c53177d157cd9e793b44cebbb942a62faca3531629d017ee68c", func := "flyover/flyoverlaw03.AirExplained", spec := "airExplained", inPlace := ["slices.overlaps[flyover/air.Layer]", "math.sqrt", "math.Float64bits", "math.Float64frombits", "math.archTrunc", "internal/abi.NoEscape", "internal/bytealg.MakeNoZero"], unfollowed := true, recurses := true, named := ["flyover/air.heads", "internal/strconv.uint64pow10", "math/bits.deBruijn32tab", "math/bits.deBruijn64tab"], apart := false, laid := [("math/bits.deBruijn32tab", laid_math_bits_deBruijn32tab), ("math/bits.deBruijn64tab", laid_math_bits_deBruijn64tab), ("internal/strconv.uint64pow10", laid_internal_strconv_uint64pow10), ("flyover/air.heads", laid_flyover_air_heads)] }
def AirExplainedSaid : Prop := airExplainedRow.holds Tryz.pinned (OpenSpec.ofChange airExplainedSpec)

/-- ITS FALSE NEIGHBOUR: 'it returns false'. Refute it at one input. -/
def airExplainedWrong : ChangeSpec := { name := "airExplained", fn := fun _ => fun
  | [d1, d2, d3] => { results := [.lit (.bool false)], args := [d1, d2, d3] }
  | _ => none }
def AirExplainedWrongFalsely : Prop := airExplainedRow.holds Tryz.pinned (OpenSpec.ofChange airExplainedWrong)

/-- 'flyoverlaw03.AirEchoes': WHATEVER THE INPUT: true; the input reads as it did. -/
def airEchoesSpec : ChangeSpec := { name := "airEchoes", fn := fun _ => fun
  | [d1, d2, d3] => { results := [.lit (.bool true)], args := [d1, d2, d3] }
  | _ => none }
def airEchoesRow : OpenClaim := { program := "ytmlknpghkclffaagreatdoor", sum := "cb48fbf513a34c53177d157cd9e793b44cebbb942a62faca3531629d017ee68c", func := "flyover/flyoverlaw03.AirEchoes", spec := "airEchoes", inPlace := ["slices.overlaps[flyover/air.Layer]", "math.sqrt", "math.Float64bits", "math.Float64frombits", "math.archTrunc", "internal/abi.NoEscape", "internal/bytealg.MakeNoZero"], unfollowed := true, recurses := true, named := ["flyover/air.heads", "internal/strconv.uint64pow10", "math/bits.deBruijn32tab", "math/bits.deBruijn64tab"], apart := false, laid := [("math/bits.deBruijn32tab", laid_math_bits_deBruijn32tab), ("math/bits.deBruijn64tab", laid_math_bits_deBruijn64tab), ("internal/strconv.uint64pow10", laid_internal_strconv_uint64pow10), ("flyover/air.heads", laid_flyover_air_heads)] }
def AirEchoesSaid : Prop := airEchoesRow.holds Tryz.pinned (OpenSpec.ofChange airEchoesSpec)

/-- ITS FALSE NEIGHBOUR: 'it returns false'. Refute it at one input. -/
def airEchoesWrong : ChangeSpec := { name := "airEchoes", fn := fun _ => fun
  | [d1, d2, d3] => { results := [.lit (.bool false)], args := [d1, d2, d3] }
  | _ => none }
def AirEchoesWrongFalsely : Prop := airEchoesRow.holds Tryz.pinned (OpenSpec.ofChange airEchoesWrong)

/-- 'flyoverlaw03.AirStrings': WHATEVER THE INPUT: true; the input reads as it did. -/
def airStringsSpec : ChangeSpec := { name := "airStrings", fn := fun _ => fun
  | [d1, d2] => { results := [.lit (.bool true)], args := [d1, d2] }
  | _ => none }
def airStringsRow : OpenClaim := { program := "ytmlknpghkclffaagreatdoor", sum := "cb48fbf513a34c53177d157cd9e793b44cebbb942a62faca3531629d017ee68c", func := "flyover/flyoverlaw03.AirStrings", spec := "airStrings", inPlace := ["slices.overlaps[flyover/air.Layer]", "math.sqrt", "math.Float64bits", "math.Float64frombits", "math.archTrunc", "internal/abi.NoEscape", "internal/bytealg.MakeNoZero", "internal/bytealg.IndexByteString", "internal/bytealg.CountString", "internal/bytealg.IndexString"], unfollowed := true, recurses := true, named := ["flyover/air.heads", "internal/strconv.uint64pow10", "math/bits.deBruijn32tab", "math/bits.deBruijn64tab", "unicode/utf8.first", "unicode/utf8.acceptRanges", "internal/bytealg.MaxLen"], apart := false, laid := [("math/bits.deBruijn32tab", laid_math_bits_deBruijn32tab), ("math/bits.deBruijn64tab", laid_math_bits_deBruijn64tab), ("internal/strconv.uint64pow10", laid_internal_strconv_uint64pow10), ("unicode/utf8.acceptRanges", laid_unicode_utf8_acceptRanges), ("flyover/air.heads", laid_flyover_air_heads), ("unicode/utf8.first", laid_unicode_utf8_first)] }
def AirStringsSaid : Prop := airStringsRow.holds Tryz.pinned (OpenSpec.ofChange airStringsSpec)

/-- ITS FALSE NEIGHBOUR: 'it returns false'. Refute it at one input. -/
def airStringsWrong : ChangeSpec := { name := "airStrings", fn := fun _ => fun
  | [d1, d2] => { results := [.lit (.bool false)], args := [d1, d2] }
  | _ => none }
def AirStringsWrongFalsely : Prop := airStringsRow.holds Tryz.pinned (OpenSpec.ofChange airStringsWrong)

/-- 'flyoverlaw03.AirBack': WHATEVER THE INPUT: true; the input reads as it did. -/
def airBackSpec : ChangeSpec := { name := "airBack", fn := fun _ => fun
  | [d1, d2, d3] => { results := [.lit (.bool true)], args := [d1, d2, d3] }
  | _ => none }
def airBackRow : OpenClaim := { program := "ytmlknpghkclffaagreatdoor", sum := "cb48fbf513a34c53177d157cd9e793b44cebbb942a62faca3531629d017ee68c", func := "flyover/flyoverlaw03.AirBack", spec := "airBack", inPlace := ["slices.overlaps[flyover/air.Layer]", "math.sqrt", "math.Float64bits", "math.Float64frombits", "math.archTrunc", "internal/abi.NoEscape", "internal/bytealg.MakeNoZero", "internal/bytealg.IndexByteString", "internal/bytealg.CountString", "internal/bytealg.IndexString"], unfollowed := true, recurses := true, named := ["flyover/air.heads", "internal/strconv.uint64pow10", "math/bits.deBruijn32tab", "math/bits.deBruijn64tab", "unicode/utf8.first", "unicode/utf8.acceptRanges", "internal/bytealg.MaxLen"], apart := false, laid := [("math/bits.deBruijn32tab", laid_math_bits_deBruijn32tab), ("math/bits.deBruijn64tab", laid_math_bits_deBruijn64tab), ("internal/strconv.uint64pow10", laid_internal_strconv_uint64pow10), ("unicode/utf8.acceptRanges", laid_unicode_utf8_acceptRanges), ("flyover/air.heads", laid_flyover_air_heads), ("unicode/utf8.first", laid_unicode_utf8_first)] }
def AirBackSaid : Prop := airBackRow.holds Tryz.pinned (OpenSpec.ofChange airBackSpec)

/-- ITS FALSE NEIGHBOUR: 'it returns false'. Refute it at one input. -/
def airBackWrong : ChangeSpec := { name := "airBack", fn := fun _ => fun
  | [d1, d2, d3] => { results := [.lit (.bool false)], args := [d1, d2, d3] }
  | _ => none }
def AirBackWrongFalsely : Prop := airBackRow.holds Tryz.pinned (OpenSpec.ofChange airBackWrong)

/- THE SECOND FORM. 'bulk': how many values and letters a reading holds, each counted each time it is reached (what is shared counts as often as it is met; a slice's spare places count too). A statement '..UptoSaid' is the law's where the arguments, and the package variables that the reading takes, are together of bulk at most 1048576: NARROWER than '..Said'. Prove '..Said' where nothing that the law and all that it calls make is longer than what came in: it says more and counts as full. Else prove '..UptoSaid'. A law counts once. -/
mutual
def uptoBulk {H : Type} : DataW H → Nat
  | .lit (.string bytes) => bytes.length + 1
  | .lit _ => 1
  | .nil => 1
  | .ptr d => uptoBulk d + 1
  | .slice elems spare => uptoBulkAll elems + uptoBulkAll spare + 1
  | .agg parts => uptoBulkAll parts + 1
  | .iface _ d => uptoBulk d + 1
  | .map entries => uptoBulkEntries entries + 1
  | .held _ => 1
def uptoBulkAll {H : Type} : List (DataW H) → Nat
  | [] => 0
  | d :: r => uptoBulk d + uptoBulkAll r
def uptoBulkEntries {H : Type} : List (Lit × DataW H) → Nat
  | [] => 0
  | x :: r => uptoBulkEntry x + uptoBulkEntries r
def uptoBulkEntry {H : Type} : Lit × DataW H → Nat
  | (.string bytes, d) => bytes.length + uptoBulk d + 1
  | (_, d) => uptoBulk d + 1
 end
def uptoSmall : (H : Type) → List (DataW H) → Bool := fun _ ds => decide (uptoBulkAll ds ≤ 1048576)
def OpenSpec.upto (s : _root_.Go.ChangeSpec) : _root_.Go.OpenSpec := { _root_.Go.OpenSpec.ofChange s with cond := some uptoSmall }

/-- 'flyoverlaw03.AirLayers', WHERE WHAT IT READS IS OF BULK AT MOST 1048576: true; the input reads as it did. -/
def airLayersUptoRow : OpenClaim := { program := "ytmlknpghkclffaagreatdoor", sum := "cb48fbf513a34c53177d157cd9e793b44cebbb942a62faca3531629d017ee68c", func := "flyover/flyoverlaw03.AirLayers", spec := "airLayers", inPlace := ["slices.overlaps[flyover/air.Layer]", "math.sqrt", "math.Float64bits", "math.Float64frombits", "math.archTrunc", "internal/abi.NoEscape", "internal/bytealg.MakeNoZero"], unfollowed := true, recurses := true, named := ["flyover/air.heads", "internal/strconv.uint64pow10", "math/bits.deBruijn32tab", "math/bits.deBruijn64tab"], apart := false, laid := [("math/bits.deBruijn32tab", laid_math_bits_deBruijn32tab), ("math/bits.deBruijn64tab", laid_math_bits_deBruijn64tab), ("internal/strconv.uint64pow10", laid_internal_strconv_uint64pow10), ("flyover/air.heads", laid_flyover_air_heads)], narrowed := true }
def AirLayersUptoSaid : Prop := airLayersUptoRow.holds Tryz.pinned (OpenSpec.upto airLayersSpec)

/-- 'flyoverlaw03.AirPaths', WHERE WHAT IT READS IS OF BULK AT MOST 1048576: true; the input reads as it did. -/
def airPathsUptoRow : OpenClaim := { program := "ytmlknpghkclffaagreatdoor", sum := "cb48fbf513a34c53177d157cd9e793b44cebbb942a62faca3531629d017ee68c", func := "flyover/flyoverlaw03.AirPaths", spec := "airPaths", inPlace := ["slices.overlaps[flyover/air.Layer]", "math.sqrt", "math.Float64bits", "math.Float64frombits", "math.archTrunc", "internal/abi.NoEscape", "internal/bytealg.MakeNoZero"], unfollowed := true, recurses := true, named := ["flyover/air.heads", "internal/strconv.uint64pow10", "math/bits.deBruijn32tab", "math/bits.deBruijn64tab"], apart := false, laid := [("math/bits.deBruijn32tab", laid_math_bits_deBruijn32tab), ("math/bits.deBruijn64tab", laid_math_bits_deBruijn64tab), ("internal/strconv.uint64pow10", laid_internal_strconv_uint64pow10), ("flyover/air.heads", laid_flyover_air_heads)], narrowed := true }
def AirPathsUptoSaid : Prop := airPathsUptoRow.holds Tryz.pinned (OpenSpec.upto airPathsSpec)

/-- 'flyoverlaw03.AirPassed', WHERE WHAT IT READS IS OF BULK AT MOST 1048576: true; the input reads as it did. -/
def airPassedUptoRow : OpenClaim := { program := "ytmlknpghkclffaagreatdoor", sum := "cb48fbf513a34c53177d157cd9e793b44cebbb942a62faca3531629d017ee68c", func := "flyover/flyoverlaw03.AirPassed", spec := "airPassed", inPlace := ["slices.overlaps[flyover/air.Layer]", "math.sqrt", "math.Float64bits", "math.Float64frombits", "math.archTrunc", "internal/abi.NoEscape", "internal/bytealg.MakeNoZero"], unfollowed := true, recurses := true, named := ["flyover/air.heads", "internal/strconv.uint64pow10", "math/bits.deBruijn32tab", "math/bits.deBruijn64tab"], apart := false, laid := [("math/bits.deBruijn32tab", laid_math_bits_deBruijn32tab), ("math/bits.deBruijn64tab", laid_math_bits_deBruijn64tab), ("internal/strconv.uint64pow10", laid_internal_strconv_uint64pow10), ("flyover/air.heads", laid_flyover_air_heads)], narrowed := true }
def AirPassedUptoSaid : Prop := airPassedUptoRow.holds Tryz.pinned (OpenSpec.upto airPassedSpec)

/-- 'flyoverlaw03.AirArrived', WHERE WHAT IT READS IS OF BULK AT MOST 1048576: true; the input reads as it did. -/
def airArrivedUptoRow : OpenClaim := { program := "ytmlknpghkclffaagreatdoor", sum := "cb48fbf513a34c53177d157cd9e793b44cebbb942a62faca3531629d017ee68c", func := "flyover/flyoverlaw03.AirArrived", spec := "airArrived", inPlace := ["slices.overlaps[flyover/air.Layer]", "math.sqrt", "math.Float64bits", "math.Float64frombits", "math.archTrunc", "internal/abi.NoEscape", "internal/bytealg.MakeNoZero"], unfollowed := true, recurses := true, named := ["flyover/air.heads", "internal/strconv.uint64pow10", "math/bits.deBruijn32tab", "math/bits.deBruijn64tab"], apart := false, laid := [("math/bits.deBruijn32tab", laid_math_bits_deBruijn32tab), ("math/bits.deBruijn64tab", laid_math_bits_deBruijn64tab), ("internal/strconv.uint64pow10", laid_internal_strconv_uint64pow10), ("flyover/air.heads", laid_flyover_air_heads)], narrowed := true }
def AirArrivedUptoSaid : Prop := airArrivedUptoRow.holds Tryz.pinned (OpenSpec.upto airArrivedSpec)

/-- 'flyoverlaw03.AirWinds', WHERE WHAT IT READS IS OF BULK AT MOST 1048576: true; the input reads as it did. -/
def airWindsUptoRow : OpenClaim := { program := "ytmlknpghkclffaagreatdoor", sum := "cb48fbf513a34c53177d157cd9e793b44cebbb942a62faca3531629d017ee68c", func := "flyover/flyoverlaw03.AirWinds", spec := "airWinds", inPlace := ["slices.overlaps[flyover/air.Layer]", "math.sqrt", "math.Float64bits", "math.Float64frombits", "math.archTrunc", "internal/abi.NoEscape", "internal/bytealg.MakeNoZero"], unfollowed := true, recurses := true, named := ["flyover/air.heads", "internal/strconv.uint64pow10", "math/bits.deBruijn32tab", "math/bits.deBruijn64tab"], apart := false, laid := [("math/bits.deBruijn32tab", laid_math_bits_deBruijn32tab), ("math/bits.deBruijn64tab", laid_math_bits_deBruijn64tab), ("internal/strconv.uint64pow10", laid_internal_strconv_uint64pow10), ("flyover/air.heads", laid_flyover_air_heads)], narrowed := true }
def AirWindsUptoSaid : Prop := airWindsUptoRow.holds Tryz.pinned (OpenSpec.upto airWindsSpec)

/-- 'flyoverlaw03.AirBent', WHERE WHAT IT READS IS OF BULK AT MOST 1048576: true; the input reads as it did. -/
def airBentUptoRow : OpenClaim := { program := "ytmlknpghkclffaagreatdoor", sum := "cb48fbf513a34c53177d157cd9e793b44cebbb942a62faca3531629d017ee68c", func := "flyover/flyoverlaw03.AirBent", spec := "airBent", inPlace := ["slices.overlaps[flyover/air.Layer]", "math.sqrt", "math.Float64bits", "math.Float64frombits", "math.archTrunc", "internal/abi.NoEscape", "internal/bytealg.MakeNoZero"], unfollowed := true, recurses := true, named := ["flyover/air.heads", "internal/strconv.uint64pow10", "math/bits.deBruijn32tab", "math/bits.deBruijn64tab"], apart := false, laid := [("math/bits.deBruijn32tab", laid_math_bits_deBruijn32tab), ("math/bits.deBruijn64tab", laid_math_bits_deBruijn64tab), ("internal/strconv.uint64pow10", laid_internal_strconv_uint64pow10), ("flyover/air.heads", laid_flyover_air_heads)], narrowed := true }
def AirBentUptoSaid : Prop := airBentUptoRow.holds Tryz.pinned (OpenSpec.upto airBentSpec)

/-- 'flyoverlaw03.AirThere', WHERE WHAT IT READS IS OF BULK AT MOST 1048576: true; the input reads as it did. -/
def airThereUptoRow : OpenClaim := { program := "ytmlknpghkclffaagreatdoor", sum := "cb48fbf513a34c53177d157cd9e793b44cebbb942a62faca3531629d017ee68c", func := "flyover/flyoverlaw03.AirThere", spec := "airThere", inPlace := ["slices.overlaps[flyover/air.Layer]", "math.sqrt", "math.Float64bits", "math.Float64frombits", "math.archTrunc", "internal/abi.NoEscape", "internal/bytealg.MakeNoZero"], unfollowed := true, recurses := true, named := ["flyover/air.heads", "internal/strconv.uint64pow10", "math/bits.deBruijn32tab", "math/bits.deBruijn64tab"], apart := false, laid := [("math/bits.deBruijn32tab", laid_math_bits_deBruijn32tab), ("math/bits.deBruijn64tab", laid_math_bits_deBruijn64tab), ("internal/strconv.uint64pow10", laid_internal_strconv_uint64pow10), ("flyover/air.heads", laid_flyover_air_heads)], narrowed := true }
def AirThereUptoSaid : Prop := airThereUptoRow.holds Tryz.pinned (OpenSpec.upto airThereSpec)

/-- 'flyoverlaw03.AirParts', WHERE WHAT IT READS IS OF BULK AT MOST 1048576: true; the input reads as it did. -/
def airPartsUptoRow : OpenClaim := { program := "ytmlknpghkclffaagreatdoor", sum := "cb48fbf513a34c53177d157cd9e793b44cebbb942a62faca3531629d017ee68c", func := "flyover/flyoverlaw03.AirParts", spec := "airParts", inPlace := ["slices.overlaps[flyover/air.Layer]", "math.sqrt", "math.Float64bits", "math.Float64frombits", "math.archTrunc", "internal/abi.NoEscape", "internal/bytealg.MakeNoZero"], unfollowed := true, recurses := true, named := ["flyover/air.heads", "internal/strconv.uint64pow10", "math/bits.deBruijn32tab", "math/bits.deBruijn64tab"], apart := false, laid := [("math/bits.deBruijn32tab", laid_math_bits_deBruijn32tab), ("math/bits.deBruijn64tab", laid_math_bits_deBruijn64tab), ("internal/strconv.uint64pow10", laid_internal_strconv_uint64pow10), ("flyover/air.heads", laid_flyover_air_heads)], narrowed := true }
def AirPartsUptoSaid : Prop := airPartsUptoRow.holds Tryz.pinned (OpenSpec.upto airPartsSpec)

/-- 'flyoverlaw03.AirExplained', WHERE WHAT IT READS IS OF BULK AT MOST 1048576: true; the input reads as it did. -/
def airExplainedUptoRow : OpenClaim := { program := "ytmlknpghkclffaagreatdoor", sum := "cb48fbf513a34c53177d157cd9e793b44cebbb942a62faca3531629d017ee68c", func := "flyover/flyoverlaw03.AirExplained", spec := "airExplained", inPlace := ["slices.overlaps[flyover/air.Layer]", "math.sqrt", "math.Float64bits", "math.Float64frombits", "math.archTrunc", "internal/abi.NoEscape", "internal/bytealg.MakeNoZero"], unfollowed := true, recurses := true, named := ["flyover/air.heads", "internal/strconv.uint64pow10", "math/bits.deBruijn32tab", "math/bits.deBruijn64tab"], apart := false, laid := [("math/bits.deBruijn32tab", laid_math_bits_deBruijn32tab), ("math/bits.deBruijn64tab", laid_math_bits_deBruijn64tab), ("internal/strconv.uint64pow10", laid_internal_strconv_uint64pow10), ("flyover/air.heads", laid_flyover_air_heads)], narrowed := true }
def AirExplainedUptoSaid : Prop := airExplainedUptoRow.holds Tryz.pinned (OpenSpec.upto airExplainedSpec)

/-- 'flyoverlaw03.AirEchoes', WHERE WHAT IT READS IS OF BULK AT MOST 1048576: true; the input reads as it did. -/
def airEchoesUptoRow : OpenClaim := { program := "ytmlknpghkclffaagreatdoor", sum := "cb48fbf513a34c53177d157cd9e793b44cebbb942a62faca3531629d017ee68c", func := "flyover/flyoverlaw03.AirEchoes", spec := "airEchoes", inPlace := ["slices.overlaps[flyover/air.Layer]", "math.sqrt", "math.Float64bits", "math.Float64frombits", "math.archTrunc", "internal/abi.NoEscape", "internal/bytealg.MakeNoZero"], unfollowed := true, recurses := true, named := ["flyover/air.heads", "internal/strconv.uint64pow10", "math/bits.deBruijn32tab", "math/bits.deBruijn64tab"], apart := false, laid := [("math/bits.deBruijn32tab", laid_math_bits_deBruijn32tab), ("math/bits.deBruijn64tab", laid_math_bits_deBruijn64tab), ("internal/strconv.uint64pow10", laid_internal_strconv_uint64pow10), ("flyover/air.heads", laid_flyover_air_heads)], narrowed := true }
def AirEchoesUptoSaid : Prop := airEchoesUptoRow.holds Tryz.pinned (OpenSpec.upto airEchoesSpec)

/-- 'flyoverlaw03.AirStrings', WHERE WHAT IT READS IS OF BULK AT MOST 1048576: true; the input reads as it did. -/
def airStringsUptoRow : OpenClaim := { program := "ytmlknpghkclffaagreatdoor", sum := "cb48fbf513a34c53177d157cd9e793b44cebbb942a62faca3531629d017ee68c", func := "flyover/flyoverlaw03.AirStrings", spec := "airStrings", inPlace := ["slices.overlaps[flyover/air.Layer]", "math.sqrt", "math.Float64bits", "math.Float64frombits", "math.archTrunc", "internal/abi.NoEscape", "internal/bytealg.MakeNoZero", "internal/bytealg.IndexByteString", "internal/bytealg.CountString", "internal/bytealg.IndexString"], unfollowed := true, recurses := true, named := ["flyover/air.heads", "internal/strconv.uint64pow10", "math/bits.deBruijn32tab", "math/bits.deBruijn64tab", "unicode/utf8.first", "unicode/utf8.acceptRanges", "internal/bytealg.MaxLen"], apart := false, laid := [("math/bits.deBruijn32tab", laid_math_bits_deBruijn32tab), ("math/bits.deBruijn64tab", laid_math_bits_deBruijn64tab), ("internal/strconv.uint64pow10", laid_internal_strconv_uint64pow10), ("unicode/utf8.acceptRanges", laid_unicode_utf8_acceptRanges), ("flyover/air.heads", laid_flyover_air_heads), ("unicode/utf8.first", laid_unicode_utf8_first)], narrowed := true }
def AirStringsUptoSaid : Prop := airStringsUptoRow.holds Tryz.pinned (OpenSpec.upto airStringsSpec)

/-- 'flyoverlaw03.AirBack', WHERE WHAT IT READS IS OF BULK AT MOST 1048576: true; the input reads as it did. -/
def airBackUptoRow : OpenClaim := { program := "ytmlknpghkclffaagreatdoor", sum := "cb48fbf513a34c53177d157cd9e793b44cebbb942a62faca3531629d017ee68c", func := "flyover/flyoverlaw03.AirBack", spec := "airBack", inPlace := ["slices.overlaps[flyover/air.Layer]", "math.sqrt", "math.Float64bits", "math.Float64frombits", "math.archTrunc", "internal/abi.NoEscape", "internal/bytealg.MakeNoZero", "internal/bytealg.IndexByteString", "internal/bytealg.CountString", "internal/bytealg.IndexString"], unfollowed := true, recurses := true, named := ["flyover/air.heads", "internal/strconv.uint64pow10", "math/bits.deBruijn32tab", "math/bits.deBruijn64tab", "unicode/utf8.first", "unicode/utf8.acceptRanges", "internal/bytealg.MaxLen"], apart := false, laid := [("math/bits.deBruijn32tab", laid_math_bits_deBruijn32tab), ("math/bits.deBruijn64tab", laid_math_bits_deBruijn64tab), ("internal/strconv.uint64pow10", laid_internal_strconv_uint64pow10), ("unicode/utf8.acceptRanges", laid_unicode_utf8_acceptRanges), ("flyover/air.heads", laid_flyover_air_heads), ("unicode/utf8.first", laid_unicode_utf8_first)], narrowed := true }
def AirBackUptoSaid : Prop := airBackUptoRow.holds Tryz.pinned (OpenSpec.upto airBackSpec)

end Rows
end Go.Proofs.YtmlknpghkclffaaGreatDoor
