/-
  NARROWER THAN 'FOR EVERY INPUT', by the rows' own cells (each row's printed sentence says how): OfficeEvents: laid · OfficeNumbers: laid · OfficeChains: laid · OfficeMaps: laid · OfficeViews: laid · OfficeLogs: laid · OfficeProved: laid · OfficeFixed: laid · OfficeReplay: laid · OfficeConsole: laid · OfficeCut: laid · OfficeStories: laid.
  DERIVED. THE GIVEN ROWS OF THIS SEAT. 12 by the template 'for every input the law returns true; each argument reads behind the call as it read before'; 0 by the template 'total and deterministic' (their statements: YtkfbgillhhhdgaaGreatDoorTotals.lean).
  GIVEN WITH THE SEED: the statements are not yours to turn. If you find one false, say at which input.
  Laid BY PROGRAM, IN A SANDBOX (cutbox-rows.mjs): the forced cells as the released guide's own fill.sh prints them over the translation 1ceccadc0208032c… (all of the seat's roots in one cut). By AI agents, Wed Nov 11 2026. No macro, syntax, notation, axiom, sorry.
-/
import Derived.Test.YtkfbgillhhhdgaaGreatDoorChecked
import GoSem.PinnedTables
import GoSem.Claim
import GoSem.ClaimJoined
import GoSem.ClaimMapViews
import Derived.JoinedTies
import Derived.KernelRfl
namespace Go.Proofs.YtkfbgillhhhdgaaGreatDoor
/- THE CELL 'sum', in the pinned program and in every row, IS THE sha256 OF THE DUMP (.gsa) THAT YtkfbgillhhhdgaaGreatDoorProg.lean LOADS. Nothing in Lean hashes anything: it is a label: what it is worth is what the hold of that sum in a sandbox is worth. -/
noncomputable def Tryz.pinned : Pinned := { name := "ytkfbgillhhhdgaagreatdoor", sum := "1ceccadc0208032cdb9ea60ac9f22adb1ba7b47daba30a811ca4a21fa6866af9", checked := Tryz.checked }
namespace Rows
def none {H : Type} : Left H := { results := [], args := [] }

/- WHAT THE LISTED PACKAGE-LEVEL VARIABLES READ AS WHEN THE CALL BEGINS. Each datum BY PROGRAM (the guide's laid-datum.mjs) off the statement by which the dump's own 'gosem.cut.vars' lays the variable. In a bare row this is a premise. The card (YtkfbgillhhhdgaaGreatDoorCards.lean) ties it to the program's text. -/
def laid_math_bits_deBruijn32tab {H : Type} : DataW H := .agg [.lit (.int .u8 0), .lit (.int .u8 1), .lit (.int .u8 28), .lit (.int .u8 2), .lit (.int .u8 29), .lit (.int .u8 14), .lit (.int .u8 24), .lit (.int .u8 3), .lit (.int .u8 30), .lit (.int .u8 22), .lit (.int .u8 20), .lit (.int .u8 15), .lit (.int .u8 25), .lit (.int .u8 17), .lit (.int .u8 4), .lit (.int .u8 8), .lit (.int .u8 31), .lit (.int .u8 27), .lit (.int .u8 13), .lit (.int .u8 23), .lit (.int .u8 21), .lit (.int .u8 19), .lit (.int .u8 16), .lit (.int .u8 7), .lit (.int .u8 26), .lit (.int .u8 12), .lit (.int .u8 18), .lit (.int .u8 6), .lit (.int .u8 11), .lit (.int .u8 5), .lit (.int .u8 10), .lit (.int .u8 9)]
def laid_math_bits_deBruijn64tab {H : Type} : DataW H := .agg [.lit (.int .u8 0), .lit (.int .u8 1), .lit (.int .u8 56), .lit (.int .u8 2), .lit (.int .u8 57), .lit (.int .u8 49), .lit (.int .u8 28), .lit (.int .u8 3), .lit (.int .u8 61), .lit (.int .u8 58), .lit (.int .u8 42), .lit (.int .u8 50), .lit (.int .u8 38), .lit (.int .u8 29), .lit (.int .u8 17), .lit (.int .u8 4), .lit (.int .u8 62), .lit (.int .u8 47), .lit (.int .u8 59), .lit (.int .u8 36), .lit (.int .u8 45), .lit (.int .u8 43), .lit (.int .u8 51), .lit (.int .u8 22), .lit (.int .u8 53), .lit (.int .u8 39), .lit (.int .u8 33), .lit (.int .u8 30), .lit (.int .u8 24), .lit (.int .u8 18), .lit (.int .u8 12), .lit (.int .u8 5), .lit (.int .u8 63), .lit (.int .u8 55), .lit (.int .u8 48), .lit (.int .u8 27), .lit (.int .u8 60), .lit (.int .u8 41), .lit (.int .u8 37), .lit (.int .u8 16), .lit (.int .u8 46), .lit (.int .u8 35), .lit (.int .u8 44), .lit (.int .u8 21), .lit (.int .u8 52), .lit (.int .u8 32), .lit (.int .u8 23), .lit (.int .u8 11), .lit (.int .u8 54), .lit (.int .u8 26), .lit (.int .u8 40), .lit (.int .u8 15), .lit (.int .u8 34), .lit (.int .u8 20), .lit (.int .u8 31), .lit (.int .u8 10), .lit (.int .u8 25), .lit (.int .u8 14), .lit (.int .u8 19), .lit (.int .u8 9), .lit (.int .u8 13), .lit (.int .u8 8), .lit (.int .u8 7), .lit (.int .u8 6)]
def laid_internal_strconv_uint64pow10 {H : Type} : DataW H := .agg [.lit (.int .u64 1), .lit (.int .u64 10), .lit (.int .u64 100), .lit (.int .u64 1000), .lit (.int .u64 10000), .lit (.int .u64 100000), .lit (.int .u64 1000000), .lit (.int .u64 10000000), .lit (.int .u64 100000000), .lit (.int .u64 1000000000), .lit (.int .u64 10000000000), .lit (.int .u64 100000000000), .lit (.int .u64 1000000000000), .lit (.int .u64 10000000000000), .lit (.int .u64 100000000000000), .lit (.int .u64 1000000000000000), .lit (.int .u64 10000000000000000), .lit (.int .u64 100000000000000000), .lit (.int .u64 1000000000000000000), .lit (.int .u64 10000000000000000000)]
def laid_unicode_utf8_acceptRanges {H : Type} : DataW H := .agg [.agg [.lit (.int .u8 128), .lit (.int .u8 191)], .agg [.lit (.int .u8 160), .lit (.int .u8 191)], .agg [.lit (.int .u8 128), .lit (.int .u8 159)], .agg [.lit (.int .u8 144), .lit (.int .u8 191)], .agg [.lit (.int .u8 128), .lit (.int .u8 143)], .agg [.lit (.int .u8 0), .lit (.int .u8 0)], .agg [.lit (.int .u8 0), .lit (.int .u8 0)], .agg [.lit (.int .u8 0), .lit (.int .u8 0)], .agg [.lit (.int .u8 0), .lit (.int .u8 0)], .agg [.lit (.int .u8 0), .lit (.int .u8 0)], .agg [.lit (.int .u8 0), .lit (.int .u8 0)], .agg [.lit (.int .u8 0), .lit (.int .u8 0)], .agg [.lit (.int .u8 0), .lit (.int .u8 0)], .agg [.lit (.int .u8 0), .lit (.int .u8 0)], .agg [.lit (.int .u8 0), .lit (.int .u8 0)], .agg [.lit (.int .u8 0), .lit (.int .u8 0)]]
def laid_flyover_sound_base {H : Type} : DataW H := .agg [.lit (.int .i64 10), .lit (.int .i64 13), .lit (.int .i64 16), .lit (.int .i64 20), .lit (.int .i64 25), .lit (.int .i64 32), .lit (.int .i64 40), .lit (.int .i64 50), .lit (.int .i64 63), .lit (.int .i64 79)]
def laid_flyover_office_final {H : Type} : DataW H := .agg [.lit (.string [112, 117, 98, 108, 105, 115, 104]), .lit (.string [112, 97, 121])]
/-- One of Go's own tables, pinned by name: the form's constant. -/
def laid_unicode_utf8_first : DataW Unit := Go.Pinned.utf8First

/-- 'flyoverlaw10.OfficeEvents': WHATEVER THE INPUT: true; the input reads as it did. -/
def officeEventsSpec : ChangeSpec := { name := "officeEvents", fn := fun _ => fun
  | [d1, d2] => { results := [.lit (.bool true)], args := [d1, d2] }
  | _ => none }
def officeEventsRow : OpenClaim := { program := "ytkfbgillhhhdgaagreatdoor", sum := "1ceccadc0208032cdb9ea60ac9f22adb1ba7b47daba30a811ca4a21fa6866af9", func := "flyover/flyoverlaw10.OfficeEvents", spec := "officeEvents", inPlace := ["internal/bytealg.IndexByteString", "internal/bytealg.IndexString", "internal/bytealg.CountString", "internal/abi.NoEscape", "internal/bytealg.MakeNoZero"], unfollowed := true, recurses := true, named := ["flyover/sound.base", "flyover/office.final", "internal/strconv.uint64pow10", "math/bits.deBruijn32tab", "math/bits.deBruijn64tab", "internal/bytealg.MaxLen", "unicode/utf8.first", "unicode/utf8.acceptRanges"], apart := false, laid := [("math/bits.deBruijn32tab", laid_math_bits_deBruijn32tab), ("math/bits.deBruijn64tab", laid_math_bits_deBruijn64tab), ("internal/strconv.uint64pow10", laid_internal_strconv_uint64pow10), ("unicode/utf8.acceptRanges", laid_unicode_utf8_acceptRanges), ("flyover/sound.base", laid_flyover_sound_base), ("flyover/office.final", laid_flyover_office_final), ("unicode/utf8.first", laid_unicode_utf8_first)] }
def OfficeEventsSaid : Prop := officeEventsRow.holds Tryz.pinned (OpenSpec.ofChange officeEventsSpec)

/-- ITS FALSE NEIGHBOUR: 'it returns false'. Refute it at one input. -/
def officeEventsWrong : ChangeSpec := { name := "officeEvents", fn := fun _ => fun
  | [d1, d2] => { results := [.lit (.bool false)], args := [d1, d2] }
  | _ => none }
def OfficeEventsWrongFalsely : Prop := officeEventsRow.holds Tryz.pinned (OpenSpec.ofChange officeEventsWrong)

/-- 'flyoverlaw10.OfficeNumbers': WHATEVER THE INPUT: true; the input reads as it did. -/
def officeNumbersSpec : ChangeSpec := { name := "officeNumbers", fn := fun _ => fun
  | [d1, d2] => { results := [.lit (.bool true)], args := [d1, d2] }
  | _ => none }
def officeNumbersRow : OpenClaim := { program := "ytkfbgillhhhdgaagreatdoor", sum := "1ceccadc0208032cdb9ea60ac9f22adb1ba7b47daba30a811ca4a21fa6866af9", func := "flyover/flyoverlaw10.OfficeNumbers", spec := "officeNumbers", inPlace := ["internal/bytealg.IndexByteString", "internal/bytealg.IndexString", "internal/bytealg.CountString", "internal/abi.NoEscape", "internal/bytealg.MakeNoZero"], unfollowed := true, recurses := true, named := ["flyover/sound.base", "flyover/office.final", "internal/strconv.uint64pow10", "math/bits.deBruijn32tab", "math/bits.deBruijn64tab", "internal/bytealg.MaxLen", "unicode/utf8.first", "unicode/utf8.acceptRanges"], apart := false, laid := [("math/bits.deBruijn32tab", laid_math_bits_deBruijn32tab), ("math/bits.deBruijn64tab", laid_math_bits_deBruijn64tab), ("internal/strconv.uint64pow10", laid_internal_strconv_uint64pow10), ("unicode/utf8.acceptRanges", laid_unicode_utf8_acceptRanges), ("flyover/sound.base", laid_flyover_sound_base), ("flyover/office.final", laid_flyover_office_final), ("unicode/utf8.first", laid_unicode_utf8_first)] }
def OfficeNumbersSaid : Prop := officeNumbersRow.holds Tryz.pinned (OpenSpec.ofChange officeNumbersSpec)

/-- ITS FALSE NEIGHBOUR: 'it returns false'. Refute it at one input. -/
def officeNumbersWrong : ChangeSpec := { name := "officeNumbers", fn := fun _ => fun
  | [d1, d2] => { results := [.lit (.bool false)], args := [d1, d2] }
  | _ => none }
def OfficeNumbersWrongFalsely : Prop := officeNumbersRow.holds Tryz.pinned (OpenSpec.ofChange officeNumbersWrong)

/-- 'flyoverlaw10.OfficeChains': WHATEVER THE INPUT: true; the input reads as it did. -/
def officeChainsSpec : ChangeSpec := { name := "officeChains", fn := fun _ => fun
  | [d1, d2] => { results := [.lit (.bool true)], args := [d1, d2] }
  | _ => none }
def officeChainsRow : OpenClaim := { program := "ytkfbgillhhhdgaagreatdoor", sum := "1ceccadc0208032cdb9ea60ac9f22adb1ba7b47daba30a811ca4a21fa6866af9", func := "flyover/flyoverlaw10.OfficeChains", spec := "officeChains", inPlace := ["internal/bytealg.IndexByteString", "internal/bytealg.IndexString", "internal/bytealg.CountString", "internal/abi.NoEscape", "internal/bytealg.MakeNoZero"], unfollowed := true, recurses := true, named := ["flyover/sound.base", "flyover/office.final", "internal/strconv.uint64pow10", "math/bits.deBruijn32tab", "math/bits.deBruijn64tab", "internal/bytealg.MaxLen", "unicode/utf8.first", "unicode/utf8.acceptRanges"], apart := false, laid := [("math/bits.deBruijn32tab", laid_math_bits_deBruijn32tab), ("math/bits.deBruijn64tab", laid_math_bits_deBruijn64tab), ("internal/strconv.uint64pow10", laid_internal_strconv_uint64pow10), ("unicode/utf8.acceptRanges", laid_unicode_utf8_acceptRanges), ("flyover/sound.base", laid_flyover_sound_base), ("flyover/office.final", laid_flyover_office_final), ("unicode/utf8.first", laid_unicode_utf8_first)] }
def OfficeChainsSaid : Prop := officeChainsRow.holds Tryz.pinned (OpenSpec.ofChange officeChainsSpec)

/-- ITS FALSE NEIGHBOUR: 'it returns false'. Refute it at one input. -/
def officeChainsWrong : ChangeSpec := { name := "officeChains", fn := fun _ => fun
  | [d1, d2] => { results := [.lit (.bool false)], args := [d1, d2] }
  | _ => none }
def OfficeChainsWrongFalsely : Prop := officeChainsRow.holds Tryz.pinned (OpenSpec.ofChange officeChainsWrong)

/-- 'flyoverlaw10.OfficeMaps': WHATEVER THE INPUT: true; the input reads as it did. -/
def officeMapsSpec : ChangeSpec := { name := "officeMaps", fn := fun _ => fun
  | [d1, d2] => { results := [.lit (.bool true)], args := [d1, d2] }
  | _ => none }
def officeMapsRow : OpenClaim := { program := "ytkfbgillhhhdgaagreatdoor", sum := "1ceccadc0208032cdb9ea60ac9f22adb1ba7b47daba30a811ca4a21fa6866af9", func := "flyover/flyoverlaw10.OfficeMaps", spec := "officeMaps", inPlace := ["internal/bytealg.IndexByteString", "internal/bytealg.IndexString", "internal/bytealg.CountString", "internal/abi.NoEscape", "internal/bytealg.MakeNoZero"], unfollowed := true, recurses := true, named := ["flyover/sound.base", "flyover/office.final", "internal/strconv.uint64pow10", "math/bits.deBruijn32tab", "math/bits.deBruijn64tab", "internal/bytealg.MaxLen", "unicode/utf8.first", "unicode/utf8.acceptRanges"], apart := false, laid := [("math/bits.deBruijn32tab", laid_math_bits_deBruijn32tab), ("math/bits.deBruijn64tab", laid_math_bits_deBruijn64tab), ("internal/strconv.uint64pow10", laid_internal_strconv_uint64pow10), ("unicode/utf8.acceptRanges", laid_unicode_utf8_acceptRanges), ("flyover/sound.base", laid_flyover_sound_base), ("flyover/office.final", laid_flyover_office_final), ("unicode/utf8.first", laid_unicode_utf8_first)] }
def OfficeMapsSaid : Prop := officeMapsRow.holds Tryz.pinned (OpenSpec.ofChange officeMapsSpec)

/-- ITS FALSE NEIGHBOUR: 'it returns false'. Refute it at one input. -/
def officeMapsWrong : ChangeSpec := { name := "officeMaps", fn := fun _ => fun
  | [d1, d2] => { results := [.lit (.bool false)], args := [d1, d2] }
  | _ => none }
def OfficeMapsWrongFalsely : Prop := officeMapsRow.holds Tryz.pinned (OpenSpec.ofChange officeMapsWrong)

/-- 'flyoverlaw10.OfficeViews': WHATEVER THE INPUT: true; the input reads as it did. -/
def officeViewsSpec : ChangeSpec := { name := "officeViews", fn := fun _ => fun
  | [d1, d2, d3] => { results := [.lit (.bool true)], args := [d1, d2, d3] }
  | _ => none }
def officeViewsRow : OpenClaim := { program := "ytkfbgillhhhdgaagreatdoor", sum := "1ceccadc0208032cdb9ea60ac9f22adb1ba7b47daba30a811ca4a21fa6866af9", func := "flyover/flyoverlaw10.OfficeViews", spec := "officeViews", inPlace := ["internal/bytealg.IndexByteString", "internal/bytealg.IndexString", "internal/bytealg.CountString", "internal/abi.NoEscape", "internal/bytealg.MakeNoZero"], unfollowed := true, recurses := true, named := ["flyover/sound.base", "flyover/office.final", "internal/strconv.uint64pow10", "math/bits.deBruijn32tab", "math/bits.deBruijn64tab", "internal/bytealg.MaxLen", "unicode/utf8.first", "unicode/utf8.acceptRanges"], apart := false, laid := [("math/bits.deBruijn32tab", laid_math_bits_deBruijn32tab), ("math/bits.deBruijn64tab", laid_math_bits_deBruijn64tab), ("internal/strconv.uint64pow10", laid_internal_strconv_uint64pow10), ("unicode/utf8.acceptRanges", laid_unicode_utf8_acceptRanges), ("flyover/sound.base", laid_flyover_sound_base), ("flyover/office.final", laid_flyover_office_final), ("unicode/utf8.first", laid_unicode_utf8_first)] }
def OfficeViewsSaid : Prop := officeViewsRow.holds Tryz.pinned (OpenSpec.ofChange officeViewsSpec)

/-- ITS FALSE NEIGHBOUR: 'it returns false'. Refute it at one input. -/
def officeViewsWrong : ChangeSpec := { name := "officeViews", fn := fun _ => fun
  | [d1, d2, d3] => { results := [.lit (.bool false)], args := [d1, d2, d3] }
  | _ => none }
def OfficeViewsWrongFalsely : Prop := officeViewsRow.holds Tryz.pinned (OpenSpec.ofChange officeViewsWrong)

/-- 'flyoverlaw10.OfficeLogs': WHATEVER THE INPUT: true; the input reads as it did. -/
def officeLogsSpec : ChangeSpec := { name := "officeLogs", fn := fun _ => fun
  | [d1, d2] => { results := [.lit (.bool true)], args := [d1, d2] }
  | _ => none }
def officeLogsRow : OpenClaim := { program := "ytkfbgillhhhdgaagreatdoor", sum := "1ceccadc0208032cdb9ea60ac9f22adb1ba7b47daba30a811ca4a21fa6866af9", func := "flyover/flyoverlaw10.OfficeLogs", spec := "officeLogs", inPlace := ["internal/bytealg.IndexByteString", "internal/bytealg.IndexString", "internal/bytealg.CountString", "internal/abi.NoEscape", "internal/bytealg.MakeNoZero"], unfollowed := true, recurses := true, named := ["flyover/sound.base", "flyover/office.final", "internal/strconv.uint64pow10", "math/bits.deBruijn32tab", "math/bits.deBruijn64tab", "internal/bytealg.MaxLen", "unicode/utf8.first", "unicode/utf8.acceptRanges"], apart := false, laid := [("math/bits.deBruijn32tab", laid_math_bits_deBruijn32tab), ("math/bits.deBruijn64tab", laid_math_bits_deBruijn64tab), ("internal/strconv.uint64pow10", laid_internal_strconv_uint64pow10), ("unicode/utf8.acceptRanges", laid_unicode_utf8_acceptRanges), ("flyover/sound.base", laid_flyover_sound_base), ("flyover/office.final", laid_flyover_office_final), ("unicode/utf8.first", laid_unicode_utf8_first)] }
def OfficeLogsSaid : Prop := officeLogsRow.holds Tryz.pinned (OpenSpec.ofChange officeLogsSpec)

/-- ITS FALSE NEIGHBOUR: 'it returns false'. Refute it at one input. -/
def officeLogsWrong : ChangeSpec := { name := "officeLogs", fn := fun _ => fun
  | [d1, d2] => { results := [.lit (.bool false)], args := [d1, d2] }
  | _ => none }
def OfficeLogsWrongFalsely : Prop := officeLogsRow.holds Tryz.pinned (OpenSpec.ofChange officeLogsWrong)

/-- 'flyoverlaw10.OfficeProved': WHATEVER THE INPUT: true; the input reads as it did. -/
def officeProvedSpec : ChangeSpec := { name := "officeProved", fn := fun _ => fun
  | [d1, d2] => { results := [.lit (.bool true)], args := [d1, d2] }
  | _ => none }
def officeProvedRow : OpenClaim := { program := "ytkfbgillhhhdgaagreatdoor", sum := "1ceccadc0208032cdb9ea60ac9f22adb1ba7b47daba30a811ca4a21fa6866af9", func := "flyover/flyoverlaw10.OfficeProved", spec := "officeProved", inPlace := ["internal/bytealg.IndexByteString", "internal/bytealg.IndexString", "internal/bytealg.CountString", "internal/abi.NoEscape", "internal/bytealg.MakeNoZero"], unfollowed := true, recurses := true, named := ["flyover/sound.base", "flyover/office.final", "internal/strconv.uint64pow10", "math/bits.deBruijn32tab", "math/bits.deBruijn64tab", "internal/bytealg.MaxLen", "unicode/utf8.first", "unicode/utf8.acceptRanges"], apart := false, laid := [("math/bits.deBruijn32tab", laid_math_bits_deBruijn32tab), ("math/bits.deBruijn64tab", laid_math_bits_deBruijn64tab), ("internal/strconv.uint64pow10", laid_internal_strconv_uint64pow10), ("unicode/utf8.acceptRanges", laid_unicode_utf8_acceptRanges), ("flyover/sound.base", laid_flyover_sound_base), ("flyover/office.final", laid_flyover_office_final), ("unicode/utf8.first", laid_unicode_utf8_first)] }
def OfficeProvedSaid : Prop := officeProvedRow.holds Tryz.pinned (OpenSpec.ofChange officeProvedSpec)

/-- ITS FALSE NEIGHBOUR: 'it returns false'. Refute it at one input. -/
def officeProvedWrong : ChangeSpec := { name := "officeProved", fn := fun _ => fun
  | [d1, d2] => { results := [.lit (.bool false)], args := [d1, d2] }
  | _ => none }
def OfficeProvedWrongFalsely : Prop := officeProvedRow.holds Tryz.pinned (OpenSpec.ofChange officeProvedWrong)

/-- 'flyoverlaw10.OfficeFixed': WHATEVER THE INPUT: true; the input reads as it did. -/
def officeFixedSpec : ChangeSpec := { name := "officeFixed", fn := fun _ => fun
  | [d1, d2] => { results := [.lit (.bool true)], args := [d1, d2] }
  | _ => none }
def officeFixedRow : OpenClaim := { program := "ytkfbgillhhhdgaagreatdoor", sum := "1ceccadc0208032cdb9ea60ac9f22adb1ba7b47daba30a811ca4a21fa6866af9", func := "flyover/flyoverlaw10.OfficeFixed", spec := "officeFixed", inPlace := ["internal/bytealg.IndexByteString", "internal/bytealg.IndexString", "internal/bytealg.CountString", "internal/abi.NoEscape", "internal/bytealg.MakeNoZero"], unfollowed := true, recurses := true, named := ["flyover/sound.base", "flyover/office.final", "internal/strconv.uint64pow10", "math/bits.deBruijn32tab", "math/bits.deBruijn64tab", "internal/bytealg.MaxLen", "unicode/utf8.first", "unicode/utf8.acceptRanges"], apart := false, laid := [("math/bits.deBruijn32tab", laid_math_bits_deBruijn32tab), ("math/bits.deBruijn64tab", laid_math_bits_deBruijn64tab), ("internal/strconv.uint64pow10", laid_internal_strconv_uint64pow10), ("unicode/utf8.acceptRanges", laid_unicode_utf8_acceptRanges), ("flyover/sound.base", laid_flyover_sound_base), ("flyover/office.final", laid_flyover_office_final), ("unicode/utf8.first", laid_unicode_utf8_first)] }
def OfficeFixedSaid : Prop := officeFixedRow.holds Tryz.pinned (OpenSpec.ofChange officeFixedSpec)

/-- ITS FALSE NEIGHBOUR: 'it returns false'. Refute it at one input. -/
def officeFixedWrong : ChangeSpec := { name := "officeFixed", fn := fun _ => fun
  | [d1, d2] => { results := [.lit (.bool false)], args := [d1, d2] }
  | _ => none }
def OfficeFixedWrongFalsely : Prop := officeFixedRow.holds Tryz.pinned (OpenSpec.ofChange officeFixedWrong)

/-- 'flyoverlaw10.OfficeReplay': WHATEVER THE INPUT: true; the input reads as it did. -/
def officeReplaySpec : ChangeSpec := { name := "officeReplay", fn := fun _ => fun
  | [d1, d2] => { results := [.lit (.bool true)], args := [d1, d2] }
  | _ => none }
def officeReplayRow : OpenClaim := { program := "ytkfbgillhhhdgaagreatdoor", sum := "1ceccadc0208032cdb9ea60ac9f22adb1ba7b47daba30a811ca4a21fa6866af9", func := "flyover/flyoverlaw10.OfficeReplay", spec := "officeReplay", inPlace := ["internal/bytealg.IndexByteString", "internal/bytealg.IndexString", "internal/bytealg.CountString", "internal/abi.NoEscape", "internal/bytealg.MakeNoZero"], unfollowed := true, recurses := true, named := ["flyover/sound.base", "flyover/office.final", "internal/strconv.uint64pow10", "math/bits.deBruijn32tab", "math/bits.deBruijn64tab", "internal/bytealg.MaxLen", "unicode/utf8.first", "unicode/utf8.acceptRanges"], apart := false, laid := [("math/bits.deBruijn32tab", laid_math_bits_deBruijn32tab), ("math/bits.deBruijn64tab", laid_math_bits_deBruijn64tab), ("internal/strconv.uint64pow10", laid_internal_strconv_uint64pow10), ("unicode/utf8.acceptRanges", laid_unicode_utf8_acceptRanges), ("flyover/sound.base", laid_flyover_sound_base), ("flyover/office.final", laid_flyover_office_final), ("unicode/utf8.first", laid_unicode_utf8_first)] }
def OfficeReplaySaid : Prop := officeReplayRow.holds Tryz.pinned (OpenSpec.ofChange officeReplaySpec)

/-- ITS FALSE NEIGHBOUR: 'it returns false'. Refute it at one input. -/
def officeReplayWrong : ChangeSpec := { name := "officeReplay", fn := fun _ => fun
  | [d1, d2] => { results := [.lit (.bool false)], args := [d1, d2] }
  | _ => none }
def OfficeReplayWrongFalsely : Prop := officeReplayRow.holds Tryz.pinned (OpenSpec.ofChange officeReplayWrong)

/-- 'flyoverlaw10.OfficeConsole': WHATEVER THE INPUT: true; the input reads as it did. -/
def officeConsoleSpec : ChangeSpec := { name := "officeConsole", fn := fun _ => fun
  | [d1, d2] => { results := [.lit (.bool true)], args := [d1, d2] }
  | _ => none }
def officeConsoleRow : OpenClaim := { program := "ytkfbgillhhhdgaagreatdoor", sum := "1ceccadc0208032cdb9ea60ac9f22adb1ba7b47daba30a811ca4a21fa6866af9", func := "flyover/flyoverlaw10.OfficeConsole", spec := "officeConsole", inPlace := ["internal/bytealg.IndexByteString", "internal/bytealg.IndexString", "internal/bytealg.CountString", "internal/abi.NoEscape", "internal/bytealg.MakeNoZero"], unfollowed := true, recurses := true, named := ["flyover/sound.base", "flyover/office.final", "internal/strconv.uint64pow10", "math/bits.deBruijn32tab", "math/bits.deBruijn64tab", "internal/bytealg.MaxLen", "unicode/utf8.first", "unicode/utf8.acceptRanges"], apart := false, laid := [("math/bits.deBruijn32tab", laid_math_bits_deBruijn32tab), ("math/bits.deBruijn64tab", laid_math_bits_deBruijn64tab), ("internal/strconv.uint64pow10", laid_internal_strconv_uint64pow10), ("unicode/utf8.acceptRanges", laid_unicode_utf8_acceptRanges), ("flyover/sound.base", laid_flyover_sound_base), ("flyover/office.final", laid_flyover_office_final), ("unicode/utf8.first", laid_unicode_utf8_first)] }
def OfficeConsoleSaid : Prop := officeConsoleRow.holds Tryz.pinned (OpenSpec.ofChange officeConsoleSpec)

/-- ITS FALSE NEIGHBOUR: 'it returns false'. Refute it at one input. -/
def officeConsoleWrong : ChangeSpec := { name := "officeConsole", fn := fun _ => fun
  | [d1, d2] => { results := [.lit (.bool false)], args := [d1, d2] }
  | _ => none }
def OfficeConsoleWrongFalsely : Prop := officeConsoleRow.holds Tryz.pinned (OpenSpec.ofChange officeConsoleWrong)

/-- 'flyoverlaw10.OfficeCut': WHATEVER THE INPUT: true; the input reads as it did. -/
def officeCutSpec : ChangeSpec := { name := "officeCut", fn := fun _ => fun
  | [d1, d2] => { results := [.lit (.bool true)], args := [d1, d2] }
  | _ => none }
def officeCutRow : OpenClaim := { program := "ytkfbgillhhhdgaagreatdoor", sum := "1ceccadc0208032cdb9ea60ac9f22adb1ba7b47daba30a811ca4a21fa6866af9", func := "flyover/flyoverlaw10.OfficeCut", spec := "officeCut", inPlace := ["internal/bytealg.IndexByteString", "internal/bytealg.IndexString", "internal/bytealg.CountString", "internal/abi.NoEscape", "internal/bytealg.MakeNoZero"], unfollowed := true, recurses := true, named := ["flyover/sound.base", "flyover/office.final", "internal/strconv.uint64pow10", "math/bits.deBruijn32tab", "math/bits.deBruijn64tab", "internal/bytealg.MaxLen", "unicode/utf8.first", "unicode/utf8.acceptRanges"], apart := false, laid := [("math/bits.deBruijn32tab", laid_math_bits_deBruijn32tab), ("math/bits.deBruijn64tab", laid_math_bits_deBruijn64tab), ("internal/strconv.uint64pow10", laid_internal_strconv_uint64pow10), ("unicode/utf8.acceptRanges", laid_unicode_utf8_acceptRanges), ("flyover/sound.base", laid_flyover_sound_base), ("flyover/office.final", laid_flyover_office_final), ("unicode/utf8.first", laid_unicode_utf8_first)] }
def OfficeCutSaid : Prop := officeCutRow.holds Tryz.pinned (OpenSpec.ofChange officeCutSpec)

/-- ITS FALSE NEIGHBOUR: 'it returns false'. Refute it at one input. -/
def officeCutWrong : ChangeSpec := { name := "officeCut", fn := fun _ => fun
  | [d1, d2] => { results := [.lit (.bool false)], args := [d1, d2] }
  | _ => none }
def OfficeCutWrongFalsely : Prop := officeCutRow.holds Tryz.pinned (OpenSpec.ofChange officeCutWrong)

/-- 'flyoverlaw10.OfficeStories': WHATEVER THE INPUT: true; the input reads as it did. -/
def officeStoriesSpec : ChangeSpec := { name := "officeStories", fn := fun _ => fun
  | [d1, d2] => { results := [.lit (.bool true)], args := [d1, d2] }
  | _ => none }
def officeStoriesRow : OpenClaim := { program := "ytkfbgillhhhdgaagreatdoor", sum := "1ceccadc0208032cdb9ea60ac9f22adb1ba7b47daba30a811ca4a21fa6866af9", func := "flyover/flyoverlaw10.OfficeStories", spec := "officeStories", inPlace := ["internal/bytealg.IndexByteString", "internal/bytealg.IndexString", "internal/bytealg.CountString", "internal/abi.NoEscape", "internal/bytealg.MakeNoZero"], unfollowed := true, recurses := true, named := ["flyover/sound.base", "flyover/office.final", "internal/strconv.uint64pow10", "math/bits.deBruijn32tab", "math/bits.deBruijn64tab", "internal/bytealg.MaxLen", "unicode/utf8.first", "unicode/utf8.acceptRanges"], apart := false, laid := [("math/bits.deBruijn32tab", laid_math_bits_deBruijn32tab), ("math/bits.deBruijn64tab", laid_math_bits_deBruijn64tab), ("internal/strconv.uint64pow10", laid_internal_strconv_uint64pow10), ("unicode/utf8.acceptRanges", laid_unicode_utf8_acceptRanges), ("flyover/sound.base", laid_flyover_sound_base), ("flyover/office.final", laid_flyover_office_final), ("unicode/utf8.first", laid_unicode_utf8_first)] }
def OfficeStoriesSaid : Prop := officeStoriesRow.holds Tryz.pinned (OpenSpec.ofChange officeStoriesSpec)

/-- ITS FALSE NEIGHBOUR: 'it returns false'. Refute it at one input. -/
def officeStoriesWrong : ChangeSpec := { name := "officeStories", fn := fun _ => fun
  | [d1, d2] => { results := [.lit (.bool false)], args := [d1, d2] }
  | _ => none }
def OfficeStoriesWrongFalsely : Prop := officeStoriesRow.holds Tryz.pinned (OpenSpec.ofChange officeStoriesWrong)

/- THE SECOND FORM. 'bulk': how many values and letters a reading holds, each counted each time it is reached (what is shared counts as often as it is met; a slice's spare places count too). A statement '..UptoSaid' is the law's where the arguments, and the package variables that the reading takes, are together of bulk at most 1048576: NARROWER than '..Said'. Prove '..Said' where nothing that the law and all that it calls make is longer than what came in: it says more and counts as full. Else prove '..UptoSaid'. A law counts once. -/
mutual
def uptoBulk {H : Type} : DataW H → Nat
  | .lit (.string bytes) => bytes.length + 1
  | .lit _ => 1
  | .nil => 1
  | .ptr d => uptoBulk d + 1
  | .slice elems spare => uptoBulkAll elems + uptoBulkAll spare + 1
  | .agg parts => uptoBulkAll parts + 1
  | .iface _ d => uptoBulk d + 1
  | .map entries => uptoBulkEntries entries + 1
  | .held _ => 1
def uptoBulkAll {H : Type} : List (DataW H) → Nat
  | [] => 0
  | d :: r => uptoBulk d + uptoBulkAll r
def uptoBulkEntries {H : Type} : List (Lit × DataW H) → Nat
  | [] => 0
  | x :: r => uptoBulkEntry x + uptoBulkEntries r
def uptoBulkEntry {H : Type} : Lit × DataW H → Nat
  | (.string bytes, d) => bytes.length + uptoBulk d + 1
  | (_, d) => uptoBulk d + 1
 end
def uptoSmall : (H : Type) → List (DataW H) → Bool := fun _ ds => decide (uptoBulkAll ds ≤ 1048576)
def OpenSpec.upto (s : _root_.Go.ChangeSpec) : _root_.Go.OpenSpec := { _root_.Go.OpenSpec.ofChange s with cond := some uptoSmall }

/-- 'flyoverlaw10.OfficeEvents', WHERE WHAT IT READS IS OF BULK AT MOST 1048576: true; the input reads as it did. -/
def officeEventsUptoRow : OpenClaim := { program := "ytkfbgillhhhdgaagreatdoor", sum := "1ceccadc0208032cdb9ea60ac9f22adb1ba7b47daba30a811ca4a21fa6866af9", func := "flyover/flyoverlaw10.OfficeEvents", spec := "officeEvents", inPlace := ["internal/bytealg.IndexByteString", "internal/bytealg.IndexString", "internal/bytealg.CountString", "internal/abi.NoEscape", "internal/bytealg.MakeNoZero"], unfollowed := true, recurses := true, named := ["flyover/sound.base", "flyover/office.final", "internal/strconv.uint64pow10", "math/bits.deBruijn32tab", "math/bits.deBruijn64tab", "internal/bytealg.MaxLen", "unicode/utf8.first", "unicode/utf8.acceptRanges"], apart := false, laid := [("math/bits.deBruijn32tab", laid_math_bits_deBruijn32tab), ("math/bits.deBruijn64tab", laid_math_bits_deBruijn64tab), ("internal/strconv.uint64pow10", laid_internal_strconv_uint64pow10), ("unicode/utf8.acceptRanges", laid_unicode_utf8_acceptRanges), ("flyover/sound.base", laid_flyover_sound_base), ("flyover/office.final", laid_flyover_office_final), ("unicode/utf8.first", laid_unicode_utf8_first)], narrowed := true }
def OfficeEventsUptoSaid : Prop := officeEventsUptoRow.holds Tryz.pinned (OpenSpec.upto officeEventsSpec)

/-- 'flyoverlaw10.OfficeNumbers', WHERE WHAT IT READS IS OF BULK AT MOST 1048576: true; the input reads as it did. -/
def officeNumbersUptoRow : OpenClaim := { program := "ytkfbgillhhhdgaagreatdoor", sum := "1ceccadc0208032cdb9ea60ac9f22adb1ba7b47daba30a811ca4a21fa6866af9", func := "flyover/flyoverlaw10.OfficeNumbers", spec := "officeNumbers", inPlace := ["internal/bytealg.IndexByteString", "internal/bytealg.IndexString", "internal/bytealg.CountString", "internal/abi.NoEscape", "internal/bytealg.MakeNoZero"], unfollowed := true, recurses := true, named := ["flyover/sound.base", "flyover/office.final", "internal/strconv.uint64pow10", "math/bits.deBruijn32tab", "math/bits.deBruijn64tab", "internal/bytealg.MaxLen", "unicode/utf8.first", "unicode/utf8.acceptRanges"], apart := false, laid := [("math/bits.deBruijn32tab", laid_math_bits_deBruijn32tab), ("math/bits.deBruijn64tab", laid_math_bits_deBruijn64tab), ("internal/strconv.uint64pow10", laid_internal_strconv_uint64pow10), ("unicode/utf8.acceptRanges", laid_unicode_utf8_acceptRanges), ("flyover/sound.base", laid_flyover_sound_base), ("flyover/office.final", laid_flyover_office_final), ("unicode/utf8.first", laid_unicode_utf8_first)], narrowed := true }
def OfficeNumbersUptoSaid : Prop := officeNumbersUptoRow.holds Tryz.pinned (OpenSpec.upto officeNumbersSpec)

/-- 'flyoverlaw10.OfficeChains', WHERE WHAT IT READS IS OF BULK AT MOST 1048576: true; the input reads as it did. -/
def officeChainsUptoRow : OpenClaim := { program := "ytkfbgillhhhdgaagreatdoor", sum := "1ceccadc0208032cdb9ea60ac9f22adb1ba7b47daba30a811ca4a21fa6866af9", func := "flyover/flyoverlaw10.OfficeChains", spec := "officeChains", inPlace := ["internal/bytealg.IndexByteString", "internal/bytealg.IndexString", "internal/bytealg.CountString", "internal/abi.NoEscape", "internal/bytealg.MakeNoZero"], unfollowed := true, recurses := true, named := ["flyover/sound.base", "flyover/office.final", "internal/strconv.uint64pow10", "math/bits.deBruijn32tab", "math/bits.deBruijn64tab", "internal/bytealg.MaxLen", "unicode/utf8.first", "unicode/utf8.acceptRanges"], apart := false, laid := [("math/bits.deBruijn32tab", laid_math_bits_deBruijn32tab), ("math/bits.deBruijn64tab", laid_math_bits_deBruijn64tab), ("internal/strconv.uint64pow10", laid_internal_strconv_uint64pow10), ("unicode/utf8.acceptRanges", laid_unicode_utf8_acceptRanges), ("flyover/sound.base", laid_flyover_sound_base), ("flyover/office.final", laid_flyover_office_final), ("unicode/utf8.first", laid_unicode_utf8_first)], narrowed := true }
def OfficeChainsUptoSaid : Prop := officeChainsUptoRow.holds Tryz.pinned (OpenSpec.upto officeChainsSpec)

/-- 'flyoverlaw10.OfficeMaps', WHERE WHAT IT READS IS OF BULK AT MOST 1048576: true; the input reads as it did. -/
def officeMapsUptoRow : OpenClaim := { program := "ytkfbgillhhhdgaagreatdoor", sum := "1ceccadc0208032cdb9ea60ac9f22adb1ba7b47daba30a811ca4a21fa6866af9", func := "flyover/flyoverlaw10.OfficeMaps", spec := "officeMaps", inPlace := ["internal/bytealg.IndexByteString", "internal/bytealg.IndexString", "internal/bytealg.CountString", "internal/abi.NoEscape", "internal/bytealg.MakeNoZero"], unfollowed := true, recurses := true, named := ["flyover/sound.base", "flyover/office.final", "internal/strconv.uint64pow10", "math/bits.deBruijn32tab", "math/bits.deBruijn64tab", "internal/bytealg.MaxLen", "unicode/utf8.first", "unicode/utf8.acceptRanges"], apart := false, laid := [("math/bits.deBruijn32tab", laid_math_bits_deBruijn32tab), ("math/bits.deBruijn64tab", laid_math_bits_deBruijn64tab), ("internal/strconv.uint64pow10", laid_internal_strconv_uint64pow10), ("unicode/utf8.acceptRanges", laid_unicode_utf8_acceptRanges), ("flyover/sound.base", laid_flyover_sound_base), ("flyover/office.final", laid_flyover_office_final), ("unicode/utf8.first", laid_unicode_utf8_first)], narrowed := true }
def OfficeMapsUptoSaid : Prop := officeMapsUptoRow.holds Tryz.pinned (OpenSpec.upto officeMapsSpec)

/-- 'flyoverlaw10.OfficeViews', WHERE WHAT IT READS IS OF BULK AT MOST 1048576: true; the input reads as it did. -/
def officeViewsUptoRow : OpenClaim := { program := "ytkfbgillhhhdgaagreatdoor", sum := "1ceccadc0208032cdb9ea60ac9f22adb1ba7b47daba30a811ca4a21fa6866af9", func := "flyover/flyoverlaw10.OfficeViews", spec := "officeViews", inPlace := ["internal/bytealg.IndexByteString", "internal/bytealg.IndexString", "internal/bytealg.CountString", "internal/abi.NoEscape", "internal/bytealg.MakeNoZero"], unfollowed := true, recurses := true, named := ["flyover/sound.base", "flyover/office.final", "internal/strconv.uint64pow10", "math/bits.deBruijn32tab", "math/bits.deBruijn64tab", "internal/bytealg.MaxLen", "unicode/utf8.first", "unicode/utf8.acceptRanges"], apart := false, laid := [("math/bits.deBruijn32tab", laid_math_bits_deBruijn32tab), ("math/bits.deBruijn64tab", laid_math_bits_deBruijn64tab), ("internal/strconv.uint64pow10", laid_internal_strconv_uint64pow10), ("unicode/utf8.acceptRanges", laid_unicode_utf8_acceptRanges), ("flyover/sound.base", laid_flyover_sound_base), ("flyover/office.final", laid_flyover_office_final), ("unicode/utf8.first", laid_unicode_utf8_first)], narrowed := true }
def OfficeViewsUptoSaid : Prop := officeViewsUptoRow.holds Tryz.pinned (OpenSpec.upto officeViewsSpec)

/-- 'flyoverlaw10.OfficeLogs', WHERE WHAT IT READS IS OF BULK AT MOST 1048576: true; the input reads as it did. -/
def officeLogsUptoRow : OpenClaim := { program := "ytkfbgillhhhdgaagreatdoor", sum := "1ceccadc0208032cdb9ea60ac9f22adb1ba7b47daba30a811ca4a21fa6866af9", func := "flyover/flyoverlaw10.OfficeLogs", spec := "officeLogs", inPlace := ["internal/bytealg.IndexByteString", "internal/bytealg.IndexString", "internal/bytealg.CountString", "internal/abi.NoEscape", "internal/bytealg.MakeNoZero"], unfollowed := true, recurses := true, named := ["flyover/sound.base", "flyover/office.final", "internal/strconv.uint64pow10", "math/bits.deBruijn32tab", "math/bits.deBruijn64tab", "internal/bytealg.MaxLen", "unicode/utf8.first", "unicode/utf8.acceptRanges"], apart := false, laid := [("math/bits.deBruijn32tab", laid_math_bits_deBruijn32tab), ("math/bits.deBruijn64tab", laid_math_bits_deBruijn64tab), ("internal/strconv.uint64pow10", laid_internal_strconv_uint64pow10), ("unicode/utf8.acceptRanges", laid_unicode_utf8_acceptRanges), ("flyover/sound.base", laid_flyover_sound_base), ("flyover/office.final", laid_flyover_office_final), ("unicode/utf8.first", laid_unicode_utf8_first)], narrowed := true }
def OfficeLogsUptoSaid : Prop := officeLogsUptoRow.holds Tryz.pinned (OpenSpec.upto officeLogsSpec)

/-- 'flyoverlaw10.OfficeProved', WHERE WHAT IT READS IS OF BULK AT MOST 1048576: true; the input reads as it did. -/
def officeProvedUptoRow : OpenClaim := { program := "ytkfbgillhhhdgaagreatdoor", sum := "1ceccadc0208032cdb9ea60ac9f22adb1ba7b47daba30a811ca4a21fa6866af9", func := "flyover/flyoverlaw10.OfficeProved", spec := "officeProved", inPlace := ["internal/bytealg.IndexByteString", "internal/bytealg.IndexString", "internal/bytealg.CountString", "internal/abi.NoEscape", "internal/bytealg.MakeNoZero"], unfollowed := true, recurses := true, named := ["flyover/sound.base", "flyover/office.final", "internal/strconv.uint64pow10", "math/bits.deBruijn32tab", "math/bits.deBruijn64tab", "internal/bytealg.MaxLen", "unicode/utf8.first", "unicode/utf8.acceptRanges"], apart := false, laid := [("math/bits.deBruijn32tab", laid_math_bits_deBruijn32tab), ("math/bits.deBruijn64tab", laid_math_bits_deBruijn64tab), ("internal/strconv.uint64pow10", laid_internal_strconv_uint64pow10), ("unicode/utf8.acceptRanges", laid_unicode_utf8_acceptRanges), ("flyover/sound.base", laid_flyover_sound_base), ("flyover/office.final", laid_flyover_office_final), ("unicode/utf8.first", laid_unicode_utf8_first)], narrowed := true }
def OfficeProvedUptoSaid : Prop := officeProvedUptoRow.holds Tryz.pinned (OpenSpec.upto officeProvedSpec)

/-- 'flyoverlaw10.OfficeFixed', WHERE WHAT IT READS IS OF BULK AT MOST 1048576: true; the input reads as it did. -/
def officeFixedUptoRow : OpenClaim := { program := "ytkfbgillhhhdgaagreatdoor", sum := "1ceccadc0208032cdb9ea60ac9f22adb1ba7b47daba30a811ca4a21fa6866af9", func := "flyover/flyoverlaw10.OfficeFixed", spec := "officeFixed", inPlace := ["internal/bytealg.IndexByteString", "internal/bytealg.IndexString", "internal/bytealg.CountString", "internal/abi.NoEscape", "internal/bytealg.MakeNoZero"], unfollowed := true, recurses := true, named := ["flyover/sound.base", "flyover/office.final", "internal/strconv.uint64pow10", "math/bits.deBruijn32tab", "math/bits.deBruijn64tab", "internal/bytealg.MaxLen", "unicode/utf8.first", "unicode/utf8.acceptRanges"], apart := false, laid := [("math/bits.deBruijn32tab", laid_math_bits_deBruijn32tab), ("math/bits.deBruijn64tab", laid_math_bits_deBruijn64tab), ("internal/strconv.uint64pow10", laid_internal_strconv_uint64pow10), ("unicode/utf8.acceptRanges", laid_unicode_utf8_acceptRanges), ("flyover/sound.base", laid_flyover_sound_base), ("flyover/office.final", laid_flyover_office_final), ("unicode/utf8.first", laid_unicode_utf8_first)], narrowed := true }
def OfficeFixedUptoSaid : Prop := officeFixedUptoRow.holds Tryz.pinned (OpenSpec.upto officeFixedSpec)

/-- 'flyoverlaw10.OfficeReplay', WHERE WHAT IT READS IS OF BULK AT MOST 1048576: true; the input reads as it did. -/
def officeReplayUptoRow : OpenClaim := { program := "ytkfbgillhhhdgaagreatdoor", sum := "1ceccadc0208032cdb9ea60ac9f22adb1ba7b47daba30a811ca4a21fa6866af9", func := "flyover/flyoverlaw10.OfficeReplay", spec := "officeReplay", inPlace := ["internal/bytealg.IndexByteString", "internal/bytealg.IndexString", "internal/bytealg.CountString", "internal/abi.NoEscape", "internal/bytealg.MakeNoZero"], unfollowed := true, recurses := true, named := ["flyover/sound.base", "flyover/office.final", "internal/strconv.uint64pow10", "math/bits.deBruijn32tab", "math/bits.deBruijn64tab", "internal/bytealg.MaxLen", "unicode/utf8.first", "unicode/utf8.acceptRanges"], apart := false, laid := [("math/bits.deBruijn32tab", laid_math_bits_deBruijn32tab), ("math/bits.deBruijn64tab", laid_math_bits_deBruijn64tab), ("internal/strconv.uint64pow10", laid_internal_strconv_uint64pow10), ("unicode/utf8.acceptRanges", laid_unicode_utf8_acceptRanges), ("flyover/sound.base", laid_flyover_sound_base), ("flyover/office.final", laid_flyover_office_final), ("unicode/utf8.first", laid_unicode_utf8_first)], narrowed := true }
def OfficeReplayUptoSaid : Prop := officeReplayUptoRow.holds Tryz.pinned (OpenSpec.upto officeReplaySpec)

/-- 'flyoverlaw10.OfficeConsole', WHERE WHAT IT READS IS OF BULK AT MOST 1048576: true; the input reads as it did. -/
def officeConsoleUptoRow : OpenClaim := { program := "ytkfbgillhhhdgaagreatdoor", sum := "1ceccadc0208032cdb9ea60ac9f22adb1ba7b47daba30a811ca4a21fa6866af9", func := "flyover/flyoverlaw10.OfficeConsole", spec := "officeConsole", inPlace := ["internal/bytealg.IndexByteString", "internal/bytealg.IndexString", "internal/bytealg.CountString", "internal/abi.NoEscape", "internal/bytealg.MakeNoZero"], unfollowed := true, recurses := true, named := ["flyover/sound.base", "flyover/office.final", "internal/strconv.uint64pow10", "math/bits.deBruijn32tab", "math/bits.deBruijn64tab", "internal/bytealg.MaxLen", "unicode/utf8.first", "unicode/utf8.acceptRanges"], apart := false, laid := [("math/bits.deBruijn32tab", laid_math_bits_deBruijn32tab), ("math/bits.deBruijn64tab", laid_math_bits_deBruijn64tab), ("internal/strconv.uint64pow10", laid_internal_strconv_uint64pow10), ("unicode/utf8.acceptRanges", laid_unicode_utf8_acceptRanges), ("flyover/sound.base", laid_flyover_sound_base), ("flyover/office.final", laid_flyover_office_final), ("unicode/utf8.first", laid_unicode_utf8_first)], narrowed := true }
def OfficeConsoleUptoSaid : Prop := officeConsoleUptoRow.holds Tryz.pinned (OpenSpec.upto officeConsoleSpec)

/-- 'flyoverlaw10.OfficeCut', WHERE WHAT IT READS IS OF BULK AT MOST 1048576: true; the input reads as it did. -/
def officeCutUptoRow : OpenClaim := { program := "ytkfbgillhhhdgaagreatdoor", sum := "1ceccadc0208032cdb9ea60ac9f22adb1ba7b47daba30a811ca4a21fa6866af9", func := "flyover/flyoverlaw10.OfficeCut", spec := "officeCut", inPlace := ["internal/bytealg.IndexByteString", "internal/bytealg.IndexString", "internal/bytealg.CountString", "internal/abi.NoEscape", "internal/bytealg.MakeNoZero"], unfollowed := true, recurses := true, named := ["flyover/sound.base", "flyover/office.final", "internal/strconv.uint64pow10", "math/bits.deBruijn32tab", "math/bits.deBruijn64tab", "internal/bytealg.MaxLen", "unicode/utf8.first", "unicode/utf8.acceptRanges"], apart := false, laid := [("math/bits.deBruijn32tab", laid_math_bits_deBruijn32tab), ("math/bits.deBruijn64tab", laid_math_bits_deBruijn64tab), ("internal/strconv.uint64pow10", laid_internal_strconv_uint64pow10), ("unicode/utf8.acceptRanges", laid_unicode_utf8_acceptRanges), ("flyover/sound.base", laid_flyover_sound_base), ("flyover/office.final", laid_flyover_office_final), ("unicode/utf8.first", laid_unicode_utf8_first)], narrowed := true }
def OfficeCutUptoSaid : Prop := officeCutUptoRow.holds Tryz.pinned (OpenSpec.upto officeCutSpec)

/-- 'flyoverlaw10.OfficeStories', WHERE WHAT IT READS IS OF BULK AT MOST 1048576: true; the input reads as it did. -/
def officeStoriesUptoRow : OpenClaim := { program := "ytkfbgillhhhdgaagreatdoor", sum := "1ceccadc0208032cdb9ea60ac9f22adb1ba7b47daba30a811ca4a21fa6866af9", func := "flyover/flyoverlaw10.OfficeStories", spec := "officeStories", inPlace := ["internal/bytealg.IndexByteString", "internal/bytealg.IndexString", "internal/bytealg.CountString", "internal/abi.NoEscape", "internal/bytealg.MakeNoZero"], unfollowed := true, recurses := true, named := ["flyover/sound.base", "flyover/office.final", "internal/strconv.uint64pow10", "math/bits.deBruijn32tab", "math/bits.deBruijn64tab", "internal/bytealg.MaxLen", "unicode/utf8.first", "unicode/utf8.acceptRanges"], apart := false, laid := [("math/bits.deBruijn32tab", laid_math_bits_deBruijn32tab), ("math/bits.deBruijn64tab", laid_math_bits_deBruijn64tab), ("internal/strconv.uint64pow10", laid_internal_strconv_uint64pow10), ("unicode/utf8.acceptRanges", laid_unicode_utf8_acceptRanges), ("flyover/sound.base", laid_flyover_sound_base), ("flyover/office.final", laid_flyover_office_final), ("unicode/utf8.first", laid_unicode_utf8_first)], narrowed := true }
def OfficeStoriesUptoSaid : Prop := officeStoriesUptoRow.holds Tryz.pinned (OpenSpec.upto officeStoriesSpec)

end Rows
end Go.Proofs.YtkfbgillhhhdgaaGreatDoor
