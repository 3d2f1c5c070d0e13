/-
  NARROWER THAN 'FOR EVERY INPUT', by the rows' own cells (each row's printed sentence says how): TopEaveFund: laid · TopEaveNumber: laid · TopEaveAnswered: laid · TopEaveFollowed: laid.
  DERIVED. THE GIVEN ROWS OF THIS SEAT. 4 by the template 'for every input the law returns true; each argument reads behind the call as it read before'; 0 by the template 'total and deterministic' (their statements: YtfcdodaakhlppaaGreatDoorTotals.lean).
  GIVEN WITH THE SEED: the statements are not yours to turn. If you find one false, say at which input.
  Laid BY PROGRAM, IN A SANDBOX (cutbox-rows.mjs): the forced cells as the released guide's own fill.sh prints them over the translation 0d727cdc34ff8f90… (all of the seat's roots in one cut). By AI agents, Wed Nov 11 2026. No macro, syntax, notation, axiom, sorry.
-/
import Derived.Test.YtfcdodaakhlppaaGreatDoorChecked
import GoSem.PinnedTables
import GoSem.Claim
import GoSem.ClaimJoined
import GoSem.ClaimMapViews
import Derived.JoinedTies
import Derived.KernelRfl
namespace Go.Proofs.YtfcdodaakhlppaaGreatDoor
/- THE CELL 'sum', in the pinned program and in every row, IS THE sha256 OF THE DUMP (.gsa) THAT YtfcdodaakhlppaaGreatDoorProg.lean LOADS. Nothing in Lean hashes anything: it is a label: what it is worth is what the hold of that sum in a sandbox is worth. -/
noncomputable def Tryz.pinned : Pinned := { name := "ytfcdodaakhlppaagreatdoor", sum := "0d727cdc34ff8f9052e6f9320c86e1376a5df94291035785c789c3d4c51d7835", checked := Tryz.checked }
namespace Rows
def none {H : Type} : Left H := { results := [], args := [] }

/- WHAT THE LISTED PACKAGE-LEVEL VARIABLES READ AS WHEN THE CALL BEGINS. Each datum BY PROGRAM (the guide's laid-datum.mjs) off the statement by which the dump's own 'gosem.cut.vars' lays the variable. In a bare row this is a premise. The card (YtfcdodaakhlppaaGreatDoorCards.lean) ties it to the program's text. -/
def laid_flyover_sound_base {H : Type} : DataW H := .agg [.lit (.int .i64 10), .lit (.int .i64 13), .lit (.int .i64 16), .lit (.int .i64 20), .lit (.int .i64 25), .lit (.int .i64 32), .lit (.int .i64 40), .lit (.int .i64 50), .lit (.int .i64 63), .lit (.int .i64 79)]
def laid_flyover_office_final {H : Type} : DataW H := .agg [.lit (.string [112, 117, 98, 108, 105, 115, 104]), .lit (.string [112, 97, 121])]
def laid_flyover_night_wrongs {H : Type} : DataW H := .agg [.lit (.string [114, 101, 97, 115, 111, 110]), .lit (.string [101, 97, 114, 108, 121]), .lit (.string [108, 97, 116, 101]), .lit (.string [101, 118, 105, 100, 101, 110, 99, 101])]
def laid_math_bits_deBruijn32tab {H : Type} : DataW H := .agg [.lit (.int .u8 0), .lit (.int .u8 1), .lit (.int .u8 28), .lit (.int .u8 2), .lit (.int .u8 29), .lit (.int .u8 14), .lit (.int .u8 24), .lit (.int .u8 3), .lit (.int .u8 30), .lit (.int .u8 22), .lit (.int .u8 20), .lit (.int .u8 15), .lit (.int .u8 25), .lit (.int .u8 17), .lit (.int .u8 4), .lit (.int .u8 8), .lit (.int .u8 31), .lit (.int .u8 27), .lit (.int .u8 13), .lit (.int .u8 23), .lit (.int .u8 21), .lit (.int .u8 19), .lit (.int .u8 16), .lit (.int .u8 7), .lit (.int .u8 26), .lit (.int .u8 12), .lit (.int .u8 18), .lit (.int .u8 6), .lit (.int .u8 11), .lit (.int .u8 5), .lit (.int .u8 10), .lit (.int .u8 9)]
def laid_math_bits_deBruijn64tab {H : Type} : DataW H := .agg [.lit (.int .u8 0), .lit (.int .u8 1), .lit (.int .u8 56), .lit (.int .u8 2), .lit (.int .u8 57), .lit (.int .u8 49), .lit (.int .u8 28), .lit (.int .u8 3), .lit (.int .u8 61), .lit (.int .u8 58), .lit (.int .u8 42), .lit (.int .u8 50), .lit (.int .u8 38), .lit (.int .u8 29), .lit (.int .u8 17), .lit (.int .u8 4), .lit (.int .u8 62), .lit (.int .u8 47), .lit (.int .u8 59), .lit (.int .u8 36), .lit (.int .u8 45), .lit (.int .u8 43), .lit (.int .u8 51), .lit (.int .u8 22), .lit (.int .u8 53), .lit (.int .u8 39), .lit (.int .u8 33), .lit (.int .u8 30), .lit (.int .u8 24), .lit (.int .u8 18), .lit (.int .u8 12), .lit (.int .u8 5), .lit (.int .u8 63), .lit (.int .u8 55), .lit (.int .u8 48), .lit (.int .u8 27), .lit (.int .u8 60), .lit (.int .u8 41), .lit (.int .u8 37), .lit (.int .u8 16), .lit (.int .u8 46), .lit (.int .u8 35), .lit (.int .u8 44), .lit (.int .u8 21), .lit (.int .u8 52), .lit (.int .u8 32), .lit (.int .u8 23), .lit (.int .u8 11), .lit (.int .u8 54), .lit (.int .u8 26), .lit (.int .u8 40), .lit (.int .u8 15), .lit (.int .u8 34), .lit (.int .u8 20), .lit (.int .u8 31), .lit (.int .u8 10), .lit (.int .u8 25), .lit (.int .u8 14), .lit (.int .u8 19), .lit (.int .u8 9), .lit (.int .u8 13), .lit (.int .u8 8), .lit (.int .u8 7), .lit (.int .u8 6)]
def laid_internal_strconv_uint64pow10 {H : Type} : DataW H := .agg [.lit (.int .u64 1), .lit (.int .u64 10), .lit (.int .u64 100), .lit (.int .u64 1000), .lit (.int .u64 10000), .lit (.int .u64 100000), .lit (.int .u64 1000000), .lit (.int .u64 10000000), .lit (.int .u64 100000000), .lit (.int .u64 1000000000), .lit (.int .u64 10000000000), .lit (.int .u64 100000000000), .lit (.int .u64 1000000000000), .lit (.int .u64 10000000000000), .lit (.int .u64 100000000000000), .lit (.int .u64 1000000000000000), .lit (.int .u64 10000000000000000), .lit (.int .u64 100000000000000000), .lit (.int .u64 1000000000000000000), .lit (.int .u64 10000000000000000000)]
def laid_unicode_utf8_acceptRanges {H : Type} : DataW H := .agg [.agg [.lit (.int .u8 128), .lit (.int .u8 191)], .agg [.lit (.int .u8 160), .lit (.int .u8 191)], .agg [.lit (.int .u8 128), .lit (.int .u8 159)], .agg [.lit (.int .u8 144), .lit (.int .u8 191)], .agg [.lit (.int .u8 128), .lit (.int .u8 143)], .agg [.lit (.int .u8 0), .lit (.int .u8 0)], .agg [.lit (.int .u8 0), .lit (.int .u8 0)], .agg [.lit (.int .u8 0), .lit (.int .u8 0)], .agg [.lit (.int .u8 0), .lit (.int .u8 0)], .agg [.lit (.int .u8 0), .lit (.int .u8 0)], .agg [.lit (.int .u8 0), .lit (.int .u8 0)], .agg [.lit (.int .u8 0), .lit (.int .u8 0)], .agg [.lit (.int .u8 0), .lit (.int .u8 0)], .agg [.lit (.int .u8 0), .lit (.int .u8 0)], .agg [.lit (.int .u8 0), .lit (.int .u8 0)], .agg [.lit (.int .u8 0), .lit (.int .u8 0)]]
/-- One of Go's own tables, pinned by name: the form's constant. -/
def laid_unicode_utf8_first : DataW Unit := Go.Pinned.utf8First

/-- 'flyovertop.TopEaveFund': WHATEVER THE INPUT: true; the input reads as it did. -/
def topEaveFundSpec : ChangeSpec := { name := "topEaveFund", fn := fun _ => fun
  | [d] => { results := [.lit (.bool true)], args := [d] }
  | _ => none }
def topEaveFundRow : OpenClaim := { program := "ytfcdodaakhlppaagreatdoor", sum := "0d727cdc34ff8f9052e6f9320c86e1376a5df94291035785c789c3d4c51d7835", func := "flyover/flyovertop.TopEaveFund", spec := "topEaveFund", unfollowed := true, recurses := true, named := ["flyover/sound.base", "flyover/office.final"], apart := false, laid := [("flyover/sound.base", laid_flyover_sound_base), ("flyover/office.final", laid_flyover_office_final)] }
def TopEaveFundSaid : Prop := topEaveFundRow.holds Tryz.pinned (OpenSpec.ofChange topEaveFundSpec)

/-- ITS FALSE NEIGHBOUR: 'it returns false'. Refute it at one input. -/
def topEaveFundWrong : ChangeSpec := { name := "topEaveFund", fn := fun _ => fun
  | [d] => { results := [.lit (.bool false)], args := [d] }
  | _ => none }
def TopEaveFundWrongFalsely : Prop := topEaveFundRow.holds Tryz.pinned (OpenSpec.ofChange topEaveFundWrong)

/-- 'flyovertop.TopEaveNumber': WHATEVER THE INPUT: true; the input reads as it did. -/
def topEaveNumberSpec : ChangeSpec := { name := "topEaveNumber", fn := fun _ => fun
  | [d1, d2] => { results := [.lit (.bool true)], args := [d1, d2] }
  | _ => none }
def topEaveNumberRow : OpenClaim := { program := "ytfcdodaakhlppaagreatdoor", sum := "0d727cdc34ff8f9052e6f9320c86e1376a5df94291035785c789c3d4c51d7835", func := "flyover/flyovertop.TopEaveNumber", spec := "topEaveNumber", unfollowed := true, recurses := true, named := ["flyover/sound.base", "flyover/office.final"], apart := false, laid := [("flyover/sound.base", laid_flyover_sound_base), ("flyover/office.final", laid_flyover_office_final)] }
def TopEaveNumberSaid : Prop := topEaveNumberRow.holds Tryz.pinned (OpenSpec.ofChange topEaveNumberSpec)

/-- ITS FALSE NEIGHBOUR: 'it returns false'. Refute it at one input. -/
def topEaveNumberWrong : ChangeSpec := { name := "topEaveNumber", fn := fun _ => fun
  | [d1, d2] => { results := [.lit (.bool false)], args := [d1, d2] }
  | _ => none }
def TopEaveNumberWrongFalsely : Prop := topEaveNumberRow.holds Tryz.pinned (OpenSpec.ofChange topEaveNumberWrong)

/-- 'flyovertop.TopEaveAnswered': WHATEVER THE INPUT: true; the input reads as it did. -/
def topEaveAnsweredSpec : ChangeSpec := { name := "topEaveAnswered", fn := fun _ => fun
  | [d1, d2] => { results := [.lit (.bool true)], args := [d1, d2] }
  | _ => none }
def topEaveAnsweredRow : OpenClaim := { program := "ytfcdodaakhlppaagreatdoor", sum := "0d727cdc34ff8f9052e6f9320c86e1376a5df94291035785c789c3d4c51d7835", func := "flyover/flyovertop.TopEaveAnswered", spec := "topEaveAnswered", unfollowed := true, recurses := true, named := ["flyover/sound.base", "flyover/office.final", "flyover/night.wrongs"], apart := false, laid := [("flyover/sound.base", laid_flyover_sound_base), ("flyover/night.wrongs", laid_flyover_night_wrongs), ("flyover/office.final", laid_flyover_office_final)] }
def TopEaveAnsweredSaid : Prop := topEaveAnsweredRow.holds Tryz.pinned (OpenSpec.ofChange topEaveAnsweredSpec)

/-- ITS FALSE NEIGHBOUR: 'it returns false'. Refute it at one input. -/
def topEaveAnsweredWrong : ChangeSpec := { name := "topEaveAnswered", fn := fun _ => fun
  | [d1, d2] => { results := [.lit (.bool false)], args := [d1, d2] }
  | _ => none }
def TopEaveAnsweredWrongFalsely : Prop := topEaveAnsweredRow.holds Tryz.pinned (OpenSpec.ofChange topEaveAnsweredWrong)

/-- 'flyovertop.TopEaveFollowed': WHATEVER THE INPUT: true; the input reads as it did. -/
def topEaveFollowedSpec : ChangeSpec := { name := "topEaveFollowed", fn := fun _ => fun
  | [d1, d2, d3] => { results := [.lit (.bool true)], args := [d1, d2, d3] }
  | _ => none }
def topEaveFollowedRow : OpenClaim := { program := "ytfcdodaakhlppaagreatdoor", sum := "0d727cdc34ff8f9052e6f9320c86e1376a5df94291035785c789c3d4c51d7835", func := "flyover/flyovertop.TopEaveFollowed", spec := "topEaveFollowed", inPlace := ["internal/bytealg.IndexByteString", "internal/bytealg.IndexString", "internal/bytealg.CountString", "internal/abi.NoEscape", "internal/bytealg.MakeNoZero"], unfollowed := true, recurses := true, named := ["flyover/sound.base", "flyover/office.final", "internal/bytealg.MaxLen", "unicode/utf8.first", "unicode/utf8.acceptRanges", "internal/strconv.uint64pow10", "math/bits.deBruijn32tab", "math/bits.deBruijn64tab", "flyover/night.wrongs"], apart := false, laid := [("math/bits.deBruijn32tab", laid_math_bits_deBruijn32tab), ("math/bits.deBruijn64tab", laid_math_bits_deBruijn64tab), ("internal/strconv.uint64pow10", laid_internal_strconv_uint64pow10), ("unicode/utf8.acceptRanges", laid_unicode_utf8_acceptRanges), ("flyover/sound.base", laid_flyover_sound_base), ("flyover/night.wrongs", laid_flyover_night_wrongs), ("flyover/office.final", laid_flyover_office_final), ("unicode/utf8.first", laid_unicode_utf8_first)] }
def TopEaveFollowedSaid : Prop := topEaveFollowedRow.holds Tryz.pinned (OpenSpec.ofChange topEaveFollowedSpec)

/-- ITS FALSE NEIGHBOUR: 'it returns false'. Refute it at one input. -/
def topEaveFollowedWrong : ChangeSpec := { name := "topEaveFollowed", fn := fun _ => fun
  | [d1, d2, d3] => { results := [.lit (.bool false)], args := [d1, d2, d3] }
  | _ => none }
def TopEaveFollowedWrongFalsely : Prop := topEaveFollowedRow.holds Tryz.pinned (OpenSpec.ofChange topEaveFollowedWrong)

/- THE SECOND FORM. 'bulk': how many values and letters a reading holds, each counted each time it is reached (what is shared counts as often as it is met; a slice's spare places count too). A statement '..UptoSaid' is the law's where the arguments, and the package variables that the reading takes, are together of bulk at most 1048576: NARROWER than '..Said'. Prove '..Said' where nothing that the law and all that it calls make is longer than what came in: it says more and counts as full. Else prove '..UptoSaid'. A law counts once. -/
mutual
def uptoBulk {H : Type} : DataW H → Nat
  | .lit (.string bytes) => bytes.length + 1
  | .lit _ => 1
  | .nil => 1
  | .ptr d => uptoBulk d + 1
  | .slice elems spare => uptoBulkAll elems + uptoBulkAll spare + 1
  | .agg parts => uptoBulkAll parts + 1
  | .iface _ d => uptoBulk d + 1
  | .map entries => uptoBulkEntries entries + 1
  | .held _ => 1
def uptoBulkAll {H : Type} : List (DataW H) → Nat
  | [] => 0
  | d :: r => uptoBulk d + uptoBulkAll r
def uptoBulkEntries {H : Type} : List (Lit × DataW H) → Nat
  | [] => 0
  | x :: r => uptoBulkEntry x + uptoBulkEntries r
def uptoBulkEntry {H : Type} : Lit × DataW H → Nat
  | (.string bytes, d) => bytes.length + uptoBulk d + 1
  | (_, d) => uptoBulk d + 1
 end
def uptoSmall : (H : Type) → List (DataW H) → Bool := fun _ ds => decide (uptoBulkAll ds ≤ 1048576)
def OpenSpec.upto (s : _root_.Go.ChangeSpec) : _root_.Go.OpenSpec := { _root_.Go.OpenSpec.ofChange s with cond := some uptoSmall }

/-- 'flyovertop.TopEaveFund', WHERE WHAT IT READS IS OF BULK AT MOST 1048576: true; the input reads as it did. -/
def topEaveFundUptoRow : OpenClaim := { program := "ytfcdodaakhlppaagreatdoor", sum := "0d727cdc34ff8f9052e6f9320c86e1376a5df94291035785c789c3d4c51d7835", func := "flyover/flyovertop.TopEaveFund", spec := "topEaveFund", unfollowed := true, recurses := true, named := ["flyover/sound.base", "flyover/office.final"], apart := false, laid := [("flyover/sound.base", laid_flyover_sound_base), ("flyover/office.final", laid_flyover_office_final)], narrowed := true }
def TopEaveFundUptoSaid : Prop := topEaveFundUptoRow.holds Tryz.pinned (OpenSpec.upto topEaveFundSpec)

/-- 'flyovertop.TopEaveNumber', WHERE WHAT IT READS IS OF BULK AT MOST 1048576: true; the input reads as it did. -/
def topEaveNumberUptoRow : OpenClaim := { program := "ytfcdodaakhlppaagreatdoor", sum := "0d727cdc34ff8f9052e6f9320c86e1376a5df94291035785c789c3d4c51d7835", func := "flyover/flyovertop.TopEaveNumber", spec := "topEaveNumber", unfollowed := true, recurses := true, named := ["flyover/sound.base", "flyover/office.final"], apart := false, laid := [("flyover/sound.base", laid_flyover_sound_base), ("flyover/office.final", laid_flyover_office_final)], narrowed := true }
def TopEaveNumberUptoSaid : Prop := topEaveNumberUptoRow.holds Tryz.pinned (OpenSpec.upto topEaveNumberSpec)

/-- 'flyovertop.TopEaveAnswered', WHERE WHAT IT READS IS OF BULK AT MOST 1048576: true; the input reads as it did. -/
def topEaveAnsweredUptoRow : OpenClaim := { program := "ytfcdodaakhlppaagreatdoor", sum := "0d727cdc34ff8f9052e6f9320c86e1376a5df94291035785c789c3d4c51d7835", func := "flyover/flyovertop.TopEaveAnswered", spec := "topEaveAnswered", unfollowed := true, recurses := true, named := ["flyover/sound.base", "flyover/office.final", "flyover/night.wrongs"], apart := false, laid := [("flyover/sound.base", laid_flyover_sound_base), ("flyover/night.wrongs", laid_flyover_night_wrongs), ("flyover/office.final", laid_flyover_office_final)], narrowed := true }
def TopEaveAnsweredUptoSaid : Prop := topEaveAnsweredUptoRow.holds Tryz.pinned (OpenSpec.upto topEaveAnsweredSpec)

/-- 'flyovertop.TopEaveFollowed', WHERE WHAT IT READS IS OF BULK AT MOST 1048576: true; the input reads as it did. -/
def topEaveFollowedUptoRow : OpenClaim := { program := "ytfcdodaakhlppaagreatdoor", sum := "0d727cdc34ff8f9052e6f9320c86e1376a5df94291035785c789c3d4c51d7835", func := "flyover/flyovertop.TopEaveFollowed", spec := "topEaveFollowed", inPlace := ["internal/bytealg.IndexByteString", "internal/bytealg.IndexString", "internal/bytealg.CountString", "internal/abi.NoEscape", "internal/bytealg.MakeNoZero"], unfollowed := true, recurses := true, named := ["flyover/sound.base", "flyover/office.final", "internal/bytealg.MaxLen", "unicode/utf8.first", "unicode/utf8.acceptRanges", "internal/strconv.uint64pow10", "math/bits.deBruijn32tab", "math/bits.deBruijn64tab", "flyover/night.wrongs"], apart := false, laid := [("math/bits.deBruijn32tab", laid_math_bits_deBruijn32tab), ("math/bits.deBruijn64tab", laid_math_bits_deBruijn64tab), ("internal/strconv.uint64pow10", laid_internal_strconv_uint64pow10), ("unicode/utf8.acceptRanges", laid_unicode_utf8_acceptRanges), ("flyover/sound.base", laid_flyover_sound_base), ("flyover/night.wrongs", laid_flyover_night_wrongs), ("flyover/office.final", laid_flyover_office_final), ("unicode/utf8.first", laid_unicode_utf8_first)], narrowed := true }
def TopEaveFollowedUptoSaid : Prop := topEaveFollowedUptoRow.holds Tryz.pinned (OpenSpec.upto topEaveFollowedSpec)

end Rows
end Go.Proofs.YtfcdodaakhlppaaGreatDoor
