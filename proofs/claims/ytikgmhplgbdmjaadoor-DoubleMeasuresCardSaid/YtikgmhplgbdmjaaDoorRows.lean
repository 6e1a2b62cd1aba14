/-
  NARROWER THAN 'FOR EVERY INPUT', by the rows' own cells (each row's printed sentence says how): StringQuotes: laid · StringDistances: laid · PoolRooms: laid · QuietTimes: laid · FieldChecks: laid · DoubleMeasures: laid · IdChecks: laid · IdNormals: laid.
  DERIVED. THE GIVEN ROWS OF THIS SEAT. 8 by the template 'for every input the law returns true; each argument reads behind the call as it read before'; 0 by the template 'total and deterministic' (their statements: YtikgmhplgbdmjaaDoorTotals.lean).
  GIVEN WITH THE SEED: the statements are not yours to turn. If you find one false, say at which input.
  Laid BY PROGRAM, IN A SANDBOX (cutbox-rows.mjs): the forced cells as the released guide's own fill.sh prints them over the translation f41162c133b57ffd… (all of the seat's roots in one cut). By AI agents, Wed Nov 11 2026. No macro, syntax, notation, axiom, sorry.
-/
import Derived.Test.YtikgmhplgbdmjaaDoorChecked
import GoSem.PinnedTables
import GoSem.Claim
import GoSem.ClaimJoined
import GoSem.ClaimMapViews
import Derived.JoinedTies
import Derived.KernelRfl
namespace Go.Proofs.YtikgmhplgbdmjaaDoor
/- THE CELL 'sum', in the pinned program and in every row, IS THE sha256 OF THE DUMP (.gsa) THAT YtikgmhplgbdmjaaDoorProg.lean LOADS. Nothing in Lean hashes anything: it is a label: what it is worth is what the hold of that sum in a sandbox is worth. -/
noncomputable def Tryd.pinned : Pinned := { name := "ytikgmhplgbdmjaadoor", sum := "f41162c133b57ffd50d670b5d705cd686992ac9b4a318279ed7e720522508564", checked := Tryd.checked }
namespace Rows
def none {H : Type} : Left H := { results := [], args := [] }

/- WHAT THE LISTED PACKAGE-LEVEL VARIABLES READ AS WHEN THE CALL BEGINS. Each datum BY PROGRAM (the guide's laid-datum.mjs) off the statement by which the dump's own 'gosem.cut.vars' lays the variable. In a bare row this is a premise. The card (YtikgmhplgbdmjaaDoorCards.lean) ties it to the program's text. -/
def laid_unicode_utf8_acceptRanges {H : Type} : DataW H := .agg [.agg [.lit (.int .u8 128), .lit (.int .u8 191)], .agg [.lit (.int .u8 160), .lit (.int .u8 191)], .agg [.lit (.int .u8 128), .lit (.int .u8 159)], .agg [.lit (.int .u8 144), .lit (.int .u8 191)], .agg [.lit (.int .u8 128), .lit (.int .u8 143)], .agg [.lit (.int .u8 0), .lit (.int .u8 0)], .agg [.lit (.int .u8 0), .lit (.int .u8 0)], .agg [.lit (.int .u8 0), .lit (.int .u8 0)], .agg [.lit (.int .u8 0), .lit (.int .u8 0)], .agg [.lit (.int .u8 0), .lit (.int .u8 0)], .agg [.lit (.int .u8 0), .lit (.int .u8 0)], .agg [.lit (.int .u8 0), .lit (.int .u8 0)], .agg [.lit (.int .u8 0), .lit (.int .u8 0)], .agg [.lit (.int .u8 0), .lit (.int .u8 0)], .agg [.lit (.int .u8 0), .lit (.int .u8 0)], .agg [.lit (.int .u8 0), .lit (.int .u8 0)]]
/-- One of Go's own tables, pinned by name: the form's constant. -/
def laid_unicode_utf8_first : DataW Unit := Go.Pinned.utf8First
def laid_handbill_handmake_fieldNames {H : Type} : DataW H := .agg [.lit (.string [97, 103, 101]), .lit (.string [99, 105, 116, 121]), .lit (.string [106, 111, 105, 110, 101, 100]), .lit (.string [110, 97, 109, 101]), .lit (.string [112, 108, 97, 110]), .lit (.string [118, 105, 112])]
def laid_handbill_handmake_idPool {H : Type} : DataW H := .agg [.agg [.lit (.int .i64 1), .lit (.string [97, 64, 98, 46, 100, 101])], .agg [.lit (.int .i64 1), .lit (.string [97, 110, 110, 46, 98, 64, 120, 45, 121, 46, 111, 114, 103])], .agg [.lit (.int .i64 1), .lit (.string [98, 111, 98, 95, 49, 64, 98, 46, 100, 101])], .agg [.lit (.int .i64 1), .lit (.string [122, 45, 64, 48, 46, 97])], .agg [.lit (.int .i64 2), .lit (.string [43, 52, 57, 51, 48, 49, 50, 51, 52, 53, 54])], .agg [.lit (.int .i64 2), .lit (.string [43, 49, 53, 53, 53, 48, 48, 48, 49, 49, 49])], .agg [.lit (.int .i64 3), .lit (.string [65, 66, 49, 51])], .agg [.lit (.int .i64 3), .lit (.string [48, 48, 48, 48, 48, 48, 48, 48, 48, 48, 48, 48, 48, 48, 48, 48, 48, 48, 48, 48])], .agg [.lit (.int .i64 4), .lit (.string [48, 49, 50, 51, 52, 53, 54, 55, 56, 57, 97, 98, 99, 100, 101, 102, 48, 49, 50, 51, 52, 53, 54, 55, 56, 57, 97, 98, 99, 100, 101, 102])], .agg [.lit (.int .i64 4), .lit (.string [102, 102, 102, 102, 102, 102, 102, 102, 102, 102, 102, 102, 102, 102, 102, 102, 102, 102, 102, 102, 102, 102, 102, 102, 102, 102, 102, 102, 102, 102, 102, 102])]]

/-- 'handlaw2.StringQuotes': WHATEVER THE INPUT: true; the input reads as it did. -/
def stringQuotesSpec : ChangeSpec := { name := "stringQuotes", fn := fun _ => fun
  | [d1, d2] => { results := [.lit (.bool true)], args := [d1, d2] }
  | _ => none }
def stringQuotesRow : OpenClaim := { program := "ytikgmhplgbdmjaadoor", sum := "f41162c133b57ffd50d670b5d705cd686992ac9b4a318279ed7e720522508564", func := "handbill/handlaw2.StringQuotes", spec := "stringQuotes", inPlace := ["internal/abi.NoEscape", "internal/bytealg.IndexByteString"], named := ["unicode/utf8.first", "unicode/utf8.acceptRanges"], apart := false, laid := [("unicode/utf8.acceptRanges", laid_unicode_utf8_acceptRanges), ("unicode/utf8.first", laid_unicode_utf8_first)] }
def StringQuotesSaid : Prop := stringQuotesRow.holds Tryd.pinned (OpenSpec.ofChange stringQuotesSpec)

/-- ITS FALSE NEIGHBOUR: 'it returns false'. Refute it at one input. -/
def stringQuotesWrong : ChangeSpec := { name := "stringQuotes", fn := fun _ => fun
  | [d1, d2] => { results := [.lit (.bool false)], args := [d1, d2] }
  | _ => none }
def StringQuotesWrongFalsely : Prop := stringQuotesRow.holds Tryd.pinned (OpenSpec.ofChange stringQuotesWrong)

/-- 'handlaw2.StringDistances': WHATEVER THE INPUT: true; the input reads as it did. -/
def stringDistancesSpec : ChangeSpec := { name := "stringDistances", fn := fun _ => fun
  | [d] => { results := [.lit (.bool true)], args := [d] }
  | _ => none }
def stringDistancesRow : OpenClaim := { program := "ytikgmhplgbdmjaadoor", sum := "f41162c133b57ffd50d670b5d705cd686992ac9b4a318279ed7e720522508564", func := "handbill/handlaw2.StringDistances", spec := "stringDistances", inPlace := ["internal/abi.NoEscape", "internal/bytealg.MakeNoZero"], named := ["unicode/utf8.first", "unicode/utf8.acceptRanges"], apart := false, laid := [("unicode/utf8.acceptRanges", laid_unicode_utf8_acceptRanges), ("unicode/utf8.first", laid_unicode_utf8_first)] }
def StringDistancesSaid : Prop := stringDistancesRow.holds Tryd.pinned (OpenSpec.ofChange stringDistancesSpec)

/-- ITS FALSE NEIGHBOUR: 'it returns false'. Refute it at one input. -/
def stringDistancesWrong : ChangeSpec := { name := "stringDistances", fn := fun _ => fun
  | [d] => { results := [.lit (.bool false)], args := [d] }
  | _ => none }
def StringDistancesWrongFalsely : Prop := stringDistancesRow.holds Tryd.pinned (OpenSpec.ofChange stringDistancesWrong)

/-- 'handlaw2.PoolRooms': WHATEVER THE INPUT: true; the input reads as it did. -/
def poolRoomsSpec : ChangeSpec := { name := "poolRooms", fn := fun _ => fun
  | [d] => { results := [.lit (.bool true)], args := [d] }
  | _ => none }
def poolRoomsRow : OpenClaim := { program := "ytikgmhplgbdmjaadoor", sum := "f41162c133b57ffd50d670b5d705cd686992ac9b4a318279ed7e720522508564", func := "handbill/handlaw2.PoolRooms", spec := "poolRooms", inPlace := ["internal/bytealg.IndexByteString", "internal/bytealg.IndexString"], unfollowed := true, recurses := true, named := ["unicode/utf8.first", "unicode/utf8.acceptRanges", "internal/bytealg.MaxLen"], apart := false, laid := [("unicode/utf8.acceptRanges", laid_unicode_utf8_acceptRanges), ("unicode/utf8.first", laid_unicode_utf8_first)] }
def PoolRoomsSaid : Prop := poolRoomsRow.holds Tryd.pinned (OpenSpec.ofChange poolRoomsSpec)

/-- ITS FALSE NEIGHBOUR: 'it returns false'. Refute it at one input. -/
def poolRoomsWrong : ChangeSpec := { name := "poolRooms", fn := fun _ => fun
  | [d] => { results := [.lit (.bool false)], args := [d] }
  | _ => none }
def PoolRoomsWrongFalsely : Prop := poolRoomsRow.holds Tryd.pinned (OpenSpec.ofChange poolRoomsWrong)

/-- 'handlaw2.QuietTimes': WHATEVER THE INPUT: true; the input reads as it did. -/
def quietTimesSpec : ChangeSpec := { name := "quietTimes", fn := fun _ => fun
  | [d] => { results := [.lit (.bool true)], args := [d] }
  | _ => none }
def quietTimesRow : OpenClaim := { program := "ytikgmhplgbdmjaadoor", sum := "f41162c133b57ffd50d670b5d705cd686992ac9b4a318279ed7e720522508564", func := "handbill/handlaw2.QuietTimes", spec := "quietTimes", inPlace := ["internal/bytealg.IndexByteString", "internal/bytealg.IndexString"], unfollowed := true, recurses := true, named := ["unicode/utf8.first", "unicode/utf8.acceptRanges", "internal/bytealg.MaxLen"], apart := false, laid := [("unicode/utf8.acceptRanges", laid_unicode_utf8_acceptRanges), ("unicode/utf8.first", laid_unicode_utf8_first)] }
def QuietTimesSaid : Prop := quietTimesRow.holds Tryd.pinned (OpenSpec.ofChange quietTimesSpec)

/-- ITS FALSE NEIGHBOUR: 'it returns false'. Refute it at one input. -/
def quietTimesWrong : ChangeSpec := { name := "quietTimes", fn := fun _ => fun
  | [d] => { results := [.lit (.bool false)], args := [d] }
  | _ => none }
def QuietTimesWrongFalsely : Prop := quietTimesRow.holds Tryd.pinned (OpenSpec.ofChange quietTimesWrong)

/-- 'handlaw2.FieldChecks': WHATEVER THE INPUT: true; the input reads as it did. -/
def fieldChecksSpec : ChangeSpec := { name := "fieldChecks", fn := fun _ => fun
  | [d] => { results := [.lit (.bool true)], args := [d] }
  | _ => none }
def fieldChecksRow : OpenClaim := { program := "ytikgmhplgbdmjaadoor", sum := "f41162c133b57ffd50d670b5d705cd686992ac9b4a318279ed7e720522508564", func := "handbill/handlaw2.FieldChecks", spec := "fieldChecks", inPlace := ["internal/abi.NoEscape", "internal/bytealg.MakeNoZero", "internal/bytealg.IndexByteString", "internal/bytealg.IndexString"], unfollowed := true, recurses := true, named := ["handbill/handmake.fieldNames", "unicode/utf8.first", "unicode/utf8.acceptRanges", "internal/bytealg.MaxLen"], apart := false, laid := [("unicode/utf8.acceptRanges", laid_unicode_utf8_acceptRanges), ("handbill/handmake.fieldNames", laid_handbill_handmake_fieldNames), ("unicode/utf8.first", laid_unicode_utf8_first)] }
def FieldChecksSaid : Prop := fieldChecksRow.holds Tryd.pinned (OpenSpec.ofChange fieldChecksSpec)

/-- ITS FALSE NEIGHBOUR: 'it returns false'. Refute it at one input. -/
def fieldChecksWrong : ChangeSpec := { name := "fieldChecks", fn := fun _ => fun
  | [d] => { results := [.lit (.bool false)], args := [d] }
  | _ => none }
def FieldChecksWrongFalsely : Prop := fieldChecksRow.holds Tryd.pinned (OpenSpec.ofChange fieldChecksWrong)

/-- 'handlaw2.DoubleMeasures': WHATEVER THE INPUT: true; the input reads as it did. -/
def doubleMeasuresSpec : ChangeSpec := { name := "doubleMeasures", fn := fun _ => fun
  | [d] => { results := [.lit (.bool true)], args := [d] }
  | _ => none }
def doubleMeasuresRow : OpenClaim := { program := "ytikgmhplgbdmjaadoor", sum := "f41162c133b57ffd50d670b5d705cd686992ac9b4a318279ed7e720522508564", func := "handbill/handlaw2.DoubleMeasures", spec := "doubleMeasures", inPlace := ["internal/abi.NoEscape", "internal/bytealg.MakeNoZero", "internal/bytealg.IndexByteString", "internal/bytealg.IndexString"], unfollowed := true, recurses := true, named := ["handbill/handmake.fieldNames", "unicode/utf8.first", "unicode/utf8.acceptRanges", "internal/bytealg.MaxLen"], apart := false, laid := [("unicode/utf8.acceptRanges", laid_unicode_utf8_acceptRanges), ("handbill/handmake.fieldNames", laid_handbill_handmake_fieldNames), ("unicode/utf8.first", laid_unicode_utf8_first)] }
def DoubleMeasuresSaid : Prop := doubleMeasuresRow.holds Tryd.pinned (OpenSpec.ofChange doubleMeasuresSpec)

/-- ITS FALSE NEIGHBOUR: 'it returns false'. Refute it at one input. -/
def doubleMeasuresWrong : ChangeSpec := { name := "doubleMeasures", fn := fun _ => fun
  | [d] => { results := [.lit (.bool false)], args := [d] }
  | _ => none }
def DoubleMeasuresWrongFalsely : Prop := doubleMeasuresRow.holds Tryd.pinned (OpenSpec.ofChange doubleMeasuresWrong)

/-- 'handlaw2.IdChecks': WHATEVER THE INPUT: true; the input reads as it did. -/
def idChecksSpec : ChangeSpec := { name := "idChecks", fn := fun _ => fun
  | [d] => { results := [.lit (.bool true)], args := [d] }
  | _ => none }
def idChecksRow : OpenClaim := { program := "ytikgmhplgbdmjaadoor", sum := "f41162c133b57ffd50d670b5d705cd686992ac9b4a318279ed7e720522508564", func := "handbill/handlaw2.IdChecks", spec := "idChecks", inPlace := ["internal/abi.NoEscape", "internal/bytealg.MakeNoZero", "internal/bytealg.IndexByteString", "internal/bytealg.IndexString", "internal/bytealg.CountString"], unfollowed := true, recurses := true, named := ["handbill/handmake.idPool", "internal/bytealg.MaxLen", "unicode/utf8.first", "unicode/utf8.acceptRanges"], apart := false, laid := [("unicode/utf8.acceptRanges", laid_unicode_utf8_acceptRanges), ("handbill/handmake.idPool", laid_handbill_handmake_idPool), ("unicode/utf8.first", laid_unicode_utf8_first)] }
def IdChecksSaid : Prop := idChecksRow.holds Tryd.pinned (OpenSpec.ofChange idChecksSpec)

/-- ITS FALSE NEIGHBOUR: 'it returns false'. Refute it at one input. -/
def idChecksWrong : ChangeSpec := { name := "idChecks", fn := fun _ => fun
  | [d] => { results := [.lit (.bool false)], args := [d] }
  | _ => none }
def IdChecksWrongFalsely : Prop := idChecksRow.holds Tryd.pinned (OpenSpec.ofChange idChecksWrong)

/-- 'handlaw2.IdNormals': WHATEVER THE INPUT: true; the input reads as it did. -/
def idNormalsSpec : ChangeSpec := { name := "idNormals", fn := fun _ => fun
  | [d] => { results := [.lit (.bool true)], args := [d] }
  | _ => none }
def idNormalsRow : OpenClaim := { program := "ytikgmhplgbdmjaadoor", sum := "f41162c133b57ffd50d670b5d705cd686992ac9b4a318279ed7e720522508564", func := "handbill/handlaw2.IdNormals", spec := "idNormals", inPlace := ["internal/abi.NoEscape", "internal/bytealg.MakeNoZero", "internal/bytealg.IndexByteString", "internal/bytealg.IndexString", "internal/bytealg.CountString"], unfollowed := true, recurses := true, named := ["unicode/utf8.first", "unicode/utf8.acceptRanges", "internal/bytealg.MaxLen"], apart := false, laid := [("unicode/utf8.acceptRanges", laid_unicode_utf8_acceptRanges), ("unicode/utf8.first", laid_unicode_utf8_first)] }
def IdNormalsSaid : Prop := idNormalsRow.holds Tryd.pinned (OpenSpec.ofChange idNormalsSpec)

/-- ITS FALSE NEIGHBOUR: 'it returns false'. Refute it at one input. -/
def idNormalsWrong : ChangeSpec := { name := "idNormals", fn := fun _ => fun
  | [d] => { results := [.lit (.bool false)], args := [d] }
  | _ => none }
def IdNormalsWrongFalsely : Prop := idNormalsRow.holds Tryd.pinned (OpenSpec.ofChange idNormalsWrong)

/- THE SECOND FORM. 'bulk': how many values and letters a reading holds, each counted each time it is reached (what is shared counts as often as it is met; a slice's spare places count too). A statement '..UptoSaid' is the law's where the arguments, and the package variables that the reading takes, are together of bulk at most 1048576: NARROWER than '..Said'. Prove '..Said' where nothing that the law and all that it calls make is longer than what came in: it says more and counts as full. Else prove '..UptoSaid'. A law counts once. -/
mutual
def uptoBulk {H : Type} : DataW H → Nat
  | .lit (.string bytes) => bytes.length + 1
  | .lit _ => 1
  | .nil => 1
  | .ptr d => uptoBulk d + 1
  | .slice elems spare => uptoBulkAll elems + uptoBulkAll spare + 1
  | .agg parts => uptoBulkAll parts + 1
  | .iface _ d => uptoBulk d + 1
  | .map entries => uptoBulkEntries entries + 1
  | .held _ => 1
def uptoBulkAll {H : Type} : List (DataW H) → Nat
  | [] => 0
  | d :: r => uptoBulk d + uptoBulkAll r
def uptoBulkEntries {H : Type} : List (Lit × DataW H) → Nat
  | [] => 0
  | x :: r => uptoBulkEntry x + uptoBulkEntries r
def uptoBulkEntry {H : Type} : Lit × DataW H → Nat
  | (.string bytes, d) => bytes.length + uptoBulk d + 1
  | (_, d) => uptoBulk d + 1
 end
def uptoSmall : (H : Type) → List (DataW H) → Bool := fun _ ds => decide (uptoBulkAll ds ≤ 1048576)
def OpenSpec.upto (s : _root_.Go.ChangeSpec) : _root_.Go.OpenSpec := { _root_.Go.OpenSpec.ofChange s with cond := some uptoSmall }

/-- 'handlaw2.StringQuotes', WHERE WHAT IT READS IS OF BULK AT MOST 1048576: true; the input reads as it did. -/
def stringQuotesUptoRow : OpenClaim := { program := "ytikgmhplgbdmjaadoor", sum := "f41162c133b57ffd50d670b5d705cd686992ac9b4a318279ed7e720522508564", func := "handbill/handlaw2.StringQuotes", spec := "stringQuotes", inPlace := ["internal/abi.NoEscape", "internal/bytealg.IndexByteString"], named := ["unicode/utf8.first", "unicode/utf8.acceptRanges"], apart := false, laid := [("unicode/utf8.acceptRanges", laid_unicode_utf8_acceptRanges), ("unicode/utf8.first", laid_unicode_utf8_first)], narrowed := true }
def StringQuotesUptoSaid : Prop := stringQuotesUptoRow.holds Tryd.pinned (OpenSpec.upto stringQuotesSpec)

/-- 'handlaw2.StringDistances', WHERE WHAT IT READS IS OF BULK AT MOST 1048576: true; the input reads as it did. -/
def stringDistancesUptoRow : OpenClaim := { program := "ytikgmhplgbdmjaadoor", sum := "f41162c133b57ffd50d670b5d705cd686992ac9b4a318279ed7e720522508564", func := "handbill/handlaw2.StringDistances", spec := "stringDistances", inPlace := ["internal/abi.NoEscape", "internal/bytealg.MakeNoZero"], named := ["unicode/utf8.first", "unicode/utf8.acceptRanges"], apart := false, laid := [("unicode/utf8.acceptRanges", laid_unicode_utf8_acceptRanges), ("unicode/utf8.first", laid_unicode_utf8_first)], narrowed := true }
def StringDistancesUptoSaid : Prop := stringDistancesUptoRow.holds Tryd.pinned (OpenSpec.upto stringDistancesSpec)

/-- 'handlaw2.PoolRooms', WHERE WHAT IT READS IS OF BULK AT MOST 1048576: true; the input reads as it did. -/
def poolRoomsUptoRow : OpenClaim := { program := "ytikgmhplgbdmjaadoor", sum := "f41162c133b57ffd50d670b5d705cd686992ac9b4a318279ed7e720522508564", func := "handbill/handlaw2.PoolRooms", spec := "poolRooms", inPlace := ["internal/bytealg.IndexByteString", "internal/bytealg.IndexString"], unfollowed := true, recurses := true, named := ["unicode/utf8.first", "unicode/utf8.acceptRanges", "internal/bytealg.MaxLen"], apart := false, laid := [("unicode/utf8.acceptRanges", laid_unicode_utf8_acceptRanges), ("unicode/utf8.first", laid_unicode_utf8_first)], narrowed := true }
def PoolRoomsUptoSaid : Prop := poolRoomsUptoRow.holds Tryd.pinned (OpenSpec.upto poolRoomsSpec)

/-- 'handlaw2.QuietTimes', WHERE WHAT IT READS IS OF BULK AT MOST 1048576: true; the input reads as it did. -/
def quietTimesUptoRow : OpenClaim := { program := "ytikgmhplgbdmjaadoor", sum := "f41162c133b57ffd50d670b5d705cd686992ac9b4a318279ed7e720522508564", func := "handbill/handlaw2.QuietTimes", spec := "quietTimes", inPlace := ["internal/bytealg.IndexByteString", "internal/bytealg.IndexString"], unfollowed := true, recurses := true, named := ["unicode/utf8.first", "unicode/utf8.acceptRanges", "internal/bytealg.MaxLen"], apart := false, laid := [("unicode/utf8.acceptRanges", laid_unicode_utf8_acceptRanges), ("unicode/utf8.first", laid_unicode_utf8_first)], narrowed := true }
def QuietTimesUptoSaid : Prop := quietTimesUptoRow.holds Tryd.pinned (OpenSpec.upto quietTimesSpec)

/-- 'handlaw2.FieldChecks', WHERE WHAT IT READS IS OF BULK AT MOST 1048576: true; the input reads as it did. -/
def fieldChecksUptoRow : OpenClaim := { program := "ytikgmhplgbdmjaadoor", sum := "f41162c133b57ffd50d670b5d705cd686992ac9b4a318279ed7e720522508564", func := "handbill/handlaw2.FieldChecks", spec := "fieldChecks", inPlace := ["internal/abi.NoEscape", "internal/bytealg.MakeNoZero", "internal/bytealg.IndexByteString", "internal/bytealg.IndexString"], unfollowed := true, recurses := true, named := ["handbill/handmake.fieldNames", "unicode/utf8.first", "unicode/utf8.acceptRanges", "internal/bytealg.MaxLen"], apart := false, laid := [("unicode/utf8.acceptRanges", laid_unicode_utf8_acceptRanges), ("handbill/handmake.fieldNames", laid_handbill_handmake_fieldNames), ("unicode/utf8.first", laid_unicode_utf8_first)], narrowed := true }
def FieldChecksUptoSaid : Prop := fieldChecksUptoRow.holds Tryd.pinned (OpenSpec.upto fieldChecksSpec)

/-- 'handlaw2.DoubleMeasures', WHERE WHAT IT READS IS OF BULK AT MOST 1048576: true; the input reads as it did. -/
def doubleMeasuresUptoRow : OpenClaim := { program := "ytikgmhplgbdmjaadoor", sum := "f41162c133b57ffd50d670b5d705cd686992ac9b4a318279ed7e720522508564", func := "handbill/handlaw2.DoubleMeasures", spec := "doubleMeasures", inPlace := ["internal/abi.NoEscape", "internal/bytealg.MakeNoZero", "internal/bytealg.IndexByteString", "internal/bytealg.IndexString"], unfollowed := true, recurses := true, named := ["handbill/handmake.fieldNames", "unicode/utf8.first", "unicode/utf8.acceptRanges", "internal/bytealg.MaxLen"], apart := false, laid := [("unicode/utf8.acceptRanges", laid_unicode_utf8_acceptRanges), ("handbill/handmake.fieldNames", laid_handbill_handmake_fieldNames), ("unicode/utf8.first", laid_unicode_utf8_first)], narrowed := true }
def DoubleMeasuresUptoSaid : Prop := doubleMeasuresUptoRow.holds Tryd.pinned (OpenSpec.upto doubleMeasuresSpec)

/-- 'handlaw2.IdChecks', WHERE WHAT IT READS IS OF BULK AT MOST 1048576: true; the input reads as it did. -/
def idChecksUptoRow : OpenClaim := { program := "ytikgmhplgbdmjaadoor", sum := "f41162c133b57ffd50d670b5d705cd686992ac9b4a318279ed7e720522508564", func := "handbill/handlaw2.IdChecks", spec := "idChecks", inPlace := ["internal/abi.NoEscape", "internal/bytealg.MakeNoZero", "internal/bytealg.IndexByteString", "internal/bytealg.IndexString", "internal/bytealg.CountString"], unfollowed := true, recurses := true, named := ["handbill/handmake.idPool", "internal/bytealg.MaxLen", "unicode/utf8.first", "unicode/utf8.acceptRanges"], apart := false, laid := [("unicode/utf8.acceptRanges", laid_unicode_utf8_acceptRanges), ("handbill/handmake.idPool", laid_handbill_handmake_idPool), ("unicode/utf8.first", laid_unicode_utf8_first)], narrowed := true }
def IdChecksUptoSaid : Prop := idChecksUptoRow.holds Tryd.pinned (OpenSpec.upto idChecksSpec)

/-- 'handlaw2.IdNormals', WHERE WHAT IT READS IS OF BULK AT MOST 1048576: true; the input reads as it did. -/
def idNormalsUptoRow : OpenClaim := { program := "ytikgmhplgbdmjaadoor", sum := "f41162c133b57ffd50d670b5d705cd686992ac9b4a318279ed7e720522508564", func := "handbill/handlaw2.IdNormals", spec := "idNormals", inPlace := ["internal/abi.NoEscape", "internal/bytealg.MakeNoZero", "internal/bytealg.IndexByteString", "internal/bytealg.IndexString", "internal/bytealg.CountString"], unfollowed := true, recurses := true, named := ["unicode/utf8.first", "unicode/utf8.acceptRanges", "internal/bytealg.MaxLen"], apart := false, laid := [("unicode/utf8.acceptRanges", laid_unicode_utf8_acceptRanges), ("unicode/utf8.first", laid_unicode_utf8_first)], narrowed := true }
def IdNormalsUptoSaid : Prop := idNormalsUptoRow.holds Tryd.pinned (OpenSpec.upto idNormalsSpec)

end Rows
end Go.Proofs.YtikgmhplgbdmjaaDoor
