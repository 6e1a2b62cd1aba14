/-
  NARROWER THAN 'FOR EVERY INPUT', by the rows' own cells (each row's printed sentence says how): ZoneClocks: laid · ZoneStarts: laid · SchemaChecks: laid · StatementChecks: laid · ConsentAsks: laid · PolicyChecks: laid.
  DERIVED. THE GIVEN ROWS OF THIS SEAT. 6 by the template 'for every input the law returns true; each argument reads behind the call as it read before'; 0 by the template 'total and deterministic' (their statements: YtlaplgpnbbmbgaaGreatDoorTotals.lean).
  GIVEN WITH THE SEED: the statements are not yours to turn. If you find one false, say at which input.
  Laid BY PROGRAM, IN A SANDBOX (cutbox-rows.mjs): the forced cells as the released guide's own fill.sh prints them over the translation 12c08a16194e77d9… (all of the seat's roots in one cut). By AI agents, Wed Nov 11 2026. No macro, syntax, notation, axiom, sorry.
-/
import Derived.Test.YtlaplgpnbbmbgaaGreatDoorChecked
import GoSem.PinnedTables
import GoSem.Claim
import GoSem.ClaimJoined
import GoSem.ClaimMapViews
import Derived.JoinedTies
import Derived.KernelRfl
namespace Go.Proofs.YtlaplgpnbbmbgaaGreatDoor
/- THE CELL 'sum', in the pinned program and in every row, IS THE sha256 OF THE DUMP (.gsa) THAT YtlaplgpnbbmbgaaGreatDoorProg.lean LOADS. Nothing in Lean hashes anything: it is a label: what it is worth is what the hold of that sum in a sandbox is worth. -/
noncomputable def Tryz.pinned : Pinned := { name := "ytlaplgpnbbmbgaagreatdoor", sum := "12c08a16194e77d99beed64226512faf79299e7fe94c4318f0770c919c442110", checked := Tryz.checked }
namespace Rows
def none {H : Type} : Left H := { results := [], args := [] }

/- WHAT THE LISTED PACKAGE-LEVEL VARIABLES READ AS WHEN THE CALL BEGINS. Each datum BY PROGRAM (the guide's laid-datum.mjs) off the statement by which the dump's own 'gosem.cut.vars' lays the variable. In a bare row this is a premise. The card (YtlaplgpnbbmbgaaGreatDoorCards.lean) ties it to the program's text. -/
def laid_unicode_utf8_acceptRanges {H : Type} : DataW H := .agg [.agg [.lit (.int .u8 128), .lit (.int .u8 191)], .agg [.lit (.int .u8 160), .lit (.int .u8 191)], .agg [.lit (.int .u8 128), .lit (.int .u8 159)], .agg [.lit (.int .u8 144), .lit (.int .u8 191)], .agg [.lit (.int .u8 128), .lit (.int .u8 143)], .agg [.lit (.int .u8 0), .lit (.int .u8 0)], .agg [.lit (.int .u8 0), .lit (.int .u8 0)], .agg [.lit (.int .u8 0), .lit (.int .u8 0)], .agg [.lit (.int .u8 0), .lit (.int .u8 0)], .agg [.lit (.int .u8 0), .lit (.int .u8 0)], .agg [.lit (.int .u8 0), .lit (.int .u8 0)], .agg [.lit (.int .u8 0), .lit (.int .u8 0)], .agg [.lit (.int .u8 0), .lit (.int .u8 0)], .agg [.lit (.int .u8 0), .lit (.int .u8 0)], .agg [.lit (.int .u8 0), .lit (.int .u8 0)], .agg [.lit (.int .u8 0), .lit (.int .u8 0)]]
/-- One of Go's own tables, pinned by name: the form's constant. -/
def laid_unicode_utf8_first : DataW Unit := Go.Pinned.utf8First
def laid_handbill_handmake_eventNames {H : Type} : DataW H := .agg [.lit (.string [98, 117, 121]), .lit (.string [111, 112, 101, 110]), .lit (.string [113, 117, 105, 116]), .lit (.string [118, 105, 101, 119])]
def laid_handbill_handmake_idPool {H : Type} : DataW H := .agg [.agg [.lit (.int .i64 1), .lit (.string [97, 64, 98, 46, 100, 101])], .agg [.lit (.int .i64 1), .lit (.string [97, 110, 110, 46, 98, 64, 120, 45, 121, 46, 111, 114, 103])], .agg [.lit (.int .i64 1), .lit (.string [98, 111, 98, 95, 49, 64, 98, 46, 100, 101])], .agg [.lit (.int .i64 1), .lit (.string [122, 45, 64, 48, 46, 97])], .agg [.lit (.int .i64 2), .lit (.string [43, 52, 57, 51, 48, 49, 50, 51, 52, 53, 54])], .agg [.lit (.int .i64 2), .lit (.string [43, 49, 53, 53, 53, 48, 48, 48, 49, 49, 49])], .agg [.lit (.int .i64 3), .lit (.string [65, 66, 49, 51])], .agg [.lit (.int .i64 3), .lit (.string [48, 48, 48, 48, 48, 48, 48, 48, 48, 48, 48, 48, 48, 48, 48, 48, 48, 48, 48, 48])], .agg [.lit (.int .i64 4), .lit (.string [48, 49, 50, 51, 52, 53, 54, 55, 56, 57, 97, 98, 99, 100, 101, 102, 48, 49, 50, 51, 52, 53, 54, 55, 56, 57, 97, 98, 99, 100, 101, 102])], .agg [.lit (.int .i64 4), .lit (.string [102, 102, 102, 102, 102, 102, 102, 102, 102, 102, 102, 102, 102, 102, 102, 102, 102, 102, 102, 102, 102, 102, 102, 102, 102, 102, 102, 102, 102, 102, 102, 102])]]
def laid_handbill_handmake_fieldNames {H : Type} : DataW H := .agg [.lit (.string [97, 103, 101]), .lit (.string [99, 105, 116, 121]), .lit (.string [106, 111, 105, 110, 101, 100]), .lit (.string [110, 97, 109, 101]), .lit (.string [112, 108, 97, 110]), .lit (.string [118, 105, 112])]

/-- 'handlaw2.ZoneClocks': WHATEVER THE INPUT: true; the input reads as it did. -/
def zoneClocksSpec : ChangeSpec := { name := "zoneClocks", fn := fun _ => fun
  | [d] => { results := [.lit (.bool true)], args := [d] }
  | _ => none }
def zoneClocksRow : OpenClaim := { program := "ytlaplgpnbbmbgaagreatdoor", sum := "12c08a16194e77d99beed64226512faf79299e7fe94c4318f0770c919c442110", func := "handbill/handlaw2.ZoneClocks", spec := "zoneClocks", inPlace := ["internal/bytealg.IndexByteString", "internal/bytealg.IndexString", "internal/bytealg.CountString"], unfollowed := true, recurses := true, named := ["unicode/utf8.first", "unicode/utf8.acceptRanges", "internal/bytealg.MaxLen"], apart := false, laid := [("unicode/utf8.acceptRanges", laid_unicode_utf8_acceptRanges), ("unicode/utf8.first", laid_unicode_utf8_first)] }
def ZoneClocksSaid : Prop := zoneClocksRow.holds Tryz.pinned (OpenSpec.ofChange zoneClocksSpec)

/-- ITS FALSE NEIGHBOUR: 'it returns false'. Refute it at one input. -/
def zoneClocksWrong : ChangeSpec := { name := "zoneClocks", fn := fun _ => fun
  | [d] => { results := [.lit (.bool false)], args := [d] }
  | _ => none }
def ZoneClocksWrongFalsely : Prop := zoneClocksRow.holds Tryz.pinned (OpenSpec.ofChange zoneClocksWrong)

/-- 'handlaw2.ZoneStarts': WHATEVER THE INPUT: true; the input reads as it did. -/
def zoneStartsSpec : ChangeSpec := { name := "zoneStarts", fn := fun _ => fun
  | [d] => { results := [.lit (.bool true)], args := [d] }
  | _ => none }
def zoneStartsRow : OpenClaim := { program := "ytlaplgpnbbmbgaagreatdoor", sum := "12c08a16194e77d99beed64226512faf79299e7fe94c4318f0770c919c442110", func := "handbill/handlaw2.ZoneStarts", spec := "zoneStarts", inPlace := ["internal/bytealg.IndexByteString", "internal/bytealg.IndexString", "internal/bytealg.CountString"], unfollowed := true, recurses := true, named := ["unicode/utf8.first", "unicode/utf8.acceptRanges", "internal/bytealg.MaxLen"], apart := false, laid := [("unicode/utf8.acceptRanges", laid_unicode_utf8_acceptRanges), ("unicode/utf8.first", laid_unicode_utf8_first)] }
def ZoneStartsSaid : Prop := zoneStartsRow.holds Tryz.pinned (OpenSpec.ofChange zoneStartsSpec)

/-- ITS FALSE NEIGHBOUR: 'it returns false'. Refute it at one input. -/
def zoneStartsWrong : ChangeSpec := { name := "zoneStarts", fn := fun _ => fun
  | [d] => { results := [.lit (.bool false)], args := [d] }
  | _ => none }
def ZoneStartsWrongFalsely : Prop := zoneStartsRow.holds Tryz.pinned (OpenSpec.ofChange zoneStartsWrong)

/-- 'handlaw2.SchemaChecks': WHATEVER THE INPUT: true; the input reads as it did. -/
def schemaChecksSpec : ChangeSpec := { name := "schemaChecks", fn := fun _ => fun
  | [d] => { results := [.lit (.bool true)], args := [d] }
  | _ => none }
def schemaChecksRow : OpenClaim := { program := "ytlaplgpnbbmbgaagreatdoor", sum := "12c08a16194e77d99beed64226512faf79299e7fe94c4318f0770c919c442110", func := "handbill/handlaw2.SchemaChecks", spec := "schemaChecks", inPlace := ["internal/abi.NoEscape", "internal/bytealg.MakeNoZero", "internal/bytealg.IndexByteString", "internal/bytealg.IndexString", "internal/bytealg.CountString"], unfollowed := true, recurses := true, named := ["handbill/handmake.eventNames", "handbill/handmake.fieldNames", "handbill/handmake.idPool", "unicode/utf8.first", "unicode/utf8.acceptRanges", "internal/bytealg.MaxLen"], apart := false, laid := [("unicode/utf8.acceptRanges", laid_unicode_utf8_acceptRanges), ("handbill/handmake.eventNames", laid_handbill_handmake_eventNames), ("handbill/handmake.idPool", laid_handbill_handmake_idPool), ("handbill/handmake.fieldNames", laid_handbill_handmake_fieldNames), ("unicode/utf8.first", laid_unicode_utf8_first)] }
def SchemaChecksSaid : Prop := schemaChecksRow.holds Tryz.pinned (OpenSpec.ofChange schemaChecksSpec)

/-- ITS FALSE NEIGHBOUR: 'it returns false'. Refute it at one input. -/
def schemaChecksWrong : ChangeSpec := { name := "schemaChecks", fn := fun _ => fun
  | [d] => { results := [.lit (.bool false)], args := [d] }
  | _ => none }
def SchemaChecksWrongFalsely : Prop := schemaChecksRow.holds Tryz.pinned (OpenSpec.ofChange schemaChecksWrong)

/-- 'handlaw2.StatementChecks': WHATEVER THE INPUT: true; the input reads as it did. -/
def statementChecksSpec : ChangeSpec := { name := "statementChecks", fn := fun _ => fun
  | [d] => { results := [.lit (.bool true)], args := [d] }
  | _ => none }
def statementChecksRow : OpenClaim := { program := "ytlaplgpnbbmbgaagreatdoor", sum := "12c08a16194e77d99beed64226512faf79299e7fe94c4318f0770c919c442110", func := "handbill/handlaw2.StatementChecks", spec := "statementChecks", inPlace := ["internal/abi.NoEscape", "internal/bytealg.MakeNoZero", "internal/bytealg.IndexByteString", "internal/bytealg.IndexString", "internal/bytealg.CountString"], unfollowed := true, recurses := true, named := ["handbill/handmake.idPool", "internal/bytealg.MaxLen", "unicode/utf8.first", "unicode/utf8.acceptRanges"], apart := false, laid := [("unicode/utf8.acceptRanges", laid_unicode_utf8_acceptRanges), ("handbill/handmake.idPool", laid_handbill_handmake_idPool), ("unicode/utf8.first", laid_unicode_utf8_first)] }
def StatementChecksSaid : Prop := statementChecksRow.holds Tryz.pinned (OpenSpec.ofChange statementChecksSpec)

/-- ITS FALSE NEIGHBOUR: 'it returns false'. Refute it at one input. -/
def statementChecksWrong : ChangeSpec := { name := "statementChecks", fn := fun _ => fun
  | [d] => { results := [.lit (.bool false)], args := [d] }
  | _ => none }
def StatementChecksWrongFalsely : Prop := statementChecksRow.holds Tryz.pinned (OpenSpec.ofChange statementChecksWrong)

/-- 'handlaw2.ConsentAsks': WHATEVER THE INPUT: true; the input reads as it did. -/
def consentAsksSpec : ChangeSpec := { name := "consentAsks", fn := fun _ => fun
  | [d] => { results := [.lit (.bool true)], args := [d] }
  | _ => none }
def consentAsksRow : OpenClaim := { program := "ytlaplgpnbbmbgaagreatdoor", sum := "12c08a16194e77d99beed64226512faf79299e7fe94c4318f0770c919c442110", func := "handbill/handlaw2.ConsentAsks", spec := "consentAsks", inPlace := ["internal/abi.NoEscape", "internal/bytealg.MakeNoZero", "internal/bytealg.IndexByteString", "internal/bytealg.IndexString", "internal/bytealg.CountString"], unfollowed := true, recurses := true, named := ["handbill/handmake.idPool", "unicode/utf8.first", "unicode/utf8.acceptRanges", "internal/bytealg.MaxLen"], apart := false, laid := [("unicode/utf8.acceptRanges", laid_unicode_utf8_acceptRanges), ("handbill/handmake.idPool", laid_handbill_handmake_idPool), ("unicode/utf8.first", laid_unicode_utf8_first)] }
def ConsentAsksSaid : Prop := consentAsksRow.holds Tryz.pinned (OpenSpec.ofChange consentAsksSpec)

/-- ITS FALSE NEIGHBOUR: 'it returns false'. Refute it at one input. -/
def consentAsksWrong : ChangeSpec := { name := "consentAsks", fn := fun _ => fun
  | [d] => { results := [.lit (.bool false)], args := [d] }
  | _ => none }
def ConsentAsksWrongFalsely : Prop := consentAsksRow.holds Tryz.pinned (OpenSpec.ofChange consentAsksWrong)

/-- 'handlaw2.PolicyChecks': WHATEVER THE INPUT: true; the input reads as it did. -/
def policyChecksSpec : ChangeSpec := { name := "policyChecks", fn := fun _ => fun
  | [d] => { results := [.lit (.bool true)], args := [d] }
  | _ => none }
def policyChecksRow : OpenClaim := { program := "ytlaplgpnbbmbgaagreatdoor", sum := "12c08a16194e77d99beed64226512faf79299e7fe94c4318f0770c919c442110", func := "handbill/handlaw2.PolicyChecks", spec := "policyChecks", inPlace := ["internal/abi.NoEscape", "internal/bytealg.MakeNoZero", "internal/bytealg.IndexByteString", "internal/bytealg.IndexString", "internal/bytealg.CountString"], unfollowed := true, recurses := true, named := ["handbill/handmake.idPool", "unicode/utf8.first", "unicode/utf8.acceptRanges", "internal/bytealg.MaxLen"], apart := false, laid := [("unicode/utf8.acceptRanges", laid_unicode_utf8_acceptRanges), ("handbill/handmake.idPool", laid_handbill_handmake_idPool), ("unicode/utf8.first", laid_unicode_utf8_first)] }
def PolicyChecksSaid : Prop := policyChecksRow.holds Tryz.pinned (OpenSpec.ofChange policyChecksSpec)

/-- ITS FALSE NEIGHBOUR: 'it returns false'. Refute it at one input. -/
def policyChecksWrong : ChangeSpec := { name := "policyChecks", fn := fun _ => fun
  | [d] => { results := [.lit (.bool false)], args := [d] }
  | _ => none }
def PolicyChecksWrongFalsely : Prop := policyChecksRow.holds Tryz.pinned (OpenSpec.ofChange policyChecksWrong)

/- THE SECOND FORM. 'bulk': how many values and letters a reading holds, each counted each time it is reached (what is shared counts as often as it is met; a slice's spare places count too). A statement '..UptoSaid' is the law's where the arguments, and the package variables that the reading takes, are together of bulk at most 1048576: NARROWER than '..Said'. Prove '..Said' where nothing that the law and all that it calls make is longer than what came in: it says more and counts as full. Else prove '..UptoSaid'. A law counts once. -/
mutual
def uptoBulk {H : Type} : DataW H → Nat
  | .lit (.string bytes) => bytes.length + 1
  | .lit _ => 1
  | .nil => 1
  | .ptr d => uptoBulk d + 1
  | .slice elems spare => uptoBulkAll elems + uptoBulkAll spare + 1
  | .agg parts => uptoBulkAll parts + 1
  | .iface _ d => uptoBulk d + 1
  | .map entries => uptoBulkEntries entries + 1
  | .held _ => 1
def uptoBulkAll {H : Type} : List (DataW H) → Nat
  | [] => 0
  | d :: r => uptoBulk d + uptoBulkAll r
def uptoBulkEntries {H : Type} : List (Lit × DataW H) → Nat
  | [] => 0
  | x :: r => uptoBulkEntry x + uptoBulkEntries r
def uptoBulkEntry {H : Type} : Lit × DataW H → Nat
  | (.string bytes, d) => bytes.length + uptoBulk d + 1
  | (_, d) => uptoBulk d + 1
 end
def uptoSmall : (H : Type) → List (DataW H) → Bool := fun _ ds => decide (uptoBulkAll ds ≤ 1048576)
def OpenSpec.upto (s : _root_.Go.ChangeSpec) : _root_.Go.OpenSpec := { _root_.Go.OpenSpec.ofChange s with cond := some uptoSmall }

/-- 'handlaw2.ZoneClocks', WHERE WHAT IT READS IS OF BULK AT MOST 1048576: true; the input reads as it did. -/
def zoneClocksUptoRow : OpenClaim := { program := "ytlaplgpnbbmbgaagreatdoor", sum := "12c08a16194e77d99beed64226512faf79299e7fe94c4318f0770c919c442110", func := "handbill/handlaw2.ZoneClocks", spec := "zoneClocks", inPlace := ["internal/bytealg.IndexByteString", "internal/bytealg.IndexString", "internal/bytealg.CountString"], unfollowed := true, recurses := true, named := ["unicode/utf8.first", "unicode/utf8.acceptRanges", "internal/bytealg.MaxLen"], apart := false, laid := [("unicode/utf8.acceptRanges", laid_unicode_utf8_acceptRanges), ("unicode/utf8.first", laid_unicode_utf8_first)], narrowed := true }
def ZoneClocksUptoSaid : Prop := zoneClocksUptoRow.holds Tryz.pinned (OpenSpec.upto zoneClocksSpec)

/-- 'handlaw2.ZoneStarts', WHERE WHAT IT READS IS OF BULK AT MOST 1048576: true; the input reads as it did. -/
def zoneStartsUptoRow : OpenClaim := { program := "ytlaplgpnbbmbgaagreatdoor", sum := "12c08a16194e77d99beed64226512faf79299e7fe94c4318f0770c919c442110", func := "handbill/handlaw2.ZoneStarts", spec := "zoneStarts", inPlace := ["internal/bytealg.IndexByteString", "internal/bytealg.IndexString", "internal/bytealg.CountString"], unfollowed := true, recurses := true, named := ["unicode/utf8.first", "unicode/utf8.acceptRanges", "internal/bytealg.MaxLen"], apart := false, laid := [("unicode/utf8.acceptRanges", laid_unicode_utf8_acceptRanges), ("unicode/utf8.first", laid_unicode_utf8_first)], narrowed := true }
def ZoneStartsUptoSaid : Prop := zoneStartsUptoRow.holds Tryz.pinned (OpenSpec.upto zoneStartsSpec)

/-- 'handlaw2.SchemaChecks', WHERE WHAT IT READS IS OF BULK AT MOST 1048576: true; the input reads as it did. -/
def schemaChecksUptoRow : OpenClaim := { program := "ytlaplgpnbbmbgaagreatdoor", sum := "12c08a16194e77d99beed64226512faf79299e7fe94c4318f0770c919c442110", func := "handbill/handlaw2.SchemaChecks", spec := "schemaChecks", inPlace := ["internal/abi.NoEscape", "internal/bytealg.MakeNoZero", "internal/bytealg.IndexByteString", "internal/bytealg.IndexString", "internal/bytealg.CountString"], unfollowed := true, recurses := true, named := ["handbill/handmake.eventNames", "handbill/handmake.fieldNames", "handbill/handmake.idPool", "unicode/utf8.first", "unicode/utf8.acceptRanges", "internal/bytealg.MaxLen"], apart := false, laid := [("unicode/utf8.acceptRanges", laid_unicode_utf8_acceptRanges), ("handbill/handmake.eventNames", laid_handbill_handmake_eventNames), ("handbill/handmake.idPool", laid_handbill_handmake_idPool), ("handbill/handmake.fieldNames", laid_handbill_handmake_fieldNames), ("unicode/utf8.first", laid_unicode_utf8_first)], narrowed := true }
def SchemaChecksUptoSaid : Prop := schemaChecksUptoRow.holds Tryz.pinned (OpenSpec.upto schemaChecksSpec)

/-- 'handlaw2.StatementChecks', WHERE WHAT IT READS IS OF BULK AT MOST 1048576: true; the input reads as it did. -/
def statementChecksUptoRow : OpenClaim := { program := "ytlaplgpnbbmbgaagreatdoor", sum := "12c08a16194e77d99beed64226512faf79299e7fe94c4318f0770c919c442110", func := "handbill/handlaw2.StatementChecks", spec := "statementChecks", inPlace := ["internal/abi.NoEscape", "internal/bytealg.MakeNoZero", "internal/bytealg.IndexByteString", "internal/bytealg.IndexString", "internal/bytealg.CountString"], unfollowed := true, recurses := true, named := ["handbill/handmake.idPool", "internal/bytealg.MaxLen", "unicode/utf8.first", "unicode/utf8.acceptRanges"], apart := false, laid := [("unicode/utf8.acceptRanges", laid_unicode_utf8_acceptRanges), ("handbill/handmake.idPool", laid_handbill_handmake_idPool), ("unicode/utf8.first", laid_unicode_utf8_first)], narrowed := true }
def StatementChecksUptoSaid : Prop := statementChecksUptoRow.holds Tryz.pinned (OpenSpec.upto statementChecksSpec)

/-- 'handlaw2.ConsentAsks', WHERE WHAT IT READS IS OF BULK AT MOST 1048576: true; the input reads as it did. -/
def consentAsksUptoRow : OpenClaim := { program := "ytlaplgpnbbmbgaagreatdoor", sum := "12c08a16194e77d99beed64226512faf79299e7fe94c4318f0770c919c442110", func := "handbill/handlaw2.ConsentAsks", spec := "consentAsks", inPlace := ["internal/abi.NoEscape", "internal/bytealg.MakeNoZero", "internal/bytealg.IndexByteString", "internal/bytealg.IndexString", "internal/bytealg.CountString"], unfollowed := true, recurses := true, named := ["handbill/handmake.idPool", "unicode/utf8.first", "unicode/utf8.acceptRanges", "internal/bytealg.MaxLen"], apart := false, laid := [("unicode/utf8.acceptRanges", laid_unicode_utf8_acceptRanges), ("handbill/handmake.idPool", laid_handbill_handmake_idPool), ("unicode/utf8.first", laid_unicode_utf8_first)], narrowed := true }
def ConsentAsksUptoSaid : Prop := consentAsksUptoRow.holds Tryz.pinned (OpenSpec.upto consentAsksSpec)

/-- 'handlaw2.PolicyChecks', WHERE WHAT IT READS IS OF BULK AT MOST 1048576: true; the input reads as it did. -/
def policyChecksUptoRow : OpenClaim := { program := "ytlaplgpnbbmbgaagreatdoor", sum := "12c08a16194e77d99beed64226512faf79299e7fe94c4318f0770c919c442110", func := "handbill/handlaw2.PolicyChecks", spec := "policyChecks", inPlace := ["internal/abi.NoEscape", "internal/bytealg.MakeNoZero", "internal/bytealg.IndexByteString", "internal/bytealg.IndexString", "internal/bytealg.CountString"], unfollowed := true, recurses := true, named := ["handbill/handmake.idPool", "unicode/utf8.first", "unicode/utf8.acceptRanges", "internal/bytealg.MaxLen"], apart := false, laid := [("unicode/utf8.acceptRanges", laid_unicode_utf8_acceptRanges), ("handbill/handmake.idPool", laid_handbill_handmake_idPool), ("unicode/utf8.first", laid_unicode_utf8_first)], narrowed := true }
def PolicyChecksUptoSaid : Prop := policyChecksUptoRow.holds Tryz.pinned (OpenSpec.upto policyChecksSpec)

end Rows
end Go.Proofs.YtlaplgpnbbmbgaaGreatDoor
