/-
  DERIVED. GIVEN WITH THE SEED: THE CARDS: each row of YtlaplgpnbbmbgaaGreatDoorRows.lean that lists a variable, with what it lists TIED to the program's text (the seventh form; the later family's looks); each row that meets fmt, with fmt's text TOLD by the authors' own Lean function (tested against real Go, not proved from fmt's source: count such statements apart). THE CARD IS WHAT COUNTS. Prove the row's statement (the work); the ties are given (YtlaplgpnbbmbgaaGreatDoorTie.lean); close each card by the builder's one call (the guide's Derived/Test/ToyasCard.lean, 'card_holds'). Laid BY PROGRAM, IN A SANDBOX (cutbox-door.mjs). By AI agents, Wed Nov 11 2026. No macro, syntax, notation, axiom, sorry.
-/
import Derived.Test.YtlaplgpnbbmbgaaGreatDoorRows
import GoSem.ClaimSeven
namespace Go.Proofs.YtlaplgpnbbmbgaaGreatDoor
namespace Rows

/-- THE TIED CARD OF 'handlaw2.ZoneClocks'. -/
def zoneClocksCard : Claim7 := { stood := { row := zoneClocksRow, standIns := [], harness := (true, "efb2989807c68e965f2d32afeb8f30251f6b8ac728c4862cd8f982213976c56b"), looks := false }, kinds := [], alts := [], laidByText := true, laidKinds := [.data, .pinned], laidTests := true, laidLooks := .later }
def ZoneClocksCardSaid : Prop := Claim7.holds Tryz.pinned (.plain (OpenSpec.ofChange zoneClocksSpec)) zoneClocksCard

/-- THE TIED CARD OF 'handlaw2.ZoneStarts'. -/
def zoneStartsCard : Claim7 := { stood := { row := zoneStartsRow, standIns := [], harness := (true, "efb2989807c68e965f2d32afeb8f30251f6b8ac728c4862cd8f982213976c56b"), looks := false }, kinds := [], alts := [], laidByText := true, laidKinds := [.data, .pinned], laidTests := true, laidLooks := .later }
def ZoneStartsCardSaid : Prop := Claim7.holds Tryz.pinned (.plain (OpenSpec.ofChange zoneStartsSpec)) zoneStartsCard

/-- THE TIED CARD OF 'handlaw2.SchemaChecks'. -/
def schemaChecksCard : Claim7 := { stood := { row := schemaChecksRow, standIns := [], harness := (true, "efb2989807c68e965f2d32afeb8f30251f6b8ac728c4862cd8f982213976c56b"), looks := false }, kinds := [], alts := [], laidByText := true, laidKinds := [.data, .data, .data, .data, .pinned], laidTests := true, laidLooks := .later }
def SchemaChecksCardSaid : Prop := Claim7.holds Tryz.pinned (.plain (OpenSpec.ofChange schemaChecksSpec)) schemaChecksCard

/-- THE TIED CARD OF 'handlaw2.StatementChecks'. -/
def statementChecksCard : Claim7 := { stood := { row := statementChecksRow, standIns := [], harness := (true, "efb2989807c68e965f2d32afeb8f30251f6b8ac728c4862cd8f982213976c56b"), looks := false }, kinds := [], alts := [], laidByText := true, laidKinds := [.data, .data, .pinned], laidTests := true, laidLooks := .later }
def StatementChecksCardSaid : Prop := Claim7.holds Tryz.pinned (.plain (OpenSpec.ofChange statementChecksSpec)) statementChecksCard

/-- THE TIED CARD OF 'handlaw2.ConsentAsks'. -/
def consentAsksCard : Claim7 := { stood := { row := consentAsksRow, standIns := [], harness := (true, "efb2989807c68e965f2d32afeb8f30251f6b8ac728c4862cd8f982213976c56b"), looks := false }, kinds := [], alts := [], laidByText := true, laidKinds := [.data, .data, .pinned], laidTests := true, laidLooks := .later }
def ConsentAsksCardSaid : Prop := Claim7.holds Tryz.pinned (.plain (OpenSpec.ofChange consentAsksSpec)) consentAsksCard

/-- THE TIED CARD OF 'handlaw2.PolicyChecks'. -/
def policyChecksCard : Claim7 := { stood := { row := policyChecksRow, standIns := [], harness := (true, "efb2989807c68e965f2d32afeb8f30251f6b8ac728c4862cd8f982213976c56b"), looks := false }, kinds := [], alts := [], laidByText := true, laidKinds := [.data, .data, .pinned], laidTests := true, laidLooks := .later }
def PolicyChecksCardSaid : Prop := Claim7.holds Tryz.pinned (.plain (OpenSpec.ofChange policyChecksSpec)) policyChecksCard

/-- THE SECOND FORM's CARD OF 'handlaw2.ZoneClocks'. -/
def zoneClocksUptoCard : Claim7 := { stood := { row := zoneClocksUptoRow, standIns := [], harness := (true, "efb2989807c68e965f2d32afeb8f30251f6b8ac728c4862cd8f982213976c56b"), looks := false }, kinds := [], alts := [], laidByText := true, laidKinds := [.data, .pinned], laidTests := true, laidLooks := .later }
def ZoneClocksUptoCardSaid : Prop := Claim7.holds Tryz.pinned (.plain (OpenSpec.upto zoneClocksSpec)) zoneClocksUptoCard

/-- THE SECOND FORM's CARD OF 'handlaw2.ZoneStarts'. -/
def zoneStartsUptoCard : Claim7 := { stood := { row := zoneStartsUptoRow, standIns := [], harness := (true, "efb2989807c68e965f2d32afeb8f30251f6b8ac728c4862cd8f982213976c56b"), looks := false }, kinds := [], alts := [], laidByText := true, laidKinds := [.data, .pinned], laidTests := true, laidLooks := .later }
def ZoneStartsUptoCardSaid : Prop := Claim7.holds Tryz.pinned (.plain (OpenSpec.upto zoneStartsSpec)) zoneStartsUptoCard

/-- THE SECOND FORM's CARD OF 'handlaw2.SchemaChecks'. -/
def schemaChecksUptoCard : Claim7 := { stood := { row := schemaChecksUptoRow, standIns := [], harness := (true, "efb2989807c68e965f2d32afeb8f30251f6b8ac728c4862cd8f982213976c56b"), looks := false }, kinds := [], alts := [], laidByText := true, laidKinds := [.data, .data, .data, .data, .pinned], laidTests := true, laidLooks := .later }
def SchemaChecksUptoCardSaid : Prop := Claim7.holds Tryz.pinned (.plain (OpenSpec.upto schemaChecksSpec)) schemaChecksUptoCard

/-- THE SECOND FORM's CARD OF 'handlaw2.StatementChecks'. -/
def statementChecksUptoCard : Claim7 := { stood := { row := statementChecksUptoRow, standIns := [], harness := (true, "efb2989807c68e965f2d32afeb8f30251f6b8ac728c4862cd8f982213976c56b"), looks := false }, kinds := [], alts := [], laidByText := true, laidKinds := [.data, .data, .pinned], laidTests := true, laidLooks := .later }
def StatementChecksUptoCardSaid : Prop := Claim7.holds Tryz.pinned (.plain (OpenSpec.upto statementChecksSpec)) statementChecksUptoCard

/-- THE SECOND FORM's CARD OF 'handlaw2.ConsentAsks'. -/
def consentAsksUptoCard : Claim7 := { stood := { row := consentAsksUptoRow, standIns := [], harness := (true, "efb2989807c68e965f2d32afeb8f30251f6b8ac728c4862cd8f982213976c56b"), looks := false }, kinds := [], alts := [], laidByText := true, laidKinds := [.data, .data, .pinned], laidTests := true, laidLooks := .later }
def ConsentAsksUptoCardSaid : Prop := Claim7.holds Tryz.pinned (.plain (OpenSpec.upto consentAsksSpec)) consentAsksUptoCard

/-- THE SECOND FORM's CARD OF 'handlaw2.PolicyChecks'. -/
def policyChecksUptoCard : Claim7 := { stood := { row := policyChecksUptoRow, standIns := [], harness := (true, "efb2989807c68e965f2d32afeb8f30251f6b8ac728c4862cd8f982213976c56b"), looks := false }, kinds := [], alts := [], laidByText := true, laidKinds := [.data, .data, .pinned], laidTests := true, laidLooks := .later }
def PolicyChecksUptoCardSaid : Prop := Claim7.holds Tryz.pinned (.plain (OpenSpec.upto policyChecksSpec)) policyChecksUptoCard
end Rows
end Go.Proofs.YtlaplgpnbbmbgaaGreatDoor
