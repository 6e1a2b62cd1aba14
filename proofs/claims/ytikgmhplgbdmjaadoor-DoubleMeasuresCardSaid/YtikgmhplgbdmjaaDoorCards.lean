/-
  DERIVED. GIVEN WITH THE SEED: THE CARDS: each row of YtikgmhplgbdmjaaDoorRows.lean that lists a variable, with what it lists TIED to the program's text (the seventh form; the later family's looks); each row that meets fmt, with fmt's text TOLD by the authors' own Lean function (tested against real Go, not proved from fmt's source: count such statements apart). THE CARD IS WHAT COUNTS. Prove the row's statement (the work); the ties are given (YtikgmhplgbdmjaaDoorTie.lean); close each card by the builder's one call (the guide's Derived/Test/ToyasCard.lean, 'card_holds'). Laid BY PROGRAM, IN A SANDBOX (cutbox-door.mjs). By AI agents, Wed Nov 11 2026. No macro, syntax, notation, axiom, sorry.
-/
import Derived.Test.YtikgmhplgbdmjaaDoorRows
import GoSem.ClaimSeven
namespace Go.Proofs.YtikgmhplgbdmjaaDoor
namespace Rows

/-- THE TIED CARD OF 'handlaw2.StringQuotes'. -/
def stringQuotesCard : Claim7 := { stood := { row := stringQuotesRow, standIns := [], harness := (true, "b2cbd768882b644136a319da3ae4aab438ea1cfb130e6f72f6a25c8942911237"), looks := false }, kinds := [], alts := [], laidByText := true, laidKinds := [.data, .pinned], laidTests := true, laidLooks := .later }
def StringQuotesCardSaid : Prop := Claim7.holds Tryd.pinned (.plain (OpenSpec.ofChange stringQuotesSpec)) stringQuotesCard

/-- THE TIED CARD OF 'handlaw2.StringDistances'. -/
def stringDistancesCard : Claim7 := { stood := { row := stringDistancesRow, standIns := [], harness := (true, "b2cbd768882b644136a319da3ae4aab438ea1cfb130e6f72f6a25c8942911237"), looks := false }, kinds := [], alts := [], laidByText := true, laidKinds := [.data, .pinned], laidTests := true, laidLooks := .later }
def StringDistancesCardSaid : Prop := Claim7.holds Tryd.pinned (.plain (OpenSpec.ofChange stringDistancesSpec)) stringDistancesCard

/-- THE TIED CARD OF 'handlaw2.PoolRooms'. -/
def poolRoomsCard : Claim7 := { stood := { row := poolRoomsRow, standIns := [], harness := (true, "b2cbd768882b644136a319da3ae4aab438ea1cfb130e6f72f6a25c8942911237"), looks := false }, kinds := [], alts := [], laidByText := true, laidKinds := [.data, .pinned], laidTests := true, laidLooks := .later }
def PoolRoomsCardSaid : Prop := Claim7.holds Tryd.pinned (.plain (OpenSpec.ofChange poolRoomsSpec)) poolRoomsCard

/-- THE TIED CARD OF 'handlaw2.QuietTimes'. -/
def quietTimesCard : Claim7 := { stood := { row := quietTimesRow, standIns := [], harness := (true, "b2cbd768882b644136a319da3ae4aab438ea1cfb130e6f72f6a25c8942911237"), looks := false }, kinds := [], alts := [], laidByText := true, laidKinds := [.data, .pinned], laidTests := true, laidLooks := .later }
def QuietTimesCardSaid : Prop := Claim7.holds Tryd.pinned (.plain (OpenSpec.ofChange quietTimesSpec)) quietTimesCard

/-- THE TIED CARD OF 'handlaw2.FieldChecks'. -/
def fieldChecksCard : Claim7 := { stood := { row := fieldChecksRow, standIns := [], harness := (true, "b2cbd768882b644136a319da3ae4aab438ea1cfb130e6f72f6a25c8942911237"), looks := false }, kinds := [], alts := [], laidByText := true, laidKinds := [.data, .data, .pinned], laidTests := true, laidLooks := .later }
def FieldChecksCardSaid : Prop := Claim7.holds Tryd.pinned (.plain (OpenSpec.ofChange fieldChecksSpec)) fieldChecksCard

/-- THE TIED CARD OF 'handlaw2.DoubleMeasures'. -/
def doubleMeasuresCard : Claim7 := { stood := { row := doubleMeasuresRow, standIns := [], harness := (true, "b2cbd768882b644136a319da3ae4aab438ea1cfb130e6f72f6a25c8942911237"), looks := false }, kinds := [], alts := [], laidByText := true, laidKinds := [.data, .data, .pinned], laidTests := true, laidLooks := .later }
def DoubleMeasuresCardSaid : Prop := Claim7.holds Tryd.pinned (.plain (OpenSpec.ofChange doubleMeasuresSpec)) doubleMeasuresCard

/-- THE TIED CARD OF 'handlaw2.IdChecks'. -/
def idChecksCard : Claim7 := { stood := { row := idChecksRow, standIns := [], harness := (true, "b2cbd768882b644136a319da3ae4aab438ea1cfb130e6f72f6a25c8942911237"), looks := false }, kinds := [], alts := [], laidByText := true, laidKinds := [.data, .data, .pinned], laidTests := true, laidLooks := .later }
def IdChecksCardSaid : Prop := Claim7.holds Tryd.pinned (.plain (OpenSpec.ofChange idChecksSpec)) idChecksCard

/-- THE TIED CARD OF 'handlaw2.IdNormals'. -/
def idNormalsCard : Claim7 := { stood := { row := idNormalsRow, standIns := [], harness := (true, "b2cbd768882b644136a319da3ae4aab438ea1cfb130e6f72f6a25c8942911237"), looks := false }, kinds := [], alts := [], laidByText := true, laidKinds := [.data, .pinned], laidTests := true, laidLooks := .later }
def IdNormalsCardSaid : Prop := Claim7.holds Tryd.pinned (.plain (OpenSpec.ofChange idNormalsSpec)) idNormalsCard

/-- THE SECOND FORM's CARD OF 'handlaw2.StringQuotes'. -/
def stringQuotesUptoCard : Claim7 := { stood := { row := stringQuotesUptoRow, standIns := [], harness := (true, "b2cbd768882b644136a319da3ae4aab438ea1cfb130e6f72f6a25c8942911237"), looks := false }, kinds := [], alts := [], laidByText := true, laidKinds := [.data, .pinned], laidTests := true, laidLooks := .later }
def StringQuotesUptoCardSaid : Prop := Claim7.holds Tryd.pinned (.plain (OpenSpec.upto stringQuotesSpec)) stringQuotesUptoCard

/-- THE SECOND FORM's CARD OF 'handlaw2.StringDistances'. -/
def stringDistancesUptoCard : Claim7 := { stood := { row := stringDistancesUptoRow, standIns := [], harness := (true, "b2cbd768882b644136a319da3ae4aab438ea1cfb130e6f72f6a25c8942911237"), looks := false }, kinds := [], alts := [], laidByText := true, laidKinds := [.data, .pinned], laidTests := true, laidLooks := .later }
def StringDistancesUptoCardSaid : Prop := Claim7.holds Tryd.pinned (.plain (OpenSpec.upto stringDistancesSpec)) stringDistancesUptoCard

/-- THE SECOND FORM's CARD OF 'handlaw2.PoolRooms'. -/
def poolRoomsUptoCard : Claim7 := { stood := { row := poolRoomsUptoRow, standIns := [], harness := (true, "b2cbd768882b644136a319da3ae4aab438ea1cfb130e6f72f6a25c8942911237"), looks := false }, kinds := [], alts := [], laidByText := true, laidKinds := [.data, .pinned], laidTests := true, laidLooks := .later }
def PoolRoomsUptoCardSaid : Prop := Claim7.holds Tryd.pinned (.plain (OpenSpec.upto poolRoomsSpec)) poolRoomsUptoCard

/-- THE SECOND FORM's CARD OF 'handlaw2.QuietTimes'. -/
def quietTimesUptoCard : Claim7 := { stood := { row := quietTimesUptoRow, standIns := [], harness := (true, "b2cbd768882b644136a319da3ae4aab438ea1cfb130e6f72f6a25c8942911237"), looks := false }, kinds := [], alts := [], laidByText := true, laidKinds := [.data, .pinned], laidTests := true, laidLooks := .later }
def QuietTimesUptoCardSaid : Prop := Claim7.holds Tryd.pinned (.plain (OpenSpec.upto quietTimesSpec)) quietTimesUptoCard

/-- THE SECOND FORM's CARD OF 'handlaw2.FieldChecks'. -/
def fieldChecksUptoCard : Claim7 := { stood := { row := fieldChecksUptoRow, standIns := [], harness := (true, "b2cbd768882b644136a319da3ae4aab438ea1cfb130e6f72f6a25c8942911237"), looks := false }, kinds := [], alts := [], laidByText := true, laidKinds := [.data, .data, .pinned], laidTests := true, laidLooks := .later }
def FieldChecksUptoCardSaid : Prop := Claim7.holds Tryd.pinned (.plain (OpenSpec.upto fieldChecksSpec)) fieldChecksUptoCard

/-- THE SECOND FORM's CARD OF 'handlaw2.DoubleMeasures'. -/
def doubleMeasuresUptoCard : Claim7 := { stood := { row := doubleMeasuresUptoRow, standIns := [], harness := (true, "b2cbd768882b644136a319da3ae4aab438ea1cfb130e6f72f6a25c8942911237"), looks := false }, kinds := [], alts := [], laidByText := true, laidKinds := [.data, .data, .pinned], laidTests := true, laidLooks := .later }
def DoubleMeasuresUptoCardSaid : Prop := Claim7.holds Tryd.pinned (.plain (OpenSpec.upto doubleMeasuresSpec)) doubleMeasuresUptoCard

/-- THE SECOND FORM's CARD OF 'handlaw2.IdChecks'. -/
def idChecksUptoCard : Claim7 := { stood := { row := idChecksUptoRow, standIns := [], harness := (true, "b2cbd768882b644136a319da3ae4aab438ea1cfb130e6f72f6a25c8942911237"), looks := false }, kinds := [], alts := [], laidByText := true, laidKinds := [.data, .data, .pinned], laidTests := true, laidLooks := .later }
def IdChecksUptoCardSaid : Prop := Claim7.holds Tryd.pinned (.plain (OpenSpec.upto idChecksSpec)) idChecksUptoCard

/-- THE SECOND FORM's CARD OF 'handlaw2.IdNormals'. -/
def idNormalsUptoCard : Claim7 := { stood := { row := idNormalsUptoRow, standIns := [], harness := (true, "b2cbd768882b644136a319da3ae4aab438ea1cfb130e6f72f6a25c8942911237"), looks := false }, kinds := [], alts := [], laidByText := true, laidKinds := [.data, .pinned], laidTests := true, laidLooks := .later }
def IdNormalsUptoCardSaid : Prop := Claim7.holds Tryd.pinned (.plain (OpenSpec.upto idNormalsSpec)) idNormalsUptoCard
end Rows
end Go.Proofs.YtikgmhplgbdmjaaDoor
