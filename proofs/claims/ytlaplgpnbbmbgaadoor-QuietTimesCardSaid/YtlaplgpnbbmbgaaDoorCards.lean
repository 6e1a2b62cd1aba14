/-
  DERIVED. GIVEN WITH THE SEED: THE CARDS: each row of YtlaplgpnbbmbgaaDoorRows.lean that lists a variable, with what it lists TIED to the program's text (the seventh form; the later family's looks); each row that meets fmt, with fmt's text TOLD by the authors' own Lean function (tested against real Go, not proved from fmt's source: count such statements apart). THE CARD IS WHAT COUNTS. Prove the row's statement (the work); the ties are given (YtlaplgpnbbmbgaaDoorTie.lean); close each card by the builder's one call (the guide's Derived/Test/ToyasCard.lean, 'card_holds'). Laid BY PROGRAM, IN A SANDBOX (cutbox-door.mjs). By AI agents, Wed Nov 11 2026. No macro, syntax, notation, axiom, sorry.
-/
import Derived.Test.YtlaplgpnbbmbgaaDoorRows
import GoSem.ClaimSeven
namespace Go.Proofs.YtlaplgpnbbmbgaaDoor
namespace Rows

/-- THE TIED CARD OF 'handlaw2.QuietTimes'. -/
def quietTimesCard : Claim7 := { stood := { row := quietTimesRow, standIns := [], harness := (true, "2028e09a92aa8dd265db5d1d47efcc1efc19c8124ac149800596ba8fcb927e59"), looks := false }, kinds := [], alts := [], laidByText := true, laidKinds := [.data, .pinned], laidTests := true, laidLooks := .later }
def QuietTimesCardSaid : Prop := Claim7.holds Tryd.pinned (.plain (OpenSpec.ofChange quietTimesSpec)) quietTimesCard

/-- THE TIED CARD OF 'handlaw2.IdNormals'. -/
def idNormalsCard : Claim7 := { stood := { row := idNormalsRow, standIns := [], harness := (true, "2028e09a92aa8dd265db5d1d47efcc1efc19c8124ac149800596ba8fcb927e59"), looks := false }, kinds := [], alts := [], laidByText := true, laidKinds := [.data, .pinned], laidTests := true, laidLooks := .later }
def IdNormalsCardSaid : Prop := Claim7.holds Tryd.pinned (.plain (OpenSpec.ofChange idNormalsSpec)) idNormalsCard

/-- THE SECOND FORM's CARD OF 'handlaw2.QuietTimes'. -/
def quietTimesUptoCard : Claim7 := { stood := { row := quietTimesUptoRow, standIns := [], harness := (true, "2028e09a92aa8dd265db5d1d47efcc1efc19c8124ac149800596ba8fcb927e59"), looks := false }, kinds := [], alts := [], laidByText := true, laidKinds := [.data, .pinned], laidTests := true, laidLooks := .later }
def QuietTimesUptoCardSaid : Prop := Claim7.holds Tryd.pinned (.plain (OpenSpec.upto quietTimesSpec)) quietTimesUptoCard

/-- THE SECOND FORM's CARD OF 'handlaw2.IdNormals'. -/
def idNormalsUptoCard : Claim7 := { stood := { row := idNormalsUptoRow, standIns := [], harness := (true, "2028e09a92aa8dd265db5d1d47efcc1efc19c8124ac149800596ba8fcb927e59"), looks := false }, kinds := [], alts := [], laidByText := true, laidKinds := [.data, .pinned], laidTests := true, laidLooks := .later }
def IdNormalsUptoCardSaid : Prop := Claim7.holds Tryd.pinned (.plain (OpenSpec.upto idNormalsSpec)) idNormalsUptoCard
end Rows
end Go.Proofs.YtlaplgpnbbmbgaaDoor
