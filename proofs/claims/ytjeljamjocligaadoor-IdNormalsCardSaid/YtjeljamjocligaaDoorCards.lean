/-
  DERIVED. GIVEN WITH THE SEED: THE CARDS: each row of YtjeljamjocligaaDoorRows.lean that lists a variable, with what it lists TIED to the program's text (the seventh form; the later family's looks); each row that meets fmt, with fmt's text TOLD by the authors' own Lean function (tested against real Go, not proved from fmt's source: count such statements apart). THE CARD IS WHAT COUNTS. Prove the row's statement (the work); the ties are given (YtjeljamjocligaaDoorTie.lean); close each card by the builder's one call (the guide's Derived/Test/ToyasCard.lean, 'card_holds'). Laid BY PROGRAM, IN A SANDBOX (cutbox-door.mjs). By AI agents, Wed Nov 11 2026. No macro, syntax, notation, axiom, sorry.
-/
import Derived.Test.YtjeljamjocligaaDoorRows
import GoSem.ClaimSeven
namespace Go.Proofs.YtjeljamjocligaaDoor
namespace Rows

/-- THE TIED CARD OF 'handlaw2.IdNormals'. -/
def idNormalsCard : Claim7 := { stood := { row := idNormalsRow, standIns := [], harness := (true, "8fc700e8bb8f79c1af995b20ad6ef75b00d80cebcaf25f6b509a882390c91383"), looks := false }, kinds := [], alts := [], laidByText := true, laidKinds := [.data, .pinned], laidTests := true, laidLooks := .later }
def IdNormalsCardSaid : Prop := Claim7.holds Tryd.pinned (.plain (OpenSpec.ofChange idNormalsSpec)) idNormalsCard

/-- THE SECOND FORM's CARD OF 'handlaw2.IdNormals'. -/
def idNormalsUptoCard : Claim7 := { stood := { row := idNormalsUptoRow, standIns := [], harness := (true, "8fc700e8bb8f79c1af995b20ad6ef75b00d80cebcaf25f6b509a882390c91383"), looks := false }, kinds := [], alts := [], laidByText := true, laidKinds := [.data, .pinned], laidTests := true, laidLooks := .later }
def IdNormalsUptoCardSaid : Prop := Claim7.holds Tryd.pinned (.plain (OpenSpec.upto idNormalsSpec)) idNormalsUptoCard
end Rows
end Go.Proofs.YtjeljamjocligaaDoor
