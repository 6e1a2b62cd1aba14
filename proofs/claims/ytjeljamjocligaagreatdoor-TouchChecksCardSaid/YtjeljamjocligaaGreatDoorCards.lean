/-
  DERIVED. GIVEN WITH THE SEED: THE CARDS: each row of YtjeljamjocligaaGreatDoorRows.lean that lists a variable, with what it lists TIED to the program's text (the seventh form; the later family's looks); each row that meets fmt, with fmt's text TOLD by the authors' own Lean function (tested against real Go, not proved from fmt's source: count such statements apart). THE CARD IS WHAT COUNTS. Prove the row's statement (the work); the ties are given (YtjeljamjocligaaGreatDoorTie.lean); close each card by the builder's one call (the guide's Derived/Test/ToyasCard.lean, 'card_holds'). Laid BY PROGRAM, IN A SANDBOX (cutbox-door.mjs). By AI agents, Wed Nov 11 2026. No macro, syntax, notation, axiom, sorry.
-/
import Derived.Test.YtjeljamjocligaaGreatDoorRows
import GoSem.ClaimSeven
namespace Go.Proofs.YtjeljamjocligaaGreatDoor
namespace Rows

/-- THE TIED CARD OF 'handlaw2.TouchChecks'. -/
def touchChecksCard : Claim7 := { stood := { row := touchChecksRow, standIns := [], harness := (true, "6974a9f07cee983d02d987e472211866383ce6fba15df990399694e57ea7270f"), looks := false }, kinds := [], alts := [], laidByText := true, laidKinds := [.data, .data, .data, .pinned], laidTests := true, laidLooks := .later }
def TouchChecksCardSaid : Prop := Claim7.holds Tryz.pinned (.plain (OpenSpec.ofChange touchChecksSpec)) touchChecksCard

/-- THE TIED CARD OF 'handlaw2.PersonOfs'. -/
def personOfsCard : Claim7 := { stood := { row := personOfsRow, standIns := [], harness := (true, "6974a9f07cee983d02d987e472211866383ce6fba15df990399694e57ea7270f"), looks := false }, kinds := [], alts := [], laidByText := true, laidKinds := [.data, .data, .data, .pinned], laidTests := true, laidLooks := .later }
def PersonOfsCardSaid : Prop := Claim7.holds Tryz.pinned (.plain (OpenSpec.ofChange personOfsSpec)) personOfsCard

/-- THE TIED CARD OF 'handlaw2.TouchJoins'. -/
def touchJoinsCard : Claim7 := { stood := { row := touchJoinsRow, standIns := [], harness := (true, "6974a9f07cee983d02d987e472211866383ce6fba15df990399694e57ea7270f"), looks := false }, kinds := [], alts := [], laidByText := true, laidKinds := [.data, .data, .data, .pinned], laidTests := true, laidLooks := .later }
def TouchJoinsCardSaid : Prop := Claim7.holds Tryz.pinned (.plain (OpenSpec.ofChange touchJoinsSpec)) touchJoinsCard

/-- THE SECOND FORM's CARD OF 'handlaw2.TouchChecks'. -/
def touchChecksUptoCard : Claim7 := { stood := { row := touchChecksUptoRow, standIns := [], harness := (true, "6974a9f07cee983d02d987e472211866383ce6fba15df990399694e57ea7270f"), looks := false }, kinds := [], alts := [], laidByText := true, laidKinds := [.data, .data, .data, .pinned], laidTests := true, laidLooks := .later }
def TouchChecksUptoCardSaid : Prop := Claim7.holds Tryz.pinned (.plain (OpenSpec.upto touchChecksSpec)) touchChecksUptoCard

/-- THE SECOND FORM's CARD OF 'handlaw2.PersonOfs'. -/
def personOfsUptoCard : Claim7 := { stood := { row := personOfsUptoRow, standIns := [], harness := (true, "6974a9f07cee983d02d987e472211866383ce6fba15df990399694e57ea7270f"), looks := false }, kinds := [], alts := [], laidByText := true, laidKinds := [.data, .data, .data, .pinned], laidTests := true, laidLooks := .later }
def PersonOfsUptoCardSaid : Prop := Claim7.holds Tryz.pinned (.plain (OpenSpec.upto personOfsSpec)) personOfsUptoCard

/-- THE SECOND FORM's CARD OF 'handlaw2.TouchJoins'. -/
def touchJoinsUptoCard : Claim7 := { stood := { row := touchJoinsUptoRow, standIns := [], harness := (true, "6974a9f07cee983d02d987e472211866383ce6fba15df990399694e57ea7270f"), looks := false }, kinds := [], alts := [], laidByText := true, laidKinds := [.data, .data, .data, .pinned], laidTests := true, laidLooks := .later }
def TouchJoinsUptoCardSaid : Prop := Claim7.holds Tryz.pinned (.plain (OpenSpec.upto touchJoinsSpec)) touchJoinsUptoCard
end Rows
end Go.Proofs.YtjeljamjocligaaGreatDoor
