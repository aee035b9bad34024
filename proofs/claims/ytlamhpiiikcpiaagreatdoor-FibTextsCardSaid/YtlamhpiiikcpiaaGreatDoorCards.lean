/-
  DERIVED. GIVEN WITH THE SEED: THE CARDS: each row of YtlamhpiiikcpiaaGreatDoorRows.lean that lists a variable, with what it lists TIED to the program's text (the seventh form; the later family's looks); each row that meets fmt, with fmt's text TOLD by the authors' own Lean function (tested against real Go, not proved from fmt's source: count such statements apart). THE CARD IS WHAT COUNTS. Prove the row's statement (the work); the ties are given (YtlamhpiiikcpiaaGreatDoorTie.lean); close each card by the builder's one call (the guide's Derived/Test/ToyasCard.lean, 'card_holds'). Laid BY PROGRAM, IN A SANDBOX (cutbox-door.mjs). By AI agents, Wed Nov 11 2026. No macro, syntax, notation, axiom, sorry.
-/
import Derived.Test.YtlamhpiiikcpiaaGreatDoorRows
import GoSem.ClaimSeven
namespace Go.Proofs.YtlamhpiiikcpiaaGreatDoor
namespace Rows

/-- THE TIED CARD OF 'milestonelaw06.FibTexts'. -/
def fibTextsCard : Claim7 := { stood := { row := fibTextsRow, standIns := [], harness := (true, "46a357febe279e3d368d63310b6a212a69a5bf4c7ef9b1d8c8b5408c26e52066"), looks := true }, kinds := [], alts := [], laidByText := true, laidKinds := [.data, .data, .data, .data, .pinned], laidTests := true, laidLooks := .later }
def FibTextsCardSaid : Prop := Claim7.holds Tryz.pinned (.plain (OpenSpec.ofChange fibTextsSpec)) fibTextsCard

/-- THE TIED CARD OF 'milestonelaw06.FibNobody'. -/
def fibNobodyCard : Claim7 := { stood := { row := fibNobodyRow, standIns := [], harness := (true, "46a357febe279e3d368d63310b6a212a69a5bf4c7ef9b1d8c8b5408c26e52066"), looks := true }, kinds := [], alts := [], laidByText := true, laidKinds := [.data, .data, .data, .data, .pinned], laidTests := true, laidLooks := .later }
def FibNobodyCardSaid : Prop := Claim7.holds Tryz.pinned (.plain (OpenSpec.ofChange fibNobodySpec)) fibNobodyCard

/-- THE SECOND FORM's CARD OF 'milestonelaw06.FibTexts'. -/
def fibTextsUptoCard : Claim7 := { stood := { row := fibTextsUptoRow, standIns := [], harness := (true, "46a357febe279e3d368d63310b6a212a69a5bf4c7ef9b1d8c8b5408c26e52066"), looks := true }, kinds := [], alts := [], laidByText := true, laidKinds := [.data, .data, .data, .data, .pinned], laidTests := true, laidLooks := .later }
def FibTextsUptoCardSaid : Prop := Claim7.holds Tryz.pinned (.plain (OpenSpec.upto fibTextsSpec)) fibTextsUptoCard

/-- THE SECOND FORM's CARD OF 'milestonelaw06.FibNobody'. -/
def fibNobodyUptoCard : Claim7 := { stood := { row := fibNobodyUptoRow, standIns := [], harness := (true, "46a357febe279e3d368d63310b6a212a69a5bf4c7ef9b1d8c8b5408c26e52066"), looks := true }, kinds := [], alts := [], laidByText := true, laidKinds := [.data, .data, .data, .data, .pinned], laidTests := true, laidLooks := .later }
def FibNobodyUptoCardSaid : Prop := Claim7.holds Tryz.pinned (.plain (OpenSpec.upto fibNobodySpec)) fibNobodyUptoCard
end Rows
end Go.Proofs.YtlamhpiiikcpiaaGreatDoor
