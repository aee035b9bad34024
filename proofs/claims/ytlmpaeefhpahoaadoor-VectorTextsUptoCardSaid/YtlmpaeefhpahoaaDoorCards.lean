/-
  DERIVED. GIVEN WITH THE SEED: THE CARDS: each row of YtlmpaeefhpahoaaDoorRows.lean that lists a variable, with what it lists TIED to the program's text (the seventh form; the later family's looks); each row that meets fmt, with fmt's text TOLD by the authors' own Lean function (tested against real Go, not proved from fmt's source: count such statements apart). THE CARD IS WHAT COUNTS. Prove the row's statement (the work); the ties are given (YtlmpaeefhpahoaaDoorTie.lean); close each card by the builder's one call (the guide's Derived/Test/ToyasCard.lean, 'card_holds'). Laid BY PROGRAM, IN A SANDBOX (cutbox-door.mjs). By AI agents, Wed Nov 11 2026. No macro, syntax, notation, axiom, sorry.
-/
import Derived.Test.YtlmpaeefhpahoaaDoorRows
import GoSem.ClaimSeven
namespace Go.Proofs.YtlmpaeefhpahoaaDoor
namespace Rows

/-- THE TIED CARD OF 'milestonelaw16.VectorMerges'. -/
def vectorMergesCard : Claim7 := { stood := { row := vectorMergesRow, standIns := [], harness := (true, "c5d706066b61504e2803c83a53df3ef32a24e07c1d0138f5610cb1c7cee3c21b"), looks := true }, kinds := [], alts := [], laidByText := true, laidKinds := [.data, .data, .data], laidTests := true, laidLooks := .later }
def VectorMergesCardSaid : Prop := Claim7.holds Tryd.pinned (.plain (OpenSpec.ofChange vectorMergesSpec)) vectorMergesCard

/-- THE TIED CARD OF 'milestonelaw16.VectorAlgebra'. -/
def vectorAlgebraCard : Claim7 := { stood := { row := vectorAlgebraRow, standIns := [], harness := (true, "c5d706066b61504e2803c83a53df3ef32a24e07c1d0138f5610cb1c7cee3c21b"), looks := true }, kinds := [], alts := [], laidByText := true, laidKinds := [.data, .data, .data], laidTests := true, laidLooks := .later }
def VectorAlgebraCardSaid : Prop := Claim7.holds Tryd.pinned (.plain (OpenSpec.ofChange vectorAlgebraSpec)) vectorAlgebraCard

/-- THE TIED CARD OF 'milestonelaw16.VectorPartial'. -/
def vectorPartialCard : Claim7 := { stood := { row := vectorPartialRow, standIns := [], harness := (true, "c5d706066b61504e2803c83a53df3ef32a24e07c1d0138f5610cb1c7cee3c21b"), looks := true }, kinds := [], alts := [], laidByText := true, laidKinds := [.data, .data, .data], laidTests := true, laidLooks := .later }
def VectorPartialCardSaid : Prop := Claim7.holds Tryd.pinned (.plain (OpenSpec.ofChange vectorPartialSpec)) vectorPartialCard

/-- THE TIED CARD OF 'milestonelaw16.VectorLeast'. -/
def vectorLeastCard : Claim7 := { stood := { row := vectorLeastRow, standIns := [], harness := (true, "c5d706066b61504e2803c83a53df3ef32a24e07c1d0138f5610cb1c7cee3c21b"), looks := true }, kinds := [], alts := [], laidByText := true, laidKinds := [.data, .data, .data], laidTests := true, laidLooks := .later }
def VectorLeastCardSaid : Prop := Claim7.holds Tryd.pinned (.plain (OpenSpec.ofChange vectorLeastSpec)) vectorLeastCard

/-- THE TIED CARD OF 'milestonelaw16.VectorOrders'. -/
def vectorOrdersCard : Claim7 := { stood := { row := vectorOrdersRow, standIns := [], harness := (true, "c5d706066b61504e2803c83a53df3ef32a24e07c1d0138f5610cb1c7cee3c21b"), looks := true }, kinds := [], alts := [], laidByText := true, laidKinds := [.data, .data, .data], laidTests := true, laidLooks := .later }
def VectorOrdersCardSaid : Prop := Claim7.holds Tryd.pinned (.plain (OpenSpec.ofChange vectorOrdersSpec)) vectorOrdersCard

/-- THE TIED CARD OF 'milestonelaw16.VectorOwn'. -/
def vectorOwnCard : Claim7 := { stood := { row := vectorOwnRow, standIns := [], harness := (true, "c5d706066b61504e2803c83a53df3ef32a24e07c1d0138f5610cb1c7cee3c21b"), looks := true }, kinds := [], alts := [], laidByText := true, laidKinds := [.data, .data, .data], laidTests := true, laidLooks := .later }
def VectorOwnCardSaid : Prop := Claim7.holds Tryd.pinned (.plain (OpenSpec.ofChange vectorOwnSpec)) vectorOwnCard

/-- THE TIED CARD OF 'milestonelaw16.VectorGets'. -/
def vectorGetsCard : Claim7 := { stood := { row := vectorGetsRow, standIns := [], harness := (true, "c5d706066b61504e2803c83a53df3ef32a24e07c1d0138f5610cb1c7cee3c21b"), looks := true }, kinds := [], alts := [], laidByText := true, laidKinds := [.data, .data, .data], laidTests := true, laidLooks := .later }
def VectorGetsCardSaid : Prop := Claim7.holds Tryd.pinned (.plain (OpenSpec.ofChange vectorGetsSpec)) vectorGetsCard

/-- THE TIED CARD OF 'milestonelaw16.VectorTexts'. -/
def vectorTextsCard : Claim7 := { stood := { row := vectorTextsRow, standIns := [], harness := (true, "c5d706066b61504e2803c83a53df3ef32a24e07c1d0138f5610cb1c7cee3c21b"), looks := true }, kinds := [], alts := [], laidByText := true, laidKinds := [.data, .data, .data, .data, .sentinel, .sentinel, .pinned], laidTests := true, laidLooks := .later }
def VectorTextsCardSaid : Prop := Claim7.holds Tryd.pinned (.plain (OpenSpec.ofChange vectorTextsSpec)) vectorTextsCard

/-- THE SECOND FORM's CARD OF 'milestonelaw16.VectorMerges'. -/
def vectorMergesUptoCard : Claim7 := { stood := { row := vectorMergesUptoRow, standIns := [], harness := (true, "c5d706066b61504e2803c83a53df3ef32a24e07c1d0138f5610cb1c7cee3c21b"), looks := true }, kinds := [], alts := [], laidByText := true, laidKinds := [.data, .data, .data], laidTests := true, laidLooks := .later }
def VectorMergesUptoCardSaid : Prop := Claim7.holds Tryd.pinned (.plain (OpenSpec.upto vectorMergesSpec)) vectorMergesUptoCard

/-- THE SECOND FORM's CARD OF 'milestonelaw16.VectorAlgebra'. -/
def vectorAlgebraUptoCard : Claim7 := { stood := { row := vectorAlgebraUptoRow, standIns := [], harness := (true, "c5d706066b61504e2803c83a53df3ef32a24e07c1d0138f5610cb1c7cee3c21b"), looks := true }, kinds := [], alts := [], laidByText := true, laidKinds := [.data, .data, .data], laidTests := true, laidLooks := .later }
def VectorAlgebraUptoCardSaid : Prop := Claim7.holds Tryd.pinned (.plain (OpenSpec.upto vectorAlgebraSpec)) vectorAlgebraUptoCard

/-- THE SECOND FORM's CARD OF 'milestonelaw16.VectorPartial'. -/
def vectorPartialUptoCard : Claim7 := { stood := { row := vectorPartialUptoRow, standIns := [], harness := (true, "c5d706066b61504e2803c83a53df3ef32a24e07c1d0138f5610cb1c7cee3c21b"), looks := true }, kinds := [], alts := [], laidByText := true, laidKinds := [.data, .data, .data], laidTests := true, laidLooks := .later }
def VectorPartialUptoCardSaid : Prop := Claim7.holds Tryd.pinned (.plain (OpenSpec.upto vectorPartialSpec)) vectorPartialUptoCard

/-- THE SECOND FORM's CARD OF 'milestonelaw16.VectorLeast'. -/
def vectorLeastUptoCard : Claim7 := { stood := { row := vectorLeastUptoRow, standIns := [], harness := (true, "c5d706066b61504e2803c83a53df3ef32a24e07c1d0138f5610cb1c7cee3c21b"), looks := true }, kinds := [], alts := [], laidByText := true, laidKinds := [.data, .data, .data], laidTests := true, laidLooks := .later }
def VectorLeastUptoCardSaid : Prop := Claim7.holds Tryd.pinned (.plain (OpenSpec.upto vectorLeastSpec)) vectorLeastUptoCard

/-- THE SECOND FORM's CARD OF 'milestonelaw16.VectorOrders'. -/
def vectorOrdersUptoCard : Claim7 := { stood := { row := vectorOrdersUptoRow, standIns := [], harness := (true, "c5d706066b61504e2803c83a53df3ef32a24e07c1d0138f5610cb1c7cee3c21b"), looks := true }, kinds := [], alts := [], laidByText := true, laidKinds := [.data, .data, .data], laidTests := true, laidLooks := .later }
def VectorOrdersUptoCardSaid : Prop := Claim7.holds Tryd.pinned (.plain (OpenSpec.upto vectorOrdersSpec)) vectorOrdersUptoCard

/-- THE SECOND FORM's CARD OF 'milestonelaw16.VectorOwn'. -/
def vectorOwnUptoCard : Claim7 := { stood := { row := vectorOwnUptoRow, standIns := [], harness := (true, "c5d706066b61504e2803c83a53df3ef32a24e07c1d0138f5610cb1c7cee3c21b"), looks := true }, kinds := [], alts := [], laidByText := true, laidKinds := [.data, .data, .data], laidTests := true, laidLooks := .later }
def VectorOwnUptoCardSaid : Prop := Claim7.holds Tryd.pinned (.plain (OpenSpec.upto vectorOwnSpec)) vectorOwnUptoCard

/-- THE SECOND FORM's CARD OF 'milestonelaw16.VectorGets'. -/
def vectorGetsUptoCard : Claim7 := { stood := { row := vectorGetsUptoRow, standIns := [], harness := (true, "c5d706066b61504e2803c83a53df3ef32a24e07c1d0138f5610cb1c7cee3c21b"), looks := true }, kinds := [], alts := [], laidByText := true, laidKinds := [.data, .data, .data], laidTests := true, laidLooks := .later }
def VectorGetsUptoCardSaid : Prop := Claim7.holds Tryd.pinned (.plain (OpenSpec.upto vectorGetsSpec)) vectorGetsUptoCard

/-- THE SECOND FORM's CARD OF 'milestonelaw16.VectorTexts'. -/
def vectorTextsUptoCard : Claim7 := { stood := { row := vectorTextsUptoRow, standIns := [], harness := (true, "c5d706066b61504e2803c83a53df3ef32a24e07c1d0138f5610cb1c7cee3c21b"), looks := true }, kinds := [], alts := [], laidByText := true, laidKinds := [.data, .data, .data, .data, .sentinel, .sentinel, .pinned], laidTests := true, laidLooks := .later }
def VectorTextsUptoCardSaid : Prop := Claim7.holds Tryd.pinned (.plain (OpenSpec.upto vectorTextsSpec)) vectorTextsUptoCard
end Rows
end Go.Proofs.YtlmpaeefhpahoaaDoor
