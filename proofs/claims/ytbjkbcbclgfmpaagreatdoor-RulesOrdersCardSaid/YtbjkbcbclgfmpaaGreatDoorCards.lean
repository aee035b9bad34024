/-
  DERIVED. GIVEN WITH THE SEED: THE CARDS: each row of YtbjkbcbclgfmpaaGreatDoorRows.lean that lists a variable, with what it lists TIED to the program's text (the seventh form; the later family's looks); each row that meets fmt, with fmt's text TOLD by the authors' own Lean function (tested against real Go, not proved from fmt's source: count such statements apart). THE CARD IS WHAT COUNTS. Prove the row's statement (the work); the ties are given (YtbjkbcbclgfmpaaGreatDoorTie.lean); close each card by the builder's one call (the guide's Derived/Test/ToyasCard.lean, 'card_holds'). Laid BY PROGRAM, IN A SANDBOX (cutbox-door.mjs). By AI agents, Wed Nov 11 2026. No macro, syntax, notation, axiom, sorry.
-/
import Derived.Test.YtbjkbcbclgfmpaaGreatDoorRows
import GoSem.ClaimSeven
namespace Go.Proofs.YtbjkbcbclgfmpaaGreatDoor
namespace Rows

/-- THE TIED CARD OF 'milestonelaw05.RulesParses'. -/
def rulesParsesCard : Claim7 := { stood := { row := rulesParsesRow, standIns := [], harness := (true, "989d309054eba53e06f9067420210b66dad4f878796fad507cb54da7ed1938db"), looks := true }, kinds := [], alts := [], laidByText := true, laidKinds := [.data, .data, .data, .data, .pinned], laidTests := true, laidLooks := .later }
def RulesParsesCardSaid : Prop := Claim7.holds Tryz.pinned (.plain (OpenSpec.ofChange rulesParsesSpec)) rulesParsesCard

/-- THE TIED CARD OF 'milestonelaw05.RulesPrints'. -/
def rulesPrintsCard : Claim7 := { stood := { row := rulesPrintsRow, standIns := [], harness := (true, "989d309054eba53e06f9067420210b66dad4f878796fad507cb54da7ed1938db"), looks := true }, kinds := [], alts := [], laidByText := true, laidKinds := [.data, .data, .data, .data, .pinned], laidTests := true, laidLooks := .later }
def RulesPrintsCardSaid : Prop := Claim7.holds Tryz.pinned (.plain (OpenSpec.ofChange rulesPrintsSpec)) rulesPrintsCard

/-- THE TIED CARD OF 'milestonelaw05.RulesAny'. -/
def rulesAnyCard : Claim7 := { stood := { row := rulesAnyRow, standIns := [], harness := (true, "989d309054eba53e06f9067420210b66dad4f878796fad507cb54da7ed1938db"), looks := true }, kinds := [], alts := [], laidByText := true, laidKinds := [.data, .data, .data, .data, .pinned], laidTests := true, laidLooks := .later }
def RulesAnyCardSaid : Prop := Claim7.holds Tryz.pinned (.plain (OpenSpec.ofChange rulesAnySpec)) rulesAnyCard

/-- THE TIED CARD OF 'milestonelaw05.RulesOwn'. -/
def rulesOwnCard : Claim7 := { stood := { row := rulesOwnRow, standIns := [], harness := (true, "989d309054eba53e06f9067420210b66dad4f878796fad507cb54da7ed1938db"), looks := true }, kinds := [], alts := [], laidByText := true, laidKinds := [.data, .data, .data, .data, .pinned], laidTests := true, laidLooks := .later }
def RulesOwnCardSaid : Prop := Claim7.holds Tryz.pinned (.plain (OpenSpec.ofChange rulesOwnSpec)) rulesOwnCard

/-- THE TIED CARD OF 'milestonelaw05.RulesOrders'. -/
def rulesOrdersCard : Claim7 := { stood := { row := rulesOrdersRow, standIns := [], harness := (true, "989d309054eba53e06f9067420210b66dad4f878796fad507cb54da7ed1938db"), looks := true }, kinds := [], alts := [], laidByText := true, laidKinds := [.data, .data, .data, .data, .pinned], laidTests := true, laidLooks := .later }
def RulesOrdersCardSaid : Prop := Claim7.holds Tryz.pinned (.plain (OpenSpec.ofChange rulesOrdersSpec)) rulesOrdersCard

/-- THE SECOND FORM's CARD OF 'milestonelaw05.RulesParses'. -/
def rulesParsesUptoCard : Claim7 := { stood := { row := rulesParsesUptoRow, standIns := [], harness := (true, "989d309054eba53e06f9067420210b66dad4f878796fad507cb54da7ed1938db"), looks := true }, kinds := [], alts := [], laidByText := true, laidKinds := [.data, .data, .data, .data, .pinned], laidTests := true, laidLooks := .later }
def RulesParsesUptoCardSaid : Prop := Claim7.holds Tryz.pinned (.plain (OpenSpec.upto rulesParsesSpec)) rulesParsesUptoCard

/-- THE SECOND FORM's CARD OF 'milestonelaw05.RulesPrints'. -/
def rulesPrintsUptoCard : Claim7 := { stood := { row := rulesPrintsUptoRow, standIns := [], harness := (true, "989d309054eba53e06f9067420210b66dad4f878796fad507cb54da7ed1938db"), looks := true }, kinds := [], alts := [], laidByText := true, laidKinds := [.data, .data, .data, .data, .pinned], laidTests := true, laidLooks := .later }
def RulesPrintsUptoCardSaid : Prop := Claim7.holds Tryz.pinned (.plain (OpenSpec.upto rulesPrintsSpec)) rulesPrintsUptoCard

/-- THE SECOND FORM's CARD OF 'milestonelaw05.RulesAny'. -/
def rulesAnyUptoCard : Claim7 := { stood := { row := rulesAnyUptoRow, standIns := [], harness := (true, "989d309054eba53e06f9067420210b66dad4f878796fad507cb54da7ed1938db"), looks := true }, kinds := [], alts := [], laidByText := true, laidKinds := [.data, .data, .data, .data, .pinned], laidTests := true, laidLooks := .later }
def RulesAnyUptoCardSaid : Prop := Claim7.holds Tryz.pinned (.plain (OpenSpec.upto rulesAnySpec)) rulesAnyUptoCard

/-- THE SECOND FORM's CARD OF 'milestonelaw05.RulesOwn'. -/
def rulesOwnUptoCard : Claim7 := { stood := { row := rulesOwnUptoRow, standIns := [], harness := (true, "989d309054eba53e06f9067420210b66dad4f878796fad507cb54da7ed1938db"), looks := true }, kinds := [], alts := [], laidByText := true, laidKinds := [.data, .data, .data, .data, .pinned], laidTests := true, laidLooks := .later }
def RulesOwnUptoCardSaid : Prop := Claim7.holds Tryz.pinned (.plain (OpenSpec.upto rulesOwnSpec)) rulesOwnUptoCard

/-- THE SECOND FORM's CARD OF 'milestonelaw05.RulesOrders'. -/
def rulesOrdersUptoCard : Claim7 := { stood := { row := rulesOrdersUptoRow, standIns := [], harness := (true, "989d309054eba53e06f9067420210b66dad4f878796fad507cb54da7ed1938db"), looks := true }, kinds := [], alts := [], laidByText := true, laidKinds := [.data, .data, .data, .data, .pinned], laidTests := true, laidLooks := .later }
def RulesOrdersUptoCardSaid : Prop := Claim7.holds Tryz.pinned (.plain (OpenSpec.upto rulesOrdersSpec)) rulesOrdersUptoCard
end Rows
end Go.Proofs.YtbjkbcbclgfmpaaGreatDoor
