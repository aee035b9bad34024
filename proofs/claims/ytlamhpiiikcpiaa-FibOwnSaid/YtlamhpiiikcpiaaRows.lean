/-
  No cell of these rows narrows 'for every input' (looked for: loops, veiled, ifaces, maps, wideKeys, modest, calm, conditions, laid).
  DERIVED. THE GIVEN ROWS OF THIS SEAT. 5 by the template 'for every input the law returns true; each argument reads behind the call as it read before'; 0 by the template 'total and deterministic' (their statements: YtlamhpiiikcpiaaTotals.lean).
  GIVEN WITH THE SEED: the statements are not yours to turn. If you find one false, say at which input.
  Laid BY PROGRAM, IN A SANDBOX (cutbox-rows.mjs): the forced cells as the released guide's own fill.sh prints them over the translation 50ba94990441c11f… (all of the seat's roots in one cut). By AI agents, Wed Nov 11 2026. No macro, syntax, notation, axiom, sorry.
-/
import Derived.Test.YtlamhpiiikcpiaaChecked
import GoSem.Claim
import GoSem.ClaimJoined
import GoSem.ClaimMapViews
import Derived.JoinedTies
import Derived.KernelRfl
namespace Go.Proofs.Ytlamhpiiikcpiaa
/- THE CELL 'sum', in the pinned program and in every row, IS THE sha256 OF THE DUMP (.gsa) THAT YtlamhpiiikcpiaaProg.lean LOADS. Nothing in Lean hashes anything: it is a label: what it is worth is what the hold of that sum in a sandbox is worth. -/
noncomputable def Try.pinned : Pinned := { name := "ytlamhpiiikcpiaa", sum := "50ba94990441c11f2154a2d4e0eaa5ae80d34115b89c04e689d7befdb69f0fa8", checked := Try.checked }
namespace Rows
def none {H : Type} : Left H := { results := [], args := [] }

/-- 'milestonelaw06.FibMeets': WHATEVER THE INPUT: true; the input reads as it did. -/
def fibMeetsSpec : ChangeSpec := { name := "fibMeets", fn := fun _ => fun
  | [d1, d2, d3] => { results := [.lit (.bool true)], args := [d1, d2, d3] }
  | _ => none }
def fibMeetsRow : OpenClaim := { program := "ytlamhpiiikcpiaa", sum := "50ba94990441c11f2154a2d4e0eaa5ae80d34115b89c04e689d7befdb69f0fa8", func := "milestone/milestonelaw06.FibMeets", spec := "fibMeets", inPlace := ["internal/bytealg.IndexByteString", "internal/bytealg.CountString", "internal/bytealg.IndexString"], unfollowed := true, recurses := true, named := ["internal/bytealg.MaxLen"], apart := false }
def FibMeetsSaid : Prop := fibMeetsRow.holds Try.pinned (OpenSpec.ofChange fibMeetsSpec)

/-- ITS FALSE NEIGHBOUR: 'it returns false'. Refute it at one input. -/
def fibMeetsWrong : ChangeSpec := { name := "fibMeets", fn := fun _ => fun
  | [d1, d2, d3] => { results := [.lit (.bool false)], args := [d1, d2, d3] }
  | _ => none }
def FibMeetsWrongFalsely : Prop := fibMeetsRow.holds Try.pinned (OpenSpec.ofChange fibMeetsWrong)

/-- 'milestonelaw06.FibSteps': WHATEVER THE INPUT: true; the input reads as it did. -/
def fibStepsSpec : ChangeSpec := { name := "fibSteps", fn := fun _ => fun
  | [d1, d2, d3] => { results := [.lit (.bool true)], args := [d1, d2, d3] }
  | _ => none }
def fibStepsRow : OpenClaim := { program := "ytlamhpiiikcpiaa", sum := "50ba94990441c11f2154a2d4e0eaa5ae80d34115b89c04e689d7befdb69f0fa8", func := "milestone/milestonelaw06.FibSteps", spec := "fibSteps", inPlace := ["internal/bytealg.IndexByteString", "internal/bytealg.CountString", "internal/bytealg.IndexString"], unfollowed := true, recurses := true, named := ["internal/bytealg.MaxLen"], apart := false }
def FibStepsSaid : Prop := fibStepsRow.holds Try.pinned (OpenSpec.ofChange fibStepsSpec)

/-- ITS FALSE NEIGHBOUR: 'it returns false'. Refute it at one input. -/
def fibStepsWrong : ChangeSpec := { name := "fibSteps", fn := fun _ => fun
  | [d1, d2, d3] => { results := [.lit (.bool false)], args := [d1, d2, d3] }
  | _ => none }
def FibStepsWrongFalsely : Prop := fibStepsRow.holds Try.pinned (OpenSpec.ofChange fibStepsWrong)

/-- 'milestonelaw06.FibOwn': WHATEVER THE INPUT: true; the input reads as it did. -/
def fibOwnSpec : ChangeSpec := { name := "fibOwn", fn := fun _ => fun
  | [d1, d2] => { results := [.lit (.bool true)], args := [d1, d2] }
  | _ => none }
def fibOwnRow : OpenClaim := { program := "ytlamhpiiikcpiaa", sum := "50ba94990441c11f2154a2d4e0eaa5ae80d34115b89c04e689d7befdb69f0fa8", func := "milestone/milestonelaw06.FibOwn", spec := "fibOwn", inPlace := ["internal/bytealg.IndexByteString", "internal/bytealg.CountString", "internal/bytealg.IndexString"], unfollowed := true, recurses := true, named := ["internal/bytealg.MaxLen"], apart := false }
def FibOwnSaid : Prop := fibOwnRow.holds Try.pinned (OpenSpec.ofChange fibOwnSpec)

/-- ITS FALSE NEIGHBOUR: 'it returns false'. Refute it at one input. -/
def fibOwnWrong : ChangeSpec := { name := "fibOwn", fn := fun _ => fun
  | [d1, d2] => { results := [.lit (.bool false)], args := [d1, d2] }
  | _ => none }
def FibOwnWrongFalsely : Prop := fibOwnRow.holds Try.pinned (OpenSpec.ofChange fibOwnWrong)

/-- 'milestonelaw06.FibChanges': WHATEVER THE INPUT: true; the input reads as it did. -/
def fibChangesSpec : ChangeSpec := { name := "fibChanges", fn := fun _ => fun
  | [d1, d2, d3] => { results := [.lit (.bool true)], args := [d1, d2, d3] }
  | _ => none }
def fibChangesRow : OpenClaim := { program := "ytlamhpiiikcpiaa", sum := "50ba94990441c11f2154a2d4e0eaa5ae80d34115b89c04e689d7befdb69f0fa8", func := "milestone/milestonelaw06.FibChanges", spec := "fibChanges", inPlace := ["internal/bytealg.IndexByteString", "internal/bytealg.CountString", "internal/bytealg.IndexString"], unfollowed := true, recurses := true, named := ["internal/bytealg.MaxLen"], apart := false }
def FibChangesSaid : Prop := fibChangesRow.holds Try.pinned (OpenSpec.ofChange fibChangesSpec)

/-- ITS FALSE NEIGHBOUR: 'it returns false'. Refute it at one input. -/
def fibChangesWrong : ChangeSpec := { name := "fibChanges", fn := fun _ => fun
  | [d1, d2, d3] => { results := [.lit (.bool false)], args := [d1, d2, d3] }
  | _ => none }
def FibChangesWrongFalsely : Prop := fibChangesRow.holds Try.pinned (OpenSpec.ofChange fibChangesWrong)

/-- 'milestonelaw06.FibDeads': WHATEVER THE INPUT: true; the input reads as it did. -/
def fibDeadsSpec : ChangeSpec := { name := "fibDeads", fn := fun _ => fun
  | [d1, d2, d3] => { results := [.lit (.bool true)], args := [d1, d2, d3] }
  | _ => none }
def fibDeadsRow : OpenClaim := { program := "ytlamhpiiikcpiaa", sum := "50ba94990441c11f2154a2d4e0eaa5ae80d34115b89c04e689d7befdb69f0fa8", func := "milestone/milestonelaw06.FibDeads", spec := "fibDeads", inPlace := ["internal/bytealg.IndexByteString", "internal/bytealg.CountString", "internal/bytealg.IndexString"], unfollowed := true, recurses := true, named := ["internal/bytealg.MaxLen"], apart := false }
def FibDeadsSaid : Prop := fibDeadsRow.holds Try.pinned (OpenSpec.ofChange fibDeadsSpec)

/-- ITS FALSE NEIGHBOUR: 'it returns false'. Refute it at one input. -/
def fibDeadsWrong : ChangeSpec := { name := "fibDeads", fn := fun _ => fun
  | [d1, d2, d3] => { results := [.lit (.bool false)], args := [d1, d2, d3] }
  | _ => none }
def FibDeadsWrongFalsely : Prop := fibDeadsRow.holds Try.pinned (OpenSpec.ofChange fibDeadsWrong)

/- THE SECOND FORM. 'bulk': how many values and letters a reading holds, each counted each time it is reached (what is shared counts as often as it is met; a slice's spare places count too). A statement '..UptoSaid' is the law's where the arguments, and the package variables that the reading takes, are together of bulk at most 1048576: NARROWER than '..Said'. Prove '..Said' where nothing that the law and all that it calls make is longer than what came in: it says more and counts as full. Else prove '..UptoSaid'. A law counts once. -/
mutual
def uptoBulk {H : Type} : DataW H → Nat
  | .lit (.string bytes) => bytes.length + 1
  | .lit _ => 1
  | .nil => 1
  | .ptr d => uptoBulk d + 1
  | .slice elems spare => uptoBulkAll elems + uptoBulkAll spare + 1
  | .agg parts => uptoBulkAll parts + 1
  | .iface _ d => uptoBulk d + 1
  | .map entries => uptoBulkEntries entries + 1
  | .held _ => 1
def uptoBulkAll {H : Type} : List (DataW H) → Nat
  | [] => 0
  | d :: r => uptoBulk d + uptoBulkAll r
def uptoBulkEntries {H : Type} : List (Lit × DataW H) → Nat
  | [] => 0
  | x :: r => uptoBulkEntry x + uptoBulkEntries r
def uptoBulkEntry {H : Type} : Lit × DataW H → Nat
  | (.string bytes, d) => bytes.length + uptoBulk d + 1
  | (_, d) => uptoBulk d + 1
 end
def uptoSmall : (H : Type) → List (DataW H) → Bool := fun _ ds => decide (uptoBulkAll ds ≤ 1048576)
def OpenSpec.upto (s : _root_.Go.ChangeSpec) : _root_.Go.OpenSpec := { _root_.Go.OpenSpec.ofChange s with cond := some uptoSmall }

/-- 'milestonelaw06.FibMeets', WHERE WHAT IT READS IS OF BULK AT MOST 1048576: true; the input reads as it did. -/
def fibMeetsUptoRow : OpenClaim := { program := "ytlamhpiiikcpiaa", sum := "50ba94990441c11f2154a2d4e0eaa5ae80d34115b89c04e689d7befdb69f0fa8", func := "milestone/milestonelaw06.FibMeets", spec := "fibMeets", inPlace := ["internal/bytealg.IndexByteString", "internal/bytealg.CountString", "internal/bytealg.IndexString"], unfollowed := true, recurses := true, named := ["internal/bytealg.MaxLen"], apart := false, narrowed := true }
def FibMeetsUptoSaid : Prop := fibMeetsUptoRow.holds Try.pinned (OpenSpec.upto fibMeetsSpec)

/-- 'milestonelaw06.FibSteps', WHERE WHAT IT READS IS OF BULK AT MOST 1048576: true; the input reads as it did. -/
def fibStepsUptoRow : OpenClaim := { program := "ytlamhpiiikcpiaa", sum := "50ba94990441c11f2154a2d4e0eaa5ae80d34115b89c04e689d7befdb69f0fa8", func := "milestone/milestonelaw06.FibSteps", spec := "fibSteps", inPlace := ["internal/bytealg.IndexByteString", "internal/bytealg.CountString", "internal/bytealg.IndexString"], unfollowed := true, recurses := true, named := ["internal/bytealg.MaxLen"], apart := false, narrowed := true }
def FibStepsUptoSaid : Prop := fibStepsUptoRow.holds Try.pinned (OpenSpec.upto fibStepsSpec)

/-- 'milestonelaw06.FibOwn', WHERE WHAT IT READS IS OF BULK AT MOST 1048576: true; the input reads as it did. -/
def fibOwnUptoRow : OpenClaim := { program := "ytlamhpiiikcpiaa", sum := "50ba94990441c11f2154a2d4e0eaa5ae80d34115b89c04e689d7befdb69f0fa8", func := "milestone/milestonelaw06.FibOwn", spec := "fibOwn", inPlace := ["internal/bytealg.IndexByteString", "internal/bytealg.CountString", "internal/bytealg.IndexString"], unfollowed := true, recurses := true, named := ["internal/bytealg.MaxLen"], apart := false, narrowed := true }
def FibOwnUptoSaid : Prop := fibOwnUptoRow.holds Try.pinned (OpenSpec.upto fibOwnSpec)

/-- 'milestonelaw06.FibChanges', WHERE WHAT IT READS IS OF BULK AT MOST 1048576: true; the input reads as it did. -/
def fibChangesUptoRow : OpenClaim := { program := "ytlamhpiiikcpiaa", sum := "50ba94990441c11f2154a2d4e0eaa5ae80d34115b89c04e689d7befdb69f0fa8", func := "milestone/milestonelaw06.FibChanges", spec := "fibChanges", inPlace := ["internal/bytealg.IndexByteString", "internal/bytealg.CountString", "internal/bytealg.IndexString"], unfollowed := true, recurses := true, named := ["internal/bytealg.MaxLen"], apart := false, narrowed := true }
def FibChangesUptoSaid : Prop := fibChangesUptoRow.holds Try.pinned (OpenSpec.upto fibChangesSpec)

/-- 'milestonelaw06.FibDeads', WHERE WHAT IT READS IS OF BULK AT MOST 1048576: true; the input reads as it did. -/
def fibDeadsUptoRow : OpenClaim := { program := "ytlamhpiiikcpiaa", sum := "50ba94990441c11f2154a2d4e0eaa5ae80d34115b89c04e689d7befdb69f0fa8", func := "milestone/milestonelaw06.FibDeads", spec := "fibDeads", inPlace := ["internal/bytealg.IndexByteString", "internal/bytealg.CountString", "internal/bytealg.IndexString"], unfollowed := true, recurses := true, named := ["internal/bytealg.MaxLen"], apart := false, narrowed := true }
def FibDeadsUptoSaid : Prop := fibDeadsUptoRow.holds Try.pinned (OpenSpec.upto fibDeadsSpec)

end Rows
end Go.Proofs.Ytlamhpiiikcpiaa
