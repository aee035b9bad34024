/-
  No cell of these rows narrows 'for every input' (looked for: loops, veiled, ifaces, maps, wideKeys, modest, calm, conditions, laid).
  DERIVED. THE GIVEN ROWS OF THIS SEAT. 6 by the template 'for every input the law returns true; each argument reads behind the call as it read before'; 0 by the template 'total and deterministic' (their statements: YthldnldhplcfbaaTotals.lean).
  GIVEN WITH THE SEED: the statements are not yours to turn. If you find one false, say at which input.
  Laid BY PROGRAM, IN A SANDBOX (cutbox-rows.mjs): the forced cells as the released guide's own fill.sh prints them over the translation ff4d736bf2f79245… (all of the seat's roots in one cut). By AI agents, Wed Nov 11 2026. No macro, syntax, notation, axiom, sorry.
-/
import Derived.Test.YthldnldhplcfbaaChecked
import GoSem.Claim
import GoSem.ClaimJoined
import GoSem.ClaimMapViews
import Derived.JoinedTies
import Derived.KernelRfl
namespace Go.Proofs.Ythldnldhplcfbaa
/- THE CELL 'sum', in the pinned program and in every row, IS THE sha256 OF THE DUMP (.gsa) THAT YthldnldhplcfbaaProg.lean LOADS. Nothing in Lean hashes anything: it is a label: what it is worth is what the hold of that sum in a sandbox is worth. -/
noncomputable def Try.pinned : Pinned := { name := "ythldnldhplcfbaa", sum := "ff4d736bf2f79245b7caeb5497dcbd1ff056c3dbe14e77fc3d3a207b8eaf1442", checked := Try.checked }
namespace Rows
def none {H : Type} : Left H := { results := [], args := [] }

/-- 'milestonelaw01.CubeCuts': WHATEVER THE INPUT: true; the input reads as it did. -/
def cubeCutsSpec : ChangeSpec := { name := "cubeCuts", fn := fun _ => fun
  | [d1, d2] => { results := [.lit (.bool true)], args := [d1, d2] }
  | _ => none }
def cubeCutsRow : OpenClaim := { program := "ythldnldhplcfbaa", sum := "ff4d736bf2f79245b7caeb5497dcbd1ff056c3dbe14e77fc3d3a207b8eaf1442", func := "milestone/milestonelaw01.CubeCuts", spec := "cubeCuts", inPlace := ["internal/bytealg.IndexByteString"], apart := false }
def CubeCutsSaid : Prop := cubeCutsRow.holds Try.pinned (OpenSpec.ofChange cubeCutsSpec)

/-- ITS FALSE NEIGHBOUR: 'it returns false'. Refute it at one input. -/
def cubeCutsWrong : ChangeSpec := { name := "cubeCuts", fn := fun _ => fun
  | [d1, d2] => { results := [.lit (.bool false)], args := [d1, d2] }
  | _ => none }
def CubeCutsWrongFalsely : Prop := cubeCutsRow.holds Try.pinned (OpenSpec.ofChange cubeCutsWrong)

/-- 'milestonelaw01.CubeOrder': WHATEVER THE INPUT: true; the input reads as it did. -/
def cubeOrderSpec : ChangeSpec := { name := "cubeOrder", fn := fun _ => fun
  | [d1, d2, d3] => { results := [.lit (.bool true)], args := [d1, d2, d3] }
  | _ => none }
def cubeOrderRow : OpenClaim := { program := "ythldnldhplcfbaa", sum := "ff4d736bf2f79245b7caeb5497dcbd1ff056c3dbe14e77fc3d3a207b8eaf1442", func := "milestone/milestonelaw01.CubeOrder", spec := "cubeOrder", inPlace := ["internal/bytealg.IndexByteString"], apart := false }
def CubeOrderSaid : Prop := cubeOrderRow.holds Try.pinned (OpenSpec.ofChange cubeOrderSpec)

/-- ITS FALSE NEIGHBOUR: 'it returns false'. Refute it at one input. -/
def cubeOrderWrong : ChangeSpec := { name := "cubeOrder", fn := fun _ => fun
  | [d1, d2, d3] => { results := [.lit (.bool false)], args := [d1, d2, d3] }
  | _ => none }
def CubeOrderWrongFalsely : Prop := cubeOrderRow.holds Try.pinned (OpenSpec.ofChange cubeOrderWrong)

/-- 'milestonelaw01.CubeMeets': WHATEVER THE INPUT: true; the input reads as it did. -/
def cubeMeetsSpec : ChangeSpec := { name := "cubeMeets", fn := fun _ => fun
  | [d1, d2] => { results := [.lit (.bool true)], args := [d1, d2] }
  | _ => none }
def cubeMeetsRow : OpenClaim := { program := "ythldnldhplcfbaa", sum := "ff4d736bf2f79245b7caeb5497dcbd1ff056c3dbe14e77fc3d3a207b8eaf1442", func := "milestone/milestonelaw01.CubeMeets", spec := "cubeMeets", inPlace := ["internal/bytealg.IndexByteString"], apart := false }
def CubeMeetsSaid : Prop := cubeMeetsRow.holds Try.pinned (OpenSpec.ofChange cubeMeetsSpec)

/-- ITS FALSE NEIGHBOUR: 'it returns false'. Refute it at one input. -/
def cubeMeetsWrong : ChangeSpec := { name := "cubeMeets", fn := fun _ => fun
  | [d1, d2] => { results := [.lit (.bool false)], args := [d1, d2] }
  | _ => none }
def CubeMeetsWrongFalsely : Prop := cubeMeetsRow.holds Try.pinned (OpenSpec.ofChange cubeMeetsWrong)

/-- 'milestonelaw01.CubeAllOrLeft': WHATEVER THE INPUT: true; the input reads as it did. -/
def cubeAllOrLeftSpec : ChangeSpec := { name := "cubeAllOrLeft", fn := fun _ => fun
  | [d1, d2, d3] => { results := [.lit (.bool true)], args := [d1, d2, d3] }
  | _ => none }
def cubeAllOrLeftRow : OpenClaim := { program := "ythldnldhplcfbaa", sum := "ff4d736bf2f79245b7caeb5497dcbd1ff056c3dbe14e77fc3d3a207b8eaf1442", func := "milestone/milestonelaw01.CubeAllOrLeft", spec := "cubeAllOrLeft", inPlace := ["internal/bytealg.IndexByteString"], apart := false }
def CubeAllOrLeftSaid : Prop := cubeAllOrLeftRow.holds Try.pinned (OpenSpec.ofChange cubeAllOrLeftSpec)

/-- ITS FALSE NEIGHBOUR: 'it returns false'. Refute it at one input. -/
def cubeAllOrLeftWrong : ChangeSpec := { name := "cubeAllOrLeft", fn := fun _ => fun
  | [d1, d2, d3] => { results := [.lit (.bool false)], args := [d1, d2, d3] }
  | _ => none }
def CubeAllOrLeftWrongFalsely : Prop := cubeAllOrLeftRow.holds Try.pinned (OpenSpec.ofChange cubeAllOrLeftWrong)

/-- 'milestonelaw01.CubeParts': WHATEVER THE INPUT: true; the input reads as it did. -/
def cubePartsSpec : ChangeSpec := { name := "cubeParts", fn := fun _ => fun
  | [d1, d2, d3] => { results := [.lit (.bool true)], args := [d1, d2, d3] }
  | _ => none }
def cubePartsRow : OpenClaim := { program := "ythldnldhplcfbaa", sum := "ff4d736bf2f79245b7caeb5497dcbd1ff056c3dbe14e77fc3d3a207b8eaf1442", func := "milestone/milestonelaw01.CubeParts", spec := "cubeParts", inPlace := ["internal/bytealg.IndexByteString"], unfollowed := true, recurses := true, apart := false }
def CubePartsSaid : Prop := cubePartsRow.holds Try.pinned (OpenSpec.ofChange cubePartsSpec)

/-- ITS FALSE NEIGHBOUR: 'it returns false'. Refute it at one input. -/
def cubePartsWrong : ChangeSpec := { name := "cubeParts", fn := fun _ => fun
  | [d1, d2, d3] => { results := [.lit (.bool false)], args := [d1, d2, d3] }
  | _ => none }
def CubePartsWrongFalsely : Prop := cubePartsRow.holds Try.pinned (OpenSpec.ofChange cubePartsWrong)

/-- 'milestonelaw01.CubeLeaves': WHATEVER THE INPUT: true; the input reads as it did. -/
def cubeLeavesSpec : ChangeSpec := { name := "cubeLeaves", fn := fun _ => fun
  | [d1, d2] => { results := [.lit (.bool true)], args := [d1, d2] }
  | _ => none }
def cubeLeavesRow : OpenClaim := { program := "ythldnldhplcfbaa", sum := "ff4d736bf2f79245b7caeb5497dcbd1ff056c3dbe14e77fc3d3a207b8eaf1442", func := "milestone/milestonelaw01.CubeLeaves", spec := "cubeLeaves", inPlace := ["internal/bytealg.IndexByteString"], unfollowed := true, recurses := true, apart := false }
def CubeLeavesSaid : Prop := cubeLeavesRow.holds Try.pinned (OpenSpec.ofChange cubeLeavesSpec)

/-- ITS FALSE NEIGHBOUR: 'it returns false'. Refute it at one input. -/
def cubeLeavesWrong : ChangeSpec := { name := "cubeLeaves", fn := fun _ => fun
  | [d1, d2] => { results := [.lit (.bool false)], args := [d1, d2] }
  | _ => none }
def CubeLeavesWrongFalsely : Prop := cubeLeavesRow.holds Try.pinned (OpenSpec.ofChange cubeLeavesWrong)

/- THE SECOND FORM. 'bulk': how many values and letters a reading holds, each counted each time it is reached (what is shared counts as often as it is met; a slice's spare places count too). A statement '..UptoSaid' is the law's where the arguments, and the package variables that the reading takes, are together of bulk at most 1048576: NARROWER than '..Said'. Prove '..Said' where nothing that the law and all that it calls make is longer than what came in: it says more and counts as full. Else prove '..UptoSaid'. A law counts once. -/
mutual
def uptoBulk {H : Type} : DataW H → Nat
  | .lit (.string bytes) => bytes.length + 1
  | .lit _ => 1
  | .nil => 1
  | .ptr d => uptoBulk d + 1
  | .slice elems spare => uptoBulkAll elems + uptoBulkAll spare + 1
  | .agg parts => uptoBulkAll parts + 1
  | .iface _ d => uptoBulk d + 1
  | .map entries => uptoBulkEntries entries + 1
  | .held _ => 1
def uptoBulkAll {H : Type} : List (DataW H) → Nat
  | [] => 0
  | d :: r => uptoBulk d + uptoBulkAll r
def uptoBulkEntries {H : Type} : List (Lit × DataW H) → Nat
  | [] => 0
  | x :: r => uptoBulkEntry x + uptoBulkEntries r
def uptoBulkEntry {H : Type} : Lit × DataW H → Nat
  | (.string bytes, d) => bytes.length + uptoBulk d + 1
  | (_, d) => uptoBulk d + 1
 end
def uptoSmall : (H : Type) → List (DataW H) → Bool := fun _ ds => decide (uptoBulkAll ds ≤ 1048576)
def OpenSpec.upto (s : _root_.Go.ChangeSpec) : _root_.Go.OpenSpec := { _root_.Go.OpenSpec.ofChange s with cond := some uptoSmall }

/-- 'milestonelaw01.CubeCuts', WHERE WHAT IT READS IS OF BULK AT MOST 1048576: true; the input reads as it did. -/
def cubeCutsUptoRow : OpenClaim := { program := "ythldnldhplcfbaa", sum := "ff4d736bf2f79245b7caeb5497dcbd1ff056c3dbe14e77fc3d3a207b8eaf1442", func := "milestone/milestonelaw01.CubeCuts", spec := "cubeCuts", inPlace := ["internal/bytealg.IndexByteString"], apart := false, narrowed := true }
def CubeCutsUptoSaid : Prop := cubeCutsUptoRow.holds Try.pinned (OpenSpec.upto cubeCutsSpec)

/-- 'milestonelaw01.CubeOrder', WHERE WHAT IT READS IS OF BULK AT MOST 1048576: true; the input reads as it did. -/
def cubeOrderUptoRow : OpenClaim := { program := "ythldnldhplcfbaa", sum := "ff4d736bf2f79245b7caeb5497dcbd1ff056c3dbe14e77fc3d3a207b8eaf1442", func := "milestone/milestonelaw01.CubeOrder", spec := "cubeOrder", inPlace := ["internal/bytealg.IndexByteString"], apart := false, narrowed := true }
def CubeOrderUptoSaid : Prop := cubeOrderUptoRow.holds Try.pinned (OpenSpec.upto cubeOrderSpec)

/-- 'milestonelaw01.CubeMeets', WHERE WHAT IT READS IS OF BULK AT MOST 1048576: true; the input reads as it did. -/
def cubeMeetsUptoRow : OpenClaim := { program := "ythldnldhplcfbaa", sum := "ff4d736bf2f79245b7caeb5497dcbd1ff056c3dbe14e77fc3d3a207b8eaf1442", func := "milestone/milestonelaw01.CubeMeets", spec := "cubeMeets", inPlace := ["internal/bytealg.IndexByteString"], apart := false, narrowed := true }
def CubeMeetsUptoSaid : Prop := cubeMeetsUptoRow.holds Try.pinned (OpenSpec.upto cubeMeetsSpec)

/-- 'milestonelaw01.CubeAllOrLeft', WHERE WHAT IT READS IS OF BULK AT MOST 1048576: true; the input reads as it did. -/
def cubeAllOrLeftUptoRow : OpenClaim := { program := "ythldnldhplcfbaa", sum := "ff4d736bf2f79245b7caeb5497dcbd1ff056c3dbe14e77fc3d3a207b8eaf1442", func := "milestone/milestonelaw01.CubeAllOrLeft", spec := "cubeAllOrLeft", inPlace := ["internal/bytealg.IndexByteString"], apart := false, narrowed := true }
def CubeAllOrLeftUptoSaid : Prop := cubeAllOrLeftUptoRow.holds Try.pinned (OpenSpec.upto cubeAllOrLeftSpec)

/-- 'milestonelaw01.CubeParts', WHERE WHAT IT READS IS OF BULK AT MOST 1048576: true; the input reads as it did. -/
def cubePartsUptoRow : OpenClaim := { program := "ythldnldhplcfbaa", sum := "ff4d736bf2f79245b7caeb5497dcbd1ff056c3dbe14e77fc3d3a207b8eaf1442", func := "milestone/milestonelaw01.CubeParts", spec := "cubeParts", inPlace := ["internal/bytealg.IndexByteString"], unfollowed := true, recurses := true, apart := false, narrowed := true }
def CubePartsUptoSaid : Prop := cubePartsUptoRow.holds Try.pinned (OpenSpec.upto cubePartsSpec)

/-- 'milestonelaw01.CubeLeaves', WHERE WHAT IT READS IS OF BULK AT MOST 1048576: true; the input reads as it did. -/
def cubeLeavesUptoRow : OpenClaim := { program := "ythldnldhplcfbaa", sum := "ff4d736bf2f79245b7caeb5497dcbd1ff056c3dbe14e77fc3d3a207b8eaf1442", func := "milestone/milestonelaw01.CubeLeaves", spec := "cubeLeaves", inPlace := ["internal/bytealg.IndexByteString"], unfollowed := true, recurses := true, apart := false, narrowed := true }
def CubeLeavesUptoSaid : Prop := cubeLeavesUptoRow.holds Try.pinned (OpenSpec.upto cubeLeavesSpec)

end Rows
end Go.Proofs.Ythldnldhplcfbaa
