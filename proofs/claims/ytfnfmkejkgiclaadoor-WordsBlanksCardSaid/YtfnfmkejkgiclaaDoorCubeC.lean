/-
  Walks over package cube: meet.
-/
import Derived.BigQuiet
import Derived.Deep.QuietTactic
import Derived.Test.YtfnfmkejkgiclaaDoorCubeB
import Derived.Test.YtfnfmkejkgiclaaDoorBytes
namespace Go.Proofs.YtfnfmkejkgiclaaDoor
open Go.RowKit

theorem u8_eq (x y : UInt8) : (((x.toNat : Nat) : Int) == ((y.toNat : Nat) : Int)) = (x == y) := by
  rw [Bool.eq_iff_iff, beq_iff_eq, beq_iff_eq, ← UInt8.toNat_inj]; omega

end Go.Proofs.YtfnfmkejkgiclaaDoor
