/-
  Walks over package cube: Has, Cut.
-/
import Derived.Test.YtfnfmkejkgiclaaDoorCubeF
namespace Go.Proofs.YtfnfmkejkgiclaaDoor
open Go.RowKit

end Go.Proofs.YtfnfmkejkgiclaaDoor
