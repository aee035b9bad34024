/-
  Walks over package cube: the deferred call that recovers.
-/
import Derived.Defers
import Derived.Recover
import Derived.WideLaws
import Derived.Laws.Pointers
import Derived.Test.YtfnfmkejkgiclaaDoorCubeC
namespace Go.Proofs.YtfnfmkejkgiclaaDoor
open Go.RowKit

end Go.Proofs.YtfnfmkejkgiclaaDoor
