/-
  Walks over the reference of rules: action, where ports are read; in every case.
-/
import Derived.Test.YtbjkbcbclgfmpaaDoorRgM
namespace Go.Proofs.YtbjkbcbclgfmpaaDoor
open Go.RowKit Go.Shelf Go.Lib Go.Sort
set_option linter.unusedVariables false
set_option linter.unusedSectionVars false
set_option linter.unusedSimpArgs false

end Go.Proofs.YtbjkbcbclgfmpaaDoor
/-
  Walks over the reference of rules: action of kind 'any'.
-/
namespace Go.Proofs.YtbjkbcbclgfmpaaDoor
open Go.RowKit Go.Shelf Go.Lib Go.Sort
set_option linter.unusedVariables false
set_option linter.unusedSectionVars false
set_option linter.unusedSimpArgs false

end Go.Proofs.YtbjkbcbclgfmpaaDoor
