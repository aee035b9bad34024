/-
  Nothing beyond the shelf.
-/
import Derived.Test.YtbjkbcbclgfmpaaDoorShelf
