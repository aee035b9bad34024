/-
  Nothing beyond the shelf.
-/
import Derived.Test.YtlamhpiiikcpiaaGreatDoorShelf
