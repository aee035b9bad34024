/-
  Walks over package cube: must.
-/
import Derived.Test.YtfnfmkejkgiclaaDoorCubeA
import Derived.Test.YtfnfmkejkgiclaaDoorRds
namespace Go.Proofs.YtfnfmkejkgiclaaDoor
open Go.RowKit

/-- Strings as lists of bytes. -/
abbrev lb (ss : List ByteArray) : List (List UInt8) := ss.map (·.data.toList)

theorem lb_len (ss : List ByteArray) (i : Nat) (h : i < (lb ss).length) (h' : i < ss.length) (h0 : 0 < ss.length) :
    ((lb ss)[i].length == ((lb ss).headD []).length) = (ss[i].size == (ss[0]'h0).size) := by
  have e1 : (lb ss)[i].length = ss[i].size := by simp
  have e2 : ((lb ss).headD []).length = (ss[0]'h0).size := by
    cases ss with
    | nil => simp at h0
    | cons s0 r => simp
  rw [e1, e2]

end Go.Proofs.YtfnfmkejkgiclaaDoor
