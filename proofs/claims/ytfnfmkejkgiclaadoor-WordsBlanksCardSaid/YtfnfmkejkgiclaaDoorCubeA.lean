/-
  Walks over package cube: of.
-/
import Derived.WalkKit
import Derived.WalkSpells
import Derived.WalkLawsBesides
import Derived.Lib.Hide
import Derived.Test.YtfnfmkejkgiclaaDoorShelf
import Derived.Test.YtfnfmkejkgiclaaDoorCubePure
namespace Go.Proofs.YtfnfmkejkgiclaaDoor
open Go.RowKit

theorem ib_any (s : ByteArray) (c : UInt8) (w : World) :
    Calls Tryd.prog 34 #[.string s, .int .u8 (c.toNat : Int)] w fun e w' => e = .returned (.int .i64 (Lib.indexByte s.data.toList c)) ∧ w = w' := by
  refine (Tryd.strings_IndexByte s c.toNat w).mono ?_
  rintro e w' ⟨rfl, rfl⟩
  exact ⟨by simp, rfl⟩

theorem all_take_succ (s : ByteArray) (n : Nat) (h : n < s.size) (p : UInt8 → Bool) : (s.data.toList.take (n + 1)).all p = ((s.data.toList.take n).all p && p s[n]) := by
  rw [List.take_succ_eq_append_getElem (by simpa using h)]
  simp
  rfl

theorem all_of_byte {s : ByteArray} {n : Nat} (h : n < s.size) {p : UInt8 → Bool} (hp : p s[n] = false) : s.data.toList.all p = false := by
  rw [List.all_eq_false]
  exact ⟨s[n], by rw [Array.mem_toList_iff]; exact Array.getElem_mem (xs := s.data) (i := n) h, by simp [hp]⟩

theorem ret_bool {a b : Bool} (h : a = b) : Ending.returned (.bool a) = .returned (.bool b) := by rw [h]

end Go.Proofs.YtfnfmkejkgiclaaDoor
