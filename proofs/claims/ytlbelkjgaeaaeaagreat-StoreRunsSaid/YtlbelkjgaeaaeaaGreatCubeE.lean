/-
  Walks over package cube: Meet, Inside, Has.
-/
import Derived.Test.YtlbelkjgaeaaeaaGreatCubeD
namespace Go.Proofs.YtlbelkjgaeaaeaaGreat
open Go.RowKit

theorem two_rds (w : World) (a b : ByteArray) (o : Nat) (ho : o = w.heap.size) (t : TypeId) : RdsS (w.alloc (.cells #[.string a, .string b] t)) (.slice (some ⟨o, 0, none⟩) 2 2) [a, b] := by
  subst ho
  refine rdsS_mk (ss := [a, b]) (by simp) (by unfold maxLen; simp) (by simp) ?_
  intro i hi
  match i, hi with
  | 0, _ => simp [go_sem]
  | 1, _ => simp [go_sem]

theorem str_beq (a b : ByteArray) : (a.toList == b.toList) = (a.data.toList == b.data.toList) := by rw [Lib.toList_data, Lib.toList_data]

theorem two_le {a b : ByteArray} (ha : a.size ≤ maxLen) (hb : b.size ≤ maxLen) : ∀ s ∈ [a, b], s.size ≤ maxLen := by
  intro s hs
  simp at hs
  rcases hs with rfl | rfl <;> assumption

end Go.Proofs.YtlbelkjgaeaaeaaGreat
