/-
  Walks over package cube: of.
-/
import Derived.WalkKit
import Derived.WalkSpells
import Derived.WalkLawsBesides
import Derived.Lib.Hide
import Derived.Test.YtlbelkjgaeaaeaaGreatShelf
import Derived.Test.YtlbelkjgaeaaeaaGreatCubePure
namespace Go.Proofs.YtlbelkjgaeaaeaaGreat
open Go.RowKit

theorem ib_any (s : ByteArray) (c : UInt8) (w : World) :
    Calls Tryz.prog 81 #[.string s, .int .u8 (c.toNat : Int)] w fun e w' => e = .returned (.int .i64 (Lib.indexByte s.data.toList c)) ∧ w = w' := by
  refine (Tryz.strings_IndexByte s c.toNat w).mono ?_
  rintro e w' ⟨rfl, rfl⟩
  exact ⟨by simp, rfl⟩

theorem all_take_succ (s : ByteArray) (n : Nat) (h : n < s.size) (p : UInt8 → Bool) : (s.data.toList.take (n + 1)).all p = ((s.data.toList.take n).all p && p s[n]) := by
  rw [List.take_succ_eq_append_getElem (by simpa using h)]
  simp
  rfl

theorem all_of_byte {s : ByteArray} {n : Nat} (h : n < s.size) {p : UInt8 → Bool} (hp : p s[n] = false) : s.data.toList.all p = false := by
  rw [List.all_eq_false]
  exact ⟨s[n], by rw [Array.mem_toList_iff]; exact Array.getElem_mem (xs := s.data) (i := n) h, by simp [hp]⟩

theorem ret_bool {a b : Bool} (h : a = b) : Ending.returned (.bool a) = .returned (.bool b) := by rw [h]

set_option maxHeartbeats 400000 in
set_option maxRecDepth 20000 in
theorem of_any (s kinds : ByteArray) (w : World) (hs : s.size ≤ maxLen) :
    Calls Tryz.prog 68 #[.string s, .string kinds] w fun e w' => e = .returned (.bool (Cb.ofB s.data.toList kinds.data.toList)) ∧ w = w' := by
  unfold maxLen at hs
  by_cases h1 : 1 ≤ s.size ∧ s.size ≤ 128
  · obtain ⟨h1, h2⟩ := h1
    go_enter Tryz.func68, Tryz.ntmps68
    go_wp2_with fail
    go_loop [5, 16] (fun _ k => ∃ n : Nat, n ≤ s.size ∧ k = .int .i64 n ∧ Hid ((s.data.toList.take n).all (fun c => kinds.data.toList.contains c) = true)) (fun _ k => s.size - (intOf k).toNat)
    case atStart => exact ⟨0, Nat.zero_le _, rfl, rfl⟩
    case round =>
      obtain ⟨n, hn, rfl, HA⟩ := hrel
      by_cases hlt : n < s.size
      · have hi := Cb.indexByte_lt kinds.data.toList s[n]
        by_cases hc : kinds.data.toList.contains s[n] = true
        · have hge : 0 ≤ Lib.indexByte kinds.data.toList s[n] := by
            rcases Int.lt_or_le (Lib.indexByte kinds.data.toList s[n]) 0 with h | h
            · rw [hi.1 h] at hc; cases hc
            · exact h
          have HC := Lib.hid hc
          clear hi hc
          go_wp2_with ((with_reducible refine (ib_any _ _ _).mono ?_); rintro e w' ⟨rfl, rfl⟩)
          go_round
          case rel => exact ⟨n + 1, by omega, by go_num, by unfold Hid; rw [all_take_succ s n hlt, HA.out, HC.out]; rfl⟩
          case measure => simp [intOf]; omega
        · have hlt0 : Lib.indexByte kinds.data.toList s[n] < 0 := hi.2 (by simpa using hc)
          have HC := Lib.hid (all_of_byte hlt (p := fun c => kinds.data.toList.contains c) (by simpa using hc))
          clear hi hc
          go_wp2_with ((with_reducible refine (ib_any _ _ _).mono ?_); rintro e w' ⟨rfl, rfl⟩)
          go_ret
          exact ⟨ret_bool (by unfold Cb.ofB; rw [HC.out]; simp), rfl⟩
      · have HE : Hid (n = s.size) := by unfold Hid; omega
        go_wp2_with fail
        go_ret
        have h3 := HA.out
        rw [HE.out, List.take_of_length_le (by simp)] at h3
        exact ⟨ret_bool (by unfold Cb.ofB; rw [h3]; simp; omega), rfl⟩
  · have HF := Lib.hid (show Cb.ofB s.data.toList kinds.data.toList = false from by unfold Cb.ofB; simp; omega)
    go_enter Tryz.func68, Tryz.ntmps68
    go_wp2_with fail
    all_goals
      go_ret
      exact ⟨ret_bool HF.out.symm, rfl⟩
end Go.Proofs.YtlbelkjgaeaaeaaGreat
