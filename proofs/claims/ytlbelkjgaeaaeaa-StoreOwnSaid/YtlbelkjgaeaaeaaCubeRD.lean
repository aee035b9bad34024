/-
  Walks over the reference of layer 1: Texts, Meet, Inside, Has, Cut.
-/
import Derived.Test.YtlbelkjgaeaaeaaCubeRC
namespace Go.Proofs.Ytlbelkjgaeaaeaa
open Go.RowKit

theorem Texts_empty (a1 a2 : Option Addr) (c1 c2 : Nat) (w : World) :
    Calls Try.prog 39 #[.slice a1 0 c1, .slice a2 0 c2] w fun e w' => e = .returned (.bool true) ∧ ∃ k, w' = w.drewN k := by
  go_enter Try.func39, Try.ntmps39
  go_wp2_with fail
  go_loop [5] (fun k => k = .int .i64 0) (fun k => 0)
  case atStart => rfl
  case round =>
    subst hrel
    go_wp2_with fail
    go_ret
    exact ⟨rfl, 0, rfl⟩

set_option maxHeartbeats 400000 in
set_option maxRecDepth 20000 in
theorem Texts_rows (ss : List ByteArray) (b1 o1 c1 b2 o2 c2 len : Nat) (w : World) (hl : Hid (len = ss.length)) (hlm : len ≤ 9223372036854775807)
    (hc1 : Hid (∀ i (h : i < ss.length), w.cell? ⟨b1, o1 + i, none⟩ = some (.string ss[i])))
    (hc2 : Hid (∀ i (h : i < ss.length), w.cell? ⟨b2, o2 + i, none⟩ = some (.string ss[i]))) :
    Calls Try.prog 39 #[.slice (some ⟨b1, o1, none⟩) len c1, .slice (some ⟨b2, o2, none⟩) len c2] w fun e w' => e = .returned (.bool true) ∧ ∃ k, w' = w.drewN k := by
  go_enter Try.func39, Try.ntmps39
  go_wp2_with fail
  go_loopw [5] (fun k wr => ∃ n : Nat, n ≤ len ∧ k = .int .i64 n ∧ ∃ q, wr = w.drewN q) (fun k _ => len - (intOf k).toNat)
  case atStart => exact ⟨0, Nat.zero_le _, rfl, 0, rfl⟩
  case round =>
    obtain ⟨n, hn, rfl, q, rfl⟩ := hrel
    by_cases hlt : n < len
    · have hn' : n < ss.length := by rw [← hl.out]; omega
      have hcell1 := hc1.out n hn'
      have hcell2 := hc2.out n hn'
      have hi0 : (0 : Int) ≤ (n : Int) := by omega
      have hi1 : (n : Int) < (len : Int) := by omega
      have he : (ss[n].toList != ss[n].toList) = false := by simp
      go_wp2_with fail
      go_quiet (fail)
      go_wp2_with fail
      go_roundw
      case rel => exact ⟨n + 1, by omega, by go_num, _, rfl⟩
      case measure => simp [intOf]; omega
    · go_wp2_with fail
      go_ret
      exact ⟨rfl, _, rfl⟩

theorem Texts_same {ss : List ByteArray} {v1 v2 : Value} {w : World} (h1 : RdsS w v1 ss) (h2 : RdsS w v2 ss) :
    Calls Try.prog 39 #[v1, v2] w fun e w' => e = .returned (.bool true) ∧ ∃ k, w' = w.drewN k := by
  rcases rdsS_cases h1 with ⟨_, _, rfl, rfl⟩ | ⟨b1, o1, l1, c1, rfl, hl1, hc1, hm1, hb1, hx1⟩
  · rcases rdsS_cases h2 with ⟨_, _, rfl, _⟩ | ⟨b2, o2, l2, c2, rfl, hl2, hc2, hm2, hb2, hx2⟩
    · exact Texts_empty _ _ _ _ w
    · have : l2 = 0 := by simpa using hl2
      subst this
      exact Texts_empty _ _ _ _ w
  · rcases rdsS_cases h2 with ⟨_, _, rfl, rfl⟩ | ⟨b2, o2, l2, c2, rfl, hl2, hc2, hm2, hb2, hx2⟩
    · have : l1 = 0 := by simpa using hl1
      subst this
      exact Texts_empty _ _ _ _ w
    · obtain rfl : l1 = l2 := by omega
      unfold maxLen at hm1
      exact Texts_rows ss b1 o1 c1 b2 o2 c2 l1 w hl1 (by omega) hx1 hx2

end Go.Proofs.Ytlbelkjgaeaaeaa
