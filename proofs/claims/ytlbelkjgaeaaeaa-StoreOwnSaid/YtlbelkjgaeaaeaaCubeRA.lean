/-
  Walks over the reference of layer 1: Right, Header, wrong.
-/
import Derived.Test.YtlbelkjgaeaaeaaCubeG
namespace Go.Proofs.Ytlbelkjgaeaaeaa
open Go.RowKit

theorem byte_ne {c : UInt8} (d : UInt8) (h : c ≠ d) (k : Int) (hk : k = (d.toNat : Int)) : (((c.toNat : Nat) : Int) == k) = false ∧ (((c.toNat : Nat) : Int) != k) = true := by
  subst hk
  have e : (((c.toNat : Nat) : Int) == ((d.toNat : Nat) : Int)) = false := by rw [u8_eq]; simpa using h
  exact ⟨e, by rw [bne, e]; rfl⟩
theorem byte_eq {c : UInt8} (d : UInt8) (h : c = d) (k : Int) (hk : k = (d.toNat : Int)) : (((c.toNat : Nat) : Int) == k) = true ∧ (((c.toNat : Nat) : Int) != k) = false := by
  subst hk; subst h
  have e : (((c.toNat : Nat) : Int) == ((c.toNat : Nat) : Int)) = true := by rw [u8_eq]; simp
  exact ⟨e, by rw [bne, e]; rfl⟩

theorem str_nil (s : ByteArray) (h : s.size = 0) : s.toList = [] := by
  rw [Lib.toList_data]; exact List.eq_nil_of_length_eq_zero (by rw [Array.length_toList]; exact h)
theorem str_not_nil (s : ByteArray) (h : ¬ s.size = 0) : ¬ s.toList = [] := by
  rw [Lib.toList_data]; intro e; exact h (by have := congrArg List.length e; rw [Array.length_toList] at this; exact this)

set_option maxHeartbeats 400000 in
set_option maxRecDepth 20000 in
theorem Right_any (s : ByteArray) (w : World) (hs : s.size ≤ maxLen) :
    Calls Try.prog 56 #[.string s] w fun e w' => e = .returned (.bool (Cb.isCube s.data.toList)) ∧ w = w' := by
  unfold maxLen at hs
  go_enter Try.func56, Try.ntmps56
  go_wp2_with fail
  go_loop [3] (fun k => ∃ n : Nat, n ≤ s.size ∧ k = .int .i64 n ∧ Hid ((s.data.toList.take n).all (fun c => [48, 49, 120].contains c) = true)) (fun k => s.size - (intOf k).toNat)
  case atStart => exact ⟨0, Nat.zero_le _, rfl, rfl⟩
  case round =>
    obtain ⟨n, hn, rfl, HA⟩ := hrel
    by_cases hlt : n < s.size
    · by_cases h0 : s[n] = 48
      · have HC : Hid (([48, 49, 120] : List UInt8).contains s[n] = true) := by unfold Hid; rw [h0]; rfl
        obtain ⟨e1, e2⟩ := byte_eq 48 h0 48 rfl
        clear h0
        go_wp2_with fail
        go_round
        case rel => exact ⟨n + 1, by omega, by go_num, by unfold Hid; rw [all_take_succ s n hlt, HA.out, HC.out]; rfl⟩
        case measure => simp [intOf]; omega
      · obtain ⟨e1, e2⟩ := byte_ne 48 h0 48 rfl
        by_cases h1 : s[n] = 49
        · have HC : Hid (([48, 49, 120] : List UInt8).contains s[n] = true) := by unfold Hid; rw [h1]; rfl
          obtain ⟨e3, e4⟩ := byte_eq 49 h1 49 rfl
          clear h0 h1
          go_wp2_with fail
          go_round
          case rel => exact ⟨n + 1, by omega, by go_num, by unfold Hid; rw [all_take_succ s n hlt, HA.out, HC.out]; rfl⟩
          case measure => simp [intOf]; omega
        · obtain ⟨e3, e4⟩ := byte_ne 49 h1 49 rfl
          by_cases h2 : s[n] = 120
          · have HC : Hid (([48, 49, 120] : List UInt8).contains s[n] = true) := by unfold Hid; rw [h2]; rfl
            obtain ⟨e5, e6⟩ := byte_eq 120 h2 120 rfl
            clear h0 h1 h2
            go_wp2_with fail
            go_round
            case rel => exact ⟨n + 1, by omega, by go_num, by unfold Hid; rw [all_take_succ s n hlt, HA.out, HC.out]; rfl⟩
            case measure => simp [intOf]; omega
          · obtain ⟨e5, e6⟩ := byte_ne 120 h2 120 rfl
            have HC := Lib.hid (all_of_byte hlt (p := fun c => ([48, 49, 120] : List UInt8).contains c) (by simp; exact ⟨h0, h1, h2⟩))
            clear h0 h1 h2
            go_wp2_with fail
            go_ret
            exact ⟨ret_bool (by unfold Cb.isCube Cb.ofB; rw [HC.out]; simp), rfl⟩
    · have HE : Hid (n = s.size) := by unfold Hid; omega
      have h3 := HA.out
      rw [HE.out, List.take_of_length_le (by simp)] at h3
      have HG : Hid (Cb.isCube s.data.toList = (decide (1 ≤ s.size) && decide (s.size ≤ 128))) := by unfold Hid Cb.isCube Cb.ofB; rw [h3]; simp
      clear h3
      by_cases he : s.size = 0
      · have h5 : s.toList = [] := str_nil s he
        have h6 : (!s.toList.isEmpty) = false := by rw [h5]; rfl
        have HF : Hid (Cb.isCube s.data.toList = false) := by unfold Hid; rw [HG.out, he]; rfl
        clear he
        go_wp2_with fail
        go_ret
        exact ⟨ret_bool HF.out.symm, rfl⟩
      · have h5 : ¬ s.toList = [] := str_not_nil s he
        have h6 : (!s.toList.isEmpty) = true := by simpa using h5
        have hz : Hid (1 ≤ s.size) := by unfold Hid; omega
        clear he
        go_wp2_with fail
        go_ret
        exact ⟨ret_bool ((decide_eq_decide.2 (by omega) : decide ((s.size : Int) ≤ 128) = decide (s.size ≤ 128)).trans (by rw [HG.out, decide_eq_true hz.out, Bool.true_and])), rfl⟩

theorem isHead_cube {s : List UInt8} (h : Cb.isHead s = true) : Cb.isCube s = true := by
  unfold Cb.isHead Cb.ofB at h
  unfold Cb.isCube Cb.ofB
  simp only [Bool.and_eq_true] at h ⊢
  refine ⟨h.1, ?_⟩
  rw [List.all_eq_true] at h ⊢
  intro c hc
  have := h.2 c hc
  simp at this ⊢
  rcases this with h | h <;> simp [h]

theorem Right_true {s : ByteArray} (w : World) (hs : s.size ≤ maxLen) (h : Cb.isCube s.data.toList = true) :
    Calls Try.prog 56 #[.string s] w fun e w' => e = .returned (.bool true) ∧ w = w' :=
  (Right_any s w hs).mono fun _ _ ⟨h1, h2⟩ => ⟨h1.trans (ret_bool h), h2⟩
theorem Right_false {s : ByteArray} (w : World) (hs : s.size ≤ maxLen) (h : Cb.isCube s.data.toList = false) :
    Calls Try.prog 56 #[.string s] w fun e w' => e = .returned (.bool false) ∧ w = w' :=
  (Right_any s w hs).mono fun _ _ ⟨h1, h2⟩ => ⟨h1.trans (ret_bool h), h2⟩
theorem below_drewN {B : Nat} {w : World} (k : Nat) : Below B w (w.drewN k) := ⟨rfl, rfl, rfl, Nat.le_refl _, fun _ _ => rfl⟩

end Go.Proofs.Ytlbelkjgaeaaeaa
