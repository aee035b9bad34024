/-
  Walks: the reference's number, stamp and part.
-/
import Derived.Test.YtlmpaeefhpahoaaDoorVecTD
namespace Go.Proofs.YtlmpaeefhpahoaaDoor
open Go.RowKit

/-- What a byte is told as. -/
theorem u8_sub48 (c : UInt8) : IntKind.u8.wrap ((c.toNat : Int) - 48) = (((c - 48).toNat : Nat) : Int) := by
  rw [IntKind.wrap_u8, UInt8.toNat_sub]
  have h1 : c.toNat < 256 := c.toNat_lt
  have h2 : (48 : UInt8).toNat = 48 := rfl
  rw [h2]
  omega

theorem numR_take (s : ByteArray) (n : Nat) (h : n < s.size) (h2 : n < 20) : Tx.numR (s.data.toList.take (n + 1)) = Tx.numStep (Tx.numR (s.data.toList.take n)) s[n] := by
  have hl : n < s.data.toList.length := by simpa using h
  unfold Tx.numR
  rw [List.take_take, List.take_take, Nat.min_eq_right (by omega), Nat.min_eq_right (by omega), List.take_succ_eq_append_getElem hl, List.foldl_append]
  rfl

theorem num_wrap (q d : Nat) (hd : d < 256) : IntKind.u64.wrap (IntKind.u64.wrap ((q : Int) * 10) + (IntKind.u64.wrap (d : Int)).tmod 10) = ((((q * 10 + d % 10) % 18446744073709551616 : Nat)) : Int) := by
  have e1 : IntKind.u64.wrap (d : Int) = d := by rw [IntKind.wrap_u64]; omega
  have e2 : (d : Int).tmod 10 = ((d % 10 : Nat) : Int) := by
    rw [Int.tmod_eq_emod_of_nonneg (by omega)]
    omega
  rw [e1, e2, IntKind.wrap_u64, IntKind.wrap_u64]
  omega

set_option maxHeartbeats 1600000 in
theorem number_any (s : ByteArray) (w : World) : Calls Tryd.prog 67 #[.string s] w fun e w' => e = .returned (.int .u64 (Tx.numR s.data.toList)) ∧ w = w' := by
  generalize hR : (fun (e : Ending) (w' : World) => _) = R
  have HR := Lib.hid hR
  clear hR
  go_enter Tryd.func67, Tryd.ntmps67
  go_wp2_with fail
  go_loop [3, 4] (fun v k => ∃ n q : Nat, n ≤ s.size ∧ n ≤ 20 ∧ k = .int .i64 n ∧ v = .int .u64 q ∧ Hid (Tx.numR (s.data.toList.take n) = q)) (fun _ k => 20 - (intOf k).toNat)
  case atStart => exact ⟨0, 0, Nat.zero_le _, Nat.zero_le _, rfl, rfl, rfl⟩
  case round =>
    obtain ⟨n, q, hn, hn2, rfl, rfl, HQ⟩ := hrel
    by_cases hlt : n < s.size
    · by_cases hlt2 : n < 20
      · have hi0 : (0 : Int) ≤ (n : Int) := by omega
        have hi1 : (n : Int) < (s.size : Int) := by omega
        have hi2 : (n : Int) < 20 := by omega
        have HN := Lib.hid (numR_take s n hlt hlt2)
        have hsub := u8_sub48 s[n]
        go_wp2_with fail
        go_round
        case rel => exact ⟨n + 1, Tx.numStep q s[n], by omega, by omega, by go_num, by rw [num_wrap q _ (UInt8.toNat_lt _)]; rfl, by show _ = _; rw [HN.out, HQ.out]⟩
        case measure => simp [intOf]; omega
      · have hi2 : ¬ (n : Int) < 20 := by omega
        have hi1 : (n : Int) < (s.size : Int) := by omega
        go_wp2_with fail
        first | go_ret | skip
        rw [← HR.out]
        refine ⟨?_, rfl⟩
        have : Tx.numR s.data.toList = q := by
          rw [← HQ.out]
          unfold Tx.numR
          rw [show n = 20 by omega, List.take_take, Nat.min_self]
        rw [this]
    · have hi1 : ¬ (n : Int) < (s.size : Int) := by omega
      go_wp2_with fail
      first | go_ret | skip
      rw [← HR.out]
      refine ⟨?_, rfl⟩
      have : Tx.numR s.data.toList = q := by
        rw [← HQ.out, List.take_of_length_le (l := s.data.toList) (by simp; omega)]
      rw [this]

/-- What part answers. -/
def partV (p : List UInt8) : Value × Bool := match Tx.stOf p with | some x => (.agg #[.int .i64 x.1, .int .u64 x.2], true) | none => (.agg #[.int .i64 0, .int .u64 0], false)
end Go.Proofs.YtlmpaeefhpahoaaDoor
