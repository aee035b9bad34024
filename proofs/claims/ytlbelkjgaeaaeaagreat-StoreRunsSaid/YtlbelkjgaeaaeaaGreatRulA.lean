/-
  Walks over package words and the reference: digit, letter, Name.
-/
import Derived.Test.YtlbelkjgaeaaeaaGreatRulPure
import Derived.Test.YtlbelkjgaeaaeaaGreatCubeRA
namespace Go.Proofs.YtlbelkjgaeaaeaaGreat
open Go.RowKit

theorem digit_any (c : UInt8) (w : World) : Calls Tryz.prog 103 #[.int .u8 (c.toNat : Int)] w fun e w' => e = .returned (.bool (Rp.isDigit c)) ∧ w = w' := by
  unfold Rp.isDigit
  by_cases h1 : 48 ≤ c.toNat
  · by_cases h2 : c.toNat ≤ 57
    · have h1z : (48 : Int) ≤ (c.toNat : Int) := by omega
      have h2z : (c.toNat : Int) ≤ 57 := by omega
      go_enter Tryz.func103, Tryz.ntmps103
      go_wp2_with fail
      go_ret
      exact ⟨ret_bool (by simp [*]), rfl⟩
    · have h1z : (48 : Int) ≤ (c.toNat : Int) := by omega
      have h2z : ¬ (c.toNat : Int) ≤ 57 := by omega
      go_enter Tryz.func103, Tryz.ntmps103
      go_wp2_with fail
      go_ret
      exact ⟨ret_bool (by simp [*]), rfl⟩
  · have h1z : ¬ (48 : Int) ≤ (c.toNat : Int) := by omega
    go_enter Tryz.func103, Tryz.ntmps103
    go_wp2_with fail
    go_ret
    exact ⟨ret_bool (by simp [*]), rfl⟩

theorem rdigit_any (c : UInt8) (w : World) : Calls Tryz.prog 89 #[.int .u8 (c.toNat : Int)] w fun e w' => e = .returned (.bool (Rp.isDigit c)) ∧ w = w' := by
  unfold Rp.isDigit
  by_cases h1 : 48 ≤ c.toNat
  · by_cases h2 : c.toNat ≤ 57
    · have h1z : (48 : Int) ≤ (c.toNat : Int) := by omega
      have h2z : (c.toNat : Int) ≤ 57 := by omega
      go_enter Tryz.func89, Tryz.ntmps89
      go_wp2_with fail
      go_ret
      exact ⟨ret_bool (by simp [*]), rfl⟩
    · have h1z : (48 : Int) ≤ (c.toNat : Int) := by omega
      have h2z : ¬ (c.toNat : Int) ≤ 57 := by omega
      go_enter Tryz.func89, Tryz.ntmps89
      go_wp2_with fail
      go_ret
      exact ⟨ret_bool (by simp [*]), rfl⟩
  · have h1z : ¬ (48 : Int) ≤ (c.toNat : Int) := by omega
    go_enter Tryz.func89, Tryz.ntmps89
    go_wp2_with fail
    go_ret
    exact ⟨ret_bool (by simp [*]), rfl⟩

set_option maxRecDepth 20000 in
theorem low_or : ∀ n : Fin 256, bits BinOp.or IntKind.u8 ((n.val : Nat) : Int) 32 = ((n.val ||| 32 : Nat) : Int) := by decide
set_option maxRecDepth 20000 in
theorem low_letter : ∀ n : Fin 256, (decide (97 ≤ n.val ||| 32) && decide (n.val ||| 32 ≤ 122)) = ((decide (97 ≤ n.val) && decide (n.val ≤ 122)) || (decide (65 ≤ n.val) && decide (n.val ≤ 90))) := by decide

theorem digit_is (c : UInt8) (d : Bool) (h : Rp.isDigit c = d) (w : World) : Calls Tryz.prog 103 #[.int .u8 (c.toNat : Int)] w fun e w' => e = .returned (.bool d) ∧ w = w' := by
  subst h; exact digit_any c w
theorem rdigit_is (c : UInt8) (d : Bool) (h : Rp.isDigit c = d) (w : World) : Calls Tryz.prog 89 #[.int .u8 (c.toNat : Int)] w fun e w' => e = .returned (.bool d) ∧ w = w' := by
  subst h; exact rdigit_any c w

theorem byte_is (c d : UInt8) : (c == d) = decide (c.toNat = d.toNat) := by
  by_cases h : c = d
  · subst h; simp
  · have : ¬ c.toNat = d.toNat := fun e => h (UInt8.toNat.inj e)
    simp [h, this]

theorem isLetter_low (c : UInt8) : Rp.isLetter c = ((decide (97 ≤ c.toNat ||| 32) && decide (c.toNat ||| 32 ≤ 122)) || Rp.isDigit c || decide (c.toNat = 95) || decide (c.toNat = 45)) := by
  have := low_letter ⟨c.toNat, c.toNat_lt⟩
  simp only at this
  unfold Rp.isLetter
  rw [this, byte_is, byte_is]
  rfl

theorem letter_any (c : UInt8) (w : World) : Calls Tryz.prog 104 #[.int .u8 (c.toNat : Int)] w fun e w' => e = .returned (.bool (Rp.isLetter c)) ∧ w = w' := by
  rw [isLetter_low]
  have gl := low_or ⟨c.toNat, c.toNat_lt⟩
  simp only at gl
  generalize c.toNat ||| 32 = low at gl
  obtain ⟨d, hd⟩ : ∃ d, Rp.isDigit c = d := ⟨_, rfl⟩
  have HD := Lib.hid hd
  rw [hd]
  clear hd
  by_cases h1 : 97 ≤ low ∧ low ≤ 122
  · have h1z : (97 : Int) ≤ (low : Int) := by omega
    have h2z : (low : Int) ≤ 122 := by omega
    go_enter Tryz.func104, Tryz.ntmps104
    go_wp2_with fail
    go_ret
    exact ⟨ret_bool (by simp [h1.1, h1.2]), rfl⟩
  · have hx : (decide (97 ≤ low) && decide (low ≤ 122)) = false := by simp; omega
    rw [hx]
    have key : Calls Tryz.prog 104 #[.int .u8 (c.toNat : Int)] w fun e w' => e = .returned (.bool (d || decide (c.toNat = 95) || decide (c.toNat = 45))) ∧ w = w' := by
      by_cases h97 : 97 ≤ low
      · have h1z : (97 : Int) ≤ (low : Int) := by omega
        have h2z : ¬ (low : Int) ≤ 122 := by omega
        cases d with
        | true =>
          clear hx h1
          go_enter Tryz.func104, Tryz.ntmps104
          go_wp2_with ((with_reducible refine (digit_is c _ HD.out _).mono ?_); rintro e w' ⟨rfl, rfl⟩)
          go_ret
          exact ⟨rfl, rfl⟩
        | false =>
          clear hx h1
          go_enter Tryz.func104, Tryz.ntmps104
          go_wp2_with ((with_reducible refine (digit_is c _ HD.out _).mono ?_); rintro e w' ⟨rfl, rfl⟩)
          all_goals (go_ret; exact ⟨ret_bool (by first | (rw [Bool.eq_iff_iff]; simp; omega) | (simp; omega)), rfl⟩)
      · have h1z : ¬ (97 : Int) ≤ (low : Int) := by omega
        cases d with
        | true =>
          clear hx h1
          go_enter Tryz.func104, Tryz.ntmps104
          go_wp2_with ((with_reducible refine (digit_is c _ HD.out _).mono ?_); rintro e w' ⟨rfl, rfl⟩)
          go_ret
          exact ⟨rfl, rfl⟩
        | false =>
          clear hx h1
          go_enter Tryz.func104, Tryz.ntmps104
          go_wp2_with ((with_reducible refine (digit_is c _ HD.out _).mono ?_); rintro e w' ⟨rfl, rfl⟩)
          all_goals (go_ret; exact ⟨ret_bool (by first | (rw [Bool.eq_iff_iff]; simp; omega) | (simp; omega)), rfl⟩)
    simpa using key

theorem rletter_any (c : UInt8) (w : World) : Calls Tryz.prog 88 #[.int .u8 (c.toNat : Int)] w fun e w' => e = .returned (.bool (Rp.isLetter c)) ∧ w = w' := by
  unfold Rp.isLetter
  rw [byte_is, byte_is]
  obtain ⟨d, hd⟩ : ∃ d, Rp.isDigit c = d := ⟨_, rfl⟩
  have HD := Lib.hid hd
  rw [hd]
  clear hd
  cases d with
  | true =>
    go_enter Tryz.func88, Tryz.ntmps88
    go_wp2_with ((with_reducible refine (rdigit_is c _ HD.out _).mono ?_); rintro e w' ⟨rfl, rfl⟩)
    all_goals (go_ret; exact ⟨ret_bool (by first | rfl | (rw [Bool.eq_iff_iff]; simp; done) | (rw [Bool.eq_iff_iff]; simp; omega)), rfl⟩)
  | false =>
    go_enter Tryz.func88, Tryz.ntmps88
    go_wp2_with ((with_reducible refine (rdigit_is c _ HD.out _).mono ?_); rintro e w' ⟨rfl, rfl⟩)
    all_goals (go_ret; exact ⟨ret_bool (by first | rfl | (rw [Bool.eq_iff_iff]; simp; done) | (rw [Bool.eq_iff_iff]; simp; omega)), rfl⟩)

theorem letter_is (c : UInt8) (d : Bool) (h : Rp.isLetter c = d) (w : World) : Calls Tryz.prog 104 #[.int .u8 (c.toNat : Int)] w fun e w' => e = .returned (.bool d) ∧ w = w' := by
  subst h; exact letter_any c w
theorem rletter_is (c : UInt8) (d : Bool) (h : Rp.isLetter c = d) (w : World) : Calls Tryz.prog 88 #[.int .u8 (c.toNat : Int)] w fun e w' => e = .returned (.bool d) ∧ w = w' := by
  subst h; exact rletter_any c w

theorem head_byte (s : ByteArray) (h : 0 < s.size) : s.data.toList.headD 0 = s[0] := by
  have hl : 0 < s.data.toList.length := by simpa using h
  cases hs : s.data.toList with
  | nil => rw [hs] at hl; simp at hl
  | cons a r =>
    have : s[0] = a := by
      show s.data[0] = a
      have h2 : s.data.toList[0]? = some a := by rw [hs]; rfl
      rw [Array.getElem?_toList, Array.getElem?_eq_getElem h] at h2
      exact Option.some.inj h2
    rw [this]; rfl

theorem size_list (s : ByteArray) : s.data.toList.length = s.size := by rw [Array.length_toList]; rfl

theorem name_head {s : ByteArray} (h1 : 0 < s.size) (h2 : s.size ≤ 64) : Rp.nameB s.data.toList = (!Rp.isDigit s[0] && s[0] != 45 && s.data.toList.all Rp.isLetter) := by
  unfold Rp.nameB
  rw [head_byte s h1, size_list, decide_eq_true (show 1 ≤ s.size from h1), decide_eq_true h2, Bool.true_and, Bool.true_and]

theorem name_size {s : ByteArray} (h : ¬ (0 < s.size ∧ s.size ≤ 64)) : Rp.nameB s.data.toList = false := by
  unfold Rp.nameB
  rw [size_list]
  by_cases e : 1 ≤ s.size
  · rw [decide_eq_false (show ¬ s.size ≤ 64 by omega)]; simp
  · rw [decide_eq_false e]; simp

set_option maxHeartbeats 800000 in
set_option maxRecDepth 20000 in
theorem Name_any (s : ByteArray) (w : World) (hs : s.size ≤ maxLen) : Calls Tryz.prog 94 #[.string s] w fun e w' => e = .returned (.bool (Rp.nameB s.data.toList)) ∧ w = w' := by
  unfold maxLen at hs
  by_cases h1 : 0 < s.size
  · have hnn := str_not_nil s (by omega)
    have hne : (s.toList.isEmpty) = false := by simpa using hnn
    by_cases h2 : s.size ≤ 64
    · obtain ⟨b0, hb0⟩ : ∃ b, Rp.nameB s.data.toList = b := ⟨_, rfl⟩
      have HN := Lib.hid (name_head h1 h2)
      rw [hb0] at HN ⊢
      obtain ⟨d, hd⟩ : ∃ d, Rp.isDigit s[0] = d := ⟨_, rfl⟩
      have HD := Lib.hid (digit_is s[0] d hd)
      rw [hd] at HN
      clear hd hb0
      cases d with
      | true =>
        have HN2 : Hid (b0 = false) := by show _ = _; rw [HN.out]; simp
        clear HN
        go_enter Tryz.func94, Tryz.ntmps94
        go_wp2_with ((with_reducible refine (HD.out _).mono ?_); rintro e w' ⟨rfl, rfl⟩)
        go_ret
        exact ⟨ret_bool HN2.out.symm, rfl⟩
      | false =>
        by_cases h45 : s[0] = 45
        · have hb := byte_eq (45 : UInt8) h45 45 rfl
          have HN2 : Hid (b0 = false) := by show _ = _; rw [HN.out, h45]; simp
          clear HN h45
          go_enter Tryz.func94, Tryz.ntmps94
          go_wp2_with ((with_reducible refine (HD.out _).mono ?_); rintro e w' ⟨rfl, rfl⟩)
          go_ret
          exact ⟨ret_bool HN2.out.symm, rfl⟩
        · have hb := byte_ne (45 : UInt8) h45 45 rfl
          have HN2 : Hid (b0 = s.data.toList.all Rp.isLetter) := by
            show _ = _
            have : (s[0] != 45) = true := by simpa using h45
            rw [HN.out, this]; simp
          clear HN h45
          go_enter Tryz.func94, Tryz.ntmps94
          go_wp2_with ((with_reducible refine (HD.out _).mono ?_); rintro e w' ⟨rfl, rfl⟩)
          go_loop [3, 23] (fun _ k => ∃ n : Nat, n ≤ s.size ∧ k = .int .i64 n ∧ Hid ((s.data.toList.take n).all Rp.isLetter = true)) (fun _ k => s.size - (intOf k).toNat)
          case atStart => exact ⟨0, Nat.zero_le _, rfl, rfl⟩
          case round =>
            obtain ⟨n, hn, rfl, HA⟩ := hrel
            by_cases hlt : n < s.size
            · obtain ⟨l, hl⟩ : ∃ l, Rp.isLetter s[n] = l := ⟨_, rfl⟩
              have HLt := Lib.hid (letter_is s[n] l hl)
              have HLl := Lib.hid hl
              clear hl
              cases l with
              | true =>
                go_wp2_with ((with_reducible refine (HLt.out _).mono ?_); rintro e w' ⟨rfl, rfl⟩)
                go_round
                case rel => exact ⟨n + 1, by omega, by go_num, by unfold Hid; rw [all_take_succ s n hlt, HA.out, HLl.out]; rfl⟩
                case measure => simp [intOf]; omega
              | false =>
                have HF := Lib.hid (all_of_byte hlt (p := Rp.isLetter) HLl.out)
                go_wp2_with ((with_reducible refine (HLt.out _).mono ?_); rintro e w' ⟨rfl, rfl⟩)
                go_ret
                exact ⟨ret_bool (by rw [HN2.out, HF.out]), rfl⟩
            · have HE : Hid (n = s.size) := by unfold Hid; omega
              go_wp2_with fail
              go_ret
              have h3 := HA.out
              rw [HE.out, List.take_of_length_le (by simp)] at h3
              exact ⟨ret_bool (by rw [HN2.out, h3]), rfl⟩
    · have HF := Lib.hid (name_size (s := s) (by omega))
      go_enter Tryz.func94, Tryz.ntmps94
      go_wp2_with fail
      go_ret
      exact ⟨ret_bool HF.out.symm, rfl⟩
  · have HF := Lib.hid (name_size (s := s) (by omega))
    have h0 := str_nil s (by omega)
    have hne : (s.toList.isEmpty) = true := by rw [h0]; rfl
    clear h1
    go_enter Tryz.func94, Tryz.ntmps94
    go_wp2_with fail
    go_ret
    exact ⟨ret_bool HF.out.symm, rfl⟩

set_option maxHeartbeats 800000 in
set_option maxRecDepth 20000 in
theorem rName_any (s : ByteArray) (w : World) (hs : s.size ≤ maxLen) : Calls Tryz.prog 77 #[.string s] w fun e w' => e = .returned (.bool (Rp.nameB s.data.toList)) ∧ w = w' := by
  unfold maxLen at hs
  go_enter Tryz.func77, Tryz.ntmps77
  go_wp2_with fail
  go_loop [3] (fun k => ∃ n : Nat, n ≤ s.size ∧ k = .int .i64 n ∧ Hid ((s.data.toList.take n).all Rp.isLetter = true)) (fun k => s.size - (intOf k).toNat)
  case atStart => exact ⟨0, Nat.zero_le _, rfl, rfl⟩
  case round =>
    obtain ⟨n, hn, rfl, HA⟩ := hrel
    by_cases hlt : n < s.size
    · obtain ⟨l, hl⟩ : ∃ l, Rp.isLetter s[n] = l := ⟨_, rfl⟩
      have HLt := Lib.hid (rletter_is s[n] l hl)
      have HLl := Lib.hid hl
      clear hl
      cases l with
      | true =>
        go_wp2_with ((with_reducible refine (HLt.out _).mono ?_); rintro e w' ⟨rfl, rfl⟩)
        go_round
        case rel => exact ⟨n + 1, by omega, by go_num, by unfold Hid; rw [all_take_succ s n hlt, HA.out, HLl.out]; rfl⟩
        case measure => simp [intOf]; omega
      | false =>
        have HF : Hid (Rp.nameB s.data.toList = false) := by
          show _ = _
          unfold Rp.nameB
          rw [all_of_byte hlt (p := Rp.isLetter) HLl.out]
          simp
        go_wp2_with ((with_reducible refine (HLt.out _).mono ?_); rintro e w' ⟨rfl, rfl⟩)
        go_ret
        exact ⟨ret_bool HF.out.symm, rfl⟩
    · have HE : Hid (s.data.toList.all Rp.isLetter = true) := by
        show _ = _
        have h3 := HA.out
        have : n = s.size := by omega
        rw [this, List.take_of_length_le (by simp)] at h3
        exact h3
      clear HA
      by_cases h1 : 0 < s.size
      · have hnn := str_not_nil s (by omega)
        have hne : (!s.toList.isEmpty) = true := by simpa using hnn
        have hne' : (s.toList.isEmpty) = false := by simpa using hnn
        by_cases h2 : s.size ≤ 64
        · have HN := Lib.hid (name_head h1 h2)
          obtain ⟨d, hd⟩ : ∃ d, Rp.isDigit s[0] = d := ⟨_, rfl⟩
          have HD := Lib.hid (rdigit_is s[0] d hd)
          rw [hd, HE.out] at HN
          clear hd
          cases d with
          | true =>
            go_wp2_with ((with_reducible refine (HD.out _).mono ?_); rintro e w' ⟨rfl, rfl⟩)
            go_ret
            exact ⟨ret_bool (by rw [HN.out]; simp), rfl⟩
          | false =>
            by_cases h45 : s[0] = 45
            · have hb := byte_eq (45 : UInt8) h45 45 rfl
              have HN2 : Hid (Rp.nameB s.data.toList = false) := by show _ = _; rw [HN.out, h45]; simp
              clear HN h45
              go_wp2_with ((with_reducible refine (HD.out _).mono ?_); rintro e w' ⟨rfl, rfl⟩)
              go_ret
              exact ⟨ret_bool HN2.out.symm, rfl⟩
            · have hb := byte_ne (45 : UInt8) h45 45 rfl
              have HN2 : Hid (Rp.nameB s.data.toList = true) := by
                show _ = _
                have : (s[0] != 45) = true := by simpa using h45
                rw [HN.out, this]; simp
              clear HN h45
              go_wp2_with ((with_reducible refine (HD.out _).mono ?_); rintro e w' ⟨rfl, rfl⟩)
              go_ret
              exact ⟨ret_bool HN2.out.symm, rfl⟩
        · have HF := Lib.hid (name_size (s := s) (by omega))
          go_wp2_with fail
          go_ret
          exact ⟨ret_bool HF.out.symm, rfl⟩
      · have HF := Lib.hid (name_size (s := s) (by omega))
        have h0 := str_nil s (by omega)
        have hne : (!s.toList.isEmpty) = false := by rw [h0]; rfl
        have hne' : (s.toList.isEmpty) = true := by rw [h0]; rfl
        have hz : s.size = 0 := by omega
        have HZ := Lib.hid hz
        clear h1 hz
        go_wp2_with fail
        go_ret
        exact ⟨ret_bool HF.out.symm, rfl⟩

theorem name_is (s : ByteArray) (d : Bool) (hs : s.size ≤ maxLen) (h : Rp.nameB s.data.toList = d) (w : World) : Calls Tryz.prog 94 #[.string s] w fun e w' => e = .returned (.bool d) ∧ w = w' := by
  subst h; exact Name_any s w hs
theorem rname_is (s : ByteArray) (d : Bool) (hs : s.size ≤ maxLen) (h : Rp.nameB s.data.toList = d) (w : World) : Calls Tryz.prog 77 #[.string s] w fun e w' => e = .returned (.bool d) ∧ w = w' := by
  subst h; exact rName_any s w hs
end Go.Proofs.YtlbelkjgaeaaeaaGreat
