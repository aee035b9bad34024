/-
  Walks over the reference of layer 1: Right, Header, wrong.
-/
import Derived.Test.YtlamhpiiikcpiaaGreatDoorRgB
import Derived.Test.YtlamhpiiikcpiaaGreatDoorRgA
import Derived.Deep.Draws
import Derived.Laws.OwnMore
import Derived.Laws.AppendOwn
import Derived.Laws.AppendOwnNone
import Derived.Test.YtlamhpiiikcpiaaGreatDoorShelf
import Derived.OrdersHeld
import Derived.StillTail
import Derived.Deep.RegionHeld
namespace Go.Proofs.YtlamhpiiikcpiaaGreatDoor
open Go.RowKit
theorem byte_ne {c : UInt8} (d : UInt8) (h : c ≠ d) (k : Int) (hk : k = (d.toNat : Int)) : (((c.toNat : Nat) : Int) == k) = false ∧ (((c.toNat : Nat) : Int) != k) = true := by
  subst hk
  have e : (((c.toNat : Nat) : Int) == ((d.toNat : Nat) : Int)) = false := by rw [u8_eq]; simpa using h
  exact ⟨e, by rw [bne, e]; rfl⟩
theorem byte_eq {c : UInt8} (d : UInt8) (h : c = d) (k : Int) (hk : k = (d.toNat : Int)) : (((c.toNat : Nat) : Int) == k) = true ∧ (((c.toNat : Nat) : Int) != k) = false := by
  subst hk; subst h
  have e : (((c.toNat : Nat) : Int) == ((c.toNat : Nat) : Int)) = true := by rw [u8_eq]; simp
  exact ⟨e, by rw [bne, e]; rfl⟩
theorem str_nil (s : ByteArray) (h : s.size = 0) : s.toList = [] := by
  rw [Lib.toList_data]; exact List.eq_nil_of_length_eq_zero (by rw [Array.length_toList]; exact h)
theorem str_not_nil (s : ByteArray) (h : ¬ s.size = 0) : ¬ s.toList = [] := by
  rw [Lib.toList_data]; intro e; exact h (by have := congrArg List.length e; rw [Array.length_toList] at this; exact this)
set_option maxHeartbeats 400000 in
set_option maxRecDepth 20000 in
theorem Right_any (s : ByteArray) (w : World) (hs : s.size ≤ maxLen) :
    Calls Tryz.prog 77 #[.string s] w fun e w' => e = .returned (.bool (Cb.isCube s.data.toList)) ∧ w = w' := by
  unfold maxLen at hs
  go_enter Tryz.func77, Tryz.ntmps77
  go_wp2_with fail
  go_loop [3] (fun k => ∃ n : Nat, n ≤ s.size ∧ k = .int .i64 n ∧ Hid ((s.data.toList.take n).all (fun c => [48, 49, 120].contains c) = true)) (fun k => s.size - (intOf k).toNat)
  case atStart => exact ⟨0, Nat.zero_le _, rfl, rfl⟩
  case round =>
    obtain ⟨n, hn, rfl, HA⟩ := hrel
    by_cases hlt : n < s.size
    · by_cases h0 : s[n] = 48
      · have HC : Hid (([48, 49, 120] : List UInt8).contains s[n] = true) := by unfold Hid; rw [h0]; rfl
        obtain ⟨e1, e2⟩ := byte_eq 48 h0 48 rfl
        clear h0
        go_wp2_with fail
        go_round
        case rel => exact ⟨n + 1, by omega, by go_num, by unfold Hid; rw [all_take_succ s n hlt, HA.out, HC.out]; rfl⟩
        case measure => simp [intOf]; omega
      · obtain ⟨e1, e2⟩ := byte_ne 48 h0 48 rfl
        by_cases h1 : s[n] = 49
        · have HC : Hid (([48, 49, 120] : List UInt8).contains s[n] = true) := by unfold Hid; rw [h1]; rfl
          obtain ⟨e3, e4⟩ := byte_eq 49 h1 49 rfl
          clear h0 h1
          go_wp2_with fail
          go_round
          case rel => exact ⟨n + 1, by omega, by go_num, by unfold Hid; rw [all_take_succ s n hlt, HA.out, HC.out]; rfl⟩
          case measure => simp [intOf]; omega
        · obtain ⟨e3, e4⟩ := byte_ne 49 h1 49 rfl
          by_cases h2 : s[n] = 120
          · have HC : Hid (([48, 49, 120] : List UInt8).contains s[n] = true) := by unfold Hid; rw [h2]; rfl
            obtain ⟨e5, e6⟩ := byte_eq 120 h2 120 rfl
            clear h0 h1 h2
            go_wp2_with fail
            go_round
            case rel => exact ⟨n + 1, by omega, by go_num, by unfold Hid; rw [all_take_succ s n hlt, HA.out, HC.out]; rfl⟩
            case measure => simp [intOf]; omega
          · obtain ⟨e5, e6⟩ := byte_ne 120 h2 120 rfl
            have HC := Lib.hid (all_of_byte hlt (p := fun c => ([48, 49, 120] : List UInt8).contains c) (by simp; exact ⟨h0, h1, h2⟩))
            clear h0 h1 h2
            go_wp2_with fail
            go_ret
            exact ⟨ret_bool (by unfold Cb.isCube Cb.ofB; rw [HC.out]; simp), rfl⟩
    · have HE : Hid (n = s.size) := by unfold Hid; omega
      have h3 := HA.out
      rw [HE.out, List.take_of_length_le (by simp)] at h3
      have HG : Hid (Cb.isCube s.data.toList = (decide (1 ≤ s.size) && decide (s.size ≤ 128))) := by unfold Hid Cb.isCube Cb.ofB; rw [h3]; simp
      clear h3
      by_cases he : s.size = 0
      · have h5 : s.toList = [] := str_nil s he
        have h6 : (!s.toList.isEmpty) = false := by rw [h5]; rfl
        have HF : Hid (Cb.isCube s.data.toList = false) := by unfold Hid; rw [HG.out, he]; rfl
        clear he
        go_wp2_with fail
        go_ret
        exact ⟨ret_bool HF.out.symm, rfl⟩
      · have h5 : ¬ s.toList = [] := str_not_nil s he
        have h6 : (!s.toList.isEmpty) = true := by simpa using h5
        have hz : Hid (1 ≤ s.size) := by unfold Hid; omega
        clear he
        go_wp2_with fail
        go_ret
        exact ⟨ret_bool ((decide_eq_decide.2 (by omega) : decide ((s.size : Int) ≤ 128) = decide (s.size ≤ 128)).trans (by rw [HG.out, decide_eq_true hz.out, Bool.true_and])), rfl⟩
theorem Right_true {s : ByteArray} (w : World) (hs : s.size ≤ maxLen) (h : Cb.isCube s.data.toList = true) :
    Calls Tryz.prog 77 #[.string s] w fun e w' => e = .returned (.bool true) ∧ w = w' :=
  (Right_any s w hs).mono fun _ _ ⟨h1, h2⟩ => ⟨h1.trans (ret_bool h), h2⟩
theorem Right_false {s : ByteArray} (w : World) (hs : s.size ≤ maxLen) (h : Cb.isCube s.data.toList = false) :
    Calls Tryz.prog 77 #[.string s] w fun e w' => e = .returned (.bool false) ∧ w = w' :=
  (Right_any s w hs).mono fun _ _ ⟨h1, h2⟩ => ⟨h1.trans (ret_bool h), h2⟩
end Go.Proofs.YtlamhpiiikcpiaaGreatDoor
/-
  Walks over package words and the reference: digit, letter, Name.
-/
namespace Go.Proofs.YtlamhpiiikcpiaaGreatDoor
open Go.RowKit
theorem digit_any (c : UInt8) (w : World) : Calls Tryz.prog 114 #[.int .u8 (c.toNat : Int)] w fun e w' => e = .returned (.bool (Rp.isDigit c)) ∧ w = w' := by
  unfold Rp.isDigit
  by_cases h1 : 48 ≤ c.toNat
  · by_cases h2 : c.toNat ≤ 57
    · have h1z : (48 : Int) ≤ (c.toNat : Int) := by omega
      have h2z : (c.toNat : Int) ≤ 57 := by omega
      go_enter Tryz.func114, Tryz.ntmps114
      go_wp2_with fail
      go_ret
      exact ⟨ret_bool (by simp [*]), rfl⟩
    · have h1z : (48 : Int) ≤ (c.toNat : Int) := by omega
      have h2z : ¬ (c.toNat : Int) ≤ 57 := by omega
      go_enter Tryz.func114, Tryz.ntmps114
      go_wp2_with fail
      go_ret
      exact ⟨ret_bool (by simp [*]), rfl⟩
  · have h1z : ¬ (48 : Int) ≤ (c.toNat : Int) := by omega
    go_enter Tryz.func114, Tryz.ntmps114
    go_wp2_with fail
    go_ret
    exact ⟨ret_bool (by simp [*]), rfl⟩
theorem rdigit_any (c : UInt8) (w : World) : Calls Tryz.prog 124 #[.int .u8 (c.toNat : Int)] w fun e w' => e = .returned (.bool (Rp.isDigit c)) ∧ w = w' := by
  unfold Rp.isDigit
  by_cases h1 : 48 ≤ c.toNat
  · by_cases h2 : c.toNat ≤ 57
    · have h1z : (48 : Int) ≤ (c.toNat : Int) := by omega
      have h2z : (c.toNat : Int) ≤ 57 := by omega
      go_enter Tryz.func124, Tryz.ntmps124
      go_wp2_with fail
      go_ret
      exact ⟨ret_bool (by simp [*]), rfl⟩
    · have h1z : (48 : Int) ≤ (c.toNat : Int) := by omega
      have h2z : ¬ (c.toNat : Int) ≤ 57 := by omega
      go_enter Tryz.func124, Tryz.ntmps124
      go_wp2_with fail
      go_ret
      exact ⟨ret_bool (by simp [*]), rfl⟩
  · have h1z : ¬ (48 : Int) ≤ (c.toNat : Int) := by omega
    go_enter Tryz.func124, Tryz.ntmps124
    go_wp2_with fail
    go_ret
    exact ⟨ret_bool (by simp [*]), rfl⟩
set_option maxRecDepth 20000 in
theorem low_or : ∀ n : Fin 256, bits BinOp.or IntKind.u8 ((n.val : Nat) : Int) 32 = ((n.val ||| 32 : Nat) : Int) := by decide
set_option maxRecDepth 20000 in
theorem low_letter : ∀ n : Fin 256, (decide (97 ≤ n.val ||| 32) && decide (n.val ||| 32 ≤ 122)) = ((decide (97 ≤ n.val) && decide (n.val ≤ 122)) || (decide (65 ≤ n.val) && decide (n.val ≤ 90))) := by decide
theorem digit_is (c : UInt8) (d : Bool) (h : Rp.isDigit c = d) (w : World) : Calls Tryz.prog 114 #[.int .u8 (c.toNat : Int)] w fun e w' => e = .returned (.bool d) ∧ w = w' := by
  subst h; exact digit_any c w
theorem rdigit_is (c : UInt8) (d : Bool) (h : Rp.isDigit c = d) (w : World) : Calls Tryz.prog 124 #[.int .u8 (c.toNat : Int)] w fun e w' => e = .returned (.bool d) ∧ w = w' := by
  subst h; exact rdigit_any c w
theorem byte_is (c d : UInt8) : (c == d) = decide (c.toNat = d.toNat) := by
  by_cases h : c = d
  · subst h; simp
  · have : ¬ c.toNat = d.toNat := fun e => h (UInt8.toNat.inj e)
    simp [h, this]
theorem isLetter_low (c : UInt8) : Rp.isLetter c = ((decide (97 ≤ c.toNat ||| 32) && decide (c.toNat ||| 32 ≤ 122)) || Rp.isDigit c || decide (c.toNat = 95) || decide (c.toNat = 45)) := by
  have := low_letter ⟨c.toNat, c.toNat_lt⟩
  simp only at this
  unfold Rp.isLetter
  rw [this, byte_is, byte_is]
  rfl
theorem letter_any (c : UInt8) (w : World) : Calls Tryz.prog 136 #[.int .u8 (c.toNat : Int)] w fun e w' => e = .returned (.bool (Rp.isLetter c)) ∧ w = w' := by
  rw [isLetter_low]
  have gl := low_or ⟨c.toNat, c.toNat_lt⟩
  simp only at gl
  generalize c.toNat ||| 32 = low at gl
  obtain ⟨d, hd⟩ : ∃ d, Rp.isDigit c = d := ⟨_, rfl⟩
  have HD := Lib.hid hd
  rw [hd]
  clear hd
  by_cases h1 : 97 ≤ low ∧ low ≤ 122
  · have h1z : (97 : Int) ≤ (low : Int) := by omega
    have h2z : (low : Int) ≤ 122 := by omega
    go_enter Tryz.func136, Tryz.ntmps136
    go_wp2_with fail
    go_ret
    exact ⟨ret_bool (by simp [h1.1, h1.2]), rfl⟩
  · have hx : (decide (97 ≤ low) && decide (low ≤ 122)) = false := by simp; omega
    rw [hx]
    have key : Calls Tryz.prog 136 #[.int .u8 (c.toNat : Int)] w fun e w' => e = .returned (.bool (d || decide (c.toNat = 95) || decide (c.toNat = 45))) ∧ w = w' := by
      by_cases h97 : 97 ≤ low
      · have h1z : (97 : Int) ≤ (low : Int) := by omega
        have h2z : ¬ (low : Int) ≤ 122 := by omega
        cases d with
        | true =>
          clear hx h1
          go_enter Tryz.func136, Tryz.ntmps136
          go_wp2_with ((with_reducible refine (digit_is c _ HD.out _).mono ?_); rintro e w' ⟨rfl, rfl⟩)
          go_ret
          exact ⟨rfl, rfl⟩
        | false =>
          clear hx h1
          go_enter Tryz.func136, Tryz.ntmps136
          go_wp2_with ((with_reducible refine (digit_is c _ HD.out _).mono ?_); rintro e w' ⟨rfl, rfl⟩)
          all_goals (go_ret; exact ⟨ret_bool (by first | (rw [Bool.eq_iff_iff]; simp; omega) | (simp; omega)), rfl⟩)
      · have h1z : ¬ (97 : Int) ≤ (low : Int) := by omega
        cases d with
        | true =>
          clear hx h1
          go_enter Tryz.func136, Tryz.ntmps136
          go_wp2_with ((with_reducible refine (digit_is c _ HD.out _).mono ?_); rintro e w' ⟨rfl, rfl⟩)
          go_ret
          exact ⟨rfl, rfl⟩
        | false =>
          clear hx h1
          go_enter Tryz.func136, Tryz.ntmps136
          go_wp2_with ((with_reducible refine (digit_is c _ HD.out _).mono ?_); rintro e w' ⟨rfl, rfl⟩)
          all_goals (go_ret; exact ⟨ret_bool (by first | (rw [Bool.eq_iff_iff]; simp; omega) | (simp; omega)), rfl⟩)
    simpa using key
theorem rletter_any (c : UInt8) (w : World) : Calls Tryz.prog 131 #[.int .u8 (c.toNat : Int)] w fun e w' => e = .returned (.bool (Rp.isLetter c)) ∧ w = w' := by
  unfold Rp.isLetter
  rw [byte_is, byte_is]
  obtain ⟨d, hd⟩ : ∃ d, Rp.isDigit c = d := ⟨_, rfl⟩
  have HD := Lib.hid hd
  rw [hd]
  clear hd
  cases d with
  | true =>
    go_enter Tryz.func131, Tryz.ntmps131
    go_wp2_with ((with_reducible refine (rdigit_is c _ HD.out _).mono ?_); rintro e w' ⟨rfl, rfl⟩)
    all_goals (go_ret; exact ⟨ret_bool (by first | rfl | (rw [Bool.eq_iff_iff]; simp; done) | (rw [Bool.eq_iff_iff]; simp; omega)), rfl⟩)
  | false =>
    go_enter Tryz.func131, Tryz.ntmps131
    go_wp2_with ((with_reducible refine (rdigit_is c _ HD.out _).mono ?_); rintro e w' ⟨rfl, rfl⟩)
    all_goals (go_ret; exact ⟨ret_bool (by first | rfl | (rw [Bool.eq_iff_iff]; simp; done) | (rw [Bool.eq_iff_iff]; simp; omega)), rfl⟩)
theorem letter_is (c : UInt8) (d : Bool) (h : Rp.isLetter c = d) (w : World) : Calls Tryz.prog 136 #[.int .u8 (c.toNat : Int)] w fun e w' => e = .returned (.bool d) ∧ w = w' := by
  subst h; exact letter_any c w
theorem rletter_is (c : UInt8) (d : Bool) (h : Rp.isLetter c = d) (w : World) : Calls Tryz.prog 131 #[.int .u8 (c.toNat : Int)] w fun e w' => e = .returned (.bool d) ∧ w = w' := by
  subst h; exact rletter_any c w
theorem head_byte (s : ByteArray) (h : 0 < s.size) : s.data.toList.headD 0 = s[0] := by
  have hl : 0 < s.data.toList.length := by simpa using h
  cases hs : s.data.toList with
  | nil => rw [hs] at hl; simp at hl
  | cons a r =>
    have : s[0] = a := by
      show s.data[0] = a
      have h2 : s.data.toList[0]? = some a := by rw [hs]; rfl
      rw [Array.getElem?_toList, Array.getElem?_eq_getElem h] at h2
      exact Option.some.inj h2
    rw [this]; rfl
theorem size_list (s : ByteArray) : s.data.toList.length = s.size := by rw [Array.length_toList]; rfl
theorem name_head {s : ByteArray} (h1 : 0 < s.size) (h2 : s.size ≤ 64) : Rp.nameB s.data.toList = (!Rp.isDigit s[0] && s[0] != 45 && s.data.toList.all Rp.isLetter) := by
  unfold Rp.nameB
  rw [head_byte s h1, size_list, decide_eq_true (show 1 ≤ s.size from h1), decide_eq_true h2, Bool.true_and, Bool.true_and]
theorem name_size {s : ByteArray} (h : ¬ (0 < s.size ∧ s.size ≤ 64)) : Rp.nameB s.data.toList = false := by
  unfold Rp.nameB
  rw [size_list]
  by_cases e : 1 ≤ s.size
  · rw [decide_eq_false (show ¬ s.size ≤ 64 by omega)]; simp
  · rw [decide_eq_false e]; simp
set_option maxHeartbeats 800000 in
set_option maxRecDepth 20000 in
theorem Name_any (s : ByteArray) (w : World) (hs : s.size ≤ maxLen) : Calls Tryz.prog 116 #[.string s] w fun e w' => e = .returned (.bool (Rp.nameB s.data.toList)) ∧ w = w' := by
  unfold maxLen at hs
  by_cases h1 : 0 < s.size
  · have hnn := str_not_nil s (by omega)
    have hne : (s.toList.isEmpty) = false := by simpa using hnn
    by_cases h2 : s.size ≤ 64
    · obtain ⟨b0, hb0⟩ : ∃ b, Rp.nameB s.data.toList = b := ⟨_, rfl⟩
      have HN := Lib.hid (name_head h1 h2)
      rw [hb0] at HN ⊢
      obtain ⟨d, hd⟩ : ∃ d, Rp.isDigit s[0] = d := ⟨_, rfl⟩
      have HD := Lib.hid (digit_is s[0] d hd)
      rw [hd] at HN
      clear hd hb0
      cases d with
      | true =>
        have HN2 : Hid (b0 = false) := by show _ = _; rw [HN.out]; simp
        clear HN
        go_enter Tryz.func116, Tryz.ntmps116
        go_wp2_with ((with_reducible refine (HD.out _).mono ?_); rintro e w' ⟨rfl, rfl⟩)
        go_ret
        exact ⟨ret_bool HN2.out.symm, rfl⟩
      | false =>
        by_cases h45 : s[0] = 45
        · have hb := byte_eq (45 : UInt8) h45 45 rfl
          have HN2 : Hid (b0 = false) := by show _ = _; rw [HN.out, h45]; simp
          clear HN h45
          go_enter Tryz.func116, Tryz.ntmps116
          go_wp2_with ((with_reducible refine (HD.out _).mono ?_); rintro e w' ⟨rfl, rfl⟩)
          go_ret
          exact ⟨ret_bool HN2.out.symm, rfl⟩
        · have hb := byte_ne (45 : UInt8) h45 45 rfl
          have HN2 : Hid (b0 = s.data.toList.all Rp.isLetter) := by
            show _ = _
            have : (s[0] != 45) = true := by simpa using h45
            rw [HN.out, this]; simp
          clear HN h45
          go_enter Tryz.func116, Tryz.ntmps116
          go_wp2_with ((with_reducible refine (HD.out _).mono ?_); rintro e w' ⟨rfl, rfl⟩)
          go_loop [3, 23] (fun _ k => ∃ n : Nat, n ≤ s.size ∧ k = .int .i64 n ∧ Hid ((s.data.toList.take n).all Rp.isLetter = true)) (fun _ k => s.size - (intOf k).toNat)
          case atStart => exact ⟨0, Nat.zero_le _, rfl, rfl⟩
          case round =>
            obtain ⟨n, hn, rfl, HA⟩ := hrel
            by_cases hlt : n < s.size
            · obtain ⟨l, hl⟩ : ∃ l, Rp.isLetter s[n] = l := ⟨_, rfl⟩
              have HLt := Lib.hid (letter_is s[n] l hl)
              have HLl := Lib.hid hl
              clear hl
              cases l with
              | true =>
                go_wp2_with ((with_reducible refine (HLt.out _).mono ?_); rintro e w' ⟨rfl, rfl⟩)
                go_round
                case rel => exact ⟨n + 1, by omega, by go_num, by unfold Hid; rw [all_take_succ s n hlt, HA.out, HLl.out]; rfl⟩
                case measure => simp [intOf]; omega
              | false =>
                have HF := Lib.hid (all_of_byte hlt (p := Rp.isLetter) HLl.out)
                go_wp2_with ((with_reducible refine (HLt.out _).mono ?_); rintro e w' ⟨rfl, rfl⟩)
                go_ret
                exact ⟨ret_bool (by rw [HN2.out, HF.out]), rfl⟩
            · have HE : Hid (n = s.size) := by unfold Hid; omega
              go_wp2_with fail
              go_ret
              have h3 := HA.out
              rw [HE.out, List.take_of_length_le (by simp)] at h3
              exact ⟨ret_bool (by rw [HN2.out, h3]), rfl⟩
    · have HF := Lib.hid (name_size (s := s) (by omega))
      go_enter Tryz.func116, Tryz.ntmps116
      go_wp2_with fail
      go_ret
      exact ⟨ret_bool HF.out.symm, rfl⟩
  · have HF := Lib.hid (name_size (s := s) (by omega))
    have h0 := str_nil s (by omega)
    have hne : (s.toList.isEmpty) = true := by rw [h0]; rfl
    clear h1
    go_enter Tryz.func116, Tryz.ntmps116
    go_wp2_with fail
    go_ret
    exact ⟨ret_bool HF.out.symm, rfl⟩
set_option maxHeartbeats 800000 in
set_option maxRecDepth 20000 in
theorem rName_any (s : ByteArray) (w : World) (hs : s.size ≤ maxLen) : Calls Tryz.prog 108 #[.string s] w fun e w' => e = .returned (.bool (Rp.nameB s.data.toList)) ∧ w = w' := by
  unfold maxLen at hs
  go_enter Tryz.func108, Tryz.ntmps108
  go_wp2_with fail
  go_loop [3] (fun k => ∃ n : Nat, n ≤ s.size ∧ k = .int .i64 n ∧ Hid ((s.data.toList.take n).all Rp.isLetter = true)) (fun k => s.size - (intOf k).toNat)
  case atStart => exact ⟨0, Nat.zero_le _, rfl, rfl⟩
  case round =>
    obtain ⟨n, hn, rfl, HA⟩ := hrel
    by_cases hlt : n < s.size
    · obtain ⟨l, hl⟩ : ∃ l, Rp.isLetter s[n] = l := ⟨_, rfl⟩
      have HLt := Lib.hid (rletter_is s[n] l hl)
      have HLl := Lib.hid hl
      clear hl
      cases l with
      | true =>
        go_wp2_with ((with_reducible refine (HLt.out _).mono ?_); rintro e w' ⟨rfl, rfl⟩)
        go_round
        case rel => exact ⟨n + 1, by omega, by go_num, by unfold Hid; rw [all_take_succ s n hlt, HA.out, HLl.out]; rfl⟩
        case measure => simp [intOf]; omega
      | false =>
        have HF : Hid (Rp.nameB s.data.toList = false) := by
          show _ = _
          unfold Rp.nameB
          rw [all_of_byte hlt (p := Rp.isLetter) HLl.out]
          simp
        go_wp2_with ((with_reducible refine (HLt.out _).mono ?_); rintro e w' ⟨rfl, rfl⟩)
        go_ret
        exact ⟨ret_bool HF.out.symm, rfl⟩
    · have HE : Hid (s.data.toList.all Rp.isLetter = true) := by
        show _ = _
        have h3 := HA.out
        have : n = s.size := by omega
        rw [this, List.take_of_length_le (by simp)] at h3
        exact h3
      clear HA
      by_cases h1 : 0 < s.size
      · have hnn := str_not_nil s (by omega)
        have hne : (!s.toList.isEmpty) = true := by simpa using hnn
        have hne' : (s.toList.isEmpty) = false := by simpa using hnn
        by_cases h2 : s.size ≤ 64
        · have HN := Lib.hid (name_head h1 h2)
          obtain ⟨d, hd⟩ : ∃ d, Rp.isDigit s[0] = d := ⟨_, rfl⟩
          have HD := Lib.hid (rdigit_is s[0] d hd)
          rw [hd, HE.out] at HN
          clear hd
          cases d with
          | true =>
            go_wp2_with ((with_reducible refine (HD.out _).mono ?_); rintro e w' ⟨rfl, rfl⟩)
            go_ret
            exact ⟨ret_bool (by rw [HN.out]; simp), rfl⟩
          | false =>
            by_cases h45 : s[0] = 45
            · have hb := byte_eq (45 : UInt8) h45 45 rfl
              have HN2 : Hid (Rp.nameB s.data.toList = false) := by show _ = _; rw [HN.out, h45]; simp
              clear HN h45
              go_wp2_with ((with_reducible refine (HD.out _).mono ?_); rintro e w' ⟨rfl, rfl⟩)
              go_ret
              exact ⟨ret_bool HN2.out.symm, rfl⟩
            · have hb := byte_ne (45 : UInt8) h45 45 rfl
              have HN2 : Hid (Rp.nameB s.data.toList = true) := by
                show _ = _
                have : (s[0] != 45) = true := by simpa using h45
                rw [HN.out, this]; simp
              clear HN h45
              go_wp2_with ((with_reducible refine (HD.out _).mono ?_); rintro e w' ⟨rfl, rfl⟩)
              go_ret
              exact ⟨ret_bool HN2.out.symm, rfl⟩
        · have HF := Lib.hid (name_size (s := s) (by omega))
          go_wp2_with fail
          go_ret
          exact ⟨ret_bool HF.out.symm, rfl⟩
      · have HF := Lib.hid (name_size (s := s) (by omega))
        have h0 := str_nil s (by omega)
        have hne : (!s.toList.isEmpty) = false := by rw [h0]; rfl
        have hne' : (s.toList.isEmpty) = true := by rw [h0]; rfl
        have hz : s.size = 0 := by omega
        have HZ := Lib.hid hz
        clear h1 hz
        go_wp2_with fail
        go_ret
        exact ⟨ret_bool HF.out.symm, rfl⟩
theorem name_is (s : ByteArray) (d : Bool) (hs : s.size ≤ maxLen) (h : Rp.nameB s.data.toList = d) (w : World) : Calls Tryz.prog 116 #[.string s] w fun e w' => e = .returned (.bool d) ∧ w = w' := by
  subst h; exact Name_any s w hs
theorem rname_is (s : ByteArray) (d : Bool) (hs : s.size ≤ maxLen) (h : Rp.nameB s.data.toList = d) (w : World) : Calls Tryz.prog 108 #[.string s] w fun e w' => e = .returned (.bool d) ∧ w = w' := by
  subst h; exact rName_any s w hs
end Go.Proofs.YtlamhpiiikcpiaaGreatDoor
/-
  Walks over package words: pair, step, size.
-/
namespace Go.Proofs.YtlamhpiiikcpiaaGreatDoor
open Go.RowKit
set_option maxHeartbeats 800000 in
set_option maxRecDepth 20000 in
theorem pair_any (s : ByteArray) (w : World) : Calls Tryz.prog 135 #[.string s] w fun e w' => e = .returned (.bool (Wd.isPair s.data.toList)) ∧ w = w' := by
  have hp : Wd.isPair s.data.toList = (s.toList == [61, 61] || s.toList == [60, 61] || s.toList == [62, 61] || s.toList == [45, 62]) := by rw [ByteArray.toList_eq]; rfl
  rw [hp]
  clear hp
  go_enter Tryz.func135, Tryz.ntmps135
  go_wp2_with fail
  all_goals
    go_ret
    exact ⟨ret_bool (by simp [*]), rfl⟩
set_option maxHeartbeats 800000 in
set_option maxRecDepth 20000 in
theorem step_any (b : Nat) (x n : Int) (w : World) (h0 : 0 ≤ x) (h1 : x + n ≤ 9223372036854775807) (h2 : 0 ≤ n) (hc : w.cell? ⟨b, 1, none⟩ = some (.int .i64 x)) (hf : w.frozen? ⟨b, 1, none⟩ = false) :
    Calls Tryz.prog 112 #[.pointer (some ⟨b, 0, none⟩), .int .i64 n] w fun e w' => e = .returned (.tuple #[]) ∧ w' = w.setCell ⟨b, 1, none⟩ (.int .i64 (x + n)) := by
  go_enter Tryz.func112, Tryz.ntmps112
  go_wp2_with fail
  go_end0
  exact ⟨rfl, rfl⟩
set_option maxRecDepth 20000 in
theorem single_index (c : UInt8) : decide (0 ≤ Lib.indexByte [40, 41, 44, 124, 42, 43, 63, 46, 36, 61, 60, 62] c) = Wd.isSingle c := by
  have h : ∀ n : Fin 256, decide (0 ≤ Lib.indexByte [40, 41, 44, 124, 42, 43, 63, 46, 36, 61, 60, 62] (UInt8.ofNat n.val)) = Wd.isSingle (UInt8.ofNat n.val) := by decide
  have := h ⟨c.toNat, c.toNat_lt⟩
  simpa using this
theorem pair_is (s : ByteArray) (d : Bool) (h : Wd.isPair s.data.toList = d) (w : World) : Calls Tryz.prog 135 #[.string s] w fun e w' => e = .returned (.bool d) ∧ w = w' := by
  subst h; exact pair_any s w
theorem prefix_is (s p : ByteArray) (d : Bool) (h : Lib.hasPrefix s.data.toList p.data.toList = d) (w : World) : Calls Tryz.prog 137 #[.string s, .string p] w fun e w' => e = .returned (.bool d) ∧ w = w' := by
  subst h; exact (Tryz.strings_HasPrefix s p w).mono (by rintro e w' ⟨rfl, rfl⟩; exact ⟨rfl, rfl⟩)
theorem indexB_is (s : ByteArray) (c : UInt8) (n : Int) (h : Lib.indexByte s.data.toList c = n) (w : World) : Calls Tryz.prog 102 #[.string s, .int .u8 (c.toNat : Int)] w fun e w' => e = .returned (.int .i64 n) ∧ w = w' := by
  subst h
  have e : ((c.toNat : Int).toNat.toUInt8) = c := by simp
  have := Tryz.strings_IndexByte s (c.toNat : Int) w
  rw [e] at this
  exact this.mono (by rintro e w' ⟨rfl, rfl⟩; exact ⟨rfl, rfl⟩)
theorem arrow_prefix (l : List UInt8) : Lib.hasPrefix l [45, 62] = Wd.arrow l := by
  unfold Lib.hasPrefix Wd.arrow
  rcases l with _ | ⟨a, _ | ⟨b, l⟩⟩
  · rfl
  · simp [List.isPrefixOf]
  · rw [Bool.eq_iff_iff]
    constructor <;> (intro h; simp [List.isPrefixOf] at h ⊢; exact ⟨h.1.symm, h.2.symm⟩)
theorem lets_drop (t : ByteArray) (k : Nat) (h : k < t.size) : Wd.lets (t.data.toList.drop k) = if Rp.isLetter t[k] && !Wd.arrow (t.data.toList.drop k) then Wd.lets (t.data.toList.drop (k + 1)) + 1 else 0 := by
  have e : t.data.toList.drop k = t[k] :: t.data.toList.drop (k + 1) := by
    rw [List.drop_eq_getElem_cons (by simpa using h)]
    rfl
  rw [e]
  rfl
theorem int_eq {k : IntKind} {a b : Int} (h : a = b) : Ending.returned (.int k a) = .returned (.int k b) := by rw [h]
set_option maxHeartbeats 3200000 in
set_option maxRecDepth 20000 in
theorem size_any (b x : Nat) (s : ByteArray) (w : World) (hx : x < s.size) (hs : s.size ≤ 1048576) (c1 : w.cell? ⟨b, 1, none⟩ = some (.int .i64 x)) (c2 : w.cell? ⟨b, 2, none⟩ = some (.string s)) :
    Calls Tryz.prog 113 #[.pointer (some ⟨b, 0, none⟩)] w fun e w' => e = .returned (.int .i64 (Wd.size (s.data.toList.drop x))) ∧ ∃ k, w' = w.drewN k := by
  obtain ⟨t, ht⟩ : ∃ t, s.extract x s.size = t := ⟨_, rfl⟩
  have hL : t.data.toList = s.data.toList.drop x := by rw [← ht]; exact Lib.extract_to_end s x
  have hts : t.size = s.size - x := by rw [← ht, ByteArray.size_extract]; omega
  rw [← hL]
  have h1 : (x : Int) ≤ (s.size : Int) := by omega
  have h0 : (0 : Int) ≤ (x : Int) := by omega
  have htl : t.size ≤ 1048576 := by omega
  have ht0 : 0 < t.size := by omega
  have hlen : t.data.toList.length = t.size := (Lib.size_eq t).symm
  obtain ⟨p, hp⟩ : ∃ p, Wd.isPair (t.data.toList.take 2) = p := ⟨_, rfl⟩
  obtain ⟨q, hq⟩ : ∃ q, Wd.isSingle t[0] = q := ⟨_, rfl⟩
  obtain ⟨z, hz⟩ : ∃ z, Lib.indexByte [40, 41, 44, 124, 42, 43, 63, 46, 36, 61, 60, 62] t[0] = z := ⟨_, rfl⟩
  have hzq : decide (0 ≤ z) = q := by rw [← hz, ← hq]; exact single_index _
  have HP : Hid (∀ W, Calls Tryz.prog 135 #[.string (t.extract 0 2)] W fun e w' => e = .returned (.bool p) ∧ W = w') := fun W => pair_is _ p (by rw [Lib.extract_data, ← hp]; rfl) W
  have HI : Hid (∀ W, Calls Tryz.prog 102 #[.string ⟨#[40, 41, 44, 124, 42, 43, 63, 46, 36, 61, 60, 62]⟩, .int .u8 (t[0].toNat : Int)] W fun e w' => e = .returned (.int .i64 z) ∧ W = w') := fun W => indexB_is _ _ z hz W
  have HPe := Lib.hid hp
  have hhead : t.data.toList.headD 0 = t[0] := by
    have : t.data.toList = t[0] :: t.data.toList.drop 1 := by
      have e := List.drop_eq_getElem_cons (l := t.data.toList) (i := 0) (by rw [hlen]; exact ht0)
      rw [List.drop_zero] at e
      exact e
    rw [this]; rfl
  have HQe : Hid (Wd.isSingle (t.data.toList.headD 0) = q) := by rw [hhead]; exact hq
  have hshort : p = true → 1 < t.size := by
    intro h
    subst h
    rcases Nat.lt_or_ge 1 t.size with h | h
    · exact h
    · exfalso
      have : (t.data.toList.take 2).length ≤ 1 := by rw [List.length_take]; omega
      match hq2 : t.data.toList.take 2, this, hp with
      | [], _, hp => simp [Wd.isPair] at hp
      | [c], _, hp => simp [Wd.isPair] at hp
  have HSh := Lib.hid hshort
  have HLe := Lib.hid hL
  have HLn := Lib.hid hlen
  have HT0 := Lib.hid ht0
  clear hx hp hq hz hhead hshort hL hlen hts
  go_enter Tryz.func113, Tryz.ntmps113
  go_wp2_with fail
  go_quiet (fail)
  clear ht c1 c2 h1 h0 hs HLe
  have hi0 : (0 : Int) < (t.size : Int) := by have := HT0.out; omega
  have HF : Hid (∀ (e : Ending) (w' : World), e = .returned (.int .i64 (Wd.size t.data.toList)) → w' = w.drewN nq → (e = .returned (.int .i64 (Wd.size t.data.toList)) ∧ ∃ k, w' = w.drewN k)) := fun e w' h1 h2 => ⟨h1, _, h2⟩
  have hlt : Wd.lets t.data.toList = 0 + Wd.lets (t.data.toList.drop 0) := by simp
  have HL0 := Lib.hid hlt
  clear hlt
  by_cases hl : 1 < t.size
  case' pos =>
    have hlz : (1 : Int) < (t.size : Int) := by omega
    have hl2 : (2 : Int) ≤ (t.size : Int) := by omega
    cases p
    rotate_left
    · go_wp2_with ((with_reducible refine (HP.out _).mono ?_); rintro e w' ⟨rfl, rfl⟩)
      go_ret
      exact HF.out _ _ (int_eq (by rw [Wd.size_pair HPe.out]; rfl)) rfl
    go_wp2_with ((with_reducible refine (HP.out _).mono ?_); rintro e w' ⟨rfl, rfl⟩)
  case' neg =>
    have hlz : decide ((1 : Int) < (t.size : Int)) = false := by simp; omega
    cases p
    rotate_left
    · exact absurd (HSh.out rfl) hl
    go_wp2_with fail
  all_goals
    refine (HI.out _).mono ?_
    rintro e w' ⟨rfl, rfl⟩
    cases q
    rotate_left
    · have hz0 : (0 : Int) ≤ z := by simpa using hzq
      go_wp2_with fail
      go_ret
      exact HF.out _ _ (int_eq (by rw [Wd.size_single HPe.out HQe.out]; rfl)) rfl
    go_wp2_with fail
    have HE : Hid (∀ k : Nat, Wd.lets t.data.toList = k → Wd.size t.data.toList = k) := fun k h => by rw [Wd.size_lets HPe.out HQe.out, h]
    clear HPe HQe hzq HP HI hlz hl HSh hi0
    go_loop [4] (fun i => ∃ k : Nat, k ≤ t.size ∧ i = .int .i64 k ∧ Hid (Wd.lets t.data.toList = k + Wd.lets (t.data.toList.drop k))) (fun i => t.size - (intOf i).toNat)
    case atStart => exact ⟨0, Nat.zero_le _, rfl, HL0⟩
    case round =>
      obtain ⟨k, hk, rfl, hrel⟩ := hrel
      by_cases hkt : k < t.size
      · obtain ⟨d, hd⟩ : ∃ d, Rp.isLetter t[k] = d := ⟨_, rfl⟩
        obtain ⟨a, ha⟩ : ∃ a, Wd.arrow (t.data.toList.drop k) = a := ⟨_, rfl⟩
        have hdr := lets_drop t k hkt
        rw [hd, ha] at hdr
        have HD := Lib.hid hdr
        have HLt : Hid (∀ W, Calls Tryz.prog 136 #[.int .u8 (t[k].toNat : Int)] W fun e w' => e = .returned (.bool d) ∧ W = w') := fun W => letter_is _ d hd W
        have HPr : Hid (∀ W, Calls Tryz.prog 137 #[.string (t.extract k t.size), .string ⟨#[45, 62]⟩] W fun e w' => e = .returned (.bool a) ∧ W = w') := fun W => prefix_is _ _ a (by rw [Lib.extract_to_end, ← ha]; exact arrow_prefix _) W
        clear hd ha hdr
        have hkz : (k : Int) < (t.size : Int) := by omega
        have hkl : (k : Int) ≤ (t.size : Int) := by omega
        have hkn : (0 : Int) ≤ (k : Int) := by omega
        cases d
        · go_wp2_with (first | ((with_reducible refine (HLt.out _).mono ?_); rintro e w' ⟨rfl, rfl⟩) | ((with_reducible refine (HPr.out _).mono ?_); rintro e w' ⟨rfl, rfl⟩))
          go_ret
          exact HF.out _ _ (int_eq (by rw [HE.out k (by rw [hrel.out, HD.out]; rfl)])) rfl
        · cases a
          · go_wp2_with (first | ((with_reducible refine (HLt.out _).mono ?_); rintro e w' ⟨rfl, rfl⟩) | ((with_reducible refine (HPr.out _).mono ?_); rintro e w' ⟨rfl, rfl⟩))
            go_round
            case rel => exact ⟨k + 1, by omega, by go_num, by show _ = _; rw [hrel.out, HD.out]; simp; omega⟩
            case measure => simp [intOf]; omega
          · go_wp2_with (first | ((with_reducible refine (HLt.out _).mono ?_); rintro e w' ⟨rfl, rfl⟩) | ((with_reducible refine (HPr.out _).mono ?_); rintro e w' ⟨rfl, rfl⟩))
            go_ret
            exact HF.out _ _ (int_eq (by rw [HE.out k (by rw [hrel.out, HD.out]; rfl)])) rfl
      · have hkz : decide ((k : Int) < (t.size : Int)) = false := by simp; omega
        have hke : Hid (Wd.lets (t.data.toList.drop k) = 0) := by
          show _ = _
          rw [List.drop_of_length_le (by rw [HLn.out]; omega)]; rfl
        go_wp2_with fail
        go_ret
        exact HF.out _ _ (int_eq (by rw [HE.out k (by rw [hrel.out, hke.out]; rfl)])) rfl
end Go.Proofs.YtlamhpiiikcpiaaGreatDoor
/-
  Which texts are one word, which are two; words between blanks: plain laws; no program here.
-/
namespace Go.Proofs.YtlamhpiiikcpiaaGreatDoor
set_option linter.unusedSimpArgs false
set_option linter.unusedVariables false
namespace Wd
theorem lets_no10 : ∀ (l : List UInt8), (10 : UInt8) ∉ l.take (lets l)
  | [] => by simp
  | c :: t => by
    by_cases hc : (Rp.isLetter c && !arrow (c :: t)) = true
    · simp only [lets, hc, if_true, List.take_succ_cons, List.mem_cons, not_or]
      refine ⟨fun e => ?_, lets_no10 t⟩
      subst e
      simp [Rp.isLetter, Rp.isDigit] at hc
    · simp [lets, hc]
theorem size_no10 (l : List UInt8) : (10 : UInt8) ∉ l.take (size l) := by
  unfold size
  split
  · rename_i h
    intro h10
    simp only [isPair, Bool.or_eq_true, beq_iff_eq] at h
    rcases h with ((h | h) | h) | h <;> (rw [h] at h10; revert h10; decide)
  · split
    · rename_i h
      cases l with
      | nil => simp
      | cons c t =>
        simp only [List.headD_cons] at h
        simp only [List.take_succ_cons, List.take_zero, List.mem_cons, List.not_mem_nil, or_false]
        intro e
        subst e
        revert h
        decide
    · exact lets_no10 l
/-- What is known of a line's words. -/
theorem line_all (num : Nat) : ∀ (k : Nat) (l : List UInt8) (at_ : Nat) (ws : List Wrd), l.length ≤ k → line num l at_ = .ok ws → ∀ w ∈ ws, w.l = num ∧ w.t.size ≤ l.length ∧ (10 : UInt8) ∉ w.t.data.toList := by
  intro k
  induction k with
  | zero =>
    intro l at_ ws hk h
    have : l = [] := List.length_eq_zero_iff.1 (by omega)
    subst this
    rw [line_nil] at h
    injection h with h
    subst h
    simp
  | succ k ih =>
    intro l at_ ws hk h w hw
    cases l with
    | nil =>
      rw [line_nil] at h
      injection h with h
      subst h
      simp at hw
    | cons c t =>
      simp only [List.length_cons] at hk ⊢
      by_cases h1 : c = 35
      · subst h1
        rw [line_hash] at h
        injection h with h
        subst h
        simp at hw
      · by_cases h2 : c = 32 ∨ c = 9
        · rw [line_blank _ _ _ _ h2] at h
          obtain ⟨a, b, d⟩ := ih t _ ws (by omega) h w hw
          exact ⟨a, by omega, d⟩
        · by_cases h0 : size (c :: t) = 0
          · rw [line_bad _ _ _ _ h1 h2 h0] at h
            cases h
          · rw [line_word _ _ _ _ h1 h2 h0] at h
            cases hr : line num ((c :: t).drop (size (c :: t))) (at_ + size (c :: t)) with
            | error e => rw [hr] at h; cases h
            | ok r =>
              rw [hr] at h
              simp only [Except.map] at h
              injection h with h
              subst h
              rcases List.mem_cons.1 hw with rfl | hw
              · refine ⟨rfl, ?_, ?_⟩
                · simp only [mkB_size]
                  have := List.length_take_le (size (c :: t)) (c :: t)
                  have h3 := size_le (c :: t) (by simp)
                  simp only [List.length_take, List.length_cons] at h3 ⊢
                  omega
                · simp only [mkB_list]
                  exact size_no10 _
              · obtain ⟨a, b, d⟩ := ih _ _ r (by simp; omega) hr w hw
                refine ⟨a, ?_, d⟩
                simp only [List.length_drop, List.length_cons] at b
                omega
theorem wordB_no10 {a : List UInt8} (h : wordB a = true) : (10 : UInt8) ∉ a := by
  obtain ⟨c, t, e, h1, h2, h3⟩ := wordB_iff.1 h
  have := size_no10 a
  rwa [h3, List.take_length] at this
/-- A line that reads as one word is that word. -/
theorem line_is_one {a : List UInt8} {num at_ : Nat} {ws : List Wrd} (h : line num a at_ = .ok ws) (hw : ws.map Wrd.t = [mkB a]) : wordB a = true := by
  cases a with
  | nil => rw [line_nil] at h; injection h with h; subst h; simp at hw
  | cons c t =>
    by_cases h1 : c = 35
    · subst h1; rw [line_hash] at h; injection h with h; subst h; simp at hw
    · by_cases h2 : c = 32 ∨ c = 9
      · rw [line_blank _ _ _ _ h2] at h
        rcases ws with _ | ⟨x, ws⟩
        · simp at hw
        · have := (line_all num _ t _ _ (Nat.le_refl _) h x (by simp)).2.1
          simp only [List.map_cons, List.cons.injEq] at hw
          rw [hw.1, mkB_size] at this
          simp at this
          omega
      · by_cases h0 : size (c :: t) = 0
        · rw [line_bad _ _ _ _ h1 h2 h0] at h; cases h
        · rw [line_word _ _ _ _ h1 h2 h0] at h
          cases hr : line num ((c :: t).drop (size (c :: t))) (at_ + size (c :: t)) with
          | error e => rw [hr] at h; cases h
          | ok r =>
            rw [hr] at h
            simp only [Except.map] at h
            injection h with h
            subst h
            simp only [List.map_cons, List.cons.injEq] at hw
            have h5 := congrArg List.length (mkB_inj hw.1)
            have h6 := size_le (c :: t) (by simp)
            refine wordB_iff.2 ⟨c, t, rfl, h1, h2, ?_⟩
            simp only [List.length_take, List.length_cons] at h5 h6 ⊢
            omega
/-- A line that reads as two words, the first of which is known. -/
theorem line_is_two {a b : List UInt8} {num at_ : Nat} {ws : List Wrd} (ha : wordB a = true) (h : line num (a ++ b) at_ = .ok ws) (hw : ws.map Wrd.t = [mkB a, mkB b]) : size (a ++ b) = a.length := by
  obtain ⟨c, t, rfl, h1, h2, h3⟩ := wordB_iff.1 ha
  rw [List.cons_append] at h ⊢
  by_cases h0 : size (c :: (t ++ b)) = 0
  · rw [line_bad _ _ _ _ h1 h2 h0] at h; cases h
  · rw [line_word _ _ _ _ h1 h2 h0] at h
    cases hr : line num ((c :: (t ++ b)).drop (size (c :: (t ++ b)))) (at_ + size (c :: (t ++ b))) with
    | error e => rw [hr] at h; cases h
    | ok r =>
      rw [hr] at h
      simp only [Except.map] at h
      injection h with h
      subst h
      simp only [List.map_cons, List.cons.injEq] at hw
      have h5 := congrArg List.length (mkB_inj hw.1)
      have h6 := size_le (c :: (t ++ b)) (by simp)
      simp only [List.length_take, List.length_cons, List.length_append] at h5 h6 ⊢
      omega
/-- Are these the words of a text of one line? -/
def aloneB (s : List UInt8) (want : List ByteArray) : Bool :=
  match lines s with
  | .error _ => false
  | .ok r => r.length == 1 && decide ((r.headD []).map Wrd.t = want)
theorem rows_mem : ∀ (hs : List (List UInt8)) (num : Nat) (r : List (List Wrd)), rows hs num = .ok r → ∀ ws ∈ r, ∃ h n, h ∈ hs ∧ line n h 0 = .ok ws
  | [], num, r, h, ws, hw => by simp only [rows] at h; injection h with h; subst h; simp at hw
  | x :: t, num, r, h, ws, hw => by
    simp only [rows] at h
    cases hl : line num x 0 with
    | error p => rw [hl] at h; cases h
    | ok us =>
      rw [hl] at h
      simp only at h
      cases hr : rows t (num + 1) with
      | error p => rw [hr] at h; cases h
      | ok q =>
        rw [hr] at h
        simp only [Except.map] at h
        injection h with h
        have ih := rows_mem t (num + 1) q hr ws
        by_cases he : us.isEmpty = true
        · rw [if_pos he] at h
          subst h
          obtain ⟨h', n, h1, h2⟩ := ih hw
          exact ⟨h', n, List.mem_cons_of_mem _ h1, h2⟩
        · rw [if_neg he] at h
          subst h
          rcases List.mem_cons.1 hw with rfl | hw
          · exact ⟨x, num, by simp, hl⟩
          · obtain ⟨h', n, h1, h2⟩ := ih hw
            exact ⟨h', n, List.mem_cons_of_mem _ h1, h2⟩
theorem lines_one {s : List UInt8} (h : (10 : UInt8) ∉ s) : lines s = match line 1 s 0 with
    | .error p => .error (1, p)
    | .ok ws => .ok (if ws.isEmpty then [] else [ws]) := by
  unfold lines
  rw [split_none s h]
  simp only [rows]
  cases line 1 s 0 <;> simp [Except.map]
theorem alone_one (a : List UInt8) : aloneB a [mkB a] = wordB a := by
  rw [Bool.eq_iff_iff]
  unfold aloneB
  constructor
  · intro h
    cases hl : lines a with
    | error p => rw [hl] at h; cases h
    | ok r =>
      rw [hl] at h
      simp only [Bool.and_eq_true, beq_iff_eq, decide_eq_true_eq] at h
      obtain ⟨h1, h2⟩ := h
      match r, h1 with
      | [ws], _ =>
        simp only [List.headD_cons] at h2
        obtain ⟨x, n, hx, hx2⟩ := rows_mem _ _ _ hl ws (by simp)
        rcases ws with _ | ⟨y, _ | ⟨z, ws⟩⟩
        · simp at h2
        · simp only [List.map_cons, List.map_nil, List.cons.injEq, and_true] at h2
          have h10 := (line_all n _ x _ _ (Nat.le_refl _) hx2 y (by simp)).2.2
          rw [h2, mkB_list] at h10
          rw [split_none a h10] at hx
          obtain rfl : x = a := by simpa using hx
          exact line_is_one hx2 (by simp [h2])
        · simp at h2
  · intro h
    rw [lines_one (wordB_no10 h), line_one h]
    simp
theorem alone_two {a b : List UInt8} (ha : wordB a = true) (hb : wordB b = true) : aloneB (a ++ b) [mkB a, mkB b] = !gluedB a b := by
  have h10 : (10 : UInt8) ∉ a ++ b := by simp [wordB_no10 ha, wordB_no10 hb]
  rw [Bool.eq_iff_iff]
  unfold aloneB
  rw [lines_one h10]
  constructor
  · intro h
    cases hl : line 1 (a ++ b) 0 with
    | error p => rw [hl] at h; cases h
    | ok ws =>
      rw [hl] at h
      simp only [Bool.and_eq_true, beq_iff_eq, decide_eq_true_eq] at h
      by_cases he : ws.isEmpty = true
      · rw [if_pos he] at h; simp at h
      · rw [if_neg he] at h
        have := line_is_two ha hl h.2
        simp [gluedB, this]
  · intro h
    have hs : size (a ++ b) = a.length := by simpa [gluedB] using h
    rw [line_front ha hs, line_one hb]
    simp [Except.map]
theorem sign_word {a : List UInt8} (h : isPair a = true ∨ (a.length = 1 ∧ isSingle (a.headD 0) = true)) : wordB a = true := by
  rcases h with h | ⟨h1, h2⟩
  · simp only [isPair, Bool.or_eq_true, beq_iff_eq] at h
    rcases h with ((rfl | rfl) | rfl) | rfl <;> decide
  · match a, h1 with
    | [c], _ =>
      simp only [List.headD_cons, isSingle, List.contains_iff_mem, singles, List.mem_cons, List.not_mem_nil, or_false] at h2
      rcases h2 with rfl | rfl | rfl | rfl | rfl | rfl | rfl | rfl | rfl | rfl | rfl | rfl <;> decide
/-- What the reference asks of a word. -/
def oneB (num : Nat) (a : List UInt8) : Bool :=
  match line num a 0 with
  | .error _ => false
  | .ok ws => decide (ws.map Wrd.t = [mkB a])
theorem oneB_eq (num : Nat) (a : List UInt8) : oneB num a = wordB a := by
  rw [Bool.eq_iff_iff]
  unfold oneB
  constructor
  · intro h
    cases hl : line num a 0 with
    | error p => rw [hl] at h; cases h
    | ok ws => rw [hl] at h; exact line_is_one hl (by simpa using h)
  · intro h
    rw [line_one h]
    simp
/-- What the reference asks of two words. -/
def twoB (num : Nat) (a b : List UInt8) : Bool :=
  match line num (a ++ b) 0 with
  | .error _ => false
  | .ok ws => decide (ws.map Wrd.t = [mkB a, mkB b])
theorem twoB_eq {a b : List UInt8} (num : Nat) (ha : wordB a = true) (hb : wordB b = true) : twoB num a b = !gluedB a b := by
  rw [Bool.eq_iff_iff]
  unfold twoB
  constructor
  · intro h
    cases hl : line num (a ++ b) 0 with
    | error p => rw [hl] at h; cases h
    | ok ws =>
      rw [hl] at h
      have := line_is_two ha hl (by simpa using h)
      simp [gluedB, this]
  · intro h
    have hs : size (a ++ b) = a.length := by simpa [gluedB] using h
    rw [line_front ha hs, line_one hb]
    simp [Except.map]
/-- The line of words, or none. -/
def say (l : List (List UInt8)) : Option (List UInt8) := if l.all wordB then some (jn l) else none
/-- Words between blanks. -/
def bl (ps : List (Nat × List UInt8)) : List UInt8 := ps.flatMap fun p => 32 :: (List.replicate p.1 9 ++ p.2)
end Wd
end Go.Proofs.YtlamhpiiikcpiaaGreatDoor
/-
  Small laws on worlds behind draws.
-/
namespace Go.Proofs.YtlamhpiiikcpiaaGreatDoor
open Go.RowKit
theorem ownsRow_drewN {w : World} {b : Nat} {e : TypeId} {size : Nat} {v : Value} {n : Nat} {xs : List Value} (h : w.ownsRow b e size v n xs) (k : Nat) : (w.drewN k).ownsRow b e size v n xs := h
theorem below_dN {B : Nat} {a w : World} (h : Below B a w) (k : Nat) : Below B a (w.drewN k) := ⟨h.os, h.tape, h.output, h.size, h.block⟩
/-- The slice v reads as strings: its form, an element at a time. -/
theorem rdsS_form {w : World} {v : Value} {ss : List ByteArray} (h : RdsS w v ss) :
    ∃ ad len cap, v = .slice ad len cap ∧ len = ss.length ∧ len ≤ maxLen ∧ ∀ i (hi : i < ss.length), ∃ b off, ad = some ⟨b, off, none⟩ ∧ b < w.heap.size ∧ w.cell? ⟨b, off + i, none⟩ = some (.string ss[i]) := by
  rcases rdsS_cases h with ⟨a, c, rfl, rfl⟩ | ⟨b, off, len, cap, rfl, h1, h2, h3, h4, h5⟩
  · exact ⟨a, 0, c, rfl, rfl, Nat.zero_le _, fun i hi => absurd hi (Nat.not_lt_zero _)⟩
  · exact ⟨_, len, cap, rfl, h1, Nat.le_trans h2 h3, fun i hi => ⟨b, off, rfl, h4, h5 i hi⟩⟩
theorem ownsRow_below {w w' : World} {b : Nat} {e : TypeId} {size : Nat} {v : Value} {n : Nat} {xs : List Value} (h : w.ownsRow b e size v n xs) (hb : Below w.heap.size w w') : w'.ownsRow b e size v n xs := by
  obtain ⟨h1, h2⟩ := h
  refine ⟨h1, ?_⟩
  rcases h2 with h2 | ⟨g, cap, cur, hv, hg, hh, r⟩
  · exact .inl h2
  · have hlt : g < w.heap.size := by
      rcases Nat.lt_or_ge g w.heap.size with h | h
      · exact h
      · simp [Array.getElem?_eq_none h] at hh
    exact .inr ⟨g, cap, cur, hv, hg, (hb.block g hlt).trans hh, r⟩
theorem grown_below {B : Nat} {a w w' : World} {row : Option Nat} (h : Below B a w) (hg : w.grownBy w' row) (hB : B ≤ w.heap.size) (hr : ∀ k, row = some k → B ≤ k) : Below B a w' := h.grown hg hB hr
end Go.Proofs.YtlamhpiiikcpiaaGreatDoor
/-
  append of whatever a slice reads as onto a row of the call's own.
-/
namespace Go.Proofs.YtlamhpiiikcpiaaGreatDoor
open Go.RowKit
theorem ownsRow_form {w : World} {b : Nat} {e : TypeId} {v : Value} {n : Nat} {xs : List Value} (h : w.ownsRow b e 1 v n xs) : ∃ ad cap, v = .slice ad n cap := by
  rcases h.2 with ⟨h1, h2⟩ | ⟨g, cap, cur, hv, _⟩
  · exact ⟨none, 0, by rw [h1, h2]⟩
  · exact ⟨_, cap, hv⟩
section
variable {P : Program} {w : World}
/-- At the operation. -/
theorem wp_append_rds {o : Oper} {a : Act} {K : Act → World → Prop} {Q : Exit → Act → World → Prop} (s x : Operand) (t : TypeId)
    (ho : o.op = .call { callee := .builtin .append, args := #[s, x], argTypes := #[t, t] })
    (base : Nat) (e : TypeId) (i : TypeInfo) (z : Value) (bytes : Nat) (ht : P.underlying t = some (.slice e)) (hi : P.info? e = some i) (hz : i.zero = some z)
    (hsize : i.size = 1) (hby : i.bytes = bytes) (hzs : z.cells.size = 1)
    (v : Value) (n : Nat) (xs : List Value) (hs : a.eval s = v) (hown : w.ownsRow base e 1 v n xs)
    (sv : Value) (ys : List Value) (hx : a.eval x = sv) (hr : Rds w sv ys) (h1 : ∀ u ∈ ys, u.oneCell' = true)
    (m : Nat) (hm : n + ys.length = m) (h63 : m ≤ maxLen) (hbytes : m * bytes ≤ 140737488355328) (hbase : base ≤ w.heap.size)
    (h : ∀ ad cap w', w'.ownsRow base e 1 (.slice ad m cap) m (xs ++ ys) → w.grownBy w' v.ownBlock → K (a.put o.dst (.slice ad m cap)) w') : o.wp P a w K Q := by
  have h' : ∀ v' w', w'.ownsRow base e 1 v' (n + ys.length) (xs ++ ys) → w.grownBy w' v.ownBlock → K (a.put o.dst v') w' := by
    intro v' w' h2 h3
    obtain ⟨ad, cap, rfl⟩ := ownsRow_form h2
    rw [hm] at h2 ⊢
    exact h ad cap w' h2 h3
  clear h
  subst hm
  rcases hr with ⟨ad, c, rfl, rfl, hc⟩ | ⟨b, off, cap, rfl, h2, h3, h4, h5⟩
  · cases ad with
    | none =>
      obtain rfl := hc rfl
      have hrun := run_append_owned_none (P := P) (w := w) base t o.type e i 1 ht hi v n xs hown
      unfold Oper.wp
      simp [execOp, ho, resolve, invoke, builtin, hs, hx, hrun, Result.andThen]
      exact h' v w (by simpa using hown) ⟨rfl, rfl, rfl, Nat.le_refl _, fun _ _ _ => rfl⟩
    | some ad =>
      exact wp_append_own w s x t ho base e i z 1 bytes ht hi hz hsize hby hzs (by omega) v n xs hs hown ad 0 c [] hx rfl (fun j u hj => by simp at hj) (by simp) (by simpa using h63) (by simpa using hbytes) hbase
        (fun v' w' h1 h2 _ => h' v' w' (by simpa using h1) h2)
  · refine wp_append_own w s x t ho base e i z 1 bytes ht hi hz hsize hby hzs (by omega) v n xs hs hown ⟨b, off, none⟩ ys.length cap ys hx (by simp) (fun j u hj => ?_) h1 h63 hbytes hbase (fun v' w' h1 h2 _ => h' v' w' h1 h2)
    have hjl : j < ys.length := by
      rcases Nat.lt_or_ge j ys.length with h | h
      · exact h
      · rw [List.getElem?_eq_none h] at hj; cases hj
    rw [List.getElem?_eq_getElem hjl] at hj
    injection hj with hj
    subst hj
    have hplain : (⟨b, off, none⟩ : Addr).add j = ⟨b, off + j, none⟩ := by unfold Addr.add; split <;> simp_all
    rw [hplain]
    exact h5 j hjl
/-- At the list of a plain region's operations. -/
theorem wpList_append_rds {ops : Array Oper} {rest : List Oper} {o : Oper} {a : Act} {Q : Exit → Act → World → Prop} (hgd : o.guard = none) (s x : Operand) (t : TypeId)
    (ho : o.op = .call { callee := .builtin .append, args := #[s, x], argTypes := #[t, t] })
    (base : Nat) (e : TypeId) (i : TypeInfo) (z : Value) (bytes : Nat) (ht : P.underlying t = some (.slice e)) (hi : P.info? e = some i) (hz : i.zero = some z)
    (hsize : i.size = 1) (hby : i.bytes = bytes) (hzs : z.cells.size = 1)
    (v : Value) (n : Nat) (xs : List Value) (hs : a.eval s = v) (hown : w.ownsRow base e 1 v n xs)
    (sv : Value) (ys : List Value) (hx : a.eval x = sv) (hr : Rds w sv ys) (h1 : ∀ u ∈ ys, u.oneCell' = true)
    (m : Nat) (hm : n + ys.length = m) (h63 : m ≤ maxLen) (hbytes : m * bytes ≤ 140737488355328) (hbase : base ≤ w.heap.size)
    (h : ∀ ad cap w', w'.ownsRow base e 1 (.slice ad m cap) m (xs ++ ys) → w.grownBy w' v.ownBlock → wpList P ops Q rest (a.put o.dst (.slice ad m cap)) w') : wpList P ops Q (o :: rest) a w :=
  wpList_plain hgd fun _ hK => wp_append_rds s x t ho base e i z bytes ht hi hz hsize hby hzs v n xs hs hown sv ys hx hr h1 m hm h63 hbytes hbase fun ad cap w' h2 h3 => hK _ _ (h ad cap w' h2 h3)
/-- At a step of a region that draws its order. -/
theorem step_append_rds {ops : Array Oper} {o : Oper} {a : Act} {K : Act → World → Prop} {Q : Exit → Act → World → Prop} {E : Prop} (hgd : o.guard = none) (s x : Operand) (t : TypeId)
    (ho : o.op = .call { callee := .builtin .append, args := #[s, x], argTypes := #[t, t] })
    (base : Nat) (e : TypeId) (i : TypeInfo) (z : Value) (bytes : Nat) (ht : P.underlying t = some (.slice e)) (hi : P.info? e = some i) (hz : i.zero = some z)
    (hsize : i.size = 1) (hby : i.bytes = bytes) (hzs : z.cells.size = 1)
    (v : Value) (n : Nat) (xs : List Value) (hs : a.eval s = v) (hown : w.ownsRow base e 1 v n xs)
    (sv : Value) (ys : List Value) (hx : a.eval x = sv) (hr : Rds w sv ys) (h1 : ∀ u ∈ ys, u.oneCell' = true)
    (m : Nat) (hm : n + ys.length = m) (h63 : m ≤ maxLen) (hbytes : m * bytes ≤ 140737488355328) (hbase : base ≤ w.heap.size)
    (h : ∀ ad cap w', w'.ownsRow base e 1 (.slice ad m cap) m (xs ++ ys) → w.grownBy w' v.ownBlock → K (a.put o.dst (.slice ad m cap)) w') :
    if Region.wanted o (yielded ops a.tmps) = true then Oper.wp P o a w K Q else E := by
  have hw : Region.wanted o (yielded ops a.tmps) = true := by simp [Region.wanted, hgd]
  rw [if_pos hw]
  exact wp_append_rds s x t ho base e i z bytes ht hi hz hsize hby hzs v n xs hs hown sv ys hx hr h1 m hm h63 hbytes hbase h
end
/-- A new row of one cell, its block under a name of its own. -/
theorem lit_row {w : World} {x : Value} {e : TypeId} {g b : Nat} (hg : g = w.heap.size) (hb : b ≤ g) : (w.alloc (.cells #[x] e)).ownsRow b e 1 (.slice (some ⟨g, 0, none⟩) 1 1) 1 [x] := by
  subst hg
  exact World.ownsRow_lit w #[x] 1 hb (by unfold maxLen; omega) (by simp)
theorem str_one {L : List ByteArray} : ∀ u ∈ L.map Value.string, u.oneCell' = true := by
  intro u hu
  obtain ⟨s, _, rfl⟩ := List.mem_map.1 hu
  rfl
/-- A new row of no cell. -/
theorem lit0_rowE {w : World} {e : TypeId} {k g b : Nat} (hg : g = w.heap.size) (hb : b ≤ g) : (w.alloc (.cells #[] e)).ownsRow b e k (.slice (some ⟨g, 0, none⟩) 0 0) 0 [] := by
  subst hg
  exact World.ownsRow_lit w #[] 0 hb (Nat.zero_le _) (by simp)
end Go.Proofs.YtlamhpiiikcpiaaGreatDoor
/-
  A slice value that reads as rules, four cells each, in blocks that a test allows; frames that leave out some blocks.
-/
namespace Go.Proofs.YtlamhpiiikcpiaaGreatDoor
open Go.RowKit
set_option linter.unusedVariables false
/-- Where a slice lies. -/
def okV (ok : Nat → Prop) (v : Value) : Prop := ∀ a n c, v = .slice (some a) n c → n ≠ 0 → ok a.block
/-- v reads as strings, in blocks that are ok. -/
def RdsO (ok : Nat → Prop) (w : World) (v : Value) (ss : List ByteArray) : Prop := RdsS w v ss ∧ okV ok v
/-- The cells of a rule. -/
structure RC where
  p : Int
  m : ByteArray
  k : Int
  a : Option Addr
  n : Nat
  c : Nat
deriving Inhabited
def encR (x : RC) : List Value := [.int .i64 x.p, .string x.m, .int .i64 x.k, .slice x.a x.n x.c]
def cellsR (l : List RC) : List Value := l.flatMap encR
def RC.v (x : RC) : Value := .agg #[.int .i64 x.p, .string x.m, .int .i64 x.k, .slice x.a x.n x.c]
/-- The cells x read as the rule r. -/
structure RdC (ok : Nat → Prop) (w : World) (x : RC) (r : Rl) : Prop where
  p : x.p = r.p
  m : x.m = r.m
  k : x.k = r.k
  s : RdsO ok w (.slice x.a x.n x.c) r.ps
  z : Rp.Sz r
/-- v reads as the rules L, in blocks that are ok. -/
def RdsR (ok : Nat → Prop) (w : World) (v : Value) (L : List Rl) : Prop :=
  ∃ (xs : List RC) (ad : Option Addr) (n cap : Nat), v = .slice ad n cap ∧ n = L.length ∧ xs.length = n ∧ (n ≤ cap ∧ (ad = none → cap = 0)) ∧ cap ≤ maxLen ∧ okV ok v ∧
    (∀ i (h : i < xs.length), ∃ b off, ad = some ⟨b, off, none⟩ ∧ b < w.heap.size ∧
      w.cell? ⟨b, off + i * 4, none⟩ = some (.int .i64 xs[i].p) ∧ w.cell? ⟨b, off + i * 4 + 1, none⟩ = some (.string xs[i].m) ∧ w.cell? ⟨b, off + i * 4 + 2, none⟩ = some (.int .i64 xs[i].k) ∧ w.cell? ⟨b, off + i * 4 + 3, none⟩ = some (.slice xs[i].a xs[i].n xs[i].c)) ∧
    ∀ i (h : i < xs.length) (h' : i < L.length), RdC ok w xs[i] L[i]
/-- Only blocks of S may have turned. -/
structure But (S : Nat → Prop) (w w' : World) : Prop where
  os : w'.os = w.os
  tape : w'.tape = w.tape
  output : w'.output = w.output
  size : w.heap.size ≤ w'.heap.size
  block : ∀ k, k < w.heap.size → ¬ S k → w'.heap[k]? = w.heap[k]?
theorem But.refl (S : Nat → Prop) (w : World) : But S w w := ⟨rfl, rfl, rfl, Nat.le_refl _, fun _ _ _ => rfl⟩
theorem But.trans {S : Nat → Prop} {a b c : World} (h : But S a b) (k : But S b c) : But S a c :=
  ⟨k.os.trans h.os, k.tape.trans h.tape, k.output.trans h.output, Nat.le_trans h.size k.size, fun i hi hs => (k.block i (Nat.lt_of_lt_of_le hi h.size) hs).trans (h.block i hi hs)⟩
theorem But.mono {S T : Nat → Prop} {w w' : World} (h : But S w w') (hs : ∀ k, S k → T k) : But T w w' := ⟨h.os, h.tape, h.output, h.size, fun k hk ht => h.block k hk (fun hn => ht (hs k hn))⟩
theorem But.below {S : Nat → Prop} {w w' : World} (h : Below w.heap.size w w') : But S w w' := ⟨h.os, h.tape, h.output, h.size, fun k hk _ => h.block k hk⟩
theorem But.set {S : Nat → Prop} {w : World} {a : Addr} (hs : S a.block) (u : Value) : But S w (w.setCell a u) :=
  ⟨rfl, rfl, rfl, by simp [World.setCell], fun k _ hn => Below.heap_setCell _ _ _ _ (fun e => hn (by rw [e]; exact hs))⟩
theorem But.toBelow {S : Nat → Prop} {w w' : World} {B : Nat} (h : But S w w') (hB : B ≤ w.heap.size) (hs : ∀ k, S k → B ≤ k) : Below B w w' :=
  ⟨h.os, h.tape, h.output, h.size, fun k hk => h.block k (by omega) (fun hn => by have := hs k hn; omega)⟩
theorem But.cell {S : Nat → Prop} {w w' : World} (h : But S w w') {p : Addr} (hp : p.block < w.heap.size) (hs : ¬ S p.block) : w'.cell? p = w.cell? p := World.cell?_of_block (w := w) (h.block p.block hp hs)
theorem But.frozen {S : Nat → Prop} {w w' : World} (h : But S w w') {p : Addr} (hp : p.block < w.heap.size) (hs : ¬ S p.block) : w'.frozen? p = w.frozen? p := World.frozen?_of_block (w := w) (h.block p.block hp hs)
theorem okV_mono {ok ok' : Nat → Prop} {v : Value} (h : okV ok v) (hk : ∀ b, ok b → ok' b) : okV ok' v := fun a n c hv hn => hk _ (h a n c hv hn)
theorem okV_nil (ok : Nat → Prop) (n c : Nat) : okV ok (.slice none n c) := fun a n c hv => by cases hv
theorem okV_some {ok : Nat → Prop} {a : Addr} {n c : Nat} (h : ok a.block) : okV ok (.slice (some a) n c) := fun a' n' c' hv _ => by injection hv with e1 _ _; injection e1 with e1; subst e1; exact h
theorem Rds.but {S : Nat → Prop} {w w' : World} {v : Value} {xs : List Value} (h : Rds w v xs) (hb : But S w w') (hv : okV (fun b => ¬ S b) v) : Rds w' v xs := by
  rcases h with h | ⟨b, off, cap, h1, h2, h3, h4, h5⟩
  · exact .inl h
  · subst h1
    by_cases h0 : xs.length = 0
    · exact .inl ⟨_, _, by rw [h0], List.length_eq_zero_iff.1 h0, fun h => by cases h⟩
    have hs : ¬ S b := hv _ _ _ rfl h0
    exact .inr ⟨b, off, cap, rfl, h2, h3, Nat.lt_of_lt_of_le h4 hb.size, fun i hi => (hb.cell (p := ⟨b, off + i, none⟩) h4 hs).trans (h5 i hi)⟩
theorem RdsO.but {ok S : Nat → Prop} {w w' : World} {v : Value} {ss : List ByteArray} (h : RdsO ok w v ss) (hb : But S w w') (hs : ∀ b, ok b → ¬ S b) : RdsO ok w' v ss :=
  ⟨Rds.but h.1 hb (okV_mono h.2 hs), h.2⟩
theorem RdsO.lt {ok : Nat → Prop} {w : World} {v : Value} {ss : List ByteArray} (h : RdsO ok w v ss) : RdsO (fun b => ok b ∧ b < w.heap.size) w v ss := by
  refine ⟨h.1, fun a n c hv hn => ⟨h.2 a n c hv hn, ?_⟩⟩
  rcases h.1 with ⟨a', c', h1, h2, _⟩ | ⟨b, off, cap, h1, h2, h3, h4, h5⟩
  · rw [hv] at h1; injection h1 with _ e2 _; exact absurd e2 hn
  · rw [hv] at h1; injection h1 with e1 _ _; injection e1 with e1; rw [e1]; exact h4
theorem RdsO.below {ok : Nat → Prop} {w w' : World} {v : Value} {ss : List ByteArray} (h : RdsO ok w v ss) (hb : Below w.heap.size w w') : RdsO ok w' v ss := ⟨h.1.below hb, h.2⟩
theorem RdsO.mono {ok ok' : Nat → Prop} {w : World} {v : Value} {ss : List ByteArray} (h : RdsO ok w v ss) (hk : ∀ b, ok b → ok' b) : RdsO ok' w v ss := ⟨h.1, okV_mono h.2 hk⟩
theorem RdC.below {ok : Nat → Prop} {w w' : World} {x : RC} {r : Rl} (h : RdC ok w x r) (hb : Below w.heap.size w w') : RdC ok w' x r := ⟨h.p, h.m, h.k, h.s.below hb, h.z⟩
theorem RdC.but {ok S : Nat → Prop} {w w' : World} {x : RC} {r : Rl} (h : RdC ok w x r) (hb : But S w w') (hs : ∀ b, ok b → ¬ S b) : RdC ok w' x r := ⟨h.p, h.m, h.k, h.s.but hb hs, h.z⟩
theorem RdC.mono {ok ok' : Nat → Prop} {w : World} {x : RC} {r : Rl} (h : RdC ok w x r) (hk : ∀ b, ok b → ok' b) : RdC ok' w x r := ⟨h.p, h.m, h.k, h.s.mono hk, h.z⟩
theorem RdsR.but {ok S : Nat → Prop} {w w' : World} {v : Value} {L : List Rl} (h : RdsR ok w v L) (hb : But S w w') (hs : ∀ b, ok b → ¬ S b) : RdsR ok w' v L := by
  obtain ⟨xs, ad, n, cap, rfl, h2, h3, h4, h5, h6, h7, h8⟩ := h
  refine ⟨xs, ad, n, cap, rfl, h2, h3, h4, h5, h6, fun i hi => ?_, fun i hi hi' => (h8 i hi hi').but hb hs⟩
  obtain ⟨b, off, rfl, hlt, c0, c1, c2, c3⟩ := h7 i hi
  have hS : ¬ S b := hs b (h6 _ _ _ rfl (by omega))
  exact ⟨b, off, rfl, Nat.lt_of_lt_of_le hlt hb.size, (hb.cell (p := ⟨b, off + i * 4, none⟩) hlt hS).trans c0, (hb.cell (p := ⟨b, off + i * 4 + 1, none⟩) hlt hS).trans c1, (hb.cell (p := ⟨b, off + i * 4 + 2, none⟩) hlt hS).trans c2, (hb.cell (p := ⟨b, off + i * 4 + 3, none⟩) hlt hS).trans c3⟩
theorem RdsR.below {ok : Nat → Prop} {w w' : World} {v : Value} {L : List Rl} (h : RdsR ok w v L) (hb : Below w.heap.size w w') : RdsR ok w' v L := h.but (S := fun _ => False) (But.below hb) (fun _ _ h => h)
theorem RdsR.mono {ok ok' : Nat → Prop} {w : World} {v : Value} {L : List Rl} (h : RdsR ok w v L) (hk : ∀ b, ok b → ok' b) : RdsR ok' w v L := by
  obtain ⟨xs, ad, n, cap, h1, h2, h3, h4, h5, h6, h7, h8⟩ := h
  exact ⟨xs, ad, n, cap, h1, h2, h3, h4, h5, okV_mono h6 hk, h7, fun i hi hi' => (h8 i hi hi').mono hk⟩
theorem RdC.lt {ok : Nat → Prop} {w : World} {x : RC} {r : Rl} (h : RdC ok w x r) : RdC (fun b => ok b ∧ b < w.heap.size) w x r := ⟨h.p, h.m, h.k, h.s.lt, h.z⟩
theorem RdsR.lt {ok : Nat → Prop} {w : World} {v : Value} {L : List Rl} (h : RdsR ok w v L) : RdsR (fun b => ok b ∧ b < w.heap.size) w v L := by
  obtain ⟨xs, ad, n, cap, h1, h2, h3, h4, h5, h6, h7, h8⟩ := h
  refine ⟨xs, ad, n, cap, h1, h2, h3, h4, h5, fun a m c hv hn => ⟨h6 a m c hv hn, ?_⟩, h7, fun i hi hi' => (h8 i hi hi').lt⟩
  rw [h1] at hv
  injection hv with e1 e2 _
  obtain ⟨b, off, h9, h10, _⟩ := h7 0 (by omega)
  rw [e1] at h9
  injection h9 with h9
  rw [h9]; exact h10
theorem rdsR_nil (ok : Nat → Prop) (w : World) : RdsR ok w (.slice none 0 0) [] := ⟨[], none, 0, 0, rfl, rfl, rfl, ⟨Nat.le_refl _, fun _ => rfl⟩, Nat.zero_le _, okV_nil _ _ _, fun i h => absurd h (Nat.not_lt_zero _), fun i h => absurd h (Nat.not_lt_zero _)⟩
/-- One element. -/
theorem RdsR.get {ok : Nat → Prop} {w : World} {ad : Option Addr} {n cap : Nat} {L : List Rl} (h : RdsR ok w (.slice ad n cap) L) (i : Nat) (hi : i < L.length) : ∃ (b off : Nat) (x : RC), ad = some ⟨b, off, none⟩ ∧ b < w.heap.size ∧ ok b ∧
    w.cell? ⟨b, off + i * 4, none⟩ = some (.int .i64 x.p) ∧ w.cell? ⟨b, off + i * 4 + 1, none⟩ = some (.string x.m) ∧ w.cell? ⟨b, off + i * 4 + 2, none⟩ = some (.int .i64 x.k) ∧ w.cell? ⟨b, off + i * 4 + 3, none⟩ = some (.slice x.a x.n x.c) ∧ RdC ok w x L[i] := by
  obtain ⟨xs, ad', n', cap', h1, h2, h3, h4, h5, h6, h7, h8⟩ := h
  injection h1 with e1 e2 e3
  subst e1 e2 e3
  obtain ⟨b, off, rfl, hlt, c0, c1, c2, c3⟩ := h7 i (by omega)
  exact ⟨b, off, xs[i]'(by omega), rfl, hlt, h6 _ _ _ rfl (by omega), c0, c1, c2, c3, h8 i (by omega) hi⟩
theorem RdsR.form {ok : Nat → Prop} {w : World} {v : Value} {L : List Rl} (h : RdsR ok w v L) : ∃ ad cap, v = .slice ad L.length cap ∧ L.length ≤ cap ∧ cap ≤ maxLen := by
  obtain ⟨xs, ad, n, cap, rfl, rfl, h3, h4, h5, _⟩ := h
  exact ⟨ad, cap, rfl, h4.1, h5⟩
theorem RdsR.len {ok : Nat → Prop} {w : World} {ad : Option Addr} {n cap : Nat} {L : List Rl} (h : RdsR ok w (.slice ad n cap) L) : n = L.length ∧ n ≤ cap ∧ cap ≤ maxLen := by
  obtain ⟨xs, ad', n', cap', h1, h2, h3, h4, h5, _⟩ := h
  injection h1 with e1 e2 e3
  subst e1 e2 e3
  exact ⟨h2, h4.1, h5⟩
theorem RdsR.nilcap {ok : Nat → Prop} {w : World} {n cap : Nat} {L : List Rl} (h : RdsR ok w (.slice none n cap) L) : L = [] ∧ n = 0 ∧ cap = 0 := by
  obtain ⟨xs, ad', n', cap', h1, h2, h3, h4, h5, _⟩ := h
  injection h1 with e1 e2 e3
  subst e1 e2 e3
  have := h4.2 rfl
  have : n = 0 := by omega
  exact ⟨List.length_eq_zero_iff.1 (by omega), this, h4.2 rfl⟩
theorem rdsS_nilcap {w : World} {n c : Nat} {ss : List ByteArray} (h : RdsS w (.slice none n c) ss) : ss = [] ∧ n = 0 ∧ c = 0 := by
  rcases h with ⟨a', c', h1, h2, h3⟩ | ⟨b, off, cap, h1, _⟩
  · injection h1 with e1 e2 e3
    subst e1 e2 e3
    exact ⟨List.map_eq_nil_iff.1 h2, rfl, h3 rfl⟩
  · cases h1
theorem encR_len (x : RC) : (encR x).length = 4 := rfl
theorem encR_one (x : RC) : ∀ u ∈ encR x, u.oneCell' = true := by
  intro u hu
  simp only [encR, List.mem_cons, List.mem_nil_iff, or_false] at hu
  rcases hu with rfl | rfl | rfl | rfl <;> rfl
theorem cellsR_cons (x : RC) (l : List RC) : cellsR (x :: l) = encR x ++ cellsR l := rfl
theorem cellsR_append (a b : List RC) : cellsR (a ++ b) = cellsR a ++ cellsR b := by simp [cellsR]
theorem cellsR_length : ∀ (l : List RC), (cellsR l).length = l.length * 4
  | [] => rfl
  | x :: l => by rw [cellsR_cons, List.length_append, encR_len, cellsR_length l, List.length_cons]; omega
theorem cellsR_one (l : List RC) : ∀ u ∈ cellsR l, u.oneCell' = true := by
  intro u hu
  obtain ⟨x, _, hu⟩ := List.mem_flatMap.1 hu
  exact encR_one x u hu
theorem cellsR_get : ∀ (l : List RC) (i : Nat) (h : i < l.length), (cellsR l)[i * 4]? = some (.int .i64 l[i].p) ∧ (cellsR l)[i * 4 + 1]? = some (.string l[i].m) ∧ (cellsR l)[i * 4 + 2]? = some (.int .i64 l[i].k) ∧ (cellsR l)[i * 4 + 3]? = some (.slice l[i].a l[i].n l[i].c)
  | [], i, h => absurd h (Nat.not_lt_zero i)
  | x :: l, 0, _ => by simp [cellsR_cons, encR]
  | x :: l, i + 1, h => by
    have := cellsR_get l i (by simpa using h)
    rw [cellsR_cons, show (i + 1) * 4 = i * 4 + 4 by omega]
    simpa [encR] using this
/-- A row of the call's own. -/
structure OwnR (ok : Nat → Prop) (w : World) (base : Nat) (v : Value) (xs : List RC) (L : List Rl) : Prop where
  row : w.ownsRow base 47 4 v L.length (cellsR xs)
  len : xs.length = L.length
  rd : ∀ i (h : i < xs.length) (h' : i < L.length), RdC ok w xs[i] L[i]
theorem OwnR.toRds {ok : Nat → Prop} {w : World} {base : Nat} {v : Value} {xs : List RC} {L : List Rl} (h : OwnR ok w base v xs L) (hk : ∀ b, base ≤ b → ok b) : RdsR ok w v L := by
  obtain ⟨⟨h1, h2⟩, h3, h4⟩ := h
  rcases h2 with ⟨h2, h5⟩ | ⟨g, cap, cur, hv, hg, hh, hn, hc, hs, ht⟩
  · subst h2
    have e1 : L = [] := List.length_eq_zero_iff.1 h5
    have e2 : xs = [] := List.length_eq_zero_iff.1 (by omega)
    subst e1 e2
    exact rdsR_nil _ _
  · refine ⟨xs, _, _, cap, hv, rfl, h3, ⟨hn, fun h => by cases h⟩, hc, ?_, fun i hi => ⟨g, 0, rfl, ?_, ?_⟩, h4⟩
    · rw [hv]; exact okV_some (hk g hg)
    · rcases Nat.lt_or_ge g w.heap.size with h | h
      · exact h
      · simp [Array.getElem?_eq_none h] at hh
    · have key : ∀ j u, j < L.length * 4 → (cellsR xs)[j]? = some u → w.cell? ⟨g, 0 + j, none⟩ = some u := fun j u hj hu => by
        rw [← ht, List.getElem?_take_of_lt (by omega)] at hu
        simp only [World.cell?, hh, Nat.zero_add]
        simpa using hu
      have h6 := cellsR_get xs i hi
      have k0 := key (i * 4) _ (by omega) h6.1
      have k1 := key (i * 4 + 1) _ (by omega) h6.2.1
      have k2 := key (i * 4 + 2) _ (by omega) h6.2.2.1
      have k3 := key (i * 4 + 3) _ (by omega) h6.2.2.2
      exact ⟨k0, k1, k2, k3⟩
theorem ownR_nil (ok : Nat → Prop) (w : World) (base : Nat) : OwnR ok w base (.slice none 0 0) [] [] := ⟨World.ownsRow_nil _ _ _ _, rfl, fun i h => absurd h (Nat.not_lt_zero _)⟩
theorem infoR : (Tryz.prog.info? 47).map (fun i => (i.zero, i.size, i.bytes)) = some (some (.agg #[.int .i64 0, .string ⟨#[]⟩, .int .i64 0, .slice none 0 0]), 4, 56) := by kernel_rfl
theorem infoS : (Tryz.prog.info? 9).map (fun i => (i.zero, i.size, i.bytes)) = some (some (.string ⟨#[]⟩), 1, 16) := by kernel_rfl
end Go.Proofs.YtlamhpiiikcpiaaGreatDoor
/-
  A region that draws its order, whose last store writes a cell that the region loads: what it loads is held till that store.
-/
namespace Go
section
variable {P : Program} {ops : Array Oper} {Q : Exit → Act → World → Prop} {md : Region.Mode} {S : World → Prop} {z : Nat}
/-- Whatever order is picked from here on, and S holds behind every operation as long as number z has not come up. -/
def wpAnyG (P : Program) (md : Region.Mode) (ops : Array Oper) (Q : Exit → Act → World → Prop) (S : World → Prop) (z : Nat) : Nat → Array Bool → Act → World → Prop
  | 0, listed, a, w => Region.ready md ops listed = [] ∧ Q .normal a w
  | fuel + 1, listed, a, w =>
    (Region.ready md ops listed = [] → Q .normal a w) ∧
    ∀ i ∈ Region.ready md ops listed, wpOp P ops Q i (fun a' w' => ((listed.setIfInBounds i true).getD z false = false → S w') ∧ wpAnyG P md ops Q S z fuel (listed.setIfInBounds i true) a' w') a w
theorem wpAny_of_heldG : ∀ (fuel : Nat) (listed : Array Bool) (a : Act) (w : World), wpAnyG P md ops Q S z fuel listed a w → wpAny P md ops Q fuel listed a w
  | 0, _, _, _, h => h
  | fuel + 1, _, _, _, h => ⟨h.1, fun i hi => wpOp_mono (fun a' w' h' => wpAny_of_heldG fuel _ a' w' h'.2) (h.2 i hi)⟩
theorem not_ready_of {i : Nat} {oj : Oper} {listed : Array Bool} (hun : listed.getD i true = false) (hall : ∀ e ∈ oj.after, Region.binds md e = true → listed.getD e.on false = true) : ∀ e ∈ oj.after, Region.binds md e = true → e.on ≠ i := by
  intro e he hb heq
  have h1 := hall e he hb
  rw [heq, getD_both hun] at h1
  cases h1
/-- An operation that yields its value in whatever world. -/
theorem wpAnyG_firstP {i : Nat} {oi : Oper} {v : Value} (hi : ops[i]? = some oi) (hiz : i ≠ z) (hsel : ∀ (j : Nat) (o : Oper) cs b, ops[j]? = some o → o.op ≠ .select cs b)
    (hQ : ∀ c a w, Q (.panic c) (a.put oi.dst v) w → Q (.panic c) a w) :
    ∀ (fuel : Nat) (listed : Array Bool) (a : Act) (w : World),
      (∀ j oj, ops[j]? = some oj → j ≠ i → listed.getD j true = false → (∀ e ∈ oj.after, Region.binds md e = true → e.on ≠ i) → oi.apart ops oj = true) →
      i ∈ Region.ready md ops listed → YieldsIf P ops (fun _ => True) oi v a → (listed.getD z false = false → S w) →
      wpAnyG P md ops Q S z fuel (listed.setIfInBounds i true) (a.put oi.dst v) w → wpAnyG P md ops Q S z (fuel + 1) listed a w := by
  intro fuel
  induction fuel with
  | zero =>
    intro listed a w _ hr hy hS H
    refine ⟨fun h => (by rw [h] at hr; cases hr), fun j hj => ?_⟩
    by_cases hji : j = i
    · subst hji; exact hy.wpOp hi trivial ⟨fun h => hS (by rwa [getD_set_ne false hiz] at h), H⟩
    · have := ready_mono hj hji
      rw [H.1] at this
      cases this
  | succ fuel ih =>
    intro listed a w hfree hr hy hS H
    refine ⟨fun h => (by rw [h] at hr; cases hr), fun j hj => ?_⟩
    by_cases hji : j = i
    · subst hji; exact hy.wpOp hi trivial ⟨fun h => hS (by rwa [getD_set_ne false hiz] at h), H⟩
    · have h1 := H.2 j (ready_mono hj hji)
      obtain ⟨hjun, oj, hoj, hall⟩ := mem_ready.1 hj
      have hnot := not_ready_of (mem_ready.1 hr).1 hall
      have h2 := wpOp_putIf hoj (hfree j oj hoj hji hjun hnot) (fun cs b => hsel i oi cs b hi) (fun cs b => hsel j oj cs b hoj) hQ hy h1
      have hfree' : ∀ k ok, ops[k]? = some ok → k ≠ i → (listed.setIfInBounds j true).getD k true = false →
          (∀ e ∈ ok.after, Region.binds md e = true → e.on ≠ i) → oi.apart ops ok = true := fun k ok hk hki hun hno => by
        refine hfree k ok hk hki ?_ hno
        by_cases hjk : j = k
        · subst hjk; exact hjun
        · rw [getD_set_ne true hjk] at hun; exact hun
      have hc : (listed.setIfInBounds j true).setIfInBounds i true = (listed.setIfInBounds i true).setIfInBounds j true := Array.setIfInBounds_comm _ _ hji
      have hSz : ∀ w', (((listed.setIfInBounds i true).setIfInBounds j true).getD z false = false → S w') → ((listed.setIfInBounds j true).getD z false = false → S w') := fun w' h h0 => h (by rw [← hc, getD_set_ne false hiz]; exact h0)
      refine wpOp_mono (fun a' w' h3 => ⟨hSz w' h3.2.1, ih (listed.setIfInBounds j true) a' w' hfree' (ready_mono hr (Ne.symm hji)) h3.1 (hSz w' h3.2.1) ?_⟩) h2
      rw [hc]
      exact h3.2.2
/-- An operation that yields its value in every world that meets S, and for which number z waits. -/
theorem wpAnyG_firstL {i : Nat} {oi : Oper} {v : Value} (hi : ops[i]? = some oi) (hiz : i ≠ z) (hwait : Region.waitsFor md ops z i = true) (hsel : ∀ (j : Nat) (o : Oper) cs b, ops[j]? = some o → o.op ≠ .select cs b)
    (hQ : ∀ c a w, Q (.panic c) (a.put oi.dst v) w → Q (.panic c) a w) :
    ∀ (fuel : Nat) (listed : Array Bool) (a : Act) (w : World), listed.getD z false = false →
      (∀ j oj, ops[j]? = some oj → j ≠ i → listed.getD j true = false → (∀ e ∈ oj.after, Region.binds md e = true → e.on ≠ i) → oi.apart ops oj = true) →
      i ∈ Region.ready md ops listed → YieldsIf P ops S oi v a → S w →
      wpAnyG P md ops Q S z fuel (listed.setIfInBounds i true) (a.put oi.dst v) w → wpAnyG P md ops Q S z (fuel + 1) listed a w := by
  intro fuel
  induction fuel with
  | zero =>
    intro listed a w _ _ hr hy hS H
    refine ⟨fun h => (by rw [h] at hr; cases hr), fun j hj => ?_⟩
    by_cases hji : j = i
    · subst hji; exact hy.wpOp hi hS ⟨fun _ => hS, H⟩
    · have := ready_mono hj hji
      rw [H.1] at this
      cases this
  | succ fuel ih =>
    intro listed a w hz hfree hr hy hS H
    refine ⟨fun h => (by rw [h] at hr; cases hr), fun j hj => ?_⟩
    by_cases hji : j = i
    · subst hji; exact hy.wpOp hi hS ⟨fun _ => hS, H⟩
    · have h1 := H.2 j (ready_mono hj hji)
      obtain ⟨hjun, oj, hoj, hall⟩ := mem_ready.1 hj
      have hnot := not_ready_of (mem_ready.1 hr).1 hall
      have hjz : j ≠ z := by
        intro e
        subst e
        obtain ⟨o', ho', e, he, hb, hon⟩ := Region.waitsFor_spec hwait
        have : o' = oj := Option.some.inj (ho'.symm.trans hoj)
        subst this
        exact hnot e he hb hon
      have h2 := wpOp_putIf hoj (hfree j oj hoj hji hjun hnot) (fun cs b => hsel i oi cs b hi) (fun cs b => hsel j oj cs b hoj) hQ hy h1
      have hfree' : ∀ k ok, ops[k]? = some ok → k ≠ i → (listed.setIfInBounds j true).getD k true = false →
          (∀ e ∈ ok.after, Region.binds md e = true → e.on ≠ i) → oi.apart ops ok = true := fun k ok hk hki hun hno => by
        refine hfree k ok hk hki ?_ hno
        by_cases hjk : j = k
        · subst hjk; exact hjun
        · rw [getD_set_ne true hjk] at hun; exact hun
      have hc : (listed.setIfInBounds j true).setIfInBounds i true = (listed.setIfInBounds i true).setIfInBounds j true := Array.setIfInBounds_comm _ _ hji
      have hzj : (listed.setIfInBounds j true).getD z false = false := by rw [getD_set_ne false hjz]; exact hz
      have hzij : ((listed.setIfInBounds i true).setIfInBounds j true).getD z false = false := by rw [← hc, getD_set_ne false hiz]; exact hzj
      refine wpOp_mono (fun a' w' h3 => ⟨fun _ => h3.2.1 hzij, ih (listed.setIfInBounds j true) a' w' hzj hfree' (ready_mono hr (Ne.symm hji)) h3.1 (h3.2.1 hzij) ?_⟩) h2
      rw [hc]
      exact h3.2.2
def Region.okP (md : Region.Mode) (ops : Array Oper) (z : Nat) (listed : Array Bool) (i : Nat) : Bool :=
  Region.noSelect ops && Region.free md ops listed i && (Region.ready md ops listed).contains i && i != z
def Region.okL (md : Region.Mode) (ops : Array Oper) (z : Nat) (listed : Array Bool) (i : Nat) : Bool :=
  Region.okP md ops z listed i && Region.waitsFor md ops z i && !listed.getD z false
/-- Take number i first: it yields its value in whatever world. -/
theorem wpAnyG_takeP (i : Nat) {oi : Oper} {v : Value} {fuel : Nat} {listed : Array Bool} {a : Act} {w : World} (hi : ops[i]? = some oi) (hb : Region.okP md ops z listed i = true)
    (hQ : ∀ c a w, Q (.panic c) (a.put oi.dst v) w → Q (.panic c) a w) (hw : Region.wanted oi (yielded ops a.tmps) = true) (hy : ∀ w, (execOp a.eval oi).run P w = .ok (.value v) w) (hS : S w)
    (h : wpAnyG P md ops Q S z fuel (listed.setIfInBounds i true) (a.put oi.dst v) w) : wpAnyG P md ops Q S z (fuel + 1) listed a w := by
  simp only [Region.okP, Bool.and_eq_true, bne_iff_ne] at hb
  obtain ⟨⟨⟨h1, h2⟩, h3⟩, h4⟩ := hb
  exact wpAnyG_firstP hi h4 (Region.noSelect_spec h1) hQ fuel listed a w (Region.free_spec hi h2) (by simpa using h3) (.inl ⟨hw, fun w _ => hy w⟩) (fun _ => hS) h
/-- Take number i first: a load of what S tells. -/
theorem wpAnyG_takeL (i : Nat) {oi : Oper} {v : Value} {fuel : Nat} {listed : Array Bool} {a : Act} {w : World} (hi : ops[i]? = some oi) (hb : Region.okL md ops z listed i = true)
    (hQ : ∀ c a w, Q (.panic c) (a.put oi.dst v) w → Q (.panic c) a w) (hw : Region.wanted oi (yielded ops a.tmps) = true) (hy : ∀ w, S w → (execOp a.eval oi).run P w = .ok (.value v) w) (hS : S w)
    (h : wpAnyG P md ops Q S z fuel (listed.setIfInBounds i true) (a.put oi.dst v) w) : wpAnyG P md ops Q S z (fuel + 1) listed a w := by
  simp only [Region.okL, Region.okP, Bool.and_eq_true, bne_iff_ne, Bool.not_eq_true'] at hb
  obtain ⟨⟨⟨⟨⟨h1, h2⟩, h3⟩, h4⟩, h5⟩, h6⟩ := hb
  exact wpAnyG_firstL hi h4 h5 (Region.noSelect_spec h1) hQ fuel listed a w h6 (Region.free_spec hi h2) (by simpa using h3) (.inl ⟨hw, hy⟩) hS h
/-- One operation alone may come up: it is carried out. -/
theorem wpAnyG_one (i : Nat) {oi : Oper} {fuel : Nat} {listed : Array Bool} {a : Act} {w : World} (hi : ops[i]? = some oi) (hr : Region.ready md ops listed = [i])
    (h : ∀ K : Act → World → Prop, (∀ a w, ((listed.setIfInBounds i true).getD z false = false → S w) → wpAnyG P md ops Q S z fuel (listed.setIfInBounds i true) a w → K a w) → if Region.wanted oi (yielded ops a.tmps) = true then Oper.wp P oi a w K Q else K (a.put oi.dst undef) w) :
    wpAnyG P md ops Q S z (fuel + 1) listed a w := by
  refine ⟨fun h0 => (by rw [hr] at h0; cases h0), fun j hj => ?_⟩
  rw [hr] at hj
  obtain rfl : j = i := by simpa using hj
  exact wpOp_step hi (fun K' hK => h K' (fun a w h1 h2 => hK a w ⟨h1, h2⟩))
/-- All have come up. -/
theorem wpAnyG_done {listed : Array Bool} {a : Act} {w : World} (hr : Region.ready md ops listed = []) (h : Q .normal a w) : ∀ fuel, wpAnyG P md ops Q S z fuel listed a w
  | 0 => ⟨hr, h⟩
  | _ + 1 => ⟨fun _ => h, by rw [hr]; simp⟩
/-- The beginning. -/
theorem wp_region_heldG (S : World → Prop) (z : Nat) {id : Nat} {a : Act} {w : World} (hm : P.follows .mixedOrders = true)
    (h : wpAnyG P .any ops Q S z ops.size (Array.replicate ops.size false) a w.drew) : (Code.region id ops true).wp P Q a w :=
  wp_region_any hm (wpAny_of_heldG _ _ _ _ h)
end
end Go
