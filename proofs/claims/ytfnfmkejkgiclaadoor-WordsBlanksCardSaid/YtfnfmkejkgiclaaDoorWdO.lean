/-
  Walks over package words and the reference: Number.
-/
import Derived.Test.YtfnfmkejkgiclaaDoorWdM
namespace Go.Proofs.YtfnfmkejkgiclaaDoor
open Go.RowKit Go.Shelf
set_option linter.unusedVariables false
set_option linter.unusedSimpArgs false

namespace Wd
def numF : Nat → List UInt8 → Option Nat
  | n, [] => some n
  | n, c :: t => if Rp.isDigit c then numF (n * 10 + (c.toNat - 48)) t else none
/-- A number's value and its error. -/
def numE (l : List UInt8) : Nat × Nat :=
  if l.length = 0 ∨ 10 < l.length ∨ (l.headD 0 = 48 ∧ 1 < l.length) then (0, 32)
  else match numF 0 l with
    | none => (0, 32)
    | some n => if 2147483647 < n then (0, 32) else (n, 0)
end Wd

theorem digit_range {c : UInt8} (h : Rp.isDigit c = true) : 48 ≤ c.toNat ∧ c.toNat ≤ 57 := by
  unfold Rp.isDigit at h
  simp only [Bool.and_eq_true, decide_eq_true_eq] at h
  have h1 : (48 : UInt8).toNat ≤ c.toNat := h.1
  have h2 : c.toNat ≤ (57 : UInt8).toNat := h.2
  exact ⟨h1, h2⟩

/-- Where the number's reader is. -/
structure NumSt (s : ByteArray) (k n : Nat) : Prop where
  eq : Wd.numE s.data.toList = (match Wd.numF n (s.data.toList.drop k) with
    | none => (0, 32)
    | some n => if 2147483647 < n then (0, 32) else (n, 0))
  lt : n < 10 ^ k

theorem NumSt.start {s : ByteArray} (h0 : ¬ s.size = 0) (h1 : s.size ≤ 10) (h2 : ¬ (s[0]'(by omega) = 48 ∧ 1 < s.size)) : NumSt s 0 0 := by
  refine ⟨?_, by simp⟩
  unfold Wd.numE
  rw [size_list, head_byte s (by omega), if_neg (by rintro (h | h | h); exact h0 h; omega; exact h2 h)]
  rfl
theorem NumSt.step {s : ByteArray} {k n : Nat} (h : NumSt s k n) (hk : k < s.size) (hd : Rp.isDigit s[k] = true) : NumSt s (k + 1) (n * 10 + (s[k].toNat - 48)) := by
  refine ⟨?_, ?_⟩
  · have e : s.data.toList.drop k = s[k] :: s.data.toList.drop (k + 1) := by rw [List.drop_eq_getElem_cons (by simpa using hk)]; rfl
    rw [h.eq, e, Wd.numF, if_pos hd]
  · have h1 := h.lt
    have h2 := digit_range hd
    rw [Nat.pow_succ]
    omega
theorem NumSt.bad {s : ByteArray} {k n : Nat} (h : NumSt s k n) (hk : k < s.size) (hd : Rp.isDigit s[k] = false) : Wd.numE s.data.toList = (0, 32) := by
  have e : s.data.toList.drop k = s[k] :: s.data.toList.drop (k + 1) := by rw [List.drop_eq_getElem_cons (by simpa using hk)]; rfl
  rw [h.eq, e, Wd.numF, hd]
  rfl
theorem NumSt.done {s : ByteArray} {k n : Nat} (h : NumSt s k n) (hk : k = s.size) : Wd.numE s.data.toList = if 2147483647 < n then (0, 32) else (n, 0) := by
  rw [h.eq, hk, List.drop_of_length_le (by rw [size_list]; omega)]
  rfl
theorem numE_bad {s : ByteArray} (h : s.size = 0 ∨ 10 < s.size) : Wd.numE s.data.toList = (0, 32) := by
  unfold Wd.numE
  rw [size_list, if_pos (by rcases h with h | h; exact .inl h; exact .inr (.inl h))]
theorem numE_zero {s : ByteArray} (h : 1 < s.size) (hz : s[0] = 48) : Wd.numE s.data.toList = (0, 32) := by
  unfold Wd.numE
  rw [size_list, head_byte s (by omega), if_pos (.inr (.inr ⟨hz, h⟩))]
theorem num_lt {k n : Nat} (h : n < 10 ^ k) (hk : k ≤ 10) : n < 10000000000 := by
  have : 10 ^ k ≤ 10 ^ 10 := Nat.pow_le_pow_right (by omega) hk
  omega

def numR (l : List UInt8) : Ending := .returned (.tuple #[.int .i64 (Wd.numE l).1, .int .i64 (Wd.numE l).2])
theorem numR_bad {l : List UInt8} (h : Wd.numE l = (0, 32)) : Ending.returned (.tuple #[.int .i64 0, .int .i64 32]) = numR l := by unfold numR; rw [h]; rfl
theorem numR_ok {l : List UInt8} {n : Nat} (h : Wd.numE l = (n, 0)) : Ending.returned (.tuple #[.int .i64 n, .int .i64 0]) = numR l := by unfold numR; rw [h]; rfl

set_option maxHeartbeats 1600000 in
set_option maxRecDepth 20000 in
theorem Number_any (s : ByteArray) (w : World) (hs : s.size ≤ maxLen) : Calls Tryd.prog 16 #[.string s] w fun e w' => e = numR s.data.toList ∧ w = w' := by
  unfold maxLen at hs
  by_cases h0 : s.size = 0
  · have HF := Lib.hid (numE_bad (s := s) (.inl h0))
    have hn := str_nil s h0
    have hne : (s.toList.isEmpty) = true := by rw [hn]; rfl
    go_enter Tryd.func16, Tryd.ntmps16
    go_wp2_with fail
    go_ret2
    exact ⟨numR_bad HF.out, rfl⟩
  · have hnn := str_not_nil s h0
    have hne : (s.toList.isEmpty) = false := by simpa using hnn
    by_cases h1 : 10 < s.size
    · have HF := Lib.hid (numE_bad (s := s) (.inr h1))
      have hz : (10 : Int) < (s.size : Int) := by omega
      go_enter Tryd.func16, Tryd.ntmps16
      go_wp2_with fail
      go_ret2
      exact ⟨numR_bad HF.out, rfl⟩
    · have hz : decide ((10 : Int) < (s.size : Int)) = false := by simp; omega
      have hp : 0 < s.size := by omega
      by_cases h2 : s[0] = 48 ∧ 1 < s.size
      · have HF := Lib.hid (numE_zero h2.2 h2.1)
        have hb := byte_eq (48 : UInt8) h2.1 48 rfl
        have hl : (1 : Int) < (s.size : Int) := by omega
        clear h2
        go_enter Tryd.func16, Tryd.ntmps16
        go_wp2_with fail
        go_ret2
        exact ⟨numR_bad HF.out, rfl⟩
      · have HS := Lib.hid (NumSt.start h0 (by omega) h2)
        have hcase : ((s[0].toNat : Int) == 48) = true ∧ decide ((1 : Int) < (s.size : Int)) = false ∨ ((s[0].toNat : Int) == 48) = false := by
          by_cases h : s[0] = 48
          · exact .inl ⟨(byte_eq (48 : UInt8) h 48 rfl).1, by simp; have : ¬ 1 < s.size := fun hh => h2 ⟨h, hh⟩; omega⟩
          · exact .inr (byte_ne (48 : UInt8) h 48 rfl).1
        clear h2
        rcases hcase with ⟨hb, hl⟩ | hb
        all_goals
          go_enter Tryd.func16, Tryd.ntmps16
          go_wp2_with fail
          go_loop [4, 25] (fun nv kv => ∃ n k : Nat, k ≤ s.size ∧ nv = .int .i64 n ∧ kv = .int .i64 k ∧ n < 10000000000 ∧ Hid (NumSt s k n)) (fun nv kv => s.size - (intOf kv).toNat)
          case atStart => exact ⟨0, 0, Nat.zero_le _, rfl, rfl, by omega, HS.out⟩
          case round =>
            obtain ⟨n, k, hk, rfl, rfl, hnl, HN⟩ := hrel
            by_cases hlt : k < s.size
            · have hkz : (k : Int) < (s.size : Int) := by omega
              obtain ⟨d, hd⟩ : ∃ d, Rp.isDigit s[k] = d := ⟨_, rfl⟩
              have HD := Lib.hid (digit_is s[k] d hd)
              have HDd := Lib.hid hd
              clear hd
              cases d with
              | true =>
                obtain ⟨r1, r2⟩ := digit_range HDd.out
                have r3 : (48 : Int) ≤ (s[k].toNat : Int) := by omega
                have r4 : (s[k].toNat : Int) ≤ 57 := by omega
                have HN2 := Lib.hid (HN.out.step hlt HDd.out)
                have hn2 : n * 10 + (s[k].toNat - 48) < 10000000000 := num_lt HN2.out.lt (by omega)
                go_wp2_with ((with_reducible refine (HD.out _).mono ?_); rintro e w' ⟨rfl, rfl⟩)
                go_round
                case rel => exact ⟨_, k + 1, by omega, by go_num, by go_num, hn2, HN2⟩
                case measure => simp [intOf]; omega
              | false =>
                have HF := Lib.hid (HN.out.bad hlt HDd.out)
                go_wp2_with ((with_reducible refine (HD.out _).mono ?_); rintro e w' ⟨rfl, rfl⟩)
                go_ret2
                exact ⟨numR_bad HF.out, rfl⟩
            · have hkz : decide ((k : Int) < (s.size : Int)) = false := by simp; omega
              have HE := Lib.hid (HN.out.done (by omega))
              by_cases hbig : 2147483647 < n
              · have hbz : (2147483647 : Int) < (n : Int) := by omega
                have HF : Hid (Wd.numE s.data.toList = (0, 32)) := by show _ = _; rw [HE.out, if_pos hbig]
                go_wp2_with fail
                go_ret2
                exact ⟨numR_bad HF.out, rfl⟩
              · have hbz : decide ((2147483647 : Int) < (n : Int)) = false := by simp; omega
                have HF : Hid (Wd.numE s.data.toList = (n, 0)) := by show _ = _; rw [HE.out, if_neg hbig]
                go_wp2_with fail
                go_ret2
                exact ⟨numR_ok HF.out, rfl⟩

set_option maxHeartbeats 1600000 in
set_option maxRecDepth 20000 in
theorem rNumber_any (s : ByteArray) (w : World) (hs : s.size ≤ maxLen) : Calls Tryd.prog 17 #[.string s] w fun e w' => e = numR s.data.toList ∧ w = w' := by
  unfold maxLen at hs
  by_cases h0 : s.size = 0
  · have HF := Lib.hid (numE_bad (s := s) (.inl h0))
    have hn := str_nil s h0
    have hne : (s.toList.isEmpty) = true := by rw [hn]; rfl
    go_enter Tryd.func17, Tryd.ntmps17
    go_wp2_with fail
    go_ret2
    exact ⟨numR_bad HF.out, rfl⟩
  · have hnn := str_not_nil s h0
    have hne : (s.toList.isEmpty) = false := by simpa using hnn
    by_cases h1 : 10 < s.size
    · have HF := Lib.hid (numE_bad (s := s) (.inr h1))
      have hz : (10 : Int) < (s.size : Int) := by omega
      go_enter Tryd.func17, Tryd.ntmps17
      go_wp2_with fail
      all_goals (go_ret2; exact ⟨numR_bad HF.out, rfl⟩)
    · have hz : decide ((10 : Int) < (s.size : Int)) = false := by simp; omega
      have hp : 0 < s.size := by omega
      by_cases h2 : s[0] = 48 ∧ 1 < s.size
      · have HF := Lib.hid (numE_zero h2.2 h2.1)
        have hb := byte_eq (48 : UInt8) h2.1 48 rfl
        have hl : (1 : Int) < (s.size : Int) := by omega
        clear h2
        go_enter Tryd.func17, Tryd.ntmps17
        go_wp2_with fail
        go_ret2
        exact ⟨numR_bad HF.out, rfl⟩
      · have HS := Lib.hid (NumSt.start h0 (by omega) h2)
        have hcase : ((s[0].toNat : Int) == 48) = true ∧ decide ((1 : Int) < (s.size : Int)) = false ∨ ((s[0].toNat : Int) == 48) = false := by
          by_cases h : s[0] = 48
          · exact .inl ⟨(byte_eq (48 : UInt8) h 48 rfl).1, by simp; have : ¬ 1 < s.size := fun hh => h2 ⟨h, hh⟩; omega⟩
          · exact .inr (byte_ne (48 : UInt8) h 48 rfl).1
        clear h2
        rcases hcase with ⟨hb, hl⟩ | hb
        all_goals
          go_enter Tryd.func17, Tryd.ntmps17
          go_wp2_with fail
          go_loop [4, 5] (fun nv kv => ∃ n k : Nat, k ≤ s.size ∧ nv = .int .i64 n ∧ kv = .int .i64 k ∧ n < 10000000000 ∧ Hid (NumSt s k n)) (fun nv kv => s.size - (intOf kv).toNat)
          case atStart => exact ⟨0, 0, Nat.zero_le _, rfl, rfl, by omega, HS.out⟩
          case round =>
            obtain ⟨n, k, hk, rfl, rfl, hnl, HN⟩ := hrel
            by_cases hlt : k < s.size
            · have hkz : (k : Int) < (s.size : Int) := by omega
              obtain ⟨d, hd⟩ : ∃ d, Rp.isDigit s[k] = d := ⟨_, rfl⟩
              have HD := Lib.hid (rdigit_is s[k] d hd)
              have HDd := Lib.hid hd
              clear hd
              cases d with
              | true =>
                obtain ⟨r1, r2⟩ := digit_range HDd.out
                have r3 : (48 : Int) ≤ (s[k].toNat : Int) := by omega
                have r4 : (s[k].toNat : Int) ≤ 57 := by omega
                have HN2 := Lib.hid (HN.out.step hlt HDd.out)
                have hn2 : n * 10 + (s[k].toNat - 48) < 10000000000 := num_lt HN2.out.lt (by omega)
                go_wp2_with ((with_reducible refine (HD.out _).mono ?_); rintro e w' ⟨rfl, rfl⟩)
                go_round
                case rel => exact ⟨_, k + 1, by omega, by go_num, by go_num, hn2, HN2⟩
                case measure => simp [intOf]; omega
              | false =>
                have HF := Lib.hid (HN.out.bad hlt HDd.out)
                go_wp2_with ((with_reducible refine (HD.out _).mono ?_); rintro e w' ⟨rfl, rfl⟩)
                go_ret2
                exact ⟨numR_bad HF.out, rfl⟩
            · have hkz : decide ((k : Int) < (s.size : Int)) = false := by simp; omega
              have HE := Lib.hid (HN.out.done (by omega))
              by_cases hbig : 2147483647 < n
              · have hbz : (2147483647 : Int) < (n : Int) := by omega
                have HF : Hid (Wd.numE s.data.toList = (0, 32)) := by show _ = _; rw [HE.out, if_pos hbig]
                go_wp2_with fail
                go_ret2
                exact ⟨numR_bad HF.out, rfl⟩
              · have hbz : decide ((2147483647 : Int) < (n : Int)) = false := by simp; omega
                have HF : Hid (Wd.numE s.data.toList = (n, 0)) := by show _ = _; rw [HE.out, if_neg hbig]
                go_wp2_with fail
                go_ret2
                exact ⟨numR_ok HF.out, rfl⟩
end Go.Proofs.YtfnfmkejkgiclaaDoor
