/-
  Walks over the reference of words: double, single, next.
-/
import Derived.Test.YtfnfmkejkgiclaaDoorWdH
namespace Go.Proofs.YtfnfmkejkgiclaaDoor
open Go.RowKit
set_option linter.unusedVariables false
set_option linter.unusedSimpArgs false

set_option maxHeartbeats 800000 in
set_option maxRecDepth 20000 in
theorem rdouble_any (s : ByteArray) (w : World) : Calls Tryd.prog 35 #[.string s] w fun e w' => e = .returned (.bool (Wd.isPair s.data.toList)) ∧ w = w' := by
  have hp : Wd.isPair s.data.toList = (s.toList == [61, 61] || s.toList == [60, 61] || s.toList == [62, 61] || s.toList == [45, 62]) := by rw [ByteArray.toList_eq]; rfl
  rw [hp]
  clear hp
  go_enter Tryd.func35, Tryd.ntmps35
  go_wp2_with fail
  all_goals
    go_ret
    exact ⟨ret_bool (by simp [*]), rfl⟩

theorem single_no {c : UInt8} (h : ∀ v ∈ Wd.singles, ¬ c.toNat = v.toNat) : Wd.isSingle c = false := by
  unfold Wd.isSingle
  rw [Bool.eq_false_iff]
  intro hc
  rw [List.contains_iff_mem] at hc
  exact h c hc rfl

set_option maxHeartbeats 3200000 in
set_option maxRecDepth 20000 in
theorem rsingle_any (c : UInt8) (w : World) : Calls Tryd.prog 36 #[.int .u8 (c.toNat : Int)] w fun e w' => e = .returned (.bool (Wd.isSingle c)) ∧ w = w' := by
  go_enter Tryd.func36, Tryd.ntmps36
  go_wp2_with fail
  go_loop [3] (fun i => ∃ k : Nat, k ≤ 12 ∧ i = .int .i64 k ∧ Hid (∀ v ∈ Wd.singles.take k, ¬ c.toNat = v.toNat)) (fun i => 12 - (intOf i).toNat)
  case atStart => exact ⟨0, Nat.zero_le _, rfl, fun v hv => by simp at hv⟩
  case round =>
    obtain ⟨k, hk, rfl, hno⟩ := hrel
    have hsz : (⟨#[40, 41, 44, 124, 42, 43, 63, 46, 36, 61, 60, 62]⟩ : ByteArray).size = 12 := rfl
    by_cases hlt : k < 12
    · have hk2 : k < (⟨#[40, 41, 44, 124, 42, 43, 63, 46, 36, 61, 60, 62]⟩ : ByteArray).size := hlt
      have hget : Wd.singles[k]'hlt = (⟨#[40, 41, 44, 124, 42, 43, 63, 46, 36, 61, 60, 62]⟩ : ByteArray)[k] := rfl
      have hlz : (k : Int) < 12 := by omega
      by_cases hc : (⟨#[40, 41, 44, 124, 42, 43, 63, 46, 36, 61, 60, 62]⟩ : ByteArray)[k] = c
      · have hb : ((((⟨#[40, 41, 44, 124, 42, 43, 63, 46, 36, 61, 60, 62]⟩ : ByteArray)[k].toNat : Nat) : Int) == ((c.toNat : Nat) : Int)) = true := byte_test _ _ _ (by simpa using hc)
        have HY : Hid (Wd.isSingle c = true) := by
          show _ = _
          unfold Wd.isSingle
          rw [List.contains_iff_mem, ← hc, ← hget]
          exact List.getElem_mem _
        clear hc hget
        go_wp2_with fail
        go_ret
        exact ⟨ret_bool HY.out.symm, rfl⟩
      · have hb : ((((⟨#[40, 41, 44, 124, 42, 43, 63, 46, 36, 61, 60, 62]⟩ : ByteArray)[k].toNat : Nat) : Int) == ((c.toNat : Nat) : Int)) = false := byte_test _ _ _ (by simpa using hc)
        have HN : Hid (∀ v ∈ Wd.singles.take (k + 1), ¬ c.toNat = v.toNat) := fun v hv => by
          rw [List.take_succ_eq_append_getElem (show k < Wd.singles.length from hlt)] at hv
          rcases List.mem_append.1 hv with hv | hv
          · exact hno.out v hv
          · rw [List.mem_singleton.1 hv]
            exact fun e => hc (UInt8.toNat.inj e.symm)
        clear hc hget
        go_wp2_with fail
        go_round
        case rel => exact ⟨k + 1, by omega, by go_num, HN⟩
        case measure => simp [intOf]; omega
    · have hk12 : k = 12 := by omega
      subst hk12
      go_wp2_with fail
      go_ret
      exact ⟨ret_bool (single_no hno.out).symm, rfl⟩

theorem rdouble_is (s : ByteArray) (d : Bool) (h : Wd.isPair s.data.toList = d) (w : World) : Calls Tryd.prog 35 #[.string s] w fun e w' => e = .returned (.bool d) ∧ w = w' := by
  subst h; exact rdouble_any s w
theorem rsingle_is (c : UInt8) (d : Bool) (h : Wd.isSingle c = d) (w : World) : Calls Tryd.prog 36 #[.int .u8 (c.toNat : Int)] w fun e w' => e = .returned (.bool d) ∧ w = w' := by
  subst h; exact rsingle_any c w

theorem arrow_two {s : ByteArray} {j : Nat} (h : j + 2 ≤ s.size) : Wd.arrow (s.data.toList.drop j) = ((s.extract j (j + 2)).toList == [45, 62]) := by
  rw [ByteArray.toList_eq, Lib.extract_data, show j + 2 - j = 2 by omega]
  rfl
theorem arrow_short {s : ByteArray} {j : Nat} (h : ¬ j + 2 ≤ s.size) : Wd.arrow (s.data.toList.drop j) = false := by
  unfold Wd.arrow
  have hl : (s.data.toList.drop j).length ≤ 1 := by rw [List.length_drop, ← Lib.size_eq]; omega
  match hq : s.data.toList.drop j, hl with
  | [], _ => rfl
  | [c], _ => simp
theorem pair_two {s : ByteArray} {j : Nat} : Wd.isPair ((s.data.toList.drop j).take 2) = Wd.isPair (s.extract j (j + 2)).data.toList := by
  rw [Lib.extract_data, show j + 2 - j = 2 by omega]
theorem pair_short {s : ByteArray} {j : Nat} (h : ¬ j + 2 ≤ s.size) : Wd.isPair ((s.data.toList.drop j).take 2) = false := by
  have hl : (s.data.toList.drop j).length ≤ 1 := by rw [List.length_drop, ← Lib.size_eq]; omega
  match hq : s.data.toList.drop j, hl with
  | [], _ => rfl
  | [c], _ => simp [Wd.isPair]

set_option maxHeartbeats 3200000 in
set_option maxRecDepth 20000 in
theorem rnext_any (x : Nat) (s : ByteArray) (w : World) (hx : x < s.size) (hs : s.size ≤ 1048576) :
    Calls Tryd.prog 40 #[.string s, .int .i64 x] w fun e w' => e = .returned (.int .i64 (Wd.size (s.data.toList.drop x))) ∧ w = w' := by
  have hd : s.data.toList.drop x = s[x] :: s.data.toList.drop (x + 1) := by
    rw [List.drop_eq_getElem_cons (by simpa using hx)]; rfl
  obtain ⟨p, hp⟩ : ∃ p, Wd.isPair ((s.data.toList.drop x).take 2) = p := ⟨_, rfl⟩
  obtain ⟨q, hq⟩ : ∃ q, Wd.isSingle s[x] = q := ⟨_, rfl⟩
  have HPc : Hid (∀ W, Calls Tryd.prog 35 #[.string (s.extract x (x + 2))] W fun e w' => e = .returned (.bool p) ∧ W = w') := fun W => rdouble_is _ p (by rw [← hp, pair_two]) W
  have HQc : Hid (∀ W, Calls Tryd.prog 36 #[.int .u8 (s[x].toNat : Int)] W fun e w' => e = .returned (.bool q) ∧ W = w') := fun W => rsingle_is _ q hq W
  have HPe := Lib.hid hp
  have HQe : Hid (Wd.isSingle ((s.data.toList.drop x).headD 0) = q) := by rw [hd]; exact hq
  have hx0 : (0 : Int) ≤ (x : Int) := by omega
  have hx1 : (x : Int) < (s.size : Int) := by omega
  have hshort : p = true → x + 2 ≤ s.size := fun h => by
    rcases Nat.lt_or_ge s.size (x + 2) with h2 | h2
    · rw [pair_short (by omega)] at hp; rw [← hp] at h; cases h
    · exact h2
  have HSh := Lib.hid hshort
  have HE : Hid (p = false → q = false → ∀ k : Nat, Wd.lets (s.data.toList.drop x) = k → Wd.size (s.data.toList.drop x) = k) := fun h1 h2 k h => by
    subst h1 h2
    rw [Wd.size_lets HPe.out HQe.out, h]
  clear hp hq hd hshort
  go_enter Tryd.func40, Tryd.ntmps40
  by_cases h2 : x + 2 ≤ s.size
  case' pos =>
    have h2z : (x : Int) + 2 ≤ (s.size : Int) := by omega
    have h2y : (x : Int) ≤ (x : Int) + 2 := by omega
    have h2x : ((x : Int) + 2).toNat = x + 2 := by omega
    cases p
    rotate_left
    · go_wp2_with ((with_reducible refine (HPc.out _).mono ?_); rintro e w' ⟨rfl, rfl⟩)
      go_ret
      exact ⟨int_eq (by rw [Wd.size_pair HPe.out]; rfl), rfl⟩
    go_wp2_with (first | ((with_reducible refine (HPc.out _).mono ?_); rintro e w' ⟨rfl, rfl⟩))
  case' neg =>
    have h2z : decide ((x : Int) + 2 ≤ (s.size : Int)) = false := by simp; omega
    cases p
    rotate_left
    · exact absurd (HSh.out rfl) h2
    go_wp2_with fail
  all_goals
    refine (HQc.out _).mono ?_
    rintro e w' ⟨rfl, rfl⟩
    cases q
    rotate_left
    · go_wp2_with fail
      go_ret
      exact ⟨int_eq (by rw [Wd.size_single HPe.out HQe.out]; rfl), rfl⟩
    go_wp2_with fail
    go_loop [5] (fun i => ∃ k : Nat, x ≤ k ∧ k ≤ s.size ∧ i = .int .i64 k ∧ Hid (Wd.lets (s.data.toList.drop x) = (k - x) + Wd.lets (s.data.toList.drop k))) (fun i => s.size - (intOf i).toNat)
    case atStart => exact ⟨x, Nat.le_refl _, by omega, rfl, by show _ = _; simp⟩
    case round =>
      obtain ⟨k, hxk, hk, rfl, hrel⟩ := hrel
      by_cases hkt : k < s.size
      · obtain ⟨d, hd⟩ : ∃ d, Rp.isLetter s[k] = d := ⟨_, rfl⟩
        obtain ⟨a, ha⟩ : ∃ a, Wd.arrow (s.data.toList.drop k) = a := ⟨_, rfl⟩
        have hdr := lets_drop s k hkt
        rw [hd, ha] at hdr
        have HD := Lib.hid hdr
        have HLt : Hid (∀ W, Calls Tryd.prog 32 #[.int .u8 (s[k].toNat : Int)] W fun e w' => e = .returned (.bool d) ∧ W = w') := fun W => rletter_is _ d hd W
        clear hd hdr
        have hkz : (k : Int) < (s.size : Int) := by omega
        have hkn : (0 : Int) ≤ (k : Int) := by omega
        have hsub : ((k : Int) - (x : Int)) = ((k - x : Nat) : Int) := by omega
        have HSub := Lib.hid hsub
        clear hsub
        cases d
        · clear ha
          go_wp2_with (first | ((with_reducible refine (HLt.out _).mono ?_); rintro e w' ⟨rfl, rfl⟩))
          go_ret
          exact ⟨int_eq (by rw [HE.out (by trivial) (by trivial) (k - x) (by rw [hrel.out, HD.out]; rfl)]; exact HSub.out), rfl⟩
        · by_cases hk2 : k + 2 ≤ s.size
          · have hk2z : (k : Int) + 2 ≤ (s.size : Int) := by omega
            have hk2y : (k : Int) ≤ (k : Int) + 2 := by omega
            have hk2x : ((k : Int) + 2).toNat = k + 2 := by omega
            rw [arrow_two hk2] at ha
            cases a
            · have haz : (s.extract k (k + 2)).toList ≠ [45, 62] := by simpa using ha
              go_wp2_with (first | ((with_reducible refine (HLt.out _).mono ?_); rintro e w' ⟨rfl, rfl⟩))
              go_round
              case rel => exact ⟨k + 1, by omega, by omega, by go_num, by show _ = _; rw [hrel.out, HD.out]; simp; omega⟩
              case measure => simp [intOf]; omega
            · have haz : (s.extract k (k + 2)).toList = [45, 62] := by simpa using ha
              go_wp2_with (first | ((with_reducible refine (HLt.out _).mono ?_); rintro e w' ⟨rfl, rfl⟩))
              go_ret
              exact ⟨int_eq (by rw [HE.out (by trivial) (by trivial) (k - x) (by rw [hrel.out, HD.out]; rfl)]; exact HSub.out), rfl⟩
          · have hk2z : decide ((k : Int) + 2 ≤ (s.size : Int)) = false := by simp; omega
            rw [arrow_short hk2] at ha
            subst ha
            go_wp2_with (first | ((with_reducible refine (HLt.out _).mono ?_); rintro e w' ⟨rfl, rfl⟩))
            go_round
            case rel => exact ⟨k + 1, by omega, by omega, by go_num, by show _ = _; rw [hrel.out, HD.out]; simp; omega⟩
            case measure => simp [intOf]; omega
      · have hkz : decide ((k : Int) < (s.size : Int)) = false := by simp; omega
        have hke : Hid (Wd.lets (s.data.toList.drop k) = 0) := by
          show _ = _
          rw [List.drop_of_length_le (by rw [← Lib.size_eq]; omega)]; rfl
        have hsub : ((k : Int) - (x : Int)) = ((k - x : Nat) : Int) := by omega
        have HSub := Lib.hid hsub
        clear hsub
        go_wp2_with fail
        go_ret
        exact ⟨int_eq (by rw [HE.out (by trivial) (by trivial) (k - x) (by rw [hrel.out, hke.out]; rfl)]; exact HSub.out), rfl⟩
end Go.Proofs.YtfnfmkejkgiclaaDoor
