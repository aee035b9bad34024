/-
  Walks over package words and the reference: Sign; and the law WordsKinds.
-/
import Derived.Test.YtfnfmkejkgiclaaDoorWdO
namespace Go.Proofs.YtfnfmkejkgiclaaDoor
open Go.RowKit Go.Shelf
set_option linter.unusedVariables false
set_option linter.unusedSimpArgs false

/-- Is a text a sign? -/
def Wd.signB (l : List UInt8) : Bool := isPair l || l.length == 1 && isSingle (l.headD 0)

theorem signB_pair {s : ByteArray} (h : Wd.isPair s.data.toList = true) : Wd.signB s.data.toList = true := by unfold Wd.signB; rw [h]; rfl
theorem signB_one {s : ByteArray} (h : Wd.isPair s.data.toList = false) (h1 : s.size = 1) : Wd.signB s.data.toList = Wd.isSingle s[0] := by
  unfold Wd.signB; rw [h, size_list, head_byte s (by omega), show (s.size == 1) = true by simp [h1]]; rfl
theorem signB_no {s : ByteArray} (h : Wd.isPair s.data.toList = false) (h1 : ¬ s.size = 1) : Wd.signB s.data.toList = false := by
  unfold Wd.signB; rw [h, size_list]; simp [h1]

set_option maxHeartbeats 1600000 in
set_option maxRecDepth 20000 in
theorem Sign_any (s : ByteArray) (w : World) : Calls Tryd.prog 20 #[.string s] w fun e w' => e = .returned (.bool (Wd.signB s.data.toList)) ∧ w = w' := by
  obtain ⟨p, hp⟩ : ∃ p, Wd.isPair s.data.toList = p := ⟨_, rfl⟩
  have HP := Lib.hid (fun W => pair_is s p hp W)
  cases p with
  | true =>
    rw [signB_pair hp]
    clear hp
    go_enter Tryd.func20, Tryd.ntmps20
    go_wp2_with ((with_reducible refine (HP.out _).mono ?_); rintro e w' ⟨rfl, rfl⟩)
    go_ret
    exact ⟨rfl, rfl⟩
  | false =>
    by_cases h1 : s.size = 1
    · rw [signB_one hp h1]
      have hz : ((s.size : Int) == 1) = true := by simp [h1]
      have hs0 : (0 : Int) < (s.size : Int) := by omega
      obtain ⟨z, hz2⟩ : ∃ z, Lib.indexByte [40, 41, 44, 124, 42, 43, 63, 46, 36, 61, 60, 62] s[0] = z := ⟨_, rfl⟩
      have hzq : decide (0 ≤ z) = Wd.isSingle s[0] := by rw [← hz2]; exact single_index _
      have HI : Hid (∀ W, Calls Tryd.prog 34 #[.string ⟨#[40, 41, 44, 124, 42, 43, 63, 46, 36, 61, 60, 62]⟩, .int .u8 (s[0].toNat : Int)] W fun e w' => e = .returned (.int .i64 z) ∧ W = w') := fun W => indexB_is _ _ z hz2 W
      have HQ := Lib.hid hzq
      clear hzq hz2 hp
      go_enter Tryd.func20, Tryd.ntmps20
      go_wp2_with (first | ((with_reducible refine (HP.out _).mono ?_); rintro e w' ⟨rfl, rfl⟩) | ((with_reducible refine (HI.out _).mono ?_); rintro e w' ⟨rfl, rfl⟩))
      go_ret
      exact ⟨ret_bool HQ.out, rfl⟩
    · rw [signB_no hp h1]
      have hz : ((s.size : Int) == 1) = false := by simp; omega
      clear hp
      go_enter Tryd.func20, Tryd.ntmps20
      go_wp2_with ((with_reducible refine (HP.out _).mono ?_); rintro e w' ⟨rfl, rfl⟩)
      go_ret
      exact ⟨rfl, rfl⟩

set_option maxHeartbeats 1600000 in
set_option maxRecDepth 20000 in
theorem rSign_any (s : ByteArray) (w : World) : Calls Tryd.prog 21 #[.string s] w fun e w' => e = .returned (.bool (Wd.signB s.data.toList)) ∧ w = w' := by
  obtain ⟨p, hp⟩ : ∃ p, Wd.isPair s.data.toList = p := ⟨_, rfl⟩
  have HP := Lib.hid (fun W => rdouble_is s p hp W)
  cases p with
  | true =>
    rw [signB_pair hp]
    clear hp
    go_enter Tryd.func21, Tryd.ntmps21
    go_wp2_with ((with_reducible refine (HP.out _).mono ?_); rintro e w' ⟨rfl, rfl⟩)
    go_ret
    exact ⟨rfl, rfl⟩
  | false =>
    by_cases h1 : s.size = 1
    · rw [signB_one hp h1]
      have hz : ((s.size : Int) == 1) = true := by simp [h1]
      have hs0 : (0 : Int) < (s.size : Int) := by omega
      obtain ⟨q, hq⟩ : ∃ q, Wd.isSingle s[0] = q := ⟨_, rfl⟩
      have HI := Lib.hid (fun W => rsingle_is s[0] q hq W)
      rw [hq]
      clear hp hq
      go_enter Tryd.func21, Tryd.ntmps21
      go_wp2_with (first | ((with_reducible refine (HP.out _).mono ?_); rintro e w' ⟨rfl, rfl⟩) | ((with_reducible refine (HI.out _).mono ?_); rintro e w' ⟨rfl, rfl⟩))
      go_ret
      exact ⟨rfl, rfl⟩
    · rw [signB_no hp h1]
      have hz : ((s.size : Int) == 1) = false := by simp; omega
      clear hp
      go_enter Tryd.func21, Tryd.ntmps21
      go_wp2_with ((with_reducible refine (HP.out _).mono ?_); rintro e w' ⟨rfl, rfl⟩)
      go_ret
      exact ⟨rfl, rfl⟩

set_option maxHeartbeats 3200000 in
set_option maxRecDepth 20000 in
theorem wordsKinds_any (s : ByteArray) (w : World) (hs : s.size ≤ maxLen) : Calls Tryd.prog 7 #[.string s] w fun e w' => e = .returned (.bool true) ∧ Below w.heap.size w w' := by
  have H1 := Lib.hid (fun W => Number_any s W hs)
  have H2 := Lib.hid (fun W => rNumber_any s W hs)
  have H3 := Lib.hid (fun W => Name_any s W hs)
  have H4 := Lib.hid (fun W => rName_any s W hs)
  have H5 := Lib.hid (fun W => Sign_any s W)
  have H6 := Lib.hid (fun W => rSign_any s W)
  unfold numR at H1 H2
  obtain ⟨a, ha⟩ : ∃ a, (Wd.numE s.data.toList).1 = a := ⟨_, rfl⟩
  obtain ⟨b, hb⟩ : ∃ b, (Wd.numE s.data.toList).2 = b := ⟨_, rfl⟩
  obtain ⟨c, hc⟩ : ∃ c, Rp.nameB s.data.toList = c := ⟨_, rfl⟩
  obtain ⟨d, hd⟩ : ∃ d, Wd.signB s.data.toList = d := ⟨_, rfl⟩
  rw [ha, hb] at H1 H2
  rw [hc] at H3 H4
  rw [hd] at H5 H6
  clear ha hb hc hd
  go_enter Tryd.func7, Tryd.ntmps7
  go_wp2_with (first | ((with_reducible refine (H1.out _).mono ?_); rintro e w' ⟨rfl, rfl⟩) | ((with_reducible refine (H2.out _).mono ?_); rintro e w' ⟨rfl, rfl⟩) | ((with_reducible refine (H3.out _).mono ?_); rintro e w' ⟨rfl, rfl⟩) | ((with_reducible refine (H4.out _).mono ?_); rintro e w' ⟨rfl, rfl⟩) | ((with_reducible refine (H5.out _).mono ?_); rintro e w' ⟨rfl, rfl⟩) | ((with_reducible refine (H6.out _).mono ?_); rintro e w' ⟨rfl, rfl⟩))
  refine (alive_any _).mono ?_
  rintro e w1 ⟨rfl, hb⟩
  have HB := Lib.hid hb
  clear hb
  go_wp2_with fail
  go_ret
  exact ⟨rfl, HB.out⟩
end Go.Proofs.YtfnfmkejkgiclaaDoor
