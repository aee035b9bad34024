/-
  The law WordsLines: its walk.
-/
import Derived.Test.YtfnfmkejkgiclaaDoorWdM
namespace Go.Proofs.YtfnfmkejkgiclaaDoor
open Go.RowKit Go.Shelf
set_option linter.unusedVariables false
set_option linter.unusedSimpArgs false

theorem rlines_err (s : ByteArray) (w : World) (hs : s.size ≤ 1048576) (num p : Nat) (h : Wd.lines s.data.toList = .error (num, p)) :
    Calls Tryd.prog 11 #[.string s] w fun e w' => e = .returned (.tuple #[.slice none 0 0, .int .i64 num, .int .i64 ((p : Int) + 1), .int .i64 30]) ∧ Below w.heap.size w w' :=
  (rlines_any s w hs).mono fun e w' hp => by unfold LinesPost at hp; rw [h] at hp; exact hp
theorem rlines_ok (s : ByteArray) (w : World) (hs : s.size ≤ 1048576) (acc : List (List Wrd)) (h : Wd.lines s.data.toList = .ok acc) :
    Calls Tryd.prog 11 #[.string s] w fun e w' => ∃ ad cap, e = .returned (.tuple #[.slice ad acc.length cap, .int .i64 0, .int .i64 0, .int .i64 0]) ∧ LnAt w' ad acc ∧ acc.length ≤ maxLen ∧ Below w.heap.size w w' :=
  (rlines_any s w hs).mono fun e w' hp => by
    unfold LinesPost at hp
    rw [h] at hp
    obtain ⟨v, rfl, h1, h2⟩ := hp
    obtain ⟨ad, cap, rfl, h3, h4⟩ := rdsLn_at h1
    exact ⟨ad, cap, rfl, h4, h3, h2⟩
theorem lines_at (s : ByteArray) (w : World) (hs : s.size ≤ 1048576) (acc : List (List Wrd)) (h : Wd.lines s.data.toList = .ok acc) :
    Calls Tryd.prog 8 #[.string s] w fun e w' => ∃ ad cap, e = .returned (.tuple #[.slice ad acc.length cap, .int .i64 0, .int .i64 0, .int .i64 0]) ∧ LnAt w' ad acc ∧ acc.length ≤ maxLen ∧ Below w.heap.size w w' :=
  (lines_any s w hs).mono fun e w' hp => by
    unfold LinesPost at hp
    rw [h] at hp
    obtain ⟨v, rfl, h1, h2⟩ := hp
    obtain ⟨ad, cap, rfl, h3, h4⟩ := rdsLn_at h1
    exact ⟨ad, cap, rfl, h4, h3, h2⟩

set_option maxHeartbeats 6400000 in
set_option maxRecDepth 20000 in
theorem wordsLines_any (s : ByteArray) (w : World) : Calls Tryd.prog 3 #[.string s] w fun e w' => e = .returned (.bool true) ∧ Below w.heap.size w w' := by
  by_cases hlong : (1048576 : Int) < s.size
  · have HL := Lib.hid (fun W => lines_long s W hlong)
    go_enter Tryd.func3, Tryd.ntmps3
    go_wp2_with fail
    refine (HL.out _).mono ?_
    rintro e w1 ⟨rfl, hb⟩
    have HB := Lib.hid hb
    clear hb
    go_wp2_with fail
    refine (alive_any _).mono ?_
    rintro e w2 ⟨rfl, hb2⟩
    have HB2 := Lib.hid (HB.out.trans (hb2.mono HB.out.size))
    clear hb2
    go_wp2_with fail
    go_ret
    exact ⟨rfl, HB2.out⟩
  · have hz : decide ((1048576 : Int) < (s.size : Int)) = false := by simpa using hlong
    have hs : (cutB s).size ≤ 1048576 := by have := cutB_size s; omega
    have HC := Lib.hid (fun W => cut_any s W)
    clear hlong
    obtain ⟨c, hc⟩ : ∃ c, cutB s = c := ⟨_, rfl⟩
    rw [hc] at hs HC
    clear hc
    cases hl : Wd.lines c.data.toList with
    | error x =>
      obtain ⟨num, p⟩ := x
      have HL := Lib.hid (fun W => lines_err c W hs num p hl)
      have HR := Lib.hid (fun W => rlines_err c W hs num p hl)
      have HS := Lib.hid (fun W => rsame_eq none none 0 0 [] W (by simp) (fun i h => absurd h (Nat.not_lt_zero _)) (fun i h => absurd h (Nat.not_lt_zero _)))
      clear hl
      go_enter Tryd.func3, Tryd.ntmps3
      go_wp2_with ((with_reducible refine (HC.out _).mono ?_); rintro e w' ⟨rfl, rfl⟩)
      refine (HL.out _).mono ?_
      rintro e w1 ⟨rfl, hb⟩
      have HB := Lib.hid hb
      clear hb
      go_wp2_with fail
      refine (HR.out _).mono ?_
      rintro e w2 ⟨rfl, hb⟩
      have HB2 := Lib.hid (HB.out.trans (hb.mono HB.out.size))
      clear hb
      go_wp2_with fail
      refine (HS.out _).mono ?_
      rintro e w3 ⟨rfl, hb⟩
      have HB3 := Lib.hid (HB2.out.trans (hb.mono HB2.out.size))
      clear hb
      go_wp2_with fail
      refine (alive_any _).mono ?_
      rintro e w4 ⟨rfl, hb⟩
      have HB4 := Lib.hid (HB3.out.trans (hb.mono HB3.out.size))
      clear hb
      go_wp2_with fail
      go_ret
      exact ⟨rfl, HB4.out⟩
    | ok acc =>
      have HL := Lib.hid (fun W => lines_at c W hs acc hl)
      have HR := Lib.hid (fun W => rlines_ok c W hs acc hl)
      clear hl
      go_enter Tryd.func3, Tryd.ntmps3
      go_wp2_with ((with_reducible refine (HC.out _).mono ?_); rintro e w' ⟨rfl, rfl⟩)
      refine (HL.out _).mono ?_
      rintro e w1 ⟨ad, cap, rfl, hr, hm, hb⟩
      have HB := Lib.hid hb
      have HA := Lib.hid hr
      have HM := Lib.hid hm
      clear hb hr hm
      go_wp2_with fail
      refine (HR.out _).mono ?_
      rintro e w2 ⟨ad2, cap2, rfl, hr, hm, hb⟩
      have HS := Lib.hid (rsame_eq ad ad2 cap cap2 acc w2 hm (HA.out.below hb) hr)
      have HB2 := Lib.hid (HB.out.trans (hb.mono HB.out.size))
      clear hb hr hm
      go_wp2_with fail
      refine HS.out.mono ?_
      rintro e w3 ⟨rfl, hb⟩
      have HB3 := Lib.hid (HB2.out.trans (hb.mono HB2.out.size))
      clear hb
      go_wp2_with fail
      refine (alive_any _).mono ?_
      rintro e w4 ⟨rfl, hb⟩
      have HB4 := Lib.hid (HB3.out.trans (hb.mono HB3.out.size))
      clear hb
      go_wp2_with fail
      go_ret
      exact ⟨rfl, HB4.out⟩
end Go.Proofs.YtfnfmkejkgiclaaDoor
