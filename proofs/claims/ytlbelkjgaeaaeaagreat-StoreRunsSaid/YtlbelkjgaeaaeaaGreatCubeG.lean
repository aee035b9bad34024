/-
  Walks over package cube: Has, Cut.
-/
import Derived.Test.YtlbelkjgaeaaeaaGreatCubeF
namespace Go.Proofs.YtlbelkjgaeaaeaaGreat
open Go.RowKit

theorem hd_true {s : ByteArray} (w : World) (hs : s.size ≤ maxLen) (h : Cb.isHead s.data.toList = true) :
    Calls Tryz.prog 68 #[.string s, .string ⟨#[48, 49]⟩] w fun e w' => e = .returned (.bool true) ∧ w = w' :=
  (of_any s _ w hs).mono fun _ _ ⟨h1, h2⟩ => ⟨h1.trans (ret_bool h), h2⟩
theorem hd_false {s : ByteArray} (w : World) (hs : s.size ≤ maxLen) (h : Cb.isHead s.data.toList = false) :
    Calls Tryz.prog 68 #[.string s, .string ⟨#[48, 49]⟩] w fun e w' => e = .returned (.bool false) ∧ w = w' :=
  (of_any s _ w hs).mono fun _ _ ⟨h1, h2⟩ => ⟨h1.trans (ret_bool h), h2⟩

set_option maxHeartbeats 400000 in
set_option maxRecDepth 20000 in
theorem Has_nocube (a b : ByteArray) (w : World) (ha : a.size ≤ maxLen) (hw : Cb.isCube a.data.toList = false) :
    Calls Tryz.prog 56 #[.string a, .string b] w fun e w' => e = .returned (.tuple #[.bool false, .int .i64 10]) ∧ Below w.heap.size w w' := by
  have HW := Lib.hid hw
  clear hw
  go_enter_defers Tryz.func56, Tryz.ntmps56
  go_wp2_with fail
  refine (cub_false _ ha HW.out).mono ?_
  rintro e w' ⟨rfl, rfl⟩
  go_wp2_with fail
  refine door_fault (p := ⟨w.heap.size, 0, none⟩) _ 0 ?_ ?_ ?_ fun W' hB hC => ?_
  · simp
  · simp [go_sem]
  · simp [go_sem]
  · exact ⟨_, by simp [results, Tryz.results56, go_sem, hC], rfl, ((Below.refl _ w).alloc (Nat.le_refl _) _).trans hB⟩

set_option maxHeartbeats 400000 in
set_option maxRecDepth 20000 in
theorem Has_nohead (a b : ByteArray) (w : World) (ha : a.size ≤ maxLen) (hb : b.size ≤ maxLen) (hw : Cb.isCube a.data.toList = true) (hh : Cb.isHead b.data.toList = false) :
    Calls Tryz.prog 56 #[.string a, .string b] w fun e w' => e = .returned (.tuple #[.bool false, .int .i64 10]) ∧ Below w.heap.size w w' := by
  have HW := Lib.hid hw
  have HH := Lib.hid hh
  clear hw hh
  go_enter_defers Tryz.func56, Tryz.ntmps56
  go_wp2_with fail
  refine (cub_true _ ha HW.out).mono ?_
  rintro e w' ⟨rfl, rfl⟩
  go_wp2_with fail
  refine (hd_false _ hb HH.out).mono ?_
  rintro e w' ⟨rfl, rfl⟩
  go_wp2_with fail
  refine door_fault (p := ⟨w.heap.size, 0, none⟩) _ 0 ?_ ?_ ?_ fun W' hB hC => ?_
  · simp
  · simp [go_sem]
  · simp [go_sem]
  · exact ⟨_, by simp [results, Tryz.results56, go_sem, hC], rfl, ((Below.refl _ w).alloc (Nat.le_refl _) _).trans hB⟩

set_option maxHeartbeats 400000 in
set_option maxRecDepth 20000 in
theorem Has_bad (a b : ByteArray) (w : World) (ha : a.size ≤ maxLen) (hb : b.size ≤ maxLen) (hc : Cb.isCube a.data.toList = true) (hh : Cb.isHead b.data.toList = true) (hw : ¬ Cb.wrong [a.data.toList, b.data.toList] = 0) :
    Calls Tryz.prog 56 #[.string a, .string b] w fun e w' => e = .returned (.tuple #[.bool false, .int .i64 (Cb.wrong [a.data.toList, b.data.toList])]) ∧ Below w.heap.size w w' := by
  have HC := Lib.hid hc
  have HH := Lib.hid hh
  have HW := Lib.hid hw
  clear hw hc hh
  go_enter_defers Tryz.func56, Tryz.ntmps56
  go_wp2_with fail
  refine (cub_true _ ha HC.out).mono ?_
  rintro e w' ⟨rfl, rfl⟩
  go_wp2_with fail
  refine (hd_true _ hb HH.out).mono ?_
  rintro e w' ⟨rfl, rfl⟩
  go_wp2_with fail
  refine (must_bad (ss := [a, b]) (two_rds _ _ _ _ (by simp) _) (two_le ha hb) HW.out).mono ?_
  rintro e w' ⟨rfl, rfl⟩
  go_wp2_with fail
  refine door_fault (p := ⟨w.heap.size, 0, none⟩) _ 0 ?_ ?_ ?_ fun W' hB hC => ?_
  · simp; omega
  · simp [go_sem]
  · simp [go_sem]
  · exact ⟨_, by simp [results, Tryz.results56, go_sem, hC], rfl, (((Below.refl _ w).alloc (Nat.le_refl _) _).alloc (by simp) _).trans hB⟩

set_option maxHeartbeats 400000 in
set_option maxRecDepth 20000 in
theorem Has_yes (a b m : ByteArray) (w : World) (ha : a.size ≤ maxLen) (hb : b.size ≤ maxLen) (hh : Cb.isHead b.data.toList = true) (hw : Cb.wrong [a.data.toList, b.data.toList] = 0) (hm : Cb.meet a.data.toList b.data.toList = some m.data.toList) :
    Calls Tryz.prog 56 #[.string a, .string b] w fun e w' => e = .returned (.tuple #[.bool true, .int .i64 0]) ∧ Below w.heap.size w w' := by
  have hsz : b.size = a.size := by simpa using (Cb.wrong_two hw).2.2
  have HC := Lib.hid (Cb.wrong_two hw).1
  have HH := Lib.hid hh
  have HW := Lib.hid hw
  have HM := Lib.hid hm
  have HS := Lib.hid hsz
  clear hw hm hsz hh
  go_enter_defers Tryz.func56, Tryz.ntmps56
  go_wp2_with fail
  refine (cub_true _ ha HC.out).mono ?_
  rintro e w' ⟨rfl, rfl⟩
  go_wp2_with fail
  refine (hd_true _ hb HH.out).mono ?_
  rintro e w' ⟨rfl, rfl⟩
  go_wp2_with fail
  refine (must_ok (ss := [a, b]) (two_rds _ _ _ _ (by simp) _) (two_le ha hb) HW.out).mono ?_
  rintro e w' ⟨rfl, rfl⟩
  go_wp2_with fail
  refine (meet_yes _ HS.out ha HM.out).mono ?_
  rintro e w' ⟨rfl, hb1⟩
  have hc0 : w'.cell? ⟨w.heap.size, 0, none⟩ = some (.int .i64 0) := (hb1.cell (p := ⟨w.heap.size, 0, none⟩) (by simp; omega)).trans (by simp [go_sem])
  have hf0 : w'.frozen? ⟨w.heap.size, 0, none⟩ = false := (hb1.frozen (p := ⟨w.heap.size, 0, none⟩) (by simp; omega)).trans (by simp [go_sem])
  have hB := Lib.hid ((((Below.refl _ w).alloc (Nat.le_refl _) _).alloc (by simp) _).trans (hb1.mono (by simp; omega)))
  clear hb1
  go_wp2_with fail
  have hc1 := cell_set_same (.int .i64 0) hc0
  refine door_ret ⟨_, by simp [results, Tryz.results56, go_sem, hc1], rfl, hB.out.setCell (Nat.le_refl _) _⟩

set_option maxHeartbeats 400000 in
set_option maxRecDepth 20000 in
theorem Has_no (a b : ByteArray) (w : World) (ha : a.size ≤ maxLen) (hb : b.size ≤ maxLen) (hh : Cb.isHead b.data.toList = true) (hw : Cb.wrong [a.data.toList, b.data.toList] = 0) (hm : Cb.meet a.data.toList b.data.toList = none) :
    Calls Tryz.prog 56 #[.string a, .string b] w fun e w' => e = .returned (.tuple #[.bool false, .int .i64 0]) ∧ Below w.heap.size w w' := by
  have hsz : b.size = a.size := by simpa using (Cb.wrong_two hw).2.2
  have HC := Lib.hid (Cb.wrong_two hw).1
  have HH := Lib.hid hh
  have HW := Lib.hid hw
  have HM := Lib.hid hm
  have HS := Lib.hid hsz
  clear hw hm hsz hh
  go_enter_defers Tryz.func56, Tryz.ntmps56
  go_wp2_with fail
  refine (cub_true _ ha HC.out).mono ?_
  rintro e w' ⟨rfl, rfl⟩
  go_wp2_with fail
  refine (hd_true _ hb HH.out).mono ?_
  rintro e w' ⟨rfl, rfl⟩
  go_wp2_with fail
  refine (must_ok (ss := [a, b]) (two_rds _ _ _ _ (by simp) _) (two_le ha hb) HW.out).mono ?_
  rintro e w' ⟨rfl, rfl⟩
  go_wp2_with fail
  refine (meet_no _ HS.out ha HM.out).mono ?_
  rintro e w' ⟨rfl, hb1⟩
  have hc0 : w'.cell? ⟨w.heap.size, 0, none⟩ = some (.int .i64 0) := (hb1.cell (p := ⟨w.heap.size, 0, none⟩) (by simp; omega)).trans (by simp [go_sem])
  have hf0 : w'.frozen? ⟨w.heap.size, 0, none⟩ = false := (hb1.frozen (p := ⟨w.heap.size, 0, none⟩) (by simp; omega)).trans (by simp [go_sem])
  have hB := Lib.hid ((((Below.refl _ w).alloc (Nat.le_refl _) _).alloc (by simp) _).trans (hb1.mono (by simp; omega)))
  clear hb1
  go_wp2_with fail
  have hc1 := cell_set_same (.int .i64 0) hc0
  refine door_ret ⟨_, by simp [results, Tryz.results56, go_sem, hc1], rfl, hB.out.setCell (Nat.le_refl _) _⟩

end Go.Proofs.YtlbelkjgaeaaeaaGreat
