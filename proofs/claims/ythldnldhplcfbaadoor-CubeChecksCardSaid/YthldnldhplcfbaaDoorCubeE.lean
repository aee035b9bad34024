/-
  Walks over package cube: Meet, Inside, Has.
-/
import Derived.Test.YthldnldhplcfbaaDoorCubeD
namespace Go.Proofs.YthldnldhplcfbaaDoor
open Go.RowKit

theorem two_rds (w : World) (a b : ByteArray) (o : Nat) (ho : o = w.heap.size) (t : TypeId) : RdsS (w.alloc (.cells #[.string a, .string b] t)) (.slice (some ⟨o, 0, none⟩) 2 2) [a, b] := by
  subst ho
  refine rdsS_mk (ss := [a, b]) (by simp) (by unfold maxLen; simp) (by simp) ?_
  intro i hi
  match i, hi with
  | 0, _ => simp [go_sem]
  | 1, _ => simp [go_sem]

theorem str_beq (a b : ByteArray) : (a.toList == b.toList) = (a.data.toList == b.data.toList) := by rw [Lib.toList_data, Lib.toList_data]

theorem two_le {a b : ByteArray} (ha : a.size ≤ maxLen) (hb : b.size ≤ maxLen) : ∀ s ∈ [a, b], s.size ≤ maxLen := by
  intro s hs
  simp at hs
  rcases hs with rfl | rfl <;> assumption

set_option maxHeartbeats 400000 in
theorem Meet_bad (a b : ByteArray) (w : World) (ha : a.size ≤ maxLen) (hb : b.size ≤ maxLen) (hw : ¬ Cb.wrong [a.data.toList, b.data.toList] = 0) :
    Calls Tryd.prog 18 #[.string a, .string b] w fun e w' => e = .returned (.tuple #[.string ⟨#[]⟩, .bool false, .int .i64 (Cb.wrong [a.data.toList, b.data.toList])]) ∧ Below w.heap.size w w' := by
  have HW := Lib.hid hw
  clear hw
  go_enter_defers Tryd.func18, Tryd.ntmps18
  go_wp2_with fail
  refine (must_bad (ss := [a, b]) (two_rds _ _ _ _ (by simp) _) (two_le ha hb) HW.out).mono ?_
  rintro e w' ⟨rfl, rfl⟩
  go_wp2_with fail
  refine door_fault (p := ⟨w.heap.size, 0, none⟩) _ 0 ?_ ?_ ?_ fun W' hB hC => ?_
  · simp; omega
  · simp [go_sem]
  · simp [go_sem]
  · exact ⟨_, by simp [results, Tryd.results18, go_sem, hC], rfl, (((Below.refl _ w).alloc (Nat.le_refl _) _).alloc (by simp) _).trans hB⟩

set_option maxHeartbeats 400000 in
theorem Meet_yes (a b m : ByteArray) (w : World) (ha : a.size ≤ maxLen) (hb : b.size ≤ maxLen) (hw : Cb.wrong [a.data.toList, b.data.toList] = 0) (hm : Cb.meet a.data.toList b.data.toList = some m.data.toList) :
    Calls Tryd.prog 18 #[.string a, .string b] w fun e w' => e = .returned (.tuple #[.string m, .bool true, .int .i64 0]) ∧ Below w.heap.size w w' := by
  have hsz : b.size = a.size := by simpa using (Cb.wrong_two hw).2.2
  have HW := Lib.hid hw
  have HM := Lib.hid hm
  have HS := Lib.hid hsz
  clear hw hm hsz
  go_enter_defers Tryd.func18, Tryd.ntmps18
  go_wp2_with fail
  refine (must_ok (ss := [a, b]) (two_rds _ _ _ _ (by simp) _) (two_le ha hb) HW.out).mono ?_
  rintro e w' ⟨rfl, rfl⟩
  go_wp2_with fail
  refine (meet_yes _ HS.out ha HM.out).mono ?_
  rintro e w' ⟨rfl, hb1⟩
  have hc0 : w'.cell? ⟨w.heap.size, 0, none⟩ = some (.int .i64 0) := (hb1.cell (p := ⟨w.heap.size, 0, none⟩) (by simp; omega)).trans (by simp [go_sem])
  have hf0 : w'.frozen? ⟨w.heap.size, 0, none⟩ = false := (hb1.frozen (p := ⟨w.heap.size, 0, none⟩) (by simp; omega)).trans (by simp [go_sem])
  have hB := Lib.hid ((((Below.refl _ w).alloc (Nat.le_refl _) _).alloc (by simp) _).trans (hb1.mono (by simp; omega)))
  clear hb1
  go_wp2_with fail
  have hc1 := cell_set_same (.int .i64 0) hc0
  refine door_ret ⟨_, by simp [results, Tryd.results18, go_sem, hc1], rfl, hB.out.setCell (Nat.le_refl _) _⟩

set_option maxHeartbeats 400000 in
theorem Meet_no (a b : ByteArray) (w : World) (ha : a.size ≤ maxLen) (hb : b.size ≤ maxLen) (hw : Cb.wrong [a.data.toList, b.data.toList] = 0) (hm : Cb.meet a.data.toList b.data.toList = none) :
    Calls Tryd.prog 18 #[.string a, .string b] w fun e w' => e = .returned (.tuple #[.string ⟨#[]⟩, .bool false, .int .i64 0]) ∧ Below w.heap.size w w' := by
  have hsz : b.size = a.size := by simpa using (Cb.wrong_two hw).2.2
  have HW := Lib.hid hw
  have HM := Lib.hid hm
  have HS := Lib.hid hsz
  clear hw hm hsz
  go_enter_defers Tryd.func18, Tryd.ntmps18
  go_wp2_with fail
  refine (must_ok (ss := [a, b]) (two_rds _ _ _ _ (by simp) _) (two_le ha hb) HW.out).mono ?_
  rintro e w' ⟨rfl, rfl⟩
  go_wp2_with fail
  refine (meet_no _ HS.out ha HM.out).mono ?_
  rintro e w' ⟨rfl, hb1⟩
  have hc0 : w'.cell? ⟨w.heap.size, 0, none⟩ = some (.int .i64 0) := (hb1.cell (p := ⟨w.heap.size, 0, none⟩) (by simp; omega)).trans (by simp [go_sem])
  have hf0 : w'.frozen? ⟨w.heap.size, 0, none⟩ = false := (hb1.frozen (p := ⟨w.heap.size, 0, none⟩) (by simp; omega)).trans (by simp [go_sem])
  have hB := Lib.hid ((((Below.refl _ w).alloc (Nat.le_refl _) _).alloc (by simp) _).trans (hb1.mono (by simp; omega)))
  clear hb1
  go_wp2_with fail
  have hc1 := cell_set_same (.int .i64 0) hc0
  refine door_ret ⟨_, by simp [results, Tryd.results18, go_sem, hc1], rfl, hB.out.setCell (Nat.le_refl _) _⟩

end Go.Proofs.YthldnldhplcfbaaDoor
