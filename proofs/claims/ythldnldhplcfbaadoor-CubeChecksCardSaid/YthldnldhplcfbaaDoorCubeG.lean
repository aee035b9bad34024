/-
  Walks over package cube: Has, Cut.
-/
import Derived.Test.YthldnldhplcfbaaDoorCubeF
namespace Go.Proofs.YthldnldhplcfbaaDoor
open Go.RowKit

theorem hd_true {s : ByteArray} (w : World) (hs : s.size ≤ maxLen) (h : Cb.isHead s.data.toList = true) :
    Calls Tryd.prog 21 #[.string s, .string ⟨#[48, 49]⟩] w fun e w' => e = .returned (.bool true) ∧ w = w' :=
  (of_any s _ w hs).mono fun _ _ ⟨h1, h2⟩ => ⟨h1.trans (ret_bool h), h2⟩
theorem hd_false {s : ByteArray} (w : World) (hs : s.size ≤ maxLen) (h : Cb.isHead s.data.toList = false) :
    Calls Tryd.prog 21 #[.string s, .string ⟨#[48, 49]⟩] w fun e w' => e = .returned (.bool false) ∧ w = w' :=
  (of_any s _ w hs).mono fun _ _ ⟨h1, h2⟩ => ⟨h1.trans (ret_bool h), h2⟩

set_option maxHeartbeats 400000 in
theorem Cut_bad (a b : ByteArray) (w : World) (ha : a.size ≤ maxLen) (hb : b.size ≤ maxLen) (hw : ¬ Cb.wrong [a.data.toList, b.data.toList] = 0) :
    Calls Tryd.prog 19 #[.string a, .string b] w fun e w' => e = .returned (.tuple #[.slice none 0 0, .int .i64 (Cb.wrong [a.data.toList, b.data.toList])]) ∧ Below w.heap.size w w' := by
  have HW := Lib.hid hw
  clear hw
  go_enter_defers Tryd.func19, Tryd.ntmps19
  go_wp2_with fail
  refine (must_bad (ss := [a, b]) (two_rds _ _ _ _ (by simp) _) (two_le ha hb) HW.out).mono ?_
  rintro e w' ⟨rfl, rfl⟩
  go_wp2_with fail
  refine door_fault (p := ⟨w.heap.size, 0, none⟩) _ 0 ?_ ?_ ?_ fun W' hB hC => ?_
  · simp; omega
  · simp [go_sem]
  · simp [go_sem]
  · exact ⟨_, by simp [results, Tryd.results19, go_sem, hC], rfl, (((Below.refl _ w).alloc (Nat.le_refl _) _).alloc (by simp) _).trans hB⟩

theorem cut_any (a b : ByteArray) (w : World) (hb : b.size = a.size) (ha : a.size ≤ 128) :
    Calls Tryd.prog 33 #[.string a, .string b] w fun e w' => ∃ v, e = .returned v ∧ w'.ownsRow w.heap.size 9 1 v (Cb.cut a.data.toList b.data.toList).length (vs (Cb.cut a.data.toList b.data.toList)) ∧ Below w.heap.size w w' := by
  cases hm : Cb.meet a.data.toList b.data.toList with
  | none => exact cut_no a b w hb ha hm
  | some m =>
    have hl : m.length = a.size := by
      unfold Cb.meet at hm
      split at hm
      · injection hm with hm
        rw [← hm]; simp; omega
      · cases hm
    exact cut_yes a b (bs m) w hb hl ha hm

set_option maxHeartbeats 400000 in
theorem Cut_ok (a b : ByteArray) (w : World) (ha : a.size ≤ maxLen) (hb : b.size ≤ maxLen) (hw : Cb.wrong [a.data.toList, b.data.toList] = 0) :
    Calls Tryd.prog 19 #[.string a, .string b] w fun e w' => ∃ v, e = .returned (.tuple #[v, .int .i64 0]) ∧ w'.ownsRow w.heap.size 9 1 v (Cb.cut a.data.toList b.data.toList).length (vs (Cb.cut a.data.toList b.data.toList)) ∧ Below w.heap.size w w' := by
  have hsz : b.size = a.size := by simpa using (Cb.wrong_two hw).2.2
  have ha2 : a.size ≤ 128 := by have := (Cb.ofB_len (Cb.wrong_two hw).1).2; simpa using this
  have HW := Lib.hid hw
  have HS := Lib.hid hsz
  clear hw hsz
  generalize hL : Cb.cut a.data.toList b.data.toList = L
  have HL := Lib.hid hL
  clear hL
  go_enter_defers Tryd.func19, Tryd.ntmps19
  go_wp2_with fail
  refine (must_ok (ss := [a, b]) (two_rds _ _ _ _ (by simp) _) (two_le ha hb) HW.out).mono ?_
  rintro e w' ⟨rfl, rfl⟩
  go_wp2_with fail
  refine (cut_any a b _ HS.out ha2).mono ?_
  rintro e w' ⟨v, rfl, hown, hb1⟩
  have hc0 : w'.cell? ⟨w.heap.size, 0, none⟩ = some (.int .i64 0) := (hb1.cell (p := ⟨w.heap.size, 0, none⟩) (by simp; omega)).trans (by simp [go_sem])
  have hf0 : w'.frozen? ⟨w.heap.size, 0, none⟩ = false := (hb1.frozen (p := ⟨w.heap.size, 0, none⟩) (by simp; omega)).trans (by simp [go_sem])
  have hB := Lib.hid ((((Below.refl _ w).alloc (Nat.le_refl _) _).alloc (by simp) _).trans (hb1.mono (by simp; omega)))
  have hO := Lib.hid hown
  clear hb1 hown
  go_wp2_with fail
  have hc1 := cell_set_same (.int .i64 0) hc0
  refine door_ret ⟨_, by simp [results, Tryd.results19, go_sem, hc1], v, rfl, ?_, hB.out.setCell (Nat.le_refl _) _⟩
  rw [HL.out] at hO
  have h1 := hO.out
  exact ownsRow_le (ownsRow_setCell_below h1 (by simp; omega) _) (by simp; omega)
end Go.Proofs.YthldnldhplcfbaaDoor
