/-
  Walks: First and Every of package cube; Free, First and Every of the reference.
-/
import Derived.Test.YthldnldhplcfbaaDoorAppend
import Derived.Test.YthldnldhplcfbaaDoorCubeT
namespace Go.Proofs.YthldnldhplcfbaaDoor
open Go.RowKit

theorem First_bad (a : ByteArray) (w : World) (ha : a.size ≤ maxLen) (hw : Cb.isCube a.data.toList = false) :
    Calls Tryd.prog 6 #[.string a] w fun e w' => e = .returned (.tuple #[.string ⟨#[]⟩, .int .i64 10]) ∧ Below w.heap.size w w' := by
  have HW : Hid (Cb.wrong (lb [a]) = 10) := by show Cb.wrong [a.data.toList] = 10; rw [Cb.wrong_one, hw]; rfl
  clear hw
  go_enter_defers Tryd.func6, Tryd.ntmps6
  go_wp2_with fail
  refine (must_bad (ss := [a]) (one_rds _ _ _ (by simp) _) (one_le ha) (by rw [HW.out]; decide)).mono ?_
  rintro e w' ⟨rfl, rfl⟩
  rw [HW.out]
  go_wp2_with fail
  refine door_fault (p := ⟨w.heap.size, 0, none⟩) _ 0 ?_ ?_ ?_ fun W' hB hC => ?_
  · simp; omega
  · simp [go_sem]
  · simp [go_sem]
  · exact ⟨_, by simp [results, Tryd.results6, go_sem, hC], rfl, (((Below.refl _ w).alloc (Nat.le_refl _) _).alloc (by simp) _).trans hB⟩

/-- The least header. -/
def leastB (a : ByteArray) : ByteArray := ⟨(a.data.toList.map (Cb.sub1 120 48)).toArray⟩

theorem First_ok (a : ByteArray) (m : Int) (w : World) (ha : a.size ≤ maxLen) (hm : w.cell? ⟨0, 0, none⟩ = some (.int .i64 m)) (hw : Cb.isCube a.data.toList = true) :
    Calls Tryd.prog 6 #[.string a] w fun e w' => e = .returned (.tuple #[.string (leastB a), .int .i64 0]) ∧ Below w.heap.size w w' := by
  have HW : Hid (Cb.wrong (lb [a]) = 0) := by show Cb.wrong [a.data.toList] = 0; rw [Cb.wrong_one, hw]; rfl
  have hsz : a.size ≤ 128 := by have := (Cb.ofB_len hw).2; simpa using this
  have h0 : 0 < w.heap.size := World.block_lt_of_cell? w ⟨0, 0, none⟩ hm
  have HE : Hid (Lib.replaceAll a.data.toList [120] [48] = a.data.toList.map (Cb.sub1 120 48)) := Cb.replaceAll_one (by decide) _
  have hcount : Lib.countB a ⟨#[120]⟩ ≤ a.size := by
    have := Lib.countB_mul_le ⟨#[120]⟩ (by decide) a.size a (Nat.le_refl _)
    have e : (⟨#[120]⟩ : ByteArray).size = 1 := rfl
    rw [e] at this
    omega
  have HRe := Lib.hid (fun W (h : Below w.heap.size w W) => Tryd.strings_ReplaceAll a ⟨#[120]⟩ ⟨#[48]⟩ m W (by omega) ((h.cell (p := ⟨0, 0, none⟩) h0).trans hm) (by decide) (by
    have e : (⟨#[48]⟩ : ByteArray).size = 1 := rfl
    rw [e]; omega))
  have HL : Hid (leastB a = ⟨(Lib.replaceAll a.data.toList (⟨#[120]⟩ : ByteArray).data.toList (⟨#[48]⟩ : ByteArray).data.toList).toArray⟩) := by
    show leastB a = _
    unfold leastB
    rw [← HE.out]
  rw [← HL.out] at HRe
  generalize leastB a = L at HRe
  clear hw hsz hcount HE HL hm
  have HBa := Lib.hid (((Below.refl _ w).alloc (Nat.le_refl _) (.cells #[.int .i64 0] 22)).alloc (by simp) (.cells #[.string a] 9))
  go_enter_defers Tryd.func6, Tryd.ntmps6
  go_wp2_with fail
  refine (must_ok (ss := [a]) (one_rds _ _ _ (by simp) _) (one_le ha) HW.out).mono ?_
  rintro e w' ⟨rfl, rfl⟩
  go_wp2_with fail
  refine (HRe.out _ HBa.out).mono ?_
  rintro e w' ⟨rfl, hb1⟩
  have hc0 : w'.cell? ⟨w.heap.size, 0, none⟩ = some (.int .i64 0) := (hb1.cell (p := ⟨w.heap.size, 0, none⟩) (by simp; omega)).trans (by simp [go_sem])
  have hf0 : w'.frozen? ⟨w.heap.size, 0, none⟩ = false := (hb1.frozen (p := ⟨w.heap.size, 0, none⟩) (by simp; omega)).trans (by simp [go_sem])
  have hB := Lib.hid (HBa.out.trans (hb1.mono (by simp; omega)))
  clear hb1
  go_wp2_with fail
  have hc1 := cell_set_same (.int .i64 0) hc0
  refine door_ret ⟨_, by simp [results, Tryd.results6, go_sem, hc1], rfl, hB.out.setCell (Nat.le_refl _) _⟩

theorem Every_bad (n : Int) (w : World) (h : ¬ (1 ≤ n ∧ n ≤ 128)) :
    Calls Tryd.prog 8 #[.int .i64 n] w fun e w' => e = .returned (.tuple #[.string ⟨#[]⟩, .int .i64 1]) ∧ w = w' := by
  by_cases h1 : n < 1
  · clear h
    go_enter Tryd.func8, Tryd.ntmps8
    go_wp2_with fail
    first | go_ret2 | skip
    exact ⟨rfl, rfl⟩
  · have h2 : 128 < n := by omega
    have h3 : ¬ n < 1 := h1
    clear h h1
    go_enter Tryd.func8, Tryd.ntmps8
    go_wp2_with fail
    first | go_ret2 | skip
    exact ⟨rfl, rfl⟩

/-- The cube of all headers. -/
def everyB (n : Nat) : ByteArray := ⟨(List.replicate n 120).toArray⟩

theorem Every_ok (n : Nat) (w : World) (h1 : 1 ≤ n) (h2 : n ≤ 128) :
    Calls Tryd.prog 8 #[.int .i64 n] w fun e w' => e = .returned (.tuple #[.string (everyB n), .int .i64 0]) ∧ Below w.heap.size w w' := by
  have HRe := Lib.hid (fun W => Tryd.strings_Repeat ⟨#[120]⟩ n W (by omega) (by
    have e : (⟨#[120]⟩ : ByteArray).size = 1 := rfl
    rw [e]; omega))
  have HL : Hid (everyB n = ⟨(Lib.repeatL (⟨#[120]⟩ : ByteArray).data.toList n).toArray⟩) := by
    show everyB n = _
    unfold everyB
    rw [← Cb.repeatL_one]
  rw [← HL.out] at HRe
  generalize everyB n = L at HRe
  clear HL
  have h3 : ¬ ((n : Int) < 1) := by omega
  have h4 : ¬ (128 < (n : Int)) := by omega
  go_enter Tryd.func8, Tryd.ntmps8
  go_wp2_with fail
  refine (HRe.out _).mono ?_
  rintro e w' ⟨rfl, hb1⟩
  have HB := Lib.hid hb1
  clear hb1
  go_wp2_with fail
  first | go_ret2 | skip
  exact ⟨rfl, HB.out⟩

theorem rEvery_bad (n : Int) (w : World) (h : ¬ (1 ≤ n ∧ n ≤ 128)) :
    Calls Tryd.prog 9 #[.int .i64 n] w fun e w' => e = .returned (.tuple #[.string ⟨#[]⟩, .int .i64 1]) ∧ w = w' := by
  by_cases h1 : n < 1
  · clear h
    go_enter Tryd.func9, Tryd.ntmps9
    go_wp2_with fail
    first | go_ret2 | skip
    exact ⟨rfl, rfl⟩
  · have h2 : 128 < n := by omega
    have h3 : ¬ n < 1 := h1
    clear h h1
    go_enter Tryd.func9, Tryd.ntmps9
    go_wp2_with fail
    first | go_ret2 | skip
    exact ⟨rfl, rfl⟩
end Go.Proofs.YthldnldhplcfbaaDoor
