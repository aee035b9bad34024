/-
  Plain laws and walks: Check, Free, First, Every of package cube.
-/
import Derived.Lib.SplitLaws
import Derived.Lib.ReplaceLaws
import Derived.Lib.IndexBytes
import Derived.Test.YtlbelkjgaeaaeaaGreatCubeS
import Derived.Test.YtlbelkjgaeaaeaaGreatShelfB
namespace Go.Proofs.YtlbelkjgaeaaeaaGreat
open Go.RowKit

namespace Cb
/-- A byte in the place of another one. -/
def sub1 (c d : UInt8) (b : UInt8) : UInt8 := if b = c then d else b

theorem replaceK_one (c d : UInt8) : ∀ s : List UInt8, Lib.replaceK [c] [d] (s.count c) s = s.map (sub1 c d)
  | [] => rfl
  | b :: t => by
    have ih := replaceK_one c d t
    by_cases hb : b = c
    · subst hb
      have h0 : Lib.index (b :: t) [b] = ((0 : Nat) : Int) := by unfold Lib.index; simp
      rw [List.count_cons_self, Lib.replaceK_hit _ _ _ _ 0 h0]
      simp [sub1, ih]
    · have hc : (b :: t).count c = t.count c := List.count_cons_of_ne (by simpa using hb)
      have hm : (b :: t).map (sub1 c d) = b :: t.map (sub1 c d) := by simp [sub1, hb]
      rw [hc, hm, ← ih]
      cases hk : t.count c with
      | zero => rfl
      | succ k =>
        obtain ⟨i, hi⟩ := Lib.index_of_count (s := t) (old := [c]) (by rw [Lib.count_one, hk]; omega)
        have h1 : Lib.index (b :: t) [c] = ((i + 1 : Nat) : Int) := by
          rw [Lib.index]
          have e1 : ([c].isPrefixOf (b :: t)) = false := by simp [List.isPrefixOf]; exact fun e => hb e.symm
          rw [e1, hi]
          have e2 : (((i : Nat) : Int) == -1) = false := by simp
          rw [if_neg (by simp), if_neg (by rw [e2]; decide)]
          omega
        rw [Lib.replaceK_hit _ _ _ _ _ h1, Lib.replaceK_hit _ _ _ _ _ hi]
        simp

theorem replaceAll_one {c d : UInt8} (h : c ≠ d) (s : List UInt8) : Lib.replaceAll s [c] [d] = s.map (sub1 c d) := by
  unfold Lib.replaceAll Lib.replace Lib.replaceNum
  have e : (([c] : List UInt8) == [d]) = false := by simpa using h
  rw [e, if_neg (by simp), if_pos (.inl (by decide)), Lib.count_one]
  exact replaceK_one c d s

theorem wrong_one (s : List UInt8) : wrong [s] = if isCube s = true then 0 else 10 := by
  unfold wrong
  cases h : isCube s <;> simp [h]

/-- The least header of a cube. -/
theorem least_cube {s : List UInt8} (h : isCube s = true) : s.map (sub1 120 48) = s.map (fun b => if b = 49 then 49 else 48) := by
  refine List.map_congr_left fun b hb => ?_
  unfold isCube ofB at h
  simp only [Bool.and_eq_true, List.all_eq_true] at h
  have := h.2 b hb
  unfold sub1
  simp at this
  rcases this with rfl | rfl | rfl <;> rfl
end Cb

theorem one_rds (w : World) (a : ByteArray) (o : Nat) (ho : o = w.heap.size) (t : TypeId) : RdsS (w.alloc (.cells #[.string a] t)) (.slice (some ⟨o, 0, none⟩) 1 1) [a] := by
  subst ho
  refine rdsS_mk (ss := [a]) (by simp) (by unfold maxLen; simp) (by simp) ?_
  intro i hi
  match i, hi with
  | 0, _ => simp [go_sem]

theorem one_le {a : ByteArray} (ha : a.size ≤ maxLen) : ∀ s ∈ [a], s.size ≤ maxLen := by
  intro s hs
  have : s = a := by simpa using hs
  rw [this]; exact ha

theorem Check_bad (a : ByteArray) (w : World) (ha : a.size ≤ maxLen) (hw : Cb.isCube a.data.toList = false) :
    Calls Tryz.prog 71 #[.string a] w fun e w' => e = .returned (.int .i64 10) ∧ Below w.heap.size w w' := by
  have HW : Hid (Cb.wrong (lb [a]) = 10) := by show Cb.wrong [a.data.toList] = 10; rw [Cb.wrong_one, hw]; rfl
  clear hw
  go_enter_defers Tryz.func71, Tryz.ntmps71
  go_wp2_with fail
  refine (must_bad (ss := [a]) (one_rds _ _ _ (by simp) _) (one_le ha) (by rw [HW.out]; decide)).mono ?_
  rintro e w' ⟨rfl, rfl⟩
  rw [HW.out]
  go_wp2_with fail
  refine door_fault (p := ⟨w.heap.size, 0, none⟩) _ 0 ?_ ?_ ?_ fun W' hB hC => ?_
  · simp; omega
  · simp [go_sem]
  · simp [go_sem]
  · exact ⟨_, by simp [results, Tryz.results71, go_sem, hC], rfl, (((Below.refl _ w).alloc (Nat.le_refl _) _).alloc (by simp) _).trans hB⟩

theorem Check_ok (a : ByteArray) (w : World) (ha : a.size ≤ maxLen) (hw : Cb.isCube a.data.toList = true) :
    Calls Tryz.prog 71 #[.string a] w fun e w' => e = .returned (.int .i64 0) ∧ Below w.heap.size w w' := by
  have HW : Hid (Cb.wrong (lb [a]) = 0) := by show Cb.wrong [a.data.toList] = 0; rw [Cb.wrong_one, hw]; rfl
  clear hw
  go_enter_defers Tryz.func71, Tryz.ntmps71
  go_wp2_with fail
  refine (must_ok (ss := [a]) (one_rds _ _ _ (by simp) _) (one_le ha) HW.out).mono ?_
  rintro e w' ⟨rfl, rfl⟩
  go_wp2_with fail
  have hB := ((Below.refl _ w).alloc (Nat.le_refl _) (.cells #[.int .i64 0] 24)).alloc (by simp) (.cells #[.string a] 9)
  refine door_ret ⟨_, by simp [results, Tryz.results71, go_sem], rfl, hB⟩

theorem Free_bad (a : ByteArray) (w : World) (ha : a.size ≤ maxLen) (hw : Cb.isCube a.data.toList = false) :
    Calls Tryz.prog 55 #[.string a] w fun e w' => e = .returned (.tuple #[.int .i64 0, .int .i64 10]) ∧ Below w.heap.size w w' := by
  have HW : Hid (Cb.wrong (lb [a]) = 10) := by show Cb.wrong [a.data.toList] = 10; rw [Cb.wrong_one, hw]; rfl
  clear hw
  go_enter_defers Tryz.func55, Tryz.ntmps55
  go_wp2_with fail
  refine (must_bad (ss := [a]) (one_rds _ _ _ (by simp) _) (one_le ha) (by rw [HW.out]; decide)).mono ?_
  rintro e w' ⟨rfl, rfl⟩
  rw [HW.out]
  go_wp2_with fail
  refine door_fault (p := ⟨w.heap.size, 0, none⟩) _ 0 ?_ ?_ ?_ fun W' hB hC => ?_
  · simp; omega
  · simp [go_sem]
  · simp [go_sem]
  · exact ⟨_, by simp [results, Tryz.results55, go_sem, hC], rfl, (((Below.refl _ w).alloc (Nat.le_refl _) _).alloc (by simp) _).trans hB⟩

theorem Free_ok (a : ByteArray) (w : World) (ha : a.size ≤ maxLen) (hw : Cb.isCube a.data.toList = true) :
    Calls Tryz.prog 55 #[.string a] w fun e w' => e = .returned (.tuple #[.int .i64 (a.data.toList.count 120 : Nat), .int .i64 0]) ∧ Below w.heap.size w w' := by
  have HW : Hid (Cb.wrong (lb [a]) = 0) := by show Cb.wrong [a.data.toList] = 0; rw [Cb.wrong_one, hw]; rfl
  clear hw
  obtain ⟨N, hN⟩ : ∃ N, N = a.data.toList.count 120 := ⟨_, rfl⟩
  have HCo := Lib.hid (fun W => Tryz.strings_Count_one a 120 W)
  have HN : Hid (Lib.countByte a.data.toList 120 = N) := hN.symm
  rw [HN.out] at HCo
  rw [← hN]
  clear hN
  go_enter_defers Tryz.func55, Tryz.ntmps55
  go_wp2_with fail
  refine (must_ok (ss := [a]) (one_rds _ _ _ (by simp) _) (one_le ha) HW.out).mono ?_
  rintro e w' ⟨rfl, rfl⟩
  go_wp2_with fail
  refine (HCo.out _).mono ?_
  rintro e w' ⟨rfl, rfl⟩
  go_wp2_with fail
  have hB := ((Below.refl _ w).alloc (Nat.le_refl _) (.cells #[.int .i64 0] 24)).alloc (by simp) (.cells #[.string a] 9)
  refine door_ret ⟨_, by simp [results, Tryz.results55, go_sem], rfl, hB⟩
end Go.Proofs.YtlbelkjgaeaaeaaGreat
