/-
  Walks: isDevice, device, cmp.Compare at ints, the closures of Check and find.
-/
import Derived.Lib.Hide
import Derived.Test.YtlmpaeefhpahoaaDoorVecRds
namespace Go.Proofs.YtlmpaeefhpahoaaDoor
open Go.RowKit

theorem mixed : Tryd.prog.follows .mixedOrders = true := by kernel_rfl
theorem ret_bool {a b : Bool} (h : a = b) : Ending.returned (.bool a) = .returned (.bool b) := by rw [h]

theorem isDevice_any (d : Int) (w : World) : Calls Tryd.prog 37 #[.int .i64 d] w fun e w' => e = .returned (.bool (dev d)) ∧ w = w' := by
  have HD : Hid (dev d = (decide (0 ≤ d) && decide (d < 256))) := rfl
  by_cases h0 : 0 ≤ d
  · by_cases h1 : d < 256
    · go_enter Tryd.func37, Tryd.ntmps37
      go_wp2_with fail
      go_ret
      exact ⟨by rw [HD.out]; simp [h0, h1], rfl⟩
    · go_enter Tryd.func37, Tryd.ntmps37
      go_wp2_with fail
      go_ret
      exact ⟨by rw [HD.out]; simp [h1], rfl⟩
  · go_enter Tryd.func37, Tryd.ntmps37
    go_wp2_with fail
    go_ret
    exact ⟨by rw [HD.out]; simp; omega, rfl⟩

theorem Device_any (d : Int) (w : World) : Calls Tryd.prog 38 #[.int .i64 d] w fun e w' => e = .returned (.bool (dev d)) ∧ w = w' := by
  have HD : Hid (dev d = (decide (0 ≤ d) && decide (d < 256))) := rfl
  by_cases h0 : 0 ≤ d
  · by_cases h1 : d < 256
    · go_enter Tryd.func38, Tryd.ntmps38
      go_wp2_with fail
      go_ret
      exact ⟨by rw [HD.out]; simp [h0, h1], rfl⟩
    · go_enter Tryd.func38, Tryd.ntmps38
      go_wp2_with fail
      go_ret
      exact ⟨by rw [HD.out]; simp [h1], rfl⟩
  · go_enter Tryd.func38, Tryd.ntmps38
    go_wp2_with fail
    go_ret
    exact ⟨by rw [HD.out]; simp; omega, rfl⟩

theorem device_any (s : Stp) (w : World) : Calls Tryd.prog 34 #[stv s] w fun e w' => e = .returned (.int .i64 s.1) ∧ ∃ q os', w' = Sort.grow (w.drewN q) os' := by
  obtain ⟨d, x⟩ := s
  unfold stv
  simp only
  go_enter Tryd.func34, Tryd.ntmps34
  go_wp2_with fail
  go_ret
  exact ⟨rfl, 0, #[_], by rw [Sort.alloc_eq_grow]; rfl⟩

theorem check1_any (s : Stp) (w : World) : Calls Tryd.prog 36 #[stv s] w fun e w' => e = .returned (.bool (!dev s.1)) ∧ Below w.heap.size w w' := by
  obtain ⟨d, x⟩ := s
  unfold stv
  simp only
  generalize hr : dev d = r
  have HD := Lib.hid (isDevice_any d)
  rw [hr] at HD
  clear hr
  go_enter Tryd.func36, Tryd.ntmps36
  go_wp2_with fail
  refine (HD.out _).mono ?_
  rintro e w1 ⟨rfl, rfl⟩
  go_wp2_with fail
  go_ret
  exact ⟨rfl, (Below.refl _ w).alloc (Nat.le_refl _) _⟩

/-- cmp.Compare at ints. -/
def cmpI (x y : Int) : Int := if x < y then -1 else if y < x then 1 else 0

theorem isNaN_any (x : Int) (w : World) : Calls Tryd.prog 68 #[.int .i64 x] w fun e w' => e = .returned (.bool false) ∧ w = w' := by
  go_enter Tryd.func68, Tryd.ntmps68
  go_wp2_with fail
  go_ret
  exact ⟨by simp, rfl⟩

theorem compare_any (x y : Int) (w : World) : Calls Tryd.prog 54 #[.int .i64 x, .int .i64 y] w fun e w' => e = .returned (.int .i64 (cmpI x y)) ∧ w = w' := by
  by_cases h1 : x < y
  · have HC : Hid (cmpI x y = -1) := by unfold cmpI; exact if_pos h1
    go_enter Tryd.func54, Tryd.ntmps54
    go_wp2_with fail
    refine (isNaN_any x _).mono ?_
    rintro e w1 ⟨rfl, rfl⟩
    go_wp2_with fail
    refine (isNaN_any y _).mono ?_
    rintro e w1 ⟨rfl, rfl⟩
    go_wp2_with fail
    go_ret
    exact ⟨by rw [HC.out]; rfl, rfl⟩
  · by_cases h2 : y < x
    · have HC : Hid (cmpI x y = 1) := by unfold cmpI; exact (if_neg h1).trans (if_pos h2)
      go_enter Tryd.func54, Tryd.ntmps54
      go_wp2_with fail
      refine (isNaN_any x _).mono ?_
      rintro e w1 ⟨rfl, rfl⟩
      go_wp2_with fail
      refine (isNaN_any y _).mono ?_
      rintro e w1 ⟨rfl, rfl⟩
      go_wp2_with fail
      go_ret
      exact ⟨by rw [HC.out]; rfl, rfl⟩
    · have HC : Hid (cmpI x y = 0) := by unfold cmpI; exact (if_neg h1).trans (if_neg h2)
      go_enter Tryd.func54, Tryd.ntmps54
      go_wp2_with fail
      refine (isNaN_any x _).mono ?_
      rintro e w1 ⟨rfl, rfl⟩
      go_wp2_with fail
      refine (isNaN_any y _).mono ?_
      rintro e w1 ⟨rfl, rfl⟩
      go_wp2_with fail
      go_ret
      exact ⟨by rw [HC.out]; rfl, rfl⟩

theorem find1_any (s : Stp) (d : Int) (w : World) : Calls Tryd.prog 53 #[stv s, .int .i64 d] w fun e w' => e = .returned (.int .i64 (cmpI s.1 d)) ∧ Below w.heap.size w w' := by
  obtain ⟨x, y⟩ := s
  unfold stv
  simp only
  generalize hr : cmpI x d = r
  have HD := Lib.hid (compare_any x d)
  rw [hr] at HD
  clear hr
  go_enter Tryd.func53, Tryd.ntmps53
  go_wp2_with fail
  refine (HD.out _).mono ?_
  rintro e w1 ⟨rfl, rfl⟩
  go_wp2_with fail
  go_ret
  exact ⟨rfl, (Below.refl _ w).alloc (Nat.le_refl _) _⟩
end Go.Proofs.YtlmpaeefhpahoaaDoor
