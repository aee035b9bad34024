/-
  The law VectorAlgebra, walked.
-/
import Derived.BigQuiet
import Derived.Test.YtlmpaeefhpahoaaDoorVecV
namespace Go.Proofs.YtlmpaeefhpahoaaDoor
open Go.RowKit

theorem rdsL_four {w : World} {x y z u : Value} {a b c d : List Stp} (e : TypeId) (hx : RdsP w x a) (hy : RdsP w y b) (hz : RdsP w z c) (hu : RdsP w u d) : RdsL (w.alloc (.cells #[x, y, z, u] e)) (.slice (some ⟨w.heap.size, 0, none⟩) 4 4) [a, b, c, d] := by
  have hb := (Below.refl w.heap.size w).alloc (Nat.le_refl _) (.cells #[x, y, z, u] e)
  refine ⟨_, _, _, rfl, rfl, by unfold maxLen; omega, fun i hi => ?_⟩
  have hi2 : i < 4 := by simpa using hi
  match i, hi2 with
  | 0, _ => exact ⟨_, _, x, rfl, by simp, by unfold World.cell? World.alloc; simp, hx.below hb⟩
  | 1, _ => exact ⟨_, _, y, rfl, by simp, by unfold World.cell? World.alloc; simp, hy.below hb⟩
  | 2, _ => exact ⟨_, _, z, rfl, by simp, by unfold World.cell? World.alloc; simp, hz.below hb⟩
  | 3, _ => exact ⟨_, _, u, rfl, by simp, by unfold World.cell? World.alloc; simp, hu.below hb⟩

set_option maxHeartbeats 4000000 in
set_option maxRecDepth 20000 in
theorem Algebra_bad (x y z : Value) (a b c : List Stp) (w : World) (ha : RdsP w x a) (hb : RdsP w y b) (hc : RdsP w z c) (h3 : [a, b, c].all chk = false) :
    Calls Tryd.prog 4 #[x, y, z] w fun e w' => e = .returned (.bool true) ∧ Below w.heap.size w w' := by
  have h4 : [c, b, a, b].all chk = false := by
    rw [Bool.eq_false_iff] at h3 ⊢
    intro h
    apply h3
    simp only [List.all_cons, List.all_nil, Bool.and_true, Bool.and_eq_true] at h ⊢
    exact ⟨h.2.2.1, h.2.1, h.1⟩
  have h5 : [c, a, b, a].all chk = false := by
    rw [Bool.eq_false_iff] at h3 ⊢
    intro h
    apply h3
    simp only [List.all_cons, List.all_nil, Bool.and_true, Bool.and_eq_true] at h ⊢
    exact ⟨h.2.1, h.2.2.1, h.1⟩
  have M1 := Lib.hid (fun W (h1 : RdsP W x a) (h2 : RdsP W y b) (h3' : RdsP W z c) => Merge_bad _ _ _ (rdsL_three 24 h1 h2 h3') h3)
  have M2 := Lib.hid (fun W (h1 : RdsP W x a) (h2 : RdsP W y b) (h3' : RdsP W z c) => Merge_bad _ _ _ (rdsL_four 24 h3' h2 h1 h2) h4)
  have J1 := Lib.hid (fun W (h1 : RdsP W x a) (h2 : RdsP W y b) (h3' : RdsP W z c) => Join_bad _ _ _ (rdsL_three 24 h1 h2 h3') h3)
  have J2 := Lib.hid (fun W (h1 : RdsP W x a) (h2 : RdsP W y b) (h3' : RdsP W z c) => Join_bad _ _ _ (rdsL_four 24 h3' h1 h2 h1) h5)
  have HA := Lib.hid ha
  have HB := Lib.hid hb
  have HC := Lib.hid hc
  obtain ⟨xa, xn, xc, rfl, hx⟩ := ha
  obtain ⟨ya, yn, yc, rfl, hy⟩ := hb
  obtain ⟨za, zn, zc, rfl, hz⟩ := hc
  clear hx hy hz h3 h4 h5
  go_enter Tryd.func4, Tryd.ntmps4
  go_wp2_with fail
  refine (awake_any _).mono ?_
  rintro e w0 ⟨rfl, hb0⟩
  have B0 := Lib.hid hb0
  clear hb0
  go_wp2_with fail
  refine (M1.out _ (HA.out.below B0.out) (HB.out.below B0.out) (HC.out.below B0.out)).mono ?_
  rintro e w1 ⟨rfl, hb1⟩
  have B1 := Lib.hid ((B0.out.alloc B0.out.size _).trans (hb1.mono (B0.out.alloc B0.out.size _).size))
  clear hb1
  go_wp2_with fail
  refine (M2.out _ (HA.out.below B1.out) (HB.out.below B1.out) (HC.out.below B1.out)).mono ?_
  rintro e w2 ⟨rfl, hb2⟩
  have B2 := Lib.hid ((B1.out.alloc B1.out.size _).trans (hb2.mono (B1.out.alloc B1.out.size _).size))
  clear hb2
  go_wp2_with fail
  refine (J1.out _ (HA.out.below B2.out) (HB.out.below B2.out) (HC.out.below B2.out)).mono ?_
  rintro e w3 ⟨rfl, hb3⟩
  have B3 := Lib.hid ((B2.out.alloc B2.out.size _).trans (hb3.mono (B2.out.alloc B2.out.size _).size))
  clear hb3
  go_wp2_with fail
  refine (J2.out _ (HA.out.below B3.out) (HB.out.below B3.out) (HC.out.below B3.out)).mono ?_
  rintro e w4 ⟨rfl, hb4⟩
  have B4 := Lib.hid ((B3.out.alloc B3.out.size _).trans (hb4.mono (B3.out.alloc B3.out.size _).size))
  clear hb4
  go_wp2_with fail
  go_ret
  exact ⟨rfl, B4.out⟩
end Go.Proofs.YtlmpaeefhpahoaaDoor
