/-
  The law VectorOrders, walked.
-/
import Derived.Test.YtlmpaeefhpahoaaDoorVecP
namespace Go.Proofs.YtlmpaeefhpahoaaDoor
open Go.RowKit

set_option maxHeartbeats 1600000 in
set_option maxRecDepth 20000 in
theorem VectorOrders_walk (x y : Value) (a b : List Stp) (w : World) (ha : RdsP w x a) (hb : RdsP w y b) :
    Calls Tryd.prog 7 #[x, y] w fun e w' => e = .returned (.bool true) ∧ Below w.heap.size w w' := by
  obtain ⟨r, hr⟩ : ∃ r : Bool, r = decide (a = b) := ⟨_, rfl⟩
  obtain ⟨p, q, hpq⟩ : ∃ (p : Bool) (q : Int), belowV a b = .tuple #[.bool p, .int .i64 q] := by
    unfold belowV
    split
    · exact ⟨_, _, rfl⟩
    · exact ⟨_, _, rfl⟩
  have H1 := Lib.hid (fun W (h1 : RdsP W x a) (h2 : RdsP W y b) => Below_any x y a b W h1 h2)
  have H2 := Lib.hid (fun W (h1 : RdsP W x a) (h2 : RdsP W y b) => BelowR_any x y a b W h1 h2)
  rw [hpq] at H1 H2
  have H3 := Lib.hid (fun W (h1 : RdsP W x a) (h2 : RdsP W y b) => Same_any x y a b W h1 h2 r hr)
  have H4 := Lib.hid (fun W (h1 : RdsP W x a) (h2 : RdsP W y b) => SameR_any x y a b W h1 h2 r hr)
  have H5 := Lib.hid (fun W (h1 : RdsP W x a) => Same_any x x a a W h1 h1 true (by simp))
  have HA := Lib.hid ha
  have HB := Lib.hid hb
  have hpp : (p == p) = true := by simp
  have hqq : (q == q) = true := by simp
  have hrr : (r == r) = true := by simp
  obtain ⟨xa, xn, xc, rfl, hx⟩ := ha
  obtain ⟨ya, yn, yc, rfl, hy⟩ := hb
  clear hx hy hr hpq
  go_enter Tryd.func7, Tryd.ntmps7
  go_wp2_with fail
  refine (H1.out _ HA.out HB.out).mono ?_
  rintro e w1 ⟨rfl, hb1⟩
  have HB1 := Lib.hid hb1
  have HA1 := Lib.hid (HA.out.below hb1)
  have HC1 := Lib.hid (HB.out.below hb1)
  clear hb1
  go_wp2_with fail
  refine (H2.out _ HA1.out HC1.out).mono ?_
  rintro e w2 ⟨rfl, hb2⟩
  have HB2 := Lib.hid (HB1.out.trans (hb2.mono HB1.out.size))
  have HA2 := Lib.hid (HA1.out.below hb2)
  have HC2 := Lib.hid (HC1.out.below hb2)
  clear hb2
  go_wp2_with fail
  refine (H3.out _ HA2.out HC2.out).mono ?_
  rintro e w3 ⟨rfl, k3, rfl⟩
  go_wp2_with fail
  refine (H4.out _ (rdsP_drewN HA2.out k3) (rdsP_drewN HC2.out k3)).mono ?_
  rintro e w4 ⟨rfl, k4, rfl⟩
  go_wp2_with fail
  refine (H5.out _ (rdsP_drewN HA2.out (k3 + k4))).mono ?_
  rintro e w5 ⟨rfl, k5, rfl⟩
  go_wp2_with fail
  refine (awake_any _).mono ?_
  rintro e w6 ⟨rfl, hb6⟩
  have HB6 := Lib.hid ((below_dN HB2.out _).trans (hb6.mono HB2.out.size))
  clear hb6
  go_wp2_with fail
  go_ret
  exact ⟨rfl, HB6.out⟩
end Go.Proofs.YtlmpaeefhpahoaaDoor
