/-
  The law VectorGets, walked.
-/
import Derived.BigQuiet
import Derived.Test.YtlmpaeefhpahoaaDoorVecZE
namespace Go.Proofs.YtlmpaeefhpahoaaDoor
open Go.RowKit

set_option maxHeartbeats 3000000 in
set_option maxRecDepth 20000 in
theorem VectorGets_walk (x : Value) (v : List Stp) (d : Int) (y : Value) (l : List Stp) (w : World) (hx : RdsP w x v) (hy : RdsP w y l) :
    Calls Tryd.prog 9 #[x, .int .i64 d, y] w fun e w' => e = .returned (.bool true) ∧ Below w.heap.size w w' := by
  obtain ⟨a, b, q, hg⟩ : ∃ a b q, getOf v d = (a, b, q) := ⟨_, _, _, rfl⟩
  obtain ⟨p, r, hp⟩ : ∃ p r, withOf v l = (p, r) := ⟨_, _, rfl⟩
  have G1 := Lib.hid (fun W (h1 : RdsP W x v) => Get_any x v d W h1 a b q hg)
  have G2 := Lib.hid (fun W (h1 : RdsP W x v) => GetR_any x v d W h1 a b q hg)
  have W1 := Lib.hid (fun W (h1 : RdsP W x v) (h2 : RdsP W y l) => With_any x y v l W h1 h2 p r hp)
  have W2 := Lib.hid (fun W (h1 : RdsP W x v) (h2 : RdsP W y l) => WithR_any x y v l W h1 h2 p r hp)
  have HX := Lib.hid hx
  have HY := Lib.hid hy
  have haa : (a == a) = true := by simp
  have hbb : (b == b) = true := by simp
  have hqq : (q == q) = true := by simp
  have hrr : (r == r) = true := by simp
  obtain ⟨xa, xn, xc, rfl, hxx⟩ := hx
  obtain ⟨ya, yn, yc, rfl, hyy⟩ := hy
  clear hxx hyy hg hp
  go_enter Tryd.func9, Tryd.ntmps9
  go_wp2_with fail
  refine (G1.out _ HX.out).mono ?_
  rintro e w1 ⟨rfl, b1⟩
  have X1 := Lib.hid (HX.out.below b1)
  have Y1 := Lib.hid (HY.out.below b1)
  have B1 := Lib.hid b1
  clear b1
  go_wp2_with fail
  refine (G2.out _ X1.out).mono ?_
  rintro e w2 ⟨rfl, b2⟩
  have X2 := Lib.hid (X1.out.below b2)
  have Y2 := Lib.hid (Y1.out.below b2)
  have B2 := Lib.hid (B1.out.trans (b2.mono B1.out.size))
  clear b2
  go_wp2_with fail
  refine (W1.out _ X2.out Y2.out).mono ?_
  rintro e w3 ⟨a3, n3, c3, rfl, r3, o3, b3⟩
  have X3 := Lib.hid (X2.out.below b3)
  have Y3 := Lib.hid (Y2.out.below b3)
  have Z3 := Lib.hid r3
  have B3 := Lib.hid (B2.out.trans (b3.mono B2.out.size))
  clear b3 r3 o3
  go_wp2_with fail
  refine (W2.out _ X3.out Y3.out).mono ?_
  rintro e w4 ⟨a4, n4, c4, rfl, r4, b4⟩
  have Z4 := Lib.hid (Z3.out.below b4)
  have U4 := Lib.hid r4
  have B4 := Lib.hid (B3.out.trans (b4.mono B3.out.size))
  clear b4 r4
  go_wp2_with fail
  refine (SameR_any _ _ _ _ _ Z4.out U4.out true (by simp)).mono ?_
  rintro e u1 ⟨rfl, k1, rfl⟩
  go_wp2_with fail
  refine (awake_any _).mono ?_
  rintro e u5 ⟨rfl, b6⟩
  have B6 := Lib.hid ((below_dN B4.out k1).trans (b6.mono (below_dN B4.out k1).size))
  clear b6
  go_wp2_with fail
  go_ret
  exact ⟨rfl, B6.out⟩
end Go.Proofs.YtlmpaeefhpahoaaDoor
