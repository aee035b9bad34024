/-
  The law VectorAlgebra, walked: the vectors may be.
-/
import Derived.Test.YtlmpaeefhpahoaaDoorVecW
namespace Go.Proofs.YtlmpaeefhpahoaaDoor
open Go.RowKit

set_option maxHeartbeats 6000000 in
set_option maxRecDepth 20000 in
theorem Algebra_parted (x y z : Value) (a b c : List Stp) (w : World) (ha : RdsP w x a) (hb : RdsP w y b) (hc : RdsP w z c) (h3 : [a, b, c].all chk = true) (hag : (joinTo ([], true) [a, b, c].flatten).2 = false) :
    Calls Tryd.prog 4 #[x, y, z] w fun e w' => e = .returned (.bool true) ∧ Below w.heap.size w w' := by
  have hch : chk a = true ∧ chk b = true ∧ chk c = true := by
    simp only [List.all_cons, List.all_nil, Bool.and_true, Bool.and_eq_true] at h3
    exact h3
  obtain ⟨hca, hcb, hcc⟩ := hch
  have h4 : [c, b, a, b].all chk = true := by simp [hca, hcb, hcc]
  have h5 : [c, a, b, a].all chk = true := by simp [hca, hcb, hcc]
  have h6 : [a, b].all chk = true := by simp [hca, hcb]
  have h7 : [jn a b, c].all chk = true := by simp [chk_jn hca hcb, hcc]
  obtain ⟨m, hm⟩ : ∃ m, m = (joinTo ([], true) [a, b, c].flatten).1 := ⟨_, rfl⟩
  have hp : joinTo ([], true) [a, b, c].flatten = (m, false) := Prod.ext hm.symm hag
  have M1 := Lib.hid (fun W (h1 : RdsP W x a) (h2 : RdsP W y b) (h3' : RdsP W z c) => Merge_good _ _ _ (rdsL_three 24 h1 h2 h3') h3 _ hp)
  have M2 := Lib.hid (fun W (h1 : RdsP W x a) (h2 : RdsP W y b) (h3' : RdsP W z c) => Merge_good _ _ _ (rdsL_four 24 h3' h2 h1 h2) h4 _ ((joined_perm a b c).trans hp))
  have J1 := Lib.hid (fun W (h1 : RdsP W x a) (h2 : RdsP W y b) (h3' : RdsP W z c) => Join_good _ _ _ (rdsL_three 24 h1 h2 h3') h3 _ hp)
  have J2 := Lib.hid (fun W (h1 : RdsP W x a) (h2 : RdsP W y b) (h3' : RdsP W z c) => Join_good _ _ _ (rdsL_four 24 h3' h1 h2 h1) h5 _ ((joined_perm2 a b c).trans hp))
  have J3 := Lib.hid (fun W (h1 : RdsP W x a) (h2 : RdsP W y b) => Join_good _ _ _ (rdsL_two 24 h1 h2) h6 _ rfl)
  obtain ⟨g, hg⟩ : ∃ g, g = (joinTo ([], true) [jn a b, c].flatten).2 := ⟨_, rfl⟩
  have hq : joinTo ([], true) [jn a b, c].flatten = (m, g) := Prod.ext ((joined_brackets a b c).trans hm.symm) hg.symm
  have J4 := Lib.hid (fun W u (h1 : RdsP W u (jn a b)) (h2 : RdsP W z c) => Join_good _ _ _ (rdsL_two 24 h1 h2) h7 _ hq)
  have HA := Lib.hid ha
  have HB := Lib.hid hb
  have HC := Lib.hid hc
  obtain ⟨xa, xn, xc, rfl, hx⟩ := ha
  obtain ⟨ya, yn, yc, rfl, hy⟩ := hb
  obtain ⟨za, zn, zc, rfl, hz⟩ := hc
  clear hx hy hz h3 h4 h5 h6 h7 hag hp hq hm hg hca hcb hcc
  go_enter Tryd.func4, Tryd.ntmps4
  go_wp2_with fail
  refine (awake_any _).mono ?_
  rintro e w0 ⟨rfl, hb0⟩
  have B0 := Lib.hid hb0
  have A0 := Lib.hid (HA.out.below hb0)
  have Y0 := Lib.hid (HB.out.below hb0)
  have Z0 := Lib.hid (HC.out.below hb0)
  clear hb0
  go_wp2_with fail
  refine (M1.out _ A0.out Y0.out Z0.out).mono ?_
  rintro e w1 ⟨v1, rfl, hb1, hown, hnil⟩
  have hbb : Below w0.heap.size w0 w1 := ((Below.refl w0.heap.size w0).alloc (Nat.le_refl _) _).trans (hb1.mono ((Below.refl w0.heap.size w0).alloc (Nat.le_refl _) _).size)
  obtain rfl : v1 = .slice none 0 0 := by first | exact hnil rfl | exact hnil trivial | simpa using hnil
  have N1 : Hid (RdsP w1 (.slice none 0 0) []) := rdsP_nil w1
  clear hown hnil
  have B1 := Lib.hid (B0.out.trans (hbb.mono B0.out.size))
  have A1 := Lib.hid (A0.out.below hbb)
  have Y1 := Lib.hid (Y0.out.below hbb)
  have Z1 := Lib.hid (Z0.out.below hbb)
  clear hbb hb1
  go_wp2_with fail
  refine (M2.out _ A1.out Y1.out Z1.out).mono ?_
  rintro e w2 ⟨v2, rfl, hb2, hown, hnil⟩
  have hbb : Below w1.heap.size w1 w2 := ((Below.refl w1.heap.size w1).alloc (Nat.le_refl _) _).trans (hb2.mono ((Below.refl w1.heap.size w1).alloc (Nat.le_refl _) _).size)
  obtain rfl : v2 = .slice none 0 0 := by first | exact hnil rfl | exact hnil trivial | simpa using hnil
  have N2 : Hid (RdsP w2 (.slice none 0 0) []) := rdsP_nil w2
  clear hown hnil
  have B2 := Lib.hid (B1.out.trans (hbb.mono B1.out.size))
  have A2 := Lib.hid (A1.out.below hbb)
  have Y2 := Lib.hid (Y1.out.below hbb)
  have Z2 := Lib.hid (Z1.out.below hbb)
  have V1_2 := Lib.hid (N1.out.below hbb)
  clear hbb hb2
  go_wp2_with fail
  refine (J1.out _ A2.out Y2.out Z2.out).mono ?_
  rintro e w3 ⟨v3, rfl, hb3, hown⟩
  have hbb : Below w2.heap.size w2 w3 := ((Below.refl w2.heap.size w2).alloc (Nat.le_refl _) _).trans (hb3.mono ((Below.refl w2.heap.size w2).alloc (Nat.le_refl _) _).size)
  obtain ⟨a3, c3, rfl, o1, o2⟩ := ownsSt_form hown
  have hrd := owns_rdsP rfl hown
  obtain ⟨n3, hn3⟩ : ∃ n3 : Nat, n3 = (m).length := ⟨_, rfl⟩
  first | rw [← hn3] at hrd ⊢ | (change RdsP _ (.slice _ (m).length _) _ at hrd; rw [← hn3] at hrd; rw [show (joinTo ([], true) [a, b].flatten).1.length = n3 from hn3.symm])
  have N3 := Lib.hid hrd
  clear hown hrd o1 o2 hn3
  have B3 := Lib.hid (B2.out.trans (hbb.mono B2.out.size))
  have A3 := Lib.hid (A2.out.below hbb)
  have Y3 := Lib.hid (Y2.out.below hbb)
  have Z3 := Lib.hid (Z2.out.below hbb)
  have V1_3 := Lib.hid (V1_2.out.below hbb)
  have V2_3 := Lib.hid (N2.out.below hbb)
  clear hbb hb3
  go_wp2_with fail
  refine (J2.out _ A3.out Y3.out Z3.out).mono ?_
  rintro e w4 ⟨v4, rfl, hb4, hown⟩
  have hbb : Below w3.heap.size w3 w4 := ((Below.refl w3.heap.size w3).alloc (Nat.le_refl _) _).trans (hb4.mono ((Below.refl w3.heap.size w3).alloc (Nat.le_refl _) _).size)
  obtain ⟨a4, c4, rfl, o1, o2⟩ := ownsSt_form hown
  have hrd := owns_rdsP rfl hown
  obtain ⟨n4, hn4⟩ : ∃ n4 : Nat, n4 = (m).length := ⟨_, rfl⟩
  first | rw [← hn4] at hrd ⊢ | (change RdsP _ (.slice _ (m).length _) _ at hrd; rw [← hn4] at hrd; rw [show (joinTo ([], true) [a, b].flatten).1.length = n4 from hn4.symm])
  have N4 := Lib.hid hrd
  clear hown hrd o1 o2 hn4
  have B4 := Lib.hid (B3.out.trans (hbb.mono B3.out.size))
  have A4 := Lib.hid (A3.out.below hbb)
  have Y4 := Lib.hid (Y3.out.below hbb)
  have Z4 := Lib.hid (Z3.out.below hbb)
  have V1_4 := Lib.hid (V1_3.out.below hbb)
  have V2_4 := Lib.hid (V2_3.out.below hbb)
  have V3_4 := Lib.hid (N3.out.below hbb)
  clear hbb hb4
  go_wp2_with fail
  refine (J3.out _ A4.out Y4.out).mono ?_
  rintro e w5 ⟨v5, rfl, hb5, hown⟩
  have hbb : Below w4.heap.size w4 w5 := ((Below.refl w4.heap.size w4).alloc (Nat.le_refl _) _).trans (hb5.mono ((Below.refl w4.heap.size w4).alloc (Nat.le_refl _) _).size)
  obtain ⟨a5, c5, rfl, o1, o2⟩ := ownsSt_form hown
  have hrd := owns_rdsP rfl hown
  obtain ⟨n5, hn5⟩ : ∃ n5 : Nat, n5 = (jn a b).length := ⟨_, rfl⟩
  first | rw [← hn5] at hrd ⊢ | (change RdsP _ (.slice _ (jn a b).length _) _ at hrd; rw [← hn5] at hrd; rw [show (joinTo ([], true) [a, b].flatten).1.length = n5 from hn5.symm])
  have N5 := Lib.hid hrd
  clear hown hrd o1 o2 hn5
  have B5 := Lib.hid (B4.out.trans (hbb.mono B4.out.size))
  have A5 := Lib.hid (A4.out.below hbb)
  have Y5 := Lib.hid (Y4.out.below hbb)
  have Z5 := Lib.hid (Z4.out.below hbb)
  have V1_5 := Lib.hid (V1_4.out.below hbb)
  have V2_5 := Lib.hid (V2_4.out.below hbb)
  have V3_5 := Lib.hid (V3_4.out.below hbb)
  have V4_5 := Lib.hid (N4.out.below hbb)
  clear hbb hb5
  go_wp2_with fail
  refine (J4.out _ _ N5.out Z5.out).mono ?_
  rintro e w6 ⟨v6, rfl, hb6, hown⟩
  have hbb : Below w5.heap.size w5 w6 := ((Below.refl w5.heap.size w5).alloc (Nat.le_refl _) _).trans (hb6.mono ((Below.refl w5.heap.size w5).alloc (Nat.le_refl _) _).size)
  obtain ⟨a6, c6, rfl, o1, o2⟩ := ownsSt_form hown
  have hrd := owns_rdsP rfl hown
  obtain ⟨n6, hn6⟩ : ∃ n6 : Nat, n6 = (m).length := ⟨_, rfl⟩
  first | rw [← hn6] at hrd ⊢ | (change RdsP _ (.slice _ (m).length _) _ at hrd; rw [← hn6] at hrd; rw [show (joinTo ([], true) [a, b].flatten).1.length = n6 from hn6.symm])
  have N6 := Lib.hid hrd
  clear hown hrd o1 o2 hn6
  have B6 := Lib.hid (B5.out.trans (hbb.mono B5.out.size))
  have A6 := Lib.hid (A5.out.below hbb)
  have Y6 := Lib.hid (Y5.out.below hbb)
  have Z6 := Lib.hid (Z5.out.below hbb)
  have V1_6 := Lib.hid (V1_5.out.below hbb)
  have V2_6 := Lib.hid (V2_5.out.below hbb)
  have V3_6 := Lib.hid (V3_5.out.below hbb)
  have V4_6 := Lib.hid (V4_5.out.below hbb)
  have V5_6 := Lib.hid (N5.out.below hbb)
  clear hbb hb6
  go_wp2_with fail
  refine (SameR_any _ _ _ _ _ V1_6.out V2_6.out true (by simp)).mono ?_
  rintro e u1 ⟨rfl, k1, rfl⟩
  go_wp2_with fail
  refine (SameR_any _ _ _ _ _ (rdsP_drewN V3_6.out _) (rdsP_drewN V4_6.out _) true (by simp)).mono ?_
  rintro e u2 ⟨rfl, k2, rfl⟩
  go_wp2_with fail
  refine (SameR_any _ _ _ _ _ (rdsP_drewN N6.out _) (rdsP_drewN V3_6.out _) true (by simp)).mono ?_
  rintro e u3 ⟨rfl, k3, rfl⟩
  go_wp2_with fail
  go_ret
  exact ⟨rfl, below_dN B6.out _⟩

set_option maxHeartbeats 6000000 in
set_option maxRecDepth 20000 in
theorem Algebra_agreed (x y z : Value) (a b c : List Stp) (w : World) (ha : RdsP w x a) (hb : RdsP w y b) (hc : RdsP w z c) (h3 : [a, b, c].all chk = true) (hag : (joinTo ([], true) [a, b, c].flatten).2 = true) :
    Calls Tryd.prog 4 #[x, y, z] w fun e w' => e = .returned (.bool true) ∧ Below w.heap.size w w' := by
  have hch : chk a = true ∧ chk b = true ∧ chk c = true := by
    simp only [List.all_cons, List.all_nil, Bool.and_true, Bool.and_eq_true] at h3
    exact h3
  obtain ⟨hca, hcb, hcc⟩ := hch
  have h4 : [c, b, a, b].all chk = true := by simp [hca, hcb, hcc]
  have h5 : [c, a, b, a].all chk = true := by simp [hca, hcb, hcc]
  have h6 : [a, b].all chk = true := by simp [hca, hcb]
  have h7 : [jn a b, c].all chk = true := by simp [chk_jn hca hcb, hcc]
  obtain ⟨m, hm⟩ : ∃ m, m = (joinTo ([], true) [a, b, c].flatten).1 := ⟨_, rfl⟩
  have hp : joinTo ([], true) [a, b, c].flatten = (m, true) := Prod.ext hm.symm hag
  have M1 := Lib.hid (fun W (h1 : RdsP W x a) (h2 : RdsP W y b) (h3' : RdsP W z c) => Merge_good _ _ _ (rdsL_three 24 h1 h2 h3') h3 _ hp)
  have M2 := Lib.hid (fun W (h1 : RdsP W x a) (h2 : RdsP W y b) (h3' : RdsP W z c) => Merge_good _ _ _ (rdsL_four 24 h3' h2 h1 h2) h4 _ ((joined_perm a b c).trans hp))
  have J1 := Lib.hid (fun W (h1 : RdsP W x a) (h2 : RdsP W y b) (h3' : RdsP W z c) => Join_good _ _ _ (rdsL_three 24 h1 h2 h3') h3 _ hp)
  have J2 := Lib.hid (fun W (h1 : RdsP W x a) (h2 : RdsP W y b) (h3' : RdsP W z c) => Join_good _ _ _ (rdsL_four 24 h3' h1 h2 h1) h5 _ ((joined_perm2 a b c).trans hp))
  have J3 := Lib.hid (fun W (h1 : RdsP W x a) (h2 : RdsP W y b) => Join_good _ _ _ (rdsL_two 24 h1 h2) h6 _ rfl)
  obtain ⟨g, hg⟩ : ∃ g, g = (joinTo ([], true) [jn a b, c].flatten).2 := ⟨_, rfl⟩
  have hq : joinTo ([], true) [jn a b, c].flatten = (m, g) := Prod.ext ((joined_brackets a b c).trans hm.symm) hg.symm
  have J4 := Lib.hid (fun W u (h1 : RdsP W u (jn a b)) (h2 : RdsP W z c) => Join_good _ _ _ (rdsL_two 24 h1 h2) h7 _ hq)
  have hag2 := agree_two hag
  have hag3 : g = true := hg.trans (agree_brackets hag)
  subst hag3
  have M3 := Lib.hid (fun W (h1 : RdsP W x a) (h2 : RdsP W y b) => Merge_good _ _ _ (rdsL_two 24 h1 h2) h6 (jn a b, true) (Prod.ext rfl hag2))
  have M4 := Lib.hid (fun W u (h1 : RdsP W u (jn a b)) (h2 : RdsP W z c) => Merge_good _ _ _ (rdsL_two 24 h1 h2) h7 _ hq)
  clear hag2
  have HA := Lib.hid ha
  have HB := Lib.hid hb
  have HC := Lib.hid hc
  obtain ⟨xa, xn, xc, rfl, hx⟩ := ha
  obtain ⟨ya, yn, yc, rfl, hy⟩ := hb
  obtain ⟨za, zn, zc, rfl, hz⟩ := hc
  clear hx hy hz h3 h4 h5 h6 h7 hag hp hq hm hg hca hcb hcc
  go_enter Tryd.func4, Tryd.ntmps4
  go_wp2_with fail
  refine (awake_any _).mono ?_
  rintro e w0 ⟨rfl, hb0⟩
  have B0 := Lib.hid hb0
  have A0 := Lib.hid (HA.out.below hb0)
  have Y0 := Lib.hid (HB.out.below hb0)
  have Z0 := Lib.hid (HC.out.below hb0)
  clear hb0
  go_wp2_with fail
  refine (M1.out _ A0.out Y0.out Z0.out).mono ?_
  rintro e w1 ⟨v1, rfl, hb1, hown, hnil⟩
  have hbb : Below w0.heap.size w0 w1 := ((Below.refl w0.heap.size w0).alloc (Nat.le_refl _) _).trans (hb1.mono ((Below.refl w0.heap.size w0).alloc (Nat.le_refl _) _).size)
  have hown := by first | exact hown rfl | exact hown trivial | simpa using hown
  obtain ⟨a1, c1, rfl, o1, o2⟩ := ownsSt_form hown
  have hrd := owns_rdsP rfl hown
  obtain ⟨n1, hn1⟩ : ∃ n1 : Nat, n1 = (m).length := ⟨_, rfl⟩
  first | rw [← hn1] at hrd ⊢ | (change RdsP _ (.slice _ (m).length _) _ at hrd; rw [← hn1] at hrd; rw [show (joinTo ([], true) [a, b].flatten).1.length = n1 from hn1.symm])
  have N1 := Lib.hid hrd
  clear hown hrd o1 o2 hn1 hnil
  have B1 := Lib.hid (B0.out.trans (hbb.mono B0.out.size))
  have A1 := Lib.hid (A0.out.below hbb)
  have Y1 := Lib.hid (Y0.out.below hbb)
  have Z1 := Lib.hid (Z0.out.below hbb)
  clear hbb hb1
  go_wp2_with fail
  refine (M2.out _ A1.out Y1.out Z1.out).mono ?_
  rintro e w2 ⟨v2, rfl, hb2, hown, hnil⟩
  have hbb : Below w1.heap.size w1 w2 := ((Below.refl w1.heap.size w1).alloc (Nat.le_refl _) _).trans (hb2.mono ((Below.refl w1.heap.size w1).alloc (Nat.le_refl _) _).size)
  have hown := by first | exact hown rfl | exact hown trivial | simpa using hown
  obtain ⟨a2, c2, rfl, o1, o2⟩ := ownsSt_form hown
  have hrd := owns_rdsP rfl hown
  obtain ⟨n2, hn2⟩ : ∃ n2 : Nat, n2 = (m).length := ⟨_, rfl⟩
  first | rw [← hn2] at hrd ⊢ | (change RdsP _ (.slice _ (m).length _) _ at hrd; rw [← hn2] at hrd; rw [show (joinTo ([], true) [a, b].flatten).1.length = n2 from hn2.symm])
  have N2 := Lib.hid hrd
  clear hown hrd o1 o2 hn2 hnil
  have B2 := Lib.hid (B1.out.trans (hbb.mono B1.out.size))
  have A2 := Lib.hid (A1.out.below hbb)
  have Y2 := Lib.hid (Y1.out.below hbb)
  have Z2 := Lib.hid (Z1.out.below hbb)
  have V1_2 := Lib.hid (N1.out.below hbb)
  clear hbb hb2
  go_wp2_with fail
  refine (J1.out _ A2.out Y2.out Z2.out).mono ?_
  rintro e w3 ⟨v3, rfl, hb3, hown⟩
  have hbb : Below w2.heap.size w2 w3 := ((Below.refl w2.heap.size w2).alloc (Nat.le_refl _) _).trans (hb3.mono ((Below.refl w2.heap.size w2).alloc (Nat.le_refl _) _).size)
  obtain ⟨a3, c3, rfl, o1, o2⟩ := ownsSt_form hown
  have hrd := owns_rdsP rfl hown
  obtain ⟨n3, hn3⟩ : ∃ n3 : Nat, n3 = (m).length := ⟨_, rfl⟩
  first | rw [← hn3] at hrd ⊢ | (change RdsP _ (.slice _ (m).length _) _ at hrd; rw [← hn3] at hrd; rw [show (joinTo ([], true) [a, b].flatten).1.length = n3 from hn3.symm])
  have N3 := Lib.hid hrd
  clear hown hrd o1 o2 hn3
  have B3 := Lib.hid (B2.out.trans (hbb.mono B2.out.size))
  have A3 := Lib.hid (A2.out.below hbb)
  have Y3 := Lib.hid (Y2.out.below hbb)
  have Z3 := Lib.hid (Z2.out.below hbb)
  have V1_3 := Lib.hid (V1_2.out.below hbb)
  have V2_3 := Lib.hid (N2.out.below hbb)
  clear hbb hb3
  go_wp2_with fail
  refine (J2.out _ A3.out Y3.out Z3.out).mono ?_
  rintro e w4 ⟨v4, rfl, hb4, hown⟩
  have hbb : Below w3.heap.size w3 w4 := ((Below.refl w3.heap.size w3).alloc (Nat.le_refl _) _).trans (hb4.mono ((Below.refl w3.heap.size w3).alloc (Nat.le_refl _) _).size)
  obtain ⟨a4, c4, rfl, o1, o2⟩ := ownsSt_form hown
  have hrd := owns_rdsP rfl hown
  obtain ⟨n4, hn4⟩ : ∃ n4 : Nat, n4 = (m).length := ⟨_, rfl⟩
  first | rw [← hn4] at hrd ⊢ | (change RdsP _ (.slice _ (m).length _) _ at hrd; rw [← hn4] at hrd; rw [show (joinTo ([], true) [a, b].flatten).1.length = n4 from hn4.symm])
  have N4 := Lib.hid hrd
  clear hown hrd o1 o2 hn4
  have B4 := Lib.hid (B3.out.trans (hbb.mono B3.out.size))
  have A4 := Lib.hid (A3.out.below hbb)
  have Y4 := Lib.hid (Y3.out.below hbb)
  have Z4 := Lib.hid (Z3.out.below hbb)
  have V1_4 := Lib.hid (V1_3.out.below hbb)
  have V2_4 := Lib.hid (V2_3.out.below hbb)
  have V3_4 := Lib.hid (N3.out.below hbb)
  clear hbb hb4
  go_wp2_with fail
  refine (J3.out _ A4.out Y4.out).mono ?_
  rintro e w5 ⟨v5, rfl, hb5, hown⟩
  have hbb : Below w4.heap.size w4 w5 := ((Below.refl w4.heap.size w4).alloc (Nat.le_refl _) _).trans (hb5.mono ((Below.refl w4.heap.size w4).alloc (Nat.le_refl _) _).size)
  obtain ⟨a5, c5, rfl, o1, o2⟩ := ownsSt_form hown
  have hrd := owns_rdsP rfl hown
  obtain ⟨n5, hn5⟩ : ∃ n5 : Nat, n5 = (jn a b).length := ⟨_, rfl⟩
  first | rw [← hn5] at hrd ⊢ | (change RdsP _ (.slice _ (jn a b).length _) _ at hrd; rw [← hn5] at hrd; rw [show (joinTo ([], true) [a, b].flatten).1.length = n5 from hn5.symm])
  have N5 := Lib.hid hrd
  clear hown hrd o1 o2 hn5
  have B5 := Lib.hid (B4.out.trans (hbb.mono B4.out.size))
  have A5 := Lib.hid (A4.out.below hbb)
  have Y5 := Lib.hid (Y4.out.below hbb)
  have Z5 := Lib.hid (Z4.out.below hbb)
  have V1_5 := Lib.hid (V1_4.out.below hbb)
  have V2_5 := Lib.hid (V2_4.out.below hbb)
  have V3_5 := Lib.hid (V3_4.out.below hbb)
  have V4_5 := Lib.hid (N4.out.below hbb)
  clear hbb hb5
  go_wp2_with fail
  refine (J4.out _ _ N5.out Z5.out).mono ?_
  rintro e w6 ⟨v6, rfl, hb6, hown⟩
  have hbb : Below w5.heap.size w5 w6 := ((Below.refl w5.heap.size w5).alloc (Nat.le_refl _) _).trans (hb6.mono ((Below.refl w5.heap.size w5).alloc (Nat.le_refl _) _).size)
  obtain ⟨a6, c6, rfl, o1, o2⟩ := ownsSt_form hown
  have hrd := owns_rdsP rfl hown
  obtain ⟨n6, hn6⟩ : ∃ n6 : Nat, n6 = (m).length := ⟨_, rfl⟩
  first | rw [← hn6] at hrd ⊢ | (change RdsP _ (.slice _ (m).length _) _ at hrd; rw [← hn6] at hrd; rw [show (joinTo ([], true) [a, b].flatten).1.length = n6 from hn6.symm])
  have N6 := Lib.hid hrd
  clear hown hrd o1 o2 hn6
  have B6 := Lib.hid (B5.out.trans (hbb.mono B5.out.size))
  have A6 := Lib.hid (A5.out.below hbb)
  have Y6 := Lib.hid (Y5.out.below hbb)
  have Z6 := Lib.hid (Z5.out.below hbb)
  have V1_6 := Lib.hid (V1_5.out.below hbb)
  have V2_6 := Lib.hid (V2_5.out.below hbb)
  have V3_6 := Lib.hid (V3_5.out.below hbb)
  have V4_6 := Lib.hid (V4_5.out.below hbb)
  have V5_6 := Lib.hid (N5.out.below hbb)
  clear hbb hb6
  go_wp2_with fail
  refine (SameR_any _ _ _ _ _ V1_6.out V2_6.out true (by simp)).mono ?_
  rintro e u1 ⟨rfl, k1, rfl⟩
  go_wp2_with fail
  refine (SameR_any _ _ _ _ _ (rdsP_drewN V3_6.out _) (rdsP_drewN V4_6.out _) true (by simp)).mono ?_
  rintro e u2 ⟨rfl, k2, rfl⟩
  go_wp2_with fail
  refine (SameR_any _ _ _ _ _ (rdsP_drewN N6.out _) (rdsP_drewN V3_6.out _) true (by simp)).mono ?_
  rintro e u3 ⟨rfl, k3, rfl⟩
  go_wp2_with fail
  have B7 : Hid (Below w.heap.size w (w6.drewN (k1 + k2 + k3))) := below_dN B6.out _
  have A7 := Lib.hid (rdsP_drewN A6.out (k1 + k2 + k3))
  have Y7 := Lib.hid (rdsP_drewN Y6.out (k1 + k2 + k3))
  have Z7 := Lib.hid (rdsP_drewN Z6.out (k1 + k2 + k3))
  have V1_7 := Lib.hid (rdsP_drewN V1_6.out (k1 + k2 + k3))
  have V2_7 := Lib.hid (rdsP_drewN V2_6.out (k1 + k2 + k3))
  have V3_7 := Lib.hid (rdsP_drewN V3_6.out (k1 + k2 + k3))
  have V4_7 := Lib.hid (rdsP_drewN V4_6.out (k1 + k2 + k3))
  have V5_7 := Lib.hid (rdsP_drewN V5_6.out (k1 + k2 + k3))
  have V6_7 := Lib.hid (rdsP_drewN N6.out (k1 + k2 + k3))
  refine (M3.out (w6.drewN (k1 + k2 + k3)) A7.out Y7.out).mono ?_
  rintro e w8 ⟨v8, rfl, hb8, hown, hnil⟩
  have hbb : Below (w6.drewN (k1 + k2 + k3)).heap.size (w6.drewN (k1 + k2 + k3)) w8 := ((Below.refl (w6.drewN (k1 + k2 + k3)).heap.size (w6.drewN (k1 + k2 + k3))).alloc (Nat.le_refl _) _).trans (hb8.mono ((Below.refl (w6.drewN (k1 + k2 + k3)).heap.size (w6.drewN (k1 + k2 + k3))).alloc (Nat.le_refl _) _).size)
  have hown := by first | exact hown rfl | exact hown trivial | simpa using hown
  obtain ⟨a8, c8, rfl, o1, o2⟩ := ownsSt_form hown
  have hrd := owns_rdsP rfl hown
  obtain ⟨n8, hn8⟩ : ∃ n8 : Nat, n8 = (jn a b).length := ⟨_, rfl⟩
  first | rw [← hn8] at hrd ⊢ | (change RdsP _ (.slice _ (jn a b).length _) _ at hrd; rw [← hn8] at hrd; rw [show (joinTo ([], true) [a, b].flatten).1.length = n8 from hn8.symm])
  have N8 := Lib.hid hrd
  clear hown hrd o1 o2 hn8 hnil
  have B8 := Lib.hid (B7.out.trans (hbb.mono B7.out.size))
  have A8 := Lib.hid (A7.out.below hbb)
  have Y8 := Lib.hid (Y7.out.below hbb)
  have Z8 := Lib.hid (Z7.out.below hbb)
  have V1_8 := Lib.hid (V1_7.out.below hbb)
  have V2_8 := Lib.hid (V2_7.out.below hbb)
  have V3_8 := Lib.hid (V3_7.out.below hbb)
  have V4_8 := Lib.hid (V4_7.out.below hbb)
  have V5_8 := Lib.hid (V5_7.out.below hbb)
  have V6_8 := Lib.hid (V6_7.out.below hbb)
  clear hbb hb8
  go_wp2_with fail
  refine (M4.out _ _ N8.out Z8.out).mono ?_
  rintro e w9 ⟨v9, rfl, hb9, hown, hnil⟩
  have hbb : Below w8.heap.size w8 w9 := ((Below.refl w8.heap.size w8).alloc (Nat.le_refl _) _).trans (hb9.mono ((Below.refl w8.heap.size w8).alloc (Nat.le_refl _) _).size)
  have hown := by first | exact hown rfl | exact hown trivial | simpa using hown
  obtain ⟨a9, c9, rfl, o1, o2⟩ := ownsSt_form hown
  have hrd := owns_rdsP rfl hown
  obtain ⟨n9, hn9⟩ : ∃ n9 : Nat, n9 = (m).length := ⟨_, rfl⟩
  first | rw [← hn9] at hrd ⊢ | (change RdsP _ (.slice _ (m).length _) _ at hrd; rw [← hn9] at hrd; rw [show (joinTo ([], true) [a, b].flatten).1.length = n9 from hn9.symm])
  have N9 := Lib.hid hrd
  clear hown hrd o1 o2 hn9 hnil
  have B9 := Lib.hid (B8.out.trans (hbb.mono B8.out.size))
  have A9 := Lib.hid (A8.out.below hbb)
  have Y9 := Lib.hid (Y8.out.below hbb)
  have Z9 := Lib.hid (Z8.out.below hbb)
  have V1_9 := Lib.hid (V1_8.out.below hbb)
  have V2_9 := Lib.hid (V2_8.out.below hbb)
  have V3_9 := Lib.hid (V3_8.out.below hbb)
  have V4_9 := Lib.hid (V4_8.out.below hbb)
  have V5_9 := Lib.hid (V5_8.out.below hbb)
  have V6_9 := Lib.hid (V6_8.out.below hbb)
  have V7_9 := Lib.hid (N8.out.below hbb)
  clear hbb hb9
  go_wp2_with fail
  refine (SameR_any _ _ _ _ _ N9.out V1_9.out true (by simp)).mono ?_
  rintro e u4 ⟨rfl, k4, rfl⟩
  go_wp2_with fail
  refine (SameR_any _ _ _ _ _ (rdsP_drewN V1_9.out _) (rdsP_drewN V3_9.out _) true (by simp)).mono ?_
  rintro e u5 ⟨rfl, k5, rfl⟩
  go_wp2_with fail
  go_ret
  exact ⟨rfl, below_dN B9.out _⟩

theorem VectorAlgebra_walk (x y z : Value) (a b c : List Stp) (w : World) (ha : RdsP w x a) (hb : RdsP w y b) (hc : RdsP w z c) :
    Calls Tryd.prog 4 #[x, y, z] w fun e w' => e = .returned (.bool true) ∧ Below w.heap.size w w' := by
  cases h3 : [a, b, c].all chk with
  | false => exact Algebra_bad x y z a b c w ha hb hc h3
  | true =>
    cases hag : (joinTo ([], true) [a, b, c].flatten).2 with
    | false => exact Algebra_parted x y z a b c w ha hb hc h3 hag
    | true => exact Algebra_agreed x y z a b c w ha hb hc h3 hag
end Go.Proofs.YtlmpaeefhpahoaaDoor
