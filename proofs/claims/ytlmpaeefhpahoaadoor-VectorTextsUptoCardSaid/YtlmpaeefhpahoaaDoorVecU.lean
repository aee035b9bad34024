/-
  The law VectorLeast, walked.
-/
import Derived.BigQuiet
import Derived.Test.YtlmpaeefhpahoaaDoorVecT
namespace Go.Proofs.YtlmpaeefhpahoaaDoor
open Go.RowKit

set_option maxHeartbeats 4000000 in
set_option maxRecDepth 20000 in
theorem VectorLeast_walk (x y z : Value) (a b c : List Stp) (w : World) (ha : RdsP w x a) (hb : RdsP w y b) (hc : RdsP w z c) :
    Calls Tryd.prog 6 #[x, y, z] w fun e w' => e = .returned (.bool true) ∧ Below w.heap.size w w' := by
  obtain ⟨p1, q1, e1, f1, g1, k1⟩ := belowV_parts a c
  obtain ⟨p2, q2, e2, f2, g2, k2⟩ := belowV_parts b c
  have H1 := Lib.hid (fun W (h1 : RdsP W x a) (h2 : RdsP W z c) => Below_any x z a c W h1 h2)
  have H2 := Lib.hid (fun W (h1 : RdsP W y b) (h2 : RdsP W z c) => Below_any y z b c W h1 h2)
  rw [e1] at H1
  rw [e2] at H2
  have H7 : Hid ([a, b, c].all chk = false → ∀ W, RdsP W x a → RdsP W y b → RdsP W z c → Calls Tryd.prog 17 #[.slice (some ⟨W.heap.size, 0, none⟩) 3 3] (W.alloc (.cells #[x, y, z] 24)) fun e w' => e = .returned (.int .i64 160) ∧ ∃ k, w' = (W.alloc (.cells #[x, y, z] 24)).drewN k) := by
    intro hq W h1 h2 h3
    exact CheckR_any _ _ _ (rdsL_three _ h1 h2 h3) 160 (by rw [hq]; rfl)
  have HA := Lib.hid ha
  have HB := Lib.hid hb
  have HC := Lib.hid hc
  cases hab : [a, b].all chk with
  | false =>
    have hall : Hid ([a, b, c].all chk = false) := by
      show _ = _
      rw [Bool.eq_false_iff] at hab ⊢
      intro h
      apply hab
      simp only [List.all_cons, List.all_nil, Bool.and_true, Bool.and_eq_true] at h ⊢
      exact ⟨h.1, h.2.1⟩
    have HJ := Lib.hid (fun W (h1 : RdsP W x a) (h2 : RdsP W y b) => Join_bad _ _ _ (rdsL_two 24 h1 h2) hab)
    obtain ⟨xa, xn, xc, rfl, hx⟩ := ha
    obtain ⟨ya, yn, yc, rfl, hy⟩ := hb
    obtain ⟨za, zn, zc, rfl, hz⟩ := hc
    clear hx hy hz e1 e2 f1 f2 g1 g2 k1 k2 hab
    go_enter Tryd.func6, Tryd.ntmps6
    go_wp2_with fail
    refine (awake_any _).mono ?_
    rintro e w0 ⟨rfl, hb0⟩
    have B0 := Lib.hid hb0
    clear hb0
    go_wp2_with fail
    refine (HJ.out _ (HA.out.below B0.out) (HB.out.below B0.out)).mono ?_
    rintro e w1 ⟨rfl, hb1⟩
    have B1 := Lib.hid ((B0.out.alloc B0.out.size _).trans (hb1.mono (B0.out.alloc B0.out.size _).size))
    clear hb1
    go_wp2_with fail
    refine (H1.out _ (HA.out.below B1.out) (HC.out.below B1.out)).mono ?_
    rintro e w2 ⟨rfl, hb2⟩
    have B2 := Lib.hid (B1.out.trans (hb2.mono B1.out.size))
    clear hb2
    go_wp2_with fail
    refine (H2.out _ (HB.out.below B2.out) (HC.out.below B2.out)).mono ?_
    rintro e w3 ⟨rfl, hb3⟩
    have B3 := Lib.hid (B2.out.trans (hb3.mono B2.out.size))
    clear hb3
    go_wp2_with fail
    refine (H7.out hall.out _ (HA.out.below B3.out) (HB.out.below B3.out) (HC.out.below B3.out)).mono ?_
    rintro e w6 ⟨rfl, k6, rfl⟩
    go_wp2_with fail
    go_ret
    exact ⟨rfl, below_dN (B3.out.alloc B3.out.size _) k6⟩
  | true =>
    have hca : chk a = true := by simp only [List.all_cons, List.all_nil, Bool.and_true, Bool.and_eq_true] at hab; exact hab.1
    have hcb : chk b = true := by simp only [List.all_cons, List.all_nil, Bool.and_true, Bool.and_eq_true] at hab; exact hab.2
    have HJ := Lib.hid (fun W (h1 : RdsP W x a) (h2 : RdsP W y b) => Join_good _ _ _ (rdsL_two 24 h1 h2) hab _ rfl)
    have D : Hid ((q1 = 160 ∧ [a, b, c].all chk = false) ∨ (q1 = 0 ∧ q2 = 0 ∧ p1 = belowB a c ∧ p2 = belowB b c ∧ chk c = true)) := by
      rcases f1 with hq | hq
      · have hcc := (g1.1 hq).2
        have hq2 := g2.2 ⟨hcb, hcc⟩
        exact .inr ⟨hq, hq2, k1 hq, k2 hq2, hcc⟩
      · refine .inl ⟨hq, ?_⟩
        rw [Bool.eq_false_iff]
        intro h
        simp only [List.all_cons, List.all_nil, Bool.and_true, Bool.and_eq_true] at h
        have := g1.2 ⟨h.1, h.2.2⟩
        omega
    have HV1 : Hid (belowV a (jn a b) = .tuple #[.bool true, .int .i64 0]) := by
      show _ = _
      unfold belowV
      rw [below_jn_left hca hcb]
      simp [hca, chk_jn hca hcb]
    have HV2 : Hid (belowV b (jn a b) = .tuple #[.bool true, .int .i64 0]) := by
      show _ = _
      unfold belowV
      rw [below_jn_right hca hcb]
      simp [hcb, chk_jn hca hcb]
    have HV3 : Hid (chk c = true → belowV (jn a b) c = .tuple #[.bool (belowB a c && belowB b c), .int .i64 0]) := by
      intro hcc
      unfold belowV
      rw [jn_below hca hcb (chk_srt hcc)]
      simp [hcc, chk_jn hca hcb]
    obtain ⟨xa, xn, xc, rfl, hx⟩ := ha
    obtain ⟨ya, yn, yc, rfl, hy⟩ := hb
    obtain ⟨za, zn, zc, rfl, hz⟩ := hc
    clear hx hy hz e1 e2 f1 f2 g1 g2 k1 k2 hab hca hcb
    go_enter Tryd.func6, Tryd.ntmps6
    go_wp2_with fail
    refine (awake_any _).mono ?_
    rintro e w0 ⟨rfl, hb0⟩
    have B0 := Lib.hid hb0
    clear hb0
    go_wp2_with fail
    refine (HJ.out _ (HA.out.below B0.out) (HB.out.below B0.out)).mono ?_
    rintro e w1 ⟨v', rfl, hb1, hown⟩
    obtain ⟨ja, jc, rfl, h3, h4⟩ := ownsSt_form hown
    have HJn : Hid (RdsP w1 (.slice ja (jn a b).length jc) (jn a b)) := owns_rdsP rfl hown
    have B1 := Lib.hid ((B0.out.alloc B0.out.size _).trans (hb1.mono (B0.out.alloc B0.out.size _).size))
    obtain ⟨jl, hjl⟩ : ∃ jl, (jn a b).length = jl := ⟨_, rfl⟩
    have hjl' : (joinTo ([], true) [a, b].flatten).1.length = jl := hjl
    rw [hjl] at HJn
    rw [hjl']
    clear hb1 hown h3 h4 hjl hjl'
    go_wp2_with fail
    refine (H1.out _ (HA.out.below B1.out) (HC.out.below B1.out)).mono ?_
    rintro e w2 ⟨rfl, hb2⟩
    have B2 := Lib.hid (B1.out.trans (hb2.mono B1.out.size))
    have HJ2 := Lib.hid (HJn.out.below hb2)
    clear hb2
    go_wp2_with fail
    refine (H2.out _ (HB.out.below B2.out) (HC.out.below B2.out)).mono ?_
    rintro e w3 ⟨rfl, hb3⟩
    have B3 := Lib.hid (B2.out.trans (hb3.mono B2.out.size))
    have HJ3 := Lib.hid (HJ2.out.below hb3)
    clear hb3
    rcases D.out with ⟨rfl, hall⟩ | ⟨rfl, rfl, hp1, hp2, hcc⟩
    · have hall := Lib.hid hall
      rename_i hall0
      clear hall0
      go_wp2_with fail
      refine (H7.out hall.out _ (HA.out.below B3.out) (HB.out.below B3.out) (HC.out.below B3.out)).mono ?_
      rintro e w6 ⟨rfl, k6, rfl⟩
      go_wp2_with fail
      go_ret
      exact ⟨rfl, below_dN (B3.out.alloc B3.out.size _) k6⟩
    · have K1 := Below_any _ _ a (jn a b) w3 (HA.out.below B3.out) HJ3.out
      rw [HV1.out] at K1
      have K1 := Lib.hid K1
      have K2 := Lib.hid (fun W h1 h2 => Below_any (.slice ya yn yc) (.slice ja jl jc) b (jn a b) W h1 h2)
      rw [HV2.out] at K2
      have K3 := Lib.hid (fun W h1 h2 => Below_any (.slice ja jl jc) (.slice za zn zc) (jn a b) c W h1 h2)
      rw [HV3.out hcc, ← hp1, ← hp2] at K3
      rename_i K1'
      clear K1' hp1 hp2 hcc
      go_wp2_with fail
      refine K1.out.mono ?_
      rintro e w4 ⟨rfl, hb4⟩
      have B4 := Lib.hid (B3.out.trans (hb4.mono B3.out.size))
      have HJ4 := Lib.hid (HJ3.out.below hb4)
      clear hb4
      go_wp2_with fail
      refine (K2.out _ (HB.out.below B4.out) HJ4.out).mono ?_
      rintro e w5 ⟨rfl, hb5⟩
      have B5 := Lib.hid (B4.out.trans (hb5.mono B4.out.size))
      have HJ5 := Lib.hid (HJ4.out.below hb5)
      clear hb5
      go_wp2_with fail
      refine (K3.out _ HJ5.out (HC.out.below B5.out)).mono ?_
      rintro e w6 ⟨rfl, hb6⟩
      have B6 := Lib.hid (B5.out.trans (hb6.mono B5.out.size))
      clear hb6
      cases p1 <;> cases p2
      all_goals (go_wp2_with fail)
      all_goals go_ret
      all_goals exact ⟨rfl, B6.out⟩
end Go.Proofs.YtlmpaeefhpahoaaDoor
