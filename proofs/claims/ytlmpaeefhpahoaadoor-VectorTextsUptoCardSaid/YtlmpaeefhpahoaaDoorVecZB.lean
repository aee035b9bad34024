/-
  The law VectorMerges, walked.
-/
import Derived.BigQuiet
import Derived.Test.YtlmpaeefhpahoaaDoorVecZA
namespace Go.Proofs.YtlmpaeefhpahoaaDoor
open Go.RowKit

/-- What Merge, Join and Check answer, the code's and the reference's. -/
theorem merges_uni (L : List (List Stp)) : ∃ (X Y : List Stp) (b : Bool) (q : Int),
    (∀ v W, RdsL W v L → Calls Tryd.prog 11 #[v] W fun e w' => ∃ oa om oc, e = .returned (.tuple #[.slice oa om oc, .bool b, .int .i64 q]) ∧ RdsP w' (.slice oa om oc) X ∧ Below W.heap.size W w') ∧
    (∀ v W, RdsL W v L → Calls Tryd.prog 12 #[v] W fun e w' => ∃ oa om oc, e = .returned (.tuple #[.slice oa om oc, .bool b, .int .i64 q]) ∧ RdsP w' (.slice oa om oc) X ∧ Below W.heap.size W w') ∧
    (∀ v W, RdsL W v L → Calls Tryd.prog 13 #[v] W fun e w' => ∃ oa om oc, e = .returned (.tuple #[.slice oa om oc, .int .i64 q]) ∧ RdsP w' (.slice oa om oc) Y ∧ Below W.heap.size W w') ∧
    (∀ v W, RdsL W v L → Calls Tryd.prog 14 #[v] W fun e w' => ∃ oa om oc, e = .returned (.tuple #[.slice oa om oc, .int .i64 q]) ∧ RdsP w' (.slice oa om oc) Y ∧ Below W.heap.size W w') ∧
    (∀ v W, RdsL W v L → Calls Tryd.prog 16 #[v] W fun e w' => e = .returned (.int .i64 q) ∧ Below W.heap.size W w') ∧
    (∀ v W, RdsL W v L → Calls Tryd.prog 17 #[v] W fun e w' => e = .returned (.int .i64 q) ∧ ∃ k, w' = W.drewN k) := by
  cases hc : L.all chk with
  | false =>
    refine ⟨[], [], false, 160, fun v W h => ?_, fun v W h => ?_, fun v W h => ?_, fun v W h => ?_, fun v W h => Check_any v L W h 160 (by rw [hc]; rfl), fun v W h => CheckR_any v L W h 160 (by rw [hc]; rfl)⟩
    · refine (Merge_bad v L W h hc).mono ?_
      rintro e w' ⟨rfl, hb⟩
      exact ⟨_, _, _, rfl, rdsP_nil _, hb⟩
    · refine (MergeR_bad v L W h hc).mono ?_
      rintro e w' ⟨rfl, k, rfl⟩
      exact ⟨_, _, _, rfl, rdsP_nil _, below_dN (Below.refl _ _) k⟩
    · refine (Join_bad v L W h hc).mono ?_
      rintro e w' ⟨rfl, hb⟩
      exact ⟨_, _, _, rfl, rdsP_nil _, hb⟩
    · refine (JoinR_bad v L W h hc).mono ?_
      rintro e w' ⟨rfl, k, rfl⟩
      exact ⟨_, _, _, rfl, rdsP_nil _, below_dN (Below.refl _ _) k⟩
  | true =>
    obtain ⟨p, hp⟩ : ∃ p, joinTo ([], true) L.flatten = p := ⟨_, rfl⟩
    refine ⟨if p.2 then p.1 else [], p.1, p.2, 0, fun v W h => ?_, fun v W h => ?_, fun v W h => ?_, fun v W h => JoinR_good v L W h hc p hp, fun v W h => Check_any v L W h 0 (by rw [hc]; rfl), fun v W h => CheckR_any v L W h 0 (by rw [hc]; rfl)⟩
    · refine (Merge_good v L W h hc p hp).mono ?_
      rintro e w' ⟨v', rfl, hb, h1, h2⟩
      cases hp2 : p.2 with
      | true =>
        have hown := h1 hp2
        obtain ⟨ad, cap, rfl, _, _⟩ := ownsSt_form hown
        exact ⟨_, _, _, rfl, owns_rdsP rfl hown, hb⟩
      | false =>
        obtain rfl := h2 hp2
        exact ⟨_, _, _, rfl, rdsP_nil _, hb⟩
    · refine (MergeR_good v L W h hc p hp).mono ?_
      rintro e w' ⟨oa, om, oc, rfl, h1, h2, hb⟩
      cases hp2 : p.2 with
      | true => exact ⟨_, _, _, rfl, h1 hp2, hb⟩
      | false =>
        have h3 := h2 hp2
        exact ⟨_, _, _, rfl, (by rw [h3]; exact rdsP_nil _), hb⟩
    · refine (Join_good v L W h hc p hp).mono ?_
      rintro e w' ⟨v', rfl, hb, hown⟩
      obtain ⟨ad, cap, rfl, _, _⟩ := ownsSt_form hown
      exact ⟨_, _, _, rfl, owns_rdsP rfl hown, hb⟩

theorem rdsL_drewN {w : World} {v : Value} {L : List (List Stp)} (h : RdsL w v L) (k : Nat) : RdsL (w.drewN k) v L := h

set_option maxHeartbeats 3000000 in
set_option maxRecDepth 20000 in
theorem VectorMerges_walk (v : Value) (L : List (List Stp)) (w : World) (hr : RdsL w v L) :
    Calls Tryd.prog 3 #[v] w fun e w' => e = .returned (.bool true) ∧ Below w.heap.size w w' := by
  obtain ⟨X, Y, b, q, h1, h2, h3, h4, h5, h6⟩ := merges_uni L
  have H1 := Lib.hid (h1 v)
  have H2 := Lib.hid (h2 v)
  have H3 := Lib.hid (h3 v)
  have H4 := Lib.hid (h4 v)
  have H5 := Lib.hid (h5 v)
  have H6 := Lib.hid (h6 v)
  have HR0 := Lib.hid hr
  have hbb : (b == b) = true := by simp
  have hqq : (q == q) = true := by simp
  obtain ⟨ad, len, cap, rfl, hl⟩ := hr
  clear hl h1 h2 h3 h4 h5 h6
  go_enter Tryd.func3, Tryd.ntmps3
  go_wp2_with fail
  refine (H1.out _ HR0.out).mono ?_
  rintro e w1 ⟨a1, n1, c1, rfl, r1, b1⟩
  have A1 := Lib.hid r1
  have R1 := Lib.hid (HR0.out.below b1)
  have B1 := Lib.hid b1
  clear r1 b1
  go_wp2_with fail
  refine (H2.out _ R1.out).mono ?_
  rintro e w2 ⟨a2, n2, c2, rfl, r2, b2⟩
  have A2 := Lib.hid (A1.out.below b2)
  have D2 := Lib.hid r2
  have R2 := Lib.hid (R1.out.below b2)
  have B2 := Lib.hid (B1.out.trans (b2.mono B1.out.size))
  clear r2 b2
  go_wp2_with fail
  refine (H3.out _ R2.out).mono ?_
  rintro e w3 ⟨a3, n3, c3, rfl, r3, b3⟩
  have A3 := Lib.hid (A2.out.below b3)
  have D3 := Lib.hid (D2.out.below b3)
  have E3 := Lib.hid r3
  have R3 := Lib.hid (R2.out.below b3)
  have B3 := Lib.hid (B2.out.trans (b3.mono B2.out.size))
  clear r3 b3
  go_wp2_with fail
  refine (H4.out _ R3.out).mono ?_
  rintro e w4 ⟨a4, n4, c4, rfl, r4, b4⟩
  have A4 := Lib.hid (A3.out.below b4)
  have D4 := Lib.hid (D3.out.below b4)
  have E4 := Lib.hid (E3.out.below b4)
  have F4 := Lib.hid r4
  have R4 := Lib.hid (R3.out.below b4)
  have B4 := Lib.hid (B3.out.trans (b4.mono B3.out.size))
  clear r4 b4
  go_wp2_with fail
  refine (SameR_any _ _ _ _ _ A4.out D4.out true (by simp)).mono ?_
  rintro e u1 ⟨rfl, k1, rfl⟩
  go_wp2_with fail
  refine (SameR_any _ _ _ _ _ (rdsP_drewN E4.out _) (rdsP_drewN F4.out _) true (by simp)).mono ?_
  rintro e u2 ⟨rfl, k2, rfl⟩
  go_wp2_with fail
  refine (H5.out _ (rdsL_drewN R4.out _)).mono ?_
  rintro e u3 ⟨rfl, b5⟩
  have R5 := Lib.hid ((rdsL_drewN R4.out (k1 + k2)).below b5)
  have B5 := Lib.hid ((below_dN B4.out (k1 + k2)).trans (b5.mono (below_dN B4.out (k1 + k2)).size))
  clear b5
  go_wp2_with fail
  refine (H6.out _ R5.out).mono ?_
  rintro e u4 ⟨rfl, k4, rfl⟩
  go_wp2_with fail
  refine (awake_any _).mono ?_
  rintro e u5 ⟨rfl, b6⟩
  have B6 := Lib.hid ((below_dN B5.out k4).trans (b6.mono (below_dN B5.out k4).size))
  clear b6
  go_wp2_with fail
  go_ret
  exact ⟨rfl, B6.out⟩
end Go.Proofs.YtlmpaeefhpahoaaDoor
