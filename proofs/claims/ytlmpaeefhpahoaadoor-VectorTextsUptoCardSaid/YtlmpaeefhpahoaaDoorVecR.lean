/-
  The law VectorPartial: to be below is a partial order; walked.
-/
import Derived.BigQuiet
import Derived.Test.YtlmpaeefhpahoaaDoorVecQ
namespace Go.Proofs.YtlmpaeefhpahoaaDoor
open Go.RowKit

theorem below1_iff {b : List Stp} (hb : Srt b) (s : Stp) : below1 b s = true ↔ ∃ y, (s.1, y) ∈ b ∧ s.2 ≤ y := by
  unfold below1
  constructor
  · intro h
    cases hk : lk b s.1 with
    | none => rw [hk] at h; cases h
    | some y =>
      rw [hk] at h
      exact ⟨y, (lk_mem hb).1 hk, of_decide_eq_true h⟩
  · rintro ⟨y, h1, h2⟩
    rw [(lk_mem hb).2 h1]
    exact decide_eq_true h2

theorem belowB_iff {a b : List Stp} (hb : Srt b) : belowB a b = true ↔ ∀ d x, (d, x) ∈ a → ∃ y, (d, y) ∈ b ∧ x ≤ y := by
  unfold belowB
  rw [List.all_eq_true]
  constructor
  · intro h d x hx
    exact (below1_iff hb (d, x)).1 (h _ hx)
  · intro h s hs
    exact (below1_iff hb s).2 (h s.1 s.2 hs)

theorem belowB_refl {a : List Stp} (ha : Srt a) : belowB a a = true := (belowB_iff ha).2 fun _ x hx => ⟨x, hx, Int.le_refl _⟩

theorem belowB_trans {a b c : List Stp} (hb : Srt b) (hc : Srt c) (h1 : belowB a b = true) (h2 : belowB b c = true) : belowB a c = true :=
  (belowB_iff hc).2 fun d x hx => by
    obtain ⟨y, hy, hxy⟩ := (belowB_iff hb).1 h1 d x hx
    obtain ⟨z, hz, hyz⟩ := (belowB_iff hc).1 h2 d y hy
    exact ⟨z, hz, Int.le_trans hxy hyz⟩

theorem srt_once {a : List Stp} (ha : Srt a) {d x y : Int} (hx : (d, x) ∈ a) (hy : (d, y) ∈ a) : x = y := by
  have h1 := (lk_mem ha).2 hx
  have h2 := (lk_mem ha).2 hy
  rw [h1] at h2
  injection h2

theorem belowB_antisymm {a b : List Stp} (ha : Srt a) (hb : Srt b) (h1 : belowB a b = true) (h2 : belowB b a = true) : a = b := by
  refine srt_ext ha hb fun s => ⟨fun hs => ?_, fun hs => ?_⟩
  · obtain ⟨y, hy, hxy⟩ := (belowB_iff hb).1 h1 s.1 s.2 hs
    obtain ⟨z, hz, hyz⟩ := (belowB_iff ha).1 h2 s.1 y hy
    have := srt_once ha hs hz
    have e : s.2 = y := by omega
    rw [show s = (s.1, s.2) from rfl, e]
    exact hy
  · obtain ⟨y, hy, hxy⟩ := (belowB_iff ha).1 h2 s.1 s.2 hs
    obtain ⟨z, hz, hyz⟩ := (belowB_iff hb).1 h1 s.1 y hy
    have := srt_once hb hs hz
    have e : s.2 = y := by omega
    rw [show s = (s.1, s.2) from rfl, e]
    exact hy

theorem rdsL_three {w : World} {x y z : Value} {a b c : List Stp} (e : TypeId) (hx : RdsP w x a) (hy : RdsP w y b) (hz : RdsP w z c) : RdsL (w.alloc (.cells #[x, y, z] e)) (.slice (some ⟨w.heap.size, 0, none⟩) 3 3) [a, b, c] := by
  have hb := (Below.refl w.heap.size w).alloc (Nat.le_refl _) (.cells #[x, y, z] e)
  refine ⟨_, _, _, rfl, rfl, by unfold maxLen; omega, fun i hi => ?_⟩
  have hi2 : i < 3 := by simpa using hi
  match i, hi2 with
  | 0, _ => exact ⟨_, _, x, rfl, by simp, by unfold World.cell? World.alloc; simp, hx.below hb⟩
  | 1, _ => exact ⟨_, _, y, rfl, by simp, by unfold World.cell? World.alloc; simp, hy.below hb⟩
  | 2, _ => exact ⟨_, _, z, rfl, by simp, by unfold World.cell? World.alloc; simp, hz.below hb⟩

/-- What a Below says, in its two parts. -/
theorem belowV_parts (a b : List Stp) : ∃ (p : Bool) (q : Int), belowV a b = .tuple #[.bool p, .int .i64 q] ∧ (q = 0 ∨ q = 160) ∧ (q = 0 ↔ (chk a = true ∧ chk b = true)) ∧ (q = 0 → p = belowB a b) := by
  unfold belowV
  have h : [a, b].all chk = (chk a && chk b) := by simp
  rw [h]
  cases h1 : (chk a && chk b) with
  | true =>
    rw [Bool.and_eq_true] at h1
    exact ⟨_, _, rfl, .inl rfl, ⟨fun _ => h1, fun _ => rfl⟩, fun _ => rfl⟩
  | false =>
    refine ⟨_, _, rfl, .inr rfl, ⟨(fun e => by cases e), fun e => ?_⟩, (fun e => by cases e)⟩
    rw [e.1, e.2] at h1
    cases h1

set_option maxHeartbeats 4000000 in
set_option maxRecDepth 20000 in
theorem VectorPartial_walk (x y z : Value) (a b c : List Stp) (w : World) (ha : RdsP w x a) (hb : RdsP w y b) (hc : RdsP w z c) :
    Calls Tryd.prog 5 #[x, y, z] w fun e w' => e = .returned (.bool true) ∧ Below w.heap.size w w' := by
  obtain ⟨p1, q1, e1, f1, g1, k1⟩ := belowV_parts a b
  obtain ⟨p2, q2, e2, f2, g2, k2⟩ := belowV_parts b a
  obtain ⟨p3, q3, e3, f3, g3, k3⟩ := belowV_parts b c
  obtain ⟨p4, q4, e4, f4, g4, k4⟩ := belowV_parts a c
  obtain ⟨p5, q5, e5, f5, g5, k5⟩ := belowV_parts a a
  have H1 := Lib.hid (fun W (h1 : RdsP W x a) (h2 : RdsP W y b) => Below_any x y a b W h1 h2)
  have H2 := Lib.hid (fun W (h1 : RdsP W y b) (h2 : RdsP W x a) => Below_any y x b a W h1 h2)
  have H3 := Lib.hid (fun W (h1 : RdsP W y b) (h2 : RdsP W z c) => Below_any y z b c W h1 h2)
  have H4 := Lib.hid (fun W (h1 : RdsP W x a) (h2 : RdsP W z c) => Below_any x z a c W h1 h2)
  have H5 := Lib.hid (fun W (h1 : RdsP W x a) => Below_any x x a a W h1 h1)
  rw [e1] at H1
  rw [e2] at H2
  rw [e3] at H3
  rw [e4] at H4
  rw [e5] at H5
  have H6 : Hid (p1 = true → p2 = true → q1 = 0 → q2 = 0 → ∀ W, RdsP W x a → RdsP W y b → Calls Tryd.prog 15 #[x, y] W fun e w' => e = .returned (.bool true) ∧ ∃ k, w' = W.drewN k) := by
    intro hp1 hp2 hq1 hq2 W h1 h2
    have hca := (g1.1 hq1).1
    have hcb := (g1.1 hq1).2
    exact SameR_any x y a b W h1 h2 true (by rw [decide_eq_true (belowB_antisymm (chk_srt hca) (chk_srt hcb) ((k1 hq1).symm.trans hp1) ((k2 hq2).symm.trans hp2))])
  have H7 : Hid ((q1 = 160 ∨ q3 = 160) → ∀ W, RdsP W x a → RdsP W y b → RdsP W z c → Calls Tryd.prog 17 #[.slice (some ⟨W.heap.size, 0, none⟩) 3 3] (W.alloc (.cells #[x, y, z] 24)) fun e w' => e = .returned (.int .i64 160) ∧ ∃ k, w' = (W.alloc (.cells #[x, y, z] 24)).drewN k) := by
    intro hq W h1 h2 h3
    refine CheckR_any _ _ _ (rdsL_three _ h1 h2 h3) 160 ?_
    have : [a, b, c].all chk = false := by
      rw [Bool.eq_false_iff]
      intro h
      simp only [List.all_cons, List.all_nil, Bool.and_true, Bool.and_eq_true] at h
      rcases hq with hq | hq
      · have := g1.2 ⟨h.1, h.2.1⟩; omega
      · have := g3.2 ⟨h.2.1, h.2.2⟩; omega
    rw [this]
    rfl
  have D : Hid (q1 = 160 ∨ (q1 = 0 ∧ q2 = 0 ∧ q3 = 160) ∨ (q1 = 0 ∧ q2 = 0 ∧ q3 = 0 ∧ q4 = 0 ∧ q5 = 0 ∧ p5 = true ∧ (p1 = false ∨ (p1 = true ∧ p2 = false ∧ p3 = false) ∨ (p1 = true ∧ p2 = true ∧ p3 = false) ∨ (p1 = true ∧ p2 = false ∧ p3 = true ∧ p4 = true) ∨ (p1 = true ∧ p2 = true ∧ p3 = true ∧ p4 = true)))) := by
    show _ ∨ _
    rcases f1 with hq1 | hq1
    · have hab := g1.1 hq1
      have hq2 := g2.2 ⟨hab.2, hab.1⟩
      rcases f3 with hq3 | hq3
      · have hbc := g3.1 hq3
        have hq4 := g4.2 ⟨hab.1, hbc.2⟩
        have hq5 := g5.2 ⟨hab.1, hab.1⟩
        refine .inr (.inr ⟨hq1, hq2, hq3, hq4, hq5, (k5 hq5).trans (belowB_refl (chk_srt hab.1)), ?_⟩)
        have htr : p1 = true → p3 = true → p4 = true := fun h1 h3 => (k4 hq4).trans (belowB_trans (chk_srt hab.2) (chk_srt hbc.2) ((k1 hq1).symm.trans h1) ((k3 hq3).symm.trans h3))
        cases p1 <;> cases p2 <;> cases p3 <;> simp_all
      · exact .inr (.inl ⟨hq1, hq2, hq3⟩)
    · exact .inl hq1
  have HA := Lib.hid ha
  have HB := Lib.hid hb
  have HC := Lib.hid hc
  obtain ⟨xa, xn, xc, rfl, hx⟩ := ha
  obtain ⟨ya, yn, yc, rfl, hy⟩ := hb
  obtain ⟨za, zn, zc, rfl, hz⟩ := hc
  clear hx hy hz e1 e2 e3 e4 e5 f1 f2 f3 f4 f5 g1 g2 g3 g4 g5 k1 k2 k3 k4 k5
  go_enter Tryd.func5, Tryd.ntmps5
  go_wp2_with fail
  refine (awake_any _).mono ?_
  rintro e w0 ⟨rfl, hb0⟩
  have B0 := Lib.hid hb0
  clear hb0
  go_wp2_with fail
  refine (H1.out _ (HA.out.below B0.out) (HB.out.below B0.out)).mono ?_
  rintro e w1 ⟨rfl, hb1⟩
  have B1 := Lib.hid (B0.out.trans (hb1.mono B0.out.size))
  clear hb1
  go_wp2_with fail
  refine (H2.out _ (HB.out.below B1.out) (HA.out.below B1.out)).mono ?_
  rintro e w2 ⟨rfl, hb2⟩
  have B2 := Lib.hid (B1.out.trans (hb2.mono B1.out.size))
  clear hb2
  go_wp2_with fail
  refine (H3.out _ (HB.out.below B2.out) (HC.out.below B2.out)).mono ?_
  rintro e w3 ⟨rfl, hb3⟩
  have B3 := Lib.hid (B2.out.trans (hb3.mono B2.out.size))
  clear hb3
  go_wp2_with fail
  refine (H4.out _ (HA.out.below B3.out) (HC.out.below B3.out)).mono ?_
  rintro e w4 ⟨rfl, hb4⟩
  have B4 := Lib.hid (B3.out.trans (hb4.mono B3.out.size))
  clear hb4
  go_wp2_with fail
  refine (H5.out _ (HA.out.below B4.out)).mono ?_
  rintro e w5 ⟨rfl, hb5⟩
  have B5 := Lib.hid (B4.out.trans (hb5.mono B4.out.size))
  clear hb5
  have RA := Lib.hid (HA.out.below B5.out)
  have RB := Lib.hid (HB.out.below B5.out)
  have RC := Lib.hid (HC.out.below B5.out)
  rcases D.out with rfl | ⟨rfl, rfl, rfl⟩ | ⟨rfl, rfl, rfl, rfl, rfl, rfl, rfl | ⟨rfl, rfl, rfl⟩ | ⟨rfl, rfl, rfl⟩ | ⟨rfl, rfl, rfl, rfl⟩ | ⟨rfl, rfl, rfl, rfl⟩⟩
  · go_wp2_with fail
    refine (H7.out (by simp) _ RA.out RB.out RC.out).mono ?_
    rintro e w6 ⟨rfl, k6, rfl⟩
    go_wp2_with fail
    go_ret
    exact ⟨rfl, below_dN (B5.out.alloc B5.out.size _) k6⟩
  · go_wp2_with fail
    refine (H7.out (by simp) _ RA.out RB.out RC.out).mono ?_
    rintro e w6 ⟨rfl, k6, rfl⟩
    go_wp2_with fail
    go_ret
    exact ⟨rfl, below_dN (B5.out.alloc B5.out.size _) k6⟩
  · go_wp2_with fail
    go_ret
    exact ⟨rfl, B5.out⟩
  · go_wp2_with fail
    go_ret
    exact ⟨rfl, B5.out⟩
  · go_wp2_with fail
    refine (H6.out (by simp) (by simp) (by simp) (by simp) _ RA.out RB.out).mono ?_
    rintro e w6 ⟨rfl, k6, rfl⟩
    go_wp2_with fail
    go_ret
    exact ⟨rfl, below_dN B5.out k6⟩
  · go_wp2_with fail
    go_ret
    exact ⟨rfl, B5.out⟩
  · go_wp2_with fail
    refine (H6.out (by simp) (by simp) (by simp) (by simp) _ RA.out RB.out).mono ?_
    rintro e w6 ⟨rfl, k6, rfl⟩
    go_wp2_with fail
    go_ret
    exact ⟨rfl, below_dN B5.out k6⟩
end Go.Proofs.YtlmpaeefhpahoaaDoor
