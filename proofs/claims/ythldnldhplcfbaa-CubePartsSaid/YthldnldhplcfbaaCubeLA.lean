/-
  The laws CubeCuts, CubeMeets and CubeOrder of layer 1, walked.
-/
import Derived.Test.YthldnldhplcfbaaCubeS
namespace Go.Proofs.Ythldnldhplcfbaa
open Go.RowKit

theorem reach_max {n : Nat} (h : n ≤ 140737488351232) : n ≤ maxLen := by unfold maxLen; omega

set_option maxHeartbeats 400000 in
theorem CubeCuts_walk (a b : ByteArray) (w : World) (ha0 : a.size ≤ 140737488351232) (hb0 : b.size ≤ 140737488351232) :
    Calls Try.prog 3 #[.string a, .string b] w fun e w' => e = .returned (.bool true) ∧ Below w.heap.size w w' := by
  have ha := reach_max ha0
  have hb := reach_max hb0
  clear ha0 hb0
  generalize hc : Cb.wrong [a.data.toList, b.data.toList] = c
  generalize hL : (if Cb.wrong [a.data.toList, b.data.toList] = 0 then Cb.cut a.data.toList b.data.toList else []).map bs = L
  have c1 := Lib.hid fun w => Cut_any a b w ha hb
  have c2 := Lib.hid fun w => rCut_any a b w ha hb
  unfold Hid at c1 c2
  rw [hc] at hL c1 c2
  rw [hL] at c1 c2
  have C1 := Lib.hid c1
  have C2 := Lib.hid c2
  clear c1 c2 hc hL
  go_enter Try.func3, Try.ntmps3
  go_wp2_with fail
  refine (C1.out _).mono ?_
  rintro e w1 ⟨v1, rfl, hr1, hb1⟩
  have HR1 := Lib.hid hr1
  have HB1 := Lib.hid hb1
  clear hr1 hb1
  go_wp2_with fail
  refine (C2.out _).mono ?_
  rintro e w2 ⟨v2, rfl, hr2, hb2⟩
  have HR2 := Lib.hid hr2
  have HR1' := Lib.hid (HR1.out.below hb2)
  have HB2 := Lib.hid (HB1.out.trans (hb2.mono HB1.out.size))
  clear hr2 hb2
  go_wp2_with fail
  refine (Texts_same HR1'.out HR2.out).mono ?_
  rintro e w3 ⟨rfl, k, rfl⟩
  go_wp2_with fail
  refine (alive_any _).mono ?_
  rintro e w4 ⟨rfl, hb4⟩
  have HB4 := Lib.hid ((below_dN HB2.out k).trans (hb4.mono HB2.out.size))
  clear hb4
  go_wp2_with fail
  go_ret
  exact ⟨rfl, HB4.out⟩

set_option maxHeartbeats 800000 in
theorem CubeMeets_walk (a b : ByteArray) (w : World) (ha0 : a.size ≤ 140737488351232) (hb0 : b.size ≤ 140737488351232) :
    Calls Try.prog 5 #[.string a, .string b] w fun e w' => e = .returned (.bool true) ∧ Below w.heap.size w w' := by
  have ha := reach_max ha0
  have hb := reach_max hb0
  clear ha0 hb0
  generalize hM : Cb.MeetS a.data.toList b.data.toList = M
  generalize hI : Cb.InsideS a.data.toList b.data.toList = I
  generalize hH : Cb.HasS a.data.toList b.data.toList = H
  have HM := Lib.hid hM
  have HI := Lib.hid hI
  have HH := Lib.hid hH
  clear hM hI hH
  obtain ⟨m1, m2, m3⟩ := M
  obtain ⟨i1, i2⟩ := I
  obtain ⟨g1, g2⟩ := H
  go_enter Try.func5, Try.ntmps5
  go_wp2_with fail
  refine (Meet_any a b _ ha hb _ HM.out).mono ?_
  rintro e w1 ⟨rfl, hb1⟩
  have B1 := Lib.hid hb1
  clear hb1
  go_wp2_with fail
  refine (rMeet_any a b _ ha hb _ HM.out).mono ?_
  rintro e w2 ⟨rfl, hb1⟩
  have B2 := Lib.hid (B1.out.trans (hb1.mono B1.out.size))
  clear hb1
  go_wp2_with fail
  refine (Inside_any a b _ ha hb _ HI.out).mono ?_
  rintro e w3 ⟨rfl, hb1⟩
  have B3 := Lib.hid (B2.out.trans (hb1.mono B2.out.size))
  clear hb1
  go_wp2_with fail
  refine (rInside_any a b _ ha hb _ HI.out).mono ?_
  rintro e w4 ⟨rfl, hb1⟩
  have B4 := Lib.hid (B3.out.trans (hb1.mono B3.out.size))
  clear hb1
  go_wp2_with fail
  refine (Has_any a b _ ha hb _ HH.out).mono ?_
  rintro e w5 ⟨rfl, hb1⟩
  have B5 := Lib.hid (B4.out.trans (hb1.mono B4.out.size))
  clear hb1
  go_wp2_with fail
  refine (rHas_any a b _ ha hb _ HH.out).mono ?_
  rintro e w6 ⟨rfl, hb1⟩
  have B6 := Lib.hid (B5.out.trans (hb1.mono B5.out.size))
  clear hb1
  go_wp2_with fail
  refine (alive_any _).mono ?_
  rintro e w7 ⟨rfl, hb1⟩
  have B7 := Lib.hid (B6.out.trans (hb1.mono B6.out.size))
  clear hb1
  go_wp2_with fail
  go_ret
  exact ⟨rfl, B7.out⟩

theorem Cb.ok2_comm (x y : UInt8) : Cb.ok2 x y = Cb.ok2 y x := by
  unfold Cb.ok2
  rw [Bool.eq_iff_iff]
  simp only [Bool.or_eq_true, beq_iff_eq]
  constructor <;> (intro h; rcases h with (h | h) | h <;> simp [h])

theorem Cb.mb_comm {x y : UInt8} (h : Cb.ok2 x y = true) : Cb.mb x y = Cb.mb y x := by
  unfold Cb.ok2 at h
  unfold Cb.mb
  simp only [Bool.or_eq_true, beq_iff_eq] at h
  by_cases hx : x = 120
  · by_cases hy : y = 120
    · simp [hx, hy]
    · simp [hx, hy]
  · by_cases hy : y = 120
    · simp [hx, hy]
    · rcases h with (h | h) | h
      · exact absurd h hx
      · exact absurd h hy
      · simp [h]

theorem Cb.meet_comm : ∀ (a b : List UInt8), Cb.meet a b = Cb.meet b a
  | [], [] => rfl
  | [], _ :: _ => by simp [Cb.meet]
  | _ :: _, [] => by simp [Cb.meet]
  | x :: a, y :: b => by
    rw [Cb.meet_cons, Cb.meet_cons, Cb.meet_comm a b, Cb.ok2_comm x y]
    by_cases h : Cb.ok2 y x = true
    · rw [if_pos h, if_pos h, Cb.mb_comm (by rw [Cb.ok2_comm]; exact h)]
    · rw [if_neg h, if_neg h]

theorem Cb.wrong_comm (a b : List UInt8) : Cb.wrong [a, b] = Cb.wrong [b, a] := by
  unfold Cb.wrong
  by_cases ha : Cb.isCube a = true <;> by_cases hb : Cb.isCube b = true <;> simp [ha, hb]
  by_cases h : b.length = a.length
  · simp [h]
  · rw [if_neg h, if_neg (fun e => h e.symm)]

theorem Cb.MeetS_comm (a b : List UInt8) : Cb.MeetS a b = Cb.MeetS b a := by
  unfold Cb.MeetS
  rw [Cb.wrong_comm, Cb.meet_comm]

/-- What lies inside both lies inside what they have in common. -/
theorem Cb.inside_both : ∀ (a b c m : List UInt8), a.length = c.length → b.length = c.length → Cb.meet c a = some c → Cb.meet c b = some c → Cb.meet a b = some m → Cb.meet c m = some c
  | [], [], [], m, _, _, _, _, h => by simp [Cb.meet]
  | x :: a, y :: b, z :: c, m, h1, h2, h3, h4, h5 => by
    rw [Cb.meet_cons] at h3 h4 h5
    by_cases k3 : Cb.ok2 z x = true
    · rw [if_pos k3] at h3
      by_cases k4 : Cb.ok2 z y = true
      · rw [if_pos k4] at h4
        by_cases k5 : Cb.ok2 x y = true
        · rw [if_pos k5] at h5
          obtain ⟨c1, e1, f1⟩ := Option.map_eq_some_iff.1 h3
          obtain ⟨c2, e2, f2⟩ := Option.map_eq_some_iff.1 h4
          obtain ⟨m2, e3, f3⟩ := Option.map_eq_some_iff.1 h5
          injection f1 with g1 g2
          injection f2 with g3 g4
          subst g2 g4 f3
          have ih := Cb.inside_both a b c2 m2 (by simpa using h1) (by simpa using h2) e1 e2 e3
          rw [Cb.meet_cons, ih]
          have hz : Cb.ok2 z (Cb.mb x y) = true ∧ Cb.mb z (Cb.mb x y) = z := by
            unfold Cb.mb at g1 g3 ⊢
            unfold Cb.ok2 at k3 k4 k5 ⊢
            by_cases hz : z = 120
            · subst hz
              simp at g1 g3
              simp [g1, g3]
            · by_cases hx : x = 120
              · simp [hx, hz] at k4 ⊢
                exact k4
              · simp [hx, hz] at k3 ⊢
                exact k3
          rw [if_pos hz.1, hz.2]
          rfl
        · rw [if_neg k5] at h5; cases h5
      · rw [if_neg k4] at h4; cases h4
    · rw [if_neg k3] at h3; cases h3
  | [], _ :: _, [], _, _, h, _, _, _ => by simp at h
  | [], _, _ :: _, _, h, _, _, _, _ => by simp at h
  | _ :: _, _, [], _, h, _, _, _, _ => by simp at h
  | _ :: _, [], _ :: _, _, _, h, _, _, _ => by simp at h

end Go.Proofs.Ythldnldhplcfbaa
