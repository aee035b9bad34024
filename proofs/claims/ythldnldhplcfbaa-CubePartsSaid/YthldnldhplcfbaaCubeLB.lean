/-
  The law CubeOrder of layer 1, walked.
-/
import Derived.Test.YthldnldhplcfbaaCubeLA
namespace Go.Proofs.Ythldnldhplcfbaa
open Go.RowKit

theorem InsideS_true {a b : List UInt8} (h : Cb.InsideS a b = (true, 0)) : Cb.wrong [a, b] = 0 ∧ Cb.meet a b = some a := by
  unfold Cb.InsideS at h
  by_cases hw : Cb.wrong [a, b] = 0
  · rw [if_pos hw] at h
    refine ⟨hw, ?_⟩
    cases hm : Cb.meet a b with
    | none => rw [hm] at h; simp at h
    | some m => rw [hm] at h; simp at h; rw [h]
  · rw [if_neg hw] at h; simp at h

theorem InsideS_mk {a b : List UInt8} (h1 : Cb.wrong [a, b] = 0) (h2 : Cb.meet a b = some a) : Cb.InsideS a b = (true, 0) := by
  unfold Cb.InsideS
  rw [if_pos h1, h2]
  simp

theorem both_meet : ∀ (a b c : List UInt8), a.length = c.length → b.length = c.length → Cb.meet c a = some c → Cb.meet c b = some c → ∃ m, Cb.meet a b = some m
  | [], [], [], _, _, _, _ => ⟨[], by simp [Cb.meet]⟩
  | x :: a, y :: b, z :: c, h1, h2, h3, h4 => by
    rw [Cb.meet_cons] at h3 h4 ⊢
    by_cases k3 : Cb.ok2 z x = true
    · rw [if_pos k3] at h3
      by_cases k4 : Cb.ok2 z y = true
      · rw [if_pos k4] at h4
        obtain ⟨c1, e1, f1⟩ := Option.map_eq_some_iff.1 h3
        obtain ⟨c2, e2, f2⟩ := Option.map_eq_some_iff.1 h4
        injection f1 with g1 g2
        injection f2 with g3 g4
        subst g2 g4
        obtain ⟨m, hm⟩ := both_meet a b c2 (by simpa using h1) (by simpa using h2) e1 e2
        have k5 : Cb.ok2 x y = true := by
          unfold Cb.mb at g1 g3
          unfold Cb.ok2 at k3 k4 ⊢
          by_cases hz : z = 120
          · subst hz
            simp at g1
            simp [g1]
          · simp [hz] at k3 k4
            rcases k3 with k3 | k3 <;> rcases k4 with k4 | k4 <;> simp [k3, k4]
        rw [if_pos k5, hm]
        exact ⟨_, rfl⟩
      · rw [if_neg k4] at h4; cases h4
    · rw [if_neg k3] at h3; cases h3
  | [], _ :: _, [], _, h, _, _ => by simp at h
  | [], _, _ :: _, h, _, _, _ => by simp at h
  | _ :: _, _, [], h, _, _, _ => by simp at h
  | _ :: _, [], _ :: _, _, h, _, _ => by simp at h

theorem meet_mem : ∀ (a b m : List UInt8), a.length = b.length → Cb.meet a b = some m → m.length = a.length ∧ ∀ c ∈ m, c ∈ a ∨ c ∈ b
  | [], [], m, _, h => by simp [Cb.meet] at h; subst h; simp
  | x :: a, y :: b, m, hl, h => by
    rw [Cb.meet_cons] at h
    split at h
    · obtain ⟨m2, e, f⟩ := Option.map_eq_some_iff.1 h
      subst f
      obtain ⟨h1, h2⟩ := meet_mem a b m2 (by simpa using hl) e
      refine ⟨by simpa using h1, fun c hc => ?_⟩
      rcases List.mem_cons.1 hc with rfl | hc
      · unfold Cb.mb; split <;> simp
      · rcases h2 c hc with h | h
        · exact .inl (List.mem_cons_of_mem _ h)
        · exact .inr (List.mem_cons_of_mem _ h)
    · cases h
  | [], _ :: _, _, h, _ => by simp at h
  | _ :: _, [], _, h, _ => by simp at h

theorem meet_cube {a b m : List UInt8} (ha : Cb.isCube a = true) (hb : Cb.isCube b = true) (hl : a.length = b.length) (h : Cb.meet a b = some m) : Cb.isCube m = true ∧ m.length = a.length := by
  obtain ⟨h1, h2⟩ := meet_mem a b m hl h
  refine ⟨?_, h1⟩
  unfold Cb.isCube Cb.ofB at ha hb ⊢
  simp only [Bool.and_eq_true, decide_eq_true_eq, List.all_eq_true] at ha hb ⊢
  rw [h1]
  refine ⟨ha.1, fun c hc => ?_⟩
  rcases h2 c hc with h | h
  · exact ha.2 c h
  · exact hb.2 c h

/-- All that CubeOrder asks, in plain words. -/
theorem order_law {a b c x : List UInt8} {ok : Bool} (hM : Cb.MeetS a b = (x, ok, 0)) (h1 : Cb.InsideS c a = (true, 0)) (h2 : Cb.InsideS c b = (true, 0)) : ok = true ∧ Cb.InsideS c x = (true, 0) ∧ x.length ≤ 128 := by
  obtain ⟨w1, m1⟩ := InsideS_true h1
  obtain ⟨w2, m2⟩ := InsideS_true h2
  obtain ⟨ca, cb, hl⟩ := Cb.wrong_two w1
  obtain ⟨_, cc, hl2⟩ := Cb.wrong_two w2
  have hw : Cb.wrong [a, b] = 0 := by rw [Cb.wrong_pair cb cc, if_pos (by omega)]
  unfold Cb.MeetS at hM
  rw [if_pos hw] at hM
  obtain ⟨m, hm⟩ := both_meet a b c hl (by omega) m1 m2
  rw [hm] at hM
  simp only [Prod.mk.injEq] at hM
  obtain ⟨rfl, rfl, _⟩ := hM
  obtain ⟨hx, hxl⟩ := meet_cube cb cc (by omega) hm
  refine ⟨rfl, InsideS_mk ?_ (Cb.inside_both a b c m hl (by omega) m1 m2 hm), (Cb.ofB_len hx).2⟩
  rw [Cb.wrong_pair ca hx, if_pos (by omega)]

set_option maxHeartbeats 800000 in
theorem CubeOrder_walk (a b c : ByteArray) (w : World) (ha0 : a.size ≤ 140737488351232) (hb0 : b.size ≤ 140737488351232) (hc0 : c.size ≤ 140737488351232) :
    Calls Try.prog 4 #[.string a, .string b, .string c] w fun e w' => e = .returned (.bool true) ∧ Below w.heap.size w w' := by
  have ha := reach_max ha0
  have hb := reach_max hb0
  have hc := reach_max hc0
  clear ha0 hb0 hc0
  generalize hM : Cb.MeetS a.data.toList b.data.toList = M
  have hM2 := Cb.MeetS_comm b.data.toList a.data.toList
  rw [hM] at hM2
  generalize hI1 : Cb.InsideS c.data.toList a.data.toList = I1
  generalize hI2 : Cb.InsideS c.data.toList b.data.toList = I2
  have HM := Lib.hid hM
  have HM2 := Lib.hid hM2
  have HI1 := Lib.hid hI1
  have HI2 := Lib.hid hI2
  clear hM hI1 hI2 hM2
  obtain ⟨m1, m2, m3⟩ := M
  obtain ⟨i1, i2⟩ := I1
  obtain ⟨g1, g2⟩ := I2
  by_cases h3 : m3 = 0
  · subst h3
    by_cases h4 : i2 = 0
    · subst h4
      by_cases h5 : g2 = 0
      · subst h5
        cases i1 with
        | true =>
          cases g1 with
          | true =>
            obtain ⟨k1, k2, k3⟩ := order_law HM.out HI1.out HI2.out
            subst k1
            have K2 := Lib.hid k2
            have k4 : (bs m1).size ≤ maxLen := by unfold maxLen; show m1.toArray.size ≤ _; rw [List.size_toArray]; omega
            clear k2 k3
            go_enter Try.func4, Try.ntmps4
            go_wp2_with fail
            refine (Meet_any a b _ ha hb _ HM.out).mono ?_
            rintro e w1 ⟨rfl, hb1⟩
            have B1 := Lib.hid hb1
            clear hb1
            go_wp2_with fail
            refine (Meet_any b a _ hb ha _ HM2.out).mono ?_
            rintro e w2 ⟨rfl, hb1⟩
            have B2 := Lib.hid (B1.out.trans (hb1.mono B1.out.size))
            clear hb1
            go_wp2_with fail
            refine (Inside_any c a _ hc ha _ HI1.out).mono ?_
            rintro e w3 ⟨rfl, hb1⟩
            have B3 := Lib.hid (B2.out.trans (hb1.mono B2.out.size))
            clear hb1
            go_wp2_with fail
            refine (Inside_any c b _ hc hb _ HI2.out).mono ?_
            rintro e w4 ⟨rfl, hb1⟩
            have B4 := Lib.hid (B3.out.trans (hb1.mono B3.out.size))
            clear hb1
            go_wp2_with fail
            refine (Inside_any c (bs m1) _ hc k4 _ K2.out).mono ?_
            rintro e w5 ⟨rfl, hb1⟩
            have B5 := Lib.hid (B4.out.trans (hb1.mono B4.out.size))
            clear hb1
            go_wp2_with fail
            refine (alive_any _).mono ?_
            rintro e w7 ⟨rfl, hb1⟩
            have B7 := Lib.hid (B5.out.trans (hb1.mono B5.out.size))
            clear hb1
            go_wp2_with fail
            go_ret
            exact ⟨rfl, B7.out⟩
          | false =>
            go_enter Try.func4, Try.ntmps4
            go_wp2_with fail
            refine (Meet_any a b _ ha hb _ HM.out).mono ?_
            rintro e w1 ⟨rfl, hb1⟩
            have B1 := Lib.hid hb1
            clear hb1
            go_wp2_with fail
            refine (Meet_any b a _ hb ha _ HM2.out).mono ?_
            rintro e w2 ⟨rfl, hb1⟩
            have B2 := Lib.hid (B1.out.trans (hb1.mono B1.out.size))
            clear hb1
            go_wp2_with fail
            refine (Inside_any c a _ hc ha _ HI1.out).mono ?_
            rintro e w3 ⟨rfl, hb1⟩
            have B3 := Lib.hid (B2.out.trans (hb1.mono B2.out.size))
            clear hb1
            go_wp2_with fail
            refine (Inside_any c b _ hc hb _ HI2.out).mono ?_
            rintro e w4 ⟨rfl, hb1⟩
            have B4 := Lib.hid (B3.out.trans (hb1.mono B3.out.size))
            clear hb1
            go_wp2_with fail
            refine (alive_any _).mono ?_
            rintro e w7 ⟨rfl, hb1⟩
            have B7 := Lib.hid (B4.out.trans (hb1.mono B4.out.size))
            clear hb1
            go_wp2_with fail
            go_ret
            exact ⟨rfl, B7.out⟩
        | false =>
          go_enter Try.func4, Try.ntmps4
          go_wp2_with fail
          refine (Meet_any a b _ ha hb _ HM.out).mono ?_
          rintro e w1 ⟨rfl, hb1⟩
          have B1 := Lib.hid hb1
          clear hb1
          go_wp2_with fail
          refine (Meet_any b a _ hb ha _ HM2.out).mono ?_
          rintro e w2 ⟨rfl, hb1⟩
          have B2 := Lib.hid (B1.out.trans (hb1.mono B1.out.size))
          clear hb1
          go_wp2_with fail
          refine (Inside_any c a _ hc ha _ HI1.out).mono ?_
          rintro e w3 ⟨rfl, hb1⟩
          have B3 := Lib.hid (B2.out.trans (hb1.mono B2.out.size))
          clear hb1
          go_wp2_with fail
          refine (Inside_any c b _ hc hb _ HI2.out).mono ?_
          rintro e w4 ⟨rfl, hb1⟩
          have B4 := Lib.hid (B3.out.trans (hb1.mono B3.out.size))
          clear hb1
          go_wp2_with fail
          refine (alive_any _).mono ?_
          rintro e w7 ⟨rfl, hb1⟩
          have B7 := Lib.hid (B4.out.trans (hb1.mono B4.out.size))
          clear hb1
          go_wp2_with fail
          go_ret
          exact ⟨rfl, B7.out⟩
      · have h6 : ((g2 : Int) != 0) = true := by simpa using h5
        have h7 : ((g2 : Int) == 0) = false := by simpa using h5
        clear h5
        go_enter Try.func4, Try.ntmps4
        go_wp2_with fail
        refine (Meet_any a b _ ha hb _ HM.out).mono ?_
        rintro e w1 ⟨rfl, hb1⟩
        have B1 := Lib.hid hb1
        clear hb1
        go_wp2_with fail
        refine (Meet_any b a _ hb ha _ HM2.out).mono ?_
        rintro e w2 ⟨rfl, hb1⟩
        have B2 := Lib.hid (B1.out.trans (hb1.mono B1.out.size))
        clear hb1
        go_wp2_with fail
        refine (Inside_any c a _ hc ha _ HI1.out).mono ?_
        rintro e w3 ⟨rfl, hb1⟩
        have B3 := Lib.hid (B2.out.trans (hb1.mono B2.out.size))
        clear hb1
        go_wp2_with fail
        refine (Inside_any c b _ hc hb _ HI2.out).mono ?_
        rintro e w4 ⟨rfl, hb1⟩
        have B4 := Lib.hid (B3.out.trans (hb1.mono B3.out.size))
        clear hb1
        go_wp2_with fail
        refine (alive_any _).mono ?_
        rintro e w7 ⟨rfl, hb1⟩
        have B7 := Lib.hid (B4.out.trans (hb1.mono B4.out.size))
        clear hb1
        go_wp2_with fail
        go_ret
        exact ⟨rfl, B7.out⟩
    · have h6 : ((i2 : Int) != 0) = true := by simpa using h4
      have h7 : ((i2 : Int) == 0) = false := by simpa using h4
      clear h4
      go_enter Try.func4, Try.ntmps4
      go_wp2_with fail
      refine (Meet_any a b _ ha hb _ HM.out).mono ?_
      rintro e w1 ⟨rfl, hb1⟩
      have B1 := Lib.hid hb1
      clear hb1
      go_wp2_with fail
      refine (Meet_any b a _ hb ha _ HM2.out).mono ?_
      rintro e w2 ⟨rfl, hb1⟩
      have B2 := Lib.hid (B1.out.trans (hb1.mono B1.out.size))
      clear hb1
      go_wp2_with fail
      refine (Inside_any c a _ hc ha _ HI1.out).mono ?_
      rintro e w3 ⟨rfl, hb1⟩
      have B3 := Lib.hid (B2.out.trans (hb1.mono B2.out.size))
      clear hb1
      go_wp2_with fail
      refine (Inside_any c b _ hc hb _ HI2.out).mono ?_
      rintro e w4 ⟨rfl, hb1⟩
      have B4 := Lib.hid (B3.out.trans (hb1.mono B3.out.size))
      clear hb1
      go_wp2_with fail
      refine (alive_any _).mono ?_
      rintro e w7 ⟨rfl, hb1⟩
      have B7 := Lib.hid (B4.out.trans (hb1.mono B4.out.size))
      clear hb1
      go_wp2_with fail
      go_ret
      exact ⟨rfl, B7.out⟩
  · have h6 : ((m3 : Int) != 0) = true := by simpa using h3
    have h7 : ((m3 : Int) == 0) = false := by simpa using h3
    clear h3
    go_enter Try.func4, Try.ntmps4
    go_wp2_with fail
    refine (Meet_any a b _ ha hb _ HM.out).mono ?_
    rintro e w1 ⟨rfl, hb1⟩
    have B1 := Lib.hid hb1
    clear hb1
    go_wp2_with fail
    refine (Meet_any b a _ hb ha _ HM2.out).mono ?_
    rintro e w2 ⟨rfl, hb1⟩
    have B2 := Lib.hid (B1.out.trans (hb1.mono B1.out.size))
    clear hb1
    go_wp2_with fail
    refine (Inside_any c a _ hc ha _ HI1.out).mono ?_
    rintro e w3 ⟨rfl, hb1⟩
    have B3 := Lib.hid (B2.out.trans (hb1.mono B2.out.size))
    clear hb1
    go_wp2_with fail
    refine (Inside_any c b _ hc hb _ HI2.out).mono ?_
    rintro e w4 ⟨rfl, hb1⟩
    have B4 := Lib.hid (B3.out.trans (hb1.mono B3.out.size))
    clear hb1
    go_wp2_with fail
    refine (alive_any _).mono ?_
    rintro e w7 ⟨rfl, hb1⟩
    have B7 := Lib.hid (B4.out.trans (hb1.mono B4.out.size))
    clear hb1
    go_wp2_with fail
    go_ret
    exact ⟨rfl, B7.out⟩
end Go.Proofs.Ythldnldhplcfbaa
