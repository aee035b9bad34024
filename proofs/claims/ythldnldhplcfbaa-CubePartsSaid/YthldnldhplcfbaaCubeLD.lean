/-
  The law CubeAllOrLeft of layer 1, walked.
-/
import Derived.Test.YthldnldhplcfbaaCubeLC
namespace Go.Proofs.Ythldnldhplcfbaa
open Go.RowKit

theorem left_sizes (c : ByteArray) (ls : List ByteArray) : ∀ s ∈ (Cb.LeftS c.data.toList (lb ls)).1.map bs, s.size ≤ maxLen := by
  intro s hs
  obtain ⟨r, hr, rfl⟩ := List.mem_map.1 hs
  rw [bs_size]
  unfold Cb.LeftS at hr
  by_cases hw : Cb.wrong (c.data.toList :: lb ls) = 0
  · rw [if_pos hw] at hr
    obtain ⟨hcu, hwi⟩ := Cb.wrong_zero hw
    cases hL : Cb.leftS c.data.toList (lb ls) with
    | none => rw [hL] at hr; simp [Cb.resL] at hr
    | some R =>
      rw [hL] at hr
      have := (Cb.foldL_wide (n := c.data.toList.length) (lb ls) [c.data.toList] R (fun r hr => hwi r (List.mem_cons_of_mem _ hr)) (fun r hr => by simp at hr; rw [hr]) (by simp) hL).1 r hr
      have h2 := (Cb.ofB_len (hcu _ (List.mem_cons_self ..))).2
      unfold maxLen
      omega
  · rw [if_neg hw] at hr; simp at hr

set_option maxHeartbeats 1000000 in
theorem CubeAllOrLeft_walk (c : ByteArray) (v : Value) (ls : List ByteArray) (h : ByteArray) (w : World) (hc0 : c.size ≤ 140737488351232) (hr : RdsS w v ls) (hsz : ∀ s ∈ ls, s.size ≤ maxLen) (_hn : ls.length * 16 ≤ 140737488351232) (hh0 : h.size ≤ 140737488351232) :
    Calls Try.prog 6 #[.string c, v, .string h] w fun e w' => e = .returned (.bool true) ∧ Below w.heap.size w w' := by
  have hc := reach_max hc0
  have hh := reach_max hh0
  clear hc0 _hn hh0
  by_cases h8 : 8 < ls.length
  · obtain ⟨b, off, cap, rfl, hcap, hcm, hb, hcell, hrt⟩ := rdsS_take hr 8 h8
    have hlt : (ls.take 8).length = 8 := by simp; omega
    obtain ⟨l8, hl8⟩ : ∃ l8, l8 = ls.take 8 := ⟨_, rfl⟩
    rw [← hl8] at hrt hlt
    have HSZ : Hid (∀ s ∈ l8, s.size ≤ maxLen) := fun s hs => hsz s (List.mem_of_mem_take (by rw [← hl8]; exact hs))
    have hi1 : (8 : Int) ≤ (cap : Int) := by omega
    have h8' : (8 : Int) < (ls.length : Int) := by omega
    have hlen : ls.length ≤ 9223372036854775807 := by unfold maxLen at hcm; omega
    have HR := Lib.hid hrt
    have HN : Hid ((l8.length + 1) * 16 ≤ 140737488355328) := by unfold Hid; omega
    unfold maxLen at hcm
    clear hr hcap hb hcell hrt hlt hl8 hsz
    have HLAW := Lib.hid (fun (k1 : (Cb.LeftS c.data.toList (lb l8)).2 = 0) (k2 : (Cb.HasS c.data.toList h.data.toList).2 = 0) => Cb.allOrLeft_law k1 k2)
    have HLSZ : Hid (∀ s ∈ (Cb.LeftS c.data.toList (lb l8)).1.map bs, s.size ≤ maxLen) := left_sizes c l8
    generalize hS : Cb.LeftS c.data.toList (lb l8) = S at HLAW HLSZ
    generalize hH : Cb.HasS c.data.toList h.data.toList = H at HLAW
    generalize hI : Cb.inS (lb l8) h.data.toList = I at HLAW
    have C1 : Hid (∀ (W : World), RdsS W (.slice (some ⟨b, off, none⟩) 8 cap) l8 → Calls Try.prog 19 #[.string c, (.slice (some ⟨b, off, none⟩) 8 cap)] W fun e w' => ∃ v', e = .returned (.tuple #[v', .int .i64 S.2]) ∧ RdsS w' v' (S.1.map bs) ∧ Below W.heap.size W w') := fun W hw => by rw [← hS]; exact Left_any c _ l8 W hw hc HSZ.out HN.out
    have C2 : Hid (∀ (W : World), Calls Try.prog 17 #[.string c, .string h] W fun e w' => e = .returned (.tuple #[.bool H.1, .int .i64 H.2]) ∧ Below W.heap.size W w') := fun W => Has_any c h W hc hh _ hH
    have C3 : Hid (∀ (W : World), RdsS W (.slice (some ⟨b, off, none⟩) 8 cap) l8 → Calls Try.prog 20 #[(.slice (some ⟨b, off, none⟩) 8 cap), .string h] W fun e w' => e = .returned (.bool I) ∧ Below W.heap.size W w') := fun W hw => in_any _ l8 h W hw HSZ.out hh _ hI
    clear hS hH hI
    obtain ⟨s1, s2⟩ := S
    obtain ⟨h1, h2⟩ := H
    by_cases hs2 : s2 = 0
    · subst hs2
      by_cases hh2 : h2 = 0
      · subst hh2
        have hl : Hid (Cb.inS s1 h.data.toList = (h1 && !I)) := HLAW.out rfl rfl
        have C4 : Hid (∀ (W : World) (v' : Value), RdsS W v' (s1.map bs) → Calls Try.prog 20 #[v', .string h] W fun e w' => e = .returned (.bool (h1 && !I)) ∧ Below W.heap.size W w') := fun W v' hw => in_any v' (s1.map bs) h W hw HLSZ.out hh _ (by rw [lb_bs]; exact hl.out)
        clear HLAW HLSZ hl
        cases h1
        case' true => cases I
        all_goals
          go_enter Try.func6, Try.ntmps6
          go_wp2_with fail
          refine (C1.out _ HR.out).mono ?_
          rintro e w1 ⟨v1, rfl, hr1, hb1⟩
          have B1 := Lib.hid hb1
          have R1 := Lib.hid hr1
          clear hb1 hr1
          go_wp2_with fail
          refine (C2.out _).mono ?_
          rintro e w2 ⟨rfl, hb2⟩
          have B2 := Lib.hid (B1.out.trans (hb2.mono B1.out.size))
          have R2 := Lib.hid (R1.out.below hb2)
          clear hb2
          go_wp2_with fail
          refine (C4.out _ _ R2.out).mono ?_
          rintro e w3 ⟨rfl, hb3⟩
          have B3 := Lib.hid (B2.out.trans (hb3.mono B2.out.size))
          clear hb3
          go_wp2_with fail
          first
            | (refine (C3.out _ (HR.out.below B3.out)).mono ?_
               rintro e w4 ⟨rfl, hb4⟩
               have B4 := Lib.hid (B3.out.trans (hb4.mono B3.out.size))
               clear hb4
               go_wp2_with fail
               refine (alive_any _).mono ?_
               rintro e w6 ⟨rfl, hb6⟩
               have B6 := Lib.hid (B4.out.trans (hb6.mono B4.out.size))
               clear hb6
               go_wp2_with fail
               go_ret
               exact ⟨rfl, B6.out⟩)
            | (refine (alive_any _).mono ?_
               rintro e w6 ⟨rfl, hb6⟩
               have B6 := Lib.hid (B3.out.trans (hb6.mono B3.out.size))
               clear hb6
               go_wp2_with fail
               go_ret
               exact ⟨rfl, B6.out⟩)
      · have k1 : ((h2 : Int) != 0) = true := by simpa using hh2
        clear HLAW HLSZ hh2
        go_enter Try.func6, Try.ntmps6
        go_wp2_with fail
        refine (C1.out _ HR.out).mono ?_
        rintro e w1 ⟨v1, rfl, hr1, hb1⟩
        have B1 := Lib.hid hb1
        clear hb1 hr1
        go_wp2_with fail
        refine (C2.out _).mono ?_
        rintro e w2 ⟨rfl, hb2⟩
        have B2 := Lib.hid (B1.out.trans (hb2.mono B1.out.size))
        clear hb2
        go_wp2_with fail
        refine (alive_any _).mono ?_
        rintro e w6 ⟨rfl, hb6⟩
        have B6 := Lib.hid (B2.out.trans (hb6.mono B2.out.size))
        clear hb6
        go_wp2_with fail
        go_ret
        exact ⟨rfl, B6.out⟩
    · have k1 : ((s2 : Int) != 0) = true := by simpa using hs2
      clear HLAW HLSZ hs2
      go_enter Try.func6, Try.ntmps6
      go_wp2_with fail
      refine (C1.out _ HR.out).mono ?_
      rintro e w1 ⟨v1, rfl, hr1, hb1⟩
      have B1 := Lib.hid hb1
      clear hb1 hr1
      go_wp2_with fail
      refine (C2.out _).mono ?_
      rintro e w2 ⟨rfl, hb2⟩
      have B2 := Lib.hid (B1.out.trans (hb2.mono B1.out.size))
      clear hb2
      go_wp2_with fail
      refine (alive_any _).mono ?_
      rintro e w6 ⟨rfl, hb6⟩
      have B6 := Lib.hid (B2.out.trans (hb6.mono B2.out.size))
      clear hb6
      go_wp2_with fail
      go_ret
      exact ⟨rfl, B6.out⟩
  · obtain ⟨ad, len, cap, rfl, hl, hlm, hel⟩ := rdsS_form hr
    have HSZ := Lib.hid hsz
    have HR := Lib.hid hr
    have h8' : ¬ (8 : Int) < (len : Int) := by omega
    have HN : Hid ((ls.length + 1) * 16 ≤ 140737488355328) := by unfold Hid; omega
    unfold maxLen at hlm
    clear hr hl hel hsz h8
    have HLAW := Lib.hid (fun (k1 : (Cb.LeftS c.data.toList (lb ls)).2 = 0) (k2 : (Cb.HasS c.data.toList h.data.toList).2 = 0) => Cb.allOrLeft_law k1 k2)
    have HLSZ : Hid (∀ s ∈ (Cb.LeftS c.data.toList (lb ls)).1.map bs, s.size ≤ maxLen) := left_sizes c ls
    generalize hS : Cb.LeftS c.data.toList (lb ls) = S at HLAW HLSZ
    generalize hH : Cb.HasS c.data.toList h.data.toList = H at HLAW
    generalize hI : Cb.inS (lb ls) h.data.toList = I at HLAW
    have C1 : Hid (∀ (W : World), RdsS W (.slice ad len cap) ls → Calls Try.prog 19 #[.string c, (.slice ad len cap)] W fun e w' => ∃ v', e = .returned (.tuple #[v', .int .i64 S.2]) ∧ RdsS w' v' (S.1.map bs) ∧ Below W.heap.size W w') := fun W hw => by rw [← hS]; exact Left_any c _ ls W hw hc HSZ.out HN.out
    have C2 : Hid (∀ (W : World), Calls Try.prog 17 #[.string c, .string h] W fun e w' => e = .returned (.tuple #[.bool H.1, .int .i64 H.2]) ∧ Below W.heap.size W w') := fun W => Has_any c h W hc hh _ hH
    have C3 : Hid (∀ (W : World), RdsS W (.slice ad len cap) ls → Calls Try.prog 20 #[(.slice ad len cap), .string h] W fun e w' => e = .returned (.bool I) ∧ Below W.heap.size W w') := fun W hw => in_any _ ls h W hw HSZ.out hh _ hI
    clear hS hH hI
    obtain ⟨s1, s2⟩ := S
    obtain ⟨h1, h2⟩ := H
    by_cases hs2 : s2 = 0
    · subst hs2
      by_cases hh2 : h2 = 0
      · subst hh2
        have hl : Hid (Cb.inS s1 h.data.toList = (h1 && !I)) := HLAW.out rfl rfl
        have C4 : Hid (∀ (W : World) (v' : Value), RdsS W v' (s1.map bs) → Calls Try.prog 20 #[v', .string h] W fun e w' => e = .returned (.bool (h1 && !I)) ∧ Below W.heap.size W w') := fun W v' hw => in_any v' (s1.map bs) h W hw HLSZ.out hh _ (by rw [lb_bs]; exact hl.out)
        clear HLAW HLSZ hl
        cases h1
        case' true => cases I
        all_goals
          go_enter Try.func6, Try.ntmps6
          go_wp2_with fail
          refine (C1.out _ HR.out).mono ?_
          rintro e w1 ⟨v1, rfl, hr1, hb1⟩
          have B1 := Lib.hid hb1
          have R1 := Lib.hid hr1
          clear hb1 hr1
          go_wp2_with fail
          refine (C2.out _).mono ?_
          rintro e w2 ⟨rfl, hb2⟩
          have B2 := Lib.hid (B1.out.trans (hb2.mono B1.out.size))
          have R2 := Lib.hid (R1.out.below hb2)
          clear hb2
          go_wp2_with fail
          refine (C4.out _ _ R2.out).mono ?_
          rintro e w3 ⟨rfl, hb3⟩
          have B3 := Lib.hid (B2.out.trans (hb3.mono B2.out.size))
          clear hb3
          go_wp2_with fail
          first
            | (refine (C3.out _ (HR.out.below B3.out)).mono ?_
               rintro e w4 ⟨rfl, hb4⟩
               have B4 := Lib.hid (B3.out.trans (hb4.mono B3.out.size))
               clear hb4
               go_wp2_with fail
               refine (alive_any _).mono ?_
               rintro e w6 ⟨rfl, hb6⟩
               have B6 := Lib.hid (B4.out.trans (hb6.mono B4.out.size))
               clear hb6
               go_wp2_with fail
               go_ret
               exact ⟨rfl, B6.out⟩)
            | (refine (alive_any _).mono ?_
               rintro e w6 ⟨rfl, hb6⟩
               have B6 := Lib.hid (B3.out.trans (hb6.mono B3.out.size))
               clear hb6
               go_wp2_with fail
               go_ret
               exact ⟨rfl, B6.out⟩)
      · have k1 : ((h2 : Int) != 0) = true := by simpa using hh2
        clear HLAW HLSZ hh2
        go_enter Try.func6, Try.ntmps6
        go_wp2_with fail
        refine (C1.out _ HR.out).mono ?_
        rintro e w1 ⟨v1, rfl, hr1, hb1⟩
        have B1 := Lib.hid hb1
        clear hb1 hr1
        go_wp2_with fail
        refine (C2.out _).mono ?_
        rintro e w2 ⟨rfl, hb2⟩
        have B2 := Lib.hid (B1.out.trans (hb2.mono B1.out.size))
        clear hb2
        go_wp2_with fail
        refine (alive_any _).mono ?_
        rintro e w6 ⟨rfl, hb6⟩
        have B6 := Lib.hid (B2.out.trans (hb6.mono B2.out.size))
        clear hb6
        go_wp2_with fail
        go_ret
        exact ⟨rfl, B6.out⟩
    · have k1 : ((s2 : Int) != 0) = true := by simpa using hs2
      clear HLAW HLSZ hs2
      go_enter Try.func6, Try.ntmps6
      go_wp2_with fail
      refine (C1.out _ HR.out).mono ?_
      rintro e w1 ⟨v1, rfl, hr1, hb1⟩
      have B1 := Lib.hid hb1
      clear hb1 hr1
      go_wp2_with fail
      refine (C2.out _).mono ?_
      rintro e w2 ⟨rfl, hb2⟩
      have B2 := Lib.hid (B1.out.trans (hb2.mono B1.out.size))
      clear hb2
      go_wp2_with fail
      refine (alive_any _).mono ?_
      rintro e w6 ⟨rfl, hb6⟩
      have B6 := Lib.hid (B2.out.trans (hb6.mono B2.out.size))
      clear hb6
      go_wp2_with fail
      go_ret
      exact ⟨rfl, B6.out⟩
end Go.Proofs.Ythldnldhplcfbaa
