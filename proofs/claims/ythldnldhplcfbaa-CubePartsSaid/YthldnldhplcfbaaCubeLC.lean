/-
  The laws CubeLeaves, CubeAllOrLeft and CubeParts of layer 1, walked.
-/
import Derived.Test.YthldnldhplcfbaaCubeRF
import Derived.Test.YthldnldhplcfbaaCubePureM
namespace Go.Proofs.Ythldnldhplcfbaa
open Go.RowKit

set_option maxHeartbeats 400000 in
theorem in_any (v : Value) (ss : List ByteArray) (h : ByteArray) (w : World) (hr : RdsS w v ss) (hsz : ∀ s ∈ ss, s.size ≤ maxLen) (hh : h.size ≤ maxLen) (r : Bool) (hq : Cb.inS (lb ss) h.data.toList = r) :
    Calls Try.prog 20 #[v, .string h] w fun e w' => e = .returned (.bool r) ∧ Below w.heap.size w w' := by
  obtain ⟨ad, len, cap, rfl, hl, hlm, hel⟩ := rdsS_form hr
  have HL := Lib.hid hl
  have HEL := Lib.hid hel
  have HSZ := Lib.hid hsz
  obtain ⟨m, hm, h1, h2, h3⟩ : ∃ m, m ≤ ss.length ∧ (∀ i (_ : i < m) (hi : i < ss.length), (Cb.HasS ss[i].data.toList h.data.toList).1 = false) ∧ (∀ (hi : m < ss.length), (Cb.HasS ss[m].data.toList h.data.toList).1 = true) ∧ r = decide (m < ss.length) := by
    cases hr2 : r with
    | false =>
      refine ⟨ss.length, Nat.le_refl _, fun i _ hi => ?_, fun h => absurd h (Nat.lt_irrefl _), by simp⟩
      rw [hr2] at hq
      unfold Cb.inS at hq
      rw [List.any_eq_false] at hq
      have := hq ss[i].data.toList (List.mem_map.2 ⟨_, List.getElem_mem hi, rfl⟩)
      simpa using this
    | true =>
      rw [hr2] at hq
      unfold Cb.inS at hq
      have hq2 : (lb ss).all (fun c => !(Cb.HasS c h.data.toList).1) = false := by
        rw [List.all_eq_false]
        obtain ⟨c, hc, h1⟩ := List.any_eq_true.1 hq
        exact ⟨c, hc, by simp [h1]⟩
      obtain ⟨m, hm, h4, h5⟩ := Cb.first_false _ _ hq2
      have hm' : m < ss.length := by simpa using hm
      exact ⟨m, Nat.le_of_lt hm', fun i hi _ => by have := h5 i hi; simpa using this, fun _ => by simpa using h4, by simp [hm']⟩
  have H1 := Lib.hid h1
  have H2 := Lib.hid h2
  have H3 := Lib.hid h3
  have hml : m ≤ len := by omega
  unfold maxLen at hlm
  clear hr hl hel hsz h1 h2 h3 hq
  go_enter Try.func20, Try.ntmps20
  go_wp2_with fail
  go_loopw [5, 6, 7] (fun k _ _ wr => ∃ n : Nat, n ≤ m ∧ k = .int .i64 n ∧ Hid (Below w.heap.size w wr)) (fun k _ _ _ => len - (intOf k).toNat)
  case atStart => exact ⟨0, Nat.zero_le _, rfl, Below.refl _ _⟩
  case round =>
    obtain ⟨n, hn, rfl, HB⟩ := hrel
    by_cases hlt : n < len
    · have hn' : n < ss.length := by rw [← HL.out]; exact hlt
      obtain ⟨b, off, rfl, hb, hcell⟩ := HEL.out n hn'
      have hcell2 : wr.cell? ⟨b, off + n, none⟩ = some (.string ss[n]) := (HB.out.cell (p := ⟨b, off + n, none⟩) hb).trans hcell
      have hsn := HSZ.out _ (List.getElem_mem hn')
      have hwb := HB.out.size
      clear hcell
      by_cases hnm : n < m
      · obtain ⟨g, hg⟩ : ∃ g, Cb.HasS ss[n].data.toList h.data.toList = (false, g) := by
          have := H1.out n hnm hn'
          cases hS : Cb.HasS ss[n].data.toList h.data.toList with
          | mk x y => rw [hS] at this; exact ⟨y, by rw [show x = false from this]⟩
        have HG := Lib.hid hg
        clear hg
        go_wp2_with fail
        refine (Has_any ss[n] h _ hsn hh _ HG.out).mono ?_
        rintro e w1 ⟨rfl, hb1⟩
        have HB1 := Lib.hid (HB.out.trans (hb1.mono hwb))
        clear hb1
        go_wp2_with fail
        go_roundw
        case rel => exact ⟨n + 1, by omega, by go_num, HB1⟩
        case measure => simp [intOf]; omega
      · obtain rfl : n = m := by omega
        have hg : Cb.HasS ss[n].data.toList h.data.toList = (true, 0) := by
          have h1 := H2.out hn'
          have h0 := Cb.HasS_true h1
          cases hS : Cb.HasS ss[n].data.toList h.data.toList with
          | mk x y => rw [hS] at h1 h0; rw [show x = true from h1, show y = 0 from h0]
        have HG := Lib.hid hg
        clear hg
        go_wp2_with fail
        refine (Has_any ss[n] h _ hsn hh _ HG.out).mono ?_
        rintro e w1 ⟨rfl, hb1⟩
        have HB1 := Lib.hid (HB.out.trans (hb1.mono hwb))
        clear hb1
        go_wp2_with fail
        go_ret
        exact ⟨ret_bool (by rw [H3.out]; simp; omega), HB1.out⟩
    · go_wp2_with fail
      go_ret
      exact ⟨ret_bool (by rw [H3.out]; have := HL.out; simp; omega), HB.out⟩

set_option maxHeartbeats 1000000 in
theorem CubeLeaves_walk (c : ByteArray) (v : Value) (ls : List ByteArray) (w : World) (hc0 : c.size ≤ 140737488351232) (hr : RdsS w v ls) (hsz : ∀ s ∈ ls, s.size ≤ maxLen) (_hn : ls.length * 16 ≤ 140737488351232) :
    Calls Try.prog 8 #[.string c, v] w fun e w' => e = .returned (.bool true) ∧ Below w.heap.size w w' := by
  have hc := reach_max hc0
  clear hc0 _hn
  by_cases h8 : 8 < ls.length
  · obtain ⟨b, off, cap, rfl, hcap, hcm, hb, hcell, hrt⟩ := rdsS_take hr 8 h8
    have hlt : (ls.take 8).length = 8 := by simp; omega
    obtain ⟨l8, hl8⟩ : ∃ l8, l8 = ls.take 8 := ⟨_, rfl⟩
    rw [← hl8] at hrt hlt
    have HSZ : Hid (∀ s ∈ l8, s.size ≤ maxLen) := fun s hs => hsz s (List.mem_of_mem_take (by rw [← hl8]; exact hs))
    have hi1 : (8 : Int) ≤ (cap : Int) := by omega
    have h8' : (8 : Int) < (ls.length : Int) := by omega
    have hlen : ls.length ≤ 9223372036854775807 := by unfold maxLen at hcm; omega
    have HR := Lib.hid hrt
    have HN : Hid ((l8.length + 1) * 16 ≤ 140737488355328) := by unfold Hid; omega
    unfold maxLen at hcm
    clear hr hcap hb hcell hrt hlt hl8 hsz
    generalize hS : Cb.LeftS c.data.toList (lb l8) = S
    generalize hP : Cb.ApartS (lb l8) = P
    have C1 : Hid (∀ (W : World), RdsS W (.slice (some ⟨b, off, none⟩) 8 cap) l8 → Calls Try.prog 19 #[.string c, (.slice (some ⟨b, off, none⟩) 8 cap)] W fun e w' => ∃ v', e = .returned (.tuple #[v', .int .i64 S.2]) ∧ RdsS w' v' (S.1.map bs) ∧ Below W.heap.size W w') := fun W hw => by rw [← hS]; exact Left_any c _ l8 W hw hc HSZ.out HN.out
    have C2 : Hid (∀ (W : World), RdsS W (.slice (some ⟨b, off, none⟩) 8 cap) l8 → Calls Try.prog 22 #[.string c, (.slice (some ⟨b, off, none⟩) 8 cap)] W fun e w' => ∃ v', e = .returned (.tuple #[v', .int .i64 S.2]) ∧ RdsS w' v' (S.1.map bs) ∧ Below W.heap.size W w') := fun W hw => by rw [← hS]; exact rLeft_any c _ l8 W hw hc HSZ.out HN.out
    have C3 : Hid (∀ (W : World), RdsS W (.slice (some ⟨b, off, none⟩) 8 cap) l8 → Calls Try.prog 21 #[(.slice (some ⟨b, off, none⟩) 8 cap)] W fun e w' => e = .returned (.tuple #[.bool P.1, .int .i64 P.2]) ∧ Below W.heap.size W w') := fun W hw => by rw [← hP]; exact Apart_any _ l8 W hw HSZ.out
    have C4 : Hid (∀ (W : World), RdsS W (.slice (some ⟨b, off, none⟩) 8 cap) l8 → Calls Try.prog 23 #[(.slice (some ⟨b, off, none⟩) 8 cap)] W fun e w' => e = .returned (.tuple #[.bool P.1, .int .i64 P.2]) ∧ Below W.heap.size W w') := fun W hw => by rw [← hP]; exact rApart_any _ l8 W hw HSZ.out
    clear hS hP
    obtain ⟨s1, s2⟩ := S
    obtain ⟨p1, p2⟩ := P
    go_enter Try.func8, Try.ntmps8
    go_wp2_with fail
    refine (C1.out _ HR.out).mono ?_
    rintro e w1 ⟨v1, rfl, hr1, hb1⟩
    have B1 := Lib.hid hb1
    have R1 := Lib.hid hr1
    clear hb1 hr1
    go_wp2_with fail
    refine (C2.out _ (HR.out.below B1.out)).mono ?_
    rintro e w2 ⟨v2, rfl, hr2, hb2⟩
    have B2 := Lib.hid (B1.out.trans (hb2.mono B1.out.size))
    have R1' := Lib.hid (R1.out.below hb2)
    have R2 := Lib.hid hr2
    clear hb2 hr2
    go_wp2_with fail
    refine (C3.out _ (HR.out.below B2.out)).mono ?_
    rintro e w3 ⟨rfl, hb3⟩
    have B3 := Lib.hid (B2.out.trans (hb3.mono B2.out.size))
    have R1'' := Lib.hid (R1'.out.below hb3)
    have R2' := Lib.hid (R2.out.below hb3)
    clear hb3
    go_wp2_with fail
    refine (C4.out _ (HR.out.below B3.out)).mono ?_
    rintro e w4 ⟨rfl, hb4⟩
    have B4 := Lib.hid (B3.out.trans (hb4.mono B3.out.size))
    have R1a := Lib.hid (R1''.out.below hb4)
    have R2a := Lib.hid (R2'.out.below hb4)
    clear hb4
    go_wp2_with fail
    refine (Texts_same R1a.out R2a.out).mono ?_
    rintro e w5 ⟨rfl, k, rfl⟩
    go_wp2_with fail
    refine (alive_any _).mono ?_
    rintro e w6 ⟨rfl, hb6⟩
    have B6 := Lib.hid ((below_dN B4.out k).trans (hb6.mono B4.out.size))
    clear hb6
    go_wp2_with fail
    go_ret
    exact ⟨rfl, B6.out⟩
  · obtain ⟨ad, len, cap, rfl, hl, hlm, hel⟩ := rdsS_form hr
    have HSZ := Lib.hid hsz
    have HR := Lib.hid hr
    have h8' : ¬ (8 : Int) < (len : Int) := by omega
    have HN : Hid ((ls.length + 1) * 16 ≤ 140737488355328) := by unfold Hid; omega
    unfold maxLen at hlm
    clear hr hl hel hsz h8
    generalize hS : Cb.LeftS c.data.toList (lb ls) = S
    generalize hP : Cb.ApartS (lb ls) = P
    have C1 : Hid (∀ (W : World), RdsS W (.slice ad len cap) ls → Calls Try.prog 19 #[.string c, (.slice ad len cap)] W fun e w' => ∃ v', e = .returned (.tuple #[v', .int .i64 S.2]) ∧ RdsS w' v' (S.1.map bs) ∧ Below W.heap.size W w') := fun W hw => by rw [← hS]; exact Left_any c _ ls W hw hc HSZ.out HN.out
    have C2 : Hid (∀ (W : World), RdsS W (.slice ad len cap) ls → Calls Try.prog 22 #[.string c, (.slice ad len cap)] W fun e w' => ∃ v', e = .returned (.tuple #[v', .int .i64 S.2]) ∧ RdsS w' v' (S.1.map bs) ∧ Below W.heap.size W w') := fun W hw => by rw [← hS]; exact rLeft_any c _ ls W hw hc HSZ.out HN.out
    have C3 : Hid (∀ (W : World), RdsS W (.slice ad len cap) ls → Calls Try.prog 21 #[(.slice ad len cap)] W fun e w' => e = .returned (.tuple #[.bool P.1, .int .i64 P.2]) ∧ Below W.heap.size W w') := fun W hw => by rw [← hP]; exact Apart_any _ ls W hw HSZ.out
    have C4 : Hid (∀ (W : World), RdsS W (.slice ad len cap) ls → Calls Try.prog 23 #[(.slice ad len cap)] W fun e w' => e = .returned (.tuple #[.bool P.1, .int .i64 P.2]) ∧ Below W.heap.size W w') := fun W hw => by rw [← hP]; exact rApart_any _ ls W hw HSZ.out
    clear hS hP
    obtain ⟨s1, s2⟩ := S
    obtain ⟨p1, p2⟩ := P
    go_enter Try.func8, Try.ntmps8
    go_wp2_with fail
    refine (C1.out _ HR.out).mono ?_
    rintro e w1 ⟨v1, rfl, hr1, hb1⟩
    have B1 := Lib.hid hb1
    have R1 := Lib.hid hr1
    clear hb1 hr1
    go_wp2_with fail
    refine (C2.out _ (HR.out.below B1.out)).mono ?_
    rintro e w2 ⟨v2, rfl, hr2, hb2⟩
    have B2 := Lib.hid (B1.out.trans (hb2.mono B1.out.size))
    have R1' := Lib.hid (R1.out.below hb2)
    have R2 := Lib.hid hr2
    clear hb2 hr2
    go_wp2_with fail
    refine (C3.out _ (HR.out.below B2.out)).mono ?_
    rintro e w3 ⟨rfl, hb3⟩
    have B3 := Lib.hid (B2.out.trans (hb3.mono B2.out.size))
    have R1'' := Lib.hid (R1'.out.below hb3)
    have R2' := Lib.hid (R2.out.below hb3)
    clear hb3
    go_wp2_with fail
    refine (C4.out _ (HR.out.below B3.out)).mono ?_
    rintro e w4 ⟨rfl, hb4⟩
    have B4 := Lib.hid (B3.out.trans (hb4.mono B3.out.size))
    have R1a := Lib.hid (R1''.out.below hb4)
    have R2a := Lib.hid (R2'.out.below hb4)
    clear hb4
    go_wp2_with fail
    refine (Texts_same R1a.out R2a.out).mono ?_
    rintro e w5 ⟨rfl, k, rfl⟩
    go_wp2_with fail
    refine (alive_any _).mono ?_
    rintro e w6 ⟨rfl, hb6⟩
    have B6 := Lib.hid ((below_dN B4.out k).trans (hb6.mono B4.out.size))
    clear hb6
    go_wp2_with fail
    go_ret
    exact ⟨rfl, B6.out⟩
end Go.Proofs.Ythldnldhplcfbaa
