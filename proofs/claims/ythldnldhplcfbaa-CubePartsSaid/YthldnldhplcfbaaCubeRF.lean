/-
  Walks over the reference of layer 1: Apart.
-/
import Derived.Test.YthldnldhplcfbaaCubeRE
namespace Go.Proofs.Ythldnldhplcfbaa
open Go.RowKit

theorem rboth_any (a b : ByteArray) (w : World) (hb : b.size = a.size) (ha : Cb.isCube a.data.toList = true) (r : Bool) (hr : (Cb.meet a.data.toList b.data.toList).isNone = !r) :
    Calls Try.prog 30 #[.string a, .string b] w fun e w' => ∃ s, e = .returned (.tuple #[.string s, .bool r]) ∧ Below w.heap.size w w' := by
  have hl := Cb.ofB_len ha
  have ha2 : a.size ≤ 128 := by simpa using hl.2
  have ha1 : 1 ≤ a.size := by simpa using hl.1
  cases hm : Cb.meet a.data.toList b.data.toList with
  | none =>
    obtain rfl : r = false := by rw [hm] at hr; simpa using hr
    exact (both_no w hb ha2 ha1 hm).mono fun e w' h => ⟨_, h.1, h.2⟩
  | some m =>
    obtain rfl : r = true := by rw [hm] at hr; simpa using hr
    exact (both_yes (m := bs m) w hb ha2 ha1 hm).mono fun e w' h => ⟨_, h.1, h.2⟩

set_option maxHeartbeats 400000 in
theorem rApart_bad (v : Value) (ss : List ByteArray) (w : World) (hr : RdsS w v ss) (hsz : ∀ s ∈ ss, s.size ≤ maxLen) (q : Int) (hw : ¬ q = 0) (hq : Cb.wrong (lb ss) = q) :
    Calls Try.prog 23 #[v] w fun e w' => e = .returned (.tuple #[.bool false, .int .i64 q]) ∧ Below w.heap.size w w' := by
  have HR := Lib.hid hr
  have HSZ := Lib.hid hsz
  have HQ := Lib.hid hq
  have hne : ((q : Int) != 0) = true := by simpa using hw
  clear hr hw hsz hq
  go_enter Try.func23, Try.ntmps23
  go_wp2_with fail
  refine (wrong_any _ _ _ HR.out HSZ.out).mono ?_
  rintro e w' ⟨rfl, k, rfl⟩
  rw [HQ.out]
  go_wp2_with fail
  go_ret2
  exact ⟨rfl, below_dN (Below.refl _ _) k⟩

set_option maxHeartbeats 1000000 in
theorem rApart_go (v : Value) (ss : List ByteArray) (w : World) (hr : RdsS w v ss) (hsz : ∀ s ∈ ss, s.size ≤ maxLen) (hw : Cb.wrong (lb ss) = 0)
    (m : Nat) (hm : m ≤ ss.length) (h1 : ∀ i (_ : i < m), Cb.apartAt (lb ss) i = true) (h2 : m < ss.length → Cb.apartAt (lb ss) m = false) (q : Bool) (hq : q = decide (m = ss.length)) :
    Calls Try.prog 23 #[v] w fun e w' => e = .returned (.tuple #[.bool q, .int .i64 0]) ∧ Below w.heap.size w w' := by
  have HR := Lib.hid hr
  have HW := Lib.hid hw
  have HSZ := Lib.hid hsz
  obtain ⟨ad, len, cap, rfl, hl, hlm, hel⟩ := rdsS_form hr
  have HL := Lib.hid hl
  have HEL := Lib.hid hel
  have hml : m ≤ len := by omega
  have HWI : Hid (∀ s ∈ ss, ∀ t ∈ ss, s.size = t.size) := fun s hs t ht => by
    have h := (Cb.wrong_zero hw).2
    have a1 := h s.data.toList (List.mem_map.2 ⟨s, hs, rfl⟩)
    have a2 := h t.data.toList (List.mem_map.2 ⟨t, ht, rfl⟩)
    have : s.data.toList.length = t.data.toList.length := a1.trans a2.symm
    simpa using this
  have HCU : Hid (∀ s ∈ ss, Cb.isCube s.data.toList = true) := fun s hs => (Cb.wrong_zero hw).1 _ (List.mem_map.2 ⟨s, hs, rfl⟩)
  have H1 := Lib.hid h1
  have H2 := Lib.hid h2
  have HQ := Lib.hid hq
  unfold maxLen at hlm
  clear hr hw hsz hl hel hm h1 h2 hq
  go_enter Try.func23, Try.ntmps23
  go_wp2_with fail
  refine (wrong_any _ _ _ HR.out HSZ.out).mono ?_
  rintro e w' ⟨rfl, k, rfl⟩
  rw [HW.out]
  have HB0 := Lib.hid (below_dN (Below.refl w.heap.size w) k)
  generalize w.drewN k = w1 at *
  go_wp2_with fail
  go_loopw [5, 6] (fun k _ wr => ∃ n : Nat, n ≤ m ∧ k = .int .i64 n ∧ Hid (Below w.heap.size w wr)) (fun k _ _ => len - (intOf k).toNat)
  case atStart => exact ⟨0, Nat.zero_le _, rfl, HB0⟩
  case round =>
    obtain ⟨n, hn, rfl, HV⟩ := hrel
    clear HB0
    by_cases hlt : n < len
    · have hn' : n < ss.length := by rw [← HL.out]; exact hlt
      have HA := Lib.hid (apartAt_lb ss n hn')
      obtain ⟨p, hp, hp1, hp2⟩ : ∃ p, p ≤ n ∧ (∀ i (h : i < p) (hi : i < ss.length), (Cb.meet ss[n].data.toList ss[i].data.toList).isNone = true) ∧ (∀ (_ : p < n) (hi : p < ss.length), (Cb.meet ss[n].data.toList ss[p].data.toList).isNone = false) ∧ (p = n ↔ Cb.apartAt (lb ss) n = true) := by
        cases h : ((ss.take n).all fun s => (Cb.meet ss[n].data.toList s.data.toList).isNone) with
        | true =>
          refine ⟨n, Nat.le_refl _, fun i hi _ => ?_, fun h => absurd h (Nat.lt_irrefl _), by rw [HA.out, h]; simp⟩
          have := Cb.all_get h i (by simp; omega)
          simpa using this
        | false =>
          obtain ⟨p, hp, h3, h4⟩ := Cb.first_false _ _ h
          have hp' : p < n := by simp at hp; omega
          refine ⟨p, Nat.le_of_lt hp', fun i hi _ => by simpa using h4 i hi, fun _ _ => by simpa using h3, ?_⟩
          rw [HA.out, h]; simp; omega
      have HP1 := Lib.hid hp1
      have HP2 := Lib.hid hp2
      have hVs := HV.out.size
      have hni0 : (0 : Int) ≤ (n : Int) := by omega
      have hni1 : (n : Int) < (len : Int) := by omega
      have HPn : Hid (p < n → n = m) := fun h => by
        rcases Nat.lt_or_ge n m with h5 | h5
        · have h6 := HP2.out.2.2 (H1.out n h5); omega
        · omega
      have HPm : Hid (p = n → n < m) := fun h => by
        rcases Nat.lt_or_ge n m with h5 | h5
        · exact h5
        · have h6 : n = m := by omega
          have h7 := HP2.out.2.1 h
          subst h6
          rw [H2.out hn'] at h7; cases h7
      clear hp1 hp2
      obtain ⟨wo, rfl⟩ : ∃ wo : World, wo = wr := ⟨_, rfl⟩
      go_wp2_with fail
      go_loopw [6] (fun k wr => ∃ j : Nat, j ≤ p ∧ k = .int .i64 j ∧ Hid (Below w.heap.size w wr)) (fun k _ => n - (intOf k).toNat)
      case atStart => exact ⟨0, Nat.zero_le _, rfl, HV⟩
      case round =>
        obtain ⟨j, hj, rfl, HB⟩ := hrel
        by_cases hjn : j < n
        · have hj' : j < ss.length := by omega
          obtain ⟨b, off, rfl, hb, hcell⟩ := HEL.out n hn'
          obtain ⟨b', off', he, hb', hcell'⟩ := HEL.out j hj'
          injection he with he
          injection he with he1 he2
          subst he1 he2
          have hcell2 : wr.cell? ⟨b, off + n, none⟩ = some (.string ss[n]) := (HB.out.cell (p := ⟨b, off + n, none⟩) hb).trans hcell
          have hcell3 : wr.cell? ⟨b, off + j, none⟩ = some (.string ss[j]) := (HB.out.cell (p := ⟨b, off + j, none⟩) hb).trans hcell'
          have hji0 : (0 : Int) ≤ (j : Int) := by omega
          have hji1 : (j : Int) < (len : Int) := by omega
          have hws := Lib.hid (HWI.out _ (List.getElem_mem hj') _ (List.getElem_mem hn'))
          have hcu := Lib.hid (HCU.out _ (List.getElem_mem hn'))
          have hwb := HB.out.size
          clear hcell hcell'
          by_cases hjp : j < p
          · have hc := Lib.hid (fun W => rboth_any ss[n] ss[j] W hws.out hcu.out false (HP1.out j hjp hj'))
            go_wp2_with fail
            go_region_law (go_simp; go_at_call 30; refine (hc.out _).mono ?_; rintro e w3 ⟨s3, rfl, hb3⟩)
            all_goals
              have HB3 := Lib.hid (HB.out.drew.trans (hb3.mono hwb))
              clear hb3
              go_wp2_with fail
              go_roundw
              case rel => exact ⟨j + 1, by omega, by go_num, HB3⟩
              case measure => simp [intOf]; omega
          · obtain rfl : j = p := by omega
            have hc := Lib.hid (fun W => rboth_any ss[n] ss[j] W hws.out hcu.out true (HP2.out.1 hjn hj'))
            have hqf : Hid (q = false) := by
              have e := HPn.out hjn
              unfold Hid; rw [HQ.out]; simp; omega
            go_wp2_with fail
            go_region_law (go_simp; go_at_call 30; refine (hc.out _).mono ?_; rintro e w3 ⟨s3, rfl, hb3⟩)
            all_goals
              have HB3 := Lib.hid (HB.out.drew.trans (hb3.mono hwb))
              clear hb3
              go_wp2_with fail
              go_ret2
              exact ⟨by rw [hqf.out]; rfl, HB3.out⟩
        · have hpn : p = n := by omega
          have hnm := HPm.out hpn
          clear hpn
          go_wp2_with fail
          go_roundw
          case rel => exact ⟨n + 1, by omega, by go_num, HB⟩
          case measure => simp [intOf]; omega
    · have hqt : Hid (q = true) := by unfold Hid; rw [HQ.out]; have := HL.out; simp; omega
      go_wp2_with fail
      go_ret2
      exact ⟨by rw [hqt.out]; rfl, HV.out⟩

theorem rApart_any : ApartPost 23 := by
  intro v ss w hr hsz
  by_cases hw : Cb.wrong (lb ss) = 0
  · obtain ⟨m, hm, h1, h2, h3⟩ := apart_first ss
    refine (rApart_go v ss w hr hsz hw m hm (fun i hi => h1 i hi) h2 _ rfl).mono fun e w' h => ⟨?_, h.2⟩
    rw [h.1]; unfold Cb.ApartS; rw [if_pos hw, h3]
  · refine (rApart_bad v ss w hr hsz _ hw rfl).mono fun e w' h => ⟨?_, h.2⟩
    rw [h.1]; unfold Cb.ApartS; rw [if_neg hw]
end Go.Proofs.Ythldnldhplcfbaa
