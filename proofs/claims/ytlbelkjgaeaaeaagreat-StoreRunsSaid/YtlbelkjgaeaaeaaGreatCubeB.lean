/-
  Walks over package cube: must.
-/
import Derived.Test.YtlbelkjgaeaaeaaGreatCubeA
import Derived.Test.YtlbelkjgaeaaeaaGreatRds
namespace Go.Proofs.YtlbelkjgaeaaeaaGreat
open Go.RowKit

/-- A panic of package cube. -/
abbrev cubeFault (code : Int) : Ending := .panicked [{ v := .iface 130 (.agg #[.int .i64 code]), recovered := false }]

/-- Strings as lists of bytes. -/
abbrev lb (ss : List ByteArray) : List (List UInt8) := ss.map (·.data.toList)

theorem cub_true {s : ByteArray} (w : World) (hs : s.size ≤ maxLen) (h : Cb.isCube s.data.toList = true) :
    Calls Tryz.prog 68 #[.string s, .string ⟨#[48, 49, 120]⟩] w fun e w' => e = .returned (.bool true) ∧ w = w' :=
  (of_any s _ w hs).mono fun _ _ ⟨h1, h2⟩ => ⟨h1.trans (ret_bool h), h2⟩
theorem cub_false {s : ByteArray} (w : World) (hs : s.size ≤ maxLen) (h : Cb.isCube s.data.toList = false) :
    Calls Tryz.prog 68 #[.string s, .string ⟨#[48, 49, 120]⟩] w fun e w' => e = .returned (.bool false) ∧ w = w' :=
  (of_any s _ w hs).mono fun _ _ ⟨h1, h2⟩ => ⟨h1.trans (ret_bool h), h2⟩

theorem must_nil (a : Option Addr) (c : Nat) (w : World) : Calls Tryz.prog 66 #[.slice a 0 c] w fun e w' => e = .returned (.tuple #[]) ∧ w = w' := by
  go_enter Tryz.func66, Tryz.ntmps66
  go_wp2_with fail
  go_loop [3, 8] (fun _ k => k = .int .i64 0) (fun _ k => 0)
  case atStart => rfl
  case round =>
    subst hrel
    go_wp2_with fail
    go_loop [5, 20] (fun _ k => k = .int .i64 0) (fun _ k => 0)
    case atStart => rfl
    case round =>
      subst hrel
      go_wp2_with fail
      exact bodyPost_end (v := .tuple #[]) (results_none rfl _ _ _) rfl ⟨rfl, rfl⟩

set_option maxHeartbeats 400000 in
set_option maxRecDepth 20000 in
theorem must_cube (ss : List ByteArray) (b off len cap : Nat) (w : World) (hl : Hid (len = ss.length)) (hlm : len ≤ 9223372036854775807)
    (hsz : ∀ s ∈ ss, s.size ≤ maxLen)
    (hc : Hid (∀ i (h : i < ss.length), w.cell? ⟨b, off + i, none⟩ = some (.string ss[i])))
    (hw : (lb ss).all Cb.isCube = false) :
    Calls Tryz.prog 66 #[.slice (some ⟨b, off, none⟩) len cap] w fun e w' => e = cubeFault 10 ∧ w = w' := by
  obtain ⟨m, hm, h1, h2⟩ := Cb.first_false _ _ hw
  have hm' : m < len := by rw [hl.out]; simpa using hm
  have H1 : Hid (Cb.isCube (ss[m]'(by simpa using hm)).data.toList = false) := by simpa [Hid] using h1
  have H2 : Hid (∀ i (hi : i < m), Cb.isCube (ss[i]'(by have := hl.out; omega)).data.toList = true) := fun i hi => by simpa using h2 i hi
  have H3 := Lib.hid hsz
  clear hw h1 h2 hsz
  go_enter Tryz.func66, Tryz.ntmps66
  go_wp2_with fail
  go_loop [3, 8] (fun _ k => ∃ n : Nat, n ≤ m ∧ k = .int .i64 n) (fun _ k => len - (intOf k).toNat)
  case atStart => exact ⟨0, Nat.zero_le _, rfl⟩
  case round =>
    obtain ⟨n, hn, rfl⟩ := hrel
    have hlt : n < len := by omega
    have hn' : n < ss.length := by rw [← hl.out]; omega
    have hcell := hc.out n hn'
    have hsn := H3.out _ (List.getElem_mem hn')
    by_cases hnm : n < m
    · have ho := Lib.hid (H2.out n hnm)
      go_wp2_with ((with_reducible refine (cub_true _ hsn ho.out).mono ?_); rintro e w' ⟨rfl, rfl⟩)
      go_round
      case rel => exact ⟨n + 1, by omega, by go_num⟩
      case measure => simp [intOf]; omega
    · have ho : Hid (Cb.isCube (ss[n]'hn').data.toList = false) := by
        have := H1.out; have e : n = m := by omega
        subst e; exact this
      go_wp2_with ((with_reducible refine (cub_false _ hsn ho.out).mono ?_); rintro e w' ⟨rfl, rfl⟩)
      exact ⟨rfl, rfl, rfl⟩

set_option maxHeartbeats 400000 in
set_option maxRecDepth 20000 in
theorem must_rest (ss : List ByteArray) (b off len cap : Nat) (w : World) (hl : Hid (len = ss.length)) (hlm : len ≤ 9223372036854775807) (m : Nat) (hm : m ≤ len)
    (hsz : ∀ s ∈ ss, s.size ≤ maxLen) (R : Ending → World → Prop)
    (hc : Hid (∀ i (h : i < ss.length), w.cell? ⟨b, off + i, none⟩ = some (.string ss[i])))
    (hw : (lb ss).all Cb.isCube = true)
    (h2 : Hid (∀ i (hi : i < m) (h : i < ss.length), ss[i].size = (ss[0]'(by omega)).size))
    (h3 : Hid (∀ (h : m < ss.length), ss[m].size ≠ (ss[0]'(by omega)).size))
    (hR : Hid (R (if m < len then cubeFault 11 else .returned (.tuple #[])) w)) :
    Calls Tryz.prog 66 #[.slice (some ⟨b, off, none⟩) len cap] w R := by
  have H1 : Hid (∀ i (h : i < ss.length), Cb.isCube ss[i].data.toList = true) := fun i h => by
    have := Cb.all_get hw i (by simpa using h)
    simpa using this
  have H3 := Lib.hid hsz
  clear hw hsz
  go_enter Tryz.func66, Tryz.ntmps66
  go_wp2_with fail
  go_loop [3, 8] (fun _ k => ∃ n : Nat, n ≤ len ∧ k = .int .i64 n) (fun _ k => len - (intOf k).toNat)
  case atStart => exact ⟨0, Nat.zero_le _, rfl⟩
  case round =>
    obtain ⟨n, hn, rfl⟩ := hrel
    by_cases hlt : n < len
    · have hn' : n < ss.length := by rw [← hl.out]; omega
      have hcell := hc.out n hn'
      have hsn := H3.out _ (List.getElem_mem hn')
      have ho := Lib.hid (H1.out n hn')
      go_wp2_with ((with_reducible refine (cub_true _ hsn ho.out).mono ?_); rintro e w' ⟨rfl, rfl⟩)
      go_round
      case rel => exact ⟨n + 1, by omega, by go_num⟩
      case measure => simp [intOf]; omega
    · go_wp2_with fail
      go_loop [5, 20] (fun _ k => ∃ n : Nat, n ≤ m ∧ k = .int .i64 n) (fun _ k => len - (intOf k).toNat)
      case atStart => exact ⟨0, Nat.zero_le _, rfl⟩
      case round =>
        obtain ⟨n, hn, rfl⟩ := hrel
        by_cases hnm : n < m
        · have hn' : n < ss.length := by rw [← hl.out]; omega
          have h0' : 0 < ss.length := by omega
          have hcell := hc.out n hn'
          have hcell0 := hc.out 0 h0'
          have hsn := H3.out _ (List.getElem_mem hn')
          have hs0 := H3.out _ (List.getElem_mem h0')
          have ho := h2.out n hnm hn'
          have hlt2 : n < len := by omega
          have hlt0 : 0 < len := by omega
          simp only [Nat.add_zero] at hcell0
          unfold maxLen at hsn hs0
          go_wp2_with fail
          go_round
          case rel => exact ⟨n + 1, by omega, by go_num⟩
          case measure => simp [intOf]; omega
        · obtain rfl : n = m := by omega
          by_cases hlt3 : n < len
          · have hn' : n < ss.length := by rw [← hl.out]; omega
            have h0' : 0 < ss.length := by omega
            have hcell := hc.out n hn'
            have hcell0 := hc.out 0 h0'
            have hsn := H3.out _ (List.getElem_mem hn')
            have hs0 := H3.out _ (List.getElem_mem h0')
            have ho := h3.out hn'
            have ho2 : (((ss[n].size : Nat) : Int) == ((ss[0].size : Nat) : Int)) = false := by rw [beq_eq_false_iff_ne]; omega
            have hlt0 : 0 < len := by omega
            simp only [Nat.add_zero] at hcell0
            unfold maxLen at hsn hs0
            go_wp2_with fail
            refine ⟨rfl, ?_⟩
            have := hR.out
            rw [if_pos hlt3] at this
            exact this
          · go_wp2_with fail
            have := hR.out
            rw [if_neg hlt3] at this
            exact bodyPost_end (v := .tuple #[]) (results_none rfl _ _ _) rfl this

theorem lb_len (ss : List ByteArray) (i : Nat) (h : i < (lb ss).length) (h' : i < ss.length) (h0 : 0 < ss.length) :
    ((lb ss)[i].length == ((lb ss).headD []).length) = (ss[i].size == (ss[0]'h0).size) := by
  have e1 : (lb ss)[i].length = ss[i].size := by simp
  have e2 : ((lb ss).headD []).length = (ss[0]'h0).size := by
    cases ss with
    | nil => simp at h0
    | cons s0 r => simp
  rw [e1, e2]

/-- What 'must' does with strings that a slice reads as. -/
theorem must_any (ss : List ByteArray) (v : Value) (w : World) (hr : RdsS w v ss) (hsz : ∀ s ∈ ss, s.size ≤ maxLen) :
    Calls Tryz.prog 66 #[v] w fun e w' => (e = if Cb.wrong (lb ss) = 0 then .returned (.tuple #[]) else cubeFault (Cb.wrong (lb ss))) ∧ w = w' := by
  rcases rdsS_cases hr with ⟨_, _, rfl, rfl⟩ | ⟨b, off, len, cap, rfl, hl, h2, h3, h4, h5⟩
  · exact (must_nil _ _ w).mono fun e w' h => ⟨by rw [h.1]; simp [Cb.wrong], h.2⟩
  · unfold maxLen at h3
    by_cases hw : (lb ss).all Cb.isCube = true
    · by_cases hq : (lb ss).all (fun s => s.length == ((lb ss).headD []).length) = true
      · have hz : Cb.wrong (lb ss) = 0 := by unfold Cb.wrong; rw [if_pos hw, if_pos hq]
        refine must_rest ss b off len cap w hl (by omega) len (Nat.le_refl _) hsz _ h5 hw ?_ ?_ ?_
        · intro i hi h
          have := Cb.all_get hq i (by simpa using h)
          rw [lb_len ss i _ h (by omega)] at this
          simpa using this
        · intro h; omega
        · show _ ∧ _
          rw [if_neg (Nat.lt_irrefl _), if_pos hz]
          exact ⟨rfl, rfl⟩
      · have hz : Cb.wrong (lb ss) = 11 := by unfold Cb.wrong; rw [if_pos hw, if_neg hq]
        obtain ⟨m, hm, hm1, hm2⟩ := Cb.first_false _ _ (by simpa using hq : (lb ss).all (fun s => s.length == ((lb ss).headD []).length) = false)
        have hm' : m < ss.length := by simpa using hm
        refine must_rest ss b off len cap w hl (by omega) m (by omega) hsz _ h5 hw ?_ ?_ ?_
        · intro i hi h
          have := hm2 i hi
          rw [lb_len ss i _ h (by omega)] at this
          simpa using this
        · intro h
          rw [lb_len ss m _ h (by omega)] at hm1
          simpa using hm1
        · show _ ∧ _
          rw [if_pos (by omega), hz, if_neg (by decide)]
          exact ⟨rfl, rfl⟩
    · have hz : Cb.wrong (lb ss) = 10 := by unfold Cb.wrong; rw [if_neg hw]
      refine (must_cube ss b off len cap w hl (by omega) hsz h5 (by simpa using hw)).mono fun e w' h => ⟨?_, h.2⟩
      rw [h.1, hz, if_neg (by decide)]

theorem must_ok {ss : List ByteArray} {v : Value} {w : World} (hr : RdsS w v ss) (hsz : ∀ s ∈ ss, s.size ≤ maxLen) (h : Cb.wrong (lb ss) = 0) :
    Calls Tryz.prog 66 #[v] w fun e w' => e = .returned (.tuple #[]) ∧ w = w' :=
  (must_any ss v w hr hsz).mono fun e w' ⟨h1, h2⟩ => ⟨by rw [h1, if_pos h], h2⟩

theorem must_bad {ss : List ByteArray} {v : Value} {w : World} (hr : RdsS w v ss) (hsz : ∀ s ∈ ss, s.size ≤ maxLen) (h : ¬ Cb.wrong (lb ss) = 0) :
    Calls Tryz.prog 66 #[v] w fun e w' => e = cubeFault (Cb.wrong (lb ss)) ∧ w = w' :=
  (must_any ss v w hr hsz).mono fun e w' ⟨h1, h2⟩ => ⟨by rw [h1, if_neg h], h2⟩
end Go.Proofs.YtlbelkjgaeaaeaaGreat
