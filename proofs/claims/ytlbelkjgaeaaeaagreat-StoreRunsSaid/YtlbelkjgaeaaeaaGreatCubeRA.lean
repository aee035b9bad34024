/-
  Walks over the reference of layer 1: Right, Header, wrong.
-/
import Derived.Test.YtlbelkjgaeaaeaaGreatCubeG
namespace Go.Proofs.YtlbelkjgaeaaeaaGreat
open Go.RowKit

theorem byte_ne {c : UInt8} (d : UInt8) (h : c ≠ d) (k : Int) (hk : k = (d.toNat : Int)) : (((c.toNat : Nat) : Int) == k) = false ∧ (((c.toNat : Nat) : Int) != k) = true := by
  subst hk
  have e : (((c.toNat : Nat) : Int) == ((d.toNat : Nat) : Int)) = false := by rw [u8_eq]; simpa using h
  exact ⟨e, by rw [bne, e]; rfl⟩
theorem byte_eq {c : UInt8} (d : UInt8) (h : c = d) (k : Int) (hk : k = (d.toNat : Int)) : (((c.toNat : Nat) : Int) == k) = true ∧ (((c.toNat : Nat) : Int) != k) = false := by
  subst hk; subst h
  have e : (((c.toNat : Nat) : Int) == ((c.toNat : Nat) : Int)) = true := by rw [u8_eq]; simp
  exact ⟨e, by rw [bne, e]; rfl⟩

theorem str_nil (s : ByteArray) (h : s.size = 0) : s.toList = [] := by
  rw [Lib.toList_data]; exact List.eq_nil_of_length_eq_zero (by rw [Array.length_toList]; exact h)
theorem str_not_nil (s : ByteArray) (h : ¬ s.size = 0) : ¬ s.toList = [] := by
  rw [Lib.toList_data]; intro e; exact h (by have := congrArg List.length e; rw [Array.length_toList] at this; exact this)

set_option maxHeartbeats 400000 in
set_option maxRecDepth 20000 in
theorem Right_any (s : ByteArray) (w : World) (hs : s.size ≤ maxLen) :
    Calls Tryz.prog 63 #[.string s] w fun e w' => e = .returned (.bool (Cb.isCube s.data.toList)) ∧ w = w' := by
  unfold maxLen at hs
  go_enter Tryz.func63, Tryz.ntmps63
  go_wp2_with fail
  go_loop [3] (fun k => ∃ n : Nat, n ≤ s.size ∧ k = .int .i64 n ∧ Hid ((s.data.toList.take n).all (fun c => [48, 49, 120].contains c) = true)) (fun k => s.size - (intOf k).toNat)
  case atStart => exact ⟨0, Nat.zero_le _, rfl, rfl⟩
  case round =>
    obtain ⟨n, hn, rfl, HA⟩ := hrel
    by_cases hlt : n < s.size
    · by_cases h0 : s[n] = 48
      · have HC : Hid (([48, 49, 120] : List UInt8).contains s[n] = true) := by unfold Hid; rw [h0]; rfl
        obtain ⟨e1, e2⟩ := byte_eq 48 h0 48 rfl
        clear h0
        go_wp2_with fail
        go_round
        case rel => exact ⟨n + 1, by omega, by go_num, by unfold Hid; rw [all_take_succ s n hlt, HA.out, HC.out]; rfl⟩
        case measure => simp [intOf]; omega
      · obtain ⟨e1, e2⟩ := byte_ne 48 h0 48 rfl
        by_cases h1 : s[n] = 49
        · have HC : Hid (([48, 49, 120] : List UInt8).contains s[n] = true) := by unfold Hid; rw [h1]; rfl
          obtain ⟨e3, e4⟩ := byte_eq 49 h1 49 rfl
          clear h0 h1
          go_wp2_with fail
          go_round
          case rel => exact ⟨n + 1, by omega, by go_num, by unfold Hid; rw [all_take_succ s n hlt, HA.out, HC.out]; rfl⟩
          case measure => simp [intOf]; omega
        · obtain ⟨e3, e4⟩ := byte_ne 49 h1 49 rfl
          by_cases h2 : s[n] = 120
          · have HC : Hid (([48, 49, 120] : List UInt8).contains s[n] = true) := by unfold Hid; rw [h2]; rfl
            obtain ⟨e5, e6⟩ := byte_eq 120 h2 120 rfl
            clear h0 h1 h2
            go_wp2_with fail
            go_round
            case rel => exact ⟨n + 1, by omega, by go_num, by unfold Hid; rw [all_take_succ s n hlt, HA.out, HC.out]; rfl⟩
            case measure => simp [intOf]; omega
          · obtain ⟨e5, e6⟩ := byte_ne 120 h2 120 rfl
            have HC := Lib.hid (all_of_byte hlt (p := fun c => ([48, 49, 120] : List UInt8).contains c) (by simp; exact ⟨h0, h1, h2⟩))
            clear h0 h1 h2
            go_wp2_with fail
            go_ret
            exact ⟨ret_bool (by unfold Cb.isCube Cb.ofB; rw [HC.out]; simp), rfl⟩
    · have HE : Hid (n = s.size) := by unfold Hid; omega
      have h3 := HA.out
      rw [HE.out, List.take_of_length_le (by simp)] at h3
      have HG : Hid (Cb.isCube s.data.toList = (decide (1 ≤ s.size) && decide (s.size ≤ 128))) := by unfold Hid Cb.isCube Cb.ofB; rw [h3]; simp
      clear h3
      by_cases he : s.size = 0
      · have h5 : s.toList = [] := str_nil s he
        have h6 : (!s.toList.isEmpty) = false := by rw [h5]; rfl
        have HF : Hid (Cb.isCube s.data.toList = false) := by unfold Hid; rw [HG.out, he]; rfl
        clear he
        go_wp2_with fail
        go_ret
        exact ⟨ret_bool HF.out.symm, rfl⟩
      · have h5 : ¬ s.toList = [] := str_not_nil s he
        have h6 : (!s.toList.isEmpty) = true := by simpa using h5
        have hz : Hid (1 ≤ s.size) := by unfold Hid; omega
        clear he
        go_wp2_with fail
        go_ret
        exact ⟨ret_bool ((decide_eq_decide.2 (by omega) : decide ((s.size : Int) ≤ 128) = decide (s.size ≤ 128)).trans (by rw [HG.out, decide_eq_true hz.out, Bool.true_and])), rfl⟩

theorem isHead_cube {s : List UInt8} (h : Cb.isHead s = true) : Cb.isCube s = true := by
  unfold Cb.isHead Cb.ofB at h
  unfold Cb.isCube Cb.ofB
  simp only [Bool.and_eq_true] at h ⊢
  refine ⟨h.1, ?_⟩
  rw [List.all_eq_true] at h ⊢
  intro c hc
  have := h.2 c hc
  simp at this ⊢
  rcases this with h | h <;> simp [h]

set_option maxHeartbeats 400000 in
set_option maxRecDepth 20000 in
theorem Header_any (s : ByteArray) (w : World) (hs : s.size ≤ maxLen) :
    Calls Tryz.prog 57 #[.string s] w fun e w' => e = .returned (.bool (Cb.isHead s.data.toList)) ∧ w = w' := by
  have hR := Lib.hid (Right_any s w hs)
  unfold maxLen at hs
  go_enter Tryz.func57, Tryz.ntmps57
  go_wp2_with fail
  go_loop [3] (fun k => ∃ n : Nat, n ≤ s.size ∧ k = .int .i64 n ∧ Hid ((s.data.toList.take n).all (fun c => c != 120) = true)) (fun k => s.size - (intOf k).toNat)
  case atStart => exact ⟨0, Nat.zero_le _, rfl, rfl⟩
  case round =>
    obtain ⟨n, hn, rfl, HA⟩ := hrel
    by_cases hlt : n < s.size
    · by_cases h0 : s[n] = 120
      · obtain ⟨e1, e2⟩ := byte_eq 120 h0 120 rfl
        have HC : Hid (Cb.isHead s.data.toList = false) := by
          have := all_of_byte hlt (p := fun c => ([48, 49] : List UInt8).contains c) (by rw [h0]; rfl)
          unfold Hid Cb.isHead Cb.ofB; rw [this]; simp
        clear h0
        go_wp2_with fail
        go_ret
        exact ⟨ret_bool HC.out.symm, rfl⟩
      · obtain ⟨e1, e2⟩ := byte_ne 120 h0 120 rfl
        have HC : Hid ((s[n] != 120) = true) := by unfold Hid; simpa using h0
        clear h0
        go_wp2_with fail
        go_round
        case rel => exact ⟨n + 1, by omega, by go_num, by unfold Hid; rw [all_take_succ s n hlt, HA.out, HC.out]; rfl⟩
        case measure => simp [intOf]; omega
    · have HE : Hid (n = s.size) := by unfold Hid; omega
      have h3 := HA.out
      rw [HE.out, List.take_of_length_le (by simp)] at h3
      have HG : Hid (Cb.isHead s.data.toList = Cb.isCube s.data.toList) := by
        unfold Hid Cb.isHead Cb.isCube Cb.ofB
        congr 1
        rw [Bool.eq_iff_iff, List.all_eq_true, List.all_eq_true]
        rw [List.all_eq_true] at h3
        constructor
        · intro h c hc; have := h c hc; simp at this ⊢; rcases this with h | h <;> simp [h]
        · intro h c hc; have := h c hc; have h4 := h3 c hc; simp at this h4 ⊢; rcases this with h | h | h <;> simp_all
      clear h3
      go_wp2_with fail
      refine hR.out.mono ?_
      rintro e w' ⟨rfl, rfl⟩
      go_wp2_with fail
      go_ret
      exact ⟨ret_bool HG.out.symm, rfl⟩

theorem Right_true {s : ByteArray} (w : World) (hs : s.size ≤ maxLen) (h : Cb.isCube s.data.toList = true) :
    Calls Tryz.prog 63 #[.string s] w fun e w' => e = .returned (.bool true) ∧ w = w' :=
  (Right_any s w hs).mono fun _ _ ⟨h1, h2⟩ => ⟨h1.trans (ret_bool h), h2⟩
theorem Right_false {s : ByteArray} (w : World) (hs : s.size ≤ maxLen) (h : Cb.isCube s.data.toList = false) :
    Calls Tryz.prog 63 #[.string s] w fun e w' => e = .returned (.bool false) ∧ w = w' :=
  (Right_any s w hs).mono fun _ _ ⟨h1, h2⟩ => ⟨h1.trans (ret_bool h), h2⟩
theorem Header_true {s : ByteArray} (w : World) (hs : s.size ≤ maxLen) (h : Cb.isHead s.data.toList = true) :
    Calls Tryz.prog 57 #[.string s] w fun e w' => e = .returned (.bool true) ∧ w = w' :=
  (Header_any s w hs).mono fun _ _ ⟨h1, h2⟩ => ⟨h1.trans (ret_bool h), h2⟩
theorem Header_false {s : ByteArray} (w : World) (hs : s.size ≤ maxLen) (h : Cb.isHead s.data.toList = false) :
    Calls Tryz.prog 57 #[.string s] w fun e w' => e = .returned (.bool false) ∧ w = w' :=
  (Header_any s w hs).mono fun _ _ ⟨h1, h2⟩ => ⟨h1.trans (ret_bool h), h2⟩

theorem wrong_nil (a : Option Addr) (c : Nat) (w : World) : Calls Tryz.prog 92 #[.slice a 0 c] w fun e w' => e = .returned (.int .i64 0) ∧ w = w' := by
  go_enter Tryz.func92, Tryz.ntmps92
  go_wp2_with fail
  go_loop [3] (fun k => k = .int .i64 0) (fun k => 0)
  case atStart => rfl
  case round =>
    subst hrel
    go_wp2_with fail
    go_loop [4] (fun k => k = .int .i64 1) (fun k => 0)
    case atStart => rfl
    case round =>
      subst hrel
      go_wp2_with fail
      go_ret
      exact ⟨rfl, rfl⟩

set_option maxHeartbeats 400000 in
set_option maxRecDepth 20000 in
theorem wrong_cube (ss : List ByteArray) (b off len cap : Nat) (w : World) (hl : Hid (len = ss.length)) (hlm : len ≤ 9223372036854775807)
    (hsz : ∀ s ∈ ss, s.size ≤ maxLen)
    (hc : Hid (∀ i (h : i < ss.length), w.cell? ⟨b, off + i, none⟩ = some (.string ss[i])))
    (hw : (lb ss).all Cb.isCube = false) :
    Calls Tryz.prog 92 #[.slice (some ⟨b, off, none⟩) len cap] w fun e w' => e = .returned (.int .i64 10) ∧ w = w' := by
  obtain ⟨m, hm, h1, h2⟩ := Cb.first_false _ _ hw
  have hm' : m < len := by rw [hl.out]; simpa using hm
  have H1 : Hid (Cb.isCube (ss[m]'(by simpa using hm)).data.toList = false) := by simpa [Hid] using h1
  have H2 : Hid (∀ i (hi : i < m), Cb.isCube (ss[i]'(by have := hl.out; omega)).data.toList = true) := fun i hi => by simpa using h2 i hi
  have H3 := Lib.hid hsz
  clear hw h1 h2 hsz
  go_enter Tryz.func92, Tryz.ntmps92
  go_wp2_with fail
  go_loop [3] (fun k => ∃ n : Nat, n ≤ m ∧ k = .int .i64 n) (fun k => len - (intOf k).toNat)
  case atStart => exact ⟨0, Nat.zero_le _, rfl⟩
  case round =>
    obtain ⟨n, hn, rfl⟩ := hrel
    have hlt : n < len := by omega
    have hn' : n < ss.length := by rw [← hl.out]; omega
    have hcell := hc.out n hn'
    have hsn := H3.out _ (List.getElem_mem hn')
    by_cases hnm : n < m
    · have ho := Lib.hid (H2.out n hnm)
      go_wp2_with ((with_reducible refine (Right_true _ hsn ho.out).mono ?_); rintro e w' ⟨rfl, rfl⟩)
      go_round
      case rel => exact ⟨n + 1, by omega, by go_num⟩
      case measure => simp [intOf]; omega
    · have ho : Hid (Cb.isCube (ss[n]'hn').data.toList = false) := by
        have := H1.out; have e : n = m := by omega
        subst e; exact this
      go_wp2_with ((with_reducible refine (Right_false _ hsn ho.out).mono ?_); rintro e w' ⟨rfl, rfl⟩)
      go_ret
      exact ⟨rfl, rfl⟩

set_option maxHeartbeats 800000 in
set_option maxRecDepth 20000 in
theorem wrong_rest (ss : List ByteArray) (b off len cap : Nat) (w : World) (hl : Hid (len = ss.length)) (hlm : len ≤ 9223372036854775807) (m : Nat) (hm : m ≤ len) (hm1 : 1 ≤ m ∨ len = 0)
    (hsz : ∀ s ∈ ss, s.size ≤ maxLen)
    (hc : Hid (∀ i (h : i < ss.length), w.cell? ⟨b, off + i, none⟩ = some (.string ss[i])))
    (hw : (lb ss).all Cb.isCube = true)
    (h2 : Hid (∀ i (hi : i < m) (h : i < ss.length), ss[i].size = (ss[0]'(by omega)).size))
    (h3 : Hid (∀ (h : m < ss.length), ss[m].size ≠ (ss[0]'(by omega)).size)) :
    Calls Tryz.prog 92 #[.slice (some ⟨b, off, none⟩) len cap] w fun e w' => (e = .returned (.int .i64 (if m < len then 11 else 0))) ∧ ∃ k, w' = w.drewN k := by
  have H1 : Hid (∀ i (h : i < ss.length), Cb.isCube ss[i].data.toList = true) := fun i h => by
    have := Cb.all_get hw i (by simpa using h)
    simpa using this
  have H3 := Lib.hid hsz
  clear hw hsz
  go_enter Tryz.func92, Tryz.ntmps92
  go_wp2_with fail
  go_loop [3] (fun k => ∃ n : Nat, n ≤ len ∧ k = .int .i64 n) (fun k => len - (intOf k).toNat)
  case atStart => exact ⟨0, Nat.zero_le _, rfl⟩
  case round =>
    obtain ⟨n, hn, rfl⟩ := hrel
    by_cases hlt : n < len
    · have hn' : n < ss.length := by rw [← hl.out]; omega
      have hcell := hc.out n hn'
      have hsn := H3.out _ (List.getElem_mem hn')
      have ho := Lib.hid (H1.out n hn')
      go_wp2_with ((with_reducible refine (Right_true _ hsn ho.out).mono ?_); rintro e w' ⟨rfl, rfl⟩)
      go_round
      case rel => exact ⟨n + 1, by omega, by go_num⟩
      case measure => simp [intOf]; omega
    · go_wp2_with fail
      go_loopw [4] (fun k wr => ∃ n : Nat, (n ≤ m ∨ n = 1) ∧ 1 ≤ n ∧ k = .int .i64 n ∧ ∃ q, wr = w.drewN q) (fun k _ => len + 1 - (intOf k).toNat)
      case atStart => exact ⟨1, .inr rfl, Nat.le_refl _, rfl, 0, rfl⟩
      case round =>
        obtain ⟨n, hn1, hn2, rfl, q, rfl⟩ := hrel
        by_cases hlt3 : n < len
        · have hnm : n ≤ m := by omega
          have hn' : n < ss.length := by rw [← hl.out]; omega
          have h0' : 0 < ss.length := by omega
          have hcell := hc.out n hn'
          have hcell0 := hc.out 0 h0'
          have hsn := H3.out _ (List.getElem_mem hn')
          have hs0 := H3.out _ (List.getElem_mem h0')
          have hlt0 : 0 < len := by omega
          have hi0 : (0 : Int) ≤ (n : Int) := by omega
          have hi1 : (n : Int) < (len : Int) := by omega
          have hi2 : (0 : Int) < (len : Int) := by omega
          simp only [Nat.add_zero] at hcell0
          unfold maxLen at hsn hs0
          by_cases hnm2 : n < m
          · have ho : (((ss[n].size : Nat) : Int) != ((ss[0].size : Nat) : Int)) = false := by
              have := h2.out n hnm2 hn'
              rw [this]; simp
            go_wp2_with fail
            go_quiet (fail)
            go_wp2_with fail
            go_roundw
            case rel => exact ⟨n + 1, .inl (by omega), by omega, by go_num, _, rfl⟩
            case measure => simp [intOf]; omega
          · obtain rfl : n = m := by omega
            have ho : (((ss[n].size : Nat) : Int) != ((ss[0].size : Nat) : Int)) = true := by
              have := h3.out hn'
              rw [bne_iff_ne]; omega
            go_wp2_with fail
            go_quiet (fail)
            go_wp2_with fail
            go_ret
            exact ⟨by first | rfl | (rw [if_pos hlt3]; rfl), _, rfl⟩
        · go_wp2_with fail
          go_ret
          have hmm : ¬ m < len := by omega
          exact ⟨by first | rfl | (rw [if_neg hmm]; rfl), _, rfl⟩

theorem below_drewN {B : Nat} {w : World} (k : Nat) : Below B w (w.drewN k) := ⟨rfl, rfl, rfl, Nat.le_refl _, fun _ _ => rfl⟩

/-- What 'wrong' says of strings that a slice reads as. -/
theorem wrong_any (ss : List ByteArray) (v : Value) (w : World) (hr : RdsS w v ss) (hsz : ∀ s ∈ ss, s.size ≤ maxLen) :
    Calls Tryz.prog 92 #[v] w fun e w' => e = .returned (.int .i64 (Cb.wrong (lb ss))) ∧ ∃ k, w' = w.drewN k := by
  rcases rdsS_cases hr with ⟨_, _, rfl, rfl⟩ | ⟨b, off, len, cap, rfl, hl, h2, h3, h4, h5⟩
  · exact (wrong_nil _ _ w).mono fun e w' h => ⟨by rw [h.1]; simp [Cb.wrong], 0, h.2.symm⟩
  · unfold maxLen at h3
    by_cases hw : (lb ss).all Cb.isCube = true
    · by_cases hq : (lb ss).all (fun s => s.length == ((lb ss).headD []).length) = true
      · have hz : Cb.wrong (lb ss) = 0 := by unfold Cb.wrong; rw [if_pos hw, if_pos hq]
        refine (wrong_rest ss b off len cap w hl (by omega) len (Nat.le_refl _) (by omega) hsz h5 hw ?_ ?_).mono fun e w' h => ⟨?_, h.2⟩
        · intro i hi h
          have := Cb.all_get hq i (by simpa using h)
          rw [lb_len ss i _ h (by omega)] at this
          simpa using this
        · intro h; omega
        · rw [h.1, hz, if_neg (Nat.lt_irrefl _)]
      · have hz : Cb.wrong (lb ss) = 11 := by unfold Cb.wrong; rw [if_pos hw, if_neg hq]
        obtain ⟨m, hm, hm1, hm2⟩ := Cb.first_false _ _ (by simpa using hq : (lb ss).all (fun s => s.length == ((lb ss).headD []).length) = false)
        have hm' : m < ss.length := by simpa using hm
        have hm0 : 1 ≤ m := by
          rcases Nat.eq_zero_or_pos m with rfl | h
          · rw [lb_len ss 0 _ hm' hm'] at hm1; simp at hm1
          · exact h
        refine (wrong_rest ss b off len cap w hl (by omega) m (by omega) (.inl hm0) hsz h5 hw ?_ ?_).mono fun e w' h => ⟨?_, h.2⟩
        · intro i hi h
          have := hm2 i hi
          rw [lb_len ss i _ h (by omega)] at this
          simpa using this
        · intro h
          rw [lb_len ss m _ h (by omega)] at hm1
          simpa using hm1
        · rw [h.1, hz, if_pos (by omega)]
    · have hz : Cb.wrong (lb ss) = 10 := by unfold Cb.wrong; rw [if_neg hw]
      refine (wrong_cube ss b off len cap w hl (by omega) hsz h5 (by simpa using hw)).mono fun e w' h => ⟨?_, 0, h.2.symm⟩
      rw [h.1, hz]
end Go.Proofs.YtlbelkjgaeaaeaaGreat
