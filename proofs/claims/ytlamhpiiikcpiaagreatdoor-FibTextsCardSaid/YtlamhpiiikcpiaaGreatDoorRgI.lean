/-
  Walks: which ports and actions may be: the code's.
-/
import Derived.Test.YtlamhpiiikcpiaaGreatDoorRgC
import Derived.Test.YtlamhpiiikcpiaaGreatDoorRgG
import Derived.BigQuiet
import Derived.Shelf.SlSortCmp.KitK
import Derived.Lib.Hide
import Derived.WalkKit
import Derived.Test.YtlamhpiiikcpiaaGreatDoorRgA
import Derived.Test.YtlamhpiiikcpiaaGreatDoorShelf
import Derived.Shelf.SlSortCmp.QuietGrown
namespace Go.Proofs.YtlamhpiiikcpiaaGreatDoor
open Go.RowKit
set_option linter.unusedVariables false
theorem okAt_at {ps : List ByteArray} {i : Nat} (h : i < ps.length) : Rp.okAt ps i = (Rp.nameB ps[i].data.toList && (i == 0 || Rp.lessB (ps[i - 1]'(by omega)) ps[i])) := by
  unfold Rp.okAt
  rw [List.getD_eq_getElem?_getD, List.getElem?_eq_getElem h, List.getD_eq_getElem?_getD, List.getElem?_eq_getElem (show i - 1 < ps.length by omega)]
  rfl
theorem ports_bad {ps : List ByteArray} {i : Nat} (h : i < ps.length) (hf : Rp.okAt ps i = false) : Rp.portsB ps = false := by
  unfold Rp.portsB
  rw [Rp.range_all_false h hf]; rfl
set_option maxHeartbeats 800000 in
set_option maxRecDepth 20000 in
theorem ports_any (v : Value) (ps : List ByteArray) (w : World) (hr : RdsS w v ps) (hz : ∀ x ∈ ps, x.size ≤ 140737488351232) :
    Calls Tryz.prog 103 #[v] w fun e w' => e = .returned (.bool (Rp.portsB ps)) ∧ w = w' := by
  obtain ⟨ad, len, cap, rfl, hl, hlm, hel⟩ := rdsS_form hr
  unfold maxLen at hlm
  have HL := Lib.hid hl
  have HEL := Lib.hid hel
  have HZ := Lib.hid hz
  clear hl hel hz hr
  go_enter Tryz.func103, Tryz.ntmps103
  go_wp2_with fail
  go_loop [3, 4, 7] (fun _ _ k => ∃ n : Nat, n ≤ len ∧ k = .int .i64 n ∧ Hid ((List.range n).all (Rp.okAt ps) = true)) (fun _ _ k => len - (intOf k).toNat)
  case atStart => exact ⟨0, Nat.zero_le _, rfl, rfl⟩
  case round =>
    obtain ⟨n, hn, rfl, HA⟩ := hrel
    by_cases hlt : n < len
    · have hn' : n < ps.length := by rw [← HL.out]; exact hlt
      obtain ⟨b, off, rfl, hb, hc⟩ := HEL.out n hn'
      have hsz : ps[n].size ≤ 9223372036854775807 := by have := HZ.out _ (List.getElem_mem hn'); omega
      obtain ⟨d, hd⟩ : ∃ d, Rp.nameB ps[n].data.toList = d := ⟨_, rfl⟩
      have HD := Lib.hid (name_is ps[n] d (by unfold maxLen; exact hsz) hd)
      have HK := Lib.hid (okAt_at hn')
      rw [hd] at HK
      clear hd
      cases d with
      | false =>
        have HF := Lib.hid (ports_bad hn' (by rw [HK.out]; rfl))
        clear HK
        go_wp2_with ((with_reducible refine (HD.out _).mono ?_); rintro e w' ⟨rfl, rfl⟩)
        go_ret
        exact ⟨ret_bool HF.out.symm, rfl⟩
      | true =>
        by_cases hn0 : n = 0
        · subst hn0
          simp only [Nat.add_zero] at hc
          have HO : Hid (Rp.okAt ps 0 = true) := by show _ = _; rw [HK.out]; rfl
          clear HK
          go_wp2_with ((with_reducible refine (HD.out _).mono ?_); rintro e w' ⟨rfl, rfl⟩)
          go_round
          case rel => exact ⟨1, by omega, by go_num, by unfold Hid; rw [Rp.range_all_succ, HA.out, HO.out]; rfl⟩
          case measure => simp [intOf]; omega
        · obtain ⟨m, rfl⟩ : ∃ m, n = m + 1 := ⟨n - 1, by omega⟩
          have hm' : m < ps.length := by omega
          obtain ⟨b2, off2, hab, hb2, hc2⟩ := HEL.out m hm'
          injection hab with hab
          injection hab with e1 e2
          subst e1 e2
          have hmz : ((m + 1 : Nat) : Int) - 1 = (m : Int) := by omega
          have hmlt : (m : Int) < (len : Int) := by omega
          obtain ⟨q, hq⟩ : ∃ q, Rp.lessB ps[m] ps[m + 1] = q := ⟨_, rfl⟩
          have HK2 : Hid (Rp.okAt ps (m + 1) = q) := by show _ = _; rw [HK.out, ← hq]; simp
          unfold Rp.lessB at hq
          clear HK
          cases q with
          | false =>
            have HF := Lib.hid (ports_bad hn' HK2.out)
            go_wp2_with ((with_reducible refine (HD.out _).mono ?_); rintro e w' ⟨rfl, rfl⟩)
            go_ret
            exact ⟨ret_bool HF.out.symm, rfl⟩
          | true =>
            go_wp2_with ((with_reducible refine (HD.out _).mono ?_); rintro e w' ⟨rfl, rfl⟩)
            go_round
            case rel => exact ⟨m + 1 + 1, by omega, by go_num, by unfold Hid; rw [Rp.range_all_succ, HA.out, HK2.out]; rfl⟩
            case measure => simp [intOf]; omega
    · have HE : Hid (Rp.portsB ps = (decide (1 ≤ len) && decide (len ≤ 64))) := by
        show _ = _
        have : n = ps.length := by have := HL.out; omega
        unfold Rp.portsB
        have h2 := HA.out
        rw [this] at h2
        rw [h2, HL.out, Bool.true_and]
      go_wp2_with fail
      all_goals
        go_ret
        refine ⟨ret_bool ?_, rfl⟩
        rw [HE.out, Bool.eq_iff_iff]
        simp
        omega
theorem ports_is (v : Value) (ps : List ByteArray) (d : Bool) (w : World) (hr : RdsS w v ps) (hz : ∀ x ∈ ps, x.size ≤ 140737488351232) (h : Rp.portsB ps = d) :
    Calls Tryz.prog 103 #[v] w fun e w' => e = .returned (.bool d) ∧ w = w' := by subst h; exact ports_any v ps w hr hz
set_option maxHeartbeats 800000 in
set_option maxRecDepth 20000 in
theorem action_any (k : Int) (a : Option Addr) (n c : Nat) (ps : List ByteArray) (w : World) (hr : RdsS w (.slice a n c) ps) (hz : ∀ x ∈ ps, x.size ≤ 140737488351232) (q : Bool) (hq : Rp.actionB k ps = q) :
    Calls Tryz.prog 72 #[.agg #[.int .i64 k, .slice a n c]] w fun e w' => e = .returned (.bool q) ∧ Below w.heap.size w w' := by
  obtain ⟨ad, len, cap, hv, hl, hlm, _⟩ := rdsS_form hr
  injection hv with e1 e2 e3
  subst e1 e2 e3
  have HB := Lib.hid ((Below.refl w.heap.size w).alloc (Nat.le_refl _) (.cells #[.int .i64 k, .slice a n c] 45))
  have HR := Lib.hid (hr.below HB.out)
  have HQ := Lib.hid hq
  have HL := Lib.hid hl
  have HZ := Lib.hid hz
  unfold maxLen at hlm
  clear hq hl hr hz
  by_cases h12 : k = 1 ∨ k = 2
  · have HQ2 : Hid (decide ((n : Int) = 0) = q) := by
      show _ = _
      rw [← HQ.out]
      unfold Rp.actionB
      rw [if_pos h12, HL.out, decide_eq_decide]
      omega
    rcases h12 with rfl | rfl
    all_goals
      go_enter Tryz.func72, Tryz.ntmps72
      go_wp2_with fail
      go_ret
      exact ⟨ret_bool (by rw [← HQ2.out]; first | rfl | (rw [Bool.eq_iff_iff]; simp)), HB.out⟩
  · by_cases h34 : k = 3 ∨ k = 4
    · have HP := Lib.hid (ports_is _ ps q _ HR.out HZ.out (by rw [← HQ.out]; unfold Rp.actionB; rw [if_neg h12, if_pos h34]))
      clear h12
      rcases h34 with rfl | rfl
      all_goals
        go_enter Tryz.func72, Tryz.ntmps72
        go_wp2_with fail
        refine HP.out.mono ?_
        rintro e w1 ⟨rfl, rfl⟩
        go_wp2_with fail
        go_ret
        exact ⟨rfl, HB.out⟩
    · have HQ2 : Hid (q = false) := by show _ = _; rw [← HQ.out]; unfold Rp.actionB; rw [if_neg h12, if_neg h34]
      have n1 : ¬ k = 1 := fun h => h12 (.inl h)
      have n2 : ¬ k = 2 := fun h => h12 (.inr h)
      have n3 : ¬ k = 3 := fun h => h34 (.inl h)
      have n4 : ¬ k = 4 := fun h => h34 (.inr h)
      clear h12 h34
      go_enter Tryz.func72, Tryz.ntmps72
      go_wp2_with fail
      go_ret
      exact ⟨ret_bool HQ2.out.symm, HB.out⟩
theorem checkR_cases (r : Rl) (width : Int) (q : Int) (h : Rp.checkR r width = q) :
    (q = 1 ∧ (width < 1 ∨ width > 128 ∨ r.p < 0 ∨ r.p > 2147483647)) ∨
    ((1 ≤ width ∧ width ≤ 128 ∧ 0 ≤ r.p ∧ r.p ≤ 2147483647) ∧
      ((q = 10 ∧ Cb.isCube r.m.data.toList = false) ∨
       (Cb.isCube r.m.data.toList = true ∧ ((q = 11 ∧ ¬ ((r.m.size : Int) = width)) ∨
          ((r.m.size : Int) = width ∧ ((q = 51 ∧ Rp.actionB r.k r.ps = false) ∨ (q = 0 ∧ Rp.actionB r.k r.ps = true))))))) := by
  unfold Rp.checkR at h
  by_cases h1 : width < 1 ∨ width > 128 ∨ r.p < 0 ∨ r.p > 2147483647
  · rw [if_pos h1] at h; exact .inl ⟨h.symm, h1⟩
  · rw [if_neg h1] at h
    refine .inr ⟨by omega, ?_⟩
    cases h2 : Cb.isCube r.m.data.toList with
    | false => rw [if_pos h2] at h; exact .inl ⟨h.symm, rfl⟩
    | true =>
      rw [if_neg (by rw [h2]; simp)] at h
      refine .inr ⟨rfl, ?_⟩
      by_cases h3 : (r.m.size : Int) = width
      · rw [if_neg (by simpa using h3)] at h
        refine .inr ⟨h3, ?_⟩
        cases h4 : Rp.actionB r.k r.ps with
        | false => rw [if_pos h4] at h; exact .inl ⟨h.symm, rfl⟩
        | true => rw [if_neg (by rw [h4]; simp)] at h; exact .inr ⟨h.symm, rfl⟩
      · rw [if_pos h3] at h; exact .inl ⟨h.symm, h3⟩
set_option maxHeartbeats 1600000 in
set_option maxRecDepth 20000 in
theorem check_any (ok : Nat → Prop) (x : RC) (r : Rl) (width : Int) (w : World) (hr : RdC ok w x r) (q : Int) (hq : Rp.checkR r width = q) :
    Calls Tryz.prog 38 #[x.v, .int .i64 width] w fun e w' => e = .returned (.int .i64 q) ∧ Below w.heap.size w w' := by
  obtain ⟨p, m, k, a, n, c⟩ := x
  obtain ⟨hp, hm, hk, hs, hz⟩ := hr
  simp only at hp hm hk hs
  subst hp hm hk
  unfold RC.v
  simp only
  have hms : r.m.size ≤ maxLen := by have := hz.m; unfold maxLen; omega
  have hB := (Below.refl w.heap.size w).alloc (Nat.le_refl _) (.cells #[.int .i64 r.p, .string r.m, .int .i64 r.k, .slice a n c] 47)
  have HB := Lib.hid hB
  have HR := Lib.hid (hs.1.below hB)
  have HZ := Lib.hid hz.s
  clear hs hz hB
  rcases checkR_cases r width q hq with ⟨rfl, h⟩ | ⟨⟨h1, h2, h3, h4⟩, h⟩
  · clear hq
    rcases h with h | h | h | h
    all_goals
      go_enter Tryz.func38, Tryz.ntmps38
      go_wp2_with fail
      all_goals (go_ret; exact ⟨rfl, HB.out⟩)
  · clear hq
    rcases h with ⟨rfl, hc⟩ | ⟨hc, h⟩
    · have HC := Lib.hid (fun W => Check_bad r.m W hms hc)
      clear hc
      go_enter Tryz.func38, Tryz.ntmps38
      go_wp2_with fail
      refine (HC.out _).mono ?_
      rintro e w1 ⟨rfl, hb1⟩
      have HB1 := Lib.hid (HB.out.trans (hb1.mono (by simp)))
      clear hb1
      go_wp2_with fail
      go_ret
      exact ⟨rfl, HB1.out⟩
    · have HC := Lib.hid (fun W => Check_ok r.m W hms hc)
      clear hc
      rcases h with ⟨rfl, hw⟩ | ⟨hw, h⟩
      · have hw' : ¬ width = (r.m.size : Int) := fun h => hw h.symm
        go_enter Tryz.func38, Tryz.ntmps38
        go_wp2_with fail
        refine (HC.out _).mono ?_
        rintro e w1 ⟨rfl, hb1⟩
        have HB1 := Lib.hid (HB.out.trans (hb1.mono (by simp)))
        have hcl := fun p hp => Below.cell hb1 (p := p) hp
        clear hb1
        go_wp2_with fail
        go_ret
        exact ⟨rfl, HB1.out⟩
      · obtain ⟨qa, hqa, hqq⟩ : ∃ qa : Bool, Rp.actionB r.k r.ps = qa ∧ q = if qa = true then 0 else 51 := by
          rcases h with ⟨rfl, h⟩ | ⟨rfl, h⟩
          · exact ⟨false, h, rfl⟩
          · exact ⟨true, h, rfl⟩
        have HAc := Lib.hid (fun W hW => action_any r.k a n c r.ps W hW HZ.out qa hqa)
        have HQQ := Lib.hid hqq
        clear h hqa hqq
        go_enter Tryz.func38, Tryz.ntmps38
        go_wp2_with fail
        refine (HC.out _).mono ?_
        rintro e w1 ⟨rfl, hb1⟩
        have HB1 := Lib.hid (HB.out.trans (hb1.mono (by simp)))
        have HR1 := Lib.hid (HR.out.below hb1)
        have hcl := fun p hp => Below.cell hb1 (p := p) hp
        clear hb1
        go_wp2_with fail
        refine (HAc.out _ HR1.out).mono ?_
        rintro e w2 ⟨rfl, hb2⟩
        have HB2 := Lib.hid (HB1.out.trans (hb2.mono HB1.out.size))
        clear hb2
        cases qa with
        | true =>
          obtain rfl : q = 0 := HQQ.out
          go_wp2_with fail
          go_ret
          exact ⟨rfl, HB2.out⟩
        | false =>
          obtain rfl : q = 51 := HQQ.out
          go_wp2_with fail
          go_ret
          exact ⟨rfl, HB2.out⟩
end Go.Proofs.YtlamhpiiikcpiaaGreatDoor
/-
  Walks: which ports, actions and rules may be: the reference's.
-/
namespace Go.Proofs.YtlamhpiiikcpiaaGreatDoor
open Go.RowKit
set_option linter.unusedVariables false
theorem actionB_loop (k : Int) (ps : List ByteArray) (h12 : ¬ (k = 1 ∨ k = 2)) (h : (List.range ps.length).all (Rp.okAt ps) = true) :
    Rp.actionB k ps = ((decide (k = 3) || decide (k = 4)) && decide (1 ≤ ps.length) && decide (ps.length ≤ 64)) := by
  unfold Rp.actionB
  rw [if_neg h12]
  by_cases h34 : k = 3 ∨ k = 4
  · rw [if_pos h34]
    unfold Rp.portsB
    rw [h, Bool.true_and]
    have : (decide (k = 3) || decide (k = 4)) = true := by simpa using h34
    rw [this, Bool.true_and]
  · rw [if_neg h34]
    have : (decide (k = 3) || decide (k = 4)) = false := by simpa using h34
    rw [this]; rfl
theorem actionB_bad {k : Int} {ps : List ByteArray} (h12 : ¬ (k = 1 ∨ k = 2)) {i : Nat} (h : i < ps.length) (hf : Rp.okAt ps i = false) : Rp.actionB k ps = false := by
  unfold Rp.actionB
  rw [if_neg h12]
  split
  · exact ports_bad h hf
  · rfl
set_option maxHeartbeats 1600000 in
set_option maxRecDepth 20000 in
theorem rRight_any (k : Int) (a : Option Addr) (n c : Nat) (ps : List ByteArray) (w : World) (hr : RdsS w (.slice a n c) ps) (hz : ∀ x ∈ ps, x.size ≤ 140737488351232) (q : Bool) (hq : Rp.actionB k ps = q) :
    Calls Tryz.prog 78 #[.agg #[.int .i64 k, .slice a n c]] w fun e w' => e = .returned (.bool q) ∧ Below w.heap.size w w' := by
  obtain ⟨ad, len, cap, hv, hl, hlm, hel⟩ := rdsS_form hr
  injection hv with e1 e2 e3
  subst e1 e2 e3
  have HB := Lib.hid ((Below.refl w.heap.size w).alloc (Nat.le_refl _) (.cells #[.int .i64 k, .slice a n c] 45))
  have HQ := Lib.hid hq
  have HL := Lib.hid hl
  have HZ := Lib.hid hz
  have HEL := Lib.hid hel
  unfold maxLen at hlm
  clear hq hl hr hz hel
  by_cases h12 : k = 1 ∨ k = 2
  · have HQ2 : Hid (decide ((n : Int) = 0) = q) := by
      show _ = _
      rw [← HQ.out]
      unfold Rp.actionB
      rw [if_pos h12, HL.out, decide_eq_decide]
      omega
    rcases h12 with rfl | rfl
    all_goals
      go_enter Tryz.func78, Tryz.ntmps78
      go_wp2_with fail
      go_ret
      exact ⟨ret_bool (by rw [← HQ2.out]; first | rfl | (rw [Bool.eq_iff_iff]; simp)), HB.out⟩
  · have n1 : ¬ k = 1 := fun h => h12 (.inl h)
    have n2 : ¬ k = 2 := fun h => h12 (.inr h)
    have H12 := Lib.hid h12
    have m1 : (k == 1) = false := beq_eq_false_iff_ne.2 n1
    have m2 : (k == 2) = false := beq_eq_false_iff_ne.2 n2
    clear h12
    go_enter Tryz.func78, Tryz.ntmps78
    go_wp2_with fail
    go_loopw [3] (fun kv wr => ∃ i j : Nat, i ≤ n ∧ kv = .int .i64 i ∧ Hid ((List.range i).all (Rp.okAt ps) = true) ∧ wr = (w.alloc (.cells #[.int .i64 k, .slice a n c] 45)).drewN j) (fun kv _ => n - (intOf kv).toNat)
    case atStart => exact ⟨0, 0, Nat.zero_le _, rfl, rfl, rfl⟩
    case round =>
      obtain ⟨i, j, hi, rfl, HA, rfl⟩ := hrel
      by_cases hlt : i < n
      · have hn' : i < ps.length := by rw [← HL.out]; exact hlt
        obtain ⟨b, off, rfl, hb, hc⟩ := HEL.out i hn'
        have hne : ¬ b = w.heap.size := by omega
        have hsz : ps[i].size ≤ 9223372036854775807 := by have := HZ.out _ (List.getElem_mem hn'); omega
        obtain ⟨d, hd⟩ : ∃ d, Rp.nameB ps[i].data.toList = d := ⟨_, rfl⟩
        have HD := Lib.hid (rname_is ps[i] d (by unfold maxLen; exact hsz) hd)
        have HK := Lib.hid (okAt_at hn')
        rw [hd] at HK
        have hc1 : (w.alloc (.cells #[.int .i64 k, .slice (some ⟨b, off, none⟩) n c] 45)).cell? ⟨b, off + i, none⟩ = some (.string ps[i]) := (HB.out.cell (p := ⟨b, off + i, none⟩) hb).trans hc
        have hc0 : (w.alloc (.cells #[.int .i64 k, .slice (some ⟨b, off, none⟩) n c] 45)).cell? ⟨w.heap.size, 0, none⟩ = some (.int .i64 k) := by simp [go_sem]
        have hc01 : (w.alloc (.cells #[.int .i64 k, .slice (some ⟨b, off, none⟩) n c] 45)).cell? ⟨w.heap.size, 1, none⟩ = some (.slice (some ⟨b, off, none⟩) n c) := by simp [go_sem]
        clear hd hc
        cases d with
        | false =>
          have HF := Lib.hid (actionB_bad (k := k) H12.out hn' (by rw [HK.out]; rfl))
          clear HK
          generalize w.alloc (.cells #[.int .i64 k, .slice (some ⟨b, off, none⟩) n c] 45) = W1 at *
          go_wp2_with fail
          go_quiet ((refine (HD.out _).mono ?_; rintro _ _ ⟨rfl, rfl⟩; exact ⟨rfl, _, rfl⟩))
          go_wp2_with fail
          go_ret
          exact ⟨ret_bool (by rw [← HQ.out, HF.out]), below_dN (below_dN HB.out _) _⟩
        | true =>
          by_cases hi0 : i = 0
          · subst hi0
            have HO : Hid (Rp.okAt ps 0 = true) := by show _ = _; rw [HK.out]; rfl
            simp only [Nat.add_zero] at hc1
            clear HK
            generalize hW1 : w.alloc (.cells #[.int .i64 k, .slice (some ⟨b, off, none⟩) n c] 45) = W1 at *
            have HW1 := Lib.hid hW1
            clear hW1
            go_wp2_with fail
            go_quiet ((refine (HD.out _).mono ?_; rintro _ _ ⟨rfl, rfl⟩; exact ⟨rfl, _, rfl⟩))
            go_wp2_with fail
            go_roundw
            case rel => exact ⟨1, _, by omega, by first | rfl | go_num, by unfold Hid; rw [Rp.range_all_succ, HA.out, HO.out]; rfl, rfl⟩
            case measure => simp [intOf]; omega
          · obtain ⟨m, rfl⟩ : ∃ m, i = m + 1 := ⟨i - 1, by omega⟩
            have hm' : m < ps.length := by omega
            obtain ⟨b2, off2, hab, hb2, hc2⟩ := HEL.out m hm'
            injection hab with hab
            injection hab with e1 e2
            subst e1 e2
            have hc2' : (w.alloc (.cells #[.int .i64 k, .slice (some ⟨b, off, none⟩) n c] 45)).cell? ⟨b, off + m, none⟩ = some (.string ps[m]) := (HB.out.cell (p := ⟨b, off + m, none⟩) hb).trans hc2
            have hmz : ((m + 1 : Nat) : Int) - 1 = (m : Int) := by omega
            have hmlt : (m : Int) < (n : Int) := by omega
            have hmlt1 : (m : Int) + 1 < (n : Int) := by omega
            obtain ⟨q2, hq2⟩ : ∃ q, Rp.lessB ps[m] ps[m + 1] = q := ⟨_, rfl⟩
            have HK2 : Hid (Rp.okAt ps (m + 1) = q2) := by show _ = _; rw [HK.out, ← hq2]; simp
            unfold Rp.lessB at hq2
            clear HK hc2 hi0
            generalize hW1 : w.alloc (.cells #[.int .i64 k, .slice (some ⟨b, off, none⟩) n c] 45) = W1 at *
            have HW1 := Lib.hid hW1
            clear hW1
            have hpos : (0 : Int) < (m : Int) + 1 := by omega
            cases q2 with
            | false =>
              have HF := Lib.hid (actionB_bad (k := k) H12.out hn' HK2.out)
              go_wp2_with fail
              go_quiet ((refine (HD.out _).mono ?_; rintro _ _ ⟨rfl, rfl⟩; exact ⟨rfl, _, rfl⟩))
              go_wp2_with fail
              go_ret
              exact ⟨ret_bool (by rw [← HQ.out, HF.out]), below_dN (below_dN HB.out _) _⟩
            | true =>
              go_wp2_with fail
              go_quiet ((refine (HD.out _).mono ?_; rintro _ _ ⟨rfl, rfl⟩; exact ⟨rfl, _, rfl⟩))
              go_wp2_with fail
              go_roundw
              case rel => exact ⟨m + 1 + 1, _, by omega, by first | rfl | go_num, by unfold Hid; rw [Rp.range_all_succ, HA.out, HK2.out]; rfl, rfl⟩
              case measure => simp [intOf]; omega
      · have HE : Hid (q = ((decide (k = 3) || decide (k = 4)) && decide (1 ≤ n) && decide (n ≤ 64))) := by
          show _ = _
          have : i = ps.length := by have := HL.out; omega
          have h2 := HA.out
          rw [this] at h2
          rw [← HQ.out, actionB_loop k ps H12.out h2, HL.out]
        have hc0 : (w.alloc (.cells #[.int .i64 k, .slice a n c] 45)).cell? ⟨w.heap.size, 0, none⟩ = some (.int .i64 k) := by simp [go_sem]
        have hc01 : (w.alloc (.cells #[.int .i64 k, .slice a n c] 45)).cell? ⟨w.heap.size, 1, none⟩ = some (.slice a n c) := by simp [go_sem]
        generalize hW1 : w.alloc (.cells #[.int .i64 k, .slice a n c] 45) = W1 at *
        have HW1 := Lib.hid hW1
        clear hW1
        by_cases h3 : k = 3
        · have m3 : (k == 3) = true := by simpa using h3
          go_wp2_with fail
          all_goals
            go_ret
            refine ⟨ret_bool ?_, below_dN HB.out _⟩
            rw [HE.out, Bool.eq_iff_iff]
            simp [*]
            try omega
        · have m3 : (k == 3) = false := beq_eq_false_iff_ne.2 h3
          by_cases h4 : k = 4
          · have m4 : (k == 4) = true := by simpa using h4
            go_wp2_with fail
            all_goals
              go_ret
              refine ⟨ret_bool ?_, below_dN HB.out _⟩
              rw [HE.out, Bool.eq_iff_iff]
              simp [*]
              try omega
          · have m4 : (k == 4) = false := beq_eq_false_iff_ne.2 h4
            have HE2 : Hid (q = false) := by show _ = _; rw [HE.out, decide_eq_false h3, decide_eq_false h4]; rfl
            go_wp2_with fail
            go_ret
            exact ⟨ret_bool HE2.out.symm, below_dN HB.out _⟩
set_option maxHeartbeats 1600000 in
set_option maxRecDepth 20000 in
theorem rCheck_any (ok : Nat → Prop) (x : RC) (r : Rl) (width : Int) (w : World) (hr : RdC ok w x r) (q : Int) (hq : Rp.checkR r width = q) :
    Calls Tryz.prog 44 #[x.v, .int .i64 width] w fun e w' => e = .returned (.int .i64 q) ∧ Below w.heap.size w w' := by
  obtain ⟨p, m, k, a, n, c⟩ := x
  obtain ⟨hp, hm, hk, hs, hz⟩ := hr
  simp only at hp hm hk hs
  subst hp hm hk
  unfold RC.v
  simp only
  have hms : r.m.size ≤ maxLen := by have := hz.m; unfold maxLen; omega
  have hB := (Below.refl w.heap.size w).alloc (Nat.le_refl _) (.cells #[.int .i64 r.p, .string r.m, .int .i64 r.k, .slice a n c] 47)
  have HB := Lib.hid hB
  have HR := Lib.hid (hs.1.below hB)
  have HZ := Lib.hid hz.s
  clear hs hz hB
  rcases checkR_cases r width q hq with ⟨rfl, h⟩ | ⟨⟨h1, h2, h3, h4⟩, h⟩
  · clear hq
    rcases h with h | h | h | h
    all_goals
      go_enter Tryz.func44, Tryz.ntmps44
      go_wp2_with fail
      all_goals (go_ret; exact ⟨rfl, HB.out⟩)
  · clear hq
    rcases h with ⟨rfl, hc⟩ | ⟨hc, h⟩
    · have HC := Lib.hid (fun W => Right_false (s := r.m) W hms hc)
      clear hc
      go_enter Tryz.func44, Tryz.ntmps44
      go_wp2_with fail
      refine (HC.out _).mono ?_
      rintro e w1 ⟨rfl, rfl⟩
      go_wp2_with fail
      go_ret
      exact ⟨rfl, HB.out⟩
    · have HC := Lib.hid (fun W => Right_true (s := r.m) W hms hc)
      clear hc
      rcases h with ⟨rfl, hw⟩ | ⟨hw, h⟩
      · have hw' : ¬ width = (r.m.size : Int) := fun h => hw h.symm
        go_enter Tryz.func44, Tryz.ntmps44
        go_wp2_with fail
        refine (HC.out _).mono ?_
        rintro e w1 ⟨rfl, rfl⟩
        go_wp2_with fail
        go_ret
        exact ⟨rfl, HB.out⟩
      · obtain ⟨qa, hqa, hqq⟩ : ∃ qa : Bool, Rp.actionB r.k r.ps = qa ∧ q = if qa = true then 0 else 51 := by
          rcases h with ⟨rfl, h⟩ | ⟨rfl, h⟩
          · exact ⟨false, h, rfl⟩
          · exact ⟨true, h, rfl⟩
        have HAc := Lib.hid (fun W hW => rRight_any r.k a n c r.ps W hW HZ.out qa hqa)
        have HQQ := Lib.hid hqq
        clear h hqa hqq
        go_enter Tryz.func44, Tryz.ntmps44
        go_wp2_with fail
        refine (HC.out _).mono ?_
        rintro e w1 ⟨rfl, rfl⟩
        go_wp2_with fail
        refine (HAc.out _ HR.out).mono ?_
        rintro e w2 ⟨rfl, hb2⟩
        have HB2 := Lib.hid (HB.out.trans (hb2.mono HB.out.size))
        clear hb2
        cases qa with
        | true =>
          obtain rfl : q = 0 := HQQ.out
          go_wp2_with fail
          go_ret
          exact ⟨rfl, HB2.out⟩
        | false =>
          obtain rfl : q = 51 := HQQ.out
          go_wp2_with fail
          go_ret
          exact ⟨rfl, HB2.out⟩
end Go.Proofs.YtlamhpiiikcpiaaGreatDoor
/-
  Walks: slices.SortStableFunc over rows of four cells: swapRangeCmpFunc, rotateCmpFunc.
-/
namespace Go.Proofs.YtlamhpiiikcpiaaGreatDoor
open Go.RowKit Go.Shelf Go.Lib Go.Sort
set_option linter.unusedVariables false
variable {P : Program} {k : Nat} {α : Type} [Inhabited α]
/-- What the walks of the sort ask of a program: its types; an element is an aggregate of k cells. -/
structure RowProg (P : Program) (k : Nat) : Prop where
  mixed : P.follows .mixedOrders = true
  t0 : P.underlying 0 = some (TypeDesc.tuple #[])
  a0 : ∀ w, (isAgg 0).run P w = .ok false w
  z0 : ∀ w, (Go.sizeOf 0).run P w = .ok 1 w
  v0 : ∀ w, (zeroValue 0).run P w = .ok (Value.tuple #[]) w
  t3 : P.underlying 3 = some (TypeDesc.int IntKind.i64)
  a3 : ∀ w, (isAgg 3).run P w = .ok false w
  z3 : ∀ w, (Go.sizeOf 3).run P w = .ok 1 w
  v3 : ∀ w, (zeroValue 3).run P w = .ok (Value.int IntKind.i64 0) w
  t4 : P.underlying 4 = some (TypeDesc.bool)
  a4 : ∀ w, (isAgg 4).run P w = .ok false w
  z4 : ∀ w, (Go.sizeOf 4).run P w = .ok 1 w
  v4 : ∀ w, (zeroValue 4).run P w = .ok (Value.bool false) w
  ts : P.underlying 36 = some (TypeDesc.slice 47)
  asl : ∀ w, (isAgg 36).run P w = .ok false w
  zs : ∀ w, (Go.sizeOf 36).run P w = .ok 1 w
  vs : ∀ w, (zeroValue 36).run P w = .ok (Value.slice none 0 0) w
  tf : P.underlying 124 = some (TypeDesc.func #[47, 47] #[3] false)
  af : ∀ w, (isAgg 124).run P w = .ok false w
  zf : ∀ w, (Go.sizeOf 124).run P w = .ok 1 w
  vf : ∀ w, (zeroValue 124).run P w = .ok (Value.nilFunc) w
  tu : P.underlying 209 = some (TypeDesc.int IntKind.u64)
  au : ∀ w, (isAgg 209).run P w = .ok false w
  zu : ∀ w, (Go.sizeOf 209).run P w = .ok 1 w
  vu : ∀ w, (zeroValue 209).run P w = .ok (Value.int IntKind.u64 0) w
  aE : ∀ w, (isAgg 47).run P w = .ok true w
  zE : ∀ w, (Go.sizeOf 47).run P w = .ok k w
  fSwap : P.funcs[164]? = some Tryz.f164
  fRot : P.funcs[140]? = some Tryz.f140
  fSym : P.funcs[120]? = some Tryz.f120
  fStb : P.funcs[88]? = some Tryz.f88
  fSort : P.funcs[53]? = some Tryz.f53
theorem row_get (p : List α) (x : α) (q : List α) : (p ++ x :: q).toArray[p.length]! = x := by simp
/-- One step of the exchange of two runs. -/
theorem swap_step (p y1 : List α) (u : α) (x2 m x1 : List α) (v : α) (y2 q : List α) (h : x1.length = y1.length) :
    swp (p ++ y1 ++ (u :: x2) ++ m ++ x1 ++ (v :: y2) ++ q).toArray (p.length + y1.length) (p.length + (y1.length + 1 + x2.length) + m.length + x1.length) = (p ++ (y1 ++ [v]) ++ x2 ++ m ++ (x1 ++ [u]) ++ y2 ++ q).toArray := by
  have e1 : p ++ y1 ++ (u :: x2) ++ m ++ x1 ++ (v :: y2) ++ q = (p ++ y1) ++ u :: ((x2 ++ m ++ x1) ++ v :: (y2 ++ q)) := by simp
  have e2 : p ++ (y1 ++ [v]) ++ x2 ++ m ++ (x1 ++ [u]) ++ y2 ++ q = (p ++ y1) ++ v :: ((x2 ++ m ++ x1) ++ u :: (y2 ++ q)) := by simp
  rw [e1, e2]
  have := St.swp_list (p ++ y1) u (x2 ++ m ++ x1) v (y2 ++ q)
  rw [show p.length + y1.length = (p ++ y1).length by simp, show p.length + (y1.length + 1 + x2.length) + m.length + x1.length = (p ++ y1).length + 1 + (x2 ++ m ++ x1).length by simp; omega]
  exact this
set_option maxHeartbeats 1600000 in
set_option maxRecDepth 20000 in
theorem swapRange_w (L : RowProg P k) (enc : α → List Value) (fv : Value) (blk off cap a b n sz : Nat) (d0 : Array α) (w0 w : World) (R : RowK enc k w0 blk off d0) (p x m y q : List α)
    (ha : a = p.length) (hn : n = x.length) (hb : b = p.length + x.length + m.length) (hxy : y.length = x.length) (hd0 : d0.size = sz) (hs : (p ++ x ++ m ++ y ++ q).length = sz) (S : SWK enc k w0 blk off (p ++ x ++ m ++ y ++ q).toArray w) (hsz : sz < 2305843009213693952) :
    Calls P 164 #[.slice (some ⟨blk, off, none⟩) sz cap, .int .i64 a, .int .i64 b, .int .i64 n, fv] w fun e w' => e = .returned (.tuple #[]) ∧ SWK enc k w0 blk off (p ++ y ++ m ++ x ++ q).toArray w' := by
  have hlen : p.length + x.length + m.length + y.length + q.length = sz := by rw [← hs]; simp; omega
  have HA := Lib.hid ha
  have HN := Lib.hid hn
  have HBb := Lib.hid hb
  have HXY := Lib.hid hxy
  have HD0 := Lib.hid hd0
  have HS := Lib.hid S
  have HLen := Lib.hid hlen
  have hbn : b + n ≤ sz := by omega
  have mixed := L.mixed; have t0 := L.t0; have a0 := L.a0; have z0 := L.z0; have v0 := L.v0; have t3 := L.t3; have a3 := L.a3; have z3 := L.z3; have v3 := L.v3; have t4 := L.t4; have a4 := L.a4; have z4 := L.z4; have v4 := L.v4; have ts := L.ts; have asl := L.asl; have zs := L.zs; have vs := L.vs; have tf := L.tf; have af := L.af; have zf := L.zf; have vf := L.vf; have aE := L.aE; have zE := L.zE
  have FG := L.fSwap
  clear L
  have han : a + n ≤ b := by omega
  clear ha hn hb hxy hd0 S hs hlen
  go_enter FG, Tryz.ntmps164
  go_wp2_with fail
  go_loopw [10] (fun kv wr => ∃ i : Nat, i ≤ n ∧ kv = .int .i64 i ∧ Hid (SWK enc k w0 blk off (p ++ y.take i ++ x.drop i ++ m ++ x.take i ++ y.drop i ++ q).toArray wr)) (fun kv _ => n - (intOf kv).toNat)
  case atStart => exact ⟨0, Nat.zero_le _, rfl, by show SWK _ _ _ _ _ _ _; simpa using HS.out⟩
  case round =>
    obtain ⟨wo, rfl⟩ : ∃ wo : World, wo = wr := ⟨wr, rfl⟩
    obtain ⟨i, hi, rfl, HI⟩ := hrel
    by_cases hlt : i < n
    · obtain ⟨r, hr⟩ : ∃ r, a + i = r := ⟨_, rfl⟩
      obtain ⟨t, ht⟩ : ∃ t, b + i = t := ⟨_, rfl⟩
      have hiX : i < x.length := by rw [← HN.out]; exact hlt
      have hiY : i < y.length := by rw [HXY.out]; exact hiX
      obtain ⟨dk, hdk⟩ : ∃ dk, dk = (p ++ y.take i ++ x.drop i ++ m ++ x.take i ++ y.drop i ++ q).toArray := ⟨_, rfl⟩
      have hls : p.length + x.length + m.length + y.length + q.length = sz := HLen.out
      have hdks : dk.size = sz := by
        rw [hdk, List.size_toArray]
        simp only [List.length_append, List.length_take, List.length_drop]
        have := HXY.out
        omega
      have HSt : Hid (swp dk r t = (p ++ y.take (i + 1) ++ x.drop (i + 1) ++ m ++ x.take (i + 1) ++ y.drop (i + 1) ++ q).toArray) := by
        show _ = _
        have hti : (y.take i).length = i := by rw [List.length_take]; omega
        have htx : (x.take i).length = i := by rw [List.length_take]; omega
        have := swap_step p (y.take i) x[i] (x.drop (i + 1)) m (x.take i) y[i] (y.drop (i + 1)) q (by rw [hti, htx])
        rw [← List.drop_eq_getElem_cons hiX, ← List.drop_eq_getElem_cons hiY, ← List.take_succ_eq_append_getElem hiX, ← List.take_succ_eq_append_getElem hiY, hti, htx, List.length_drop, ← hdk] at this
        rw [← this, ← hr, ← ht]
        congr 1
        · have := HA.out; omega
        · have := HBb.out; omega
      rw [← hdk] at HI
      have S2 := Lib.hid (HI.out.swapped R r t (by omega) (by omega))
      rw [HSt.out] at S2
      have g1 : IntKind.i64.wrap ((a : Int) + (i : Int)) = (r : Int) := by rw [IntWalk.i64_in _ (by omega)]; omega
      have g2 : IntKind.i64.wrap ((b : Int) + (i : Int)) = (t : Int) := by rw [IntWalk.i64_in _ (by omega)]; omega
      have g3 : (r : Int) < (sz : Int) := by omega
      have g4 : (t : Int) < (sz : Int) := by omega
      have l1 := HI.out.ld1 R (by rw [hdks]; exact HD0.out.symm) P r (by omega)
      have l2 := HI.out.ld1 R (by rw [hdks]; exact HD0.out.symm) P t (by omega)
      have s1 := HI.out.st1 R (by rw [hdks]; exact HD0.out.symm) P r (by omega) dk[t]!
      have s2 := HI.out.st2 R (by rw [hdks]; exact HD0.out.symm) P r t (by omega) (by omega) dk[t]! dk[r]!
      have n1 : (enc dk[r]!).length = k := R.hk _
      have n2 : (enc dk[t]!).length = k := R.hk _
      generalize enc dk[r]! = c1 at S2 l1 s2 n1
      generalize enc dk[t]! = c2 at S2 l2 s1 s2 n2
      clear hr ht hdk hdks hls
      go_wp2_with fail
      go_big_region_o
      clear l1 l2 s1 s2
      generalize (wo.drew.setCells blk (off + r * k) c2).setCells blk (off + t * k) c1 = w2 at S2 ⊢
      go_wp2_with fail
      go_roundw
      case rel => exact ⟨i + 1, by omega, by go_num, S2⟩
      case measure => simp [intOf]; omega
    · obtain rfl : i = n := by omega
      go_wp2_with fail
      go_end0
      refine ⟨rfl, ?_⟩
      have h1 : i = x.length := HN.out
      have h2 : i = y.length := by rw [HXY.out]; exact h1
      have := HI.out
      rw [List.take_of_length_le (by omega), List.take_of_length_le (by omega), List.drop_eq_nil_of_le (by omega), List.drop_eq_nil_of_le (by omega)] at this
      simpa using this
end Go.Proofs.YtlamhpiiikcpiaaGreatDoor
/-
  Walks: slices.SortStableFunc: rotateCmpFunc.
-/
namespace Go.Proofs.YtlamhpiiikcpiaaGreatDoor
open Go.RowKit Go.Shelf Go.Lib Go.Sort
set_option linter.unusedVariables false
set_option linter.unusedSectionVars false
variable {P : Program} {k : Nat} {α : Type} [Inhabited α]
theorem cat_cut (A X B : List α) (j : Nat) : A ++ X ++ B = A ++ X.take j ++ X.drop j ++ B := by
  rw [List.append_assoc A (X.take j), List.take_append_drop]
set_option maxHeartbeats 1600000 in
set_option maxRecDepth 20000 in
theorem rotate_w (L : RowProg P k) (enc : α → List Value) (fv : Value) (blk off cap a m b sz : Nat) (d0 : Array α) (w0 w : World) (R : RowK enc k w0 blk off d0) (p u v q : List α)
    (ha : a = p.length) (hm : m = p.length + u.length) (hb : b = p.length + u.length + v.length) (hu : u ≠ []) (hv : v ≠ []) (hd0 : d0.size = sz) (hs : (p ++ u ++ v ++ q).length = sz) (S : SWK enc k w0 blk off (p ++ u ++ v ++ q).toArray w) (hsz : sz < 2305843009213693952) :
    Calls P 140 #[.slice (some ⟨blk, off, none⟩) sz cap, .int .i64 a, .int .i64 m, .int .i64 b, fv] w fun e w' => e = .returned (.tuple #[]) ∧ SWK enc k w0 blk off (p ++ v ++ u ++ q).toArray w' := by
  have hlen : p.length + u.length + v.length + q.length = sz := by rw [← hs]; simp; omega
  have hu0 := List.length_pos_iff.2 hu
  have hv0 := List.length_pos_iff.2 hv
  have HS := Lib.hid S
  have HD0 := Lib.hid hd0
  obtain ⟨i0, hi0⟩ : ∃ i0, i0 = u.length := ⟨_, rfl⟩
  obtain ⟨j0, hj0⟩ : ∃ j0, j0 = v.length := ⟨_, rfl⟩
  obtain ⟨T, hT⟩ : ∃ T, T = p ++ v ++ u ++ q := ⟨_, rfl⟩
  rw [← hT]
  have g1 : IntKind.i64.wrap ((m : Int) - (a : Int)) = (i0 : Int) := by rw [IntWalk.i64_in _ (by omega)]; omega
  have g2 : IntKind.i64.wrap ((b : Int) - (m : Int)) = (j0 : Int) := by rw [IntWalk.i64_in _ (by omega)]; omega
  have HT := Lib.hid hT
  have HI0 := Lib.hid hi0
  have HJ0 := Lib.hid hj0
  have HP : Hid (m = p.length + i0) := by show _ = _; omega
  have HL : Hid (p.length + i0 + j0 + q.length = sz) := by show _ = _; omega
  have hi1 : 0 < i0 := by omega
  have hj1 : 0 < j0 := by omega
  have HSw := Lib.hid (swapRange_w (α := α) L enc fv blk off cap)
  have hmsz : m ≤ sz := by omega
  clear hT S hs hu hv ha hm hb hlen hu0 hv0 hi0 hj0 hd0
  have mixed := L.mixed; have t0 := L.t0; have a0 := L.a0; have z0 := L.z0; have v0 := L.v0; have t3 := L.t3; have a3 := L.a3; have z3 := L.z3; have v3 := L.v3; have t4 := L.t4; have a4 := L.a4; have z4 := L.z4; have v4 := L.v4; have ts := L.ts; have asl := L.asl; have zs := L.zs; have vs := L.vs; have tf := L.tf; have af := L.af; have zf := L.zf; have vf := L.vf; have tu := L.tu; have au := L.au; have zu := L.zu; have vu := L.vu; have aE := L.aE; have zE := L.zE
  have FG := L.fRot
  have e1 : ∀ args w, (callFunc 164 args).run P w = .ok (.enter 164 args) w := enters_of L.fSwap (by kernel_rfl) rfl
  clear L
  go_enter FG, Tryz.ntmps140
  go_wp2_with fail
  go_loopw [10, 11] (fun iv jv wr => ∃ i j : Nat, ∃ pre U V post : List α, iv = .int .i64 i ∧ jv = .int .i64 j ∧ 0 < i ∧ 0 < j ∧ Hid (i = U.length) ∧ Hid (j = V.length) ∧ Hid (m = pre.length + i) ∧ Hid (pre.length + i + j + post.length = sz) ∧ Hid (T = pre ++ V ++ U ++ post) ∧ Hid (SWK enc k w0 blk off (pre ++ U ++ V ++ post).toArray wr)) (fun iv jv _ => (intOf iv).toNat + (intOf jv).toNat)
  case atStart => exact ⟨i0, j0, p, u, v, q, rfl, rfl, hi1, hj1, HI0, HJ0, HP, HL, HT, HS⟩
  case round =>
    obtain ⟨wo, rfl⟩ : ∃ wo : World, wo = wr := ⟨wr, rfl⟩
    obtain ⟨i, j, pre, U, V, post, rfl, rfl, hi, hj, HU, HV, HM, HLn, HTt, HI⟩ := hrel
    have hm := HM.out
    have hln := HLn.out
    obtain ⟨s, hs⟩ : ∃ s, s = pre.length := ⟨_, rfl⟩
    have g3 : IntKind.i64.wrap ((m : Int) - (i : Int)) = (s : Int) := by rw [IntWalk.i64_in _ (by omega)]; omega
    by_cases heq : i = j
    · subst heq
      have HC := Lib.hid (HSw.out s m i sz d0 w0 wo R pre U [] V post hs HU.out (by have := HU.out; simp; omega) (by have := HU.out; have := HV.out; omega) HD0.out (by have := HU.out; have := HV.out; simp; omega) (by simpa using HI.out) hsz)
      clear hm hln hs
      go_wp2_with fail
      refine HC.out.mono ?_
      rintro e w2 ⟨rfl, hw2⟩
      have HW2 := Lib.hid hw2
      clear hw2
      go_wp2_with fail
      go_end0
      refine ⟨rfl, ?_⟩
      have := HW2.out
      rw [HTt.out]
      simpa using this
    · have hne : ¬ (i : Int) = (j : Int) := by omega
      by_cases hgt : j < i
      · have hgz : (j : Int) < (i : Int) := by omega
        obtain ⟨d, hd⟩ : ∃ d, d = i - j := ⟨_, rfl⟩
        have g4 : IntKind.i64.wrap ((i : Int) - (j : Int)) = (d : Int) := by rw [IntWalk.i64_in _ (by omega)]; omega
        have hl1 : (U.take j).length = j := by rw [List.length_take]; have := HU.out; omega
        have hl2 : (U.drop j).length = d := by rw [List.length_drop]; have := HU.out; omega
        have HC := Lib.hid (HSw.out s m j sz d0 w0 wo R pre (U.take j) (U.drop j) V post hs hl1.symm (by omega) (by rw [hl1]; exact HV.out.symm) HD0.out (by have := HV.out; simp only [List.length_append]; omega) (by have := HI.out; rw [List.append_assoc pre, List.take_append_drop]; exact this) hsz)
        have HN1 : Hid (d = (U.drop j).length) := hl2.symm
        have HN2 : Hid (j = (U.take j).length) := hl1.symm
        have HN3 : Hid (m = (pre ++ V).length + d) := by show _ = _; have := HV.out; simp; omega
        have HN4 : Hid ((pre ++ V).length + d + j + post.length = sz) := by show _ = _; have := HV.out; simp; omega
        have HN5 : Hid (T = (pre ++ V) ++ U.take j ++ U.drop j ++ post) := by show _ = _; rw [HTt.out]; exact cat_cut _ _ _ _
        have hd0 : 0 < d := by omega
        have hdd : d + j = i := by omega
        clear hm hln hs hd hl1 hl2
        go_wp2_with fail
        refine HC.out.mono ?_
        rintro e w2 ⟨rfl, hw2⟩
        have HW2 := Lib.hid hw2
        clear hw2
        go_wp2_with fail
        go_roundw
        case rel => exact ⟨d, j, pre ++ V, U.drop j, U.take j, post, by first | rfl | go_num, rfl, hd0, hj, HN1, HN2, HN3, HN4, HN5, HW2⟩
        case measure => simp [intOf]; omega
      · have hgz : ¬ (j : Int) < (i : Int) := by omega
        obtain ⟨d, hd⟩ : ∃ d, d = j - i := ⟨_, rfl⟩
        obtain ⟨mj, hmj⟩ : ∃ mj, mj = m + j := ⟨_, rfl⟩
        obtain ⟨t, ht⟩ : ∃ t, t = mj - i := ⟨_, rfl⟩
        have g4 : IntKind.i64.wrap ((j : Int) - (i : Int)) = (d : Int) := by rw [IntWalk.i64_in _ (by omega)]; omega
        have g5 : IntKind.i64.wrap ((m : Int) + (j : Int)) = (mj : Int) := by rw [IntWalk.i64_in _ (by omega)]; omega
        have g6 : IntKind.i64.wrap ((mj : Int) - (i : Int)) = (t : Int) := by rw [IntWalk.i64_in _ (by omega)]; omega
        have hl1 : (V.take d).length = d := by rw [List.length_take]; have := HV.out; omega
        have hl2 : (V.drop d).length = i := by rw [List.length_drop]; have := HV.out; omega
        have HC := Lib.hid (HSw.out s t i sz d0 w0 wo R pre U (V.take d) (V.drop d) post hs HU.out (by have := HU.out; omega) (by rw [hl2]; exact HU.out) HD0.out (by have := HU.out; simp only [List.length_append]; omega) (by have := HI.out; rw [List.append_assoc (pre ++ U), List.take_append_drop]; exact this) hsz)
        have HN1 : Hid (i = (V.drop d).length) := hl2.symm
        have HN2 : Hid (d = (V.take d).length) := hl1.symm
        have HN4 : Hid (pre.length + i + d + (U ++ post).length = sz) := by show _ = _; have := HU.out; simp; omega
        have HN5 : Hid (T = pre ++ V.take d ++ V.drop d ++ (U ++ post)) := by show _ = _; rw [HTt.out, List.append_assoc (pre ++ V), cat_cut pre V (U ++ post) d]
        have hd0 : 0 < d := by omega
        have hdd : d + i = j := by omega
        clear hm hln hs hd hl1 hl2 ht hmj
        go_wp2_with fail
        refine HC.out.mono ?_
        rintro e w2 ⟨rfl, hw2⟩
        have HW2 : Hid (SWK enc k w0 blk off (pre ++ V.drop d ++ V.take d ++ (U ++ post)).toArray w2) := by show SWK _ _ _ _ _ _ _; simpa using hw2
        clear hw2
        go_wp2_with fail
        go_roundw
        case rel => exact ⟨i, d, pre, V.drop d, V.take d, U ++ post, rfl, by first | rfl | go_num, hi, hd0, HN1, HN2, HM, HN4, HN5, HW2⟩
        case measure => simp [intOf]; omega
end Go.Proofs.YtlamhpiiikcpiaaGreatDoor
/-
  Walks: slices.SortStableFunc: symMergeCmpFunc where one of the two runs is a single element.
-/
namespace Go.Proofs.YtlamhpiiikcpiaaGreatDoor
open Go.RowKit Go.Shelf Go.Lib Go.Sort
set_option linter.unusedVariables false
set_option linter.unusedSectionVars false
variable {P : Program} {k : Nat} {α : Type} [Inhabited α]
theorem St.mrg_one_left {lt : α → α → Bool} (hO : SWO lt) {v1 v2 : List α} {x : α} (h1 : ∀ y ∈ v1, lt y x = true) (h2 : ∀ y ∈ v2, lt y x = false) (hv : St.Srd lt (v1 ++ v2)) : St.mrg lt [x] (v1 ++ v2) = v1 ++ [x] ++ v2 := by
  have a1 := List.pairwise_append.1 hv
  rw [St.mrg_append]
  have e1 : St.mrg lt [x] v1 = v1 ++ [x] := by
    have := St.mrg_left (lt := lt) (v := v1) (s := []) (t := [x]) (fun y hy z hz => by simp at hz; subst hz; exact h1 y hy)
    rw [List.nil_append] at this
    rw [this, St.mrg_nil_left hO a1.1]
  rw [e1]
  refine St.mrg_nil hO ?_
  rw [List.append_assoc]
  refine List.pairwise_append.2 ⟨a1.1, List.pairwise_cons.2 ⟨fun y hy => ?_, a1.2.1⟩, ?_⟩
  · simp at hy; exact h2 y hy
  · intro y hy z hz
    rcases List.mem_cons.1 hz with rfl | hz
    · exact St.asym hO (h1 y hy)
    · simp at hz; exact a1.2.2 y hy z hz
theorem St.insL_at {lt : α → α → Bool} {u1 u2 : List α} {x : α} (h1 : ∀ y ∈ u1, lt x y = false) (h2 : ∀ y ∈ u2, lt x y = true) : St.insL lt (u1 ++ u2) x = u1 ++ [x] ++ u2 := by
  rw [St.insL_right h1]
  have := St.insL_left (lt := lt) (s := []) (t := u2) (x := x) h2
  rw [List.nil_append] at this
  rw [this]
  simp [St.insL]
theorem mem_take_get {l : List α} {t : Nat} {y : α} (h : y ∈ l.take t) : ∃ i, ∃ hi : i < l.length, i < t ∧ l[i] = y := by
  obtain ⟨i, hi, rfl⟩ := List.mem_iff_getElem.1 h
  rw [List.length_take] at hi
  exact ⟨i, by omega, by omega, by simp⟩
theorem mem_drop_get {l : List α} {t : Nat} {y : α} (h : y ∈ l.drop t) : ∃ i, ∃ hi : i < l.length, t ≤ i ∧ l[i] = y := by
  obtain ⟨i, hi, rfl⟩ := List.mem_iff_getElem.1 h
  rw [List.length_drop] at hi
  exact ⟨t + i, by omega, by omega, by simp⟩
theorem srd_get {lt : α → α → Bool} {l : List α} (h : St.Srd lt l) {i j : Nat} (hi : i < l.length) (hj : j < l.length) (hij : i < j) : lt l[j] l[i] = false := (List.pairwise_iff_getElem.1 h) i j hi hj hij
theorem get_row (p l q : List α) (i : Nat) (h : i < l.length) : (p ++ l ++ q).toArray[p.length + i]! = l[i] := by
  rw [St.get_toArray]
  have hi : p.length + i < (p ++ l ++ q).length := by simp; omega
  rw [getElem!_pos (p ++ l ++ q) (p.length + i) hi, List.getElem_append_left (by simp; omega), List.getElem_append_right (by omega)]
  simp
theorem swap_up (p : List α) (x y : α) (q : List α) : swp (p ++ x :: y :: q).toArray p.length (p.length + 1) = (p ++ y :: x :: q).toArray := by
  have := St.swp_list p x [] y q
  simpa using this
set_option maxHeartbeats 1600000 in
set_option maxRecDepth 20000 in
theorem sym_left (L : RowProg P k) (enc : α → List Value) (cf : α → α → Int) (g : Nat) (cb : Array Value) (blk off cap a m b sz : Nat) (d0 : Array α) (w0 w : World) (eg : ∀ args w, (callFunc g args).run P w = .ok (.enter g args) w) (hcmp : CmpLays P g cb enc k cf blk off sz w0) (R : RowK enc k w0 blk off d0) (hO : SWO (ltOf cf)) (p : List α) (x : α) (v q : List α)
    (ha : a = p.length) (hm : m = p.length + 1) (hb : b = p.length + 1 + v.length) (hd0 : d0.size = sz) (hs : (p ++ [x] ++ v ++ q).length = sz) (S : SWK enc k w0 blk off (p ++ [x] ++ v ++ q).toArray w) (hv : St.Srd (ltOf cf) v) (hsz : sz < 2305843009213693952) :
    Calls P 120 #[.slice (some ⟨blk, off, none⟩) sz cap, .int .i64 a, .int .i64 m, .int .i64 b, .func (.func g) #[] cb] w fun e w' => e = .returned (.tuple #[]) ∧ SWK enc k w0 blk off (p ++ St.mrg (ltOf cf) [x] v ++ q).toArray w' := by
  have hlen : p.length + 1 + v.length + q.length = sz := by rw [← hs]; simp; omega
  obtain ⟨dk, hdk⟩ : ∃ dk, dk = (p ++ [x] ++ v ++ q).toArray := ⟨_, rfl⟩
  rw [← hdk] at S
  have hdks : dk.size = sz := by rw [hdk, List.size_toArray]; exact hs
  have HS := Lib.hid S
  have HD0 := Lib.hid hd0
  have HV := Lib.hid hv
  have HDK := Lib.hid hdk
  have HDKS := Lib.hid hdks
  have HCM := Lib.hid hcmp
  have HB := Lib.hid hb
  have HA := Lib.hid ha
  have hma : m = a + 1 := by omega
  have hbsz : b ≤ sz := by omega
  have hmb : m ≤ b := by omega
  have ga : IntKind.i64.wrap ((m : Int) - (a : Int)) = 1 := by rw [IntWalk.i64_in _ (by omega)]; omega
  have gx : dk[a]! = x := by rw [hdk, ha, show p ++ [x] ++ v ++ q = p ++ x :: (v ++ q) by simp]; exact row_get p x _
  have gv : ∀ i (h : i < v.length), dk[m + i]! = v[i] := fun i h => by
    rw [hdk, hm]
    have := get_row (p ++ [x]) v q i h
    simpa using this
  have HGX := Lib.hid gx
  have HGV := Lib.hid gv
  have HMA := Lib.hid hma
  have ham : a < m := by omega
  clear S hd0 hv hdk hdks hcmp hb ha hs hm gx gv hma
  have mixed := L.mixed; have t0 := L.t0; have a0 := L.a0; have z0 := L.z0; have v0 := L.v0; have t3 := L.t3; have a3 := L.a3; have z3 := L.z3; have v3 := L.v3; have t4 := L.t4; have a4 := L.a4; have z4 := L.z4; have v4 := L.v4; have ts := L.ts; have asl := L.asl; have zs := L.zs; have vs := L.vs; have tf := L.tf; have af := L.af; have zf := L.zf; have vf := L.vf; have tu := L.tu; have au := L.au; have zu := L.zu; have vu := L.vu; have aE := L.aE; have zE := L.zE
  have FG := L.fSym
  clear L
  go_enter FG, Tryz.ntmps120
  go_wp2_with fail
  go_loopw [10, 11] (fun iv jv wr => ∃ i j : Nat, iv = .int .i64 i ∧ jv = .int .i64 j ∧ m ≤ i ∧ i ≤ j ∧ j ≤ b ∧ Hid ((∀ t (h : t < v.length), m + t < i → ltOf cf v[t] x = true) ∧ (∀ t (h : t < v.length), j ≤ m + t → ltOf cf v[t] x = false)) ∧ Hid (SWK enc k w0 blk off dk wr)) (fun iv jv _ => (intOf jv).toNat - (intOf iv).toNat)
  case atStart => exact ⟨m, b, rfl, rfl, Nat.le_refl _, hmb, Nat.le_refl _, (⟨fun t _ h => absurd h (by omega), fun t h h2 => by have := HB.out; have := HA.out; have := HMA.out; omega⟩ : (∀ t (h : t < v.length), m + t < m → ltOf cf v[t] x = true) ∧ (∀ t (h : t < v.length), b ≤ m + t → ltOf cf v[t] x = false)), HS⟩
  case round =>
    obtain ⟨wo, rfl⟩ : ∃ wo : World, wo = wr := ⟨wr, rfl⟩
    obtain ⟨i, j, rfl, rfl, hmi, hij, hjb, HI, HW⟩ := hrel
    by_cases hlt : i < j
    · obtain ⟨h, hh⟩ : ∃ h, h = (i + j) / 2 := ⟨_, rfl⟩
      have gh : ((i : Int) + (j : Int)) / 2 = (h : Int) := by omega
      have hhb : h < sz := by omega
      have hasz : a < sz := by omega
      have hhm : m ≤ h := by omega
      have hhj : h < j := by omega
      have hih : i ≤ h := by omega
      have hvt : h - m < v.length := by have := HB.out; have := HA.out; have := HMA.out; omega
      have lh := HW.out.ld R (HDKS.out.trans HD0.out.symm) P h (by rw [HDKS.out]; exact hhb)
      have la := HW.out.ld R (HDKS.out.trans HD0.out.symm) P a (by rw [HDKS.out]; exact hasz)
      rw [HGX.out] at la
      have ehv := HGV.out (h - m) hvt
      rw [show m + (h - m) = h by omega] at ehv
      rw [ehv] at lh
      clear ehv
      have hcg := HW.out.cmp HCM.out HDKS.out v[h - m] x
      have I1 : Hid (ltOf cf v[h - m] x = true → ∀ t (hq : t < v.length), m + t < h + 1 → ltOf cf v[t] x = true) := fun hy t hq ht => by
        by_cases e : t = h - m
        · subst e; exact hy
        · have := srd_get HV.out hq hvt (by omega)
          cases hc : ltOf cf v[t] x with
          | true => rfl
          | false => exact absurd (hO.ntrans _ _ _ this hc) (by rw [hy]; simp)
      have I2 : Hid (ltOf cf v[h - m] x = false → ∀ t (hq : t < v.length), h ≤ m + t → ltOf cf v[t] x = false) := fun hy t hq ht => by
        by_cases e : t = h - m
        · subst e; exact hy
        · exact hO.ntrans _ _ _ (srd_get HV.out hvt hq (by omega)) hy
      generalize v[h - m] = y at lh hcg I1 I2
      clear hh
      by_cases hlv : cf y x < 0
      · have J := Lib.hid (I1.out (decide_eq_true hlv))
        clear I1 I2
        go_wp2_with fail
        go_quiet_grown (first | (go_at_fn g; refine Calls.grown_of (hcg _ _)))
        go_wp2_with fail
        go_roundw
        case measure => simp [intOf]; omega
        case rel => exact ⟨h + 1, j, by first | rfl | go_num, rfl, by omega, by omega, hjb, ⟨J.out, HI.out.2⟩, HW.out.grown nq osq⟩
      · have J := Lib.hid (I2.out (decide_eq_false hlv))
        clear I1 I2
        go_wp2_with fail
        go_quiet_grown (first | (go_at_fn g; refine Calls.grown_of (hcg _ _)))
        go_wp2_with fail
        go_roundw
        case measure => simp [intOf]; omega
        case rel => exact ⟨i, h, rfl, by first | rfl | go_num, by omega, by omega, by omega, ⟨HI.out.1, J.out⟩, HW.out.grown nq osq⟩
    · obtain rfl : i = j := by omega
      obtain ⟨t0', ht0⟩ : ∃ t, i = m + t := ⟨i - m, by omega⟩
      have htl : t0' ≤ v.length := by have := HB.out; have := HA.out; have := HMA.out; omega
      have HE : Hid (p ++ St.mrg (ltOf cf) [x] v ++ q = p ++ v.take t0' ++ x :: (v.drop t0' ++ q)) := by
        show _ = _
        have := St.mrg_one_left hO (v1 := v.take t0') (v2 := v.drop t0') (x := x) (fun y hy => by obtain ⟨i', hi', h1, rfl⟩ := mem_take_get hy; exact HI.out.1 i' hi' (by omega)) (fun y hy => by obtain ⟨i', hi', h1, rfl⟩ := mem_drop_get hy; exact HI.out.2 i' hi' (by omega)) (by rw [List.take_append_drop]; exact HV.out)
        rw [List.take_append_drop] at this
        rw [this]
        simp
      clear HI HGV
      go_wp2_with fail
      go_loopw [13] (fun kv wr => ∃ c : Nat, kv = .int .i64 ((a + c : Nat) : Int) ∧ c ≤ t0' ∧ Hid (SWK enc k w0 blk off (p ++ v.take c ++ x :: (v.drop c ++ q)).toArray wr)) (fun kv _ => i - (intOf kv).toNat)
      case atStart => exact ⟨0, by simp, Nat.zero_le _, by show SWK _ _ _ _ _ _ _; have := HW.out; rw [HDK.out] at this; simpa using this⟩
      case round =>
        obtain ⟨wo2, rfl⟩ : ∃ wo : World, wo = wr := ⟨wr, rfl⟩
        obtain ⟨c, rfl, hct, HC⟩ := hrel
        obtain ⟨ac, hac⟩ : ∃ ac, ac = a + c := ⟨_, rfl⟩
        rw [← hac]
        obtain ⟨i1, hi1⟩ : ∃ i1, i = i1 + 1 := ⟨i - 1, by omega⟩
        have gi : IntKind.i64.wrap ((i : Int) - 1) = (i1 : Int) := by rw [IntWalk.i64_in _ (by omega)]; omega
        have gi2 : (i : Int) - 1 = (i1 : Int) := by omega
        by_cases hk : ac < i1
        · have hcv : c < v.length := by have := HMA.out; omega
          obtain ⟨de, hde⟩ : ∃ de, de = (p ++ v.take c ++ x :: (v.drop c ++ q)).toArray := ⟨_, rfl⟩
          have htk : (v.take c).length = c := by rw [List.length_take]; omega
          have hdes : de.size = sz := by
            rw [hde, List.size_toArray, ← hlen]
            simp only [List.length_append, List.length_take, List.length_drop, List.length_cons]
            omega
          have HSt : Hid (swp de ac (ac + 1) = (p ++ v.take (c + 1) ++ x :: (v.drop (c + 1) ++ q)).toArray) := by
            show _ = _
            have := swap_up (p ++ v.take c) x v[c] (v.drop (c + 1) ++ q)
            rw [← List.cons_append, ← List.drop_eq_getElem_cons hcv] at this
            rw [hde, show ac = (p ++ v.take c).length by simp; have := HA.out; omega, this, List.take_succ_eq_append_getElem hcv]
            simp only [List.append_assoc, List.cons_append, List.nil_append]
          rw [← hde] at HC
          have hs2 : de.size = d0.size := by rw [hdes]; exact HD0.out.symm
          have S2 := Lib.hid (HC.out.swapped R ac (ac + 1) (by omega) (by omega))
          rw [HSt.out] at S2
          have g2 : (ac : Int) + 1 = ((ac + 1 : Nat) : Int) := by omega
          have g3 : (ac : Int) < (sz : Int) := by omega
          have g4 : ((ac + 1 : Nat) : Int) < (sz : Int) := by omega
          have l1 := HC.out.ld1 R hs2 P ac (by omega)
          have l2 := HC.out.ld1 R hs2 P (ac + 1) (by omega)
          have s1 := HC.out.st1 R hs2 P ac (by omega) de[ac + 1]!
          have s2 := HC.out.st2 R hs2 P ac (ac + 1) (by omega) (by omega) de[ac + 1]! de[ac]!
          have n1 : (enc de[ac]!).length = k := R.hk _
          have n2 : (enc de[ac + 1]!).length = k := R.hk _
          generalize enc de[ac]! = c1 at S2 l1 s2 n1
          generalize enc de[ac + 1]! = c2 at S2 l2 s1 s2 n2
          have hkz : (ac : Int) < (i1 : Int) := by omega
          obtain ⟨ad, had⟩ : ∃ ad, ad = ac + 1 := ⟨_, rfl⟩
          rw [← had] at g2 g4 l2 s2 S2
          have Hac := Lib.hid hac
          have Had := Lib.hid had
          have Hi1 := Lib.hid hi1
          have Ht0 := Lib.hid ht0
          clear hde htk hdes hs2 hac had hi1
          go_wp2_with fail
          go_big_region_o
          clear l1 l2 s1 s2
          generalize (wo2.drew.setCells blk (off + ac * k) c2).setCells blk (off + ad * k) c1 = w2 at S2 ⊢
          go_wp2_with fail
          go_roundw
          case rel => exact ⟨c + 1, by rw [show ((a + (c + 1) : Nat) : Int) = (ad : Int) by have := Hac.out; have := Had.out; omega], by have := Hac.out; have := Hi1.out; have := Ht0.out; have := HMA.out; omega, S2⟩
          case measure => have := Hac.out; have := Had.out; have := Hi1.out; simp [intOf]; omega
        · have hct2 : c = t0' := by have := HMA.out; omega
          have hkz : ¬ (ac : Int) < (i1 : Int) := by omega
          subst hct2
          clear hac hi1
          go_wp2_with fail
          (try simp only [Exit.inBlock, Exit.then])
          refine bodyPost_ret (results_none rfl _ _ _) rfl ?_
          refine ⟨rfl, ?_⟩
          have hE := HC.out
          rw [← HE.out] at hE
          simpa using hE
end Go.Proofs.YtlamhpiiikcpiaaGreatDoor
/-
  Walks: slices.SortStableFunc: symMergeCmpFunc where the right run is a single element.
-/
namespace Go.Proofs.YtlamhpiiikcpiaaGreatDoor
open Go.RowKit Go.Shelf Go.Lib Go.Sort
set_option linter.unusedVariables false
set_option linter.unusedSectionVars false
variable {P : Program} {k : Nat} {α : Type} [Inhabited α]
set_option maxHeartbeats 1600000 in
set_option maxRecDepth 20000 in
theorem sym_right (L : RowProg P k) (enc : α → List Value) (cf : α → α → Int) (g : Nat) (cb : Array Value) (blk off cap a m b sz : Nat) (d0 : Array α) (w0 w : World) (eg : ∀ args w, (callFunc g args).run P w = .ok (.enter g args) w) (hcmp : CmpLays P g cb enc k cf blk off sz w0) (R : RowK enc k w0 blk off d0) (hO : SWO (ltOf cf)) (p u : List α) (x : α) (q : List α)
    (ha : a = p.length) (hm : m = p.length + u.length) (hb : b = p.length + u.length + 1) (hul : 2 ≤ u.length) (hd0 : d0.size = sz) (hs : (p ++ u ++ [x] ++ q).length = sz) (S : SWK enc k w0 blk off (p ++ u ++ [x] ++ q).toArray w) (hu : St.Srd (ltOf cf) u) (hsz : sz < 2305843009213693952) :
    Calls P 120 #[.slice (some ⟨blk, off, none⟩) sz cap, .int .i64 a, .int .i64 m, .int .i64 b, .func (.func g) #[] cb] w fun e w' => e = .returned (.tuple #[]) ∧ SWK enc k w0 blk off (p ++ St.mrg (ltOf cf) u [x] ++ q).toArray w' := by
  have hlen : p.length + u.length + 1 + q.length = sz := by rw [← hs]; simp; omega
  obtain ⟨dk, hdk⟩ : ∃ dk, dk = (p ++ u ++ [x] ++ q).toArray := ⟨_, rfl⟩
  rw [← hdk] at S
  have hdks : dk.size = sz := by rw [hdk, List.size_toArray]; exact hs
  have HS := Lib.hid S
  have HD0 := Lib.hid hd0
  have HU := Lib.hid hu
  have HDK := Lib.hid hdk
  have HDKS := Lib.hid hdks
  have HCM := Lib.hid hcmp
  have HA := Lib.hid ha
  have HMA : Hid (m = a + u.length) := by show _ = _; omega
  have HBM : Hid (b = m + 1) := by show _ = _; omega
  have hmsz : m < sz := by omega
  have ham : a < m := by omega
  have ga0 : IntKind.i64.wrap ((m : Int) - (a : Int)) = (u.length : Int) := by rw [IntWalk.i64_in _ (by omega)]; omega
  have gne : ((u.length : Int) == 1) = false := beq_eq_false_iff_ne.2 (by omega)
  obtain ⟨ul, hulE⟩ : ∃ ul, ul = u.length := ⟨_, rfl⟩
  rw [← hulE] at ga0 gne
  have HUL := Lib.hid hulE
  have gb : IntKind.i64.wrap ((b : Int) - (m : Int)) = 1 := by rw [IntWalk.i64_in _ (by omega)]; omega
  have gx : dk[m]! = x := by
    rw [hdk, hm, show p ++ u ++ [x] ++ q = (p ++ u) ++ x :: q by simp, show p.length + u.length = (p ++ u).length by simp]
    exact row_get (p ++ u) x _
  have gu : ∀ i (h : i < u.length), dk[a + i]! = u[i] := fun i h => by
    rw [hdk, ha, List.append_assoc (p ++ u)]
    exact get_row p u ([x] ++ q) i h
  have HGX := Lib.hid gx
  have HGU := Lib.hid gu
  clear S hd0 hu hdk hdks hcmp hb ha hs hm gx gu hulE hul
  have mixed := L.mixed; have t0 := L.t0; have a0 := L.a0; have z0 := L.z0; have v0 := L.v0; have t3 := L.t3; have a3 := L.a3; have z3 := L.z3; have v3 := L.v3; have t4 := L.t4; have a4 := L.a4; have z4 := L.z4; have v4 := L.v4; have ts := L.ts; have asl := L.asl; have zs := L.zs; have vs := L.vs; have tf := L.tf; have af := L.af; have zf := L.zf; have vf := L.vf; have tu := L.tu; have au := L.au; have zu := L.zu; have vu := L.vu; have aE := L.aE; have zE := L.zE
  have FG := L.fSym
  clear L
  go_enter FG, Tryz.ntmps120
  go_wp2_with fail
  go_loopw [14, 15] (fun iv jv wr => ∃ i j : Nat, iv = .int .i64 i ∧ jv = .int .i64 j ∧ a ≤ i ∧ i ≤ j ∧ j ≤ m ∧ Hid ((∀ t (h : t < u.length), a + t < i → ltOf cf x u[t] = false) ∧ (∀ t (h : t < u.length), j ≤ a + t → ltOf cf x u[t] = true)) ∧ Hid (SWK enc k w0 blk off dk wr)) (fun iv jv _ => (intOf jv).toNat - (intOf iv).toNat)
  case atStart => exact ⟨a, m, rfl, rfl, Nat.le_refl _, by omega, Nat.le_refl _, (⟨fun t _ h => absurd h (by omega), fun t h h2 => by have := HMA.out; omega⟩ : (∀ t (h : t < u.length), a + t < a → ltOf cf x u[t] = false) ∧ (∀ t (h : t < u.length), m ≤ a + t → ltOf cf x u[t] = true)), HS⟩
  case round =>
    obtain ⟨wo, rfl⟩ : ∃ wo : World, wo = wr := ⟨wr, rfl⟩
    obtain ⟨i, j, rfl, rfl, hmi, hij, hjb, HI, HW⟩ := hrel
    by_cases hlt : i < j
    · obtain ⟨h, hh⟩ : ∃ h, h = (i + j) / 2 := ⟨_, rfl⟩
      have gh : ((i : Int) + (j : Int)) / 2 = (h : Int) := by omega
      have hhb : h < sz := by omega
      have hhm : a ≤ h := by omega
      have hhj : h < j := by omega
      have hih : i ≤ h := by omega
      have hvt : h - a < u.length := by have := HMA.out; omega
      have lh := HW.out.ld R (HDKS.out.trans HD0.out.symm) P h (by rw [HDKS.out]; exact hhb)
      have la := HW.out.ld R (HDKS.out.trans HD0.out.symm) P m (by rw [HDKS.out]; exact hmsz)
      rw [HGX.out] at la
      have ehv := HGU.out (h - a) hvt
      rw [show a + (h - a) = h by omega] at ehv
      rw [ehv] at lh
      clear ehv
      have hcg := HW.out.cmp HCM.out HDKS.out x u[h - a]
      have I1 : Hid (ltOf cf x u[h - a] = false → ∀ t (hq : t < u.length), a + t < h + 1 → ltOf cf x u[t] = false) := fun hy t hq ht => by
        by_cases e : t = h - a
        · subst e; exact hy
        · exact hO.ntrans _ _ _ hy (srd_get HU.out hq hvt (by omega))
      have I2 : Hid (ltOf cf x u[h - a] = true → ∀ t (hq : t < u.length), h ≤ a + t → ltOf cf x u[t] = true) := fun hy t hq ht => by
        by_cases e : t = h - a
        · subst e; exact hy
        · have := srd_get HU.out hvt hq (by omega)
          cases hc : ltOf cf x u[t] with
          | true => rfl
          | false => exact absurd (hO.ntrans _ _ _ hc this) (by rw [hy]; simp)
      generalize u[h - a] = y at lh hcg I1 I2
      clear hh
      by_cases hlv : cf x y < 0
      · have J := Lib.hid (I2.out (decide_eq_true hlv))
        clear I1 I2
        go_wp2_with fail
        go_quiet_grown (first | (go_at_fn g; refine Calls.grown_of (hcg _ _)))
        go_wp2_with fail
        go_roundw
        case measure => simp [intOf]; omega
        case rel => exact ⟨i, h, rfl, by first | rfl | go_num, by omega, by omega, by omega, ⟨HI.out.1, J.out⟩, HW.out.grown nq osq⟩
      · have J := Lib.hid (I1.out (decide_eq_false hlv))
        have hdv : decide (cf x y < 0) = false := decide_eq_false hlv
        clear I1 I2
        go_wp2_with fail
        go_quiet_grown (first | (go_at_fn g; refine Calls.grown_of (hcg _ _)))
        go_wp2_with fail
        go_roundw
        case measure => simp [intOf]; omega
        case rel => exact ⟨h + 1, j, by first | rfl | go_num, rfl, by omega, by omega, hjb, ⟨J.out, HI.out.2⟩, HW.out.grown nq osq⟩
    · obtain rfl : i = j := by omega
      obtain ⟨t0', ht0⟩ : ∃ t, i = a + t := ⟨i - a, by omega⟩
      have htl : t0' ≤ u.length := by have := HMA.out; omega
      have HE : Hid (p ++ St.mrg (ltOf cf) u [x] ++ q = p ++ u.take t0' ++ x :: (u.drop t0' ++ q)) := by
        show _ = _
        have := St.insL_at (lt := ltOf cf) (u1 := u.take t0') (u2 := u.drop t0') (x := x) (fun y hy => by obtain ⟨i', hi', h1, rfl⟩ := mem_take_get hy; exact HI.out.1 i' hi' (by omega)) (fun y hy => by obtain ⟨i', hi', h1, rfl⟩ := mem_drop_get hy; exact HI.out.2 i' hi' (by omega))
        rw [List.take_append_drop] at this
        show p ++ St.insL (ltOf cf) u x ++ q = _
        rw [this]
        simp
      clear HI HGU
      go_wp2_with fail
      go_loopw [17] (fun kv wr => ∃ c : Nat, kv = .int .i64 ((a + c : Nat) : Int) ∧ t0' ≤ c ∧ c ≤ u.length ∧ Hid (SWK enc k w0 blk off (p ++ u.take c ++ x :: (u.drop c ++ q)).toArray wr)) (fun kv _ => (intOf kv).toNat - i)
      case atStart => exact ⟨u.length, by have := HMA.out; rw [this], htl, Nat.le_refl _, by show SWK _ _ _ _ _ _ _; have := HW.out; rw [HDK.out] at this; simpa using this⟩
      case round =>
        obtain ⟨wo2, rfl⟩ : ∃ wo : World, wo = wr := ⟨wr, rfl⟩
        obtain ⟨c, rfl, hct, hcu, HC⟩ := hrel
        obtain ⟨ac, hac⟩ : ∃ ac, ac = a + c := ⟨_, rfl⟩
        rw [← hac]
        by_cases hk : i < ac
        · obtain ⟨c1, rfl⟩ : ∃ c1, c = c1 + 1 := ⟨c - 1, by omega⟩
          have hcv : c1 < u.length := by omega
          obtain ⟨de, hde⟩ : ∃ de, de = (p ++ u.take (c1 + 1) ++ x :: (u.drop (c1 + 1) ++ q)).toArray := ⟨_, rfl⟩
          have htk : (u.take c1).length = c1 := by rw [List.length_take]; omega
          have hdes : de.size = sz := by
            rw [hde, List.size_toArray, ← hlen]
            simp only [List.length_append, List.length_take, List.length_drop, List.length_cons]
            omega
          obtain ⟨ad, had⟩ : ∃ ad, ad = a + c1 := ⟨_, rfl⟩
          have hacd : ac = ad + 1 := by omega
          have HSt : Hid (swp de ac ad = (p ++ u.take c1 ++ x :: (u.drop c1 ++ q)).toArray) := by
            show _ = _
            have := St.swp_pair (p ++ u.take c1) u[c1] x (u.drop (c1 + 1) ++ q)
            rw [hde, List.take_succ_eq_append_getElem hcv, show ad = (p ++ u.take c1).length by simp; have := HA.out; omega, hacd, had]
            rw [show p ++ (u.take c1 ++ [u[c1]]) ++ x :: (u.drop (c1 + 1) ++ q) = (p ++ u.take c1) ++ u[c1] :: x :: (u.drop (c1 + 1) ++ q) by simp only [List.append_assoc, List.cons_append, List.nil_append]]
            rw [show a + c1 + 1 = (p ++ u.take c1).length + 1 by simp; have := HA.out; omega, this, List.drop_eq_getElem_cons hcv]
            simp only [List.cons_append]
          rw [← hde] at HC
          have hs2 : de.size = d0.size := by rw [hdes]; exact HD0.out.symm
          have hacs : ac < de.size := by rw [hdes]; have := HA.out; omega
          have hads : ad < de.size := by omega
          have S2 := Lib.hid (HC.out.swapped R ac ad hacs hads)
          rw [HSt.out] at S2
          have g2 : (ac : Int) - 1 = (ad : Int) := by omega
          have g2w : IntKind.i64.wrap ((ac : Int) - 1) = (ad : Int) := by rw [IntWalk.i64_in _ (by omega)]; omega
          have g3 : (ac : Int) < (sz : Int) := by omega
          have g4 : (ad : Int) < (sz : Int) := by omega
          have l1 := HC.out.ld1 R hs2 P ac hacs
          have l2 := HC.out.ld1 R hs2 P ad hads
          have s1 := HC.out.st1 R hs2 P ac hacs de[ad]!
          have s2 := HC.out.st2 R hs2 P ac ad hacs hads de[ad]! de[ac]!
          have n1 : (enc de[ac]!).length = k := R.hk _
          have n2 : (enc de[ad]!).length = k := R.hk _
          generalize enc de[ac]! = c1' at S2 l1 s2 n1
          generalize enc de[ad]! = c2' at S2 l2 s1 s2 n2
          have hkz : (i : Int) < (ac : Int) := by omega
          have Hac := Lib.hid hac
          have Had := Lib.hid had
          have Ht0 := Lib.hid ht0
          have Hk := Lib.hid hk
          clear hde htk hdes hs2 hac had hacd hacs hads
          go_wp2_with fail
          go_big_region_o
          clear l1 l2 s1 s2
          generalize (wo2.drew.setCells blk (off + ac * k) c2').setCells blk (off + ad * k) c1' = w2 at S2 ⊢
          go_wp2_with fail
          go_roundw
          case rel => exact ⟨c1, by rw [show ((a + c1 : Nat) : Int) = (ad : Int) by have := Had.out; omega], by have := Hac.out; have := Ht0.out; have := Hk.out; omega, by omega, S2⟩
          case measure => have := Hac.out; have := Had.out; have := Hk.out; simp [intOf]; omega
        · have hct2 : c = t0' := by omega
          have hkz : ¬ (i : Int) < (ac : Int) := by omega
          subst hct2
          clear hac
          go_wp2_with fail
          (try simp only [Exit.inBlock, Exit.then])
          refine bodyPost_ret (results_none rfl _ _ _) rfl ?_
          refine ⟨rfl, ?_⟩
          have hE := HC.out
          rw [← HE.out] at hE
          simpa using hE
end Go.Proofs.YtlamhpiiikcpiaaGreatDoor
