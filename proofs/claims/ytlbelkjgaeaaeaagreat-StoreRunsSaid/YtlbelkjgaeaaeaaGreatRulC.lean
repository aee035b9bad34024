/-
  Walks: which ports, actions and rules may be: the reference's.
-/
import Derived.Test.YtlbelkjgaeaaeaaGreatRulB
import Derived.BigQuiet
namespace Go.Proofs.YtlbelkjgaeaaeaaGreat
open Go.RowKit
set_option linter.unusedVariables false

theorem actionB_loop (k : Int) (ps : List ByteArray) (h12 : ¬ (k = 1 ∨ k = 2)) (h : (List.range ps.length).all (Rp.okAt ps) = true) :
    Rp.actionB k ps = ((decide (k = 3) || decide (k = 4)) && decide (1 ≤ ps.length) && decide (ps.length ≤ 64)) := by
  unfold Rp.actionB
  rw [if_neg h12]
  by_cases h34 : k = 3 ∨ k = 4
  · rw [if_pos h34]
    unfold Rp.portsB
    rw [h, Bool.true_and]
    have : (decide (k = 3) || decide (k = 4)) = true := by simpa using h34
    rw [this, Bool.true_and]
  · rw [if_neg h34]
    have : (decide (k = 3) || decide (k = 4)) = false := by simpa using h34
    rw [this]; rfl

theorem actionB_bad {k : Int} {ps : List ByteArray} (h12 : ¬ (k = 1 ∨ k = 2)) {i : Nat} (h : i < ps.length) (hf : Rp.okAt ps i = false) : Rp.actionB k ps = false := by
  unfold Rp.actionB
  rw [if_neg h12]
  split
  · exact ports_bad h hf
  · rfl

set_option maxHeartbeats 1600000 in
set_option maxRecDepth 20000 in
theorem rRight_any (k : Int) (a : Option Addr) (n c : Nat) (ps : List ByteArray) (w : World) (hr : RdsS w (.slice a n c) ps) (hz : ∀ x ∈ ps, x.size ≤ 140737488351232) (q : Bool) (hq : Rp.actionB k ps = q) :
    Calls Tryz.prog 64 #[.agg #[.int .i64 k, .slice a n c]] w fun e w' => e = .returned (.bool q) ∧ Below w.heap.size w w' := by
  obtain ⟨ad, len, cap, hv, hl, hlm, hel⟩ := rdsS_form hr
  injection hv with e1 e2 e3
  subst e1 e2 e3
  have HB := Lib.hid ((Below.refl w.heap.size w).alloc (Nat.le_refl _) (.cells #[.int .i64 k, .slice a n c] 60))
  have HQ := Lib.hid hq
  have HL := Lib.hid hl
  have HZ := Lib.hid hz
  have HEL := Lib.hid hel
  unfold maxLen at hlm
  clear hq hl hr hz hel
  by_cases h12 : k = 1 ∨ k = 2
  · have HQ2 : Hid (decide ((n : Int) = 0) = q) := by
      show _ = _
      rw [← HQ.out]
      unfold Rp.actionB
      rw [if_pos h12, HL.out, decide_eq_decide]
      omega
    rcases h12 with rfl | rfl
    all_goals
      go_enter Tryz.func64, Tryz.ntmps64
      go_wp2_with fail
      go_ret
      exact ⟨ret_bool (by rw [← HQ2.out]; first | rfl | (rw [Bool.eq_iff_iff]; simp)), HB.out⟩
  · have n1 : ¬ k = 1 := fun h => h12 (.inl h)
    have n2 : ¬ k = 2 := fun h => h12 (.inr h)
    have H12 := Lib.hid h12
    have m1 : (k == 1) = false := beq_eq_false_iff_ne.2 n1
    have m2 : (k == 2) = false := beq_eq_false_iff_ne.2 n2
    clear h12
    go_enter Tryz.func64, Tryz.ntmps64
    go_wp2_with fail
    go_loopw [3] (fun kv wr => ∃ i j : Nat, i ≤ n ∧ kv = .int .i64 i ∧ Hid ((List.range i).all (Rp.okAt ps) = true) ∧ wr = (w.alloc (.cells #[.int .i64 k, .slice a n c] 60)).drewN j) (fun kv _ => n - (intOf kv).toNat)
    case atStart => exact ⟨0, 0, Nat.zero_le _, rfl, rfl, rfl⟩
    case round =>
      obtain ⟨i, j, hi, rfl, HA, rfl⟩ := hrel
      by_cases hlt : i < n
      · have hn' : i < ps.length := by rw [← HL.out]; exact hlt
        obtain ⟨b, off, rfl, hb, hc⟩ := HEL.out i hn'
        have hne : ¬ b = w.heap.size := by omega
        have hsz : ps[i].size ≤ 9223372036854775807 := by have := HZ.out _ (List.getElem_mem hn'); omega
        obtain ⟨d, hd⟩ : ∃ d, Rp.nameB ps[i].data.toList = d := ⟨_, rfl⟩
        have HD := Lib.hid (rname_is ps[i] d (by unfold maxLen; exact hsz) hd)
        have HK := Lib.hid (okAt_at hn')
        rw [hd] at HK
        have hc1 : (w.alloc (.cells #[.int .i64 k, .slice (some ⟨b, off, none⟩) n c] 60)).cell? ⟨b, off + i, none⟩ = some (.string ps[i]) := (HB.out.cell (p := ⟨b, off + i, none⟩) hb).trans hc
        have hc0 : (w.alloc (.cells #[.int .i64 k, .slice (some ⟨b, off, none⟩) n c] 60)).cell? ⟨w.heap.size, 0, none⟩ = some (.int .i64 k) := by simp [go_sem]
        have hc01 : (w.alloc (.cells #[.int .i64 k, .slice (some ⟨b, off, none⟩) n c] 60)).cell? ⟨w.heap.size, 1, none⟩ = some (.slice (some ⟨b, off, none⟩) n c) := by simp [go_sem]
        clear hd hc
        cases d with
        | false =>
          have HF := Lib.hid (actionB_bad (k := k) H12.out hn' (by rw [HK.out]; rfl))
          clear HK
          generalize w.alloc (.cells #[.int .i64 k, .slice (some ⟨b, off, none⟩) n c] 60) = W1 at *
          go_wp2_with fail
          go_quiet ((refine (HD.out _).mono ?_; rintro _ _ ⟨rfl, rfl⟩; exact ⟨rfl, _, rfl⟩))
          go_wp2_with fail
          go_ret
          exact ⟨ret_bool (by rw [← HQ.out, HF.out]), below_dN (below_dN HB.out _) _⟩
        | true =>
          by_cases hi0 : i = 0
          · subst hi0
            have HO : Hid (Rp.okAt ps 0 = true) := by show _ = _; rw [HK.out]; rfl
            simp only [Nat.add_zero] at hc1
            clear HK
            generalize hW1 : w.alloc (.cells #[.int .i64 k, .slice (some ⟨b, off, none⟩) n c] 60) = W1 at *
            have HW1 := Lib.hid hW1
            clear hW1
            go_wp2_with fail
            go_quiet ((refine (HD.out _).mono ?_; rintro _ _ ⟨rfl, rfl⟩; exact ⟨rfl, _, rfl⟩))
            go_wp2_with fail
            go_roundw
            case rel => exact ⟨1, _, by omega, by first | rfl | go_num, by unfold Hid; rw [Rp.range_all_succ, HA.out, HO.out]; rfl, rfl⟩
            case measure => simp [intOf]; omega
          · obtain ⟨m, rfl⟩ : ∃ m, i = m + 1 := ⟨i - 1, by omega⟩
            have hm' : m < ps.length := by omega
            obtain ⟨b2, off2, hab, hb2, hc2⟩ := HEL.out m hm'
            injection hab with hab
            injection hab with e1 e2
            subst e1 e2
            have hc2' : (w.alloc (.cells #[.int .i64 k, .slice (some ⟨b, off, none⟩) n c] 60)).cell? ⟨b, off + m, none⟩ = some (.string ps[m]) := (HB.out.cell (p := ⟨b, off + m, none⟩) hb).trans hc2
            have hmz : ((m + 1 : Nat) : Int) - 1 = (m : Int) := by omega
            have hmlt : (m : Int) < (n : Int) := by omega
            have hmlt1 : (m : Int) + 1 < (n : Int) := by omega
            obtain ⟨q2, hq2⟩ : ∃ q, Rp.lessB ps[m] ps[m + 1] = q := ⟨_, rfl⟩
            have HK2 : Hid (Rp.okAt ps (m + 1) = q2) := by show _ = _; rw [HK.out, ← hq2]; simp
            unfold Rp.lessB at hq2
            clear HK hc2 hi0
            generalize hW1 : w.alloc (.cells #[.int .i64 k, .slice (some ⟨b, off, none⟩) n c] 60) = W1 at *
            have HW1 := Lib.hid hW1
            clear hW1
            have hpos : (0 : Int) < (m : Int) + 1 := by omega
            cases q2 with
            | false =>
              have HF := Lib.hid (actionB_bad (k := k) H12.out hn' HK2.out)
              go_wp2_with fail
              go_quiet ((refine (HD.out _).mono ?_; rintro _ _ ⟨rfl, rfl⟩; exact ⟨rfl, _, rfl⟩))
              go_wp2_with fail
              go_ret
              exact ⟨ret_bool (by rw [← HQ.out, HF.out]), below_dN (below_dN HB.out _) _⟩
            | true =>
              go_wp2_with fail
              go_quiet ((refine (HD.out _).mono ?_; rintro _ _ ⟨rfl, rfl⟩; exact ⟨rfl, _, rfl⟩))
              go_wp2_with fail
              go_roundw
              case rel => exact ⟨m + 1 + 1, _, by omega, by first | rfl | go_num, by unfold Hid; rw [Rp.range_all_succ, HA.out, HK2.out]; rfl, rfl⟩
              case measure => simp [intOf]; omega
      · have HE : Hid (q = ((decide (k = 3) || decide (k = 4)) && decide (1 ≤ n) && decide (n ≤ 64))) := by
          show _ = _
          have : i = ps.length := by have := HL.out; omega
          have h2 := HA.out
          rw [this] at h2
          rw [← HQ.out, actionB_loop k ps H12.out h2, HL.out]
        have hc0 : (w.alloc (.cells #[.int .i64 k, .slice a n c] 60)).cell? ⟨w.heap.size, 0, none⟩ = some (.int .i64 k) := by simp [go_sem]
        have hc01 : (w.alloc (.cells #[.int .i64 k, .slice a n c] 60)).cell? ⟨w.heap.size, 1, none⟩ = some (.slice a n c) := by simp [go_sem]
        generalize hW1 : w.alloc (.cells #[.int .i64 k, .slice a n c] 60) = W1 at *
        have HW1 := Lib.hid hW1
        clear hW1
        by_cases h3 : k = 3
        · have m3 : (k == 3) = true := by simpa using h3
          go_wp2_with fail
          all_goals
            go_ret
            refine ⟨ret_bool ?_, below_dN HB.out _⟩
            rw [HE.out, Bool.eq_iff_iff]
            simp [*]
            try omega
        · have m3 : (k == 3) = false := beq_eq_false_iff_ne.2 h3
          by_cases h4 : k = 4
          · have m4 : (k == 4) = true := by simpa using h4
            go_wp2_with fail
            all_goals
              go_ret
              refine ⟨ret_bool ?_, below_dN HB.out _⟩
              rw [HE.out, Bool.eq_iff_iff]
              simp [*]
              try omega
          · have m4 : (k == 4) = false := beq_eq_false_iff_ne.2 h4
            have HE2 : Hid (q = false) := by show _ = _; rw [HE.out, decide_eq_false h3, decide_eq_false h4]; rfl
            go_wp2_with fail
            go_ret
            exact ⟨ret_bool HE2.out.symm, below_dN HB.out _⟩

set_option maxHeartbeats 1600000 in
set_option maxRecDepth 20000 in
theorem rCheck_any (ok : Nat → Prop) (x : RC) (r : Rl) (width : Int) (w : World) (hr : RdC ok w x r) (q : Int) (hq : Rp.checkR r width = q) :
    Calls Tryz.prog 52 #[x.v, .int .i64 width] w fun e w' => e = .returned (.int .i64 q) ∧ Below w.heap.size w w' := by
  obtain ⟨p, m, k, a, n, c⟩ := x
  obtain ⟨hp, hm, hk, hs, hz⟩ := hr
  simp only at hp hm hk hs
  subst hp hm hk
  unfold RC.v
  simp only
  have hms : r.m.size ≤ maxLen := by have := hz.m; unfold maxLen; omega
  have hB := (Below.refl w.heap.size w).alloc (Nat.le_refl _) (.cells #[.int .i64 r.p, .string r.m, .int .i64 r.k, .slice a n c] 62)
  have HB := Lib.hid hB
  have HR := Lib.hid (hs.1.below hB)
  have HZ := Lib.hid hz.s
  clear hs hz hB
  rcases checkR_cases r width q hq with ⟨rfl, h⟩ | ⟨⟨h1, h2, h3, h4⟩, h⟩
  · clear hq
    rcases h with h | h | h | h
    all_goals
      go_enter Tryz.func52, Tryz.ntmps52
      go_wp2_with fail
      all_goals (go_ret; exact ⟨rfl, HB.out⟩)
  · clear hq
    rcases h with ⟨rfl, hc⟩ | ⟨hc, h⟩
    · have HC := Lib.hid (fun W => Right_false (s := r.m) W hms hc)
      clear hc
      go_enter Tryz.func52, Tryz.ntmps52
      go_wp2_with fail
      refine (HC.out _).mono ?_
      rintro e w1 ⟨rfl, rfl⟩
      go_wp2_with fail
      go_ret
      exact ⟨rfl, HB.out⟩
    · have HC := Lib.hid (fun W => Right_true (s := r.m) W hms hc)
      clear hc
      rcases h with ⟨rfl, hw⟩ | ⟨hw, h⟩
      · have hw' : ¬ width = (r.m.size : Int) := fun h => hw h.symm
        go_enter Tryz.func52, Tryz.ntmps52
        go_wp2_with fail
        refine (HC.out _).mono ?_
        rintro e w1 ⟨rfl, rfl⟩
        go_wp2_with fail
        go_ret
        exact ⟨rfl, HB.out⟩
      · obtain ⟨qa, hqa, hqq⟩ : ∃ qa : Bool, Rp.actionB r.k r.ps = qa ∧ q = if qa = true then 0 else 51 := by
          rcases h with ⟨rfl, h⟩ | ⟨rfl, h⟩
          · exact ⟨false, h, rfl⟩
          · exact ⟨true, h, rfl⟩
        have HAc := Lib.hid (fun W hW => rRight_any r.k a n c r.ps W hW HZ.out qa hqa)
        have HQQ := Lib.hid hqq
        clear h hqa hqq
        go_enter Tryz.func52, Tryz.ntmps52
        go_wp2_with fail
        refine (HC.out _).mono ?_
        rintro e w1 ⟨rfl, rfl⟩
        go_wp2_with fail
        refine (HAc.out _ HR.out).mono ?_
        rintro e w2 ⟨rfl, hb2⟩
        have HB2 := Lib.hid (HB.out.trans (hb2.mono HB.out.size))
        clear hb2
        cases qa with
        | true =>
          obtain rfl : q = 0 := HQQ.out
          go_wp2_with fail
          go_ret
          exact ⟨rfl, HB2.out⟩
        | false =>
          obtain rfl : q = 51 := HQQ.out
          go_wp2_with fail
          go_ret
          exact ⟨rfl, HB2.out⟩
end Go.Proofs.YtlbelkjgaeaaeaaGreat
