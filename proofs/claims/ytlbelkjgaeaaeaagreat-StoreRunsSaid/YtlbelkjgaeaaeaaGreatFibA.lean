/-
  Walks: find, the reference's at; New, the code's and the reference's.
-/
import Derived.Test.YtlbelkjgaeaaeaaGreatFibPure
namespace Go.Proofs.YtlbelkjgaeaaeaaGreat
open Go.RowKit Go.Shelf Go.Lib Go.Sort
set_option linter.unusedVariables false
set_option linter.unusedSectionVars false

set_option maxHeartbeats 800000 in
set_option maxRecDepth 20000 in
theorem find1_any (x : RC) (p : Int) (m : ByteArray) (kb : Nat) (w : World) (h0 : w.cell? ⟨kb, 0, none⟩ = some (.int .i64 p)) (h1 : w.cell? ⟨kb, 1, none⟩ = some (.string m)) (q : Bool) (hq : ((x.p == p) && (x.m.toList == m.toList)) = q) :
    Calls Tryz.prog 74 #[.agg #[.int .i64 x.p, .string x.m, .int .i64 x.k, .slice x.a x.n x.c], .pointer (some ⟨kb, 0, none⟩)] w fun e w' => e = .returned (.bool q) ∧ Grn w w' := by
  have hk : kb < w.heap.size := cell_lt h0
  obtain ⟨W2, hW2⟩ : ∃ W2, W2 = w.alloc (.cells #[.int .i64 x.p, .string x.m, .int .i64 x.k, .slice x.a x.n x.c] 62) := ⟨_, rfl⟩
  have hg : Grn w W2 := by rw [hW2]; exact (Grn.refl w).alloc _
  have k0 := (hg.below.cell (p := ⟨kb, 0, none⟩) hk).trans h0
  have k1 := (hg.below.cell (p := ⟨kb, 1, none⟩) hk).trans h1
  have HG := Lib.hid hg
  rw [hW2] at k0 k1 HG
  clear hg hW2 h0 h1
  by_cases hp : x.p = p
  · have hb : (x.p == p) = true := by simpa using hp
    rw [hb, Bool.true_and] at hq
    clear hp
    go_enter Tryz.func74, Tryz.ntmps74
    go_wp2_with fail
    go_ret
    exact ⟨by first | rfl | exact ret_bool hq, HG.out⟩
  · have hb : (x.p == p) = false := by simpa using hp
    rw [hb, Bool.false_and] at hq
    have HQ := Lib.hid hq
    clear hp hq
    go_enter Tryz.func74, Tryz.ntmps74
    go_wp2_with fail
    go_ret
    exact ⟨ret_bool HQ.out, HG.out⟩

set_option maxHeartbeats 800000 in
set_option maxRecDepth 20000 in
theorem indexFind_any (ok : Nat → Prop) (v : Value) (L : List Rl) (p : Int) (m : ByteArray) (kb : Nat) (w : World) (hr : RdsR ok w v L) (h0 : w.cell? ⟨kb, 0, none⟩ = some (.int .i64 p)) (h1 : w.cell? ⟨kb, 1, none⟩ = some (.string m)) (z : Int) (hz : Fb.IsAt L p m z) :
    Calls Tryz.prog 73 #[v, .func (.func 74) #[] #[.pointer (some ⟨kb, 0, none⟩)]] w fun e w' => e = .returned (.int .i64 z) ∧ Grn w w' := by
  have H1 := Lib.hid hr
  obtain ⟨ad1, c1, rfl, hc1, hm1⟩ := hr.form
  obtain ⟨n, hn⟩ : ∃ n, n = L.length := ⟨_, rfl⟩
  rw [← hn] at H1 hc1 ⊢
  have HN := Lib.hid hn
  have HZ := Lib.hid hz
  have HK := Lib.hid (show w.cell? ⟨kb, 0, none⟩ = some (.int .i64 p) ∧ w.cell? ⟨kb, 1, none⟩ = some (.string m) from ⟨h0, h1⟩)
  have hkb : kb < w.heap.size := cell_lt h0
  have ef : ∀ args w, (callFunc 74 args).run Tryz.prog w = .ok (.enter 74 args) w := enters_of Tryz.func74 (by kernel_rfl) rfl
  unfold maxLen at hm1
  clear hr hn hz h0 h1
  go_enter Tryz.func73, Tryz.ntmps73
  go_wp2_with fail
  go_loopw [5, 8] (fun s5 s8 wr => ∃ x5 : Value, ∃ i : Nat, s5 = x5 ∧ i ≤ n ∧ s8 = .int .i64 i ∧ Hid (∀ j (h : j < L.length), j < i → Fb.keyB p m L[j] = false) ∧ Hid (Grn w wr)) (fun _ s8 _ => n - (intOf s8).toNat)
  case atStart => exact ⟨_, 0, rfl, Nat.zero_le _, rfl, (fun j h h2 => absurd h2 (Nat.not_lt_zero _) : ∀ j (h : j < L.length), j < 0 → Fb.keyB p m L[j] = false), Grn.refl _⟩
  case round =>
    obtain ⟨wo, rfl⟩ : ∃ wo : World, wo = wr := ⟨wr, rfl⟩
    obtain ⟨x5, i, rfl, hin, rfl, HJ, HG⟩ := hrel
    by_cases hlt : i < n
    · have hiL : i < L.length := by rw [← HN.out]; exact hlt
      obtain ⟨b, off, x, rfl, hb, _, x0, x1, x2, x3, hx⟩ := H1.out.get i hiL
      have X0 := (HG.out.below.cell (p := ⟨b, off + i * 4, none⟩) hb).trans x0
      have X1 := (HG.out.below.cell (p := ⟨b, off + i * 4 + 1, none⟩) hb).trans x1
      have X2 := (HG.out.below.cell (p := ⟨b, off + i * 4 + 2, none⟩) hb).trans x2
      have X3 := (HG.out.below.cell (p := ⟨b, off + i * 4 + 3, none⟩) hb).trans x3
      obtain ⟨q, hq⟩ : ∃ q, Fb.keyB p m L[i] = q := ⟨_, rfl⟩
      have HQ := Lib.hid hq
      rw [Fb.keyB_str, ← hx.p, ← hx.m] at hq
      have HC := Lib.hid (find1_any x p m kb wo ((HG.out.below.cell (p := ⟨kb, 0, none⟩) hkb).trans HK.out.1) ((HG.out.below.cell (p := ⟨kb, 1, none⟩) hkb).trans HK.out.2) q hq)
      clear x0 x1 x2 x3 hx hq
      cases q with
      | true =>
        have HZ2 : Hid (z = (i : Int)) := by
          show _ = _
          rcases HZ.out.is with ⟨_, h2⟩ | ⟨i2, hi2, h1, h2, h3⟩
          · have := h2 i hiL; rw [HQ.out] at this; cases this
          · rw [h1]
            rcases Nat.lt_trichotomy i i2 with h | h | h
            · have := h3 i hiL h; rw [HQ.out] at this; cases this
            · rw [h]
            · have := HJ.out i2 hi2 h; rw [h2] at this; cases this
        go_wp2_with fail
        refine HC.out.mono ?_
        rintro e w2 ⟨rfl, hg2⟩
        have HG2 : Hid (Grn w w2) := HG.out.trans hg2
        clear hg2
        go_wp2_with fail
        go_ret
        exact ⟨by rw [HZ2.out]; rfl, HG2.out⟩
      | false =>
        go_wp2_with fail
        refine HC.out.mono ?_
        rintro e w2 ⟨rfl, hg2⟩
        have HG2 : Hid (Grn w w2) := HG.out.trans hg2
        clear hg2
        go_wp2_with fail
        go_roundw
        case rel => exact ⟨_, i + 1, rfl, by omega, by first | rfl | go_num, (fun j h h2 => by
          by_cases e : j = i
          · subst e; exact HQ.out
          · exact HJ.out j h (by omega) : ∀ j (h : j < L.length), j < i + 1 → Fb.keyB p m L[j] = false), HG2⟩
        case measure => simp [intOf]; omega
    · have HZ2 : Hid (z = -1) := by
        show _ = _
        rcases HZ.out.is with ⟨h1, _⟩ | ⟨i2, hi2, h1, h2, h3⟩
        · exact h1
        · have := HJ.out i2 hi2 (by have := HN.out; omega); rw [h2] at this; cases this
      go_wp2_with fail
      go_ret
      exact ⟨by rw [HZ2.out]; rfl, HG.out⟩

/-- find, of a table's rows in a cell. -/
theorem find_any (ok : Nat → Prop) (tb : Nat) (v : Value) (L : List Rl) (x : RC) (w : World) (hr : RdsR ok w v L) (ht : w.cell? ⟨tb, 0, none⟩ = some v) (z : Int) (hz : Fb.IsAt L x.p x.m z) :
    Calls Tryz.prog 60 #[.pointer (some ⟨tb, 0, none⟩), .agg #[.int .i64 x.p, .string x.m, .int .i64 x.k, .slice x.a x.n x.c]] w fun e w' => e = .returned (.int .i64 z) ∧ Grn w w' := by
  have htb : tb < w.heap.size := cell_lt ht
  have hg : Grn w (w.alloc (.cells #[.int .i64 x.p, .string x.m, .int .i64 x.k, .slice x.a x.n x.c] 62)) := (Grn.refl w).alloc _
  have t0 := (hg.below.cell (p := ⟨tb, 0, none⟩) htb).trans ht
  have HC := Lib.hid (indexFind_any ok v L x.p x.m w.heap.size _ (hr.below hg.below) (by simp [go_sem]) (by simp [go_sem]) z hz)
  have HG := Lib.hid hg
  clear hr ht hz hg
  go_enter Tryz.func60, Tryz.ntmps60
  go_wp2_with fail
  refine HC.out.mono ?_
  rintro e w2 ⟨rfl, hg2⟩
  have HG2 : Hid (Grn w w2) := HG.out.trans hg2
  clear hg2
  go_wp2_with fail
  go_ret
  exact ⟨rfl, HG2.out⟩

set_option maxHeartbeats 800000 in
set_option maxRecDepth 20000 in
theorem at_any (ok : Nat → Prop) (v : Value) (L : List Rl) (x : RC) (w : World) (hr : RdsR ok w v L) (z : Int) (hz : Fb.IsAt L x.p x.m z) :
    Calls Tryz.prog 53 #[v, .agg #[.int .i64 x.p, .string x.m, .int .i64 x.k, .slice x.a x.n x.c]] w fun e w' => e = .returned (.int .i64 z) ∧ Grn w w' := by
  have H1 := Lib.hid hr
  obtain ⟨ad1, c1, rfl, hc1, hm1⟩ := hr.form
  obtain ⟨n, hn⟩ : ∃ n, n = L.length := ⟨_, rfl⟩
  rw [← hn] at H1 hc1 ⊢
  have HN := Lib.hid hn
  have HZ := Lib.hid hz
  unfold maxLen at hm1
  obtain ⟨W2, hW2⟩ : ∃ W2, W2 = w.alloc (.cells #[.int .i64 x.p, .string x.m, .int .i64 x.k, .slice x.a x.n x.c] 62) := ⟨_, rfl⟩
  have HW2 : Hid (Grn w W2) := by rw [hW2]; exact (Grn.refl w).alloc _
  have hkb : w.heap.size < W2.heap.size := by rw [hW2]; simp
  have HK : Hid (W2.cell? ⟨w.heap.size, 0, none⟩ = some (.int .i64 x.p) ∧ W2.cell? ⟨w.heap.size, 1, none⟩ = some (.string x.m)) := by rw [hW2]; exact ⟨by simp [go_sem], by simp [go_sem]⟩
  have HE := Lib.hid hW2
  clear hr hn hz hW2
  go_enter Tryz.func53, Tryz.ntmps53
  go_wp2_with fail
  rw [← HE.out]
  go_loopw [5] (fun s5 wr => ∃ i : Nat, i ≤ n ∧ s5 = .int .i64 i ∧ Hid (∀ j (h : j < L.length), j < i → Fb.keyB x.p x.m L[j] = false) ∧ Hid (Grn W2 wr)) (fun s5 _ => n - (intOf s5).toNat)
  case atStart => exact ⟨0, Nat.zero_le _, rfl, (fun j h h2 => absurd h2 (Nat.not_lt_zero _) : ∀ j (h : j < L.length), j < 0 → Fb.keyB x.p x.m L[j] = false), Grn.refl _⟩
  case round =>
    obtain ⟨wo, rfl⟩ : ∃ wo : World, wo = wr := ⟨wr, rfl⟩
    obtain ⟨i, hin, rfl, HJ, HG⟩ := hrel
    have k0 := (HG.out.below.cell (p := ⟨w.heap.size, 0, none⟩) hkb).trans HK.out.1
    have k1 := (HG.out.below.cell (p := ⟨w.heap.size, 1, none⟩) hkb).trans HK.out.2
    by_cases hlt : i < n
    · have hiL : i < L.length := by rw [← HN.out]; exact hlt
      obtain ⟨b, off, y, rfl, hb, _, x0, x1, x2, x3, hx⟩ := H1.out.get i hiL
      have hg2 := (HW2.out.trans HG.out).below
      have X0 := (hg2.cell (p := ⟨b, off + i * 4, none⟩) hb).trans x0
      have X1 := (hg2.cell (p := ⟨b, off + i * 4 + 1, none⟩) hb).trans x1
      obtain ⟨q, hq⟩ : ∃ q, Fb.keyB x.p x.m L[i] = q := ⟨_, rfl⟩
      have HQ := Lib.hid hq
      rw [Fb.keyB_str, ← hx.p, ← hx.m] at hq
      clear x0 x1 x2 x3 hx hg2
      cases q with
      | true =>
        have HZ2 : Hid (z = (i : Int)) := by
          show _ = _
          rcases HZ.out.is with ⟨_, h2⟩ | ⟨i2, hi2, h1, h2, h3⟩
          · have := h2 i hiL; rw [HQ.out] at this; cases this
          · rw [h1]
            rcases Nat.lt_trichotomy i i2 with h | h | h
            · have := h3 i hiL h; rw [HQ.out] at this; cases this
            · rw [h]
            · have := HJ.out i2 hi2 h; rw [h2] at this; cases this
        obtain ⟨q1, q2⟩ := (Bool.and_eq_true _ _).mp hq
        clear hq
        go_wp2_with fail
        go_quiet (fail)
        go_wp2_with fail
        go_ret
        exact ⟨by rw [HZ2.out]; rfl, (HW2.out.trans HG.out).drewN _⟩
      | false =>
        have HR : Hid (∃ (i : Nat), True) := ⟨0, trivial⟩
        cases q1 : (y.p == x.p) with
        | false =>
          clear hq
          go_wp2_with fail
          go_quiet (fail)
          go_wp2_with fail
          go_roundw
          case rel => exact ⟨i + 1, by omega, by first | rfl | go_num, (fun j h h2 => by
            by_cases e : j = i
            · subst e; exact HQ.out
            · exact HJ.out j h (by omega) : ∀ j (h : j < L.length), j < i + 1 → Fb.keyB x.p x.m L[j] = false), HG.out.drewN _⟩
          case measure => simp [intOf]; omega
        | true =>
          rw [q1, Bool.true_and] at hq
          go_wp2_with fail
          go_quiet (fail)
          go_wp2_with fail
          go_roundw
          case rel => exact ⟨i + 1, by omega, by first | rfl | go_num, (fun j h h2 => by
            by_cases e : j = i
            · subst e; exact HQ.out
            · exact HJ.out j h (by omega) : ∀ j (h : j < L.length), j < i + 1 → Fb.keyB x.p x.m L[j] = false), HG.out.drewN _⟩
          case measure => simp [intOf]; omega
    · have HZ2 : Hid (z = -1) := by
        show _ = _
        rcases HZ.out.is with ⟨h1, _⟩ | ⟨i2, hi2, h1, h2, h3⟩
        · exact h1
        · have := HJ.out i2 hi2 (by have := HN.out; omega); rw [h2] at this; cases this
      go_wp2_with fail
      go_ret
      exact ⟨by rw [HZ2.out]; rfl, HW2.out.trans HG.out⟩
end Go.Proofs.YtlbelkjgaeaaeaaGreat
