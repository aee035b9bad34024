/-
  Walks: the reference's Same, SameRules, SameRule where they are the same; Copy; at.
-/
import Derived.Test.YtlamhpiiikcpiaaGreatDoorRulI
import Derived.Test.YtlamhpiiikcpiaaGreatDoorRgG
import Derived.Deep.RegionLaw
namespace Go.Proofs.YtlamhpiiikcpiaaGreatDoor
open Go.RowKit Go.Shelf Go.Lib Go.Sort
set_option linter.unusedVariables false
set_option linter.unusedSectionVars false
theorem Grn.of_drew {w w' : World} (h : ∃ k, w' = w.drewN k) : Grn w w' := by
  obtain ⟨k, rfl⟩ := h
  exact (Grn.refl w).drewN k
set_option maxHeartbeats 800000 in
set_option maxRecDepth 20000 in
theorem same_same (k : Int) (a a2 : Option Addr) (n n2 c c2 : Nat) (ps : List ByteArray) (w : World) (h1 : RdsS w (.slice a n c) ps) (h2 : RdsS w (.slice a2 n2 c2) ps) :
    Calls Tryz.prog 28 #[.agg #[.int .i64 k, .slice a n c], .agg #[.int .i64 k, .slice a2 n2 c2]] w fun e w' => e = .returned (.bool true) ∧ Grn w w' := by
  obtain ⟨W2, hW2⟩ : ∃ W2, W2 = (w.alloc (.cells #[.int .i64 k, .slice a n c] 45)).alloc (.cells #[.int .i64 k, .slice a2 n2 c2] 45) := ⟨_, rfl⟩
  have HG : Hid (Grn w W2) := by rw [hW2]; exact ((Grn.refl w).alloc _).alloc _
  have HT := Lib.hid (Texts_same (h1.below HG.out.below) (h2.below HG.out.below))
  rw [hW2] at HT HG
  clear hW2 h1 h2
  go_enter Tryz.func28, Tryz.ntmps28
  go_wp2_with fail
  refine HT.out.mono ?_
  rintro e w1 ⟨rfl, hd⟩
  have HG1 : Hid (Grn w w1) := HG.out.trans (Grn.of_drew hd)
  clear hd
  go_wp2_with fail
  go_ret
  exact ⟨rfl, HG1.out⟩
theorem same_grown (k : Int) (a a2 : Option Addr) (n n2 c c2 : Nat) (ps : List ByteArray) (w : World) (h1 : RdsS w (.slice a n c) ps) (h2 : RdsS w (.slice a2 n2 c2) ps) :
    Calls Tryz.prog 28 #[.agg #[.int .i64 k, .slice a n c], .agg #[.int .i64 k, .slice a2 n2 c2]] w fun e w' => e = .returned (.bool true) ∧ ∃ n os, w' = grow (w.drewN n) os := same_same k a a2 n n2 c c2 ps w h1 h2
set_option maxHeartbeats 1600000 in
set_option maxRecDepth 20000 in
theorem sameRules_same (ok ok2 : Nat → Prop) (v1 v2 : Value) (L : List Rl) (w : World) (h1 : RdsR ok w v1 L) (h2 : RdsR ok2 w v2 L) :
    Calls Tryz.prog 11 #[v1, v2] w fun e w' => e = .returned (.bool true) ∧ Grn w w' := by
  have H1 := Lib.hid h1
  have H2 := Lib.hid h2
  obtain ⟨ad1, c1, rfl, hc1, hm1⟩ := h1.form
  obtain ⟨ad2, c2, rfl, hc2, hm2⟩ := h2.form
  obtain ⟨n, hn⟩ : ∃ n, n = L.length := ⟨_, rfl⟩
  rw [← hn] at H1 H2 hc1 hc2 ⊢
  have HN := Lib.hid hn
  unfold maxLen at hm1 hm2
  clear h1 h2 hn
  go_enter Tryz.func11, Tryz.ntmps11
  go_wp2_with fail
  go_loopw [5] (fun s5 wr => ∃ i : Nat, i ≤ n ∧ s5 = .int .i64 i ∧ Hid (Grn w wr)) (fun s5 _ => n - (intOf s5).toNat)
  case atStart => exact ⟨0, Nat.zero_le _, rfl, Grn.refl _⟩
  case round =>
    obtain ⟨wo, rfl⟩ : ∃ wo : World, wo = wr := ⟨wr, rfl⟩
    obtain ⟨i, hin, rfl, HG⟩ := hrel
    by_cases hlt : i < n
    · have hiL : i < L.length := by rw [← HN.out]; exact hlt
      obtain ⟨b, off, x, rfl, hb, _, x0, x1, x2, x3, hx⟩ := H1.out.get i hiL
      obtain ⟨b2, off2, y, rfl, hb2, _, y0, y1, y2, y3, hy⟩ := H2.out.get i hiL
      have X0 := cell_grn (p := ⟨b, off + i * 4, none⟩) HG.out.below hb x0
      have X1 := cell_grn (p := ⟨b, off + i * 4 + 1, none⟩) HG.out.below hb x1
      have X2 := cell_grn (p := ⟨b, off + i * 4 + 2, none⟩) HG.out.below hb x2
      have X3 := cell_grn (p := ⟨b, off + i * 4 + 2 + 1, none⟩) HG.out.below hb x3
      have Y0 := cell_grn (p := ⟨b2, off2 + i * 4, none⟩) HG.out.below hb2 y0
      have Y1 := cell_grn (p := ⟨b2, off2 + i * 4 + 1, none⟩) HG.out.below hb2 y1
      have Y2 := cell_grn (p := ⟨b2, off2 + i * 4 + 2, none⟩) HG.out.below hb2 y2
      have Y3 := cell_grn (p := ⟨b2, off2 + i * 4 + 2 + 1, none⟩) HG.out.below hb2 y3
      have hSm := fun nn os => same_grown L[i].k x.a y.a x.n y.n x.c y.c L[i].ps (grow (wo.drewN nn) os) ((hx.s.1.below HG.out.below).below (HG.out.grow nn os |> fun _ => (Grn.refl wo |>.grow nn os).below)) ((hy.s.1.below HG.out.below).below ((Grn.refl wo).grow nn os).below)
      have HSm := Lib.hid hSm
      rw [hx.p] at X0
      rw [hx.m] at X1
      rw [hx.k] at X2
      rw [hy.p] at Y0
      rw [hy.m] at Y1
      rw [hy.k] at Y2
      have e1 : (L[i].m.toList != L[i].m.toList) = false := by simp
      have e2 : (L[i].p != L[i].p) = false := by simp
      have mixed : Tryz.prog.follows .mixedOrders = true := by kernel_rfl
      clear x0 x1 x2 x3 y0 y1 y2 y3 hx hy hSm
      go_wp2_with fail
      go_quiet_grown (first | (go_at_call 28; refine Calls.grown_of (HSm.out _ _)))
      go_wp2_with fail
      go_roundw
      case rel => exact ⟨i + 1, by omega, by first | rfl | go_num, HG.out.grow _ _⟩
      case measure => simp [intOf]; omega
    · go_wp2_with fail
      go_ret
      exact ⟨rfl, HG.out⟩
namespace Fb
/-- Have two rules one key? -/
def keyB (p : Int) (m : ByteArray) (r : Rl) : Bool := decide (r.p = p) && decide (r.m = m)
/-- The place of a key's rule; -1: there is none. -/
structure IsAt (L : List Rl) (p : Int) (m : ByteArray) (z : Int) : Prop where
  is : (z = -1 ∧ ∀ j (h : j < L.length), keyB p m L[j] = false) ∨ (∃ i, ∃ h : i < L.length, z = (i : Int) ∧ keyB p m L[i] = true ∧ ∀ j (h : j < L.length), j < i → keyB p m L[j] = false)
def keyI : List Rl → Int → ByteArray → Int
  | [], _, _ => -1
  | r :: L, p, m => if keyB p m r = true then 0 else if keyI L p m < 0 then -1 else keyI L p m + 1
theorem keyI_is : ∀ (L : List Rl) (p : Int) (m : ByteArray), IsAt L p m (keyI L p m)
  | [], p, m => ⟨.inl ⟨rfl, fun j h => absurd h (Nat.not_lt_zero _)⟩⟩
  | r :: L, p, m => by
    unfold keyI
    cases hk : keyB p m r with
    | true => rw [if_pos rfl]; exact ⟨.inr ⟨0, by simp, rfl, by simpa using hk, fun j _ h => absurd h (Nat.not_lt_zero _)⟩⟩
    | false =>
      rw [if_neg (by simp)]
      rcases (keyI_is L p m).is with ⟨h1, h2⟩ | ⟨i, hi, h1, h2, h3⟩
      · rw [h1, if_pos (by omega)]
        refine ⟨.inl ⟨rfl, fun j h => ?_⟩⟩
        cases j with
        | zero => simpa using hk
        | succ j => simpa using h2 j (by simpa using h)
      · rw [h1, if_neg (by omega)]
        refine ⟨.inr ⟨i + 1, by simpa using hi, by omega, by simpa using h2, fun j h hj => ?_⟩⟩
        cases j with
        | zero => simpa using hk
        | succ j => simpa using h3 j (by simpa using h) (by omega)
theorem keyB_str (p : Int) (m : ByteArray) (r : Rl) : keyB p m r = ((r.p == p) && (r.m.toList == m.toList)) := by
  unfold keyB
  have e1 : decide (r.p = p) = (r.p == p) := by rw [Bool.eq_iff_iff]; simp
  have e2 : decide (r.m = m) = (r.m.toList == m.toList) := by
    rw [Bool.eq_iff_iff]
    simp only [decide_eq_true_eq, beq_iff_eq]
    constructor
    · intro h; rw [h]
    · intro h
      rw [Lib.toList_data, Lib.toList_data, Array.toList_inj] at h
      cases hr : r.m; cases m
      rw [hr] at h
      simp only at h
      rw [h]
  rw [e1, e2]
end Fb
set_option maxHeartbeats 800000 in
set_option maxRecDepth 20000 in
theorem find1_any (x : RC) (p : Int) (m : ByteArray) (kb : Nat) (w : World) (h0 : w.cell? ⟨kb, 0, none⟩ = some (.int .i64 p)) (h1 : w.cell? ⟨kb, 1, none⟩ = some (.string m)) (q : Bool) (hq : ((x.p == p) && (x.m.toList == m.toList)) = q) :
    Calls Tryz.prog 127 #[.agg #[.int .i64 x.p, .string x.m, .int .i64 x.k, .slice x.a x.n x.c], .pointer (some ⟨kb, 0, none⟩)] w fun e w' => e = .returned (.bool q) ∧ Grn w w' := by
  have hk : kb < w.heap.size := cell_lt h0
  obtain ⟨W2, hW2⟩ : ∃ W2, W2 = w.alloc (.cells #[.int .i64 x.p, .string x.m, .int .i64 x.k, .slice x.a x.n x.c] 47) := ⟨_, rfl⟩
  have hg : Grn w W2 := by rw [hW2]; exact (Grn.refl w).alloc _
  have k0 := (hg.below.cell (p := ⟨kb, 0, none⟩) hk).trans h0
  have k1 := (hg.below.cell (p := ⟨kb, 1, none⟩) hk).trans h1
  have HG := Lib.hid hg
  rw [hW2] at k0 k1 HG
  clear hg hW2 h0 h1
  by_cases hp : x.p = p
  · have hb : (x.p == p) = true := by simpa using hp
    rw [hb, Bool.true_and] at hq
    clear hp
    go_enter Tryz.func127, Tryz.ntmps127
    go_wp2_with fail
    go_ret
    exact ⟨by first | rfl | exact ret_bool hq, HG.out⟩
  · have hb : (x.p == p) = false := by simpa using hp
    rw [hb, Bool.false_and] at hq
    have HQ := Lib.hid hq
    clear hp hq
    go_enter Tryz.func127, Tryz.ntmps127
    go_wp2_with fail
    go_ret
    exact ⟨ret_bool HQ.out, HG.out⟩
set_option maxHeartbeats 800000 in
set_option maxRecDepth 20000 in
theorem indexFind_any (ok : Nat → Prop) (v : Value) (L : List Rl) (p : Int) (m : ByteArray) (kb : Nat) (w : World) (hr : RdsR ok w v L) (h0 : w.cell? ⟨kb, 0, none⟩ = some (.int .i64 p)) (h1 : w.cell? ⟨kb, 1, none⟩ = some (.string m)) (z : Int) (hz : Fb.IsAt L p m z) :
    Calls Tryz.prog 126 #[v, .func (.func 127) #[] #[.pointer (some ⟨kb, 0, none⟩)]] w fun e w' => e = .returned (.int .i64 z) ∧ Grn w w' := by
  have H1 := Lib.hid hr
  obtain ⟨ad1, c1, rfl, hc1, hm1⟩ := hr.form
  obtain ⟨n, hn⟩ : ∃ n, n = L.length := ⟨_, rfl⟩
  rw [← hn] at H1 hc1 ⊢
  have HN := Lib.hid hn
  have HZ := Lib.hid hz
  have HK := Lib.hid (show w.cell? ⟨kb, 0, none⟩ = some (.int .i64 p) ∧ w.cell? ⟨kb, 1, none⟩ = some (.string m) from ⟨h0, h1⟩)
  have hkb : kb < w.heap.size := cell_lt h0
  have ef : ∀ args w, (callFunc 127 args).run Tryz.prog w = .ok (.enter 127 args) w := enters_of Tryz.func127 (by kernel_rfl) rfl
  unfold maxLen at hm1
  clear hr hn hz h0 h1
  go_enter Tryz.func126, Tryz.ntmps126
  go_wp2_with fail
  go_loopw [5, 8] (fun s5 s8 wr => ∃ x5 : Value, ∃ i : Nat, s5 = x5 ∧ i ≤ n ∧ s8 = .int .i64 i ∧ Hid (∀ j (h : j < L.length), j < i → Fb.keyB p m L[j] = false) ∧ Hid (Grn w wr)) (fun _ s8 _ => n - (intOf s8).toNat)
  case atStart => exact ⟨_, 0, rfl, Nat.zero_le _, rfl, (fun j h h2 => absurd h2 (Nat.not_lt_zero _) : ∀ j (h : j < L.length), j < 0 → Fb.keyB p m L[j] = false), Grn.refl _⟩
  case round =>
    obtain ⟨wo, rfl⟩ : ∃ wo : World, wo = wr := ⟨wr, rfl⟩
    obtain ⟨x5, i, rfl, hin, rfl, HJ, HG⟩ := hrel
    by_cases hlt : i < n
    · have hiL : i < L.length := by rw [← HN.out]; exact hlt
      obtain ⟨b, off, x, rfl, hb, _, x0, x1, x2, x3, hx⟩ := H1.out.get i hiL
      have X0 := (HG.out.below.cell (p := ⟨b, off + i * 4, none⟩) hb).trans x0
      have X1 := (HG.out.below.cell (p := ⟨b, off + i * 4 + 1, none⟩) hb).trans x1
      have X2 := (HG.out.below.cell (p := ⟨b, off + i * 4 + 2, none⟩) hb).trans x2
      have X3 := (HG.out.below.cell (p := ⟨b, off + i * 4 + 3, none⟩) hb).trans x3
      obtain ⟨q, hq⟩ : ∃ q, Fb.keyB p m L[i] = q := ⟨_, rfl⟩
      have HQ := Lib.hid hq
      rw [Fb.keyB_str, ← hx.p, ← hx.m] at hq
      have HC := Lib.hid (find1_any x p m kb wo ((HG.out.below.cell (p := ⟨kb, 0, none⟩) hkb).trans HK.out.1) ((HG.out.below.cell (p := ⟨kb, 1, none⟩) hkb).trans HK.out.2) q hq)
      clear x0 x1 x2 x3 hx hq
      cases q with
      | true =>
        have HZ2 : Hid (z = (i : Int)) := by
          show _ = _
          rcases HZ.out.is with ⟨_, h2⟩ | ⟨i2, hi2, h1, h2, h3⟩
          · have := h2 i hiL; rw [HQ.out] at this; cases this
          · rw [h1]
            rcases Nat.lt_trichotomy i i2 with h | h | h
            · have := h3 i hiL h; rw [HQ.out] at this; cases this
            · rw [h]
            · have := HJ.out i2 hi2 h; rw [h2] at this; cases this
        go_wp2_with fail
        refine HC.out.mono ?_
        rintro e w2 ⟨rfl, hg2⟩
        have HG2 : Hid (Grn w w2) := HG.out.trans hg2
        clear hg2
        go_wp2_with fail
        go_ret
        exact ⟨by rw [HZ2.out]; rfl, HG2.out⟩
      | false =>
        go_wp2_with fail
        refine HC.out.mono ?_
        rintro e w2 ⟨rfl, hg2⟩
        have HG2 : Hid (Grn w w2) := HG.out.trans hg2
        clear hg2
        go_wp2_with fail
        go_roundw
        case rel => exact ⟨_, i + 1, rfl, by omega, by first | rfl | go_num, (fun j h h2 => by
          by_cases e : j = i
          · subst e; exact HQ.out
          · exact HJ.out j h (by omega) : ∀ j (h : j < L.length), j < i + 1 → Fb.keyB p m L[j] = false), HG2⟩
        case measure => simp [intOf]; omega
    · have HZ2 : Hid (z = -1) := by
        show _ = _
        rcases HZ.out.is with ⟨h1, _⟩ | ⟨i2, hi2, h1, h2, h3⟩
        · exact h1
        · have := HJ.out i2 hi2 (by have := HN.out; omega); rw [h2] at this; cases this
      go_wp2_with fail
      go_ret
      exact ⟨by rw [HZ2.out]; rfl, HG.out⟩
/-- find, of a table's rows in a cell. -/
theorem find_any (ok : Nat → Prop) (tb : Nat) (v : Value) (L : List Rl) (x : RC) (w : World) (hr : RdsR ok w v L) (ht : w.cell? ⟨tb, 0, none⟩ = some v) (z : Int) (hz : Fb.IsAt L x.p x.m z) :
    Calls Tryz.prog 97 #[.pointer (some ⟨tb, 0, none⟩), .agg #[.int .i64 x.p, .string x.m, .int .i64 x.k, .slice x.a x.n x.c]] w fun e w' => e = .returned (.int .i64 z) ∧ Grn w w' := by
  have htb : tb < w.heap.size := cell_lt ht
  have hg : Grn w (w.alloc (.cells #[.int .i64 x.p, .string x.m, .int .i64 x.k, .slice x.a x.n x.c] 47)) := (Grn.refl w).alloc _
  have t0 := (hg.below.cell (p := ⟨tb, 0, none⟩) htb).trans ht
  have HC := Lib.hid (indexFind_any ok v L x.p x.m w.heap.size _ (hr.below hg.below) (by simp [go_sem]) (by simp [go_sem]) z hz)
  have HG := Lib.hid hg
  clear hr ht hz hg
  go_enter Tryz.func97, Tryz.ntmps97
  go_wp2_with fail
  refine HC.out.mono ?_
  rintro e w2 ⟨rfl, hg2⟩
  have HG2 : Hid (Grn w w2) := HG.out.trans hg2
  clear hg2
  go_wp2_with fail
  go_ret
  exact ⟨rfl, HG2.out⟩
set_option maxHeartbeats 800000 in
set_option maxRecDepth 20000 in
theorem at_any (ok : Nat → Prop) (v : Value) (L : List Rl) (x : RC) (w : World) (hr : RdsR ok w v L) (z : Int) (hz : Fb.IsAt L x.p x.m z) :
    Calls Tryz.prog 69 #[v, .agg #[.int .i64 x.p, .string x.m, .int .i64 x.k, .slice x.a x.n x.c]] w fun e w' => e = .returned (.int .i64 z) ∧ Grn w w' := by
  have H1 := Lib.hid hr
  obtain ⟨ad1, c1, rfl, hc1, hm1⟩ := hr.form
  obtain ⟨n, hn⟩ : ∃ n, n = L.length := ⟨_, rfl⟩
  rw [← hn] at H1 hc1 ⊢
  have HN := Lib.hid hn
  have HZ := Lib.hid hz
  unfold maxLen at hm1
  obtain ⟨W2, hW2⟩ : ∃ W2, W2 = w.alloc (.cells #[.int .i64 x.p, .string x.m, .int .i64 x.k, .slice x.a x.n x.c] 47) := ⟨_, rfl⟩
  have HW2 : Hid (Grn w W2) := by rw [hW2]; exact (Grn.refl w).alloc _
  have hkb : w.heap.size < W2.heap.size := by rw [hW2]; simp
  have HK : Hid (W2.cell? ⟨w.heap.size, 0, none⟩ = some (.int .i64 x.p) ∧ W2.cell? ⟨w.heap.size, 1, none⟩ = some (.string x.m)) := by rw [hW2]; exact ⟨by simp [go_sem], by simp [go_sem]⟩
  have HE := Lib.hid hW2
  clear hr hn hz hW2
  go_enter Tryz.func69, Tryz.ntmps69
  go_wp2_with fail
  rw [← HE.out]
  go_loopw [5] (fun s5 wr => ∃ i : Nat, i ≤ n ∧ s5 = .int .i64 i ∧ Hid (∀ j (h : j < L.length), j < i → Fb.keyB x.p x.m L[j] = false) ∧ Hid (Grn W2 wr)) (fun s5 _ => n - (intOf s5).toNat)
  case atStart => exact ⟨0, Nat.zero_le _, rfl, (fun j h h2 => absurd h2 (Nat.not_lt_zero _) : ∀ j (h : j < L.length), j < 0 → Fb.keyB x.p x.m L[j] = false), Grn.refl _⟩
  case round =>
    obtain ⟨wo, rfl⟩ : ∃ wo : World, wo = wr := ⟨wr, rfl⟩
    obtain ⟨i, hin, rfl, HJ, HG⟩ := hrel
    have k0 := (HG.out.below.cell (p := ⟨w.heap.size, 0, none⟩) hkb).trans HK.out.1
    have k1 := (HG.out.below.cell (p := ⟨w.heap.size, 1, none⟩) hkb).trans HK.out.2
    by_cases hlt : i < n
    · have hiL : i < L.length := by rw [← HN.out]; exact hlt
      obtain ⟨b, off, y, rfl, hb, _, x0, x1, x2, x3, hx⟩ := H1.out.get i hiL
      have hg2 := (HW2.out.trans HG.out).below
      have X0 := (hg2.cell (p := ⟨b, off + i * 4, none⟩) hb).trans x0
      have X1 := (hg2.cell (p := ⟨b, off + i * 4 + 1, none⟩) hb).trans x1
      obtain ⟨q, hq⟩ : ∃ q, Fb.keyB x.p x.m L[i] = q := ⟨_, rfl⟩
      have HQ := Lib.hid hq
      rw [Fb.keyB_str, ← hx.p, ← hx.m] at hq
      clear x0 x1 x2 x3 hx hg2
      cases q with
      | true =>
        have HZ2 : Hid (z = (i : Int)) := by
          show _ = _
          rcases HZ.out.is with ⟨_, h2⟩ | ⟨i2, hi2, h1, h2, h3⟩
          · have := h2 i hiL; rw [HQ.out] at this; cases this
          · rw [h1]
            rcases Nat.lt_trichotomy i i2 with h | h | h
            · have := h3 i hiL h; rw [HQ.out] at this; cases this
            · rw [h]
            · have := HJ.out i2 hi2 h; rw [h2] at this; cases this
        obtain ⟨q1, q2⟩ := (Bool.and_eq_true _ _).mp hq
        clear hq
        go_wp2_with fail
        go_quiet (fail)
        go_wp2_with fail
        go_ret
        exact ⟨by rw [HZ2.out]; rfl, (HW2.out.trans HG.out).drewN _⟩
      | false =>
        have HR : Hid (∃ (i : Nat), True) := ⟨0, trivial⟩
        cases q1 : (y.p == x.p) with
        | false =>
          clear hq
          go_wp2_with fail
          go_quiet (fail)
          go_wp2_with fail
          go_roundw
          case rel => exact ⟨i + 1, by omega, by first | rfl | go_num, (fun j h h2 => by
            by_cases e : j = i
            · subst e; exact HQ.out
            · exact HJ.out j h (by omega) : ∀ j (h : j < L.length), j < i + 1 → Fb.keyB x.p x.m L[j] = false), HG.out.drewN _⟩
          case measure => simp [intOf]; omega
        | true =>
          rw [q1, Bool.true_and] at hq
          go_wp2_with fail
          go_quiet (fail)
          go_wp2_with fail
          go_roundw
          case rel => exact ⟨i + 1, by omega, by first | rfl | go_num, (fun j h h2 => by
            by_cases e : j = i
            · subst e; exact HQ.out
            · exact HJ.out j h (by omega) : ∀ j (h : j < L.length), j < i + 1 → Fb.keyB x.p x.m L[j] = false), HG.out.drewN _⟩
          case measure => simp [intOf]; omega
    · have HZ2 : Hid (z = -1) := by
        show _ = _
        rcases HZ.out.is with ⟨h1, _⟩ | ⟨i2, hi2, h1, h2, h3⟩
        · exact h1
        · have := HJ.out i2 hi2 (by have := HN.out; omega); rw [h2] at this; cases this
      go_wp2_with fail
      go_ret
      exact ⟨by rw [HZ2.out]; rfl, HW2.out.trans HG.out⟩
end Go.Proofs.YtlamhpiiikcpiaaGreatDoor
/-
  Walks: may a change be? The code's may gives up with a number, the reference's May tells it.
-/
namespace Go.Proofs.YtlamhpiiikcpiaaGreatDoor
open Go.RowKit Go.Shelf Go.Lib Go.Sort
set_option linter.unusedVariables false
set_option linter.unusedSectionVars false
set_option linter.unusedSimpArgs false
namespace Fb
/-- The rule that a change speaks of: of a delete the key alone. -/
def ruleOf (kind : Int) (r : Rl) : Rl := if kind = 2 then { r with k := 1, ps := [] } else r
/-- Why a change may not be; 0: it may. -/
def mayI (L : List Rl) (width kind : Int) (r : Rl) : Int :=
  if kind < 1 ∨ kind > 3 then 61
  else if ¬ Rp.checkR (ruleOf kind r) width = 0 then Rp.checkR (ruleOf kind r) width
  else if kind = 1 then (if 0 ≤ keyI L r.p r.m then 52 else if 4096 ≤ L.length then 3 else 0)
  else if 0 ≤ keyI L r.p r.m then 0 else 60
end Fb
/-- A panic with a number of package api. -/
abbrev errFault (code : Int) : Ending := .panicked [{ v := .iface 28 (.int .i64 code), recovered := false }]
/-- What may comes to. -/
def mayEnd (q : Int) : Ending := if q = 0 then .returned (.tuple #[]) else errFault q
def RC.of (kind : Int) (x : RC) : RC := if kind = 2 then { x with k := 1, a := none, n := 0, c := 0 } else x
theorem RdC.of {ok : Nat → Prop} {w : World} {x : RC} {r : Rl} (h : RdC ok w x r) (kind : Int) : RdC ok w (x.of kind) (Fb.ruleOf kind r) := by
  unfold RC.of Fb.ruleOf
  by_cases hk : kind = 2
  · rw [if_pos hk, if_pos hk]
    exact ⟨h.p, h.m, rfl, ⟨rdsS_nil _, okV_nil _ _ _⟩, ⟨h.z.m, Nat.zero_le _, fun s hs => by cases hs⟩⟩
  · rw [if_neg hk, if_neg hk]; exact h
theorem may_kind {L : List Rl} {width kind : Int} {r : Rl} (h1 : 1 ≤ kind) (h2 : kind ≤ 3) (q : Int) (h : Fb.mayI L width kind r = q) :
    (¬ Rp.checkR (Fb.ruleOf kind r) width = 0 ∧ q = Rp.checkR (Fb.ruleOf kind r) width) ∨
    (Rp.checkR (Fb.ruleOf kind r) width = 0 ∧ q = (if kind = 1 then (if 0 ≤ Fb.keyI L r.p r.m then 52 else if 4096 ≤ L.length then 3 else 0) else if 0 ≤ Fb.keyI L r.p r.m then 0 else 60)) := by
  unfold Fb.mayI at h
  rw [if_neg (by omega)] at h
  by_cases hc : Rp.checkR (Fb.ruleOf kind r) width = 0
  · rw [if_neg (by simpa using hc)] at h; exact .inr ⟨hc, h.symm⟩
  · rw [if_pos hc] at h; exact .inl ⟨hc, h.symm⟩
set_option maxHeartbeats 1600000 in
set_option maxRecDepth 20000 in
theorem may1_any (ok : Nat → Prop) (tb : Nat) (v : Value) (L : List Rl) (width : Int) (x : RC) (r : Rl) (w : World) (hr : RdsR ok w v L) (ht : w.cell? ⟨tb, 0, none⟩ = some v) (hx : RdC ok w x r) (q : Int) (hq : Fb.mayI L width 1 r = q) :
    Calls Tryz.prog 61 #[.pointer (some ⟨tb, 0, none⟩), .agg #[.int .i64 1, .int .i64 x.p, .string x.m, .int .i64 x.k, .slice x.a x.n x.c], .int .i64 width] w fun e w' => e = mayEnd q ∧ Below w.heap.size w w' := by
  have htb : tb < w.heap.size := cell_lt ht
  obtain ⟨W2, hW2⟩ : ∃ W2, W2 = (w.alloc (.cells #[.int .i64 1, .int .i64 x.p, .string x.m, .int .i64 x.k, .slice x.a x.n x.c] 49)).alloc (.cells #[.int .i64 x.p, .string x.m, .int .i64 x.k, .slice x.a x.n x.c] 47) := ⟨_, rfl⟩
  have hg : Grn w W2 := by rw [hW2]; exact ((Grn.refl w).alloc _).alloc _
  have HB := Lib.hid hg.below
  have HX := Lib.hid ((hx.of 1).below hg.below)
  have HR := Lib.hid (hr.below hg.below)
  have HT := Lib.hid ((hg.below.cell (p := ⟨tb, 0, none⟩) htb).trans ht)
  have hsz : w.heap.size + 1 < W2.heap.size := by rw [hW2]; simp
  have hsz0 : w.heap.size < W2.heap.size := by omega
  have HC : Hid (W2.cell? ⟨w.heap.size, 0, none⟩ = some (.int .i64 1) ∧ W2.cell? ⟨w.heap.size + 1, 0, none⟩ = some (.int .i64 x.p) ∧ W2.cell? ⟨w.heap.size + 1, 1, none⟩ = some (.string x.m) ∧ W2.cell? ⟨w.heap.size + 1, 2, none⟩ = some (.int .i64 x.k) ∧ W2.cell? ⟨w.heap.size + 1, 3, none⟩ = some (.slice x.a x.n x.c)) := by
    rw [hW2]; exact ⟨by simp [go_sem], by simp [go_sem], by simp [go_sem], by simp [go_sem], by simp [go_sem]⟩
  have HQ := Lib.hid (may_kind (by omega) (by omega) q hq)
  have HK := Lib.hid (Fb.keyI_is L r.p r.m)
  have HP := Lib.hid hx.p
  have HM := Lib.hid hx.m
  obtain ⟨e, he⟩ : ∃ e, Rp.checkR (Fb.ruleOf 1 r) width = e := ⟨_, rfl⟩
  rw [he] at HQ
  have HCh := Lib.hid (fun W (h : RdC ok W (x.of 1) (Fb.ruleOf 1 r)) => check_any ok (x.of 1) (Fb.ruleOf 1 r) width W h e he)
  unfold RC.v RC.of at HCh
  unfold RC.of at HX
  rw [if_neg (by decide)] at HX
  simp only [show ¬ ((1 : Int) = 2) by decide, if_false, if_true] at HCh
  obtain ⟨b2, hb2⟩ : ∃ b2, b2 = w.heap.size + 1 := ⟨_, rfl⟩
  rw [← hb2] at HC hsz
  have HW2 := Lib.hid hW2
  clear he hq hx hr ht hg hW2
  go_enter Tryz.func61, Tryz.ntmps61
  go_upto_region 8 with fail
  rw [← HW2.out]
  rw [← hb2]
  clear HW2 hb2
  obtain ⟨c0, c1, c2, c3, c4⟩ := HC.out
  go_wp2_with fail
  refine (HCh.out _ HX.out).mono ?_
  rintro ee w3 ⟨rfl, hb3⟩
  have HB3 : Hid (Below w.heap.size w w3) := HB.out.trans (hb3.mono HB.out.size)
  have d0 := (hb3.cell (p := ⟨w.heap.size, 0, none⟩) hsz0).trans c0
  have d1 := (hb3.cell (p := ⟨b2, 0, none⟩) hsz).trans c1
  have d2 := (hb3.cell (p := ⟨b2, 1, none⟩) hsz).trans c2
  have d3 := (hb3.cell (p := ⟨b2, 2, none⟩) hsz).trans c3
  have d4 := (hb3.cell (p := ⟨b2, 3, none⟩) hsz).trans c4
  have HR3 := Lib.hid (HR.out.below hb3)
  have HT3 := (hb3.cell (p := ⟨tb, 0, none⟩) (Nat.lt_of_lt_of_le htb HB.out.size)).trans HT.out
  clear hb3 c0 c1 c2 c3 c4
  by_cases he0 : e = 0
  · subst he0
    have HQ2 : Hid (q = (if 0 ≤ Fb.keyI L r.p r.m then 52 else if 4096 ≤ L.length then 3 else 0)) := by
      rcases HQ.out with ⟨h, _⟩ | ⟨_, h⟩
      · exact absurd rfl h
      · show _ = _
        simpa using h
    clear HQ
    obtain ⟨z, hz⟩ : ∃ z, Fb.keyI L r.p r.m = z := ⟨_, rfl⟩
    rw [hz] at HK HQ2
    have HF := Lib.hid (find_any ok tb v L x w3 HR3.out HT3 z (by skip; rw [HP.out, HM.out]; exact HK.out))
    obtain ⟨ad1, cc, hvf, hvc, _⟩ := HR3.out.form
    obtain ⟨n, hn⟩ : ∃ n, n = L.length := ⟨_, rfl⟩
    rw [← hn] at HQ2 hvf
    rw [hvf] at HT3
    clear hz hn hvc hvf
    go_wp2_with fail
    refine HF.out.mono ?_
    rintro ee w4 ⟨rfl, hg4⟩
    have HB4 : Hid (Below w.heap.size w w4) := HB3.out.trans (hg4.below.mono HB3.out.size)
    have hs3 := HB3.out.size
    have f0 := (hg4.below.cell (p := ⟨w.heap.size, 0, none⟩) (cell_lt d0)).trans d0
    have f1 := (hg4.below.cell (p := ⟨tb, 0, none⟩) (cell_lt HT3)).trans HT3
    clear hg4 d0 d1 d2 d3 d4 HT3 hs3
    by_cases hz0 : 0 ≤ z
    · have HQ3 : Hid (q = 52) := by show _ = _; rw [HQ2.out]; rw [if_pos hz0]
      go_wp2_with fail
      exact ⟨rfl, by rw [HQ3.out]; rfl, HB4.out⟩
    · have hz1 : decide (0 ≤ z) = false := decide_eq_false hz0
      by_cases hn : 4096 ≤ n
      · have hn1 : (4096 : Int) ≤ (n : Int) := by omega
        have HQ3 : Hid (q = 3) := by show _ = _; rw [HQ2.out, if_neg hz0, if_pos hn]
        go_wp2_with fail
        exact ⟨rfl, by rw [HQ3.out]; rfl, HB4.out⟩
      · have hn1 : ¬ (4096 : Int) ≤ (n : Int) := by omega
        have HQ3 : Hid (q = 0) := by show _ = _; rw [HQ2.out, if_neg hz0, if_neg hn]
        go_wp2_with fail
        go_end0
        exact ⟨by rw [HQ3.out]; rfl, HB4.out⟩
  · have HQ2 : Hid (q = e) := by
      rcases HQ.out with ⟨_, h⟩ | ⟨h, _⟩
      · exact h
      · exact absurd h he0
    have HE := Lib.hid he0
    have he1 : (e != 0) = true := by simpa using he0
    clear he0 HQ
    go_wp2_with fail
    exact ⟨rfl, by rw [HQ2.out]; unfold mayEnd; rw [if_neg HE.out], HB3.out⟩
set_option maxHeartbeats 1600000 in
set_option maxRecDepth 20000 in
theorem may2_any (ok : Nat → Prop) (tb : Nat) (v : Value) (L : List Rl) (width : Int) (x : RC) (r : Rl) (w : World) (hr : RdsR ok w v L) (ht : w.cell? ⟨tb, 0, none⟩ = some v) (hx : RdC ok w x r) (q : Int) (hq : Fb.mayI L width 2 r = q) :
    Calls Tryz.prog 61 #[.pointer (some ⟨tb, 0, none⟩), .agg #[.int .i64 2, .int .i64 x.p, .string x.m, .int .i64 x.k, .slice x.a x.n x.c], .int .i64 width] w fun e w' => e = mayEnd q ∧ Below w.heap.size w w' := by
  have htb : tb < w.heap.size := cell_lt ht
  obtain ⟨W2, hW2⟩ : ∃ W2, W2 = (w.alloc (.cells #[.int .i64 2, .int .i64 x.p, .string x.m, .int .i64 x.k, .slice x.a x.n x.c] 49)).alloc (.cells #[.int .i64 x.p, .string x.m, .int .i64 1, .slice none 0 0] 47) := ⟨_, rfl⟩
  have hg : Grn w W2 := by rw [hW2]; exact ((Grn.refl w).alloc _).alloc _
  have HB := Lib.hid hg.below
  have HX := Lib.hid ((hx.of 2).below hg.below)
  have HR := Lib.hid (hr.below hg.below)
  have HT := Lib.hid ((hg.below.cell (p := ⟨tb, 0, none⟩) htb).trans ht)
  have hsz : w.heap.size + 1 < W2.heap.size := by rw [hW2]; simp
  have hsz0 : w.heap.size < W2.heap.size := by omega
  have HC : Hid (W2.cell? ⟨w.heap.size, 0, none⟩ = some (.int .i64 2) ∧ W2.cell? ⟨w.heap.size + 1, 0, none⟩ = some (.int .i64 x.p) ∧ W2.cell? ⟨w.heap.size + 1, 1, none⟩ = some (.string x.m) ∧ W2.cell? ⟨w.heap.size + 1, 2, none⟩ = some (.int .i64 1) ∧ W2.cell? ⟨w.heap.size + 1, 3, none⟩ = some (.slice none 0 0)) := by
    rw [hW2]; exact ⟨by simp [go_sem], by simp [go_sem], by simp [go_sem], by simp [go_sem], by simp [go_sem]⟩
  have HQ := Lib.hid (may_kind (by omega) (by omega) q hq)
  have HK := Lib.hid (Fb.keyI_is L r.p r.m)
  have HP := Lib.hid hx.p
  have HM := Lib.hid hx.m
  obtain ⟨e, he⟩ : ∃ e, Rp.checkR (Fb.ruleOf 2 r) width = e := ⟨_, rfl⟩
  rw [he] at HQ
  have HCh := Lib.hid (fun W (h : RdC ok W (x.of 2) (Fb.ruleOf 2 r)) => check_any ok (x.of 2) (Fb.ruleOf 2 r) width W h e he)
  unfold RC.v RC.of at HCh
  unfold RC.of at HX
  rw [if_pos rfl] at HX
  simp only [if_pos rfl, if_true] at HCh
  obtain ⟨b2, hb2⟩ : ∃ b2, b2 = w.heap.size + 1 := ⟨_, rfl⟩
  rw [← hb2] at HC hsz
  have HW2 := Lib.hid hW2
  clear he hq hx hr ht hg hW2
  go_enter Tryz.func61, Tryz.ntmps61
  go_upto_region 8 with fail
  rw [← HW2.out]
  rw [← hb2]
  clear HW2 hb2
  obtain ⟨c0, c1, c2, c3, c4⟩ := HC.out
  go_wp2_with fail
  refine (HCh.out _ HX.out).mono ?_
  rintro ee w3 ⟨rfl, hb3⟩
  have HB3 : Hid (Below w.heap.size w w3) := HB.out.trans (hb3.mono HB.out.size)
  have d0 := (hb3.cell (p := ⟨w.heap.size, 0, none⟩) hsz0).trans c0
  have d1 := (hb3.cell (p := ⟨b2, 0, none⟩) hsz).trans c1
  have d2 := (hb3.cell (p := ⟨b2, 1, none⟩) hsz).trans c2
  have d3 := (hb3.cell (p := ⟨b2, 2, none⟩) hsz).trans c3
  have d4 := (hb3.cell (p := ⟨b2, 3, none⟩) hsz).trans c4
  have HR3 := Lib.hid (HR.out.below hb3)
  have HT3 := (hb3.cell (p := ⟨tb, 0, none⟩) (Nat.lt_of_lt_of_le htb HB.out.size)).trans HT.out
  clear hb3 c0 c1 c2 c3 c4
  by_cases he0 : e = 0
  · subst he0
    have HQ2 : Hid (q = (if 0 ≤ Fb.keyI L r.p r.m then 0 else 60)) := by
      rcases HQ.out with ⟨h, _⟩ | ⟨_, h⟩
      · exact absurd rfl h
      · show _ = _
        simpa using h
    clear HQ
    obtain ⟨z, hz⟩ : ∃ z, Fb.keyI L r.p r.m = z := ⟨_, rfl⟩
    rw [hz] at HK HQ2
    have HF := Lib.hid (find_any ok tb v L { x with k := 1, a := none, n := 0, c := 0 } w3 HR3.out HT3 z (by show Fb.IsAt L x.p x.m z; rw [HP.out, HM.out]; exact HK.out))
    obtain ⟨ad1, cc, hvf, hvc, _⟩ := HR3.out.form
    obtain ⟨n, hn⟩ : ∃ n, n = L.length := ⟨_, rfl⟩
    rw [← hn] at hvf
    rw [hvf] at HT3
    clear hz hn hvc hvf
    go_wp2_with fail
    refine HF.out.mono ?_
    rintro ee w4 ⟨rfl, hg4⟩
    have HB4 : Hid (Below w.heap.size w w4) := HB3.out.trans (hg4.below.mono HB3.out.size)
    have hs3 := HB3.out.size
    have f0 := (hg4.below.cell (p := ⟨w.heap.size, 0, none⟩) (cell_lt d0)).trans d0
    have f1 := (hg4.below.cell (p := ⟨tb, 0, none⟩) (cell_lt HT3)).trans HT3
    clear hg4 d0 d1 d2 d3 d4 HT3 hs3
    by_cases hz0 : 0 ≤ z
    · have HQ3 : Hid (q = 0) := by show _ = _; rw [HQ2.out]; rw [if_pos hz0]
      go_wp2_with fail
      go_end0
      exact ⟨by rw [HQ3.out]; rfl, HB4.out⟩
    · have hz1 : decide (0 ≤ z) = false := decide_eq_false hz0
      have HQ3 : Hid (q = 60) := by show _ = _; rw [HQ2.out, if_neg hz0]
      go_wp2_with fail
      exact ⟨rfl, by rw [HQ3.out]; rfl, HB4.out⟩
  · have HQ2 : Hid (q = e) := by
      rcases HQ.out with ⟨_, h⟩ | ⟨h, _⟩
      · exact h
      · exact absurd h he0
    have HE := Lib.hid he0
    have he1 : (e != 0) = true := by simpa using he0
    clear he0 HQ
    go_wp2_with fail
    exact ⟨rfl, by rw [HQ2.out]; unfold mayEnd; rw [if_neg HE.out], HB3.out⟩
set_option maxHeartbeats 1600000 in
set_option maxRecDepth 20000 in
theorem may3_any (ok : Nat → Prop) (tb : Nat) (v : Value) (L : List Rl) (width : Int) (x : RC) (r : Rl) (w : World) (hr : RdsR ok w v L) (ht : w.cell? ⟨tb, 0, none⟩ = some v) (hx : RdC ok w x r) (q : Int) (hq : Fb.mayI L width 3 r = q) :
    Calls Tryz.prog 61 #[.pointer (some ⟨tb, 0, none⟩), .agg #[.int .i64 3, .int .i64 x.p, .string x.m, .int .i64 x.k, .slice x.a x.n x.c], .int .i64 width] w fun e w' => e = mayEnd q ∧ Below w.heap.size w w' := by
  have htb : tb < w.heap.size := cell_lt ht
  obtain ⟨W2, hW2⟩ : ∃ W2, W2 = (w.alloc (.cells #[.int .i64 3, .int .i64 x.p, .string x.m, .int .i64 x.k, .slice x.a x.n x.c] 49)).alloc (.cells #[.int .i64 x.p, .string x.m, .int .i64 x.k, .slice x.a x.n x.c] 47) := ⟨_, rfl⟩
  have hg : Grn w W2 := by rw [hW2]; exact ((Grn.refl w).alloc _).alloc _
  have HB := Lib.hid hg.below
  have HX := Lib.hid ((hx.of 3).below hg.below)
  have HR := Lib.hid (hr.below hg.below)
  have HT := Lib.hid ((hg.below.cell (p := ⟨tb, 0, none⟩) htb).trans ht)
  have hsz : w.heap.size + 1 < W2.heap.size := by rw [hW2]; simp
  have hsz0 : w.heap.size < W2.heap.size := by omega
  have HC : Hid (W2.cell? ⟨w.heap.size, 0, none⟩ = some (.int .i64 3) ∧ W2.cell? ⟨w.heap.size + 1, 0, none⟩ = some (.int .i64 x.p) ∧ W2.cell? ⟨w.heap.size + 1, 1, none⟩ = some (.string x.m) ∧ W2.cell? ⟨w.heap.size + 1, 2, none⟩ = some (.int .i64 x.k) ∧ W2.cell? ⟨w.heap.size + 1, 3, none⟩ = some (.slice x.a x.n x.c)) := by
    rw [hW2]; exact ⟨by simp [go_sem], by simp [go_sem], by simp [go_sem], by simp [go_sem], by simp [go_sem]⟩
  have HQ := Lib.hid (may_kind (by omega) (by omega) q hq)
  have HK := Lib.hid (Fb.keyI_is L r.p r.m)
  have HP := Lib.hid hx.p
  have HM := Lib.hid hx.m
  obtain ⟨e, he⟩ : ∃ e, Rp.checkR (Fb.ruleOf 3 r) width = e := ⟨_, rfl⟩
  rw [he] at HQ
  have HCh := Lib.hid (fun W (h : RdC ok W (x.of 3) (Fb.ruleOf 3 r)) => check_any ok (x.of 3) (Fb.ruleOf 3 r) width W h e he)
  unfold RC.v RC.of at HCh
  unfold RC.of at HX
  rw [if_neg (by decide)] at HX
  simp only [show ¬ ((3 : Int) = 2) by decide, if_false, if_true] at HCh
  obtain ⟨b2, hb2⟩ : ∃ b2, b2 = w.heap.size + 1 := ⟨_, rfl⟩
  rw [← hb2] at HC hsz
  have HW2 := Lib.hid hW2
  clear he hq hx hr ht hg hW2
  go_enter Tryz.func61, Tryz.ntmps61
  go_upto_region 8 with fail
  rw [← HW2.out]
  rw [← hb2]
  clear HW2 hb2
  obtain ⟨c0, c1, c2, c3, c4⟩ := HC.out
  go_wp2_with fail
  refine (HCh.out _ HX.out).mono ?_
  rintro ee w3 ⟨rfl, hb3⟩
  have HB3 : Hid (Below w.heap.size w w3) := HB.out.trans (hb3.mono HB.out.size)
  have d0 := (hb3.cell (p := ⟨w.heap.size, 0, none⟩) hsz0).trans c0
  have d1 := (hb3.cell (p := ⟨b2, 0, none⟩) hsz).trans c1
  have d2 := (hb3.cell (p := ⟨b2, 1, none⟩) hsz).trans c2
  have d3 := (hb3.cell (p := ⟨b2, 2, none⟩) hsz).trans c3
  have d4 := (hb3.cell (p := ⟨b2, 3, none⟩) hsz).trans c4
  have HR3 := Lib.hid (HR.out.below hb3)
  have HT3 := (hb3.cell (p := ⟨tb, 0, none⟩) (Nat.lt_of_lt_of_le htb HB.out.size)).trans HT.out
  clear hb3 c0 c1 c2 c3 c4
  by_cases he0 : e = 0
  · subst he0
    have HQ2 : Hid (q = (if 0 ≤ Fb.keyI L r.p r.m then 0 else 60)) := by
      rcases HQ.out with ⟨h, _⟩ | ⟨_, h⟩
      · exact absurd rfl h
      · show _ = _
        simpa using h
    clear HQ
    obtain ⟨z, hz⟩ : ∃ z, Fb.keyI L r.p r.m = z := ⟨_, rfl⟩
    rw [hz] at HK HQ2
    have HF := Lib.hid (find_any ok tb v L x w3 HR3.out HT3 z (by skip; rw [HP.out, HM.out]; exact HK.out))
    obtain ⟨ad1, cc, hvf, hvc, _⟩ := HR3.out.form
    obtain ⟨n, hn⟩ : ∃ n, n = L.length := ⟨_, rfl⟩
    rw [← hn] at hvf
    rw [hvf] at HT3
    clear hz hn hvc hvf
    go_wp2_with fail
    refine HF.out.mono ?_
    rintro ee w4 ⟨rfl, hg4⟩
    have HB4 : Hid (Below w.heap.size w w4) := HB3.out.trans (hg4.below.mono HB3.out.size)
    have hs3 := HB3.out.size
    have f0 := (hg4.below.cell (p := ⟨w.heap.size, 0, none⟩) (cell_lt d0)).trans d0
    have f1 := (hg4.below.cell (p := ⟨tb, 0, none⟩) (cell_lt HT3)).trans HT3
    clear hg4 d0 d1 d2 d3 d4 HT3 hs3
    by_cases hz0 : 0 ≤ z
    · have HQ3 : Hid (q = 0) := by show _ = _; rw [HQ2.out]; rw [if_pos hz0]
      go_wp2_with fail
      go_end0
      exact ⟨by rw [HQ3.out]; rfl, HB4.out⟩
    · have hz1 : decide (0 ≤ z) = false := decide_eq_false hz0
      have HQ3 : Hid (q = 60) := by show _ = _; rw [HQ2.out, if_neg hz0]
      go_wp2_with fail
      exact ⟨rfl, by rw [HQ3.out]; rfl, HB4.out⟩
  · have HQ2 : Hid (q = e) := by
      rcases HQ.out with ⟨_, h⟩ | ⟨h, _⟩
      · exact h
      · exact absurd h he0
    have HE := Lib.hid he0
    have he1 : (e != 0) = true := by simpa using he0
    clear he0 HQ
    go_wp2_with fail
    exact ⟨rfl, by rw [HQ2.out]; unfold mayEnd; rw [if_neg HE.out], HB3.out⟩
set_option maxHeartbeats 1600000 in
set_option maxRecDepth 20000 in
theorem mayO_any (kind : Int) (h : kind < 1 ∨ kind > 3) (tb : Addr) (width : Int) (x : RC) (w : World) :
    Calls Tryz.prog 61 #[.pointer (some tb), .agg #[.int .i64 kind, .int .i64 x.p, .string x.m, .int .i64 x.k, .slice x.a x.n x.c], .int .i64 width] w fun e w' => e = mayEnd 61 ∧ Below w.heap.size w w' := by
  have HB : Hid (Below w.heap.size w ((w.alloc (.cells #[.int .i64 kind, .int .i64 x.p, .string x.m, .int .i64 x.k, .slice x.a x.n x.c] 49)).alloc (.cells #[.int .i64 x.p, .string x.m, .int .i64 x.k, .slice x.a x.n x.c] 47))) := (((Grn.refl w).alloc _).alloc _).below
  have h1 : (kind == 1) = false := beq_eq_false_iff_ne.2 (by omega)
  have h2 : (kind == 2) = false := beq_eq_false_iff_ne.2 (by omega)
  have h3 : (kind == 3) = false := beq_eq_false_iff_ne.2 (by omega)
  clear h
  go_enter Tryz.func61, Tryz.ntmps61
  go_wp2_with fail
  exact ⟨rfl, rfl, HB.out⟩
/-- What may comes to, at every change. -/
theorem may_any (ok : Nat → Prop) (tb : Nat) (v : Value) (L : List Rl) (width kind : Int) (x : RC) (r : Rl) (w : World) (hr : RdsR ok w v L) (ht : w.cell? ⟨tb, 0, none⟩ = some v) (hx : RdC ok w x r) (q : Int) (hq : Fb.mayI L width kind r = q) :
    Calls Tryz.prog 61 #[.pointer (some ⟨tb, 0, none⟩), .agg #[.int .i64 kind, .int .i64 x.p, .string x.m, .int .i64 x.k, .slice x.a x.n x.c], .int .i64 width] w fun e w' => e = mayEnd q ∧ Below w.heap.size w w' := by
  by_cases h : kind < 1 ∨ kind > 3
  · have : q = 61 := by rw [← hq]; unfold Fb.mayI; rw [if_pos h]
    subst this
    exact mayO_any kind h _ width x w
  · have : kind = 1 ∨ kind = 2 ∨ kind = 3 := by omega
    rcases this with rfl | rfl | rfl
    · exact may1_any ok tb v L width x r w hr ht hx q hq
    · exact may2_any ok tb v L width x r w hr ht hx q hq
    · exact may3_any ok tb v L width x r w hr ht hx q hq
set_option maxHeartbeats 1600000 in
set_option maxRecDepth 20000 in
theorem rMay1_any (ok : Nat → Prop) (v : Value) (L : List Rl) (width : Int) (x : RC) (r : Rl) (w : World) (hr : RdsR ok w v L) (hx : RdC ok w x r) (q : Int) (hq : Fb.mayI L width 1 r = q) :
    Calls Tryz.prog 36 #[v, .int .i64 width, .agg #[.int .i64 1, .int .i64 x.p, .string x.m, .int .i64 x.k, .slice x.a x.n x.c]] w fun e w' => e = .returned (.int .i64 q) ∧ Below w.heap.size w w' := by
  obtain ⟨W2, hW2⟩ : ∃ W2, W2 = (w.alloc (.cells #[.int .i64 1, .int .i64 x.p, .string x.m, .int .i64 x.k, .slice x.a x.n x.c] 49)).alloc (.cells #[.int .i64 x.p, .string x.m, .int .i64 x.k, .slice x.a x.n x.c] 47) := ⟨_, rfl⟩
  have hg : Grn w W2 := by rw [hW2]; exact ((Grn.refl w).alloc _).alloc _
  have HB := Lib.hid hg.below
  have HX := Lib.hid ((hx.of 1).below hg.below)
  have HR := Lib.hid (hr.below hg.below)
  have hsz : w.heap.size + 1 < W2.heap.size := by rw [hW2]; simp
  have hsz0 : w.heap.size < W2.heap.size := by omega
  have HC : Hid (W2.cell? ⟨w.heap.size, 0, none⟩ = some (.int .i64 1) ∧ W2.cell? ⟨w.heap.size + 1, 0, none⟩ = some (.int .i64 x.p) ∧ W2.cell? ⟨w.heap.size + 1, 1, none⟩ = some (.string x.m) ∧ W2.cell? ⟨w.heap.size + 1, 2, none⟩ = some (.int .i64 x.k) ∧ W2.cell? ⟨w.heap.size + 1, 3, none⟩ = some (.slice x.a x.n x.c)) := by
    rw [hW2]; exact ⟨by simp [go_sem], by simp [go_sem], by simp [go_sem], by simp [go_sem], by simp [go_sem]⟩
  have HQ := Lib.hid (may_kind (by omega) (by omega) q hq)
  have HK := Lib.hid (Fb.keyI_is L r.p r.m)
  have HP := Lib.hid hx.p
  have HM := Lib.hid hx.m
  obtain ⟨e, he⟩ : ∃ e, Rp.checkR (Fb.ruleOf 1 r) width = e := ⟨_, rfl⟩
  rw [he] at HQ
  have HCh := Lib.hid (fun W (h : RdC ok W (x.of 1) (Fb.ruleOf 1 r)) => rCheck_any ok (x.of 1) (Fb.ruleOf 1 r) width W h e he)
  unfold RC.v RC.of at HCh
  unfold RC.of at HX
  rw [if_neg (by decide)] at HX
  simp only [show ¬ ((1 : Int) = 2) by decide, if_false, if_true] at HCh
  obtain ⟨b2, hb2⟩ : ∃ b2, b2 = w.heap.size + 1 := ⟨_, rfl⟩
  rw [← hb2] at HC hsz
  have HW2 := Lib.hid hW2
  obtain ⟨ad1, cc, hvf, hvc, hcm⟩ := hr.form
  obtain ⟨n, hn⟩ : ∃ n, n = L.length := ⟨_, rfl⟩
  rw [← hn] at hvf hvc
  subst hvf
  have HN := Lib.hid hn
  unfold maxLen at hcm
  clear he hq hx hr hg hW2 hn
  go_enter Tryz.func36, Tryz.ntmps36
  go_upto_region 6 with fail
  rw [← HW2.out]
  rw [← hb2]
  clear HW2 hb2
  obtain ⟨c0, c1, c2, c3, c4⟩ := HC.out
  go_wp2_with fail
  refine (HCh.out _ HX.out).mono ?_
  rintro ee w3 ⟨rfl, hb3⟩
  have HB3 : Hid (Below w.heap.size w w3) := HB.out.trans (hb3.mono HB.out.size)
  have d0 := (hb3.cell (p := ⟨w.heap.size, 0, none⟩) hsz0).trans c0
  have d1 := (hb3.cell (p := ⟨b2, 0, none⟩) hsz).trans c1
  have d2 := (hb3.cell (p := ⟨b2, 1, none⟩) hsz).trans c2
  have d3 := (hb3.cell (p := ⟨b2, 2, none⟩) hsz).trans c3
  have d4 := (hb3.cell (p := ⟨b2, 3, none⟩) hsz).trans c4
  have HR3 := Lib.hid (HR.out.below hb3)
  clear hb3 c0 c1 c2 c3 c4
  by_cases he0 : e = 0
  · subst he0
    have HQ2 : Hid (q = (if 0 ≤ Fb.keyI L r.p r.m then 52 else if 4096 ≤ L.length then 3 else 0)) := by
      rcases HQ.out with ⟨h, _⟩ | ⟨_, h⟩
      · exact absurd rfl h
      · show _ = _
        simpa using h
    clear HQ
    obtain ⟨z, hz⟩ : ∃ z, Fb.keyI L r.p r.m = z := ⟨_, rfl⟩
    rw [hz] at HK HQ2
    have HF := Lib.hid (at_any ok (.slice ad1 n cc) L x w3 HR3.out z (by skip; rw [HP.out, HM.out]; exact HK.out))
    rw [← HN.out] at HQ2
    clear hz
    go_wp2_with fail
    refine HF.out.mono ?_
    rintro ee w4 ⟨rfl, hg4⟩
    have HB4 : Hid (Below w.heap.size w w4) := HB3.out.trans (hg4.below.mono HB3.out.size)
    have f0 := (hg4.below.cell (p := ⟨w.heap.size, 0, none⟩) (cell_lt d0)).trans d0
    clear hg4 d0 d1 d2 d3 d4
    by_cases hz0 : 0 ≤ z
    · have HQ3 : Hid (q = 52) := by show _ = _; rw [HQ2.out]; rw [if_pos hz0]
      go_wp2_with fail
      go_ret
      exact ⟨by rw [HQ3.out]; rfl, HB4.out⟩
    · have hz1 : decide (0 ≤ z) = false := decide_eq_false hz0
      by_cases hn : 4096 ≤ n
      · have hn1 : (4096 : Int) ≤ (n : Int) := by omega
        have HQ3 : Hid (q = 3) := by show _ = _; rw [HQ2.out, if_neg hz0, if_pos hn]
        go_wp2_with fail
        go_ret
        exact ⟨by rw [HQ3.out]; rfl, HB4.out⟩
      · have hn1 : ¬ (4096 : Int) ≤ (n : Int) := by omega
        have HQ3 : Hid (q = 0) := by show _ = _; rw [HQ2.out, if_neg hz0, if_neg hn]
        go_wp2_with fail
        go_ret
        exact ⟨by rw [HQ3.out]; rfl, HB4.out⟩
  · have HQ2 : Hid (q = e) := by
      rcases HQ.out with ⟨_, h⟩ | ⟨h, _⟩
      · exact h
      · exact absurd h he0
    have HE := Lib.hid he0
    have he1 : (e != 0) = true := by simpa using he0
    clear he0 HQ
    go_wp2_with fail
    go_ret
    exact ⟨by rw [HQ2.out]; rfl, HB3.out⟩
set_option maxHeartbeats 1600000 in
set_option maxRecDepth 20000 in
theorem rMay2_any (ok : Nat → Prop) (v : Value) (L : List Rl) (width : Int) (x : RC) (r : Rl) (w : World) (hr : RdsR ok w v L) (hx : RdC ok w x r) (q : Int) (hq : Fb.mayI L width 2 r = q) :
    Calls Tryz.prog 36 #[v, .int .i64 width, .agg #[.int .i64 2, .int .i64 x.p, .string x.m, .int .i64 x.k, .slice x.a x.n x.c]] w fun e w' => e = .returned (.int .i64 q) ∧ Below w.heap.size w w' := by
  obtain ⟨W2, hW2⟩ : ∃ W2, W2 = (w.alloc (.cells #[.int .i64 2, .int .i64 x.p, .string x.m, .int .i64 x.k, .slice x.a x.n x.c] 49)).alloc (.cells #[.int .i64 x.p, .string x.m, .int .i64 1, .slice none 0 0] 47) := ⟨_, rfl⟩
  have hg : Grn w W2 := by rw [hW2]; exact ((Grn.refl w).alloc _).alloc _
  have HB := Lib.hid hg.below
  have HX := Lib.hid ((hx.of 2).below hg.below)
  have HR := Lib.hid (hr.below hg.below)
  have hsz : w.heap.size + 1 < W2.heap.size := by rw [hW2]; simp
  have hsz0 : w.heap.size < W2.heap.size := by omega
  have HC : Hid (W2.cell? ⟨w.heap.size, 0, none⟩ = some (.int .i64 2) ∧ W2.cell? ⟨w.heap.size + 1, 0, none⟩ = some (.int .i64 x.p) ∧ W2.cell? ⟨w.heap.size + 1, 1, none⟩ = some (.string x.m) ∧ W2.cell? ⟨w.heap.size + 1, 2, none⟩ = some (.int .i64 1) ∧ W2.cell? ⟨w.heap.size + 1, 3, none⟩ = some (.slice none 0 0)) := by
    rw [hW2]; exact ⟨by simp [go_sem], by simp [go_sem], by simp [go_sem], by simp [go_sem], by simp [go_sem]⟩
  have HQ := Lib.hid (may_kind (by omega) (by omega) q hq)
  have HK := Lib.hid (Fb.keyI_is L r.p r.m)
  have HP := Lib.hid hx.p
  have HM := Lib.hid hx.m
  obtain ⟨e, he⟩ : ∃ e, Rp.checkR (Fb.ruleOf 2 r) width = e := ⟨_, rfl⟩
  rw [he] at HQ
  have HCh := Lib.hid (fun W (h : RdC ok W (x.of 2) (Fb.ruleOf 2 r)) => rCheck_any ok (x.of 2) (Fb.ruleOf 2 r) width W h e he)
  unfold RC.v RC.of at HCh
  unfold RC.of at HX
  rw [if_pos rfl] at HX
  simp only [if_pos rfl, if_true] at HCh
  obtain ⟨b2, hb2⟩ : ∃ b2, b2 = w.heap.size + 1 := ⟨_, rfl⟩
  rw [← hb2] at HC hsz
  have HW2 := Lib.hid hW2
  obtain ⟨ad1, cc, hvf, hvc, hcm⟩ := hr.form
  obtain ⟨n, hn⟩ : ∃ n, n = L.length := ⟨_, rfl⟩
  rw [← hn] at hvf hvc
  subst hvf
  have HN := Lib.hid hn
  unfold maxLen at hcm
  clear he hq hx hr hg hW2 hn
  go_enter Tryz.func36, Tryz.ntmps36
  go_upto_region 6 with fail
  rw [← HW2.out]
  rw [← hb2]
  clear HW2 hb2
  obtain ⟨c0, c1, c2, c3, c4⟩ := HC.out
  go_wp2_with fail
  refine (HCh.out _ HX.out).mono ?_
  rintro ee w3 ⟨rfl, hb3⟩
  have HB3 : Hid (Below w.heap.size w w3) := HB.out.trans (hb3.mono HB.out.size)
  have d0 := (hb3.cell (p := ⟨w.heap.size, 0, none⟩) hsz0).trans c0
  have d1 := (hb3.cell (p := ⟨b2, 0, none⟩) hsz).trans c1
  have d2 := (hb3.cell (p := ⟨b2, 1, none⟩) hsz).trans c2
  have d3 := (hb3.cell (p := ⟨b2, 2, none⟩) hsz).trans c3
  have d4 := (hb3.cell (p := ⟨b2, 3, none⟩) hsz).trans c4
  have HR3 := Lib.hid (HR.out.below hb3)
  clear hb3 c0 c1 c2 c3 c4
  by_cases he0 : e = 0
  · subst he0
    have HQ2 : Hid (q = (if 0 ≤ Fb.keyI L r.p r.m then 0 else 60)) := by
      rcases HQ.out with ⟨h, _⟩ | ⟨_, h⟩
      · exact absurd rfl h
      · show _ = _
        simpa using h
    clear HQ
    obtain ⟨z, hz⟩ : ∃ z, Fb.keyI L r.p r.m = z := ⟨_, rfl⟩
    rw [hz] at HK HQ2
    have HF := Lib.hid (at_any ok (.slice ad1 n cc) L { x with k := 1, a := none, n := 0, c := 0 } w3 HR3.out z (by show Fb.IsAt L x.p x.m z; rw [HP.out, HM.out]; exact HK.out))
    skip
    clear hz
    go_wp2_with fail
    refine HF.out.mono ?_
    rintro ee w4 ⟨rfl, hg4⟩
    have HB4 : Hid (Below w.heap.size w w4) := HB3.out.trans (hg4.below.mono HB3.out.size)
    have f0 := (hg4.below.cell (p := ⟨w.heap.size, 0, none⟩) (cell_lt d0)).trans d0
    clear hg4 d0 d1 d2 d3 d4
    by_cases hz0 : 0 ≤ z
    · have HQ3 : Hid (q = 0) := by show _ = _; rw [HQ2.out]; rw [if_pos hz0]
      go_wp2_with fail
      go_ret
      exact ⟨by rw [HQ3.out]; rfl, HB4.out⟩
    · have hz1 : decide (0 ≤ z) = false := decide_eq_false hz0
      have HQ3 : Hid (q = 60) := by show _ = _; rw [HQ2.out, if_neg hz0]
      go_wp2_with fail
      go_ret
      exact ⟨by rw [HQ3.out]; rfl, HB4.out⟩
  · have HQ2 : Hid (q = e) := by
      rcases HQ.out with ⟨_, h⟩ | ⟨h, _⟩
      · exact h
      · exact absurd h he0
    have HE := Lib.hid he0
    have he1 : (e != 0) = true := by simpa using he0
    clear he0 HQ
    go_wp2_with fail
    go_ret
    exact ⟨by rw [HQ2.out]; rfl, HB3.out⟩
set_option maxHeartbeats 1600000 in
set_option maxRecDepth 20000 in
theorem rMay3_any (ok : Nat → Prop) (v : Value) (L : List Rl) (width : Int) (x : RC) (r : Rl) (w : World) (hr : RdsR ok w v L) (hx : RdC ok w x r) (q : Int) (hq : Fb.mayI L width 3 r = q) :
    Calls Tryz.prog 36 #[v, .int .i64 width, .agg #[.int .i64 3, .int .i64 x.p, .string x.m, .int .i64 x.k, .slice x.a x.n x.c]] w fun e w' => e = .returned (.int .i64 q) ∧ Below w.heap.size w w' := by
  obtain ⟨W2, hW2⟩ : ∃ W2, W2 = (w.alloc (.cells #[.int .i64 3, .int .i64 x.p, .string x.m, .int .i64 x.k, .slice x.a x.n x.c] 49)).alloc (.cells #[.int .i64 x.p, .string x.m, .int .i64 x.k, .slice x.a x.n x.c] 47) := ⟨_, rfl⟩
  have hg : Grn w W2 := by rw [hW2]; exact ((Grn.refl w).alloc _).alloc _
  have HB := Lib.hid hg.below
  have HX := Lib.hid ((hx.of 3).below hg.below)
  have HR := Lib.hid (hr.below hg.below)
  have hsz : w.heap.size + 1 < W2.heap.size := by rw [hW2]; simp
  have hsz0 : w.heap.size < W2.heap.size := by omega
  have HC : Hid (W2.cell? ⟨w.heap.size, 0, none⟩ = some (.int .i64 3) ∧ W2.cell? ⟨w.heap.size + 1, 0, none⟩ = some (.int .i64 x.p) ∧ W2.cell? ⟨w.heap.size + 1, 1, none⟩ = some (.string x.m) ∧ W2.cell? ⟨w.heap.size + 1, 2, none⟩ = some (.int .i64 x.k) ∧ W2.cell? ⟨w.heap.size + 1, 3, none⟩ = some (.slice x.a x.n x.c)) := by
    rw [hW2]; exact ⟨by simp [go_sem], by simp [go_sem], by simp [go_sem], by simp [go_sem], by simp [go_sem]⟩
  have HQ := Lib.hid (may_kind (by omega) (by omega) q hq)
  have HK := Lib.hid (Fb.keyI_is L r.p r.m)
  have HP := Lib.hid hx.p
  have HM := Lib.hid hx.m
  obtain ⟨e, he⟩ : ∃ e, Rp.checkR (Fb.ruleOf 3 r) width = e := ⟨_, rfl⟩
  rw [he] at HQ
  have HCh := Lib.hid (fun W (h : RdC ok W (x.of 3) (Fb.ruleOf 3 r)) => rCheck_any ok (x.of 3) (Fb.ruleOf 3 r) width W h e he)
  unfold RC.v RC.of at HCh
  unfold RC.of at HX
  rw [if_neg (by decide)] at HX
  simp only [show ¬ ((3 : Int) = 2) by decide, if_false, if_true] at HCh
  obtain ⟨b2, hb2⟩ : ∃ b2, b2 = w.heap.size + 1 := ⟨_, rfl⟩
  rw [← hb2] at HC hsz
  have HW2 := Lib.hid hW2
  obtain ⟨ad1, cc, hvf, hvc, hcm⟩ := hr.form
  obtain ⟨n, hn⟩ : ∃ n, n = L.length := ⟨_, rfl⟩
  rw [← hn] at hvf hvc
  subst hvf
  have HN := Lib.hid hn
  unfold maxLen at hcm
  clear he hq hx hr hg hW2 hn
  go_enter Tryz.func36, Tryz.ntmps36
  go_upto_region 6 with fail
  rw [← HW2.out]
  rw [← hb2]
  clear HW2 hb2
  obtain ⟨c0, c1, c2, c3, c4⟩ := HC.out
  go_wp2_with fail
  refine (HCh.out _ HX.out).mono ?_
  rintro ee w3 ⟨rfl, hb3⟩
  have HB3 : Hid (Below w.heap.size w w3) := HB.out.trans (hb3.mono HB.out.size)
  have d0 := (hb3.cell (p := ⟨w.heap.size, 0, none⟩) hsz0).trans c0
  have d1 := (hb3.cell (p := ⟨b2, 0, none⟩) hsz).trans c1
  have d2 := (hb3.cell (p := ⟨b2, 1, none⟩) hsz).trans c2
  have d3 := (hb3.cell (p := ⟨b2, 2, none⟩) hsz).trans c3
  have d4 := (hb3.cell (p := ⟨b2, 3, none⟩) hsz).trans c4
  have HR3 := Lib.hid (HR.out.below hb3)
  clear hb3 c0 c1 c2 c3 c4
  by_cases he0 : e = 0
  · subst he0
    have HQ2 : Hid (q = (if 0 ≤ Fb.keyI L r.p r.m then 0 else 60)) := by
      rcases HQ.out with ⟨h, _⟩ | ⟨_, h⟩
      · exact absurd rfl h
      · show _ = _
        simpa using h
    clear HQ
    obtain ⟨z, hz⟩ : ∃ z, Fb.keyI L r.p r.m = z := ⟨_, rfl⟩
    rw [hz] at HK HQ2
    have HF := Lib.hid (at_any ok (.slice ad1 n cc) L x w3 HR3.out z (by skip; rw [HP.out, HM.out]; exact HK.out))
    skip
    clear hz
    go_wp2_with fail
    refine HF.out.mono ?_
    rintro ee w4 ⟨rfl, hg4⟩
    have HB4 : Hid (Below w.heap.size w w4) := HB3.out.trans (hg4.below.mono HB3.out.size)
    have f0 := (hg4.below.cell (p := ⟨w.heap.size, 0, none⟩) (cell_lt d0)).trans d0
    clear hg4 d0 d1 d2 d3 d4
    by_cases hz0 : 0 ≤ z
    · have HQ3 : Hid (q = 0) := by show _ = _; rw [HQ2.out]; rw [if_pos hz0]
      go_wp2_with fail
      go_ret
      exact ⟨by rw [HQ3.out]; rfl, HB4.out⟩
    · have hz1 : decide (0 ≤ z) = false := decide_eq_false hz0
      have HQ3 : Hid (q = 60) := by show _ = _; rw [HQ2.out, if_neg hz0]
      go_wp2_with fail
      go_ret
      exact ⟨by rw [HQ3.out]; rfl, HB4.out⟩
  · have HQ2 : Hid (q = e) := by
      rcases HQ.out with ⟨_, h⟩ | ⟨h, _⟩
      · exact h
      · exact absurd h he0
    have HE := Lib.hid he0
    have he1 : (e != 0) = true := by simpa using he0
    clear he0 HQ
    go_wp2_with fail
    go_ret
    exact ⟨by rw [HQ2.out]; rfl, HB3.out⟩
set_option maxHeartbeats 1600000 in
set_option maxRecDepth 20000 in
theorem rMayO_any (kind : Int) (h : kind < 1 ∨ kind > 3) (v : Value) (width : Int) (x : RC) (w : World) :
    Calls Tryz.prog 36 #[v, .int .i64 width, .agg #[.int .i64 kind, .int .i64 x.p, .string x.m, .int .i64 x.k, .slice x.a x.n x.c]] w fun e w' => e = .returned (.int .i64 61) ∧ Below w.heap.size w w' := by
  have HB : Hid (Below w.heap.size w (w.alloc (.cells #[.int .i64 kind, .int .i64 x.p, .string x.m, .int .i64 x.k, .slice x.a x.n x.c] 49))) := ((Grn.refl w).alloc _).below
  rcases h with h | h
  all_goals
    go_enter Tryz.func36, Tryz.ntmps36
    go_wp2_with fail
    all_goals (go_ret; exact ⟨rfl, HB.out⟩)
/-- What the reference's May tells, at every change. -/
theorem rMay_any (ok : Nat → Prop) (v : Value) (L : List Rl) (width kind : Int) (x : RC) (r : Rl) (w : World) (hr : RdsR ok w v L) (hx : RdC ok w x r) (q : Int) (hq : Fb.mayI L width kind r = q) :
    Calls Tryz.prog 36 #[v, .int .i64 width, .agg #[.int .i64 kind, .int .i64 x.p, .string x.m, .int .i64 x.k, .slice x.a x.n x.c]] w fun e w' => e = .returned (.int .i64 q) ∧ Below w.heap.size w w' := by
  by_cases h : kind < 1 ∨ kind > 3
  · have : q = 61 := by rw [← hq]; unfold Fb.mayI; rw [if_pos h]
    subst this
    exact rMayO_any kind h _ width x w
  · have : kind = 1 ∨ kind = 2 ∨ kind = 3 := by omega
    rcases this with rfl | rfl | rfl
    · exact rMay1_any ok v L width x r w hr hx q hq
    · exact rMay2_any ok v L width x r w hr hx q hq
    · exact rMay3_any ok v L width x r w hr hx q hq
end Go.Proofs.YtlamhpiiikcpiaaGreatDoor
/-
  Walks: copied.
-/
namespace Go.Proofs.YtlamhpiiikcpiaaGreatDoor
open Go.RowKit Go.Shelf Go.Lib Go.Sort
set_option linter.unusedVariables false
set_option linter.unusedSectionVars false
/-- Blocks of the call's own, but for the row itself. -/
def okF (base : Nat) (v : Value) : Nat → Prop := fun b => base ≤ b ∧ v.ownBlock ≠ some b
/-- append of one rule, told by its cells, onto a row of the call's own whose ports lie in blocks of the call's own. -/
theorem wp_app_one {w : World} {o : Oper} {a : Act} {K : Act → World → Prop} {Q : Exit → Act → World → Prop} (s x : Operand)
    (ho : o.op = .call { callee := .builtin .append, args := #[s, x], argTypes := #[36, 36] })
    (base : Nat) (v : Value) (xs : List RC) (L : List Rl) (hs : a.eval s = v) (h1 : OwnR (okF base v) w base v xs L)
    (g0 c : Nat) (y : RC) (r : Rl) (hx : a.eval x = .slice (some ⟨g0, 0, none⟩) 1 c) (hyc : w.heap[g0]? = some (.cells #[.int .i64 y.p, .string y.m, .int .i64 y.k, .slice y.a y.n y.c] 47 (0, 0)))
    (hyr : RdC (okF base v) w y r) (tot : Nat) (htot : L.length + 1 = tot) (hbytes : tot * 56 ≤ 140737488355328) (hbase : base ≤ w.heap.size)
    (h : ∀ ad cap w', OwnR (okF base (.slice ad tot cap)) w' base (.slice ad tot cap) (xs ++ [y]) (L ++ [r]) → w.grownBy w' v.ownBlock → K (a.put o.dst (.slice ad tot cap)) w') : o.wp Tryz.prog a w K Q := by
  subst htot
  obtain ⟨i0, hi, hz0, hz1, hz2⟩ := info_parts infoR
  refine wp_append_lies w s x 36 ho base 47 i0 _ 4 56 Tryz.underlying36 hi hz0 hz1 hz2 rfl (by decide) v L.length (cellsR xs) hs h1.row ⟨g0, 0, none⟩ 1 c (cellsR [y]) hx rfl (one_cells hyc _ rfl) (cellsR_one _)
    (by omega) (by unfold maxLen; omega) hbytes hbase w.heap.size rfl fun g cap w' hown hg hgg hlt => h _ cap w' ?_ hg
  have hbut : But (fun b => v.ownBlock = some b) w w' := ⟨hg.os, hg.tape, hg.output, hg.size, fun k hk hn => hg.block k hk (fun e => hn e.symm)⟩
  have key : ∀ {y' : RC} {r' : Rl}, RdC (okF base v) w y' r' → RdC (okF base (.slice (some ⟨g, 0, none⟩) (L.length + 1) cap)) w' y' r' := fun hy => by
    refine (hy.lt.but hbut (fun b hb e => hb.1.2 e)).mono (fun b hb => ⟨hb.1.1, fun e => ?_⟩)
    have e2 : g = b := Option.some.inj e
    rcases hgg with h3 | h3
    · exact hb.1.2 (by rw [h3, e2])
    · have := hb.2; omega
  refine ⟨?_, ?_, ?_⟩
  · rw [cellsR_append, List.length_append]; exact hown
  · rw [List.length_append, List.length_append, h1.len]; rfl
  · intro i h3 h4
    by_cases hlt2 : i < xs.length
    · rw [List.getElem_append_left hlt2, List.getElem_append_left (by rw [← h1.len]; exact hlt2)]
      exact key (h1.rd i hlt2 (by rw [← h1.len]; exact hlt2))
    · have e1 : i = xs.length := by simp at h3; omega
      subst e1
      have e2 : (xs ++ [y])[xs.length]'h3 = y := by simp
      have e3 : (L ++ [r])[xs.length]'h4 = r := by simp only [h1.len]; simp
      rw [e2, e3]
      exact key hyr
theorem OwnR.freshRds {w : World} {base : Nat} {v : Value} {xs : List RC} {L : List Rl} (h : OwnR (okF base v) w base v xs L) : RdsR (fun b => base ≤ b) w v L :=
  (h.mono (ok' := fun b => base ≤ b) fun b hb => hb.1).toRds fun b hb => hb
set_option maxHeartbeats 1600000 in
set_option maxRecDepth 20000 in
theorem copied_any (ok : Nat → Prop) (v : Value) (L : List Rl) (w : World) (hr : RdsR ok w v L) (hn : L.length * 56 ≤ 140737488355328) :
    Calls Tryz.prog 29 #[v] w fun e w' => ∃ ad c, e = .returned (.slice ad L.length c) ∧ RdsR (fun b => w.heap.size ≤ b) w' (.slice ad L.length c) L ∧ Below w.heap.size w w' := by
  have HR := Lib.hid hr
  obtain ⟨n, hnl⟩ : ∃ n, n = L.length := ⟨_, rfl⟩
  have HN : Hid (n = L.length) := hnl
  have hnb : n * 56 ≤ 140737488355328 := by rw [hnl]; exact hn
  obtain ⟨ad0, cap0, rfl, hnc, hcm⟩ := hr.form
  rw [← hnl] at HR hnc ⊢
  unfold maxLen at hcm
  clear hr hn hnl
  go_enter Tryz.func29, Tryz.ntmps29
  go_wp2_with fail
  go_loopw [3, 8] (fun s3 s8 wr => ∃ (i : Nat) (ad : Option Addr) (c : Nat) (xs : List RC), s8 = .int .i64 i ∧ s3 = .slice ad i c ∧ i ≤ n ∧ Hid (xs.length = i) ∧ Hid (OwnR (okF w.heap.size (.slice ad i c)) wr w.heap.size (.slice ad i c) xs (L.take i)) ∧ Hid (Below w.heap.size w wr)) (fun _ s8 _ => n - (intOf s8).toNat)
  case atStart => exact ⟨0, none, 0, [], rfl, rfl, Nat.zero_le _, rfl, ownR_nil _ _ _, Below.refl _ _⟩
  case round =>
    obtain ⟨wo, rfl⟩ : ∃ wo : World, wo = wr := ⟨wr, rfl⟩
    obtain ⟨i, ad, c, xs, rfl, rfl, hin, HXl, HO, HB⟩ := hrel
    by_cases hlt : i < n
    · have hiL : i < L.length := by rw [← HN.out]; exact hlt
      obtain ⟨b, off, x, rfl, hb, _, x0, x1, x2, x3, hx⟩ := HR.out.get i hiL
      have X0 := (HB.out.cell (p := ⟨b, off + i * 4, none⟩) hb).trans x0
      have X1 := (HB.out.cell (p := ⟨b, off + i * 4 + 1, none⟩) hb).trans x1
      have X2 := (HB.out.cell (p := ⟨b, off + i * 4 + 2, none⟩) hb).trans x2
      have X3 := (HB.out.cell (p := ⟨b, off + i * 4 + 3, none⟩) hb).trans x3
      obtain ⟨r, hrr⟩ : ∃ r, L[i] = r := ⟨_, rfl⟩
      rw [hrr] at hx
      have HRr := Lib.hid hrr
      have HXx := Lib.hid hx
      obtain ⟨W2, hW2⟩ : ∃ W2, W2 = wo.alloc (.cells #[.int .i64 x.p, .string x.m, .int .i64 x.k, .slice x.a x.n x.c] 47) := ⟨_, rfl⟩
      have hg2 : Grn wo W2 := by rw [hW2]; exact (Grn.refl _).alloc _
      have HG2 := Lib.hid hg2
      have HCS := Lib.hid (cloneS_any (.slice x.a x.n x.c) r.ps W2 ((hx.s.1.below HB.out).below hg2.below) hx.z.n)
      have HHp : Hid (W2.heap[wo.heap.size]? = some (.cells #[.int .i64 x.p, .string x.m, .int .i64 x.k, .slice x.a x.n x.c] 47 (0, 0))) := by rw [hW2]; exact heap_alloc_new _ _
      have hw2s : W2.heap.size = wo.heap.size + 1 := by rw [hW2]; simp
      have HW2s := Lib.hid hw2s
      have y3 : W2.cell? ⟨wo.heap.size, 2 + 1, none⟩ = some (.slice x.a x.n x.c) := by rw [hW2]; simp [go_sem]
      have HW2 := Lib.hid hW2
      clear x0 x1 x2 x3 hx hrr hg2 hW2 hw2s
      go_upto_region 5 with fail
      rw [← HW2.out]
      clear HW2 X0 X1 X2 X3
      go_wp2_with fail
      refine HCS.out.mono ?_
      rintro e w3 ⟨ad2, c2, rfl, hrd, hb3⟩
      have hlt2 : wo.heap.size < W2.heap.size := by rw [HW2s.out]; omega
      have hh3 : w3.heap[wo.heap.size]? = some (.cells #[.int .i64 x.p, .string x.m, .int .i64 x.k, .slice x.a x.n x.c] 47 (0, 0)) := by rw [hb3.block _ hlt2]; exact HHp.out
      have z0 : w3.cell? ⟨wo.heap.size, 0, none⟩ = some (.int .i64 x.p) := by simp [World.cell?, hh3]
      have z1 : w3.cell? ⟨wo.heap.size, 1, none⟩ = some (.string x.m) := by simp [World.cell?, hh3]
      have z2 : w3.cell? ⟨wo.heap.size, 2, none⟩ = some (.int .i64 x.k) := by simp [World.cell?, hh3]
      have z3 : w3.cell? ⟨wo.heap.size, 3, none⟩ = some (.slice x.a x.n x.c) := by simp [World.cell?, hh3]
      have f3 : w3.frozen? ⟨wo.heap.size, 3, none⟩ = false := by simp [World.frozen?, hh3]
      obtain ⟨w5, hw5⟩ : ∃ w5, w5 = w3.setCell ⟨wo.heap.size, 3, none⟩ (.slice ad2 r.ps.length c2) := ⟨_, rfl⟩
      have hbw5 : Below wo.heap.size wo w5 := by
        rw [hw5]
        refine (HG2.out.below.trans (hb3.mono (by rw [HW2s.out]; omega))).setCell ?_ _
        show wo.heap.size ≤ wo.heap.size
        omega
      have hbut5 : But (fun b => b = wo.heap.size) w3 w5 := by rw [hw5]; exact But.set (S := fun b => b = wo.heap.size) (a := ⟨wo.heap.size, 3, none⟩) rfl _
      have hs35 : w3.heap.size ≤ w5.heap.size := hbut5.size
      have hW2w3 := hb3.size
      have HOw := Lib.hid (HO.out.below (hbw5.alloc hbw5.size (.cells #[.int .i64 x.p, .string x.m, .int .i64 x.k, .slice ad2 r.ps.length c2] 47)))
      have HYr : Hid (RdC (okF w.heap.size (.slice ad i c)) (w5.alloc (.cells #[.int .i64 x.p, .string x.m, .int .i64 x.k, .slice ad2 r.ps.length c2] 47)) ⟨x.p, x.m, x.k, ad2, r.ps.length, c2⟩ r) := by
        refine ⟨HXx.out.p, HXx.out.m, HXx.out.k, ?_, HXx.out.z⟩
        refine ((hrd.but hbut5 (fun b hb e => by omega)).below ((Below.refl _ _).alloc (Nat.le_refl _) _)).mono (fun b hb => ⟨by have := HB.out.size; have := HW2s.out; omega, fun e => ?_⟩)
        have := (HO.out.row.lt b e).2
        have := HW2s.out
        omega
      have HBw5 : Hid (Below w.heap.size w w5) := HB.out.trans (hbw5.mono HB.out.size)
      have hbsz := HB.out.size
      have HOl : Hid ((L.take i).length = i) := by show _ = _; rw [List.length_take]; omega
      have HW5 := Lib.hid hw5
      have q0 : w5.cell? ⟨wo.heap.size, 0, none⟩ = some (.int .i64 x.p) := by rw [hw5]; exact (cell_set_other _ (by simp)).trans z0
      have q1 : w5.cell? ⟨wo.heap.size, 1, none⟩ = some (.string x.m) := by rw [hw5]; exact (cell_set_other _ (by simp)).trans z1
      have q2 : w5.cell? ⟨wo.heap.size, 2, none⟩ = some (.int .i64 x.k) := by rw [hw5]; exact (cell_set_other _ (by simp)).trans z2
      have q3 : w5.cell? ⟨wo.heap.size, 3, none⟩ = some (.slice ad2 r.ps.length c2) := by rw [hw5]; exact cell_set_same _ z3
      clear hrd hb3 hh3 hbut5 hw5 hW2w3 hs35 hlt2 y3
      go_upto_region 6 with fail
      rw [← HW5.out]
      clear z0 z1 z2 z3 f3 HW5
      go_wp2_with (at_builtin; go_loud (refine wpList_plain rfl (fun _ hK => wp_app_one (.tmp 18) (.tmp 20) rfl w.heap.size _ xs (L.take i) (by rfl) HOw.out w5.heap.size 1 ⟨x.p, x.m, x.k, ad2, r.ps.length, c2⟩ r (by rfl) (heap_alloc_new _ _) HYr.out (i + 1) (by rw [HOl.out]) (by omega) (by have := HBw5.out.size; simp; omega) (fun ad4 c4 w4 ho4 hg4 => hK _ _ ?_))); have HO4 := Lib.hid ho4; have HG4 := Lib.hid hg4; clear ho4 hg4)
      have HB4 : Hid (Below w.heap.size w w4) := (HBw5.out.alloc HBw5.out.size _).grown HG4.out (by have := HBw5.out.size; simp; omega) (fun k hk => (HO.out.row.lt k hk).1)
      have HF4 : Hid (L.take i ++ [r] = L.take (i + 1)) := by show _ = _; rw [List.take_succ_eq_append_getElem hiL, HRr.out]
      rw [HF4.out] at HO4
      go_roundw
      case rel => exact ⟨i + 1, ad4, c4, _, by first | rfl | go_num, rfl, by omega, (by show _ = _; rw [List.length_append, HXl.out]; rfl : Hid ((xs ++ [_]).length = i + 1)), HO4, HB4⟩
      case measure => simp [intOf]; omega
    · have hin' : i = n := by omega
      have HF : Hid (L.take i = L) := by show _ = _; rw [hin']; exact List.take_of_length_le (by have := HN.out; omega)
      subst hin'
      go_wp2_with fail
      go_ret
      refine ⟨ad, c, rfl, ?_, HB.out⟩
      have := HO.out.freshRds
      rw [HF.out] at this
      exact this
def zR : List Value := [.int .i64 0, .string ⟨#[]⟩, .int .i64 0, .slice none 0 0]
theorem run_clear_rule (w : World) (ty : TypeId) (b o c : Nat) (hc : ∀ j, j < 4 → (w.cell? ⟨b, o + j, none⟩).isSome = true) (hf : ∀ j, j < 4 → w.frozen? ⟨b, o + j, none⟩ = false) :
    (Builtin.clear_ #[36] ty #[.slice (some ⟨b, o, none⟩) 1 c]).run Tryz.prog w = .ok (.tuple #[]) (w.setCells b o zR) := by
  have hst := run_storeCells_cells (P := Tryz.prog) b o zR 0 w (by simpa [zR] using hc) (by simpa [zR] using hf) (by intro v hv; simp [zR] at hv; rcases hv with rfl | rfl | rfl | rfl <;> rfl)
  simp only [Nat.add_zero] at hst
  have hz : (Builtin.zeroCells (Value.agg #[.int .i64 0, .string ⟨#[]⟩, .int .i64 0, .slice none 0 0]).cells 1).toList = zR := by first | kernel_rfl | simp [Builtin.zeroCells, zR]
  simp [Builtin.clear_, run_underlying Tryz.underlying36, Tryz.zeroValue47, hz, hst]
theorem but_setCells {S : Nat → Prop} (b : Nat) (hb : S b) : ∀ (vs : List Value) (o : Nat) (w : World), But S w (w.setCells b o vs)
  | [], _, w => But.refl S w
  | v :: r, o, w => (But.set (S := S) (a := ⟨b, o, none⟩) hb v).trans (but_setCells b hb r (o + 1) _)
theorem but_drew (S : Nat → Prop) (w : World) : But S w w.drew := ⟨rfl, rfl, rfl, Nat.le_refl _, fun _ _ _ => rfl⟩
set_option maxHeartbeats 1600000 in
set_option maxRecDepth 20000 in
theorem delete_cells (g n cap i j : Nat) (cs : List Value) (w : World) (hlen : cs.length = n * 4) (hone : ∀ u ∈ cs, u.oneCell' = true) (hcell : ∀ t, t < n * 4 → w.cell? ⟨g, t, none⟩ = cs[t]?) (hfrz : ∀ t, w.frozen? ⟨g, t, none⟩ = false) (hcap : n ≤ cap) (hm : cap ≤ 9223372036854775807) (hij : j = i + 1) (hj : j ≤ n) :
    Calls Tryz.prog 98 #[.slice (some ⟨g, 0, none⟩) n cap, .int .i64 i, .int .i64 j] w fun e w' => e = .returned (.slice (some ⟨g, 0, none⟩) (n - 1) cap) ∧ w' = (w.drew.setCells g (i * 4) (cs.drop (j * 4))).setCells g ((n - 1) * 4) zR := by
  have mixed : Tryz.prog.follows .mixedOrders = true := rowProg.mixed
  obtain ⟨i0, hi0, hz0, hz1, hz2⟩ := info_parts infoR
  obtain ⟨news, hnews⟩ : ∃ news, news = cs.drop (j * 4) := ⟨_, rfl⟩
  have hnl : news.length = (n - j) * 4 := by rw [hnews, List.length_drop, hlen]; omega
  obtain ⟨A, hA, hsrc⟩ : ∃ A : Addr, (if cap = j then some (⟨g, 0, none⟩ : Addr) else some ⟨g, j * 4, none⟩) = some A ∧ Hid (∀ t u, news[t]? = some u → w.drew.cell? (A.add t) = some u) := by
    by_cases h : cap = j
    · refine ⟨⟨g, 0, none⟩, by simp [h], fun t u hu => ?_⟩
      have h0 : news.length = 0 := by rw [hnl]; omega
      rw [List.length_eq_zero_iff.1 h0] at hu
      simp at hu
    · refine ⟨⟨g, j * 4, none⟩, by simp [h], fun t u hu => ?_⟩
      have ht : t < (n - j) * 4 := by
        have := (List.getElem?_eq_some_iff.1 hu).1
        rwa [hnl] at this
      rw [hnews, List.getElem?_drop] at hu
      rw [Addr.add_lit]
      exact (hcell (j * 4 + t) (by omega)).trans hu
  have s1 : Hid (news.length = (n - j) * 4) := hnl
  have s2 : Hid (∀ u ∈ news, u.oneCell' = true) := fun u hu => hone u (by rw [hnews] at hu; exact List.mem_of_mem_drop hu)
  have s3 : Hid (∀ t, t < news.length → (w.drew.cell? ⟨g, 0 + i * 4 + t, none⟩).isSome = true ∧ w.drew.frozen? ⟨g, 0 + i * 4 + t, none⟩ = false) := by
    intro t ht
    rw [hnl] at ht
    refine ⟨?_, hfrz _⟩
    show (w.cell? _).isSome = true
    rw [Nat.zero_add, hcell (i * 4 + t) (by omega), List.getElem?_eq_getElem (by omega)]
    rfl
  obtain ⟨W1, hW1⟩ : ∃ W1, W1 = w.drew.setCells g (i * 4) news := ⟨_, rfl⟩
  have hW : Hid (W1 = w.drew.setCells g (0 + i * 4) news) := by show _ = _; rw [hW1, Nat.zero_add]
  have X : Hid (W1 = w.drew.setCells g (i * 4) (cs.drop (j * 4))) := by show _ = _; rw [hW1, hnews]
  have hcl : ∀ ty c, (Builtin.clear_ #[36] ty #[.slice (some ⟨g, (n - 1) * 4, none⟩) (n - (n - 1)) c]).run Tryz.prog W1 = .ok (.tuple #[]) (W1.setCells g ((n - 1) * 4) zR) := fun ty c => by
    rw [show n - (n - 1) = 1 by omega]
    exact run_clear_rule W1 ty g _ c (fun t ht => by
      rw [hW1]
      refine World.isSome_setCells g _ _ _ _ ?_
      show (w.cell? _).isSome = true
      rw [hcell _ (by omega), List.getElem?_eq_getElem (by omega)]
      rfl) (fun t ht => by rw [hW1, World.frozen?_setCells]; exact hfrz _)
  have hij' := Lib.hid hij
  have hle : i ≤ j := by omega
  have hic : i ≤ cap := by omega
  have hin : i ≤ n := by omega
  have hjc : j ≤ cap := by omega
  have hn1 : Hid (i + (n - j) = n - 1) := by show _ = _; omega
  have hn2 : Hid (n - (n - 1) = 1) := by show _ = _; omega
  have hcn : ¬ cap = n - 1 := by omega
  have hni : ¬ n = i := by omega
  have hne : ((i : Int) == (j : Int)) = false := by simp; omega
  clear hW1 hcell hfrz hnews hnl hlen hone hij
  go_enter Tryz.func98, Tryz.ntmps98
  go_wp2_with fail
  go_region_law_o (refine step_append_room rfl (.tmp 22) (.tmp 25) 36 rfl 47 i0 4 Tryz.underlying36 hi0 hz1 g 0 i cap (by simp [Act.eval, Act.put]) A (n - j) (cap - j) news (by simp [Act.eval, Act.put]) s1.out hsrc.out s2.out (by omega) s3.out ?_; rw [← hW.out])
  rw [hn1.out]
  go_wp2_with fail
  go_ret
  exact ⟨rfl, by rw [X.out]⟩
/-- The row behind its cells. -/
theorem rdsR_ofCells {ok : Nat → Prop} {w : World} {g cap : Nat} {xs : List RC} {L : List Rl} (hg : g < w.heap.size) (hok : ok g) (hlen : xs.length = L.length) (hcap : L.length ≤ cap) (hm : cap ≤ maxLen) (hc : ∀ t, t < L.length * 4 → w.cell? ⟨g, t, none⟩ = (cellsR xs)[t]?) (hr : ∀ i (h : i < xs.length) (h' : i < L.length), RdC ok w xs[i] L[i]) : RdsR ok w (.slice (some ⟨g, 0, none⟩) L.length cap) L := by
  refine ⟨xs, some ⟨g, 0, none⟩, L.length, cap, rfl, rfl, hlen, ⟨hcap, fun e => by cases e⟩, hm, okV_some hok, ?_, hr⟩
  intro i hi
  obtain ⟨g0, g1, g2, g3⟩ := cellsR_get xs i hi
  have hi' : i < L.length := by rw [← hlen]; exact hi
  refine ⟨g, 0, rfl, hg, ?_, ?_, ?_, ?_⟩
  · rw [Nat.zero_add, hc _ (by omega)]; exact g0
  · rw [Nat.zero_add, hc _ (by omega)]; exact g1
  · rw [Nat.zero_add, hc _ (by omega)]; exact g2
  · rw [Nat.zero_add, hc _ (by omega)]; exact g3
theorem OwnR.caps {ok : Nat → Prop} {w : World} {base g n cap : Nat} {xs : List RC} {L : List Rl} (h : OwnR ok w base (.slice (some ⟨g, 0, none⟩) n cap) xs L) : n = L.length ∧ n ≤ cap ∧ cap ≤ maxLen := by
  obtain ⟨⟨h1, h2⟩, h3, h4⟩ := h
  rcases h2 with ⟨h2, _⟩ | ⟨g', cap', cur, hv, _, _, hn, hc, _⟩
  · cases h2
  · injection hv with _ e2 e3; subst e2 e3; exact ⟨rfl, hn, hc⟩
/-- slices.Delete of the rule at i, out of a row of the call's own. -/
theorem delete_rule {ok : Nat → Prop} {w : World} {base g cap n : Nat} {xs : List RC} {L : List Rl} (h : OwnR ok w base (.slice (some ⟨g, 0, none⟩) n cap) xs L) (hok : ∀ b, ok b → b ≠ g) (i j : Nat) (hij : j = i + 1) (hi : i < n) :
    Calls Tryz.prog 98 #[.slice (some ⟨g, 0, none⟩) n cap, .int .i64 i, .int .i64 j] w fun e w' => e = .returned (.slice (some ⟨g, 0, none⟩) (n - 1) cap) ∧ RdsR (fun b => b = g ∨ ok b) w' (.slice (some ⟨g, 0, none⟩) (n - 1) cap) (L.take i ++ L.drop j) ∧ But (fun b => b = g) w w' := by
  obtain ⟨hn, hcap, hm⟩ := h.caps
  have hxn : xs.length = n := by rw [hn]; exact h.len
  have hlt := (h.row.lt g rfl).2
  have hcell : ∀ t, t < n * 4 → w.cell? ⟨g, t, none⟩ = (cellsR xs)[t]? := fun t ht => by subst hn; exact h.row.cellAt t ht
  have hd := delete_cells g n cap i j (cellsR xs) w (by rw [cellsR_length, hxn]) (cellsR_one _) hcell (fun t => by subst hn; exact h.row.frozenAt t) hcap (by unfold maxLen at hm; omega) hij (by omega)
  refine hd.mono ?_
  rintro e w' ⟨rfl, rfl⟩
  have hbut : But (fun b => b = g) w ((w.drew.setCells g (i * 4) ((cellsR xs).drop (j * 4))).setCells g ((n - 1) * 4) zR) := ((but_drew (fun b => b = g) w).trans (but_setCells (S := fun b => b = g) g rfl _ _ _)).trans (but_setCells (S := fun b => b = g) g rfl _ _ _)
  refine ⟨rfl, ?_, hbut⟩
  have hl1 : (L.take i ++ L.drop j).length = n - 1 := by simp; omega
  have hl2 : (xs.take i ++ xs.drop j).length = (L.take i ++ L.drop j).length := by simp [h.len]
  have hcs : cellsR (xs.take i ++ xs.drop j) = (cellsR xs).take (i * 4) ++ (cellsR xs).drop (j * 4) := by rw [cellsR_append, cellsR_take, cellsR_drop]
  have hdl : ((cellsR xs).drop (j * 4)).length = (n - j) * 4 := by rw [List.length_drop, cellsR_length, hxn]; omega
  have htl : ((cellsR xs).take (i * 4)).length = i * 4 := by rw [List.length_take, cellsR_length, hxn]; omega
  have := rdsR_ofCells (ok := fun b => b = g ∨ ok b) (w := (w.drew.setCells g (i * 4) ((cellsR xs).drop (j * 4))).setCells g ((n - 1) * 4) zR) (g := g) (cap := cap) (xs := xs.take i ++ xs.drop j) (L := L.take i ++ L.drop j) (Nat.lt_of_lt_of_le hlt hbut.size) (.inl rfl) hl2 (by rw [hl1]; omega) hm ?_ ?_
  · rw [hl1] at this; exact this
  · intro t ht
    rw [hl1] at ht
    rw [World.cell?_setCells_out g _ _ _ _ (fun _ _ => .inl ht), hcs]
    by_cases h1 : t < i * 4
    · rw [World.cell?_setCells_out g _ _ _ _ (fun _ _ => .inl h1), List.getElem?_append_left (by rw [htl]; exact h1), List.getElem?_take, if_pos h1]
      exact hcell t (by omega)
    · obtain ⟨k, rfl⟩ : ∃ k, t = i * 4 + k := ⟨t - i * 4, by omega⟩
      have hk : k < ((cellsR xs).drop (j * 4)).length := by rw [hdl]; omega
      rw [World.cell?_setCells_in g _ _ _ ?_ k hk, List.getElem?_append_right (by rw [htl]; omega), htl, show i * 4 + k - i * 4 = k by omega, List.getElem?_eq_getElem hk]
      intro q hq
      show (w.cell? _).isSome = true
      rw [hcell _ (by omega), List.getElem?_eq_getElem (by rw [cellsR_length, hxn]; omega)]
      rfl
  · intro q h1 h2
    have key : ∀ {x : RC} {r : Rl}, RdC ok w x r → RdC (fun b => b = g ∨ ok b) ((w.drew.setCells g (i * 4) ((cellsR xs).drop (j * 4))).setCells g ((n - 1) * 4) zR) x r := fun hx => (hx.but hbut hok).mono fun b hb => .inr hb
    have hil : i ≤ L.length := by omega
    by_cases hq : q < i
    · rw [List.getElem_append_left (by rw [List.length_take, hxn]; omega), List.getElem_append_left (by rw [List.length_take]; omega), List.getElem_take, List.getElem_take]
      exact key (h.rd q (by omega) (by omega))
    · have e1 : (xs.take i).length = i := by rw [List.length_take, hxn]; omega
      have e2 : (L.take i).length = i := by rw [List.length_take]; omega
      rw [List.getElem_append_right (by rw [e1]; omega), List.getElem_append_right (by rw [e2]; omega), List.getElem_drop, List.getElem_drop]
      simp only [e1, e2]
      exact key (h.rd _ (by simp at h1; omega) (by simp at h2; omega))
namespace Fb
/-- The rules behind a change that may be. -/
def aft (L : List Rl) (kind : Int) (r : Rl) : List Rl :=
  if kind = 1 then St.isort Rp.aheadR (L ++ [r])
  else if kind = 2 then L.take (keyI L r.p r.m).toNat ++ L.drop ((keyI L r.p r.m).toNat + 1)
  else L.set (keyI L r.p r.m).toNat r
end Fb
theorem one_rdsR {ok : Nat → Prop} {W : World} {g : Nat} {x : RC} {r : Rl} {e : TypeId} (h : W.heap[g]? = some (.cells #[.int .i64 x.p, .string x.m, .int .i64 x.k, .slice x.a x.n x.c] e (0, 0))) (hx : RdC ok W x r) (hg : ok g) : RdsR ok W (.slice (some ⟨g, 0, none⟩) 1 1) [r] := by
  have hlt : g < W.heap.size := by
    rcases Nat.lt_or_ge g W.heap.size with h' | h'
    · exact h'
    · rw [Array.getElem?_eq_none h'] at h; cases h
  refine ⟨[x], some ⟨g, 0, none⟩, 1, 1, rfl, rfl, rfl, ⟨Nat.le_refl _, fun e => by cases e⟩, by unfold maxLen; omega, okV_some hg, ?_, ?_⟩
  · intro i hi
    obtain rfl : i = 0 := by simpa using hi
    exact ⟨g, 0, rfl, hlt, by simp [World.cell?, h], by simp [World.cell?, h], by simp [World.cell?, h], by simp [World.cell?, h]⟩
  · intro i h1 h2
    obtain rfl : i = 0 := by simpa using h1
    exact hx
/-- copied of a row of one rule. -/
theorem copied_one (x : RC) (r : Rl) (ok : Nat → Prop) (w W2 : World) (kind : Int) (hx : RdC ok w x r) (hW2 : W2 = ((w.alloc (.cells #[.int .i64 kind, .int .i64 x.p, .string x.m, .int .i64 x.k, .slice x.a x.n x.c] 49)).alloc (.cells #[.int .i64 0, .int .i64 0, .string ⟨#[]⟩, .int .i64 0, .slice none 0 0] 49)).alloc (.cells #[.int .i64 x.p, .string x.m, .int .i64 x.k, .slice x.a x.n x.c] 47)) :
    Calls Tryz.prog 29 #[.slice (some ⟨w.heap.size + 1 + 1, 0, none⟩) 1 1] W2 fun e w' => ∃ b off y c, e = .returned (.slice (some ⟨b, off, none⟩) 1 c) ∧ b < w'.heap.size ∧ w'.cell? ⟨b, off, none⟩ = some (.int .i64 y.p) ∧ w'.cell? ⟨b, off + 1, none⟩ = some (.string y.m) ∧ w'.cell? ⟨b, off + 2, none⟩ = some (.int .i64 y.k) ∧ w'.cell? ⟨b, off + 3, none⟩ = some (.slice y.a y.n y.c) ∧
      RdC (fun b => w.heap.size + 3 ≤ b) w' y r ∧ Below w.heap.size w w' ∧ w'.heap[w.heap.size]? = some (.cells #[.int .i64 kind, .int .i64 x.p, .string x.m, .int .i64 x.k, .slice x.a x.n x.c] 49 (0, 0)) ∧ w'.heap[w.heap.size + 1]? = some (.cells #[.int .i64 0, .int .i64 0, .string ⟨#[]⟩, .int .i64 0, .slice none 0 0] 49 (0, 0)) ∧ w.heap.size + 3 ≤ w'.heap.size := by
  have hg : Grn w W2 := by rw [hW2]; exact (((Grn.refl w).alloc _).alloc _).alloc _
  have hsz : W2.heap.size = w.heap.size + 3 := by rw [hW2]; simp
  have h0 : W2.heap[w.heap.size]? = some (.cells #[.int .i64 kind, .int .i64 x.p, .string x.m, .int .i64 x.k, .slice x.a x.n x.c] 49 (0, 0)) := by
    rw [hW2]; simp only [al_heap, Array.getElem?_push, Array.size_push]; simp <;> omega
  have h1 : W2.heap[w.heap.size + 1]? = some (.cells #[.int .i64 0, .int .i64 0, .string ⟨#[]⟩, .int .i64 0, .slice none 0 0] 49 (0, 0)) := by
    rw [hW2]; simp only [al_heap, Array.getElem?_push, Array.size_push]; simp <;> omega
  have h2 : W2.heap[w.heap.size + 1 + 1]? = some (.cells #[.int .i64 x.p, .string x.m, .int .i64 x.k, .slice x.a x.n x.c] 47 (0, 0)) := by
    rw [hW2]; simp only [al_heap, Array.getElem?_push, Array.size_push]; simp
  refine (copied_any (fun _ => True) _ [r] W2 (one_rdsR h2 ((hx.below hg.below).mono fun _ _ => trivial) trivial) (by simp)).mono ?_
  rintro e w' ⟨ad, c, rfl, hr, hb⟩
  obtain ⟨b, off, y, rfl, hb1, _, y0, y1, y2, y3, hy⟩ := RdsR.get hr 0 (by simp)
  refine ⟨b, off, y, c, rfl, hb1, by simpa using y0, by simpa using y1, by simpa using y2, by simpa using y3, ?_, hg.below.trans (hb.mono (by omega)), ?_, ?_, ?_⟩
  · rw [hsz] at hy; exact hy
  · rw [hb.block _ (by omega)]; exact h0
  · rw [hb.block _ (by omega)]; exact h1
  · have := hb.size; omega
theorem res_change (w : World) (b : Nat) (tmps : Array Value) (k p k2 : Int) (m : ByteArray) (a : Option Addr) (n c : Nat) (h4 : tmps.getD 4 undef = .pointer (some ⟨b, 0, none⟩)) (h0 : w.cell? ⟨b, 0, none⟩ = some (.int .i64 k)) (h1 : w.cell? ⟨b, 1, none⟩ = some (.int .i64 p)) (h2 : w.cell? ⟨b, 2, none⟩ = some (.string m)) (h3 : w.cell? ⟨b, 3, none⟩ = some (.int .i64 k2)) (h5 : w.cell? ⟨b, 4, none⟩ = some (.slice a n c)) :
    (results Tryz.f62 tmps).run Tryz.prog w = .ok (.agg #[.int .i64 k, .int .i64 p, .string m, .int .i64 k2, .slice a n c]) w := by
  rw [Array.getD_eq_getD_getElem?] at h4
  simp [results, h4, loadVar, asAddr, go_sem, Tryz.isAgg49, Tryz.sizeOf49, h0, h1, h2, h3, h5]
/-- The end of do: the table's cell is written, then the change that is handed back. -/
theorem do_end {ok ok9 : Nat → Prop} {tb : Nat} {w W9 : World} {v' : Value} {L L' : List Rl} (htb : tb < w.heap.size) (hs : w.heap.size + 1 < W9.heap.size) (hb9 : But (fun b => b = tb ∨ w.heap.size ≤ b) w W9) (ht9 : W9.cell? ⟨tb, 0, none⟩ = some v') (hf9 : W9.frozen? ⟨tb, 0, none⟩ = false) (hok : ∀ b, ok9 b → b ≠ w.heap.size + 1 ∧ (ok b ∨ w.heap.size ≤ b)) (hr : RdsR ok9 W9 v' L) (hL : L' = L) (k : Int) (u : RC) (c0 c1 c2 c3 c4 : Value) :
    ∃ (k' : Int) (y : RC) (v' : Value), Ending.returned (.agg #[.int .i64 k, .int .i64 u.p, .string u.m, .int .i64 u.k, .slice u.a u.n u.c]) = Ending.returned (.agg #[.int .i64 k', .int .i64 y.p, .string y.m, .int .i64 y.k, .slice y.a y.n y.c]) ∧
      (((((W9.setCell ⟨w.heap.size + 1, 0, none⟩ c0).setCell ⟨w.heap.size + 1, 1, none⟩ c1).setCell ⟨w.heap.size + 1, 2, none⟩ c2).setCell ⟨w.heap.size + 1, 3, none⟩ c3).setCell ⟨w.heap.size + 1, 4, none⟩ c4).cell? ⟨tb, 0, none⟩ = some v' ∧
      (((((W9.setCell ⟨w.heap.size + 1, 0, none⟩ c0).setCell ⟨w.heap.size + 1, 1, none⟩ c1).setCell ⟨w.heap.size + 1, 2, none⟩ c2).setCell ⟨w.heap.size + 1, 3, none⟩ c3).setCell ⟨w.heap.size + 1, 4, none⟩ c4).frozen? ⟨tb, 0, none⟩ = false ∧
      RdsR (fun b => ok b ∨ w.heap.size ≤ b) (((((W9.setCell ⟨w.heap.size + 1, 0, none⟩ c0).setCell ⟨w.heap.size + 1, 1, none⟩ c1).setCell ⟨w.heap.size + 1, 2, none⟩ c2).setCell ⟨w.heap.size + 1, 3, none⟩ c3).setCell ⟨w.heap.size + 1, 4, none⟩ c4) v' L' ∧
      But (fun b => b = tb) w (((((W9.setCell ⟨w.heap.size + 1, 0, none⟩ c0).setCell ⟨w.heap.size + 1, 1, none⟩ c1).setCell ⟨w.heap.size + 1, 2, none⟩ c2).setCell ⟨w.heap.size + 1, 3, none⟩ c3).setCell ⟨w.heap.size + 1, 4, none⟩ c4) := by
  subst hL
  have h0 : ∀ (W : World) (o : Nat) (c : Value), But (fun b => b = w.heap.size + 1) W (W.setCell ⟨w.heap.size + 1, o, none⟩ c) := fun W o c => But.set (S := fun b => b = w.heap.size + 1) (a := ⟨w.heap.size + 1, o, none⟩) rfl c
  have hb := ((((h0 W9 0 c0).trans (h0 _ 1 c1)).trans (h0 _ 2 c2)).trans (h0 _ 3 c3)).trans (h0 _ 4 c4)
  have hs9 := hb9.size
  refine ⟨k, u, v', rfl, (hb.cell (p := ⟨tb, 0, none⟩) (by show tb < _; omega) (by show ¬ tb = _; omega)).trans ht9, ?_, (hr.but hb (fun b h => (hok b h).1)).mono fun b h => (hok b h).2, ?_⟩
  · rw [hb.frozen (p := ⟨tb, 0, none⟩) (by show tb < _; omega) (by show ¬ tb = _; omega)]
    exact hf9
  · have h1 : But (fun b => b = tb ∨ w.heap.size ≤ b) w _ := hb9.trans (hb.mono fun b h => .inr (by omega))
    exact ⟨h1.os, h1.tape, h1.output, h1.size, fun k hk hn => h1.block k hk (fun h => h.elim hn (fun h => by omega))⟩
set_option maxHeartbeats 1600000 in
set_option maxRecDepth 20000 in
theorem do2_any (ok ok2 : Nat → Prop) (tb : Nat) (v : Value) (L : List Rl) (x : RC) (r : Rl) (w : World) (hr : RdsR ok w v L) (ht : w.cell? ⟨tb, 0, none⟩ = some v) (hf : w.frozen? ⟨tb, 0, none⟩ = false) (htok : ∀ b, ok b → b ≠ tb) (hx : RdC ok2 w x r) (hL : L.length ≤ 4096) (hk : 0 ≤ Fb.keyI L r.p r.m) :
    Calls Tryz.prog 62 #[.pointer (some ⟨tb, 0, none⟩), .agg #[.int .i64 2, .int .i64 x.p, .string x.m, .int .i64 x.k, .slice x.a x.n x.c]] w fun e w' => ∃ (k' : Int) (y : RC) (v' : Value), e = .returned (.agg #[.int .i64 k', .int .i64 y.p, .string y.m, .int .i64 y.k, .slice y.a y.n y.c]) ∧
      w'.cell? ⟨tb, 0, none⟩ = some v' ∧ w'.frozen? ⟨tb, 0, none⟩ = false ∧ RdsR (fun b => ok b ∨ w.heap.size ≤ b) w' v' (Fb.aft L 2 r) ∧ But (fun b => b = tb) w w' := by
  have htb : tb < w.heap.size := cell_lt ht
  obtain ⟨W2, hW2⟩ : ∃ W2, W2 = ((w.alloc (.cells #[.int .i64 2, .int .i64 x.p, .string x.m, .int .i64 x.k, .slice x.a x.n x.c] 49)).alloc (.cells #[.int .i64 0, .int .i64 0, .string ⟨#[]⟩, .int .i64 0, .slice none 0 0] 49)).alloc (.cells #[.int .i64 x.p, .string x.m, .int .i64 x.k, .slice x.a x.n x.c] 47) := ⟨_, rfl⟩
  have hco := copied_one x r ok2 w W2 2 hx hW2
  rw [hW2] at hco
  have HCo := Lib.hid hco
  obtain ⟨z, hz⟩ : ∃ z, Fb.keyI L r.p r.m = z := ⟨_, rfl⟩
  have HZ := Lib.hid hz
  have HIs := Lib.hid (Fb.keyI_is L r.p r.m)
  rw [hz] at HIs hk
  have HR := Lib.hid hr.lt
  have HT := Lib.hid ht
  have HF := Lib.hid hf
  have HTo := Lib.hid htok
  clear hco hx ht hf hz hW2 htok
  obtain ⟨i, hi, hzi, _, _⟩ : ∃ i, ∃ h : i < L.length, z = (i : Int) ∧ Fb.keyB r.p r.m L[i] = true ∧ ∀ j (h : j < L.length), j < i → Fb.keyB r.p r.m L[j] = false := by
    rcases HIs.out.is with ⟨h1, _⟩ | h
    · omega
    · exact h
  subst hzi
  obtain ⟨ad1, cc, rfl, hvc, _⟩ := hr.form
  obtain ⟨bl, ol, u, rfl, hbl, _, u0, u1, u2, u3, _⟩ := hr.get i hi
  obtain ⟨n, hn⟩ : ∃ n, n = L.length := ⟨_, rfl⟩
  rw [← hn] at HR HT hi hL hvc
  have HN := Lib.hid hn
  have HU : Hid (w.cell? ⟨bl, ol + i * 4, none⟩ = some (.int .i64 u.p) ∧ w.cell? ⟨bl, ol + i * 4 + 1, none⟩ = some (.string u.m) ∧ w.cell? ⟨bl, ol + i * 4 + 2, none⟩ = some (.int .i64 u.k) ∧ w.cell? ⟨bl, ol + i * 4 + 3, none⟩ = some (.slice u.a u.n u.c)) := ⟨u0, u1, u2, u3⟩
  clear hr hn u0 u1 u2 u3
  go_enter Tryz.func62, Tryz.ntmps62
  go_wp2_with fail
  refine HCo.out.mono ?_
  rintro e w3 ⟨b, off, y, c, rfl, hb, y0, y1, y2, y3, hy, hb3, g0, g1, hs3⟩
  have c0 : w3.cell? ⟨w.heap.size, 0, none⟩ = some (.int .i64 2) := by simp [World.cell?, g0]
  have HG1 := Lib.hid g1
  have HB3 := Lib.hid hb3
  have HFi := Lib.hid (find_any (fun b => ok b ∧ b < w.heap.size) tb _ L y (w3.alloc (.cells #[.int .i64 y.p, .string y.m, .int .i64 y.k, .slice y.a y.n y.c] 47)) (HR.out.below (hb3.alloc hb3.size _)) (((hb3.alloc hb3.size _).cell (p := ⟨tb, 0, none⟩) htb).trans HT.out) (i : Int) (by skip; rw [hy.p, hy.m]; exact HIs.out))
  have HY := Lib.hid hy
  clear hy hb3 g0 g1
  go_wp2_with fail
  refine HFi.out.mono ?_
  rintro e w5 ⟨rfl, hg5⟩
  have hb35 : Below w3.heap.size w3 w5 := ((Below.refl w3.heap.size w3).alloc (Nat.le_refl _) _).trans (hg5.below.mono (by simp))
  have hb5 : Below w.heap.size w w5 := HB3.out.trans (hb35.mono HB3.out.size)
  have HB5 := Lib.hid hb5
  have d0 := (hb35.cell (p := ⟨w.heap.size, 0, none⟩) (cell_lt c0)).trans c0
  have t5 := (hb5.cell (p := ⟨tb, 0, none⟩) htb).trans HT.out
  have u0 := (hb5.cell (p := ⟨bl, ol + i * 4, none⟩) hbl).trans HU.out.1
  have u1 := (hb5.cell (p := ⟨bl, ol + i * 4 + 1, none⟩) hbl).trans HU.out.2.1
  have u2 := (hb5.cell (p := ⟨bl, ol + i * 4 + 2, none⟩) hbl).trans HU.out.2.2.1
  have u3 := (hb5.cell (p := ⟨bl, ol + i * 4 + 3, none⟩) hbl).trans HU.out.2.2.2
  have HH5 : Hid (w5.heap[w.heap.size + 1]? = some (.cells #[.int .i64 0, .int .i64 0, .string ⟨#[]⟩, .int .i64 0, .slice none 0 0] 49 (0, 0))) := (hb35.block _ (by omega)).trans HG1.out
  obtain ⟨W6, hW6⟩ : ∃ W6, W6 = w5.alloc (.cells #[.int .i64 u.p, .string u.m, .int .i64 u.k, .slice u.a u.n u.c] 47) := ⟨_, rfl⟩
  have hb56 : Below w5.heap.size w5 W6 := by rw [hW6]; exact (Below.refl _ _).alloc (Nat.le_refl _) _
  have hs6 : W6.heap.size = w5.heap.size + 1 := by rw [hW6]; simp
  have HB6 : Hid (Below w.heap.size w W6) := hb5.trans (hb56.mono hb5.size)
  have t6 := (HB6.out.cell (p := ⟨tb, 0, none⟩) htb).trans HT.out
  have HH6 : Hid (W6.heap[w.heap.size + 1]? = some (.cells #[.int .i64 0, .int .i64 0, .string ⟨#[]⟩, .int .i64 0, .slice none 0 0] 49 (0, 0))) := (hb56.block _ (by have := hb35.size; omega)).trans HH5.out
  have HU6 : Hid (W6.heap[w5.heap.size]? = some (.cells #[.int .i64 u.p, .string u.m, .int .i64 u.k, .slice u.a u.n u.c] 47 (0, 0))) := by rw [hW6]; exact heap_alloc_new _ _
  have HW6 := Lib.hid hW6
  have hs35 := hb35.size
  have HCl := Lib.hid (cloneR_any _ _ L W6 (HR.out.below HB6.out) (by have := HN.out; omega))
  rw [← HN.out] at HCl
  clear hb35 hb5 hb56 hg5 y0 y1 y2 y3 c0 hW6
  go_upto_region 9 with fail
  rw [← HW6.out]
  clear u0 u1 u2 u3 t5 HW6
  go_wp2_with fail
  refine HCl.out.mono ?_
  rintro e w7 ⟨ad7, c7, xs, rfl, hown, hb7⟩
  have hrow := hown.row
  rw [← HN.out] at hrow
  obtain ⟨g, cp, hgv, hg1, hg2⟩ := hrow.form (by omega)
  injection hgv with e1 e2 e3
  subst e1 e3
  have hb67 : Below w.heap.size w w7 := HB6.out.trans (hb7.mono HB6.out.size)
  have HB7 := Lib.hid hb67
  have hde := delete_rule hown (fun b hb e => by have := hb.2; omega) i (i + 1) rfl hi
  rw [show ((i + 1 : Nat) : Int) = (i : Int) + 1 by omega] at hde
  have HDe := Lib.hid hde
  have t7 := (hb67.cell (p := ⟨tb, 0, none⟩) htb).trans HT.out
  have HH7 : Hid (w7.heap[w.heap.size + 1]? = some (.cells #[.int .i64 0, .int .i64 0, .string ⟨#[]⟩, .int .i64 0, .slice none 0 0] 49 (0, 0))) := (hb7.block _ (by have := HB5.out.size; omega)).trans HH6.out
  have HU7 : Hid (w7.heap[w5.heap.size]? = some (.cells #[.int .i64 u.p, .string u.m, .int .i64 u.k, .slice u.a u.n u.c] 47 (0, 0))) := (hb7.block _ (by omega)).trans HU6.out
  have hs67 := hb7.size
  have hs5 := HB5.out.size
  clear hown hrow hde hb67 hb7 e2 t6
  go_wp2_with fail
  refine HDe.out.mono ?_
  rintro e w8 ⟨rfl, hr8, hbut8⟩
  have hbw8 : But (fun b => b = g) w w8 := (But.below HB7.out).trans hbut8
  have hne : ¬ tb = g := by omega
  have t8 := (hbw8.cell (p := ⟨tb, 0, none⟩) htb hne).trans HT.out
  have f8 := (hbw8.frozen (p := ⟨tb, 0, none⟩) htb hne).trans HF.out
  obtain ⟨W9, hW9⟩ : ∃ W9, W9 = w8.setCell ⟨tb, 0, none⟩ (.slice (some ⟨g, 0, none⟩) (n - 1) c7) := ⟨_, rfl⟩
  have HW9 := Lib.hid hW9
  have hu9 : W9.heap[w5.heap.size]? = some (.cells #[.int .i64 u.p, .string u.m, .int .i64 u.k, .slice u.a u.n u.c] 47 (0, 0)) := by
    rw [hW9, Below.heap_setCell w8 ⟨tb, 0, none⟩ _ _ (by show w5.heap.size ≠ tb; omega), hbut8.block _ (by omega) (by omega)]
    exact HU7.out
  have hh9 : W9.heap[w.heap.size + 1]? = some (.cells #[.int .i64 0, .int .i64 0, .string ⟨#[]⟩, .int .i64 0, .slice none 0 0] 49 (0, 0)) := by
    rw [hW9, Below.heap_setCell w8 ⟨tb, 0, none⟩ _ _ (by show w.heap.size + 1 ≠ tb; omega), hbut8.block _ (by omega) (by omega)]
    exact HH7.out
  have ht9 : W9.cell? ⟨tb, 0, none⟩ = some (.slice (some ⟨g, 0, none⟩) (n - 1) c7) := by rw [hW9]; exact cell_set_same _ t8
  have hbut9 : But (fun b => b = tb) w8 W9 := by rw [hW9]; exact But.set (S := fun b => b = tb) (a := ⟨tb, 0, none⟩) rfl _
  have hr9 := hr8.but hbut9 (fun b hb e => by
    rcases hb with h | h
    · omega
    · exact HTo.out b h.1.1 e)
  have HR9 := Lib.hid hr9
  have HBut9 := Lib.hid hbut9
  have HS8 : Hid (w.heap.size + 1 < w8.heap.size) := by have := hbut8.size; show _ < _; omega
  have HBw8 := Lib.hid hbw8
  have HT9 := Lib.hid ht9
  have HF9 : Hid (W9.frozen? ⟨tb, 0, none⟩ = false) := by show _ = _; rw [hW9]; first | exact f8 | (simp [go_sem]; exact f8)
  have HH9 := Lib.hid hh9
  have z0 : W9.cell? ⟨w5.heap.size, 0, none⟩ = some (.int .i64 u.p) := by simp [World.cell?, hu9]
  have z1 : W9.cell? ⟨w5.heap.size, 1, none⟩ = some (.string u.m) := by simp [World.cell?, hu9]
  have z2 : W9.cell? ⟨w5.heap.size, 2, none⟩ = some (.int .i64 u.k) := by simp [World.cell?, hu9]
  have z3 : W9.cell? ⟨w5.heap.size, 3, none⟩ = some (.slice u.a u.n u.c) := by simp [World.cell?, hu9]
  have r0 : W9.cell? ⟨w.heap.size + 1, 0, none⟩ = some (.int .i64 0) := by simp [World.cell?, hh9]
  have r1 : W9.cell? ⟨w.heap.size + 1, 1, none⟩ = some (.int .i64 0) := by simp [World.cell?, hh9]
  have r2 : W9.cell? ⟨w.heap.size + 1, 2, none⟩ = some (.string ⟨#[]⟩) := by simp [World.cell?, hh9]
  have r3 : W9.cell? ⟨w.heap.size + 1, 3, none⟩ = some (.int .i64 0) := by simp [World.cell?, hh9]
  have r4 : W9.cell? ⟨w.heap.size + 1, 4, none⟩ = some (.slice none 0 0) := by simp [World.cell?, hh9]
  have rf0 : W9.frozen? ⟨w.heap.size + 1, 0, none⟩ = false := by simp [World.frozen?, hh9]
  have rf1 : W9.frozen? ⟨w.heap.size + 1, 1, none⟩ = false := by simp [World.frozen?, hh9]
  have rf2 : W9.frozen? ⟨w.heap.size + 1, 2, none⟩ = false := by simp [World.frozen?, hh9]
  have rf3 : W9.frozen? ⟨w.heap.size + 1, 3, none⟩ = false := by simp [World.frozen?, hh9]
  have rf4 : W9.frozen? ⟨w.heap.size + 1, 4, none⟩ = false := by simp [World.frozen?, hh9]
  clear hr8 hbut8 hbw8 hW9 hu9 hh9 ht9 hbut9 hr9 t7
  go_upto_region 10 with fail
  rw [← HW9.out]
  clear t8 f8 HW9
  go_wp2_with fail
  have HL : Hid ((i : Int).toNat = i) := by show _ = _; simp
  refine bodyPost_ret (res_change _ (w.heap.size + 1) _ 1 u.p u.k u.m u.a u.n u.c rfl ?_ ?_ ?_ ?_ ?_) rfl ?_
  · simp [go_sem, r0]
  · simp [go_sem, r1]
  · simp [go_sem, r2]
  · simp [go_sem, r3]
  · simp [go_sem, r4]
  refine do_end htb (by have := HBut9.out.size; have := HBw8.out.size; have := HS8.out; omega) ((HBw8.out.mono fun b h => .inr (by omega)).trans (HBut9.out.mono fun b h => .inl h)) HT9.out HF9.out (fun b hb => ?_) HR9.out ?_ 1 u _ _ _ _ _
  · rcases hb with h | h
    · omega
    · have := h.1.2; exact ⟨by omega, .inl h.1.1⟩
  · unfold Fb.aft; rw [if_neg (by decide), if_pos rfl, HZ.out, HL.out]
end Go.Proofs.YtlamhpiiikcpiaaGreatDoor
