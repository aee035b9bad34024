/-
  Walks: the reference's Same, SameRules, SameRule where they are the same; Copy; at.
-/
import Derived.Test.YtlbelkjgaeaaeaaGreatRulI
import Derived.Test.YtlbelkjgaeaaeaaGreatCubeRD
namespace Go.Proofs.YtlbelkjgaeaaeaaGreat
open Go.RowKit Go.Shelf Go.Lib Go.Sort
set_option linter.unusedVariables false
set_option linter.unusedSectionVars false

theorem Grn.of_drew {w w' : World} (h : ∃ k, w' = w.drewN k) : Grn w w' := by
  obtain ⟨k, rfl⟩ := h
  exact (Grn.refl w).drewN k

set_option maxHeartbeats 800000 in
set_option maxRecDepth 20000 in
theorem same_same (k : Int) (a a2 : Option Addr) (n n2 c c2 : Nat) (ps : List ByteArray) (w : World) (h1 : RdsS w (.slice a n c) ps) (h2 : RdsS w (.slice a2 n2 c2) ps) :
    Calls Tryz.prog 26 #[.agg #[.int .i64 k, .slice a n c], .agg #[.int .i64 k, .slice a2 n2 c2]] w fun e w' => e = .returned (.bool true) ∧ Grn w w' := by
  obtain ⟨W2, hW2⟩ : ∃ W2, W2 = (w.alloc (.cells #[.int .i64 k, .slice a n c] 60)).alloc (.cells #[.int .i64 k, .slice a2 n2 c2] 60) := ⟨_, rfl⟩
  have HG : Hid (Grn w W2) := by rw [hW2]; exact ((Grn.refl w).alloc _).alloc _
  have HT := Lib.hid (Texts_same (h1.below HG.out.below) (h2.below HG.out.below))
  rw [hW2] at HT HG
  clear hW2 h1 h2
  go_enter Tryz.func26, Tryz.ntmps26
  go_wp2_with fail
  refine HT.out.mono ?_
  rintro e w1 ⟨rfl, hd⟩
  have HG1 : Hid (Grn w w1) := HG.out.trans (Grn.of_drew hd)
  clear hd
  go_wp2_with fail
  go_ret
  exact ⟨rfl, HG1.out⟩

theorem same_grown (k : Int) (a a2 : Option Addr) (n n2 c c2 : Nat) (ps : List ByteArray) (w : World) (h1 : RdsS w (.slice a n c) ps) (h2 : RdsS w (.slice a2 n2 c2) ps) :
    Calls Tryz.prog 26 #[.agg #[.int .i64 k, .slice a n c], .agg #[.int .i64 k, .slice a2 n2 c2]] w fun e w' => e = .returned (.bool true) ∧ ∃ n os, w' = grow (w.drewN n) os := same_same k a a2 n n2 c c2 ps w h1 h2

set_option maxHeartbeats 1600000 in
set_option maxRecDepth 20000 in
theorem sameRules_same (ok ok2 : Nat → Prop) (v1 v2 : Value) (L : List Rl) (w : World) (h1 : RdsR ok w v1 L) (h2 : RdsR ok2 w v2 L) :
    Calls Tryz.prog 10 #[v1, v2] w fun e w' => e = .returned (.bool true) ∧ Grn w w' := by
  have H1 := Lib.hid h1
  have H2 := Lib.hid h2
  obtain ⟨ad1, c1, rfl, hc1, hm1⟩ := h1.form
  obtain ⟨ad2, c2, rfl, hc2, hm2⟩ := h2.form
  obtain ⟨n, hn⟩ : ∃ n, n = L.length := ⟨_, rfl⟩
  rw [← hn] at H1 H2 hc1 hc2 ⊢
  have HN := Lib.hid hn
  unfold maxLen at hm1 hm2
  clear h1 h2 hn
  go_enter Tryz.func10, Tryz.ntmps10
  go_wp2_with fail
  go_loopw [5] (fun s5 wr => ∃ i : Nat, i ≤ n ∧ s5 = .int .i64 i ∧ Hid (Grn w wr)) (fun s5 _ => n - (intOf s5).toNat)
  case atStart => exact ⟨0, Nat.zero_le _, rfl, Grn.refl _⟩
  case round =>
    obtain ⟨wo, rfl⟩ : ∃ wo : World, wo = wr := ⟨wr, rfl⟩
    obtain ⟨i, hin, rfl, HG⟩ := hrel
    by_cases hlt : i < n
    · have hiL : i < L.length := by rw [← HN.out]; exact hlt
      obtain ⟨b, off, x, rfl, hb, _, x0, x1, x2, x3, hx⟩ := H1.out.get i hiL
      obtain ⟨b2, off2, y, rfl, hb2, _, y0, y1, y2, y3, hy⟩ := H2.out.get i hiL
      have X0 := cell_grn (p := ⟨b, off + i * 4, none⟩) HG.out.below hb x0
      have X1 := cell_grn (p := ⟨b, off + i * 4 + 1, none⟩) HG.out.below hb x1
      have X2 := cell_grn (p := ⟨b, off + i * 4 + 2, none⟩) HG.out.below hb x2
      have X3 := cell_grn (p := ⟨b, off + i * 4 + 2 + 1, none⟩) HG.out.below hb x3
      have Y0 := cell_grn (p := ⟨b2, off2 + i * 4, none⟩) HG.out.below hb2 y0
      have Y1 := cell_grn (p := ⟨b2, off2 + i * 4 + 1, none⟩) HG.out.below hb2 y1
      have Y2 := cell_grn (p := ⟨b2, off2 + i * 4 + 2, none⟩) HG.out.below hb2 y2
      have Y3 := cell_grn (p := ⟨b2, off2 + i * 4 + 2 + 1, none⟩) HG.out.below hb2 y3
      have hSm := fun nn os => same_grown L[i].k x.a y.a x.n y.n x.c y.c L[i].ps (grow (wo.drewN nn) os) ((hx.s.1.below HG.out.below).below (HG.out.grow nn os |> fun _ => (Grn.refl wo |>.grow nn os).below)) ((hy.s.1.below HG.out.below).below ((Grn.refl wo).grow nn os).below)
      have HSm := Lib.hid hSm
      rw [hx.p] at X0
      rw [hx.m] at X1
      rw [hx.k] at X2
      rw [hy.p] at Y0
      rw [hy.m] at Y1
      rw [hy.k] at Y2
      have e1 : (L[i].m.toList != L[i].m.toList) = false := by simp
      have e2 : (L[i].p != L[i].p) = false := by simp
      have mixed : Tryz.prog.follows .mixedOrders = true := by kernel_rfl
      clear x0 x1 x2 x3 y0 y1 y2 y3 hx hy hSm
      go_wp2_with fail
      go_quiet_grown (first | (go_at_call 26; refine Calls.grown_of (HSm.out _ _)))
      go_wp2_with fail
      go_roundw
      case rel => exact ⟨i + 1, by omega, by first | rfl | go_num, HG.out.grow _ _⟩
      case measure => simp [intOf]; omega
    · go_wp2_with fail
      go_ret
      exact ⟨rfl, HG.out⟩
end Go.Proofs.YtlbelkjgaeaaeaaGreat
