/-
  Walks: StoreRuns.
-/
import Derived.Test.YtlbelkjgaeaaeaaGreatSrG
import Derived.SizedLaws
import Derived.SliceStrings
import Derived.ProofKit
import Derived.Deep.Slices
import Derived.Deep.Strs
import Derived.Test.YtlbelkjgaeaaeaaGreatRul
import Derived.Test.YtlbelkjgaeaaeaaGreatSrA
import Derived.Test.YtlbelkjgaeaaeaaGreatSrC
import Derived.Lib.SmallJoins
namespace Go.Proofs.YtlbelkjgaeaaeaaGreat
open Go.RowKit Go.Shelf Go.Lib Go.Sort
set_option linter.unusedVariables false
set_option linter.unusedSectionVars false
set_option linter.unusedSimpArgs false

set_option maxHeartbeats 12800000 in
set_option maxRecDepth 20000 in
theorem StoreRuns_walk (W : Int) (sv : Value) (os : List Opx) (w : World) (hsv : RdsOps w sv os) : Calls Tryz.prog 3 #[.int .i64 W, sv] w fun e w' => e = .returned (.bool true) ∧ Below w.heap.size w w' := by
  obtain ⟨oa, n, oc, rfl, hn, hnm, hcell⟩ := hsv
  have HC := Lib.hid hcell
  have HN := Lib.hid hn
  unfold maxLen at hnm
  clear hcell hn
  by_cases hW : 1 ≤ W ∧ W ≤ 128
  · have HNw := Lib.hid (snew_ok W w w.heap.size (Nat.le_refl _) hW.1 hW.2)
    have HNr := Lib.hid (fun w1 (h : w.heap.size ≤ w1.heap.size) => rsnew_ok W w1 w.heap.size h hW.1 hW.2)
    go_enter Tryz.func3, Tryz.ntmps3
    go_wp2_with fail
    refine HNw.out.mono ?_
    rintro e w1 ⟨rfl, hS1, hb1, hs1⟩
    have HS1 := Lib.hid hS1
    have HB1 := Lib.hid hb1
    have Hs1 := Lib.hid hs1
    have hw1s := hb1.size
    clear hS1 hb1 hs1
    go_wp2_with fail
    refine (HNr.out _ hw1s).mono ?_
    rintro e w2 ⟨rfl, hR2, hb2, hs2⟩
    obtain ⟨B, hB⟩ : ∃ B, w.heap.size = B := ⟨_, rfl⟩
    rw [Hs1.out, hB] at hR2
    have hS2 := HS1.out.below hb2
    rw [hB] at hS2
    have hBoth : Both B w2 (B + 2) B (B + 5) (B + 3) (.slice none 0 0) (.slice (some ⟨B + 1, 0, none⟩) 1 1) (.slice none 0 0) (.slice (some ⟨B + 3 + 1, 0, none⟩) 1 1) [.slice none 0 0] [.slice none 0 0] [] W 0 1 [[]] := by
      have hv1 : ∀ b, (Value.slice (some ⟨B + 1, 0, none⟩) 1 1).ownBlock = some b → b = B + 1 := fun b hb => by injection hb with hb; exact hb.symm
      have hv2 : ∀ b, (Value.slice (some ⟨B + 3 + 1, 0, none⟩) 1 1).ownBlock = some b → b = B + 4 := fun b hb => by injection hb with hb; have hb : B + 3 + 1 = b := hb; omega
      refine ⟨hS2.toP _ (fun b h _ => h.elim) (fun b hb => hb.2.1) (fun b hb => hb.2.2.1) (fun b hb e => e.2.2.2.2.2.1 hb), hR2.toP _ (fun b h _ => h.elim) (fun b hb => hb.2.2.2.1) (fun b hb => hb.2.2.2.2.1) (fun b hb e => e.2.2.2.2.2.2 hb), Fb.ok_nil W, fun l hl => ?_, rfl, fun b hb => ⟨fun e => ?_, ?_, ?_⟩, fun b hb => ⟨?_, ?_⟩, ⟨by omega, by omega, by omega, by omega⟩, ⟨by omega, by omega, by omega, by omega⟩⟩
      · simp at hl; subst hl; exact Fb.ok_nil W
      · have := hv1 b hb; have := hv2 b e; omega
      · have := hv1 b hb; omega
      · have := hv1 b hb; omega
      · have := hv2 b hb; omega
      · have := hv2 b hb; omega
    have HBo := Lib.hid hBoth
    have HB2 : Hid (Below B w w2) := by
      have h := HB1.out.trans (hb2.mono hw1s)
      rwa [hB] at h
    have HBw := Lib.hid hB
    rw [show w1.heap.size + 2 = B + 5 by have := Hs1.out; omega]
    try rw [show w.heap.size + 2 = B + 2 by omega]
    clear hS2 hR2 hb2 hs2 HS1 HB1 Hs1 hw1s hB hBoth
    go_wp2_with fail
    go_loopw [9] (fun s9 wr => ∃ (i : Nat) (v vo v' vo' : Value) (us us' : List Value) (L : List Rl) (ver boot : Nat) (olds : List (List Rl)), s9 = .int .i64 i ∧ i ≤ n ∧ i ≤ 60 ∧ ver ≤ i ∧ boot ≤ i + 1 ∧ Hid (Both B wr (B + 2) B (B + 5) (B + 3) v vo v' vo' us us' L W ver boot olds) ∧ Hid (Below B w wr)) (fun s9 _ => n - (intOf s9).toNat)
    case atStart => exact ⟨0, _, _, _, _, _, _, _, 0, 1, _, rfl, Nat.zero_le _, by omega, Nat.le_refl _, Nat.le_refl _, HBo, HB2⟩
    case round =>
      clear HBo HB2
      obtain ⟨wo, rfl⟩ : ∃ wo : World, wo = wr := ⟨wr, rfl⟩
      obtain ⟨i, v, vo, v', vo', us, us', L, ver, boot, olds, rfl, hin, hi60, hvi, hbi, hBo, hBw⟩ := hrel
      by_cases hlt : i < n ∧ i < 60
      · obtain ⟨hlt, h60⟩ := hlt
        have hiz : (i : Int) < (n : Int) := by omega
        have hi6 : (i : Int) < 60 := by omega
        have hio : i < os.length := by rw [← HN.out]; exact hlt
        obtain ⟨b, off, cv, rfl, hbl, k0, k1, k2, k3, hrc, hml, hhm⟩ := HC.out i hio
        have hbw : Below w.heap.size w wo := by rw [HBw.out]; exact hBw.out
        have K0 := (hbw.cell (p := ⟨b, off + i * 4, none⟩) hbl).trans k0
        have K1 := (hbw.cell (p := ⟨b, off + i * 4 + 1, none⟩) hbl).trans k1
        have K2 := (hbw.cell (p := ⟨b, off + i * 4 + 2, none⟩) hbl).trans k2
        have K3 := (hbw.cell (p := ⟨b, off + i * 4 + 3, none⟩) hbl).trans k3
        obtain ⟨o, ho⟩ : ∃ o, os[i] = o := ⟨_, rfl⟩
        rw [ho] at K0 K2 K3 hrc hml hhm
        obtain ⟨ac, cc, hcv, _, _⟩ := hrc.form
        obtain ⟨lc, hlc⟩ : ∃ lc, o.m.length = lc := ⟨_, rfl⟩
        rw [hlc] at hcv
        rw [hcv] at K1
        have hBd : Below wo.heap.size wo wo.drew := (Below.refl _ _).drew
        have hnB : B ≤ wo.heap.size := by have := hBw.out.size; have := HBw.out; omega
        have hAct := act_any (hBo.out.below hBd) o cv (fun Wx hWx => hrc.below (by rw [HBw.out]; exact (hBw.out.drew).trans hWx)) hml hhm (by omega) (by omega) hnB
        rw [hcv] at hAct
        have HAct := Lib.hid hAct
        have hS0 : (fun Wx : World => Wx.cell? ⟨b, off + i * 4, none⟩ = some (.int .i64 o.k) ∧ Wx.cell? ⟨b, off + i * 4 + 1, none⟩ = some (.slice ac lc cc) ∧ Wx.cell? ⟨b, off + i * 4 + 2, none⟩ = some (.int .u64 o.back) ∧ Wx.cell? ⟨b, off + i * 4 + 3, none⟩ = some (.string o.hdr)) wo.drew := ⟨K0, K1, K2, K3⟩
        have HBd := Lib.hid hBd
        clear hrc hml hhm hAct hBd hcv hlc ho k0 k1 k2 k3
        go_upto_region 10 with fail
        refine wp_region_heldG (fun Wx : World => Wx.cell? ⟨b, off + i * 4, none⟩ = some (.int .i64 o.k) ∧ Wx.cell? ⟨b, off + i * 4 + 1, none⟩ = some (.slice ac lc cc) ∧ Wx.cell? ⟨b, off + i * 4 + 2, none⟩ = some (.int .u64 o.back) ∧ Wx.cell? ⟨b, off + i * 4 + 3, none⟩ = some (.string o.hdr)) 34 (by kernel_rfl) ?_
        refine wpAnyG_takeP 0 (v := ?v0) rfl (by kernel_rfl) (fun _ _ _ h => h) (by rfl) ?h0 hS0 ?_
        case h0 => (intro wl; go_simp; try with_reducible rfl)
        try simp only [Act.put, List.setIfInBounds_toArray, List.set_cons_zero, List.set_cons_succ]
        refine wpAnyG_takeP 1 (v := ?v1) rfl (by kernel_rfl) (fun _ _ _ h => h) (by rfl) ?h1 hS0 ?_
        case h1 => (intro wl; go_simp; try with_reducible rfl)
        try simp only [Act.put, List.setIfInBounds_toArray, List.set_cons_zero, List.set_cons_succ]
        refine wpAnyG_takeP 2 (v := ?v2) rfl (by kernel_rfl) (fun _ _ _ h => h) (by rfl) ?h2 hS0 ?_
        case h2 => (intro wl; go_simp; try with_reducible rfl)
        try simp only [Act.put, List.setIfInBounds_toArray, List.set_cons_zero, List.set_cons_succ]
        refine wpAnyG_takeP 3 (v := ?v3) rfl (by kernel_rfl) (fun _ _ _ h => h) (by rfl) ?h3 hS0 ?_
        case h3 => (intro wl; go_simp; try with_reducible rfl)
        try simp only [Act.put, List.setIfInBounds_toArray, List.set_cons_zero, List.set_cons_succ]
        refine wpAnyG_takeP 4 (v := ?v4) rfl (by kernel_rfl) (fun _ _ _ h => h) (by rfl) ?h4 hS0 ?_
        case h4 => (intro wl; go_simp; try with_reducible rfl)
        try simp only [Act.put, List.setIfInBounds_toArray, List.set_cons_zero, List.set_cons_succ]
        refine wpAnyG_takeA 5 (v := ?v5) rfl (by kernel_rfl) (fun _ _ _ h => h) (by rfl) ?h5 hS0 ?_
        case h5 => (intro wl hl; obtain ⟨l0, l1, l2, l3⟩ := hl; go_simp; try with_reducible rfl)
        try simp only [Act.put, List.setIfInBounds_toArray, List.set_cons_zero, List.set_cons_succ]

        refine wpAnyG_one 6 rfl (by kernel_rfl) (fun K hK => ?_)
        go_simp
        go_at_call 7
        refine HAct.out.mono ?_
        rintro e w4 ⟨rfl, hb4, v2, vo2, v2', vo2', us2, us2', L2, ver2, boot2, olds2, hBo2, hv2, hbo2⟩
        have HBo2 := Lib.hid hBo2
        have hbw4 : Below w.heap.size w w4 := hbw.trans (by rw [HBw.out]; exact ((Below.refl _ _).drew).trans hb4)
        have M0 := (hbw4.cell (p := ⟨b, off + i * 4, none⟩) hbl).trans ((hbw.cell (p := ⟨b, off + i * 4, none⟩) hbl).symm.trans K0)
        have M1 := (hbw4.cell (p := ⟨b, off + i * 4 + 1, none⟩) hbl).trans ((hbw.cell (p := ⟨b, off + i * 4 + 1, none⟩) hbl).symm.trans K1)
        have M2 := (hbw4.cell (p := ⟨b, off + i * 4 + 2, none⟩) hbl).trans ((hbw.cell (p := ⟨b, off + i * 4 + 2, none⟩) hbl).symm.trans K2)
        have M3 := (hbw4.cell (p := ⟨b, off + i * 4 + 3, none⟩) hbl).trans ((hbw.cell (p := ⟨b, off + i * 4 + 3, none⟩) hbl).symm.trans K3)
        have N1 := hBo2.r.c1
        have N2 := hBo2.r.c2
        have hS1 : (fun Wx : World => Wx.cell? ⟨b, off + i * 4, none⟩ = some (.int .i64 o.k) ∧ Wx.cell? ⟨b, off + i * 4 + 1, none⟩ = some (.slice ac lc cc) ∧ Wx.cell? ⟨b, off + i * 4 + 2, none⟩ = some (.int .u64 o.back) ∧ Wx.cell? ⟨b, off + i * 4 + 3, none⟩ = some (.string o.hdr) ∧ Wx.cell? ⟨B + 5, 1, none⟩ = some (.int .u64 (ver2 : Int)) ∧ Wx.cell? ⟨B + 5, 2, none⟩ = some (.int .u32 (boot2 : Int))) w4 := ⟨M0, M1, M2, M3, N1, N2⟩
        have HB4 : Hid (Below B w w4) := by rw [← HBw.out]; exact hbw4
        have HVe := Lib.hid (version_sto hBo2.s)
        have HBt := Lib.hid (boot_sto hBo2.s)
        have HRu := Lib.hid (rules_sto hBo2.s hBo2.okL.few)
        have HRr : Hid (∀ Wx, Below w4.heap.size w4 Wx → Calls Tryz.prog 12 #[.pointer (some ⟨B + 5, 0, none⟩)] Wx fun e w' => ∃ ad c, e = .returned (.slice ad L2.length c) ∧ RdsR (fun _ => True) w' (.slice ad L2.length c) L2 ∧ Below Wx.heap.size Wx w') := fun Wx hWx => by
          have h0 := (hBo2.below hWx).r
          refine (rsrules_tab h0.c0 h0.tab hBo2.okL).mono ?_
          rintro e w' ⟨ad, c, he, hr, hb⟩
          exact ⟨ad, c, he, hr.mono (fun _ _ => trivial), hb⟩
        refine hK _ _ (fun _ => ⟨M0, M1, M2, M3⟩) ?_
        clear hK K
        try simp only [Act.put, List.setIfInBounds_toArray, List.set_cons_zero, List.set_cons_succ]
        refine wpAnyG_mono (S' := fun Wx : World => Wx.cell? ⟨b, off + i * 4, none⟩ = some (.int .i64 o.k) ∧ Wx.cell? ⟨b, off + i * 4 + 1, none⟩ = some (.slice ac lc cc) ∧ Wx.cell? ⟨b, off + i * 4 + 2, none⟩ = some (.int .u64 o.back) ∧ Wx.cell? ⟨b, off + i * 4 + 3, none⟩ = some (.string o.hdr) ∧ Wx.cell? ⟨B + 5, 1, none⟩ = some (.int .u64 (ver2 : Int)) ∧ Wx.cell? ⟨B + 5, 2, none⟩ = some (.int .u32 (boot2 : Int))) (fun _ h => ⟨h.1, h.2.1, h.2.2.1, h.2.2.2.1⟩) _ _ _ _ ?_
        clear hS0 K0 K1 K2 K3 M0 M1 M2 M3 N1 N2 hbw4 hb4 hBo2 HAct
        obtain ⟨nl, hnl⟩ : ∃ nl, L2.length = nl := ⟨_, rfl⟩
        rw [hnl] at HRu HRr
        clear hnl
        refine wpAnyG_takeP 7 (v := ?v7) rfl (by kernel_rfl) (fun _ _ _ h => h) (by rfl) ?h7 hS1 ?_
        case h7 => (intro wl; go_simp; try with_reducible rfl)
        try simp only [Act.put, List.setIfInBounds_toArray, List.set_cons_zero, List.set_cons_succ]
        refine wpAnyG_takeP 8 (v := ?v8) rfl (by kernel_rfl) (fun _ _ _ h => h) (by rfl) ?h8 hS1 ?_
        case h8 => (intro wl; go_simp; try with_reducible rfl)
        try simp only [Act.put, List.setIfInBounds_toArray, List.set_cons_zero, List.set_cons_succ]
        refine wpAnyG_takeP 9 (v := ?v9) rfl (by kernel_rfl) (fun _ _ _ h => h) (by rfl) ?h9 hS1 ?_
        case h9 => (intro wl; go_simp; try with_reducible rfl)
        try simp only [Act.put, List.setIfInBounds_toArray, List.set_cons_zero, List.set_cons_succ]
        refine wpAnyG_takeP 11 (v := ?v11) rfl (by kernel_rfl) (fun _ _ _ h => h) (by rfl) ?h11 hS1 ?_
        case h11 => (intro wl; go_simp; try with_reducible rfl)
        try simp only [Act.put, List.setIfInBounds_toArray, List.set_cons_zero, List.set_cons_succ]
        refine wpAnyG_takeP 12 (v := ?v12) rfl (by kernel_rfl) (fun _ _ _ h => h) (by rfl) ?h12 hS1 ?_
        case h12 => (intro wl; go_simp; try with_reducible rfl)
        try simp only [Act.put, List.setIfInBounds_toArray, List.set_cons_zero, List.set_cons_succ]
        refine wpAnyG_takeP 13 (v := ?v13) rfl (by kernel_rfl) (fun _ _ _ h => h) (by rfl) ?h13 hS1 ?_
        case h13 => (intro wl; go_simp; try with_reducible rfl)
        try simp only [Act.put, List.setIfInBounds_toArray, List.set_cons_zero, List.set_cons_succ]
        refine wpAnyG_takeA 14 (v := ?v14) rfl (by kernel_rfl) (fun _ _ _ h => h) (by rfl) ?h14 hS1 ?_
        case h14 => (intro wl hl; obtain ⟨l0, l1, l2, l3, l4, l5⟩ := hl; go_simp; try with_reducible rfl)
        try simp only [Act.put, List.setIfInBounds_toArray, List.set_cons_zero, List.set_cons_succ]

        refine wpAnyG_one 10 rfl (by kernel_rfl) (fun K hK => ?_)
        go_simp
        go_at_call 8
        refine HVe.out.mono ?_
        rintro e w5 ⟨rfl, rfl⟩
        refine hK _ _ (fun _ => hS1) ?_
        clear hK K
        try simp only [Act.put, List.setIfInBounds_toArray, List.set_cons_zero, List.set_cons_succ]
        refine wpAnyG_takeP 15 (v := ?v15) rfl (by kernel_rfl) (fun _ _ _ h => h) (by rfl) ?h15 hS1 ?_
        case h15 => (intro wl; go_simp; try with_reducible rfl)
        try simp only [Act.put, List.setIfInBounds_toArray, List.set_cons_zero, List.set_cons_succ]
        refine wpAnyG_takeP 16 (v := ?v16) rfl (by kernel_rfl) (fun _ _ _ h => h) (by rfl) ?h16 hS1 ?_
        case h16 => (intro wl; go_simp; try with_reducible rfl)
        try simp only [Act.put, List.setIfInBounds_toArray, List.set_cons_zero, List.set_cons_succ]
        refine wpAnyG_takeP 17 (v := ?v17) rfl (by kernel_rfl) (fun _ _ _ h => h) (by rfl) ?h17 hS1 ?_
        case h17 => (intro wl; go_simp; try with_reducible rfl)
        try simp only [Act.put, List.setIfInBounds_toArray, List.set_cons_zero, List.set_cons_succ]
        refine wpAnyG_takeP 18 (v := ?v18) rfl (by kernel_rfl) (fun _ _ _ h => h) (by rfl) ?h18 hS1 ?_
        case h18 => (intro wl; go_simp; try with_reducible rfl)
        try simp only [Act.put, List.setIfInBounds_toArray, List.set_cons_zero, List.set_cons_succ]
        refine wpAnyG_takeP 20 (v := ?v20) rfl (by kernel_rfl) (fun _ _ _ h => h) (by rfl) ?h20 hS1 ?_
        case h20 => (intro wl; go_simp; try with_reducible rfl)
        try simp only [Act.put, List.setIfInBounds_toArray, List.set_cons_zero, List.set_cons_succ]
        refine wpAnyG_takeP 21 (v := ?v21) rfl (by kernel_rfl) (fun _ _ _ h => h) (by rfl) ?h21 hS1 ?_
        case h21 => (intro wl; go_simp; try with_reducible rfl)
        try simp only [Act.put, List.setIfInBounds_toArray, List.set_cons_zero, List.set_cons_succ]
        refine wpAnyG_takeP 22 (v := ?v22) rfl (by kernel_rfl) (fun _ _ _ h => h) (by rfl) ?h22 hS1 ?_
        case h22 => (intro wl; go_simp; try with_reducible rfl)
        try simp only [Act.put, List.setIfInBounds_toArray, List.set_cons_zero, List.set_cons_succ]
        refine wpAnyG_takeA 23 (v := ?v23) rfl (by kernel_rfl) (fun _ _ _ h => h) (by rfl) ?h23 hS1 ?_
        case h23 => (intro wl hl; obtain ⟨l0, l1, l2, l3, l4, l5⟩ := hl; go_simp; try with_reducible rfl)
        try simp only [Act.put, List.setIfInBounds_toArray, List.set_cons_zero, List.set_cons_succ]

        refine wpAnyG_one 19 rfl (by kernel_rfl) (fun K hK => ?_)
        go_simp
        go_at_call 9
        refine HBt.out.mono ?_
        rintro e w5 ⟨rfl, rfl⟩
        refine hK _ _ (fun _ => hS1) ?_
        clear hK K
        try simp only [Act.put, List.setIfInBounds_toArray, List.set_cons_zero, List.set_cons_succ]
        refine wpAnyG_takeP 24 (v := ?v24) rfl (by kernel_rfl) (fun _ _ _ h => h) (by rfl) ?h24 hS1 ?_
        case h24 => (intro wl; go_simp; try with_reducible rfl)
        try simp only [Act.put, List.setIfInBounds_toArray, List.set_cons_zero, List.set_cons_succ]
        refine wpAnyG_takeP 25 (v := ?v25) rfl (by kernel_rfl) (fun _ _ _ h => h) (by rfl) ?h25 hS1 ?_
        case h25 => (intro wl; go_simp; try with_reducible rfl)
        try simp only [Act.put, List.setIfInBounds_toArray, List.set_cons_zero, List.set_cons_succ]
        refine wpAnyG_takeP 26 (v := ?v26) rfl (by kernel_rfl) (fun _ _ _ h => h) (by rfl) ?h26 hS1 ?_
        case h26 => (intro wl; go_simp; try with_reducible rfl)
        try simp only [Act.put, List.setIfInBounds_toArray, List.set_cons_zero, List.set_cons_succ]
        refine wpAnyG_takeP 27 (v := ?v27) rfl (by kernel_rfl) (fun _ _ _ h => h) (by rfl) ?h27 hS1 ?_
        case h27 => (intro wl; go_simp; try with_reducible rfl)
        try simp only [Act.put, List.setIfInBounds_toArray, List.set_cons_zero, List.set_cons_succ]
        refine wpAnyG_takeP 29 (v := ?v29) rfl (by kernel_rfl) (fun _ _ _ h => h) (by rfl) ?h29 hS1 ?_
        case h29 => (intro wl; go_simp; try with_reducible rfl)
        try simp only [Act.put, List.setIfInBounds_toArray, List.set_cons_zero, List.set_cons_succ]

        refine wpAnyG_one 28 rfl (by kernel_rfl) (fun K hK => ?_)
        go_simp
        go_at_call 11
        refine HRu.out.mono ?_
        rintro e w5 ⟨a5, c5, rfl, hr5, hb5⟩
        have HR5 := Lib.hid hr5
        have HB5 := Lib.hid hb5
        have hk5 : ∀ p : Addr, p.block < w4.heap.size → w5.cell? p = w4.cell? p := fun p hp => hb5.cell hp
        have hS2 : (fun Wx : World => Wx.cell? ⟨b, off + i * 4, none⟩ = some (.int .i64 o.k) ∧ Wx.cell? ⟨b, off + i * 4 + 1, none⟩ = some (.slice ac lc cc) ∧ Wx.cell? ⟨b, off + i * 4 + 2, none⟩ = some (.int .u64 o.back) ∧ Wx.cell? ⟨b, off + i * 4 + 3, none⟩ = some (.string o.hdr) ∧ Wx.cell? ⟨B + 5, 1, none⟩ = some (.int .u64 (ver2 : Int)) ∧ Wx.cell? ⟨B + 5, 2, none⟩ = some (.int .u32 (boot2 : Int))) w5 := ⟨(hk5 _ (cell_lt hS1.1)).trans hS1.1, (hk5 _ (cell_lt hS1.2.1)).trans hS1.2.1, (hk5 _ (cell_lt hS1.2.2.1)).trans hS1.2.2.1, (hk5 _ (cell_lt hS1.2.2.2.1)).trans hS1.2.2.2.1, (hk5 _ (cell_lt hS1.2.2.2.2.1)).trans hS1.2.2.2.2.1, (hk5 _ (cell_lt hS1.2.2.2.2.2)).trans hS1.2.2.2.2.2⟩
        clear hr5 hb5 hk5
        refine hK _ _ (fun _ => hS2) ?_
        clear hK K
        try simp only [Act.put, List.setIfInBounds_toArray, List.set_cons_zero, List.set_cons_succ]
        refine wpAnyG_one 30 rfl (by kernel_rfl) (fun K hK => ?_)
        go_simp
        go_at_call 12
        refine (HRr.out _ HB5.out).mono ?_
        rintro e w6 ⟨a6, c6, rfl, hr6, hb6⟩
        have HSm := Lib.hid (sameRules_same _ _ _ _ _ w6 (HR5.out.below hb6) hr6)
        have hk6 : ∀ p : Addr, p.block < w5.heap.size → w6.cell? p = w5.cell? p := fun p hp => hb6.cell hp
        have HB6 := Lib.hid (HB5.out.trans (hb6.mono HB5.out.size))
        have hS3 : (fun Wx : World => Wx.cell? ⟨b, off + i * 4, none⟩ = some (.int .i64 o.k) ∧ Wx.cell? ⟨b, off + i * 4 + 1, none⟩ = some (.slice ac lc cc) ∧ Wx.cell? ⟨b, off + i * 4 + 2, none⟩ = some (.int .u64 o.back) ∧ Wx.cell? ⟨b, off + i * 4 + 3, none⟩ = some (.string o.hdr) ∧ Wx.cell? ⟨B + 5, 1, none⟩ = some (.int .u64 (ver2 : Int)) ∧ Wx.cell? ⟨B + 5, 2, none⟩ = some (.int .u32 (boot2 : Int))) w6 := ⟨(hk6 _ (cell_lt hS2.1)).trans hS2.1, (hk6 _ (cell_lt hS2.2.1)).trans hS2.2.1, (hk6 _ (cell_lt hS2.2.2.1)).trans hS2.2.2.1, (hk6 _ (cell_lt hS2.2.2.2.1)).trans hS2.2.2.2.1, (hk6 _ (cell_lt hS2.2.2.2.2.1)).trans hS2.2.2.2.2.1, (hk6 _ (cell_lt hS2.2.2.2.2.2)).trans hS2.2.2.2.2.2⟩
        clear hr6 hb6 hk6
        refine hK _ _ (fun _ => hS3) ?_
        clear hK K
        try simp only [Act.put, List.setIfInBounds_toArray, List.set_cons_zero, List.set_cons_succ]
        refine wpAnyG_one 31 rfl (by kernel_rfl) (fun K hK => ?_)
        go_simp
        go_at_call 10
        refine HSm.out.mono ?_
        rintro e w7 ⟨rfl, hg7⟩
        have hk7 : ∀ p : Addr, p.block < w6.heap.size → w7.cell? p = w6.cell? p := fun p hp => hg7.below.cell hp
        have HB7 := Lib.hid (HB6.out.trans (hg7.below.mono HB6.out.size))
        have hS4 : (fun Wx : World => Wx.cell? ⟨b, off + i * 4, none⟩ = some (.int .i64 o.k) ∧ Wx.cell? ⟨b, off + i * 4 + 1, none⟩ = some (.slice ac lc cc) ∧ Wx.cell? ⟨b, off + i * 4 + 2, none⟩ = some (.int .u64 o.back) ∧ Wx.cell? ⟨b, off + i * 4 + 3, none⟩ = some (.string o.hdr) ∧ Wx.cell? ⟨B + 5, 1, none⟩ = some (.int .u64 (ver2 : Int)) ∧ Wx.cell? ⟨B + 5, 2, none⟩ = some (.int .u32 (boot2 : Int))) w7 := ⟨(hk7 _ (cell_lt hS3.1)).trans hS3.1, (hk7 _ (cell_lt hS3.2.1)).trans hS3.2.1, (hk7 _ (cell_lt hS3.2.2.1)).trans hS3.2.2.1, (hk7 _ (cell_lt hS3.2.2.2.1)).trans hS3.2.2.2.1, (hk7 _ (cell_lt hS3.2.2.2.2.1)).trans hS3.2.2.2.2.1, (hk7 _ (cell_lt hS3.2.2.2.2.2)).trans hS3.2.2.2.2.2⟩
        clear hg7 hk7
        refine hK _ _ (fun _ => hS4) ?_
        clear hK K
        try simp only [Act.put, List.setIfInBounds_toArray, List.set_cons_zero, List.set_cons_succ]
        refine wpAnyG_takeP 32 (v := ?v32) rfl (by kernel_rfl) (fun _ _ _ h => h) (by rfl) ?h32 hS4 ?_
        case h32 => (intro wl; go_simp; try with_reducible rfl)
        try simp only [Act.put, List.setIfInBounds_toArray, List.set_cons_zero, List.set_cons_succ]
        refine wpAnyG_takeP 33 (v := ?v33) rfl (by kernel_rfl) (fun _ _ _ h => h) (by rfl) ?h33 hS4 ?_
        case h33 => (intro wl; go_simp; try with_reducible rfl)
        try simp only [Act.put, List.setIfInBounds_toArray, List.set_cons_zero, List.set_cons_succ]

        refine wpAnyG_done (by kernel_rfl) ?_ _
        have HBo7 := Lib.hid (HBo2.out.below HB7.out)
        have HBw7 : Hid (Below B w w7) := HB4.out.trans (HB7.out.mono (by have := HB4.out.size; have := HBw.out; omega))
        clear hS1 hS2 hS3 hS4
        go_wp2_with fail
        go_roundw
        case rel => exact ⟨i + 1, v2, vo2, v2', vo2', us2, us2', L2, ver2, boot2, olds2, by first | rfl | go_num, by omega, by omega, by omega, by omega, HBo7, HBw7⟩
        case measure => simp [intOf]; omega
      · have hcase : (i : Int) < (n : Int) ∧ decide ((i : Int) < 60) = false ∨ decide ((i : Int) < (n : Int)) = false ∧ ¬ i < n := by
          by_cases h : i < n
          · exact .inl ⟨by omega, by simp; omega⟩
          · exact .inr ⟨by simp; omega, h⟩
        clear hlt
        rcases hcase with ⟨h1, h2⟩ | ⟨h1, h2⟩
        all_goals
          go_wp2_with fail
          refine (alive_any _).mono ?_
          rintro e w8 ⟨rfl, hb8⟩
          have HBf : Hid (Below w.heap.size w w8) := by
            show Below _ _ _
            rw [HBw.out]
            exact hBw.out.trans (hb8.mono (by have := hBw.out.size; have := HBw.out; omega))
          clear hb8
          go_wp2_with fail
          go_ret
          exact ⟨rfl, HBf.out⟩
  · have HNw := Lib.hid (fun w => snew_bad W w (by omega))
    have HNr := Lib.hid (fun w => rsnew_bad W w (by omega))
    clear hW
    go_enter Tryz.func3, Tryz.ntmps3
    go_wp2_with fail
    refine (HNw.out _).mono ?_
    rintro e w1 ⟨rfl, rfl⟩
    go_wp2_with fail
    refine (HNr.out _).mono ?_
    rintro e w2 ⟨rfl, rfl⟩
    go_wp2_with fail
    refine (alive_any _).mono ?_
    rintro e w3 ⟨rfl, hb3⟩
    have HB3 := Lib.hid hb3
    clear hb3
    go_wp2_with fail
    go_ret
    exact ⟨rfl, HB3.out⟩
end Go.Proofs.YtlbelkjgaeaaeaaGreat
/-
  Slices of rules that came in read as rules, and are no longer than their weights allow.
-/
namespace Go.Proofs.YtlbelkjgaeaaeaaGreat
open Go.ChangeShapes Go.WideShapes Go.RowKit Go.Deep

section
variable {H : Type} {P : Program}
theorem w_all {e : TypeId} : ∀ {l : List (DataW H)} {d : DataW H}, d ∈ l → ∀ n ∈ d.weights P e, n ∈ DataW.weightsAll P e l
  | x :: l, d, hd, n, hn => by
    rcases List.mem_cons.1 hd with rfl | hd
    · simp only [DataW.weightsAll, List.mem_append]; exact .inl hn
    · simp only [DataW.weightsAll, List.mem_append]; exact .inr (w_all hd n hn)
theorem w_elem {t e : TypeId} (hu : P.underlying t = some (.slice e)) {el sp : List (DataW H)} {d : DataW H} (hd : d ∈ el) : ∀ n ∈ d.weights P e, n ∈ (DataW.slice el sp).weights P t := by
  intro n hn
  simp only [DataW.weights, hu, List.mem_cons, List.mem_append]
  exact .inr (.inl (w_all hd n hn))
theorem w_len {t e : TypeId} (hu : P.underlying t = some (.slice e)) {el sp : List (DataW H)} : (el.length + sp.length) * P.bytesOf e ∈ (DataW.slice el sp).weights P t := by
  simp only [DataW.weights, hu, List.mem_cons]
  exact .inl trivial
theorem w_field {t : TypeId} {fs : Array Field} (hu : P.underlying t = some (.struct fs)) {parts : List (DataW H)} {j : Nat} {e : TypeId} {d : DataW H} (hf : (fs.toList.map (·.type))[j]? = some e) (hd : parts[j]? = some d) : ∀ n ∈ d.weights P e, n ∈ (DataW.agg parts).weights P t := by
  intro n hn
  simp only [DataW.weights, hu]
  exact DataW.weights_mem_each hf hd n hn
theorem w_string {t : TypeId} {bytes : List UInt8} : bytes.length ∈ (DataW.lit (.string bytes) : DataW H).weights P t := by simp [DataW.weights]
end

theorem spot_none {W : World} {x : Addr} {v : Value} (h : W.cell? x = some v) : x.spot = none := by
  cases hs : x.spot with
  | none => rfl
  | some n =>
    unfold World.cell? at h
    split at h
    · rw [hs] at h; simp at h
    · cases h

theorem reach_is : reachBytes = 140737488351232 := by decide

/-- A slice of strings inside of what came in. -/
theorem strs_in {H : Type} {enc : TypeId × Value → H} {P : Program} {W : World} {base : Nat} {spare : Nat → Bool} {held : Bool} {t e : TypeId} {v : Value} {d : DataW H} {ps : List MemPlace} {fuel : Nat}
    (hu : P.underlying t = some (.slice e)) (he : P.underlying e = some .string) (hc : P.cellsOf e = 1) (hB : P.bytesOf e = 16) (hw : ∀ n ∈ d.weights P t, n ≤ reachBytes)
    (h : DataW.trod enc P W base spare held fuel t [v] = some (d, ps)) : ∃ ad n c ss, v = .slice ad n c ∧ RdsS W v ss ∧ (∀ s ∈ ss, s.size ≤ 140737488351232) ∧ ss.length * 16 ≤ 140737488351232 := by
  rw [reach_is] at hw
  rcases open_strings hu he hc h with ⟨hcs, _⟩ | ⟨x, l, c, ss, hcs, _, hl, hm, hz, hx, hcell, hws⟩
  · simp at hcs
    subst hcs
    exact ⟨none, 0, 0, [], rfl, rdsS_nil W, by simp, by simp⟩
  · simp at hcs
    subst hcs
    obtain ⟨hx, _⟩ := Prod.mk.inj hx
    subst hx
    have z := hw _ (w_len hu)
    rw [hB] at z
    have hl2 : l ≤ ss.length := by
      rw [hz]
      split
      · exact hl
      · exact Nat.le_refl _
    have h1 : (strs (H := H) (ss.take l)).length + (strs (H := H) (ss.drop l)).length = ss.length := by
      simp [strs]
      omega
    rw [h1] at z
    have htl : (ss.take l).length = l := by simp; omega
    refine ⟨some x, l, c, ss.take l, rfl, ?_, fun s hs => ?_, by rw [htl]; omega⟩
    · rcases Nat.eq_zero_or_pos l with h0 | h0
      · subst h0
        simp only [List.take_zero]
        exact rdsS_empty W x c
      · have hc0 := hcell 0 (by omega)
        have hx0 : x.add 0 = x := by unfold Addr.add; rw [if_pos rfl]
        rw [hx0] at hc0
        have hsp := spot_none hc0
        obtain ⟨b, off, sp⟩ := x
        simp only at hsp
        subst hsp
        have hlt := World.block_lt_of_cell? W _ hc0
        have hadd : ∀ i, (⟨b, off, none⟩ : Addr).add i = ⟨b, off + i, none⟩ := fun i => by unfold Addr.add; split <;> simp_all
        have := rdsS_mk (w := W) (ss := ss.take l) (b := b) (off := off) (cap := c) (by omega) hm hlt (fun i hi => by
          have hi' : i < l := by omega
          have := hcell i (by omega)
          rw [hadd] at this
          rw [this, List.getD_eq_getElem?_getD, List.getElem?_eq_getElem (show i < ss.length by omega)]
          simp)
        rw [htl] at this
        exact this
    · have hm2 : (DataW.lit (.string s.data.toList) : DataW H) ∈ strs (H := H) (ss.take l) := by
        unfold strs
        exact List.mem_map.2 ⟨s, hs, rfl⟩
      have := hw _ (w_elem hu hm2 _ w_string)
      simpa using this

theorem list4 : ∀ {l : List Value}, l.length = 4 → ∃ a b c d, l = [a, b, c, d]
  | [a, b, c, d], _ => ⟨a, b, c, d, rfl⟩
theorem list5 : ∀ {l : List Value}, l.length = 5 → ∃ a b c d e, l = [a, b, c, d, e]
  | [a, b, c, d, e], _ => ⟨a, b, c, d, e, rfl⟩

/-- A rule inside of what came in. -/
theorem rule_in {H : Type} {enc : TypeId × Value → H} {W : World} {base : Nat} {spare : Nat → Bool} {held : Bool} {cs : List Value} {d : DataW H} {ps : List MemPlace} {fuel : Nat} (hw : ∀ n ∈ d.weights Tryz.prog 62, n ≤ reachBytes)
    (h : DataW.trod enc Tryz.prog W base spare held fuel 62 cs = some (d, ps)) : ∃ (x : RC) (r : Rl), cs = encR x ∧ RdC (fun _ => True) W x r := by
  have he := Tryz.underlying62
  obtain ⟨y0, y1, y2, n, hx, hl, h0, h1, h2⟩ := trod_struct3 he h
  have hC : Tryz.prog.cellsOf 62 = 4 := by kernel_rfl
  have hl4 : cs.length = 4 := hl.trans hC
  clear hl
  obtain ⟨c0, c1, c2, c3, rfl⟩ := list4 hl4
  · clear hl4
    have k0 : Tryz.prog.cellsOf 3 = 1 := by kernel_rfl
    have k1 : Tryz.prog.cellsOf 9 = 1 := by kernel_rfl
    have k2 : Tryz.prog.cellsOf 60 = 2 := by kernel_rfl
    simp only [k0, k1, k2, List.drop_zero, List.take_succ_cons, List.take_zero, List.drop_succ_cons] at h0 h1 h2
    obtain ⟨hd, _⟩ := Prod.mk.inj hx
    subst hd
    have ha := Tryz.underlying60
    obtain ⟨z0, z1, n2, hx2, _, g0, g1⟩ := trod_struct2 ha h2
    have k3 : Tryz.prog.cellsOf 57 = 1 := by kernel_rfl
    have k4 : Tryz.prog.cellsOf 58 = 1 := by kernel_rfl
    simp only [k3, k4, List.drop_zero, List.take_succ_cons, List.take_zero, List.drop_succ_cons] at g0 g1
    obtain ⟨p, e0, _⟩ := DataW.trod_int Tryz.underlying3 h0
    obtain ⟨m, e1, q1⟩ := DataW.trod_string Tryz.underlying9 h1
    obtain ⟨k, e2, _⟩ := DataW.trod_int Tryz.underlying57 g0
    have w1 : ∀ n ∈ y1.1.weights Tryz.prog 9, n ≤ reachBytes := fun n hn => hw n (w_field he (j := 1) rfl rfl n hn)
    have w2 : ∀ n ∈ y2.1.weights Tryz.prog 60, n ≤ reachBytes := fun n hn => hw n (w_field he (j := 2) rfl rfl n hn)
    rw [hx2] at w2
    have w3 : ∀ n ∈ z1.1.weights Tryz.prog 58, n ≤ reachBytes := fun n hn => w2 n (w_field ha (j := 1) rfl rfl n hn)
    obtain ⟨ad, l, c, ss, e3, hr, hs, hn⟩ := strs_in Tryz.underlying58 Tryz.underlying9 (by kernel_rfl) (by kernel_rfl) w3 g1
    simp only [List.cons.injEq, and_true] at e0 e1 e2
    subst e0 e1 e2 e3
    rw [q1.1] at w1
    have hm := w1 _ w_string
    rw [Array.length_toList, reach_is] at hm
    exact ⟨⟨p, m, k, ad, l, c⟩, ⟨p, m, k, ss⟩, rfl, ⟨rfl, rfl, rfl, ⟨hr, fun _ _ _ _ _ => trivial⟩, ⟨hm, hn, hs⟩⟩⟩

theorem encR_inj {x y : RC} (h : encR x = encR y) : x = y := by
  cases x; cases y
  simp only [encR, List.cons.injEq, Value.int.injEq, Value.string.injEq, Value.slice.injEq, true_and, and_true] at h
  obtain ⟨h1, h2, h3, h4, h5, h6⟩ := h
  subst h1 h2 h3 h4 h5 h6
  rfl

theorem rules_of {H : Type} {enc : TypeId × Value → H} {W : World} {base : Nat} {spare : Nat → Bool} {held : Bool} {t : TypeId} {a : Option Addr} {len cap : Nat} {d : DataW H} {ps : List MemPlace} (ht : Tryz.prog.underlying t = some (.slice 62)) (hw : ∀ n ∈ d.weights Tryz.prog t, n ≤ reachBytes)
    (h : DataW.Trod enc Tryz.prog W base spare held t (.slice a len cap) d ps) : ∃ L : List Rl, RdsR (fun _ => True) W (.slice a len cap) L ∧ L.length * 56 ≤ 140737488351232 := by
  obtain ⟨fuel, hf⟩ := h
  rcases open_slice ht hf with ⟨hcs, _⟩ | ⟨x, l, c, m, n, D, Pl, hcs, _, hl, hm, hmm, hx, hel⟩
  · simp [Value.cells] at hcs
    obtain ⟨rfl, rfl, rfl⟩ := hcs
    exact ⟨[], rdsR_nil _ W, by simp⟩
  · simp [Value.cells] at hcs
    obtain ⟨rfl, rfl, rfl⟩ := hcs
    obtain ⟨hx, _⟩ := Prod.mk.inj hx
    subst hx
    have hlm : len ≤ m := by rw [hmm]; split <;> omega
    have z := hw _ (w_len ht)
    rw [show Tryz.prog.bytesOf 62 = 56 by kernel_rfl, reach_is] at z
    simp only [List.length_map, List.length_range] at z
    have hC : Tryz.prog.cellsOf 62 = 4 := by kernel_rfl
    rw [hC] at hel
    have each : ∀ i, i < len → ∃ q : RC × Rl, RdC (fun _ => True) W q.1 q.2 ∧ W.cell? (x.add (i * 4)) = some (.int .i64 q.1.p) ∧ W.cell? (x.add (i * 4 + 1)) = some (.string q.1.m) ∧ W.cell? (x.add (i * 4 + 2)) = some (.int .i64 q.1.k) ∧ W.cell? (x.add (i * 4 + 3)) = some (.slice q.1.a q.1.n q.1.c) := by
      intro i hi
      obtain ⟨cs', h1, h2⟩ := hel i (by omega)
      obtain ⟨y, r, rfl, hr⟩ := rule_in (fun n hn => hw n (w_elem ht (List.mem_map.2 ⟨i, List.mem_range.2 hi, rfl⟩) n hn)) h2
      obtain ⟨_, _, hcell⟩ := World.cells?_some h1
      have g0 := hcell 0 (by decide)
      have g1 := hcell 1 (by decide)
      have g2 := hcell 2 (by decide)
      have g3 := hcell 3 (by decide)
      rw [add_add] at g0 g1 g2 g3
      exact ⟨(y, r), hr, by simpa [encR] using g0, by simpa [encR] using g1, by simpa [encR] using g2, by simpa [encR] using g3⟩
    obtain ⟨q, hq⟩ := choose_lt each
    refine ⟨(List.range len).map fun i => (q i).2, ⟨(List.range len).map fun i => (q i).1, some x, len, cap, rfl, by simp, by simp, ⟨by omega, fun h => by cases h⟩, by omega, fun _ _ _ _ _ => trivial, fun i hi => ?_, fun i hi hi' => ?_⟩, ?_⟩
    · have hi' : i < len := by simpa using hi
      obtain ⟨_, c0, c1, c2, c3⟩ := hq i hi'
      have hc0 := (hq 0 (by omega)).2.1
      have hx0 : x.add (0 * 4) = x := by rw [Nat.zero_mul]; unfold Addr.add; rw [if_pos rfl]
      rw [hx0] at hc0
      have hsp := spot_none hc0
      obtain ⟨b, off, sp⟩ := x
      simp only at hsp
      subst hsp
      have hadd : ∀ i, (⟨b, off, none⟩ : Addr).add i = ⟨b, off + i, none⟩ := fun i => by unfold Addr.add; split <;> simp_all
      have hlt := World.block_lt_of_cell? W _ hc0
      rw [hadd] at c0 c1 c2 c3
      exact ⟨b, off, rfl, hlt, by simpa using c0, by simpa [Nat.add_assoc] using c1, by simpa [Nat.add_assoc] using c2, by simpa [Nat.add_assoc] using c3⟩
    · have hi' : i < len := by simpa using hi
      simpa using (hq i hi').1
    · rw [List.length_map, List.length_range]
      omega
end Go.Proofs.YtlbelkjgaeaaeaaGreat
/-
  A slice of changes that came in reads as changes, and is no longer than its weight allows.
-/
namespace Go.Proofs.YtlbelkjgaeaaeaaGreat
open Go.ChangeShapes Go.WideShapes Go.RowKit Go.Deep

theorem changes_of {H : Type} {enc : TypeId × Value → H} {W : World} {base : Nat} {spare : Nat → Bool} {held : Bool} {t : TypeId} {a : Option Addr} {len cap : Nat} {d : DataW H} {ps : List MemPlace} (ht : Tryz.prog.underlying t = some (.slice 64)) (hw : ∀ n ∈ d.weights Tryz.prog t, n ≤ reachBytes)
    (h : DataW.Trod enc Tryz.prog W base spare held t (.slice a len cap) d ps) : ∃ L : List (Int × Rl), RdsC (fun _ => True) W (.slice a len cap) L ∧ L.length * 64 ≤ 140737488351232 := by
  obtain ⟨fuel, hf⟩ := h
  rcases open_slice ht hf with ⟨hcs, _⟩ | ⟨x, l, c, m, n, D, Pl, hcs, _, hl, hm, hmm, hx, hel⟩
  · simp [Value.cells] at hcs
    obtain ⟨rfl, rfl, rfl⟩ := hcs
    exact ⟨[], rdsC_nil _ W, by simp⟩
  · simp [Value.cells] at hcs
    obtain ⟨rfl, rfl, rfl⟩ := hcs
    obtain ⟨hx, _⟩ := Prod.mk.inj hx
    subst hx
    have hlm : len ≤ m := by rw [hmm]; split <;> omega
    have z := hw _ (w_len ht)
    rw [show Tryz.prog.bytesOf 64 = 64 by kernel_rfl, reach_is] at z
    simp only [List.length_map, List.length_range] at z
    have hC : Tryz.prog.cellsOf 64 = 5 := by kernel_rfl
    rw [hC] at hel
    have each : ∀ i, i < len → ∃ q : Int × RC × Rl, RdC (fun _ => True) W q.2.1 q.2.2 ∧ W.cell? (x.add (i * 5)) = some (.int .i64 q.1) ∧ W.cell? (x.add (i * 5 + 1)) = some (.int .i64 q.2.1.p) ∧ W.cell? (x.add (i * 5 + 2)) = some (.string q.2.1.m) ∧ W.cell? (x.add (i * 5 + 3)) = some (.int .i64 q.2.1.k) ∧ W.cell? (x.add (i * 5 + 4)) = some (.slice q.2.1.a q.2.1.n q.2.1.c) := by
      intro i hi
      obtain ⟨cs', h1, h2⟩ := hel i (by omega)
      have he := Tryz.underlying64
      have hwi : ∀ n ∈ (D i).weights Tryz.prog 64, n ≤ reachBytes := fun n hn => hw n (w_elem ht (List.mem_map.2 ⟨i, List.mem_range.2 hi, rfl⟩) n hn)
      obtain ⟨y0, y1, n2, hx, hlc, h3, h4⟩ := trod_struct2 he h2
      obtain ⟨_, _, hcell⟩ := World.cells?_some h1
      have hl5 : cs'.length = 5 := hlc.trans hC
      clear hlc
      obtain ⟨c0, c1, c2, c3, c4, rfl⟩ := list5 hl5
      · clear hl5
        have k0 : Tryz.prog.cellsOf 56 = 1 := by kernel_rfl
        have k1 : Tryz.prog.cellsOf 62 = 4 := by kernel_rfl
        simp only [k0, k1, List.drop_zero, List.take_succ_cons, List.take_zero, List.drop_succ_cons] at h3 h4
        obtain ⟨k, e0, _⟩ := DataW.trod_int Tryz.underlying56 h3
        have hd := (Prod.mk.inj hx).1
        rw [hd] at hwi
        obtain ⟨y, r, e1, hr⟩ := rule_in (fun n hn => hwi n (w_field he (j := 1) rfl rfl n hn)) h4
        simp only [encR, List.cons.injEq, and_true] at e0 e1
        obtain ⟨rfl, rfl, rfl, rfl⟩ := e1
        subst e0
        have g0 := hcell 0 (by decide)
        have g1 := hcell 1 (by decide)
        have g2 := hcell 2 (by decide)
        have g3 := hcell 3 (by decide)
        have g4 := hcell 4 (by decide)
        rw [add_add] at g0 g1 g2 g3 g4
        exact ⟨(k, y, r), hr, by simpa using g0, by simpa using g1, by simpa using g2, by simpa using g3, by simpa using g4⟩
    obtain ⟨q, hq⟩ := choose_lt each
    refine ⟨(List.range len).map fun i => ((q i).1, (q i).2.2), ⟨(List.range len).map fun i => ((q i).1, (q i).2.1), some x, len, cap, rfl, by simp, by simp, ⟨by omega, fun h => by cases h⟩, by omega, fun _ _ _ _ _ => trivial, fun i hi => ?_, fun i hi hi' => ?_⟩, ?_⟩
    · have hi' : i < len := by simpa using hi
      obtain ⟨_, c0, c1, c2, c3, c4⟩ := hq i hi'
      have hc0 := (hq 0 (by omega)).2.1
      have hx0 : x.add (0 * 5) = x := by rw [Nat.zero_mul]; unfold Addr.add; rw [if_pos rfl]
      rw [hx0] at hc0
      have hsp := spot_none hc0
      obtain ⟨b, off, sp⟩ := x
      simp only at hsp
      subst hsp
      have hadd : ∀ i, (⟨b, off, none⟩ : Addr).add i = ⟨b, off + i, none⟩ := fun i => by unfold Addr.add; split <;> simp_all
      have hlt := World.block_lt_of_cell? W _ hc0
      rw [hadd] at c0 c1 c2 c3 c4
      exact ⟨b, off, rfl, hlt, by simpa using c0, by simpa [Nat.add_assoc] using c1, by simpa [Nat.add_assoc] using c2, by simpa [Nat.add_assoc] using c3, by simpa [Nat.add_assoc] using c4⟩
    · have hi' : i < len := by simpa using hi
      exact ⟨by simp, by simpa using (hq i hi').1⟩
    · rw [List.length_map, List.length_range]
      omega
end Go.Proofs.YtlbelkjgaeaaeaaGreat
/-
  A slice of acts that came in reads as acts.
-/
namespace Go.Proofs.YtlbelkjgaeaaeaaGreat
open Go.ChangeShapes Go.WideShapes Go.RowKit Go.Deep

/-- Changes inside of what came in. -/
theorem changes_in {H : Type} {enc : TypeId × Value → H} {W : World} {base : Nat} {spare : Nat → Bool} {held : Bool} {t : TypeId} {cs : List Value} {d : DataW H} {ps : List MemPlace} {fuel : Nat} (ht : Tryz.prog.underlying t = some (.slice 64)) (hw : ∀ n ∈ d.weights Tryz.prog t, n ≤ reachBytes)
    (h : DataW.trod enc Tryz.prog W base spare held fuel t cs = some (d, ps)) : ∃ (a : Option Addr) (l c : Nat) (L : List (Int × Rl)), cs = [.slice a l c] ∧ RdsC (fun _ => True) W (.slice a l c) L ∧ L.length * 64 ≤ 140737488351232 := by
  rcases open_slice ht h with ⟨hcs, _⟩ | ⟨x, l, c, m, n, D, Pl, hcs, _⟩
  · subst hcs
    obtain ⟨L, h1, h2⟩ := changes_of (a := none) (len := 0) (cap := 0) ht hw ⟨fuel, by simpa [Value.cells] using h⟩
    exact ⟨none, 0, 0, L, rfl, h1, h2⟩
  · subst hcs
    obtain ⟨L, h1, h2⟩ := changes_of (a := some x) (len := l) (cap := c) ht hw ⟨fuel, by simpa [Value.cells] using h⟩
    exact ⟨some x, l, c, L, rfl, h1, h2⟩

instance : Inhabited Opx := ⟨⟨0, [], 0, ⟨#[]⟩⟩⟩

/-- Acts that came in. -/
theorem ops_of {H : Type} {enc : TypeId × Value → H} {W : World} {base : Nat} {spare : Nat → Bool} {held : Bool} {t : TypeId} {a : Option Addr} {len cap : Nat} {d : DataW H} {ps : List MemPlace} (ht : Tryz.prog.underlying t = some (.slice 35)) (hw : ∀ n ∈ d.weights Tryz.prog t, n ≤ reachBytes)
    (h : DataW.Trod enc Tryz.prog W base spare held t (.slice a len cap) d ps) : ∃ os : List Opx, RdsOps W (.slice a len cap) os := by
  obtain ⟨fuel, hf⟩ := h
  rcases open_slice ht hf with ⟨hcs, _⟩ | ⟨x, l, c, m, n, D, Pl, hcs, _, hl, hm, hmm, hx, hel⟩
  · simp [Value.cells] at hcs
    obtain ⟨rfl, rfl, rfl⟩ := hcs
    exact ⟨[], none, 0, 0, rfl, rfl, Nat.zero_le _, fun i h => absurd h (Nat.not_lt_zero _)⟩
  · simp [Value.cells] at hcs
    obtain ⟨rfl, rfl, rfl⟩ := hcs
    obtain ⟨hx, _⟩ := Prod.mk.inj hx
    subst hx
    have hlm : len ≤ m := by rw [hmm]; split <;> omega
    have hC : Tryz.prog.cellsOf 35 = 4 := by kernel_rfl
    rw [hC] at hel
    have each : ∀ i, i < len → ∃ q : Opx × Value, RdsC (fun _ => True) W q.2 q.1.m ∧ q.1.m.length * 64 ≤ 140737488351232 ∧ q.1.hdr.size ≤ maxLen ∧ W.cell? (x.add (i * 4)) = some (.int .i64 q.1.k) ∧ W.cell? (x.add (i * 4 + 1)) = some q.2 ∧ W.cell? (x.add (i * 4 + 2)) = some (.int .u64 q.1.back) ∧ W.cell? (x.add (i * 4 + 3)) = some (.string q.1.hdr) := by
      intro i hi
      obtain ⟨cs', h1, h2⟩ := hel i (by omega)
      have he := Tryz.underlying35
      have hwi : ∀ n ∈ (D i).weights Tryz.prog 35, n ≤ reachBytes := fun n hn => hw n (w_elem ht (List.mem_map.2 ⟨i, List.mem_range.2 hi, rfl⟩) n hn)
      obtain ⟨y0, y1, y2, y3, n2, hx, hlc, g0, g1, g2, g3⟩ := Go.Joins.trod_struct4 he h2
      obtain ⟨_, _, hcell⟩ := World.cells?_some h1
      have hl4 : cs'.length = 4 := hlc.trans hC
      clear hlc
      obtain ⟨c0, c1, c2, c3, rfl⟩ := list4 hl4
      · clear hl4
        have k0 : Tryz.prog.cellsOf 3 = 1 := by kernel_rfl
        have k1 : Tryz.prog.cellsOf 32 = 1 := by kernel_rfl
        have k2 : Tryz.prog.cellsOf 33 = 1 := by kernel_rfl
        have k3 : Tryz.prog.cellsOf 9 = 1 := by kernel_rfl
        simp only [k0, k1, k2, k3, List.drop_zero, List.take_succ_cons, List.take_zero, List.drop_succ_cons] at g0 g1 g2 g3
        have hd := (Prod.mk.inj hx).1
        rw [hd] at hwi
        obtain ⟨k, e0, _⟩ := DataW.trod_int Tryz.underlying3 g0
        obtain ⟨ac, lc, cc, L, e1, hr, hL⟩ := changes_in Tryz.underlying32 (fun n hn => hwi n (w_field he (j := 1) rfl rfl n hn)) g1
        obtain ⟨bk, e2, _⟩ := DataW.trod_int Tryz.underlying33 g2
        obtain ⟨hd2, e3, q3⟩ := DataW.trod_string Tryz.underlying9 g3
        have w3 : ∀ n ∈ y3.1.weights Tryz.prog 9, n ≤ reachBytes := fun n hn => hwi n (w_field he (j := 3) rfl rfl n hn)
        rw [q3.1] at w3
        have hm3 := w3 _ w_string
        rw [Array.length_toList, reach_is] at hm3
        simp only [List.cons.injEq, and_true] at e0 e1 e2 e3
        subst e0 e1 e2 e3
        have p0 := hcell 0 (by decide)
        have p1 := hcell 1 (by decide)
        have p2 := hcell 2 (by decide)
        have p3 := hcell 3 (by decide)
        rw [add_add] at p0 p1 p2 p3
        refine ⟨(⟨k, L, bk, hd2⟩, .slice ac lc cc), hr, hL, ?_, by simpa using p0, by simpa using p1, by simpa using p2, by simpa using p3⟩
        have hm3 : hd2.size ≤ 140737488351232 := hm3
        show hd2.size ≤ maxLen
        unfold maxLen
        omega
    obtain ⟨q, hq⟩ := choose_lt each
    refine ⟨(List.range len).map fun i => (q i).1, some x, len, cap, rfl, by simp, by omega, fun i hi => ?_⟩
    have hi' : i < len := by simpa using hi
    obtain ⟨hr, hL, hh, c0, c1, c2, c3⟩ := hq i hi'
    have hc0 := (hq 0 (by omega)).2.2.2.1
    have hx0 : x.add (0 * 4) = x := by rw [Nat.zero_mul]; unfold Addr.add; rw [if_pos rfl]
    rw [hx0] at hc0
    have hsp := spot_none hc0
    obtain ⟨b, off, sp⟩ := x
    simp only at hsp
    subst hsp
    have hadd : ∀ i, (⟨b, off, none⟩ : Addr).add i = ⟨b, off + i, none⟩ := fun i => by unfold Addr.add; split <;> simp_all
    have hlt := World.block_lt_of_cell? W _ hc0
    rw [hadd] at c0 c1 c2 c3
    exact ⟨b, off, (q i).2, rfl, hlt, by simpa using c0, by simpa [Nat.add_assoc] using c1, by simpa [Nat.add_assoc] using c2, by simpa [Nat.add_assoc] using c3, by simpa using hr, by simpa using hL, by simpa using hh⟩
end Go.Proofs.YtlbelkjgaeaaeaaGreat
