/-
  The law RulesOrders: its walk (printed by wip/gen_rqb.py).
-/
import Derived.Test.YtbjkbcbclgfmpaaGreatDoorRgR
import Derived.Test.YtbjkbcbclgfmpaaGreatDoorRgP
namespace Go.Proofs.YtbjkbcbclgfmpaaGreatDoor
open Go.RowKit Go.Shelf Go.Lib Go.Sort
set_option linter.unusedVariables false
set_option linter.unusedSectionVars false
set_option linter.unusedSimpArgs false

set_option maxHeartbeats 800000 in
set_option maxRecDepth 20000 in
theorem cAhead_any (x y : RC) (w : World) (q : Bool) (hq : aheadC x y = q) : Calls Tryz.prog 17 #[x.v, y.v] w fun e w' => e = .returned (.bool q) ∧ Below w.heap.size w w' := by
  obtain ⟨p, m, k, a, n, c⟩ := x
  obtain ⟨p2, m2, k2, a2, n2, c2⟩ := y
  obtain ⟨W2, hW2⟩ : ∃ W2, W2 = (w.alloc (.cells #[.int .i64 p, .string m, .int .i64 k, .slice a n c] 42)).alloc (.cells #[.int .i64 p2, .string m2, .int .i64 k2, .slice a2 n2 c2] 42) := ⟨_, rfl⟩
  have hG : Below w.heap.size w W2 := by rw [hW2]; exact ((Below.refl _ _).alloc (Nat.le_refl _) _).alloc (by simp) _
  have HO := Lib.hid (order_any ⟨p, m, k, a, n, c⟩ ⟨p2, m2, k2, a2, n2, c2⟩ W2 _ rfl)
  obtain ⟨z, hz⟩ : ∃ z, cfC ⟨p, m, k, a, n, c⟩ ⟨p2, m2, k2, a2, n2, c2⟩ = z := ⟨_, rfl⟩
  have hlt : decide (z < 0) = q := by
    rw [← hz, ← hq]
    exact Rp.cmpK_lt p m p2 m2
  rw [hz] at HO
  unfold RC.v at HO ⊢
  simp only at HO ⊢
  have HG := Lib.hid hG
  have HW := Lib.hid hW2
  have HQ := Lib.hid hlt
  clear hG hW2 hz hq hlt
  go_enter Tryz.func17, Tryz.ntmps17
  go_upto_region 1 with fail
  rw [← HW.out]
  have h0 : W2.cell? ⟨w.heap.size, 0, none⟩ = some (.int .i64 p) := by rw [HW.out]; simp [go_sem]
  have h1 : W2.cell? ⟨w.heap.size, 1, none⟩ = some (.string m) := by rw [HW.out]; simp [go_sem]
  have h2 : W2.cell? ⟨w.heap.size, 2, none⟩ = some (.int .i64 k) := by rw [HW.out]; simp [go_sem]
  have h3 : W2.cell? ⟨w.heap.size, 3, none⟩ = some (.slice a n c) := by rw [HW.out]; simp [go_sem]
  have k0 : W2.cell? ⟨w.heap.size + 1, 0, none⟩ = some (.int .i64 p2) := by rw [HW.out]; simp [go_sem]
  have k1 : W2.cell? ⟨w.heap.size + 1, 1, none⟩ = some (.string m2) := by rw [HW.out]; simp [go_sem]
  have k2' : W2.cell? ⟨w.heap.size + 1, 2, none⟩ = some (.int .i64 k2) := by rw [HW.out]; simp [go_sem]
  have k3 : W2.cell? ⟨w.heap.size + 1, 3, none⟩ = some (.slice a2 n2 c2) := by rw [HW.out]; simp [go_sem]
  clear HW
  go_wp2_with fail
  refine HO.out.mono ?_
  rintro e w3 ⟨rfl, hg3⟩
  have HB := Lib.hid (HG.out.trans (hg3.below.mono HG.out.size))
  clear hg3
  go_wp2_with fail
  go_ret
  exact ⟨by rw [← HQ.out]; rfl, HB.out⟩

theorem isort_idem (L : List Rl) : St.isort Rp.aheadR (St.isort Rp.aheadR L) = St.isort Rp.aheadR L := St.isort_srd swoR (St.srd_isort swoR L)

set_option maxHeartbeats 3200000 in
set_option maxRecDepth 20000 in
theorem rulesOrders_any {ok : Nat → Prop} (v : Value) (L0 : List Rl) (w : World) (hr : RdsR ok w v L0) (_ : L0.length * 56 ≤ 140737488351232) : Calls Tryz.prog 7 #[v] w fun e w' => e = .returned (.bool true) ∧ Below w.heap.size w w' := by
  have HF := Lib.hid (fewR_any hr)
  have HA := Lib.hid (fun W => ralive_any W)
  clear hr
  go_enter Tryz.func7, Tryz.ntmps7
  go_wp2_with fail
  refine HF.out.mono ?_
  rintro e w1 ⟨ad, n, cap, rfl, hn, hr, rfl⟩
  obtain ⟨L, hL⟩ : ∃ L, L = L0.take 60 := ⟨_, rfl⟩
  rw [← hL] at hn hr
  have hn60 : n ≤ 60 := by rw [hn, hL, List.length_take]; omega
  have HN := Lib.hid hn
  have HR := Lib.hid hr
  have HOr := Lib.hid (fun W (hW : Below w.heap.size w W) => order_rules ok _ L W (hr.below hW) (by omega))
  have HRo := Lib.hid (fun W (hW : Below w.heap.size w W) => rOrder_rules ok _ L W (hr.below hW) (by omega))
  have hcap' := hr.len.2.1
  have hcapm := hr.len.2.2
  unfold maxLen at hcapm
  clear hr hn hL HF
  go_wp2_with fail
  go_loopw [3] (fun s3 wr => ∃ j : Nat, s3 = .int .i64 ((j + 1 : Nat) : Int) ∧ j ≤ n ∧ Hid (Below w.heap.size w wr)) (fun s3 _ => n + 1 - (intOf s3).toNat)
  case atStart => exact ⟨0, rfl, Nat.zero_le _, Below.refl _ _⟩
  case round =>
    obtain ⟨wo, rfl⟩ : ∃ wo : World, wo = wr := ⟨wr, rfl⟩
    obtain ⟨j, rfl, hj, HB⟩ := hrel
    by_cases hlt : j + 1 < n
    · have hj1 : j < L.length := by rw [← HN.out]; omega
      have hj2 : j + 1 < L.length := by rw [← HN.out]; omega
      have hro := HR.out.below HB.out
      obtain ⟨b, off, x, e1, hb, _, x0, x1, x2, x3, hx⟩ := hro.get j hj1
      obtain ⟨b2, off2, y, e2, hb2, _, y0, y1, y2, y3, hy⟩ := hro.get (j + 1) hj2
      subst e1
      injection e2 with e2
      injection e2 with e2 e3 _
      subst e2 e3
      obtain ⟨q, hq⟩ : ∃ q, aheadC x y = q := ⟨_, rfl⟩
      have HCa := Lib.hid (fun W => cAhead_any x y W q hq)
      have HRa := Lib.hid (fun W => rAhead_any x y W q hq)
      unfold RC.v at HCa HRa
      obtain ⟨i, hi⟩ : ∃ i, j + 1 = i := ⟨_, rfl⟩
      rw [hi] at y0 y1 y2 y3 hlt ⊢
      have hm1 : (i : Int) - 1 = (j : Int) := by omega
      have hwr : IntKind.i64.wrap ((i : Int) - 1) = (j : Int) := by rw [hm1]; exact IntWalk.i64_in _ (by omega)
      have hwj : IntKind.i64.wrap (j : Int) = (j : Int) := IntWalk.i64_in _ (by omega)
      have hwi : IntKind.i64.wrap ((i : Int) + 1) = (i : Int) + 1 := IntWalk.i64_in _ (by omega)
      have hj0 : (0 : Int) ≤ (j : Int) := by omega
      have hjn : (j : Int) < (n : Int) := by omega
      have hi0 : (0 : Int) ≤ (i : Int) := by omega
      have hilt : (i : Int) < (n : Int) := by omega
      have HI := Lib.hid hi
      have HC : Hid (∀ W, Below wo.heap.size wo W → W.cell? ⟨b, off + j * 4, none⟩ = some (.int .i64 x.p) ∧ W.cell? ⟨b, off + j * 4 + 1, none⟩ = some (.string x.m) ∧ W.cell? ⟨b, off + j * 4 + 2, none⟩ = some (.int .i64 x.k) ∧ W.cell? ⟨b, off + j * 4 + 3, none⟩ = some (.slice x.a x.n x.c) ∧ W.cell? ⟨b, off + i * 4, none⟩ = some (.int .i64 y.p) ∧ W.cell? ⟨b, off + i * 4 + 1, none⟩ = some (.string y.m) ∧ W.cell? ⟨b, off + i * 4 + 2, none⟩ = some (.int .i64 y.k) ∧ W.cell? ⟨b, off + i * 4 + 3, none⟩ = some (.slice y.a y.n y.c)) := fun W hW =>
        ⟨(hW.cell (p := ⟨b, off + j * 4, none⟩) hb).trans x0, (hW.cell (p := ⟨b, off + j * 4 + 1, none⟩) hb).trans x1, (hW.cell (p := ⟨b, off + j * 4 + 2, none⟩) hb).trans x2, (hW.cell (p := ⟨b, off + j * 4 + 3, none⟩) hb).trans x3, (hW.cell (p := ⟨b, off + i * 4, none⟩) hb).trans y0, (hW.cell (p := ⟨b, off + i * 4 + 1, none⟩) hb).trans y1, (hW.cell (p := ⟨b, off + i * 4 + 2, none⟩) hb).trans y2, (hW.cell (p := ⟨b, off + i * 4 + 3, none⟩) hb).trans y3⟩
      clear hq hi hx hy hro hm1 x0 x1 x2 x3 y0 y1 y2 y3
      go_upto_region 5 with fail
      have hS0 : (fun W : World => W.cell? ⟨b, off + j * 4, none⟩ = some (.int .i64 x.p) ∧ W.cell? ⟨b, off + j * 4 + 1, none⟩ = some (.string x.m) ∧ W.cell? ⟨b, off + j * 4 + 2, none⟩ = some (.int .i64 x.k) ∧ W.cell? ⟨b, off + j * 4 + 3, none⟩ = some (.slice x.a x.n x.c) ∧ W.cell? ⟨b, off + i * 4, none⟩ = some (.int .i64 y.p) ∧ W.cell? ⟨b, off + i * 4 + 1, none⟩ = some (.string y.m) ∧ W.cell? ⟨b, off + i * 4 + 2, none⟩ = some (.int .i64 y.k) ∧ W.cell? ⟨b, off + i * 4 + 3, none⟩ = some (.slice y.a y.n y.c)) wo.drew := HC.out _ (Below.refl _ _).drew
      refine wp_region_heldG (fun W : World => W.cell? ⟨b, off + j * 4, none⟩ = some (.int .i64 x.p) ∧ W.cell? ⟨b, off + j * 4 + 1, none⟩ = some (.string x.m) ∧ W.cell? ⟨b, off + j * 4 + 2, none⟩ = some (.int .i64 x.k) ∧ W.cell? ⟨b, off + j * 4 + 3, none⟩ = some (.slice x.a x.n x.c) ∧ W.cell? ⟨b, off + i * 4, none⟩ = some (.int .i64 y.p) ∧ W.cell? ⟨b, off + i * 4 + 1, none⟩ = some (.string y.m) ∧ W.cell? ⟨b, off + i * 4 + 2, none⟩ = some (.int .i64 y.k) ∧ W.cell? ⟨b, off + i * 4 + 3, none⟩ = some (.slice y.a y.n y.c)) 99 (by kernel_rfl) ?_
      refine wpAnyG_takeP 0 (v := ?v0) rfl (by kernel_rfl) (fun _ _ _ h => h) (by rfl) ?h0 hS0 ?_
      case h0 => (intro wl; go_simp; try with_reducible rfl)
      try simp only [Act.put, List.setIfInBounds_toArray, List.set_cons_zero, List.set_cons_succ]
      refine wpAnyG_takeP 1 (v := ?v1) rfl (by kernel_rfl) (fun _ _ _ h => h) (by rfl) ?h1 hS0 ?_
      case h1 => (intro wl; go_simp; try with_reducible rfl)
      try simp only [Act.put, List.setIfInBounds_toArray, List.set_cons_zero, List.set_cons_succ]
      refine wpAnyG_takeP 2 (v := ?v2) rfl (by kernel_rfl) (fun _ _ _ h => h) (by rfl) ?h2 hS0 ?_
      case h2 => (intro wl; go_simp; try with_reducible rfl)
      try simp only [Act.put, List.setIfInBounds_toArray, List.set_cons_zero, List.set_cons_succ]
      refine wpAnyG_takeP 3 (v := ?v3) rfl (by kernel_rfl) (fun _ _ _ h => h) (by rfl) ?h3 hS0 ?_
      case h3 => (intro wl; go_simp; try with_reducible rfl)
      try simp only [Act.put, List.setIfInBounds_toArray, List.set_cons_zero, List.set_cons_succ]
      refine wpAnyG_takeA 4 (v := ?v4) rfl (by kernel_rfl) (fun _ _ _ h => h) (by rfl) ?h4 hS0 ?_
      case h4 => (intro wl hl; obtain ⟨l0, l1, l2, l3, l4, l5, l6, l7⟩ := hl; go_simp; try with_reducible rfl)
      try simp only [Act.put, List.setIfInBounds_toArray, List.set_cons_zero, List.set_cons_succ]
      refine wpAnyG_takeP 5 (v := ?v5) rfl (by kernel_rfl) (fun _ _ _ h => h) (by rfl) ?h5 hS0 ?_
      case h5 => (intro wl; go_simp; try with_reducible rfl)
      try simp only [Act.put, List.setIfInBounds_toArray, List.set_cons_zero, List.set_cons_succ]
      refine wpAnyG_takeP 6 (v := ?v6) rfl (by kernel_rfl) (fun _ _ _ h => h) (by rfl) ?h6 hS0 ?_
      case h6 => (intro wl; go_simp; try with_reducible rfl)
      try simp only [Act.put, List.setIfInBounds_toArray, List.set_cons_zero, List.set_cons_succ]
      refine wpAnyG_takeP 7 (v := ?v7) rfl (by kernel_rfl) (fun _ _ _ h => h) (by rfl) ?h7 hS0 ?_
      case h7 => (intro wl; go_simp; try with_reducible rfl)
      try simp only [Act.put, List.setIfInBounds_toArray, List.set_cons_zero, List.set_cons_succ]
      refine wpAnyG_takeA 8 (v := ?v8) rfl (by kernel_rfl) (fun _ _ _ h => h) (by rfl) ?h8 hS0 ?_
      case h8 => (intro wl hl; obtain ⟨l0, l1, l2, l3, l4, l5, l6, l7⟩ := hl; go_simp; try with_reducible rfl)
      try simp only [Act.put, List.setIfInBounds_toArray, List.set_cons_zero, List.set_cons_succ]
      refine wpAnyG_takeP 10 (v := ?v10) rfl (by kernel_rfl) (fun _ _ _ h => h) (by rfl) ?h10 hS0 ?_
      case h10 => (intro wl; go_simp; try with_reducible rfl)
      try simp only [Act.put, List.setIfInBounds_toArray, List.set_cons_zero, List.set_cons_succ]
      refine wpAnyG_takeP 11 (v := ?v11) rfl (by kernel_rfl) (fun _ _ _ h => h) (by rfl) ?h11 hS0 ?_
      case h11 => (intro wl; go_simp; try with_reducible rfl)
      try simp only [Act.put, List.setIfInBounds_toArray, List.set_cons_zero, List.set_cons_succ]
      refine wpAnyG_takeP 12 (v := ?v12) rfl (by kernel_rfl) (fun _ _ _ h => h) (by rfl) ?h12 hS0 ?_
      case h12 => (intro wl; go_simp; try with_reducible rfl)
      try simp only [Act.put, List.setIfInBounds_toArray, List.set_cons_zero, List.set_cons_succ]
      refine wpAnyG_takeP 13 (v := ?v13) rfl (by kernel_rfl) (fun _ _ _ h => h) (by rfl) ?h13 hS0 ?_
      case h13 => (intro wl; go_simp; try with_reducible rfl)
      try simp only [Act.put, List.setIfInBounds_toArray, List.set_cons_zero, List.set_cons_succ]
      refine wpAnyG_takeA 14 (v := ?v14) rfl (by kernel_rfl) (fun _ _ _ h => h) (by rfl) ?h14 hS0 ?_
      case h14 => (intro wl hl; obtain ⟨l0, l1, l2, l3, l4, l5, l6, l7⟩ := hl; go_simp; try with_reducible rfl)
      try simp only [Act.put, List.setIfInBounds_toArray, List.set_cons_zero, List.set_cons_succ]
      refine wpAnyG_takeP 15 (v := ?v15) rfl (by kernel_rfl) (fun _ _ _ h => h) (by rfl) ?h15 hS0 ?_
      case h15 => (intro wl; go_simp; try with_reducible rfl)
      try simp only [Act.put, List.setIfInBounds_toArray, List.set_cons_zero, List.set_cons_succ]
      refine wpAnyG_takeP 16 (v := ?v16) rfl (by kernel_rfl) (fun _ _ _ h => h) (by rfl) ?h16 hS0 ?_
      case h16 => (intro wl; go_simp; try with_reducible rfl)
      try simp only [Act.put, List.setIfInBounds_toArray, List.set_cons_zero, List.set_cons_succ]
      refine wpAnyG_takeP 17 (v := ?v17) rfl (by kernel_rfl) (fun _ _ _ h => h) (by rfl) ?h17 hS0 ?_
      case h17 => (intro wl; go_simp; try with_reducible rfl)
      try simp only [Act.put, List.setIfInBounds_toArray, List.set_cons_zero, List.set_cons_succ]
      refine wpAnyG_takeA 18 (v := ?v18) rfl (by kernel_rfl) (fun _ _ _ h => h) (by rfl) ?h18 hS0 ?_
      case h18 => (intro wl hl; obtain ⟨l0, l1, l2, l3, l4, l5, l6, l7⟩ := hl; go_simp; try with_reducible rfl)
      try simp only [Act.put, List.setIfInBounds_toArray, List.set_cons_zero, List.set_cons_succ]
      refine wpAnyG_one 9 rfl (by kernel_rfl) (fun K hK => ?_)
      go_simp
      go_at_call 17
      refine (HCa.out _).mono ?_
      rintro e w2 ⟨rfl, hb2⟩
      have hbo : Below wo.heap.size wo w2 := ((Below.refl _ _).drew).trans hb2
      have hS1 := HC.out w2 hbo
      have HB2 := Lib.hid hbo
      refine hK _ _ (fun _ => hS1) ?_
      clear hK K hb2 hbo hS0
      try simp only [Act.put, List.setIfInBounds_toArray, List.set_cons_zero, List.set_cons_succ]
      refine wpAnyG_one 19 rfl (by kernel_rfl) (fun K hK => ?_)
      go_simp
      go_at_call 18
      refine (HRa.out _).mono ?_
      rintro e w3 ⟨rfl, hg3⟩
      have hbo := HB2.out.trans (hg3.below.mono HB2.out.size)
      have hS2 := HC.out w3 hbo
      have HB3 := Lib.hid (HB.out.trans (hbo.mono HB.out.size))
      refine hK _ _ (fun _ => hS2) ?_
      clear hK K hg3 hbo hS1
      try simp only [Act.put, List.setIfInBounds_toArray, List.set_cons_zero, List.set_cons_succ]
      refine wpAnyG_one 20 rfl (by kernel_rfl) (fun K hK => ?_)
      go_simp
      refine hK _ _ (fun _ => hS2) ?_
      clear hK K
      try simp only [Act.put, List.setIfInBounds_toArray, List.set_cons_zero, List.set_cons_succ]
      refine wpAnyG_done (by kernel_rfl) ?_ _
      have hqq : (q != q) = false := by cases q <;> rfl
      clear hS2
      go_wp2_with fail
      go_roundw
      case rel => exact ⟨i, by first | rfl | go_num, by omega, HB3.out⟩
      case measure => simp [intOf]; omega
    · have hltz : ¬ ((j + 1 : Nat) : Int) < (n : Int) := by omega
      have HO1 := Lib.hid (HOr.out wo HB.out)
      clear hlt
      go_wp2_with fail
      refine HO1.out.mono ?_
      rintro e w2 ⟨v2, rfl, hr2, hb2⟩
      have HR2 := Lib.hid hr2
      have HB2 := Lib.hid (HB.out.trans (hb2.mono HB.out.size))
      have HO2 := Lib.hid (HRo.out w2 HB2.out)
      clear hr2 hb2 HO1
      go_wp2_with fail
      refine HO2.out.mono ?_
      rintro e w3 ⟨v3, rfl, hr3, hb3⟩
      have HR23 := Lib.hid (HR2.out.below hb3)
      have HB3 := Lib.hid (HB2.out.trans (hb3.mono HB2.out.size))
      have HS := Lib.hid (sameRules_same _ _ _ _ _ w3 HR23.out hr3)
      clear hr3 hb3 HO2
      go_wp2_with fail
      refine HS.out.mono ?_
      rintro e w4 ⟨rfl, hg4⟩
      have HR4 := Lib.hid (HR23.out.below hg4.below)
      have HB4 := Lib.hid (HB3.out.trans (hg4.below.mono HB3.out.size))
      have HO4 := Lib.hid (order_rules _ _ _ w4 HR4.out (by rw [St.length_isort, ← HN.out]; omega))
      clear hg4 HS
      go_wp2_with fail
      refine HO4.out.mono ?_
      rintro e w5 ⟨v5, rfl, hr5, hb5⟩
      rw [isort_idem] at hr5
      have HB5 := Lib.hid (HB4.out.trans (hb5.mono HB4.out.size))
      have HS5 := Lib.hid (sameRules_same _ _ _ _ _ w5 hr5 (HR4.out.below hb5))
      clear hr5 hb5 HO4
      go_wp2_with fail
      refine HS5.out.mono ?_
      rintro e w6 ⟨rfl, hg6⟩
      have HB6 := Lib.hid (HB5.out.trans (hg6.below.mono HB5.out.size))
      clear hg6 HS5
      go_wp2_with fail
      refine (HA.out _).mono ?_
      rintro e w7 ⟨rfl, hb7⟩
      have HB7 := Lib.hid (HB6.out.trans (hb7.mono HB6.out.size))
      clear hb7
      go_wp2_with fail
      go_ret
      exact ⟨rfl, HB7.out⟩
end Go.Proofs.YtbjkbcbclgfmpaaGreatDoor
