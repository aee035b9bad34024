/-
  Walks over the reference of rules: action, where ports are read; in every case.
-/
import Derived.Test.YtlamhpiiikcpiaaGreatDoorRgM
namespace Go.Proofs.YtlamhpiiikcpiaaGreatDoor
open Go.RowKit Go.Shelf Go.Lib Go.Sort
set_option linter.unusedVariables false
set_option linter.unusedSectionVars false
set_option linter.unusedSimpArgs false
set_option maxHeartbeats 6400000 in
set_option maxRecDepth 20000 in
theorem ract_all {ok : Nat → Prop} {rb i : Nat} {v : Value} {ws : List Wrd} {w : World} (h : RRd ok rb i 0 0 0 v ws w) (hok : ∀ b, ok b → b < w.heap.size) (hi : i ≤ 10) (h34' : (Pr.wd ws i).t = ⟨#[97, 108, 108]⟩) (hz : ∀ x ∈ ws, x.t.size ≤ 3000000) :
    Calls Tryz.prog 96 #[.pointer (some ⟨rb, 0, none⟩)] w (RActPost ok rb i v ws w) := by
  obtain ⟨W0, hW0⟩ : ∃ W0, W0 = w.alloc (.cells #[.int .i64 0, .slice none 0 0] 45) := ⟨_, rfl⟩
  have hb0 : Below w.heap.size w W0 := by rw [hW0]; exact (Below.refl _ _).alloc (Nat.le_refl _) _
  have hh0 : W0.heap[w.heap.size]? = some (.cells #[.int .i64 0, .slice none 0 0] 45 (0, 0)) := by rw [hW0]; exact heap_alloc_new _ _
  have hs0 : W0.heap.size = w.heap.size + 1 := by rw [hW0]; simp
  have hlt := h.r.lt
  have hfew := h.r.few
  have hwz : ∀ j, (Pr.wd ws j).t.size ≤ 3000000 := fun j => by
    unfold Pr.wd
    split
    · exact hz _ (List.getElem_mem _)
    · exact Nat.zero_le _
  have HWz := Lib.hid hwz
  have H0 := Lib.hid (h.below hb0)
  have HB0 := Lib.hid hb0
  have HH0 := Lib.hid hh0
  have HS0 := Lib.hid hs0
  have HW0 := Lib.hid hW0
  have HOk := Lib.hid hok
  obtain ⟨x, hx⟩ : ∃ x, Pr.wd ws i = x := ⟨_, rfl⟩
  have h34 : (Pr.wd ws i).t = ⟨#[97, 108, 108]⟩ ∨ (Pr.wd ws i).t = ⟨#[97, 110, 121]⟩ := .inl h34'
  rw [hx] at h34 h34'
  have HX := Lib.hid hx
  have hf := word_field
  have n1 : (x.t.toList == [100, 114, 111, 112]) = false := beq_eq_false_iff_ne.2 (str_ne (by rcases h34 with h | h <;> (rw [h]; simp)))
  have n2 : (x.t.toList == [100, 101, 108, 105, 118, 101, 114]) = false := beq_eq_false_iff_ne.2 (str_ne (by rcases h34 with h | h <;> (rw [h]; simp)))
  have hk0 : Pr.idx Pr.names x.t = 3 := by rw [idx_names, h34']; simp
  have q3 : (x.t.toList == [97, 108, 108]) = true := beq_iff_eq.2 (str_is h34')
  have q4 : (x.t.toList == [97, 110, 121]) = false := beq_eq_false_iff_ne.2 (str_ne (by rw [h34']; simp))
  have HK := Lib.hid hk0
  clear h hb0 hh0 hs0 hW0 hok h34 h34' hz hwz hk0
  go_enter Tryz.func96, Tryz.ntmps96
  go_upto_region 1 with fail
  rw [← HW0.out]
  clear HW0
  have HW1 := Lib.hid (rword_any H0.out.r x hx)
  clear hx
  go_wp2_with fail
  refine HW1.out.mono ?_
  rintro e w1 ⟨rfl, hb1⟩
  have HR1 := Lib.hid (H0.out.below hb1)
  have HB1 := Lib.hid (HB0.out.trans (hb1.mono HB0.out.size))
  have HH1 := Lib.hid ((hb1.block _ (by rw [HS0.out]; omega)).trans HH0.out)
  have HS1 : Hid (w.heap.size + 1 ≤ w1.heap.size) := by show _ ≤ _; have := hb1.size; have := HS0.out; omega
  clear hb1 H0 HW1
  obtain ⟨w2, hw2⟩ : ∃ w2, w2 = w1.alloc (.cells #[.int .i64 3, .slice none 0 0] 45) := ⟨_, rfl⟩
  have hb2 : Below w1.heap.size w1 w2 := by rw [hw2]; exact (Below.refl _ _).alloc (Nat.le_refl _) _
  have hh2 : w2.heap[w1.heap.size]? = some (.cells #[.int .i64 3, .slice none 0 0] 45 (0, 0)) := by rw [hw2]; exact heap_alloc_new _ _
  have hs2 : w2.heap.size = w1.heap.size + 1 := by rw [hw2]; simp
  have hAb2 : AbS w2 w1.heap.size w.heap.size 3 (.slice none 0 0) := ⟨by simp [World.cell?, hh2], by simp [World.cell?, hh2], by simp [World.frozen?, hh2], (hb2.block _ (by have := HS1.out; omega)).trans HH1.out⟩
  have a0 := hAb2.c0
  have fa0 : w2.frozen? ⟨w1.heap.size, 0, none⟩ = false := by simp [World.frozen?, hh2]
  have HAb2 := Lib.hid hAb2
  have HR2 := Lib.hid (HR1.out.below hb2)
  have HB2 := Lib.hid hb2
  have HS2 := Lib.hid hs2
  have HW2 := Lib.hid hw2
  clear hw2 hb2 hh2 hs2 hAb2 HR1
  go_upto_region 11 with fail
  rw [← HW2.out]
  clear HW2
  obtain ⟨w3, hw3⟩ : ∃ w3, w3 = w2.setCell ⟨rb, 1, none⟩ (.int .i64 ((i : Int) + 1)) := ⟨_, rfl⟩
  have hst := HR2.out.step (i + 1)
  have e1 : ((i + 1 : Nat) : Int) = (i : Int) + 1 := by omega
  rw [e1, ← hw3] at hst
  have hne : rb ≠ w1.heap.size := by have := HS1.out; omega
  have HAb3 := Lib.hid (HAb2.out.but hst.2 (fun e => by omega) (fun e => by omega))
  have HB23 : Hid (But (fun b => b = rb ∨ w1.heap.size ≤ b) w2 w3) := hst.2.mono fun b hb => .inl hb
  have HR3 := Lib.hid hst.1
  have HW3 := Lib.hid hw3
  have c1 := HR2.out.r.c1
  have f1 := HR2.out.r.f1
  have hw9 : IntKind.i64.wrap ((i : Int) + 1) = (i : Int) + 1 := IntWalk.i64_in _ (by omega)
  clear hst hw3 e1
  go_upto_region 14 with fail
  rw [← HW3.out]
  clear HW3 c1 f1 hw9 q3 q4 n1 n2 HR2 HAb2 a0 fa0
  obtain ⟨ab, hab⟩ : ∃ ab, ab = w1.heap.size := ⟨_, rfl⟩
  have HNr : Hid (¬ w.heap.size = rb) := by show ¬ _; omega
  obtain ⟨y, hy⟩ : ∃ y, Pr.wd ws (i + 1) = y := ⟨_, rfl⟩
  have HY := Lib.hid hy
  have HM := Lib.hid (rmust_any HR3.out (by omega) ⟨#[40]⟩ 51)
  clear hy
  go_wp2_with fail
  refine HM.out.mono ?_
  rintro e w4 ⟨rfl, hb4, hm4⟩
  have HAb4 := Lib.hid (HAb3.out.but hb4 (fun e => by omega) (fun e => by omega))
  have HB24 : Hid (But (fun b => b = rb ∨ w1.heap.size ≤ b) w2 w4) := HB23.out.trans (hb4.mono fun b hb => .inl hb)
  have HB04 : Hid (∀ W, But (fun b => b = rb ∨ w1.heap.size ≤ b) w2 W → But (fun b => b = rb) w W) := fun W hW => But.less (S := fun b => b = rb ∨ w1.heap.size ≤ b) (((But.below HB1.out).trans (But.below (HB2.out))).trans hW) (fun b hb h => by
    rcases h with h | h
    · exact h
    · have := HS1.out; omega)
  have HSz4 : Hid (w1.heap.size < w4.heap.size) := by show _ < _; have := HB24.out.size; have := HS2.out; omega
  clear hb4 HM HAb3 HB23 HR3 hab ab
  rw [HY.out] at hm4
  rcases hm4 with ⟨hyt, hr4⟩ | ⟨hyt, hr4⟩
  · have HYt := Lib.hid hyt
    have HR4 := Lib.hid hr4
    clear hr4 hyt
    have HPA : Hid (∀ T j, Pr.portsAt ws (i + 2) = .ok (T, j) → Pr.act ws i = if ¬ (Pr.wd ws j).t = ⟨#[41]⟩ then .error (51, j) else if 64 < (T.foldl Pr.putL []).length then .error (3, j) else .ok (3, (T.foldl Pr.putL []).map Wd.mkB, j + 1)) := fun T j hT => by
      unfold Pr.act
      rw [HX.out, HK.out, if_neg (by decide), if_neg (by decide), if_neg (by rw [HY.out]; exact fun e => e HYt.out), hT]
    have HPE : Hid (∀ j, Pr.portsAt ws (i + 2) = .error j → Pr.act ws i = .error (31, j)) := fun j hT => by
      unfold Pr.act
      rw [HX.out, HK.out, if_neg (by decide), if_neg (by decide), if_neg (by rw [HY.out]; exact fun e => e HYt.out), hT]
    go_wp2_with fail
    go_loopw [47] (fun s47 wr => ∃ (p n c : Nat) (T : List (List UInt8)) (ad : Option Addr), i + 2 ≤ p ∧ p ≤ ws.length + 3 + i ∧ Hid (T.length ≤ p) ∧ Hid ((T.foldl Pr.putL []).length = n) ∧ Hid (RRd ok rb p 0 0 0 v ws wr) ∧ Hid (RdsO (fun b => w2.heap.size ≤ b) wr (.slice ad n c) ((T.foldl Pr.putL []).map Wd.mkB)) ∧ Hid (AbS wr w1.heap.size w.heap.size 3 (.slice ad n c)) ∧ Hid (But (fun b => b = rb ∨ w1.heap.size ≤ b) w4 wr) ∧ Hid (Pr.portsAt ws (i + 2) = prep T (Pr.portsAt ws p))) (fun s47 wr => ws.length + 10 + i - cellN wr ⟨rb, 1, none⟩)
    case atStart =>
      refine ⟨i + 2, 0, 0, [], none, Nat.le_refl _, by omega, Nat.zero_le _, rfl, HR4, ⟨rdsS_nil _, okV_nil _ _ _⟩, HAb4, But.refl _ _, ?_⟩
      show _ = _
      cases Pr.portsAt ws (i + 2) with
      | ok r => simp [prep]
      | error e => rfl
    case round =>
      clear HR4 HAb4
      obtain ⟨wo, rfl⟩ : ∃ wo : World, wo = wr := ⟨wr, rfl⟩
      obtain ⟨p, n, c, T, ad, hp1, hp2, HNp, HNn, HRo, HOw, HAo, HBo, HPo⟩ := hrel
      have HM0 : Hid (cellN wo ⟨rb, 1, none⟩ = p) := by show _ = _; unfold cellN; rw [HRo.out.r.c1]; simp [intOf]
      obtain ⟨x2, hx2⟩ : ∃ x2, Pr.wd ws p = x2 := ⟨_, rfl⟩
      have HX2 := Lib.hid hx2
      have hxsz : x2.t.size ≤ 3000000 := by rw [← hx2]; exact HWz.out p
      have HWd := Lib.hid (rword_any HRo.out.r x2 hx2)
      have hn4 : n ≤ 4000000 := by
        have h1 := Pr.foldl_put_len T []
        rw [HNn.out] at h1
        have := HNp.out
        simp at h1
        omega
      have hn5 : (T.foldl Pr.putL []).Pairwise (fun a b => a < b) := (Pr.foldl_put_spec T [] List.Pairwise.nil).1
      have HPw := Lib.hid hn5
      have hwlo : w1.heap.size < wo.heap.size := by have := HSz4.out; have := HBo.out.size; omega
      have HBok : Hid (∀ W, But (fun b => b = rb ∨ w1.heap.size ≤ b) w4 W → But (fun b => b = rb) w W) := fun W hW => HB04.out W (HB24.out.trans hW)
      have d4 := HRo.out.c4
      clear hx2 hn5
      go_upto_region 16 with fail
      go_wp2_with fail
      refine HWd.out.mono ?_
      rintro e wa ⟨rfl, hba⟩
      have HBa := Lib.hid hba
      clear hba
      go_wp2_with fail
      by_cases hnb : Rp.nameB x2.t.data.toList = true
      · refine (rname_is x2.t true (by unfold maxLen; omega) hnb wa).mono ?_
        rintro e wb ⟨rfl, rfl⟩
        have hnbx : Rp.nameB (Pr.wd ws p).t.data.toList = true := by rw [HX2.out]; exact hnb
        have HNbx := Lib.hid hnbx
        have hRa := HRo.out.below HBa.out
        have hAa := HAo.out.below HBa.out
        have hOa := HOw.out.below HBa.out
        have HWd2 := Lib.hid (rword_any (hRa.r.below (Below.refl _ _).drew) x2 HX2.out)
        have HRa := Lib.hid hRa
        have HAa := Lib.hid hAa
        have HOa := Lib.hid hOa
        have hwla : w1.heap.size < wa.heap.size := by have := HBa.out.size; omega
        have hS0 : (fun W : World => W.cell? ⟨w1.heap.size, 1, none⟩ = some (.slice ad n c)) wa.drew := hAa.c1
        clear hnb hnbx hRa hAa hOa d4 HWd
        go_upto_region 19 with fail
        refine wp_region_heldG (fun W : World => W.cell? ⟨w1.heap.size, 1, none⟩ = some (.slice ad n c)) 7 (by kernel_rfl) ?_
        refine wpAnyG_takeP 0 (v := ?v0) rfl (by kernel_rfl) (fun _ _ _ h => h) (by rfl) ?h0 hS0 ?_
        case h0 => (intro wl; go_simp; try with_reducible rfl)
        try simp only [Act.put, List.setIfInBounds_toArray, List.set_cons_zero, List.set_cons_succ]
        refine wpAnyG_takeL 1 (v := ?v1) rfl (by kernel_rfl) (fun _ _ _ h => h) (by rfl) ?h1 hS0 ?_
        case h1 => (intro wl hl; have l0 := hl; go_simp; try with_reducible rfl)
        try simp only [Act.put, List.setIfInBounds_toArray, List.set_cons_zero, List.set_cons_succ]
        refine wpAnyG_takeP 2 (v := ?v2) rfl (by kernel_rfl) (fun _ _ _ h => h) (by rfl) ?h2 hS0 ?_
        case h2 => (intro wl; go_simp; try with_reducible rfl)
        try simp only [Act.put, List.setIfInBounds_toArray, List.set_cons_zero, List.set_cons_succ]
        refine wpAnyG_one 3 rfl (by kernel_rfl) (fun K hK => ?_)
        go_simp
        go_at_call 95
        refine HWd2.out.mono ?_
        rintro e wb ⟨rfl, hbb⟩
        have hbo : Below wa.heap.size wa wb := ((Below.refl _ _).drew).trans hbb
        have hS1 : (fun W : World => W.cell? ⟨w1.heap.size, 1, none⟩ = some (.slice ad n c)) wb := (hbo.cell (p := ⟨w1.heap.size, 1, none⟩) hwla).trans HAa.out.c1
        have HBb := Lib.hid hbo
        clear hbb hbo
        refine hK _ _ (fun _ => hS1) ?_
        clear hK K
        try simp only [Act.put, List.setIfInBounds_toArray, List.set_cons_zero, List.set_cons_succ]
        refine wpAnyG_takeP 4 (v := ?v4) rfl (by kernel_rfl) (fun _ _ _ h => h) (by rfl) ?h4 hS1 ?_
        case h4 => (intro wl; go_simp; try with_reducible rfl)
        try simp only [Act.put, List.setIfInBounds_toArray, List.set_cons_zero, List.set_cons_succ]
        refine wpAnyG_one 5 rfl (by kernel_rfl) (fun K hK => ?_)
        go_simp
        go_at_call 125
        refine (put_any (HOa.out.below HBb.out) HNn.out hn4 HPw.out x2.t).mono ?_
        rintro e wc ⟨ad2, n2, c2, rfl, hn2, ho2, hb2c⟩
        rw [← Pr.foldl_put_snoc] at hn2 ho2
        have hS2 : (fun W : World => W.cell? ⟨w1.heap.size, 1, none⟩ = some (.slice ad n c)) wc := (hb2c.cell (p := ⟨w1.heap.size, 1, none⟩) (by show w1.heap.size < _; have := HBb.out.size; omega)).trans hS1
        have HBc := Lib.hid (HBb.out.trans (hb2c.mono HBb.out.size))
        have HN2 := Lib.hid hn2
        have HO2 := Lib.hid (ho2.mono (ok' := fun b => w2.heap.size ≤ b) fun b hb => hb.elim (fun h => h) (fun h => by have := HBb.out.size; have := HS2.out; omega))
        clear hn2 ho2 hb2c
        refine hK _ _ (fun _ => hS2) ?_
        clear hK K
        try simp only [Act.put, List.setIfInBounds_toArray, List.set_cons_zero, List.set_cons_succ]
        refine wpAnyG_takeP 6 (v := ?v6) rfl (by kernel_rfl) (fun _ _ _ h => h) (by rfl) ?h6 hS2 ?_
        case h6 => (intro wl; go_simp; try with_reducible rfl)
        try simp only [Act.put, List.setIfInBounds_toArray, List.set_cons_zero, List.set_cons_succ]
        have hAc := HAa.out.below HBc.out
        have q1 := hAc.c1
        have q2 := hAc.f1
        refine wpAnyG_one 7 rfl (by kernel_rfl) (fun K hK => ?_)
        go_simp
        refine hK _ _ (fun h => absurd h (by decide)) ?_
        clear hK K
        refine wpAnyG_done (by kernel_rfl) ?_ _
        obtain ⟨wd, hwd⟩ : ∃ wd, wd = wc.setCell ⟨w1.heap.size, 1, none⟩ (.slice ad2 n2 c2) := ⟨_, rfl⟩
        rw [← hwd]
        have hset := hAc.set (by have := HS1.out; omega) (.slice ad2 n2 c2)
        rw [← hwd] at hset
        have hRd := (HRa.out.below HBc.out).but hset.2 (fun e => by have := HS1.out; omega) (fun b hb e => by have := HOk.out b hb; have := HS1.out; omega)
        have hst := hRd.step (p + 1)
        have e2 : ((p + 1 : Nat) : Int) = (p : Int) + 1 := by omega
        rw [e2] at hst
        obtain ⟨we, hwe⟩ : ∃ we, we = wd.setCell ⟨rb, 1, none⟩ (.int .i64 ((p : Int) + 1)) := ⟨_, rfl⟩
        rw [← hwe] at hst
        have c1 := hRd.r.c1
        have f1 := hRd.r.f1
        have hw9 : IntKind.i64.wrap ((p : Int) + 1) = (p : Int) + 1 := IntWalk.i64_in _ (by omega)
        have HRe := Lib.hid hst.1
        have HAe := Lib.hid (hset.1.but hst.2 (fun e => by have := HS1.out; omega) (fun e => HNr.out e))
        have HOe := Lib.hid ((HO2.out.but hset.2 (fun b hb e => by have := HS2.out; omega)).but hst.2 (fun b hb e => by have := HS2.out; have := HS1.out; omega))
        have hbte : But (fun b => b = rb ∨ w1.heap.size ≤ b) w4 we := (((HBo.out.trans (But.below HBa.out)).trans (But.below HBc.out)).trans (hset.2.mono fun b hb => .inr (by omega))).trans (hst.2.mono fun b hb => .inl hb)
        have HBe := Lib.hid hbte
        have HWe := Lib.hid hwe
        obtain ⟨y2, hy2⟩ : ∃ y2, Pr.wd ws (p + 1) = y2 := ⟨_, rfl⟩
        have HY2 := Lib.hid hy2
        have HWf := Lib.hid (rword_any hst.1.r y2 hy2)
        clear hwd hset hRd hst e2 hwe hbte hS0 hS1 hS2 q1 q2 hAc HWd2 HRa HAa HOa HO2 HBc HBb HOw HAo HRo hy2
        go_upto_region 21 with fail
        rw [← HWe.out]
        clear HWe c1 f1
        go_wp2_with fail
        refine HWf.out.mono ?_
        rintro e wf ⟨rfl, hbf⟩
        have HRf := Lib.hid (HRe.out.below hbf)
        have HAf := Lib.hid (HAe.out.below hbf)
        have HOf := Lib.hid (HOe.out.below hbf)
        have HBf := Lib.hid (HBe.out.trans (But.below hbf))
        clear hbf HWf HRe HAe HOe HBe
        by_cases hcm : y2.t = ⟨#[44]⟩
        · have hP2 : Hid (Pr.portsAt ws (i + 2) = prep (T ++ [x2.t.data.toList]) (Pr.portsAt ws (p + 2))) := by
            show _ = _
            rw [HPo.out, ports_more T HNbx.out (by rw [HY2.out]; exact hcm), HX2.out]
          have qm : (y2.t.toList == [44]) = true := beq_iff_eq.2 (str_is hcm)
          have hstf := HRf.out.step (p + 2)
          obtain ⟨p1, hp1'⟩ : ∃ p1, p + 1 = p1 := ⟨_, rfl⟩
          have e2 : ((p + 2 : Nat) : Int) = (p1 : Int) + 1 := by omega
          have c1 := HRf.out.r.c1
          have f1 := HRf.out.r.f1
          rw [hp1'] at c1
          rw [e2] at hstf
          have hw8 : IntKind.i64.wrap ((p1 : Int) + 1) = (p1 : Int) + 1 := IntWalk.i64_in _ (by omega)
          obtain ⟨wg, hwg⟩ : ∃ wg, wg = wf.setCell ⟨rb, 1, none⟩ (.int .i64 ((p1 : Int) + 1)) := ⟨_, rfl⟩
          rw [← hwg] at hstf
          have HRg := Lib.hid hstf.1
          have HAg := Lib.hid (HAf.out.but hstf.2 (fun e => by have := HS1.out; omega) (fun e => HNr.out e))
          have HOg := Lib.hid (HOf.out.but hstf.2 (fun b hb e => by have := HS2.out; have := HS1.out; omega))
          have HBg := Lib.hid (HBf.out.trans (hstf.2.mono fun b hb => .inl hb))
          have HWg := Lib.hid hwg
          have HMg : Hid (cellN wg ⟨rb, 1, none⟩ = p + 2) := by show _ = _; unfold cellN; rw [hstf.1.r.c1]; simp [intOf]; omega
          have hpl : p < ws.length := Pr.name_in HNbx.out
          clear hwg hstf e2 hcm hp1'
          go_wp2_with fail
          rw [← HWg.out]
          go_roundw
          case rel => exact ⟨p + 2, n2, c2, T ++ [x2.t.data.toList], ad2, by omega, by omega, (by have := HNp.out; show _ ≤ _; simp; omega : Hid ((T ++ [x2.t.data.toList]).length ≤ p + 2)), HN2, HRg, HOg, HAg, HBg, hP2⟩
          case measure => rw [HMg.out, HM0.out]; omega
        · have hP1 : Pr.portsAt ws (i + 2) = .ok (T ++ [x2.t.data.toList], p + 1) := by rw [HPo.out, ports_last HNbx.out (by rw [HY2.out]; exact hcm), HX2.out]; rfl
          have hA := HPA.out _ _ hP1
          rw [HN2.out, HY2.out] at hA
          have qm : (y2.t.toList == [44]) = false := beq_eq_false_iff_ne.2 (str_ne hcm)
          have HA := Lib.hid hA
          have HWz2 := Lib.hid (rword_any HRf.out.r y2 HY2.out)
          have d4 := HRf.out.c4
          clear hcm hP1 hA
          by_cases hcl : y2.t = ⟨#[41]⟩
          · have ql : (y2.t.toList == [41]) = true := beq_iff_eq.2 (str_is hcl)
            have HCl := Lib.hid hcl
            clear hcl
            by_cases hm : 64 < n2
            · have hmz : (64 : Int) < (n2 : Int) := by omega
              have hPb : Pr.act ws i = .error (3, p + 1) := by rw [HA.out, if_neg (fun e => e HCl.out), if_pos hm]
              have HPb := Lib.hid hPb
              clear hPb
              go_wp2_with fail
              refine HWz2.out.mono ?_
              rintro e wh ⟨rfl, hbh⟩
              have HAh := Lib.hid (HAf.out.below hbh)
              have z9 := HAh.out.c1
              have HBh := Lib.hid (HBf.out.trans (But.below hbh))
              have HFl := Lib.hid (fail_any (HRf.out.below hbh) 3 y2 HY2.out)
              clear hbh
              go_wp2_with fail
              refine HFl.out.mono ?_
              rintro e wi ⟨rfl, hri, hbi⟩
              have HRi := Lib.hid hri
              have HAi := Lib.hid (HAh.out.but hbi (fun e => by have := HS1.out; omega) (fun e => HNr.out e))
              have HBi := Lib.hid (HBh.out.trans (hbi.mono fun b hb => .inl hb))
              have HMu := Lib.hid (rmust_done hri (by decide) ⟨#[41]⟩ 51)
              clear hri hbi z9
              go_wp2_with fail
              refine HMu.out.mono ?_
              rintro e wj ⟨rfl, rfl⟩
              have hAl := HAi.out
              have z0 := hAl.c0
              have z1 := hAl.c1
              have hnb := hAl.nb
              have t0 : wi.cell? ⟨w.heap.size, 0, none⟩ = some (.int .i64 0) := by simp [World.cell?, hnb]
              have t1 : wi.cell? ⟨w.heap.size, 1, none⟩ = some (.slice none 0 0) := by simp [World.cell?, hnb]
              have g0 : wi.frozen? ⟨w.heap.size, 0, none⟩ = false := by simp [World.frozen?, hnb]
              have g1 : wi.frozen? ⟨w.heap.size, 1, none⟩ = false := by simp [World.frozen?, hnb]
              clear hAl hnb
              go_wp2_with fail
              refine bodyPost_ret (res_ract _ w.heap.size _ 3 ad2 n2 c2 rfl ?_ ?_) rfl ?_
              · exact cell_setd2 (cell_set_same _ t0) (by simp)
              · exact cell_set_same _ (cell_setd2 t1 (by simp))
              have hbs : But (fun b => b = w.heap.size) wi ((wi.setCell ⟨w.heap.size, 0, none⟩ (.int .i64 3)).setCell ⟨w.heap.size, 1, none⟩ (.slice ad2 n2 c2)) := (But.set (S := fun b => b = w.heap.size) (a := ⟨w.heap.size, 0, none⟩) rfl _).trans (But.set (S := fun b => b = w.heap.size) (a := ⟨w.heap.size, 1, none⟩) rfl _)
              unfold RActPost
              rw [HPb.out]
              refine ⟨⟨_, _, _, _, rfl⟩, ⟨p + 1, ?_⟩, but_fresh (HBok.out _ HBi.out) hbs (fun b hb => by omega)⟩
              rw [HY2.out]
              exact HRi.out.but hbs (fun e => HNr.out e.symm) (fun b hb e => by have := HOk.out b hb; omega)
            · have hmz : decide ((64 : Int) < (n2 : Int)) = false := by simp; omega
              have hPb : Pr.act ws i = .ok (3, ((T ++ [x2.t.data.toList]).foldl Pr.putL []).map Wd.mkB, p + 1 + 1) := by rw [HA.out, if_neg (fun e => e HCl.out), if_neg hm]
              have HPb := Lib.hid hPb
              clear hPb
              go_wp2_with fail
              refine HWz2.out.mono ?_
              rintro e wh ⟨rfl, hbh⟩
              have HAh := Lib.hid (HAf.out.below hbh)
              have z9 := HAh.out.c1
              have HBh := Lib.hid (HBf.out.trans (But.below hbh))
              have HOh := Lib.hid (HOf.out.below hbh)
              have HMu := Lib.hid (rmust_any (HRf.out.below hbh) (by omega) ⟨#[41]⟩ 51)
              clear hbh
              go_wp2_with fail
              refine HMu.out.mono ?_
              rintro e wi ⟨rfl, hbi, hmi⟩
              rw [HY2.out] at hmi
              have hri : RRd ok rb (p + 1 + 1) 0 0 0 v ws wi := by
                rcases hmi with ⟨_, h⟩ | ⟨h, _⟩
                · exact h
                · exact absurd HCl.out h
              have HRi := Lib.hid hri
              have HAi := Lib.hid (HAh.out.but hbi (fun e => by have := HS1.out; omega) (fun e => HNr.out e))
              have HOi := Lib.hid (HOh.out.but hbi (fun b hb e => by have := HS2.out; have := HS1.out; omega))
              have HBi := Lib.hid (HBh.out.trans (hbi.mono fun b hb => .inl hb))
              clear hri hbi hmi z9
              have hAl := HAi.out
              have z0 := hAl.c0
              have z1 := hAl.c1
              have hnb := hAl.nb
              have t0 : wi.cell? ⟨w.heap.size, 0, none⟩ = some (.int .i64 0) := by simp [World.cell?, hnb]
              have t1 : wi.cell? ⟨w.heap.size, 1, none⟩ = some (.slice none 0 0) := by simp [World.cell?, hnb]
              have g0 : wi.frozen? ⟨w.heap.size, 0, none⟩ = false := by simp [World.frozen?, hnb]
              have g1 : wi.frozen? ⟨w.heap.size, 1, none⟩ = false := by simp [World.frozen?, hnb]
              clear hAl hnb
              go_wp2_with fail
              refine bodyPost_ret (res_ract _ w.heap.size _ 3 ad2 n2 c2 rfl ?_ ?_) rfl ?_
              · exact cell_setd2 (cell_set_same _ t0) (by simp)
              · exact cell_set_same _ (cell_setd2 t1 (by simp))
              have hbs : But (fun b => b = w.heap.size) wi ((wi.setCell ⟨w.heap.size, 0, none⟩ (.int .i64 3)).setCell ⟨w.heap.size, 1, none⟩ (.slice ad2 n2 c2)) := (But.set (S := fun b => b = w.heap.size) (a := ⟨w.heap.size, 0, none⟩) rfl _).trans (But.set (S := fun b => b = w.heap.size) (a := ⟨w.heap.size, 1, none⟩) rfl _)
              unfold RActPost
              rw [HPb.out]
              exact ⟨ad2, n2, c2, rfl, (HOi.out.but hbs (fun b hb e => by have := HS2.out; have := HS1.out; omega)).mono (fun b hb => by have := HS2.out; have := HS1.out; omega), HRi.out.but hbs (fun e => HNr.out e.symm) (fun b hb e => by have := HOk.out b hb; omega), but_fresh (HBok.out _ HBi.out) hbs (fun b hb => by omega)⟩
          · have ql : (y2.t.toList == [41]) = false := beq_eq_false_iff_ne.2 (str_ne hcl)
            have hPb : Pr.act ws i = .error (51, p + 1) := by rw [HA.out, if_pos hcl]
            have HPb := Lib.hid hPb
            have HCl := Lib.hid hcl
            clear hPb hcl
            go_wp2_with fail
            refine HWz2.out.mono ?_
            rintro e wh ⟨rfl, hbh⟩
            have HAh := Lib.hid (HAf.out.below hbh)
            have HBh := Lib.hid (HBf.out.trans (But.below hbh))
            have HMu := Lib.hid (rmust_any (HRf.out.below hbh) (by omega) ⟨#[41]⟩ 51)
            clear hbh
            go_wp2_with fail
            refine HMu.out.mono ?_
            rintro e wi ⟨rfl, hbi, hmi⟩
            rw [HY2.out] at hmi
            have hri : RRd ok rb (p + 1) y2.l y2.c 51 v ws wi := by
              rcases hmi with ⟨h, _⟩ | ⟨_, h⟩
              · exact absurd h HCl.out
              · exact h
            have HRi := Lib.hid hri
            have HAi := Lib.hid (HAh.out.but hbi (fun e => by have := HS1.out; omega) (fun e => HNr.out e))
            have HBi := Lib.hid (HBh.out.trans (hbi.mono fun b hb => .inl hb))
            clear hri hbi hmi
            have hAl := HAi.out
            have z0 := hAl.c0
            have z1 := hAl.c1
            have hnb := hAl.nb
            have t0 : wi.cell? ⟨w.heap.size, 0, none⟩ = some (.int .i64 0) := by simp [World.cell?, hnb]
            have t1 : wi.cell? ⟨w.heap.size, 1, none⟩ = some (.slice none 0 0) := by simp [World.cell?, hnb]
            have g0 : wi.frozen? ⟨w.heap.size, 0, none⟩ = false := by simp [World.frozen?, hnb]
            have g1 : wi.frozen? ⟨w.heap.size, 1, none⟩ = false := by simp [World.frozen?, hnb]
            clear hAl hnb
            go_wp2_with fail
            refine bodyPost_ret (res_ract _ w.heap.size _ 3 ad2 n2 c2 rfl ?_ ?_) rfl ?_
            · exact cell_setd2 (cell_set_same _ t0) (by simp)
            · exact cell_set_same _ (cell_setd2 t1 (by simp))
            have hbs : But (fun b => b = w.heap.size) wi ((wi.setCell ⟨w.heap.size, 0, none⟩ (.int .i64 3)).setCell ⟨w.heap.size, 1, none⟩ (.slice ad2 n2 c2)) := (But.set (S := fun b => b = w.heap.size) (a := ⟨w.heap.size, 0, none⟩) rfl _).trans (But.set (S := fun b => b = w.heap.size) (a := ⟨w.heap.size, 1, none⟩) rfl _)
            unfold RActPost
            rw [HPb.out]
            refine ⟨⟨_, _, _, _, rfl⟩, ⟨p + 1, ?_⟩, but_fresh (HBok.out _ HBi.out) hbs (fun b hb => by omega)⟩
            rw [HY2.out]
            exact HRi.out.but hbs (fun e => HNr.out e.symm) (fun b hb e => by have := HOk.out b hb; omega)
      · have hnb' : Rp.nameB x2.t.data.toList = false := by simpa using hnb
        refine (rname_is x2.t false (by unfold maxLen; omega) hnb' wa).mono ?_
        rintro e wb ⟨rfl, rfl⟩
        have hP : Pr.act ws i = .error (31, p) := HPE.out _ (by
          have h2 := HPo.out
          rw [ports_bad' (p := p) (by rw [HX2.out]; exact hnb')] at h2
          exact h2)
        have HP := Lib.hid hP
        have HFl := Lib.hid (fail_any (HRo.out.below HBa.out) 31 x2 HX2.out)
        clear hnb hnb' hP d4
        go_wp2_with fail
        refine HFl.out.mono ?_
        rintro e wi ⟨rfl, hri, hbi⟩
        have HRi := Lib.hid hri
        have HAi := Lib.hid ((HAo.out.below HBa.out).but hbi (fun e => by have := HS1.out; omega) (fun e => HNr.out e))
        have HBi := Lib.hid ((HBo.out.trans (But.below HBa.out)).trans (hbi.mono fun b hb => .inl hb))
        clear hri hbi
        have hAl := HAi.out
        have z0 := hAl.c0
        have z1 := hAl.c1
        have hnb := hAl.nb
        have t0 : wi.cell? ⟨w.heap.size, 0, none⟩ = some (.int .i64 0) := by simp [World.cell?, hnb]
        have t1 : wi.cell? ⟨w.heap.size, 1, none⟩ = some (.slice none 0 0) := by simp [World.cell?, hnb]
        have g0 : wi.frozen? ⟨w.heap.size, 0, none⟩ = false := by simp [World.frozen?, hnb]
        have g1 : wi.frozen? ⟨w.heap.size, 1, none⟩ = false := by simp [World.frozen?, hnb]
        clear hAl hnb
        go_wp2_with fail
        refine bodyPost_ret (res_ract _ w.heap.size _ 3 ad n c rfl ?_ ?_) rfl ?_
        · exact cell_setd2 (cell_set_same _ t0) (by simp)
        · exact cell_set_same _ (cell_setd2 t1 (by simp))
        have hbs : But (fun b => b = w.heap.size) wi ((wi.setCell ⟨w.heap.size, 0, none⟩ (.int .i64 3)).setCell ⟨w.heap.size, 1, none⟩ (.slice ad n c)) := (But.set (S := fun b => b = w.heap.size) (a := ⟨w.heap.size, 0, none⟩) rfl _).trans (But.set (S := fun b => b = w.heap.size) (a := ⟨w.heap.size, 1, none⟩) rfl _)
        unfold RActPost
        rw [HP.out]
        refine ⟨⟨_, _, _, _, rfl⟩, ⟨p, ?_⟩, but_fresh (HBok.out _ HBi.out) hbs (fun b hb => by omega)⟩
        rw [HX2.out]
        exact HRi.out.but hbs (fun e => HNr.out e.symm) (fun b hb e => by have := HOk.out b hb; omega)
  · have hP : Pr.act ws i = .error (51, i + 1) := by unfold Pr.act; rw [HX.out, HK.out, if_neg (by decide), if_neg (by decide), if_pos (by rw [HY.out]; exact hyt)]
    have HP := Lib.hid hP
    have HR4 := Lib.hid hr4
    clear hyt hP hr4
    go_wp2_with fail
    go_loopw [47] (fun s47 wr => Hid (wr = w4)) (fun s47 wr => 0)
    case atStart => exact (rfl : w4 = w4)
    case round =>
      obtain rfl := hrel.out
      have d4 := HR4.out.c4
      have HMu := Lib.hid (rmust_done HR4.out (by decide) ⟨#[41]⟩ 51)
      go_wp2_with fail
      refine HMu.out.mono ?_
      rintro e wj ⟨rfl, rfl⟩
      have hAl := HAb4.out
      have z0 := hAl.c0
      have z1 := hAl.c1
      have hnb := hAl.nb
      have t0 : wr.cell? ⟨w.heap.size, 0, none⟩ = some (.int .i64 0) := by simp [World.cell?, hnb]
      have t1 : wr.cell? ⟨w.heap.size, 1, none⟩ = some (.slice none 0 0) := by simp [World.cell?, hnb]
      have g0 : wr.frozen? ⟨w.heap.size, 0, none⟩ = false := by simp [World.frozen?, hnb]
      have g1 : wr.frozen? ⟨w.heap.size, 1, none⟩ = false := by simp [World.frozen?, hnb]
      clear hAl hnb
      go_wp2_with fail
      refine bodyPost_ret (res_ract _ w.heap.size _ 3 none 0 0 rfl ?_ ?_) rfl ?_
      · exact cell_setd2 (cell_set_same _ t0) (by simp)
      · exact cell_set_same _ (cell_setd2 t1 (by simp))
      have hbs : But (fun b => b = w.heap.size) wr ((wr.setCell ⟨w.heap.size, 0, none⟩ (.int .i64 3)).setCell ⟨w.heap.size, 1, none⟩ (.slice none 0 0)) := (But.set (S := fun b => b = w.heap.size) (a := ⟨w.heap.size, 0, none⟩) rfl _).trans (But.set (S := fun b => b = w.heap.size) (a := ⟨w.heap.size, 1, none⟩) rfl _)
      unfold RActPost
      rw [HP.out]
      refine ⟨⟨_, _, _, _, rfl⟩, ⟨i + 1, ?_⟩, but_fresh (HB04.out _ HB24.out) hbs (fun b hb => by omega)⟩
      rw [HY.out]
      exact HR4.out.but hbs (fun e => HNr.out e.symm) (fun b hb e => by have := HOk.out b hb; omega)
set_option maxHeartbeats 6400000 in
set_option maxRecDepth 20000 in
theorem ract_anyk {ok : Nat → Prop} {rb i : Nat} {v : Value} {ws : List Wrd} {w : World} (h : RRd ok rb i 0 0 0 v ws w) (hok : ∀ b, ok b → b < w.heap.size) (hi : i ≤ 10) (h34' : (Pr.wd ws i).t = ⟨#[97, 110, 121]⟩) (hz : ∀ x ∈ ws, x.t.size ≤ 3000000) :
    Calls Tryz.prog 96 #[.pointer (some ⟨rb, 0, none⟩)] w (RActPost ok rb i v ws w) := by
  obtain ⟨W0, hW0⟩ : ∃ W0, W0 = w.alloc (.cells #[.int .i64 0, .slice none 0 0] 45) := ⟨_, rfl⟩
  have hb0 : Below w.heap.size w W0 := by rw [hW0]; exact (Below.refl _ _).alloc (Nat.le_refl _) _
  have hh0 : W0.heap[w.heap.size]? = some (.cells #[.int .i64 0, .slice none 0 0] 45 (0, 0)) := by rw [hW0]; exact heap_alloc_new _ _
  have hs0 : W0.heap.size = w.heap.size + 1 := by rw [hW0]; simp
  have hlt := h.r.lt
  have hfew := h.r.few
  have hwz : ∀ j, (Pr.wd ws j).t.size ≤ 3000000 := fun j => by
    unfold Pr.wd
    split
    · exact hz _ (List.getElem_mem _)
    · exact Nat.zero_le _
  have HWz := Lib.hid hwz
  have H0 := Lib.hid (h.below hb0)
  have HB0 := Lib.hid hb0
  have HH0 := Lib.hid hh0
  have HS0 := Lib.hid hs0
  have HW0 := Lib.hid hW0
  have HOk := Lib.hid hok
  obtain ⟨x, hx⟩ : ∃ x, Pr.wd ws i = x := ⟨_, rfl⟩
  have h34 : (Pr.wd ws i).t = ⟨#[97, 108, 108]⟩ ∨ (Pr.wd ws i).t = ⟨#[97, 110, 121]⟩ := .inr h34'
  rw [hx] at h34 h34'
  have HX := Lib.hid hx
  have hf := word_field
  have n1 : (x.t.toList == [100, 114, 111, 112]) = false := beq_eq_false_iff_ne.2 (str_ne (by rcases h34 with h | h <;> (rw [h]; simp)))
  have n2 : (x.t.toList == [100, 101, 108, 105, 118, 101, 114]) = false := beq_eq_false_iff_ne.2 (str_ne (by rcases h34 with h | h <;> (rw [h]; simp)))
  have hk0 : Pr.idx Pr.names x.t = 4 := by rw [idx_names, h34']; simp
  have q3 : (x.t.toList == [97, 108, 108]) = false := beq_eq_false_iff_ne.2 (str_ne (by rw [h34']; simp))
  have q4 : (x.t.toList == [97, 110, 121]) = true := beq_iff_eq.2 (str_is h34')
  have HK := Lib.hid hk0
  clear h hb0 hh0 hs0 hW0 hok h34 h34' hz hwz hk0
  go_enter Tryz.func96, Tryz.ntmps96
  go_upto_region 1 with fail
  rw [← HW0.out]
  clear HW0
  have HW1 := Lib.hid (rword_any H0.out.r x hx)
  clear hx
  go_wp2_with fail
  refine HW1.out.mono ?_
  rintro e w1 ⟨rfl, hb1⟩
  have HR1 := Lib.hid (H0.out.below hb1)
  have HB1 := Lib.hid (HB0.out.trans (hb1.mono HB0.out.size))
  have HH1 := Lib.hid ((hb1.block _ (by rw [HS0.out]; omega)).trans HH0.out)
  have HS1 : Hid (w.heap.size + 1 ≤ w1.heap.size) := by show _ ≤ _; have := hb1.size; have := HS0.out; omega
  clear hb1 H0 HW1
  obtain ⟨w2, hw2⟩ : ∃ w2, w2 = w1.alloc (.cells #[.int .i64 3, .slice none 0 0] 45) := ⟨_, rfl⟩
  have hb2 : Below w1.heap.size w1 w2 := by rw [hw2]; exact (Below.refl _ _).alloc (Nat.le_refl _) _
  have hh2 : w2.heap[w1.heap.size]? = some (.cells #[.int .i64 3, .slice none 0 0] 45 (0, 0)) := by rw [hw2]; exact heap_alloc_new _ _
  have hs2 : w2.heap.size = w1.heap.size + 1 := by rw [hw2]; simp
  have hAb2 : AbS w2 w1.heap.size w.heap.size 3 (.slice none 0 0) := ⟨by simp [World.cell?, hh2], by simp [World.cell?, hh2], by simp [World.frozen?, hh2], (hb2.block _ (by have := HS1.out; omega)).trans HH1.out⟩
  have a0 := hAb2.c0
  have fa0 : w2.frozen? ⟨w1.heap.size, 0, none⟩ = false := by simp [World.frozen?, hh2]
  have HAb2 := Lib.hid hAb2
  have HR2 := Lib.hid (HR1.out.below hb2)
  have HB2 := Lib.hid hb2
  have HS2 := Lib.hid hs2
  have HW2 := Lib.hid hw2
  clear hw2 hb2 hh2 hs2 hAb2 HR1
  go_upto_region 11 with fail
  rw [← HW2.out]
  clear HW2
  obtain ⟨w2', hw2'⟩ : ∃ w2', w2' = w2.setCell ⟨w1.heap.size, 0, none⟩ (.int .i64 4) := ⟨_, rfl⟩
  have hba : But (fun b => b = w1.heap.size) w2 w2' := by rw [hw2']; exact But.set (S := fun b => b = w1.heap.size) (a := ⟨w1.heap.size, 0, none⟩) rfl _
  have hAb' : AbS w2' w1.heap.size w.heap.size 4 (.slice none 0 0) := by
    rw [hw2']
    exact ⟨cell_set_same _ HAb2.out.c0, (cell_set_other _ (by simp)).trans HAb2.out.c1, by rw [World.frozen?_setCell]; exact HAb2.out.f1, by rw [← hw2']; exact (hba.block _ (by have := HS2.out; have := HS1.out; omega) (by have := HS1.out; omega)).trans HAb2.out.nb⟩
  have hne : rb ≠ w1.heap.size := by have := HS1.out; omega
  have hr2' := HR2.out.but hba hne (fun b hb e => by have := HOk.out b hb; have := HS1.out; omega)
  obtain ⟨w3, hw3⟩ : ∃ w3, w3 = w2'.setCell ⟨rb, 1, none⟩ (.int .i64 ((i : Int) + 1)) := ⟨_, rfl⟩
  have hst := hr2'.step (i + 1)
  have e1 : ((i + 1 : Nat) : Int) = (i : Int) + 1 := by omega
  rw [e1, ← hw3] at hst
  have HAb3 := Lib.hid (hAb'.but hst.2 (fun e => by omega) (fun e => by omega))
  have HB23 : Hid (But (fun b => b = rb ∨ w1.heap.size ≤ b) w2 w3) := (hba.mono fun b hb => .inr (by omega)).trans (hst.2.mono fun b hb => .inl hb)
  have HR3 := Lib.hid hst.1
  have HW3 := Lib.hid hw3
  have HW2' := Lib.hid hw2'
  have c1 := hr2'.r.c1
  have f1 := hr2'.r.f1
  have hw9 : IntKind.i64.wrap ((i : Int) + 1) = (i : Int) + 1 := IntWalk.i64_in _ (by omega)
  clear hst hw3 e1 hw2' hba hAb' hr2'
  go_upto_region 13 with fail
  rw [← HW2'.out]
  clear HW2'
  go_upto_region 14 with fail
  rw [← HW3.out]
  clear HW3 c1 f1 hw9 q3 q4 n1 n2 HR2 HAb2 a0 fa0
  obtain ⟨ab, hab⟩ : ∃ ab, ab = w1.heap.size := ⟨_, rfl⟩
  have HNr : Hid (¬ w.heap.size = rb) := by show ¬ _; omega
  obtain ⟨y, hy⟩ : ∃ y, Pr.wd ws (i + 1) = y := ⟨_, rfl⟩
  have HY := Lib.hid hy
  have HM := Lib.hid (rmust_any HR3.out (by omega) ⟨#[40]⟩ 51)
  clear hy
  go_wp2_with fail
  refine HM.out.mono ?_
  rintro e w4 ⟨rfl, hb4, hm4⟩
  have HAb4 := Lib.hid (HAb3.out.but hb4 (fun e => by omega) (fun e => by omega))
  have HB24 : Hid (But (fun b => b = rb ∨ w1.heap.size ≤ b) w2 w4) := HB23.out.trans (hb4.mono fun b hb => .inl hb)
  have HB04 : Hid (∀ W, But (fun b => b = rb ∨ w1.heap.size ≤ b) w2 W → But (fun b => b = rb) w W) := fun W hW => But.less (S := fun b => b = rb ∨ w1.heap.size ≤ b) (((But.below HB1.out).trans (But.below (HB2.out))).trans hW) (fun b hb h => by
    rcases h with h | h
    · exact h
    · have := HS1.out; omega)
  have HSz4 : Hid (w1.heap.size < w4.heap.size) := by show _ < _; have := HB24.out.size; have := HS2.out; omega
  clear hb4 HM HAb3 HB23 HR3 hab ab
  rw [HY.out] at hm4
  rcases hm4 with ⟨hyt, hr4⟩ | ⟨hyt, hr4⟩
  · have HYt := Lib.hid hyt
    have HR4 := Lib.hid hr4
    clear hr4 hyt
    have HPA : Hid (∀ T j, Pr.portsAt ws (i + 2) = .ok (T, j) → Pr.act ws i = if ¬ (Pr.wd ws j).t = ⟨#[41]⟩ then .error (51, j) else if 64 < (T.foldl Pr.putL []).length then .error (3, j) else .ok (4, (T.foldl Pr.putL []).map Wd.mkB, j + 1)) := fun T j hT => by
      unfold Pr.act
      rw [HX.out, HK.out, if_neg (by decide), if_neg (by decide), if_neg (by rw [HY.out]; exact fun e => e HYt.out), hT]
    have HPE : Hid (∀ j, Pr.portsAt ws (i + 2) = .error j → Pr.act ws i = .error (31, j)) := fun j hT => by
      unfold Pr.act
      rw [HX.out, HK.out, if_neg (by decide), if_neg (by decide), if_neg (by rw [HY.out]; exact fun e => e HYt.out), hT]
    go_wp2_with fail
    go_loopw [47] (fun s47 wr => ∃ (p n c : Nat) (T : List (List UInt8)) (ad : Option Addr), i + 2 ≤ p ∧ p ≤ ws.length + 3 + i ∧ Hid (T.length ≤ p) ∧ Hid ((T.foldl Pr.putL []).length = n) ∧ Hid (RRd ok rb p 0 0 0 v ws wr) ∧ Hid (RdsO (fun b => w2.heap.size ≤ b) wr (.slice ad n c) ((T.foldl Pr.putL []).map Wd.mkB)) ∧ Hid (AbS wr w1.heap.size w.heap.size 4 (.slice ad n c)) ∧ Hid (But (fun b => b = rb ∨ w1.heap.size ≤ b) w4 wr) ∧ Hid (Pr.portsAt ws (i + 2) = prep T (Pr.portsAt ws p))) (fun s47 wr => ws.length + 10 + i - cellN wr ⟨rb, 1, none⟩)
    case atStart =>
      refine ⟨i + 2, 0, 0, [], none, Nat.le_refl _, by omega, Nat.zero_le _, rfl, HR4, ⟨rdsS_nil _, okV_nil _ _ _⟩, HAb4, But.refl _ _, ?_⟩
      show _ = _
      cases Pr.portsAt ws (i + 2) with
      | ok r => simp [prep]
      | error e => rfl
    case round =>
      clear HR4 HAb4
      obtain ⟨wo, rfl⟩ : ∃ wo : World, wo = wr := ⟨wr, rfl⟩
      obtain ⟨p, n, c, T, ad, hp1, hp2, HNp, HNn, HRo, HOw, HAo, HBo, HPo⟩ := hrel
      have HM0 : Hid (cellN wo ⟨rb, 1, none⟩ = p) := by show _ = _; unfold cellN; rw [HRo.out.r.c1]; simp [intOf]
      obtain ⟨x2, hx2⟩ : ∃ x2, Pr.wd ws p = x2 := ⟨_, rfl⟩
      have HX2 := Lib.hid hx2
      have hxsz : x2.t.size ≤ 3000000 := by rw [← hx2]; exact HWz.out p
      have HWd := Lib.hid (rword_any HRo.out.r x2 hx2)
      have hn4 : n ≤ 4000000 := by
        have h1 := Pr.foldl_put_len T []
        rw [HNn.out] at h1
        have := HNp.out
        simp at h1
        omega
      have hn5 : (T.foldl Pr.putL []).Pairwise (fun a b => a < b) := (Pr.foldl_put_spec T [] List.Pairwise.nil).1
      have HPw := Lib.hid hn5
      have hwlo : w1.heap.size < wo.heap.size := by have := HSz4.out; have := HBo.out.size; omega
      have HBok : Hid (∀ W, But (fun b => b = rb ∨ w1.heap.size ≤ b) w4 W → But (fun b => b = rb) w W) := fun W hW => HB04.out W (HB24.out.trans hW)
      have d4 := HRo.out.c4
      clear hx2 hn5
      go_upto_region 16 with fail
      go_wp2_with fail
      refine HWd.out.mono ?_
      rintro e wa ⟨rfl, hba⟩
      have HBa := Lib.hid hba
      clear hba
      go_wp2_with fail
      by_cases hnb : Rp.nameB x2.t.data.toList = true
      · refine (rname_is x2.t true (by unfold maxLen; omega) hnb wa).mono ?_
        rintro e wb ⟨rfl, rfl⟩
        have hnbx : Rp.nameB (Pr.wd ws p).t.data.toList = true := by rw [HX2.out]; exact hnb
        have HNbx := Lib.hid hnbx
        have hRa := HRo.out.below HBa.out
        have hAa := HAo.out.below HBa.out
        have hOa := HOw.out.below HBa.out
        have HWd2 := Lib.hid (rword_any (hRa.r.below (Below.refl _ _).drew) x2 HX2.out)
        have HRa := Lib.hid hRa
        have HAa := Lib.hid hAa
        have HOa := Lib.hid hOa
        have hwla : w1.heap.size < wa.heap.size := by have := HBa.out.size; omega
        have hS0 : (fun W : World => W.cell? ⟨w1.heap.size, 1, none⟩ = some (.slice ad n c)) wa.drew := hAa.c1
        clear hnb hnbx hRa hAa hOa d4 HWd
        go_upto_region 19 with fail
        refine wp_region_heldG (fun W : World => W.cell? ⟨w1.heap.size, 1, none⟩ = some (.slice ad n c)) 7 (by kernel_rfl) ?_
        refine wpAnyG_takeP 0 (v := ?v0) rfl (by kernel_rfl) (fun _ _ _ h => h) (by rfl) ?h0 hS0 ?_
        case h0 => (intro wl; go_simp; try with_reducible rfl)
        try simp only [Act.put, List.setIfInBounds_toArray, List.set_cons_zero, List.set_cons_succ]
        refine wpAnyG_takeL 1 (v := ?v1) rfl (by kernel_rfl) (fun _ _ _ h => h) (by rfl) ?h1 hS0 ?_
        case h1 => (intro wl hl; have l0 := hl; go_simp; try with_reducible rfl)
        try simp only [Act.put, List.setIfInBounds_toArray, List.set_cons_zero, List.set_cons_succ]
        refine wpAnyG_takeP 2 (v := ?v2) rfl (by kernel_rfl) (fun _ _ _ h => h) (by rfl) ?h2 hS0 ?_
        case h2 => (intro wl; go_simp; try with_reducible rfl)
        try simp only [Act.put, List.setIfInBounds_toArray, List.set_cons_zero, List.set_cons_succ]
        refine wpAnyG_one 3 rfl (by kernel_rfl) (fun K hK => ?_)
        go_simp
        go_at_call 95
        refine HWd2.out.mono ?_
        rintro e wb ⟨rfl, hbb⟩
        have hbo : Below wa.heap.size wa wb := ((Below.refl _ _).drew).trans hbb
        have hS1 : (fun W : World => W.cell? ⟨w1.heap.size, 1, none⟩ = some (.slice ad n c)) wb := (hbo.cell (p := ⟨w1.heap.size, 1, none⟩) hwla).trans HAa.out.c1
        have HBb := Lib.hid hbo
        clear hbb hbo
        refine hK _ _ (fun _ => hS1) ?_
        clear hK K
        try simp only [Act.put, List.setIfInBounds_toArray, List.set_cons_zero, List.set_cons_succ]
        refine wpAnyG_takeP 4 (v := ?v4) rfl (by kernel_rfl) (fun _ _ _ h => h) (by rfl) ?h4 hS1 ?_
        case h4 => (intro wl; go_simp; try with_reducible rfl)
        try simp only [Act.put, List.setIfInBounds_toArray, List.set_cons_zero, List.set_cons_succ]
        refine wpAnyG_one 5 rfl (by kernel_rfl) (fun K hK => ?_)
        go_simp
        go_at_call 125
        refine (put_any (HOa.out.below HBb.out) HNn.out hn4 HPw.out x2.t).mono ?_
        rintro e wc ⟨ad2, n2, c2, rfl, hn2, ho2, hb2c⟩
        rw [← Pr.foldl_put_snoc] at hn2 ho2
        have hS2 : (fun W : World => W.cell? ⟨w1.heap.size, 1, none⟩ = some (.slice ad n c)) wc := (hb2c.cell (p := ⟨w1.heap.size, 1, none⟩) (by show w1.heap.size < _; have := HBb.out.size; omega)).trans hS1
        have HBc := Lib.hid (HBb.out.trans (hb2c.mono HBb.out.size))
        have HN2 := Lib.hid hn2
        have HO2 := Lib.hid (ho2.mono (ok' := fun b => w2.heap.size ≤ b) fun b hb => hb.elim (fun h => h) (fun h => by have := HBb.out.size; have := HS2.out; omega))
        clear hn2 ho2 hb2c
        refine hK _ _ (fun _ => hS2) ?_
        clear hK K
        try simp only [Act.put, List.setIfInBounds_toArray, List.set_cons_zero, List.set_cons_succ]
        refine wpAnyG_takeP 6 (v := ?v6) rfl (by kernel_rfl) (fun _ _ _ h => h) (by rfl) ?h6 hS2 ?_
        case h6 => (intro wl; go_simp; try with_reducible rfl)
        try simp only [Act.put, List.setIfInBounds_toArray, List.set_cons_zero, List.set_cons_succ]
        have hAc := HAa.out.below HBc.out
        have q1 := hAc.c1
        have q2 := hAc.f1
        refine wpAnyG_one 7 rfl (by kernel_rfl) (fun K hK => ?_)
        go_simp
        refine hK _ _ (fun h => absurd h (by decide)) ?_
        clear hK K
        refine wpAnyG_done (by kernel_rfl) ?_ _
        obtain ⟨wd, hwd⟩ : ∃ wd, wd = wc.setCell ⟨w1.heap.size, 1, none⟩ (.slice ad2 n2 c2) := ⟨_, rfl⟩
        rw [← hwd]
        have hset := hAc.set (by have := HS1.out; omega) (.slice ad2 n2 c2)
        rw [← hwd] at hset
        have hRd := (HRa.out.below HBc.out).but hset.2 (fun e => by have := HS1.out; omega) (fun b hb e => by have := HOk.out b hb; have := HS1.out; omega)
        have hst := hRd.step (p + 1)
        have e2 : ((p + 1 : Nat) : Int) = (p : Int) + 1 := by omega
        rw [e2] at hst
        obtain ⟨we, hwe⟩ : ∃ we, we = wd.setCell ⟨rb, 1, none⟩ (.int .i64 ((p : Int) + 1)) := ⟨_, rfl⟩
        rw [← hwe] at hst
        have c1 := hRd.r.c1
        have f1 := hRd.r.f1
        have hw9 : IntKind.i64.wrap ((p : Int) + 1) = (p : Int) + 1 := IntWalk.i64_in _ (by omega)
        have HRe := Lib.hid hst.1
        have HAe := Lib.hid (hset.1.but hst.2 (fun e => by have := HS1.out; omega) (fun e => HNr.out e))
        have HOe := Lib.hid ((HO2.out.but hset.2 (fun b hb e => by have := HS2.out; omega)).but hst.2 (fun b hb e => by have := HS2.out; have := HS1.out; omega))
        have hbte : But (fun b => b = rb ∨ w1.heap.size ≤ b) w4 we := (((HBo.out.trans (But.below HBa.out)).trans (But.below HBc.out)).trans (hset.2.mono fun b hb => .inr (by omega))).trans (hst.2.mono fun b hb => .inl hb)
        have HBe := Lib.hid hbte
        have HWe := Lib.hid hwe
        obtain ⟨y2, hy2⟩ : ∃ y2, Pr.wd ws (p + 1) = y2 := ⟨_, rfl⟩
        have HY2 := Lib.hid hy2
        have HWf := Lib.hid (rword_any hst.1.r y2 hy2)
        clear hwd hset hRd hst e2 hwe hbte hS0 hS1 hS2 q1 q2 hAc HWd2 HRa HAa HOa HO2 HBc HBb HOw HAo HRo hy2
        go_upto_region 21 with fail
        rw [← HWe.out]
        clear HWe c1 f1
        go_wp2_with fail
        refine HWf.out.mono ?_
        rintro e wf ⟨rfl, hbf⟩
        have HRf := Lib.hid (HRe.out.below hbf)
        have HAf := Lib.hid (HAe.out.below hbf)
        have HOf := Lib.hid (HOe.out.below hbf)
        have HBf := Lib.hid (HBe.out.trans (But.below hbf))
        clear hbf HWf HRe HAe HOe HBe
        by_cases hcm : y2.t = ⟨#[44]⟩
        · have hP2 : Hid (Pr.portsAt ws (i + 2) = prep (T ++ [x2.t.data.toList]) (Pr.portsAt ws (p + 2))) := by
            show _ = _
            rw [HPo.out, ports_more T HNbx.out (by rw [HY2.out]; exact hcm), HX2.out]
          have qm : (y2.t.toList == [44]) = true := beq_iff_eq.2 (str_is hcm)
          have hstf := HRf.out.step (p + 2)
          obtain ⟨p1, hp1'⟩ : ∃ p1, p + 1 = p1 := ⟨_, rfl⟩
          have e2 : ((p + 2 : Nat) : Int) = (p1 : Int) + 1 := by omega
          have c1 := HRf.out.r.c1
          have f1 := HRf.out.r.f1
          rw [hp1'] at c1
          rw [e2] at hstf
          have hw8 : IntKind.i64.wrap ((p1 : Int) + 1) = (p1 : Int) + 1 := IntWalk.i64_in _ (by omega)
          obtain ⟨wg, hwg⟩ : ∃ wg, wg = wf.setCell ⟨rb, 1, none⟩ (.int .i64 ((p1 : Int) + 1)) := ⟨_, rfl⟩
          rw [← hwg] at hstf
          have HRg := Lib.hid hstf.1
          have HAg := Lib.hid (HAf.out.but hstf.2 (fun e => by have := HS1.out; omega) (fun e => HNr.out e))
          have HOg := Lib.hid (HOf.out.but hstf.2 (fun b hb e => by have := HS2.out; have := HS1.out; omega))
          have HBg := Lib.hid (HBf.out.trans (hstf.2.mono fun b hb => .inl hb))
          have HWg := Lib.hid hwg
          have HMg : Hid (cellN wg ⟨rb, 1, none⟩ = p + 2) := by show _ = _; unfold cellN; rw [hstf.1.r.c1]; simp [intOf]; omega
          have hpl : p < ws.length := Pr.name_in HNbx.out
          clear hwg hstf e2 hcm hp1'
          go_wp2_with fail
          rw [← HWg.out]
          go_roundw
          case rel => exact ⟨p + 2, n2, c2, T ++ [x2.t.data.toList], ad2, by omega, by omega, (by have := HNp.out; show _ ≤ _; simp; omega : Hid ((T ++ [x2.t.data.toList]).length ≤ p + 2)), HN2, HRg, HOg, HAg, HBg, hP2⟩
          case measure => rw [HMg.out, HM0.out]; omega
        · have hP1 : Pr.portsAt ws (i + 2) = .ok (T ++ [x2.t.data.toList], p + 1) := by rw [HPo.out, ports_last HNbx.out (by rw [HY2.out]; exact hcm), HX2.out]; rfl
          have hA := HPA.out _ _ hP1
          rw [HN2.out, HY2.out] at hA
          have qm : (y2.t.toList == [44]) = false := beq_eq_false_iff_ne.2 (str_ne hcm)
          have HA := Lib.hid hA
          have HWz2 := Lib.hid (rword_any HRf.out.r y2 HY2.out)
          have d4 := HRf.out.c4
          clear hcm hP1 hA
          by_cases hcl : y2.t = ⟨#[41]⟩
          · have ql : (y2.t.toList == [41]) = true := beq_iff_eq.2 (str_is hcl)
            have HCl := Lib.hid hcl
            clear hcl
            by_cases hm : 64 < n2
            · have hmz : (64 : Int) < (n2 : Int) := by omega
              have hPb : Pr.act ws i = .error (3, p + 1) := by rw [HA.out, if_neg (fun e => e HCl.out), if_pos hm]
              have HPb := Lib.hid hPb
              clear hPb
              go_wp2_with fail
              refine HWz2.out.mono ?_
              rintro e wh ⟨rfl, hbh⟩
              have HAh := Lib.hid (HAf.out.below hbh)
              have z9 := HAh.out.c1
              have HBh := Lib.hid (HBf.out.trans (But.below hbh))
              have HFl := Lib.hid (fail_any (HRf.out.below hbh) 3 y2 HY2.out)
              clear hbh
              go_wp2_with fail
              refine HFl.out.mono ?_
              rintro e wi ⟨rfl, hri, hbi⟩
              have HRi := Lib.hid hri
              have HAi := Lib.hid (HAh.out.but hbi (fun e => by have := HS1.out; omega) (fun e => HNr.out e))
              have HBi := Lib.hid (HBh.out.trans (hbi.mono fun b hb => .inl hb))
              have HMu := Lib.hid (rmust_done hri (by decide) ⟨#[41]⟩ 51)
              clear hri hbi z9
              go_wp2_with fail
              refine HMu.out.mono ?_
              rintro e wj ⟨rfl, rfl⟩
              have hAl := HAi.out
              have z0 := hAl.c0
              have z1 := hAl.c1
              have hnb := hAl.nb
              have t0 : wi.cell? ⟨w.heap.size, 0, none⟩ = some (.int .i64 0) := by simp [World.cell?, hnb]
              have t1 : wi.cell? ⟨w.heap.size, 1, none⟩ = some (.slice none 0 0) := by simp [World.cell?, hnb]
              have g0 : wi.frozen? ⟨w.heap.size, 0, none⟩ = false := by simp [World.frozen?, hnb]
              have g1 : wi.frozen? ⟨w.heap.size, 1, none⟩ = false := by simp [World.frozen?, hnb]
              clear hAl hnb
              go_wp2_with fail
              refine bodyPost_ret (res_ract _ w.heap.size _ 4 ad2 n2 c2 rfl ?_ ?_) rfl ?_
              · exact cell_setd2 (cell_set_same _ t0) (by simp)
              · exact cell_set_same _ (cell_setd2 t1 (by simp))
              have hbs : But (fun b => b = w.heap.size) wi ((wi.setCell ⟨w.heap.size, 0, none⟩ (.int .i64 4)).setCell ⟨w.heap.size, 1, none⟩ (.slice ad2 n2 c2)) := (But.set (S := fun b => b = w.heap.size) (a := ⟨w.heap.size, 0, none⟩) rfl _).trans (But.set (S := fun b => b = w.heap.size) (a := ⟨w.heap.size, 1, none⟩) rfl _)
              unfold RActPost
              rw [HPb.out]
              refine ⟨⟨_, _, _, _, rfl⟩, ⟨p + 1, ?_⟩, but_fresh (HBok.out _ HBi.out) hbs (fun b hb => by omega)⟩
              rw [HY2.out]
              exact HRi.out.but hbs (fun e => HNr.out e.symm) (fun b hb e => by have := HOk.out b hb; omega)
            · have hmz : decide ((64 : Int) < (n2 : Int)) = false := by simp; omega
              have hPb : Pr.act ws i = .ok (4, ((T ++ [x2.t.data.toList]).foldl Pr.putL []).map Wd.mkB, p + 1 + 1) := by rw [HA.out, if_neg (fun e => e HCl.out), if_neg hm]
              have HPb := Lib.hid hPb
              clear hPb
              go_wp2_with fail
              refine HWz2.out.mono ?_
              rintro e wh ⟨rfl, hbh⟩
              have HAh := Lib.hid (HAf.out.below hbh)
              have z9 := HAh.out.c1
              have HBh := Lib.hid (HBf.out.trans (But.below hbh))
              have HOh := Lib.hid (HOf.out.below hbh)
              have HMu := Lib.hid (rmust_any (HRf.out.below hbh) (by omega) ⟨#[41]⟩ 51)
              clear hbh
              go_wp2_with fail
              refine HMu.out.mono ?_
              rintro e wi ⟨rfl, hbi, hmi⟩
              rw [HY2.out] at hmi
              have hri : RRd ok rb (p + 1 + 1) 0 0 0 v ws wi := by
                rcases hmi with ⟨_, h⟩ | ⟨h, _⟩
                · exact h
                · exact absurd HCl.out h
              have HRi := Lib.hid hri
              have HAi := Lib.hid (HAh.out.but hbi (fun e => by have := HS1.out; omega) (fun e => HNr.out e))
              have HOi := Lib.hid (HOh.out.but hbi (fun b hb e => by have := HS2.out; have := HS1.out; omega))
              have HBi := Lib.hid (HBh.out.trans (hbi.mono fun b hb => .inl hb))
              clear hri hbi hmi z9
              have hAl := HAi.out
              have z0 := hAl.c0
              have z1 := hAl.c1
              have hnb := hAl.nb
              have t0 : wi.cell? ⟨w.heap.size, 0, none⟩ = some (.int .i64 0) := by simp [World.cell?, hnb]
              have t1 : wi.cell? ⟨w.heap.size, 1, none⟩ = some (.slice none 0 0) := by simp [World.cell?, hnb]
              have g0 : wi.frozen? ⟨w.heap.size, 0, none⟩ = false := by simp [World.frozen?, hnb]
              have g1 : wi.frozen? ⟨w.heap.size, 1, none⟩ = false := by simp [World.frozen?, hnb]
              clear hAl hnb
              go_wp2_with fail
              refine bodyPost_ret (res_ract _ w.heap.size _ 4 ad2 n2 c2 rfl ?_ ?_) rfl ?_
              · exact cell_setd2 (cell_set_same _ t0) (by simp)
              · exact cell_set_same _ (cell_setd2 t1 (by simp))
              have hbs : But (fun b => b = w.heap.size) wi ((wi.setCell ⟨w.heap.size, 0, none⟩ (.int .i64 4)).setCell ⟨w.heap.size, 1, none⟩ (.slice ad2 n2 c2)) := (But.set (S := fun b => b = w.heap.size) (a := ⟨w.heap.size, 0, none⟩) rfl _).trans (But.set (S := fun b => b = w.heap.size) (a := ⟨w.heap.size, 1, none⟩) rfl _)
              unfold RActPost
              rw [HPb.out]
              exact ⟨ad2, n2, c2, rfl, (HOi.out.but hbs (fun b hb e => by have := HS2.out; have := HS1.out; omega)).mono (fun b hb => by have := HS2.out; have := HS1.out; omega), HRi.out.but hbs (fun e => HNr.out e.symm) (fun b hb e => by have := HOk.out b hb; omega), but_fresh (HBok.out _ HBi.out) hbs (fun b hb => by omega)⟩
          · have ql : (y2.t.toList == [41]) = false := beq_eq_false_iff_ne.2 (str_ne hcl)
            have hPb : Pr.act ws i = .error (51, p + 1) := by rw [HA.out, if_pos hcl]
            have HPb := Lib.hid hPb
            have HCl := Lib.hid hcl
            clear hPb hcl
            go_wp2_with fail
            refine HWz2.out.mono ?_
            rintro e wh ⟨rfl, hbh⟩
            have HAh := Lib.hid (HAf.out.below hbh)
            have HBh := Lib.hid (HBf.out.trans (But.below hbh))
            have HMu := Lib.hid (rmust_any (HRf.out.below hbh) (by omega) ⟨#[41]⟩ 51)
            clear hbh
            go_wp2_with fail
            refine HMu.out.mono ?_
            rintro e wi ⟨rfl, hbi, hmi⟩
            rw [HY2.out] at hmi
            have hri : RRd ok rb (p + 1) y2.l y2.c 51 v ws wi := by
              rcases hmi with ⟨h, _⟩ | ⟨_, h⟩
              · exact absurd h HCl.out
              · exact h
            have HRi := Lib.hid hri
            have HAi := Lib.hid (HAh.out.but hbi (fun e => by have := HS1.out; omega) (fun e => HNr.out e))
            have HBi := Lib.hid (HBh.out.trans (hbi.mono fun b hb => .inl hb))
            clear hri hbi hmi
            have hAl := HAi.out
            have z0 := hAl.c0
            have z1 := hAl.c1
            have hnb := hAl.nb
            have t0 : wi.cell? ⟨w.heap.size, 0, none⟩ = some (.int .i64 0) := by simp [World.cell?, hnb]
            have t1 : wi.cell? ⟨w.heap.size, 1, none⟩ = some (.slice none 0 0) := by simp [World.cell?, hnb]
            have g0 : wi.frozen? ⟨w.heap.size, 0, none⟩ = false := by simp [World.frozen?, hnb]
            have g1 : wi.frozen? ⟨w.heap.size, 1, none⟩ = false := by simp [World.frozen?, hnb]
            clear hAl hnb
            go_wp2_with fail
            refine bodyPost_ret (res_ract _ w.heap.size _ 4 ad2 n2 c2 rfl ?_ ?_) rfl ?_
            · exact cell_setd2 (cell_set_same _ t0) (by simp)
            · exact cell_set_same _ (cell_setd2 t1 (by simp))
            have hbs : But (fun b => b = w.heap.size) wi ((wi.setCell ⟨w.heap.size, 0, none⟩ (.int .i64 4)).setCell ⟨w.heap.size, 1, none⟩ (.slice ad2 n2 c2)) := (But.set (S := fun b => b = w.heap.size) (a := ⟨w.heap.size, 0, none⟩) rfl _).trans (But.set (S := fun b => b = w.heap.size) (a := ⟨w.heap.size, 1, none⟩) rfl _)
            unfold RActPost
            rw [HPb.out]
            refine ⟨⟨_, _, _, _, rfl⟩, ⟨p + 1, ?_⟩, but_fresh (HBok.out _ HBi.out) hbs (fun b hb => by omega)⟩
            rw [HY2.out]
            exact HRi.out.but hbs (fun e => HNr.out e.symm) (fun b hb e => by have := HOk.out b hb; omega)
      · have hnb' : Rp.nameB x2.t.data.toList = false := by simpa using hnb
        refine (rname_is x2.t false (by unfold maxLen; omega) hnb' wa).mono ?_
        rintro e wb ⟨rfl, rfl⟩
        have hP : Pr.act ws i = .error (31, p) := HPE.out _ (by
          have h2 := HPo.out
          rw [ports_bad' (p := p) (by rw [HX2.out]; exact hnb')] at h2
          exact h2)
        have HP := Lib.hid hP
        have HFl := Lib.hid (fail_any (HRo.out.below HBa.out) 31 x2 HX2.out)
        clear hnb hnb' hP d4
        go_wp2_with fail
        refine HFl.out.mono ?_
        rintro e wi ⟨rfl, hri, hbi⟩
        have HRi := Lib.hid hri
        have HAi := Lib.hid ((HAo.out.below HBa.out).but hbi (fun e => by have := HS1.out; omega) (fun e => HNr.out e))
        have HBi := Lib.hid ((HBo.out.trans (But.below HBa.out)).trans (hbi.mono fun b hb => .inl hb))
        clear hri hbi
        have hAl := HAi.out
        have z0 := hAl.c0
        have z1 := hAl.c1
        have hnb := hAl.nb
        have t0 : wi.cell? ⟨w.heap.size, 0, none⟩ = some (.int .i64 0) := by simp [World.cell?, hnb]
        have t1 : wi.cell? ⟨w.heap.size, 1, none⟩ = some (.slice none 0 0) := by simp [World.cell?, hnb]
        have g0 : wi.frozen? ⟨w.heap.size, 0, none⟩ = false := by simp [World.frozen?, hnb]
        have g1 : wi.frozen? ⟨w.heap.size, 1, none⟩ = false := by simp [World.frozen?, hnb]
        clear hAl hnb
        go_wp2_with fail
        refine bodyPost_ret (res_ract _ w.heap.size _ 4 ad n c rfl ?_ ?_) rfl ?_
        · exact cell_setd2 (cell_set_same _ t0) (by simp)
        · exact cell_set_same _ (cell_setd2 t1 (by simp))
        have hbs : But (fun b => b = w.heap.size) wi ((wi.setCell ⟨w.heap.size, 0, none⟩ (.int .i64 4)).setCell ⟨w.heap.size, 1, none⟩ (.slice ad n c)) := (But.set (S := fun b => b = w.heap.size) (a := ⟨w.heap.size, 0, none⟩) rfl _).trans (But.set (S := fun b => b = w.heap.size) (a := ⟨w.heap.size, 1, none⟩) rfl _)
        unfold RActPost
        rw [HP.out]
        refine ⟨⟨_, _, _, _, rfl⟩, ⟨p, ?_⟩, but_fresh (HBok.out _ HBi.out) hbs (fun b hb => by omega)⟩
        rw [HX2.out]
        exact HRi.out.but hbs (fun e => HNr.out e.symm) (fun b hb e => by have := HOk.out b hb; omega)
  · have hP : Pr.act ws i = .error (51, i + 1) := by unfold Pr.act; rw [HX.out, HK.out, if_neg (by decide), if_neg (by decide), if_pos (by rw [HY.out]; exact hyt)]
    have HP := Lib.hid hP
    have HR4 := Lib.hid hr4
    clear hyt hP hr4
    go_wp2_with fail
    go_loopw [47] (fun s47 wr => Hid (wr = w4)) (fun s47 wr => 0)
    case atStart => exact (rfl : w4 = w4)
    case round =>
      obtain rfl := hrel.out
      have d4 := HR4.out.c4
      have HMu := Lib.hid (rmust_done HR4.out (by decide) ⟨#[41]⟩ 51)
      go_wp2_with fail
      refine HMu.out.mono ?_
      rintro e wj ⟨rfl, rfl⟩
      have hAl := HAb4.out
      have z0 := hAl.c0
      have z1 := hAl.c1
      have hnb := hAl.nb
      have t0 : wr.cell? ⟨w.heap.size, 0, none⟩ = some (.int .i64 0) := by simp [World.cell?, hnb]
      have t1 : wr.cell? ⟨w.heap.size, 1, none⟩ = some (.slice none 0 0) := by simp [World.cell?, hnb]
      have g0 : wr.frozen? ⟨w.heap.size, 0, none⟩ = false := by simp [World.frozen?, hnb]
      have g1 : wr.frozen? ⟨w.heap.size, 1, none⟩ = false := by simp [World.frozen?, hnb]
      clear hAl hnb
      go_wp2_with fail
      refine bodyPost_ret (res_ract _ w.heap.size _ 4 none 0 0 rfl ?_ ?_) rfl ?_
      · exact cell_setd2 (cell_set_same _ t0) (by simp)
      · exact cell_set_same _ (cell_setd2 t1 (by simp))
      have hbs : But (fun b => b = w.heap.size) wr ((wr.setCell ⟨w.heap.size, 0, none⟩ (.int .i64 4)).setCell ⟨w.heap.size, 1, none⟩ (.slice none 0 0)) := (But.set (S := fun b => b = w.heap.size) (a := ⟨w.heap.size, 0, none⟩) rfl _).trans (But.set (S := fun b => b = w.heap.size) (a := ⟨w.heap.size, 1, none⟩) rfl _)
      unfold RActPost
      rw [HP.out]
      refine ⟨⟨_, _, _, _, rfl⟩, ⟨i + 1, ?_⟩, but_fresh (HB04.out _ HB24.out) hbs (fun b hb => by omega)⟩
      rw [HY.out]
      exact HR4.out.but hbs (fun e => HNr.out e.symm) (fun b hb e => by have := HOk.out b hb; omega)
end Go.Proofs.YtlamhpiiikcpiaaGreatDoor
