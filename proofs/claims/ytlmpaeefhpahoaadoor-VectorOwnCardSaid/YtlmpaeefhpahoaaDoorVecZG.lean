/-
  The law VectorOwn, walked: what Merge and Join of a vector answer lies apart from it; writes to a row leave the others.
-/
import Derived.BigQuiet
import Derived.Maps.AppendAt
import Derived.Deep.AppendLies
import Derived.Test.YtlmpaeefhpahoaaDoorVecZF
namespace Go.Proofs.YtlmpaeefhpahoaaDoor
open Go.RowKit

theorem RdsP.far {w w' : World} {v : Value} {l : List Stp} {row : Option Nat} (h : RdsP w v l) (hg : w.grownBy w' row) (hne : ∀ k, v.ownBlock = some k → row ≠ some k) : RdsP w' v l := by
  obtain ⟨ad, n, cap, rfl, h2, h3, h4⟩ := h
  refine ⟨ad, n, cap, rfl, h2, h3, fun i hi => ?_⟩
  obtain ⟨b, off, h5, h6, h7, h8⟩ := h4 i hi
  subst h5
  have hb : some b ≠ row := fun e => hne b rfl e.symm
  exact ⟨b, off, rfl, Nat.lt_of_lt_of_le h6 hg.size, (hg.cell_far ⟨b, off + i * 2, none⟩ h6 hb).trans h7, (hg.cell_far ⟨b, off + i * 2 + 1, none⟩ h6 hb).trans h8⟩

theorem RdsP.farArg {w0 w w' : World} {v : Value} {l : List Stp} {row : Option Nat} (h0 : RdsP w0 v l) (h : RdsP w v l) (hg : w.grownBy w' row) (hr : ∀ k, row = some k → w0.heap.size ≤ k) : RdsP w' v l := by
  obtain ⟨ad0, n0, cap0, hv, _, _, h5⟩ := h0
  obtain ⟨ad, n, cap, rfl, h2, h3, h4⟩ := h
  obtain ⟨rfl, rfl, rfl⟩ : ad = ad0 ∧ n = n0 ∧ cap = cap0 := by simpa using hv
  refine ⟨ad, n, cap, rfl, h2, h3, fun i hi => ?_⟩
  obtain ⟨b0, off0, g5, g6, _⟩ := h5 i hi
  obtain ⟨b, off, h5, h6, h7, h8⟩ := h4 i hi
  subst h5
  obtain ⟨rfl, rfl⟩ : b = b0 ∧ off = off0 := by simpa using g5
  have hb : some b ≠ row := fun e => by have := hr b e.symm; omega
  exact ⟨b, off, rfl, Nat.lt_of_lt_of_le h6 hg.size, (hg.cell_far ⟨b, off + i * 2, none⟩ h6 hb).trans h7, (hg.cell_far ⟨b, off + i * 2 + 1, none⟩ h6 hb).trans h8⟩

theorem RdsP.len {w : World} {ad : Option Addr} {n c : Nat} {l : List Stp} (h : RdsP w (.slice ad n c) l) : n = l.length := by
  obtain ⟨a', n', c', hv, hn, _⟩ := h
  have : n = n' := by injection hv
  omega

theorem RdsP.lt {w : World} {ad : Option Addr} {n c : Nat} {l : List Stp} (h : RdsP w (.slice ad n c) l) : n ≤ maxLen := by
  obtain ⟨a', n', c', hv, hn, hm, _⟩ := h
  have : n = n' := by injection hv
  omega

/-- The slice is nil, or lies at or above a block. -/
def Above (b : Nat) (v : Value) : Prop := ∀ k, v.ownBlock = some k → b ≤ k

theorem above_nil (b : Nat) (n c : Nat) : Above b (.slice none n c) := fun k h => by cases h

theorem agree_one {v : List Stp} (h : chk v = true) : (joinTo ([], true) [v].flatten).2 = true := by
  rw [joined_agree]
  intro d x y hx hy
  simp only [List.flatten_cons, List.flatten_nil, List.append_nil] at hx hy
  have h1 := (lk_mem (chk_srt h)).2 hx
  have h2 := (lk_mem (chk_srt h)).2 hy
  rw [h1] at h2
  injection h2

/-- What Merge and Join of one vector answer. -/
theorem own_uni (v : List Stp) : ∃ (X : List Stp) (b : Bool) (q : Int) (t1 t2 : Bool), t1 = (q == 0) ∧ t2 = decide (X.length = 0) ∧ (t1 || t2) = true ∧
    (∀ x W, RdsL W x [v] → Calls Tryd.prog 11 #[x] W fun e w' => ∃ oa om oc, e = .returned (.tuple #[.slice oa om oc, .bool b, .int .i64 q]) ∧ RdsP w' (.slice oa om oc) X ∧ Above W.heap.size (.slice oa om oc) ∧ Below W.heap.size W w') ∧
    (∀ x W, RdsL W x [v] → Calls Tryd.prog 12 #[x] W fun e w' => ∃ oa om oc, e = .returned (.tuple #[.slice oa om oc, .bool b, .int .i64 q]) ∧ RdsP w' (.slice oa om oc) X ∧ Below W.heap.size W w') ∧
    (∀ x W, RdsL W x [v] → Calls Tryd.prog 13 #[x] W fun e w' => ∃ oa om oc, e = .returned (.tuple #[.slice oa om oc, .int .i64 q]) ∧ RdsP w' (.slice oa om oc) X ∧ Above W.heap.size (.slice oa om oc) ∧ Below W.heap.size W w') := by
  cases hc : chk v with
  | false =>
    have hc' : [v].all chk = false := by simp [hc]
    refine ⟨[], false, 160, false, true, rfl, rfl, rfl, fun x W h => ?_, fun x W h => ?_, fun x W h => ?_⟩
    · refine (Merge_bad x [v] W h hc').mono ?_
      rintro e w' ⟨rfl, hb⟩
      exact ⟨_, _, _, rfl, rdsP_nil _, above_nil _ _ _, hb⟩
    · refine (MergeR_bad x [v] W h hc').mono ?_
      rintro e w' ⟨rfl, k, rfl⟩
      exact ⟨_, _, _, rfl, rdsP_nil _, below_dN (Below.refl _ _) k⟩
    · refine (Join_bad x [v] W h hc').mono ?_
      rintro e w' ⟨rfl, hb⟩
      exact ⟨_, _, _, rfl, rdsP_nil _, above_nil _ _ _, hb⟩
  | true =>
    have hc' : [v].all chk = true := by simp [hc]
    have hag := agree_one hc
    obtain ⟨p, hp⟩ : ∃ p, joinTo ([], true) [v].flatten = p := ⟨_, rfl⟩
    rw [hp] at hag
    refine ⟨p.1, p.2, 0, true, _, rfl, rfl, rfl, fun x W h => ?_, fun x W h => ?_, fun x W h => ?_⟩
    · refine (Merge_good x [v] W h hc' p hp).mono ?_
      rintro e w' ⟨v', rfl, hb, h1, _⟩
      have hown := h1 hag
      obtain ⟨ad, cap, rfl, _, _⟩ := ownsSt_form hown
      exact ⟨_, _, _, rfl, owns_rdsP rfl hown, fun k hk => (hown.lt k hk).1, hb⟩
    · refine (MergeR_good x [v] W h hc' p hp).mono ?_
      rintro e w' ⟨oa, om, oc, rfl, h1, _, hb⟩
      exact ⟨_, _, _, rfl, h1 hag, hb⟩
    · refine (Join_good x [v] W h hc' p hp).mono ?_
      rintro e w' ⟨v', rfl, hb, hown⟩
      obtain ⟨ad, cap, rfl, _, _⟩ := ownsSt_form hown
      exact ⟨_, _, _, rfl, owns_rdsP rfl hown, fun k hk => (hown.lt k hk).1, hb⟩

/-- What is left to do once the own copy is made. -/
theorem grownBy_refl' (w : World) (row : Option Nat) : w.grownBy w row := ⟨rfl, rfl, rfl, Nat.le_refl _, fun _ _ _ => rfl⟩

set_option maxHeartbeats 6000000 in
set_option maxRecDepth 20000 in
theorem VectorOwn_walk (x : Value) (v : List Stp) (y : Value) (l : List Stp) (w : World) (hx : RdsP w x v) (hy : RdsP w y l) (hlv : v.length ≤ 8796093022208) :
    Calls Tryd.prog 8 #[x, y] w fun e w' => e = .returned (.bool true) ∧ Below w.heap.size w w' := by
  obtain ⟨p, r, hp⟩ : ∃ p r, withOf v l = (p, r) := ⟨_, _, rfl⟩
  obtain ⟨X, b, q, t1, t2, ht1, ht2, ht3, m1, m2, m3⟩ := own_uni v
  have W1 := Lib.hid (fun z W (h1 : RdsP W z v) (h2 : RdsP W y l) => With_any z y v l W h1 h2 p r hp)
  have W2 := Lib.hid (fun W (h1 : RdsP W x v) (h2 : RdsP W y l) => WithR_any x y v l W h1 h2 p r hp)
  have M1 := Lib.hid m1
  have M2 := Lib.hid m2
  have J1 := Lib.hid m3
  have HX := Lib.hid hx
  have HY := Lib.hid hy
  have HXA := Lib.hid hx
  have HYA := Lib.hid hy
  have HLv := Lib.hid hlv
  have HT1 := Lib.hid ht1
  have HT2 := Lib.hid ht2
  have HT3 := Lib.hid ht3
  have hrr : (r == r) = true := by simp
  obtain ⟨xa, xn, xc, rfl, hxl, hxm, hxx⟩ := hx
  obtain ⟨ya, yn, yc, rfl, hyy⟩ := hy
  have hxn : xn ≤ 8796093022208 := by omega
  clear hxx hyy hp m1 m2 m3 hlv ht1 ht2 ht3 hxl hxm
  have HBa := Lib.hid ((Below.refl w.heap.size w).alloc (Nat.le_refl _) (.cells #[] 43))
  have HRa := Lib.hid (HX.out.below HBa.out)
  have HOa : Hid ((w.alloc (.cells #[] 43)).ownsRow w.heap.size 43 2 (.slice (some ⟨w.heap.size, 0, none⟩) 0 0) 0 (cellsV [])) := by
    refine ⟨rfl, .inr ⟨w.heap.size, 0, #[], rfl, Nat.le_refl _, by unfold World.alloc; simp, Nat.le_refl _, Nat.zero_le _, rfl, rfl⟩⟩
  -- the own copy, by its two roads
  obtain ⟨ov, wv, hrun, hown, hbel⟩ : ∃ ov wv, (Builtin.append_ #[24, 24] 24 #[.slice (some ⟨w.heap.size, 0, none⟩) 0 0, .slice xa xn xc]).run Tryd.prog (w.alloc (.cells #[] 43)) = .ok ov wv ∧ wv.ownsRow w.heap.size 43 2 ov xn (cellsV v) ∧ Below w.heap.size w wv := by
    cases xa with
    | none =>
      obtain ⟨rfl, rfl⟩ := rdsP_none HX.out
      exact ⟨_, _, run_append_none _ _ _ _ 0 xc _ HOa.out, HOa.out, HBa.out⟩
    | some xa =>
      obtain ⟨i0, hi, hz0, hz1, hz2⟩ := info_parts infoSt
      have hl := HX.out.len
      obtain ⟨v', w', hr, hown', hgr, _⟩ := run_append_own (P := Tryd.prog) _ w.heap.size 24 24 43 i0 _ 2 16 Tryd.underlying24 hi hz0 hz1 hz2 rfl (by decide) _ 0 (cellsV []) HOa.out xa xn xc (cellsV v) (by rw [cellsV_length, hl])
        (rdsP_cells HRa.out) (cellsV_one _) (by have := HX.out.lt; omega) (by omega) (by simp)
      rw [Nat.zero_add, ← cellsV_append, List.nil_append] at hown'
      exact ⟨v', w', hr, hown', HBa.out.grown hgr (by simp) (fun j hj => (HOa.out.lt _ hj).1)⟩
  obtain ⟨oa, oc, rfl, _, _⟩ := ownsSt_form hown
  have HRun := Lib.hid hrun
  have HO0 := Lib.hid hown
  have HB0 := Lib.hid hbel
  have HRo : Hid (RdsP wv (.slice oa xn oc) v) := owns_rdsP HX.out.len hown
  have HX0 := Lib.hid (HX.out.below hbel)
  have HY0 := Lib.hid (HY.out.below hbel)
  have HGl : Hid (∀ k, (Value.slice oa xn oc).ownBlock = some k → w.heap.size ≤ k ∧ k < wv.heap.size) := hown.lt
  clear hrun hown hbel
  go_enter Tryd.func8, Tryd.ntmps8
  go_wp2_with (at_builtin; go_loud (refine Lib.wpList_append_run _ rfl (.tmp 19) (.tmp 20) 24 24 rfl _ _ rfl rfl _ _ HRun.out ?_))
  refine (W1.out _ _ HRo.out HY0.out).mono ?_
  rintro e w1 ⟨a1, n1, c1, rfl, r1, o1, b1⟩
  obtain ⟨ys1, o1⟩ := o1
  have A1 := Lib.hid r1
  have AA : Hid (Above wv.heap.size (.slice a1 n1 c1)) := fun k hk => (o1.lt k hk).1
  have R1 := Lib.hid (HRo.out.below b1)
  have O1 := Lib.hid (ownsSt_below HO0.out b1)
  have X1 := Lib.hid (HX0.out.below b1)
  have Y1 := Lib.hid (HY0.out.below b1)
  have B1 := Lib.hid (HB0.out.trans (b1.mono HB0.out.size))
  have S1 := Lib.hid b1.size
  clear r1 o1 b1
  go_wp2_with fail
  have L1 := Lib.hid (rdsL_one 24 R1.out)
  have C1 := Lib.hid ((Below.refl w1.heap.size w1).alloc (Nat.le_refl _) (.cells #[.slice oa xn oc] 24))
  refine (M1.out _ _ L1.out).mono ?_
  rintro e w2 ⟨a2, n2, c2, rfl, r2, o2, b2⟩
  have b2 := C1.out.trans (b2.mono C1.out.size)
  have D2 := Lib.hid r2
  have DD : Hid (Above wv.heap.size (.slice a2 n2 c2)) := fun k hk => by
    have h1 := o2 k hk
    have h2 := S1.out
    have h3 := C1.out.size
    omega
  have A2 := Lib.hid (A1.out.below b2)
  have R2 := Lib.hid (R1.out.below b2)
  have O2 := Lib.hid (ownsSt_below O1.out b2)
  have X2 := Lib.hid (X1.out.below b2)
  have Y2 := Lib.hid (Y1.out.below b2)
  have B2 := Lib.hid (B1.out.trans (b2.mono B1.out.size))
  have S2 := Lib.hid (Nat.le_trans S1.out b2.size)
  clear r2 o2 b2 L1 C1
  go_wp2_with fail
  have L2 := Lib.hid (rdsL_one 24 R2.out)
  have C2 := Lib.hid ((Below.refl w2.heap.size w2).alloc (Nat.le_refl _) (.cells #[.slice oa xn oc] 24))
  refine (J1.out _ _ L2.out).mono ?_
  rintro e w3 ⟨a3, n3, c3, rfl, r3, o3, b3⟩
  have b3 := C2.out.trans (b3.mono C2.out.size)
  have E3 := Lib.hid r3
  have EE : Hid (Above wv.heap.size (.slice a3 n3 c3)) := fun k hk => by
    have h1 := o3 k hk
    have h2 := S2.out
    have h3 := C2.out.size
    omega
  have A3 := Lib.hid (A2.out.below b3)
  have D3 := Lib.hid (D2.out.below b3)
  have R3 := Lib.hid (R2.out.below b3)
  have O3 := Lib.hid (ownsSt_below O2.out b3)
  have X3 := Lib.hid (X2.out.below b3)
  have Y3 := Lib.hid (Y2.out.below b3)
  have B3 := Lib.hid (B2.out.trans (b3.mono B2.out.size))
  have S3 := Lib.hid (Nat.le_trans S2.out b3.size)
  clear r3 o3 b3 L2 C2
  go_wp2_with fail
  refine (SameR_any _ _ _ _ _ R3.out X3.out true (by simp)).mono ?_
  rintro e u1 ⟨rfl, k1, rfl⟩
  go_wp2_with fail
  obtain ⟨W0, hW0⟩ : ∃ W0, W0 = w3.drewN k1 := ⟨_, rfl⟩
  have A4 := Lib.hid (rdsP_drewN A3.out k1)
  have D4 := Lib.hid (rdsP_drewN D3.out k1)
  have E4 := Lib.hid (rdsP_drewN E3.out k1)
  have X4 := Lib.hid (rdsP_drewN X3.out k1)
  have Y4 := Lib.hid (rdsP_drewN Y3.out k1)
  have O4 := Lib.hid (ownsRow_drewN O3.out k1)
  have B4 := Lib.hid (below_dN B3.out k1)
  rw [← hW0] at A4 D4 E4 X4 Y4 O4 B4 ⊢
  clear hW0
  clear HX HY HX0 HY0 HRo X1 X2 X3 Y1 Y2 Y3 A1 A2 A3 D2 D3 E3 R1 R2 R3 O1 O2 O3 HO0 B1 B2 B3 S1 S2 S3 W1 M1 J1 HRun HRa HOa HBa
  go_loopw [47] (fun k wr => ∃ n : Nat, n ≤ xn ∧ k = .int .i64 n ∧ Hid (W0.grownBy wr (Value.slice oa xn oc).ownBlock) ∧ ∃ ys, Hid (wr.ownsRow w.heap.size 43 2 (.slice oa xn oc) xn ys)) (fun k _ => xn - (intOf k).toNat)
  case atStart => exact ⟨0, Nat.zero_le _, rfl, grownBy_refl' _ _, _, O4⟩
  case round =>
    obtain ⟨wo, rfl⟩ : ∃ wo : World, wo = wr := ⟨wr, rfl⟩
    obtain ⟨n, hn, rfl, HG, ys, HO⟩ := hrel
    by_cases hlt : n < xn
    · obtain ⟨g, hoa⟩ : ∃ g, oa = some ⟨g, 0, none⟩ := by
        rcases HO.out.2 with ⟨_, h2⟩ | ⟨g, _, _, h, _⟩
        · omega
        · exact ⟨g, by injection h⟩
      subst hoa
      have hyl : ys.length = xn * 2 := HO.out.1
      obtain ⟨u0, hu0⟩ : ∃ u0, ys[n * 2]? = some u0 := ⟨ys[n * 2]'(by omega), List.getElem?_eq_getElem _⟩
      obtain ⟨u1, hu1⟩ : ∃ u1, ys[n * 2 + 1]? = some u1 := ⟨ys[n * 2 + 1]'(by omega), List.getElem?_eq_getElem _⟩
      have hz1 := (HO.out.cellAt (n * 2) (by omega)).trans hu0
      have hz2 := (HO.out.cellAt (n * 2 + 1) (by omega)).trans hu1
      have hf1 : wo.frozen? ⟨g, n * 2, none⟩ = false := HO.out.frozenAt (n * 2)
      have hf2 : wo.frozen? ⟨g, n * 2 + 1, none⟩ = false := HO.out.frozenAt (n * 2 + 1)
      have h5 := HO.out.stored (n * 2) (.int .i64 (-1))
      have HO5 := Lib.hid h5.1
      have h6 := HO5.out.stored (n * 2 + 1) (.int .u64 0)
      have HO6 := Lib.hid h6.1
      have HG6 : Hid (W0.grownBy ((wo.setCell ⟨g, n * 2, none⟩ (.int .i64 (-1))).setCell ⟨g, n * 2 + 1, none⟩ (.int .u64 0)) (some g)) := (HG.out.trans h5.2).trans h6.2
      have hz3 : (wo.setCell ⟨g, n * 2, none⟩ (.int .i64 (-1))).cell? ⟨g, n * 2 + 1, none⟩ = some u1 := (HO5.out.cellAt (n * 2 + 1) (by omega)).trans (by rw [List.getElem?_set_ne (by omega)]; exact hu1)
      have hf3 : (wo.setCell ⟨g, n * 2, none⟩ (.int .i64 (-1))).frozen? ⟨g, n * 2 + 1, none⟩ = false := HO5.out.frozenAt (n * 2 + 1)
      clear h5 h6 hu0 hu1 hyl
      go_wp2_with fail
      go_roundw
      case rel => exact ⟨n + 1, by omega, by go_num, HG6, _, HO6⟩
      case measure => simp [intOf]; omega
    · have hfar : ∀ {z : Value} {m : List Stp}, Above wv.heap.size z → RdsP W0 z m → RdsP wo z m := fun ha h => h.far HG.out fun k hk e => by
        have h1 := ha k hk
        have h2 := (HGl.out k e).2
        omega
      have A5 := Lib.hid (hfar AA.out A4.out)
      have D5 := Lib.hid (hfar DD.out D4.out)
      have E5 := Lib.hid (hfar EE.out E4.out)
      have X5 : Hid (RdsP wo (.slice xa xn xc) v) := HXA.out.farArg X4.out HG.out fun k hk => (HGl.out k hk).1
      have Y5 : Hid (RdsP wo (.slice ya yn yc) l) := HYA.out.farArg Y4.out HG.out fun k hk => (HGl.out k hk).1
      have B5 : Hid (Below w.heap.size w wo) := B4.out.grown HG.out B4.out.size (fun k hk => (HGl.out k hk).1)
      clear hfar HG HO
      go_wp2_with fail
      refine (W2.out _ X5.out Y5.out).mono ?_
      rintro e w6 ⟨a6, n6, c6, rfl, r6, b6⟩
      have A6 := Lib.hid (A5.out.below b6)
      have D6 := Lib.hid (D5.out.below b6)
      have E6 := Lib.hid (E5.out.below b6)
      have X6 := Lib.hid (X5.out.below b6)
      have F6 := Lib.hid r6
      have B6 := Lib.hid (B5.out.trans (b6.mono B5.out.size))
      clear r6 b6
      go_wp2_with fail
      have L6 := Lib.hid (rdsL_one 24 X6.out)
      have C6 := Lib.hid ((Below.refl w6.heap.size w6).alloc (Nat.le_refl _) (.cells #[.slice xa xn xc] 24))
      refine (M2.out _ _ L6.out).mono ?_
      rintro e w7 ⟨a7, n7, c7, rfl, r7, b7⟩
      have b7 := C6.out.trans (b7.mono C6.out.size)
      have A7 := Lib.hid (A6.out.below b7)
      have D7 := Lib.hid (D6.out.below b7)
      have E7 := Lib.hid (E6.out.below b7)
      have F7 := Lib.hid (F6.out.below b7)
      have G7 := Lib.hid r7
      have B7 := Lib.hid (B6.out.trans (b7.mono B6.out.size))
      clear r7 b7 L6 C6
      go_wp2_with fail
      refine (SameR_any _ _ _ _ _ A7.out F7.out true (by simp)).mono ?_
      rintro e u1 ⟨rfl, j1, rfl⟩
      go_wp2_with fail
      refine (SameR_any _ _ _ _ _ (rdsP_drewN D7.out _) (rdsP_drewN G7.out _) true (by simp)).mono ?_
      rintro e u2 ⟨rfl, j2, rfl⟩
      go_wp2_with fail
      refine (SameR_any _ _ _ _ _ (rdsP_drewN E7.out _) (rdsP_drewN G7.out _) true (by simp)).mono ?_
      rintro e u3 ⟨rfl, j3, rfl⟩
      have hq0 := HT1.out.symm
      have hn0 : ((n2 : Int) == 0) = t2 := by
        have h1 := D7.out.len
        rw [HT2.out, h1]
        by_cases hx0 : X.length = 0 <;> simp [hx0]
      have ht3 := HT3.out
      cases t1 with
      | true =>
        go_wp2_with fail
        refine (awake_any _).mono ?_
        rintro e w8 ⟨rfl, b8⟩
        have B8 := Lib.hid ((below_dN B7.out (j1 + j2 + j3)).trans (b8.mono (below_dN B7.out (j1 + j2 + j3)).size))
        clear b8
        go_wp2_with fail
        go_ret
        exact ⟨rfl, B8.out⟩
      | false =>
        obtain rfl : t2 = true := by simpa using ht3
        go_wp2_with fail
        refine (awake_any _).mono ?_
        rintro e w8 ⟨rfl, b8⟩
        have B8 := Lib.hid ((below_dN B7.out (j1 + j2 + j3)).trans (b8.mono (below_dN B7.out (j1 + j2 + j3)).size))
        clear b8
        go_wp2_with fail
        go_ret
        exact ⟨rfl, B8.out⟩
end Go.Proofs.YtlmpaeefhpahoaaDoor
