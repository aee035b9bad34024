/-
  Walks: the code's Read.
-/
import Derived.BigQuiet
import Derived.Test.YtlmpaeefhpahoaaDoorVecTI
namespace Go.Proofs.YtlmpaeefhpahoaaDoor
open Go.RowKit

set_option maxHeartbeats 3000000 in
set_option maxRecDepth 20000 in
theorem Read_any (s : ByteArray) (w : World) (htab : Tab10 w) (hdo : DoorOk w) (hs : s.size ≤ 1048576) (T : List (Nat × Nat) × Nat × Int) (hT : Tx.readT s.data.toList = T) (hne : s.data.toList ≠ [45]) :
    Calls Tryd.prog 28 #[.string s] w fun e w' => ∃ oa om oc, e = .returned (.tuple #[.slice oa om oc, .int .i64 T.2.1, .int .i64 T.2.2]) ∧ RdsP w' (.slice oa om oc) (castP T.1) ∧ Below w.heap.size w w' := by
  have hT' : Tx.readP (Tx.pieces s.data.toList) [] 0 = T := by unfold Tx.readT at hT; rw [if_neg hne] at hT; exact hT
  have HT := Lib.hid hT'
  have hss : (s.toList == [45]) = false := by rw [Lib.toList_data]; simpa using hne
  have HTab := Lib.hid htab
  have HDo := Lib.hid hdo
  have HSp := Lib.hid (Split_any s w hdo hs)
  have HSm := Lib.hid (pieces_sum s.data.toList)
  clear hT hT' hne htab hdo
  generalize hR : (fun (e : Ending) (w' : World) => _) = R
  have HR := Lib.hid hR
  clear hR
  go_enter Tryd.func28, Tryd.ntmps28
  go_wp2_with fail
  refine HSp.out.mono ?_
  rintro e w1 ⟨L, hLl, rfl, HLd, hw1⟩
  obtain ⟨len, hlen⟩ : ∃ len, L.length = len := ⟨_, rfl⟩
  rw [hlen]
  have HLen := Lib.hid hlen
  have hlb : len ≤ s.size + 1 := by omega
  have HB1 : Hid (Below w.heap.size w w1) := by rw [hw1]; exact (Below.refl w.heap.size w).alloc (Nat.le_refl _) _
  have hs1 : w1.heap.size = w.heap.size + 1 := by rw [hw1]; simp
  have HL : Hid (∀ j (h : j < L.length), w1.cell? ⟨w.heap.size, j, none⟩ = some (.string L[j])) := by
    intro j h
    rw [hw1, World.cell?_alloc_new]
    simp [h]
  clear hlen hLl hw1
  go_wp2_with fail
  go_loopw [5, 6, 22] (fun v at_ k wr => ∃ n m : Nat, ∃ o : List (Nat × Nat), ∃ oa om oc, n ≤ len ∧ m ≤ s.size + 1 ∧ k = .int .i64 n ∧ at_ = .int .i64 m ∧ v = .slice oa om oc ∧ Hid (om = o.length) ∧ Hid (RiseN o) ∧ Hid (Tx.readP ((Tx.pieces s.data.toList).drop n) o m = T) ∧ Hid (m + (((Tx.pieces s.data.toList).drop n).map fun p => p.length + 1).sum = s.size + 1) ∧ Hid (wr.ownsRow w1.heap.size 43 2 (.slice oa om oc) om (cellsV (castP o))) ∧ Hid (Below w1.heap.size w1 wr)) (fun _ _ k _ => len - (intOf k).toNat)
  case atStart => exact ⟨0, 0, [], none, 0, 0, Nat.zero_le _, Nat.zero_le _, rfl, rfl, rfl, rfl, RiseN.nil, HT.out, (by show _ = _; have := HSm.out; simpa using this), World.ownsRow_nil _ _ _ _, Below.refl _ _⟩
  case round =>
    obtain ⟨wo, rfl⟩ : ∃ wo : World, wo = wr := ⟨wr, rfl⟩
    obtain ⟨n, m, o, oa, om, oc, hn, hm, rfl, rfl, rfl, HOM, HRi, HQ, HSu, HO, HB⟩ := hrel
    by_cases hlt : n < len
    · have hnL : n < L.length := by rw [HLen.out]; exact hlt
      obtain ⟨P, hP⟩ : ∃ P, P = L[n] := ⟨_, rfl⟩
      have hcell : wo.cell? ⟨w.heap.size, n, none⟩ = some (.string P) := by
        rw [hP]
        exact (HB.out.cell (p := ⟨w.heap.size, n, none⟩) (by show w.heap.size < w1.heap.size; omega)).trans (HL.out n hnL)
      have HPd : Hid ((Tx.pieces s.data.toList).drop n = P.data.toList :: (Tx.pieces s.data.toList).drop (n + 1)) := by
        show _ = _
        have h1 : n < (Tx.pieces s.data.toList).length := by rw [← HLd.out, List.length_map]; exact hnL
        rw [List.drop_eq_getElem_cons h1]
        congr 1
        rw [hP]
        simp only [← HLd.out, List.getElem_map]
      clear hP
      have HPl : Hid (P.data.toList.length = P.size) := by show _ = _; simp
      have hsum : m + (P.size + 1) ≤ s.size + 1 := by
        have := HSu.out
        rw [HPd.out, List.map_cons, List.sum_cons, HPl.out] at this
        omega
      have HSu2 : Hid (m + (P.size + 1) + (((Tx.pieces s.data.toList).drop (n + 1)).map fun p => p.length + 1).sum = s.size + 1) := by
        show _ = _
        have := HSu.out
        rw [HPd.out, List.map_cons, List.sum_cons, HPl.out] at this
        omega
      have HDw : Hid (∀ W, Below w1.heap.size w1 W → DoorOk W ∧ Tab10 W) := by
        intro W hW
        have hb : Below w.heap.size w W := HB1.out.trans (hW.mono (by omega))
        exact ⟨HDo.out.below hb, tab10_below HTab.out hb⟩
      have HC := Lib.hid (Cut_any P wo (HDw.out _ HB.out).1 (by omega))
      go_wp2_with fail
      refine HC.out.mono ?_
      rintro e w2 ⟨A, B, c, rfl, HA, HBb, hAs, hBs, k2, rfl⟩
      have HB2 : Hid (Below w1.heap.size w1 (wo.drewN k2)) := below_dN HB.out k2
      have HAt := Lib.hid (Atoi_any A (wo.drewN k2) (HDw.out _ HB2.out).1 (by omega))
      go_wp2_with fail
      refine HAt.out.mono ?_
      rintro e w3 ⟨a, ev, rfl, HEa, hb3⟩
      have HB3 := Lib.hid (HB2.out.trans (hb3.mono HB2.out.size))
      have HPu := Lib.hid (ParseUint_any B w3 (HDw.out _ HB3.out).1 (by omega))
      have HO3 := Lib.hid (ownsSt_below (ownsRow_drewN HO.out k2) hb3)
      clear hb3
      go_wp2_with fail
      refine HPu.out.mono ?_
      rintro e w4 ⟨b, ew, rfl, HEb, hb4⟩
      have HB4 := Lib.hid (HB3.out.trans (hb4.mono HB3.out.size))
      have HO4 := Lib.hid (ownsSt_below HO3.out hb4)
      clear hb4 hcell
      have HB5 := Lib.hid (HB4.out.alloc HB4.out.size (.cells #[.int .i64 a, .int .u64 b] 43))
      have HBad : Hid (Tx.stOf P.data.toList = none → T = ([], m, 21)) := by
        intro h
        rw [← HQ.out, HPd.out]
        conv => lhs; rw [Tx.readP, h]
      rcases HEa with ⟨rfl, HEa⟩ | ⟨⟨N, rfl⟩, HEa⟩
      · rcases HEb with ⟨rfl, HEb⟩ | ⟨⟨N, rfl⟩, HEb⟩
        · rcases Tx.code_part P.data.toList with ⟨x, h1, h2, h3, hx1, hx2, h6⟩ | ⟨hTT, hno⟩
          · obtain rfl : a = (x.1 : Int) := by rw [← HA.out, HEa.out] at h2; injection h2
            obtain rfl : b = x.2 := by rw [← HBb.out, HEb.out] at h3; injection h3
            have hx1' : ((x.1 : Int).toNat) = x.1 := by omega
            have HTT : Hid (T = if o.getLast?.any (fun y => decide (x.1 ≤ y.1)) = true then ([], m, 21) else Tx.readP ((Tx.pieces s.data.toList).drop (n + 1)) (o ++ [x]) (m + (P.size + 1))) := by
              show _ = _
              rw [← HQ.out, HPd.out]
              conv => lhs; rw [Tx.readP, h1]
              simp only [HPl.out]
              rfl
            have HX := Lib.hid (fun W (h : Below w1.heap.size w1 W) => text_any x.1 x.2 hx1 hx2 W (HDw.out W h).2)
            obtain ⟨S, hS⟩ : ∃ S, S = stS x.1 x.2 := ⟨_, rfl⟩
            rw [← hS] at HX
            have hSP : S.data.toList = P.data.toList := by
              rw [hS, stS_data]
              exact h6
            have e1 : (S.toList == P.toList) = true := by rw [Lib.toList_data, Lib.toList_data]; simpa using hSP
            have e2 : (S.toList != P.toList) = false := by rw [bne, e1]; rfl
            have HDv := Lib.hid (isDevice_any (x.1 : Int))
            have hda : dev (x.1 : Int) = true := by unfold dev; simp; omega
            rw [hda] at HDv
            have g1 : IntKind.i64.wrap ((P.size : Int) + 1) = (P.size : Int) + 1 := IntWalk.i64_in _ (by omega)
            have g3 : IntKind.i64.wrap ((m : Int) + ((P.size : Int) + 1)) = ((m + (P.size + 1) : Nat) : Int) := by rw [IntWalk.i64_in _ (by omega)]; omega
            have hn1 : (w4.alloc (.cells #[.int .i64 (x.1 : Int), .int .u64 (x.2 : Int)] 43)).cell? ⟨w4.heap.size, 0, none⟩ = some (.int .i64 (x.1 : Int)) := by simp [go_sem]
            have hn2 : (w4.alloc (.cells #[.int .i64 (x.1 : Int), .int .u64 (x.2 : Int)] 43)).cell? ⟨w4.heap.size, 1, none⟩ = some (.int .u64 (x.2 : Int)) := by simp [go_sem]
            have HO5 := Lib.hid (HO4.out.alloc (.cells #[.int .i64 (x.1 : Int), .int .u64 (x.2 : Int)] 43))
            have hw5 : w4.heap.size < (w4.alloc (.cells #[.int .i64 (x.1 : Int), .int .u64 (x.2 : Int)] 43)).heap.size := by simp
            clear hda h1 h2 h3 h6 hS hSP hx1'
            rcases List.eq_nil_or_concat o with rfl | ⟨o', y, ho⟩
            · have HTN : Hid (T = Tx.readP ((Tx.pieces s.data.toList).drop (n + 1)) ([] ++ [x]) (m + (P.size + 1))) := HTT.out
              obtain rfl : om = 0 := HOM.out
              have HCl : Hid (0 = (castP []).length) := rfl
              have HRi2 : Hid (RiseN ([] ++ [x])) := RiseN.snoc RiseN.nil hx1 hx2 rfl
              go_wp2_with fail
              refine (HDv.out _).mono ?_
              rintro e w5 ⟨rfl, rfl⟩
              go_wp2_with fail
              refine (HX.out _ HB5.out).mono ?_
              rintro e w6 ⟨rfl, hb6⟩
              have HB6 := Lib.hid (HB5.out.trans (hb6.mono HB5.out.size))
              have HO6 := Lib.hid (ownsSt_below HO5.out hb6)
              have hn3 := (hb6.cell (p := ⟨w4.heap.size, 0, none⟩) hw5).trans hn1
              have hn4 := (hb6.cell (p := ⟨w4.heap.size, 1, none⟩) hw5).trans hn2
              clear hb6 hn1 hn2 hw5
              have hm1 := hn3
              have hm2 := hn4
              have HB8 := Lib.hid (HB6.out.alloc HB6.out.size (.cells #[.int .i64 (x.1 : Int), .int .u64 (x.2 : Int)] 43))
              have HO8 := Lib.hid (HO6.out.alloc (.cells #[.int .i64 (x.1 : Int), .int .u64 (x.2 : Int)] 43))
              have hq1 : (w6.alloc (.cells #[.int .i64 (x.1 : Int), .int .u64 (x.2 : Int)] 43)).cell? ⟨w6.heap.size, 0, none⟩ = some (.int .i64 (x.1 : Int)) := by simp [go_sem]
              have hq2 : (w6.alloc (.cells #[.int .i64 (x.1 : Int), .int .u64 (x.2 : Int)] 43)).cell? ⟨w6.heap.size, 1, none⟩ = some (.int .u64 (x.2 : Int)) := by simp [go_sem]
              have HQ1 := Lib.hid hq1
              have HQ2 := Lib.hid hq2
              clear hq1 hq2
              go_wp2_with (at_builtin; go_loud (refine wp_app_stamp rfl _ _ rfl w1.heap.size (.slice oa (0) oc) (0) (castP []) ((x.1 : Int), (x.2 : Int)) _ _ rfl rfl HCl.out HO8.out HB8.out.size (by omega) HQ1.out HQ2.out ?_); intro v9 w9 hown9 hgr9; obtain ⟨oa9, oc9, rfl, _, _⟩ := ownsSt_form hown9; have HO9 := Lib.hid hown9; have HG9 := Lib.hid hgr9; clear hown9 hgr9)
              have HB9 := Lib.hid (HB8.out.grown HG9.out HB8.out.size (fun j hj => (HO8.out.lt _ hj).1))
              go_roundw
              case rel => exact ⟨n + 1, m + (P.size + 1), [] ++ [x], oa9, 0 + 1, oc9, by omega, by omega, by go_num, (by first | rfl | go_num), rfl, (by show _ = _; have := HCl.out; unfold castP at this; rw [List.length_map] at this; rw [List.length_append, List.length_singleton]; omega), HRi2, HTN.out.symm, HSu2, (by show World.ownsRow _ _ _ _ _ _ _; rw [castP_snoc]; exact HO9.out), HB9⟩
              case measure => simp [intOf]; omega
            · rw [List.concat_eq_append] at ho
              subst ho
              obtain ⟨q, hq⟩ : ∃ q, q = o'.length := ⟨_, rfl⟩
              obtain rfl : om = q + 1 := by have := HOM.out; simp at this; omega
              have HCl : Hid (q + 1 = (castP (o' ++ [y])).length) := by show _ = _; simp [castP]; exact hq
              have hql : q + 1 ≤ 256 := by have := HRi.out.len; simp at this; omega
              obtain ⟨g, hoa⟩ : ∃ g, oa = some ⟨g, 0, none⟩ := by
                rcases HO.out.2 with ⟨_, h2⟩ | ⟨g, _, _, h, _⟩
                · omega
                · exact ⟨g, by injection h⟩
              subst hoa
              have HYc : Hid ((cellsV (castP (o' ++ [y])))[q * 2]? = some (.int .i64 (y.1 : Int))) := by
                show _ = _
                have hlq : q < (castP (o' ++ [y])).length := by rw [← HCl.out]; omega
                rw [(cellsV_get _ q hlq).1]
                have : (castP (o' ++ [y]))[q] = ((y.1 : Int), (y.2 : Int)) := by
                  subst hq
                  simp [castP]
                rw [this]
              have hany : (o' ++ [y]).getLast?.any (fun y => decide (x.1 ≤ y.1)) = decide (x.1 ≤ y.1) := by simp
              have g4 : IntKind.i64.wrap (((q : Int) + 1) - 1) = (q : Int) := by rw [IntWalk.i64_in _ (by omega)]; omega
              have g5 : (0 : Int) < (q : Int) + 1 := by omega
              by_cases hge : x.1 ≤ y.1
              · have HTN : Hid (T = ([], m, 21)) := by show _ = _; rw [HTT.out, hany, decide_eq_true hge]; rfl
                have hgi : (x.1 : Int) ≤ (y.1 : Int) := by omega
                clear hany hq
                go_wp2_with fail
                refine (HDv.out _).mono ?_
                rintro e w5 ⟨rfl, rfl⟩
                go_wp2_with fail
                refine (HX.out _ HB5.out).mono ?_
                rintro e w6 ⟨rfl, hb6⟩
                have HB6 := Lib.hid (HB5.out.trans (hb6.mono HB5.out.size))
                have HO6 := Lib.hid (ownsSt_below HO5.out hb6)
                have hn3 := (hb6.cell (p := ⟨w4.heap.size, 0, none⟩) hw5).trans hn1
                have hn4 := (hb6.cell (p := ⟨w4.heap.size, 1, none⟩) hw5).trans hn2
                clear hb6 hn1 hn2 hw5
                have hy : w6.cell? ⟨g, q * 2, none⟩ = some (.int .i64 (y.1 : Int)) := (HO6.out.cellAt (q * 2) (by omega)).trans HYc.out
                go_wp2_with fail
                first | (go_quiet (fail); go_wp2_with fail) | skip
                first | go_ret3 | skip
                rw [← HR.out, HTN.out]
                first | exact ⟨none, 0, 0, rfl, rdsP_nil _, HB1.out.trans (HB6.out.mono (by omega))⟩ | exact ⟨none, 0, 0, rfl, rdsP_nil _, HB1.out.trans ((below_dN HB6.out nq).mono (by omega))⟩
              · have HTN : Hid (T = Tx.readP ((Tx.pieces s.data.toList).drop (n + 1)) (o' ++ [y] ++ [x]) (m + (P.size + 1))) := by show _ = _; rw [HTT.out, hany, decide_eq_false hge]; rfl
                have HRi2 : Hid (RiseN (o' ++ [y] ++ [x])) := RiseN.snoc HRi.out hx1 hx2 (by rw [hany]; exact decide_eq_false hge)
                have hgi : ¬ (x.1 : Int) ≤ (y.1 : Int) := by omega
                clear hany hq
                go_wp2_with fail
                refine (HDv.out _).mono ?_
                rintro e w5 ⟨rfl, rfl⟩
                go_wp2_with fail
                refine (HX.out _ HB5.out).mono ?_
                rintro e w6 ⟨rfl, hb6⟩
                have HB6 := Lib.hid (HB5.out.trans (hb6.mono HB5.out.size))
                have HO6 := Lib.hid (ownsSt_below HO5.out hb6)
                have hn3 := (hb6.cell (p := ⟨w4.heap.size, 0, none⟩) hw5).trans hn1
                have hn4 := (hb6.cell (p := ⟨w4.heap.size, 1, none⟩) hw5).trans hn2
                clear hb6 hn1 hn2 hw5
                have hy : w6.cell? ⟨g, q * 2, none⟩ = some (.int .i64 (y.1 : Int)) := (HO6.out.cellAt (q * 2) (by omega)).trans HYc.out
                have hm1 := hn3
                have hm2 := hn4
                have HB8 := Lib.hid (HB6.out.alloc HB6.out.size (.cells #[.int .i64 (x.1 : Int), .int .u64 (x.2 : Int)] 43))
                have HO8 := Lib.hid (HO6.out.alloc (.cells #[.int .i64 (x.1 : Int), .int .u64 (x.2 : Int)] 43))
                have hq1 : (w6.alloc (.cells #[.int .i64 (x.1 : Int), .int .u64 (x.2 : Int)] 43)).cell? ⟨w6.heap.size, 0, none⟩ = some (.int .i64 (x.1 : Int)) := by simp [go_sem]
                have hq2 : (w6.alloc (.cells #[.int .i64 (x.1 : Int), .int .u64 (x.2 : Int)] 43)).cell? ⟨w6.heap.size, 1, none⟩ = some (.int .u64 (x.2 : Int)) := by simp [go_sem]
                have HQ1 := Lib.hid hq1
                have HQ2 := Lib.hid hq2
                clear hq1 hq2
                go_wp2_with (at_builtin; go_loud (refine wp_app_stamp rfl _ _ rfl w1.heap.size (.slice (some ⟨g, 0, none⟩) (q + 1) oc) (q + 1) (castP (o' ++ [y])) ((x.1 : Int), (x.2 : Int)) _ _ rfl rfl HCl.out HO8.out HB8.out.size (by omega) HQ1.out HQ2.out ?_); intro v9 w9 hown9 hgr9; obtain ⟨oa9, oc9, rfl, _, _⟩ := ownsSt_form hown9; have HO9 := Lib.hid hown9; have HG9 := Lib.hid hgr9; clear hown9 hgr9)
                have HB9 := Lib.hid (HB8.out.grown HG9.out HB8.out.size (fun j hj => (HO8.out.lt _ hj).1))
                go_roundw
                case rel => exact ⟨n + 1, m + (P.size + 1), (o' ++ [y]) ++ [x], oa9, q + 1 + 1, oc9, by omega, by omega, by go_num, (by first | rfl | go_num), rfl, (by show _ = _; have := HCl.out; unfold castP at this; rw [List.length_map] at this; rw [List.length_append, List.length_singleton]; omega), HRi2, HTN.out.symm, HSu2, (by show World.ownsRow _ _ _ _ _ _ _; rw [castP_snoc]; exact HO9.out), HB9⟩
                case measure => simp [intOf]; omega
          · have HTT := Lib.hid (HBad.out hTT)
            by_cases hda : dev a = true
            · obtain ⟨d, rfl⟩ : ∃ d : Nat, a = (d : Int) := ⟨a.toNat, by unfold dev at hda; simp at hda; omega⟩
              have hd : d < 256 := by unfold dev at hda; simp at hda; omega
              obtain ⟨hb64, hne⟩ := hno d b (by rw [← HA.out]; exact HEa.out) (by rw [← HBb.out]; exact HEb.out) (by omega) (by omega)
              have HX := Lib.hid (fun W (h : Below w1.heap.size w1 W) => text_grown d b hd hb64 W (HDw.out W h).2)
              obtain ⟨S, hS⟩ : ∃ S, S = stS d b := ⟨_, rfl⟩
              rw [← hS] at HX
              have hSP : S.data.toList ≠ P.data.toList := by
                rw [hS, stS_data]
                exact hne
              have e1 : (S.toList == P.toList) = false := by rw [Lib.toList_data, Lib.toList_data]; simpa using hSP
              have e2 : (S.toList != P.toList) = true := by rw [bne, e1]; rfl
              have HDv := Lib.hid (isDevice_any d)
              rw [hda] at HDv
              have hn1 : (w4.alloc (.cells #[.int .i64 (d : Int), .int .u64 (b : Int)] 43)).cell? ⟨w4.heap.size, 0, none⟩ = some (.int .i64 (d : Int)) := by simp [go_sem]
              have hn2 : (w4.alloc (.cells #[.int .i64 (d : Int), .int .u64 (b : Int)] 43)).cell? ⟨w4.heap.size, 1, none⟩ = some (.int .u64 (b : Int)) := by simp [go_sem]
              clear hda hTT hno hne hS hSP hd hb64
              go_wp2_with fail
              refine (HDv.out _).mono ?_
              rintro e w5 ⟨rfl, rfl⟩
              go_wp2_with fail
              refine (HX.out _ HB5.out).mono ?_
              rintro e w6 ⟨rfl, k6, os6, rfl⟩
              have HB6 := Lib.hid (HB5.out.trans ((below_grow _ k6 os6).mono HB5.out.size))
              clear hn1 hn2
              generalize «Sort».grow _ os6 = w6 at HB6 ⊢
              go_wp2_with fail
              go_ret3
              rw [← HR.out, HTT.out]
              exact ⟨none, 0, 0, rfl, rdsP_nil _, HB1.out.trans (HB6.out.mono (by omega))⟩
            · have hdf : dev a = false := by simpa using hda
              have HDv := Lib.hid (isDevice_any a)
              rw [hdf] at HDv
              clear hda hdf hTT hno
              go_wp2_with fail
              refine (HDv.out _).mono ?_
              rintro e w5 ⟨rfl, rfl⟩
              go_wp2_with fail
              go_ret3
              rw [← HR.out, HTT.out]
              exact ⟨none, 0, 0, rfl, rdsP_nil _, HB1.out.trans (HB5.out.mono (by omega))⟩
        · have hTT : Tx.stOf P.data.toList = none := by
            rcases Tx.code_part P.data.toList with ⟨x, h1, h2, h3, _⟩ | h
            · rw [← HBb.out] at h3
              exact absurd h3 (HEb.out _)
            · exact h.1
          have HTT := Lib.hid (HBad.out hTT)
          clear hTT
          go_wp2_with fail
          go_ret3
          rw [← HR.out, HTT.out]
          exact ⟨none, 0, 0, rfl, rdsP_nil _, HB1.out.trans (HB5.out.mono (by omega))⟩
      · have hTT : Tx.stOf P.data.toList = none := by
          rcases Tx.code_part P.data.toList with ⟨x, h1, h2, _⟩ | h
          · rw [← HA.out] at h2
            exact absurd h2 (HEa.out _)
          · exact h.1
        have HTT := Lib.hid (HBad.out hTT)
        clear hTT
        go_wp2_with fail
        go_ret3
        rw [← HR.out, HTT.out]
        exact ⟨none, 0, 0, rfl, rdsP_nil _, HB1.out.trans (HB5.out.mono (by omega))⟩
    · obtain rfl : n = len := by omega
      have HTe : Hid (T = (o, 0, 0)) := by
        show _ = _
        rw [← HQ.out, List.drop_eq_nil_of_le (by rw [← HLd.out, List.length_map]; have := HLen.out; omega), Tx.readP]
      go_wp2_with fail
      go_ret3
      rw [← HR.out, HTe.out]
      exact ⟨oa, om, oc, rfl, owns_rdsP (by have := HOM.out; simp [castP]; exact this) HO.out, HB1.out.trans (HB.out.mono (by omega))⟩
end Go.Proofs.YtlmpaeefhpahoaaDoor
