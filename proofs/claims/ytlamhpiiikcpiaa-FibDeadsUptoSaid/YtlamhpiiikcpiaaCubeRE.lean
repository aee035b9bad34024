/-
  Walks over the reference of layer 1: Left, Apart.
-/
import Derived.Test.YtlamhpiiikcpiaaCubeRD
import Derived.Test.YtlamhpiiikcpiaaCubeI
namespace Go.Proofs.Ytlamhpiiikcpiaa
open Go.RowKit

set_option maxHeartbeats 800000 in
set_option maxRecDepth 20000 in
theorem rLeft_bad (c : ByteArray) (v : Value) (ls : List ByteArray) (w : World) (hr : RdsS w v ls) (hc : c.size ≤ maxLen) (hsz : ∀ s ∈ ls, s.size ≤ maxLen) (hn : (ls.length + 1) * 16 ≤ 140737488355328)
    (q : Int) (hw : ¬ q = 0) (hq : Cb.wrong (c.data.toList :: lb ls) = q) :
    Calls Try.prog 39 #[.string c, v] w fun e w' => e = .returned (.tuple #[.slice none 0 0, .int .i64 q]) ∧ Below w.heap.size w w' := by
  obtain ⟨i0, hf0, hf1, hf2, hf3⟩ := info_parts info_string
  have HQ : Hid (Cb.wrong (lb (c :: ls)) = q) := hq
  have hne : ((q : Int) != 0) = true := by simpa using hw
  have HSZ : Hid (∀ s ∈ c :: ls, s.size ≤ maxLen) := fun s hs => by
    rcases List.mem_cons.1 hs with rfl | h
    · exact hc
    · exact hsz s h
  have HR := Lib.hid hr
  obtain ⟨ad, len, cap, rfl, hl, hlm, hel⟩ := rdsS_form hr
  have HL := Lib.hid hl
  unfold maxLen at hlm
  have hn2 : (len + 1) * 16 ≤ 140737488355328 := by rw [hl]; exact hn
  clear hw hq hr hsz hl hel hn
  go_enter Try.func39, Try.ntmps39
  go_wp2_with (at_builtin; (refine wpList_append_rds rfl _ _ _ rfl w.heap.size 9 i0 _ 16 Try.underlying23 hf0 hf1 hf2 hf3 rfl _ 1 [.string c] rfl (lit_row rfl (Nat.le_refl _)) _ (ls.map Value.string) rfl (Rds.below HR.out ((Below.refl _ _).alloc (Nat.le_refl _) _)) str_one (len + 1) (by rw [List.length_map, ← HL.out]; omega) (by unfold maxLen; omega) (by omega) (by simp) ?_); intro ad1 cap1 w1 hown1 hgrow1)
  have hr1 : RdsS w1 _ (c :: ls) := ownsRow_rds hown1
  have HB1 := Lib.hid (((Below.refl w.heap.size w).alloc (Nat.le_refl _) (.cells #[.string c] 9)).grown hgrow1 (by simp) (fun k hk => by have h : some w.heap.size = some k := hk; injection h; omega))
  clear hown1 hgrow1
  refine (wrong_any _ _ _ hr1 HSZ.out).mono ?_
  rintro e w' ⟨rfl, k, rfl⟩
  rw [HQ.out]
  clear hr1
  go_wp2_with fail
  go_ret2
  exact ⟨rfl, below_dN HB1.out k⟩

set_option maxHeartbeats 2000000 in
set_option maxRecDepth 20000 in
theorem rLeft_go (c : ByteArray) (v : Value) (ls : List ByteArray) (w : World) (hr : RdsS w v ls) (hc : c.size ≤ maxLen) (hsz : ∀ s ∈ ls, s.size ≤ maxLen) (hn : (ls.length + 1) * 16 ≤ 140737488355328)
    (hw : Cb.wrong (c.data.toList :: lb ls) = 0) (S : List (List UInt8) × Int) (hS : Cb.LeftS c.data.toList (lb ls) = S) :
    Calls Try.prog 39 #[.string c, v] w fun e w' => ∃ v', e = .returned (.tuple #[v', .int .i64 S.2]) ∧ RdsS w' v' (S.1.map bs) ∧ Below w.heap.size w w' := by
  obtain ⟨i0, hf0, hf1, hf2, hf3⟩ := info_parts info_string
  obtain ⟨hcu, hwi⟩ := Cb.wrong_zero hw
  have hc128 : c.size ≤ 128 := by have := (Cb.ofB_len (hcu _ (List.mem_cons_self ..))).2; simpa using this
  have HS : Hid (∀ o, Cb.leftS c.data.toList (lb ls) = o → S = Cb.resL o) := fun o ho => by
    rw [← hS, ← ho]; unfold Cb.LeftS; rw [if_pos hw]
  have HW : Hid (Cb.wrong (lb (c :: ls)) = 0) := hw
  have HCU : Hid (∀ s ∈ ls, Cb.isCube s.data.toList = true) := fun s hs => hcu _ (List.mem_cons_of_mem _ (List.mem_map.2 ⟨s, hs, rfl⟩))
  have HWI : Hid (∀ s ∈ ls, s.size = c.size) := fun s hs => by
    have := hwi s.data.toList (List.mem_cons_of_mem _ (List.mem_map.2 ⟨s, hs, rfl⟩))
    simpa using this
  have HSZ : Hid (∀ s ∈ c :: ls, s.size ≤ maxLen) := fun s hs => by
    rcases List.mem_cons.1 hs with rfl | h
    · exact hc
    · exact hsz s h
  have HR := Lib.hid hr
  obtain ⟨ad, len, cap, rfl, hl, hlm, hel⟩ := rdsS_form hr
  have HL := Lib.hid hl
  have HEL := Lib.hid hel
  unfold maxLen at hlm
  have hn2 : (len + 1) * 16 ≤ 140737488355328 := by rw [hl]; exact hn
  clear hw hcu hwi hS hr hsz hl hel hn
  generalize hR : (fun (e : Ending) (w' : World) => _) = R
  have HRR := Lib.hid hR
  clear hR
  go_enter Try.func39, Try.ntmps39
  go_wp2_with (at_builtin; (refine wpList_append_rds rfl _ _ _ rfl w.heap.size 9 i0 _ 16 Try.underlying23 hf0 hf1 hf2 hf3 rfl _ 1 [.string c] rfl (lit_row rfl (Nat.le_refl _)) _ (ls.map Value.string) rfl (Rds.below HR.out ((Below.refl _ _).alloc (Nat.le_refl _) _)) str_one (len + 1) (by rw [List.length_map, ← HL.out]; omega) (by unfold maxLen; omega) (by omega) (by simp) ?_); intro ad1 cap1 w1 hown1 hgrow1)
  have hr1 : RdsS w1 _ (c :: ls) := ownsRow_rds hown1
  have HB1 := Lib.hid (((Below.refl w.heap.size w).alloc (Nat.le_refl _) (.cells #[.string c] 9)).grown hgrow1 (by simp) (fun k hk => by have h : some w.heap.size = some k := hk; injection h; omega))
  clear hown1 hgrow1
  refine (wrong_any _ _ _ hr1 HSZ.out).mono ?_
  rintro e w' ⟨rfl, k, rfl⟩
  rw [HW.out]
  clear hr1
  go_wp2_with fail
  have hI : Below w.heap.size w ((w1.drewN k).alloc (.cells #[.string c] 9)) ∧ ((w1.drewN k).alloc (.cells #[.string c] 9)).ownsRow w.heap.size 9 1 (.slice (some ⟨w1.heap.size, 0, none⟩) 1 1) 1 (vs [c.data.toList]) :=
    ⟨(below_dN HB1.out k).alloc HB1.out.size _, lit_row rfl HB1.out.size⟩
  have HI := Lib.hid hI
  clear hI
  generalize (w1.drewN k).alloc (.cells #[.string c] 9) = w2 at *
  generalize (Value.slice (some ⟨w1.heap.size, 0, none⟩) 1 1) = v6 at *
  go_loopw [7, 8, 9, 10] (fun u7 k _ _ wr => ∃ n : Nat, n ≤ len ∧ k = .int .i64 n ∧ ∃ R, Hid (((lb ls).take n).foldlM (fun rest b => Cb.nextS b rest) [c.data.toList] = some R) ∧ Hid (Below w.heap.size w wr) ∧ Hid (wr.ownsRow w.heap.size 9 1 u7 R.length (vs R)) ∧ Hid (Cb.wide c.size R ∧ R.length ≤ 16384)) (fun _ k _ _ _ => len - (intOf k).toNat)
  case atStart => exact ⟨0, Nat.zero_le _, rfl, _, rfl, HI.out.1, HI.out.2, fun r hr => by simp at hr; rw [hr]; simp, by simp⟩
  case round =>
    obtain ⟨n, hn, rfl, R0, HF, HV, HO0, HWD⟩ := hrel
    clear HI
    by_cases hlt : n < len
    · have hn' : n < ls.length := by rw [← HL.out]; exact hlt
      obtain ⟨b, off, rfl, hb, hcell⟩ := HEL.out n hn'
      have hcell2 : wr.cell? ⟨b, off + n, none⟩ = some (.string ls[n]) := (HV.out.cell (p := ⟨b, off + n, none⟩) hb).trans hcell
      have hVs := HV.out.size
      have hbwr : b < wr.heap.size := by omega
      obtain ⟨ad2, len2, cap2, rfl, hl2, hlm2, hel2⟩ := rdsS_form (rows_rds HO0.out)
      have HL2 := Lib.hid hl2
      have HEL2 := Lib.hid hel2
      have hwn : Hid (ls[n].size = c.size) := HWI.out _ (List.getElem_mem hn')
      have hcn : Hid (Cb.isCube ls[n].data.toList = true) := HCU.out _ (List.getElem_mem hn')
      have hni0 : (0 : Int) ≤ (n : Int) := by omega
      have hni1 : (n : Int) < (len : Int) := by omega
      unfold maxLen at hlm2
      clear hcell hl2 hel2
      obtain ⟨wo, rfl⟩ : ∃ wo : World, wo = wr := ⟨_, rfl⟩
      go_wp2_with fail
      go_loopw [9, 10] (fun u9 k wr => ∃ j : Nat, j ≤ len2 ∧ k = .int .i64 j ∧ ∃ N, Hid ((R0.take j).foldlM (Cb.nextC ls[n].data.toList) [] = some N) ∧ Hid (Below wo.heap.size wo wr) ∧ Hid (wr.ownsRow wo.heap.size 9 1 u9 N.length (vs N))) (fun _ k _ => len2 - (intOf k).toNat)
      case atStart => exact ⟨0, Nat.zero_le _, rfl, [], rfl, Below.refl _ _, World.ownsRow_nil _ _ _ _⟩
      case round =>
        obtain ⟨j, hj, rfl, N, HG, HB, HO⟩ := hrel
        by_cases hlt2 : j < len2
        · have hj' : j < R0.length := by have := HL2.out; simp at this; omega
          obtain ⟨b2, off2, rfl, hb2, hcell3⟩ := HEL2.out j (by simpa using hj')
          have hcell4 : wr.cell? ⟨b2, off2 + j, none⟩ = some (.string (bs R0[j])) := (HB.out.cell (p := ⟨b2, off2 + j, none⟩) hb2).trans (by rw [hcell3]; simp)
          have hcell5 : wr.cell? ⟨b, off + n, none⟩ = some (.string ls[n]) := (HB.out.cell (p := ⟨b, off + n, none⟩) hbwr).trans hcell2
          have hws : Hid (ls[n].size = (bs R0[j]).size) := by
            have h1 := HWD.out.1 _ (List.getElem_mem hj')
            exact hwn.out.trans ((bs_size R0[j]).trans h1).symm
          have hws2 : (bs R0[j]).size ≤ 128 := by rw [bs_size, HWD.out.1 _ (List.getElem_mem hj')]; exact hc128
          have hNl : N.length ≤ 16384 := (Cb.foldC_wide (by simpa using hwn.out) _ [] N (fun r hr => HWD.out.1 r (List.mem_of_mem_take hr)) (fun r hr => by simp at hr) (by simp) HG.out).2
          have hcl := Cb.cut_few R0[j] ls[n].data.toList (by simpa [bs_size] using hws2)
          have hstep : Hid ((R0.take (j + 1)).foldlM (Cb.nextC ls[n].data.toList) [] = Cb.nextC ls[n].data.toList N R0[j]) := by
            unfold Hid; rw [Cb.foldlM_succ _ _ _ _ hj', HG.out]; rfl
          have hwb := HB.out.size
          have hji0 : (0 : Int) ≤ (j : Int) := by omega
          have hji1 : (j : Int) < (len2 : Int) := by omega
          obtain ⟨M, hM⟩ : ∃ M, N.length + (Cb.cut R0[j] ls[n].data.toList).length = M := ⟨_, rfl⟩
          have HM := Lib.hid hM
          have hMb : M ≤ 16512 := by omega
          clear hM hcell3
          have hcut : Hid (∀ W, Calls Try.prog 57 #[.string (bs R0[j]), .string ls[n]] W fun e w' => ∃ v, e = .returned v ∧ w'.ownsRow W.heap.size 9 1 v (Cb.cut R0[j] ls[n].data.toList).length (vs (Cb.cut R0[j] ls[n].data.toList)) ∧ Below W.heap.size W w') :=
            fun W => rcut_any (bs R0[j]) ls[n] W hws.out hcn.out
          generalize hP : Cb.cut R0[j] ls[n].data.toList = P at *
          have HP := Lib.hid hP
          clear hP
          go_wp2_with fail
          go_region_law (first | (go_simp; go_at_call 57; refine (hcut.out _).mono ?_; rintro e w3 ⟨v2, rfl, hown2, hbel2⟩) | (refine step_append_rds (by rfl) (.tmp 33) (.tmp 42) _ (by rfl) wo.heap.size 9 i0 _ 16 Try.underlying23 hf0 hf1 hf2 hf3 rfl u9 _ _ (by rfl) (ownsRow_below HO.out.drew hbel2) v2 _ (by rfl) (ownsRow_rds hown2) (vs_one P) M (by rw [List.length_map]; exact HM.out) (by unfold maxLen; omega) (by omega) (Nat.le_trans hwb hbel2.size) ?_; intro ad4 cap4 w4 hown4 hgrow4))
          all_goals
            have hw3 : wo.heap.size ≤ w3.heap.size := Nat.le_trans hwb hbel2.size
            rw [vs_append] at hown4
            have HB4 := Lib.hid ((HB.out.drew.trans (hbel2.mono hwb)).grown hgrow4 hw3 (fun k hk => (HO.out.lt k hk).1))
            have HO4 : Hid (w4.ownsRow wo.heap.size 9 1 (.slice ad4 M cap4) (N ++ P).length (vs (N ++ P))) := by unfold Hid; rw [List.length_append, HM.out]; exact hown4
            clear hown4 hgrow4 hown2 hbel2
            by_cases hbig : 16384 < M
            · have hnone : Hid (Cb.nextS ls[n].data.toList R0 = none) := by
                refine Cb.foldlM_none _ _ _ (j + 1) ?_
                rw [hstep.out]
                unfold Cb.nextC
                rw [HP.out, if_pos (by rw [List.length_append, HM.out]; exact hbig)]
              have hnone2 : Hid (Cb.leftS c.data.toList (lb ls) = none) := by
                refine Cb.foldlM_none _ _ _ (n + 1) ?_
                rw [Cb.foldlM_succ _ _ _ _ (by simpa using hn'), HF.out]
                simpa using hnone.out
              have HBB := Lib.hid (HV.out.trans (HB4.out.mono hVs))
              go_wp2_with fail
              rw [← HRR.out]
              exact ⟨.slice none 0 0, by rw [HS.out none hnone2.out]; rfl, by rw [HS.out none hnone2.out]; exact rdsS_nil _, HBB.out⟩
            · have hsome : Hid ((R0.take (j + 1)).foldlM (Cb.nextC ls[n].data.toList) [] = some (N ++ P)) := by
                unfold Hid; rw [hstep.out]
                unfold Cb.nextC
                rw [HP.out, if_neg (by rw [List.length_append, HM.out]; exact hbig)]
              go_wp2_with fail
              go_roundw
              case rel => exact ⟨j + 1, by omega, by go_num, N ++ P, hsome, HB4, HO4⟩
              case measure => simp [intOf]; omega
        · have hjl : Hid (j = R0.length) := by have := HL2.out; unfold Hid; simp at this; omega
          have hnx : Hid (Cb.nextS ls[n].data.toList R0 = some N) := by
            have := HG.out
            rw [hjl.out, List.take_length] at this
            exact this
          have hfold : Hid (((lb ls).take (n + 1)).foldlM (fun rest b => Cb.nextS b rest) [c.data.toList] = some N) := by
            unfold Hid
            rw [Cb.foldlM_succ _ _ _ _ (by simpa using hn'), HF.out]
            simpa using hnx.out
          have hwd := Lib.hid (Cb.nextS_wide (by simpa using hwn.out) HWD.out.1 hnx.out)
          have HV2 : Hid (Below w.heap.size w wr) := HV.out.trans (HB.out.mono hVs)
          have HO2 : Hid (wr.ownsRow w.heap.size 9 1 u9 N.length (vs N)) := ownsRow_le HO.out hVs
          go_wp2_with fail
          go_roundw
          case rel => exact ⟨n + 1, by omega, by go_num, N, hfold, HV2, HO2, hwd⟩
          case measure => simp [intOf]; omega
    · have hnl : Hid (n = ls.length) := by have := HL.out; unfold Hid; omega
      have hfin : Hid (S = (R0, 0)) := by
        have := HF.out
        rw [hnl.out, List.take_of_length_le (by simp)] at this
        exact HS.out (some R0) this
      go_wp2_with fail
      rw [← HRR.out]
      refine ⟨u7, by rw [hfin.out]; rfl, ?_, HV.out⟩
      rw [hfin.out]
      exact rows_rds HO0.out

theorem rLeft_any : LeftPost 39 := by
  intro c v ls w hr hc hsz hn
  by_cases hw : Cb.wrong (c.data.toList :: lb ls) = 0
  · exact rLeft_go c v ls w hr hc hsz hn hw _ rfl
  · refine (rLeft_bad c v ls w hr hc hsz hn _ hw rfl).mono fun e w' h => ⟨.slice none 0 0, ?_, ?_, h.2⟩
    · rw [h.1]; unfold Cb.LeftS; rw [if_neg hw]
    · unfold Cb.LeftS; rw [if_neg hw]; exact rdsS_nil w'
end Go.Proofs.Ytlamhpiiikcpiaa
