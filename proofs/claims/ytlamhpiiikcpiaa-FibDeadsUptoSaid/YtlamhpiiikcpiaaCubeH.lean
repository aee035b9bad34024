/-
  Walks over package cube: Left.
-/
import Derived.Test.YtlamhpiiikcpiaaCubeG
import Derived.Test.YtlamhpiiikcpiaaAppend
import Derived.Test.YtlamhpiiikcpiaaCubePureL
namespace Go.Proofs.Ytlamhpiiikcpiaa
open Go.RowKit

theorem lb_bs (L : List (List UInt8)) : lb (L.map bs) = L := by
  induction L with
  | nil => rfl
  | cons a L ih => simp only [List.map_cons, ih]
theorem bs_size (l : List UInt8) : (bs l).size = l.length := by show l.toArray.size = _; rw [List.size_toArray]

theorem vs_one (L : List (List UInt8)) : ∀ u ∈ vs L, u.oneCell' = true := by
  intro u hu
  obtain ⟨s, _, rfl⟩ := List.mem_map.1 hu
  rfl

theorem vs_append (A B : List (List UInt8)) : vs A ++ vs B = vs (A ++ B) := by simp [vs]

/-- What holds of the world at a round's head: the code's cell, what is left so far. -/
structure LeftInv (B : Nat) (w wr : World) (v : Value) (R : List (List UInt8)) (n : Nat) : Prop where
  bel : Below B w wr
  size : B < wr.heap.size
  cell : wr.cell? ⟨B, 0, none⟩ = some (.int .i64 0)
  free : wr.frozen? ⟨B, 0, none⟩ = false
  own : wr.ownsRow (B + 1) 9 1 v R.length (vs R)
  wide : Cb.wide n R
  few : R.length ≤ 16384

theorem vs_map' (L : List (List UInt8)) : vs L = (L.map bs).map Value.string := by simp [vs]

theorem rows_rds {w : World} {b : Nat} {e : TypeId} {v : Value} {n : Nat} {L : List (List UInt8)} (h : w.ownsRow b e 1 v n (vs L)) : RdsS w v (L.map bs) := by
  have h2 := ownsRow_rds h
  rw [vs_map'] at h2
  exact h2

set_option maxHeartbeats 2000000 in
set_option maxRecDepth 20000 in
theorem Left_go (c : ByteArray) (v : Value) (ls : List ByteArray) (w : World) (hr : RdsS w v ls) (hc : c.size ≤ maxLen) (hsz : ∀ s ∈ ls, s.size ≤ maxLen) (hn : (ls.length + 1) * 16 ≤ 140737488355328)
    (hw : Cb.wrong (c.data.toList :: lb ls) = 0) (S : List (List UInt8) × Int) (hS : Cb.LeftS c.data.toList (lb ls) = S) :
    Calls Try.prog 38 #[.string c, v] w fun e w' => ∃ v', e = .returned (.tuple #[v', .int .i64 S.2]) ∧ RdsS w' v' (S.1.map bs) ∧ Below w.heap.size w w' := by
  obtain ⟨i0, hf0, hf1, hf2, hf3⟩ := info_parts info_string
  obtain ⟨hcu, hwi⟩ := Cb.wrong_zero hw
  have hc128 : c.size ≤ 128 := by have := (Cb.ofB_len (hcu _ (List.mem_cons_self ..))).2; simpa using this
  have HS : Hid (∀ o, Cb.leftS c.data.toList (lb ls) = o → S = Cb.resL o) := fun o ho => by
    rw [← hS, ← ho]; unfold Cb.LeftS; rw [if_pos hw]
  have HW : Hid (Cb.wrong (lb (c :: ls)) = 0) := hw
  have HWI : Hid (∀ s ∈ ls, s.size = c.size) := fun s hs => by
    have := hwi s.data.toList (List.mem_cons_of_mem _ (List.mem_map.2 ⟨s, hs, rfl⟩))
    simpa using this
  have HSZ : Hid (∀ s ∈ c :: ls, s.size ≤ maxLen) := fun s hs => by
    rcases List.mem_cons.1 hs with rfl | h
    · exact hc
    · exact hsz s h
  have HR := Lib.hid hr
  obtain ⟨ad, len, cap, rfl, hl, hlm, hel⟩ := rdsS_form hr
  have HL := Lib.hid hl
  have HEL := Lib.hid hel
  unfold maxLen at hlm
  have hn2 : (len + 1) * 16 ≤ 140737488355328 := by rw [hl]; exact hn
  clear hw hcu hwi hS hr hsz hl hel hn
  generalize hR : (fun (e : Ending) (w' : World) => _) = R
  have HRR := Lib.hid hR
  clear hR
  go_enter_defers Try.func38, Try.ntmps38
  go_wp2_with (at_builtin; (refine wpList_append_rds rfl _ _ _ rfl (w.heap.size + 1) 9 i0 _ 16 Try.underlying23 hf0 hf1 hf2 hf3 rfl _ 1 [.string c] rfl (lit_row (by simp) (Nat.le_refl _)) _ (ls.map Value.string) rfl (Rds.below HR.out (((Below.refl _ _).alloc (Nat.le_refl _) _).alloc (by simp) _)) str_one (len + 1) (by rw [List.length_map, ← HL.out]; omega) (by unfold maxLen; omega) (by omega) (by simp) ?_); intro ad1 cap1 w1 hown1 hgrow1)
  have hr1 : RdsS w1 _ (c :: ls) := ownsRow_rds hown1
  have hbe1 : Below (w.heap.size + 1) (w.alloc (.cells #[.int .i64 0] 34)) w1 := ((Below.refl _ _).alloc (by simp) _).grown hgrow1 (by simp) (fun k hk => by have h : some (w.heap.size + 1) = some k := hk; injection h; omega)
  clear hown1 hgrow1
  refine (must_ok hr1 HSZ.out HW.out).mono ?_
  rintro e w' ⟨rfl, rfl⟩
  clear hr1
  go_wp2_with fail
  have hI : LeftInv w.heap.size w (w1.alloc (.cells #[.string c] 9)) (.slice (some ⟨w1.heap.size, 0, none⟩) 1 1) [c.data.toList] c.size := by
    have hlt : w.heap.size < w1.heap.size := by have := hbe1.size; simp at this; omega
    refine ⟨((Below.refl _ _).alloc (Nat.le_refl _) _).trans ((hbe1.mono (by omega)).alloc (by omega) _), by simp; omega, ?_, ?_, ?_, fun r hr => by simp at hr; rw [hr]; simp, by simp⟩
    · rw [World.cell?_alloc_lt _ _ _ hlt, hbe1.cell (p := ⟨w.heap.size, 0, none⟩) (by simp)]; simp [go_sem]
    · have := (Below.refl w1.heap.size w1).alloc (Nat.le_refl _) (.cells #[.string c] 9)
      rw [this.frozen (p := ⟨w.heap.size, 0, none⟩) hlt, hbe1.frozen (p := ⟨w.heap.size, 0, none⟩) (by simp)]; simp [go_sem]
    · exact lit_row rfl (by omega)
  have HI := Lib.hid hI
  clear hI hbe1
  generalize w1.alloc (.cells #[.string c] 9) = w2 at *
  generalize (Value.slice (some ⟨w1.heap.size, 0, none⟩) 1 1) = v6 at *
  go_loopw [6, 8, 9, 11, 21] (fun u6 _ _ _ k wr => ∃ n : Nat, n ≤ len ∧ k = .int .i64 n ∧ ∃ R, Hid (((lb ls).take n).foldlM (fun rest b => Cb.nextS b rest) [c.data.toList] = some R) ∧ Hid (LeftInv w.heap.size w wr u6 R c.size)) (fun _ _ _ _ k _ => len - (intOf k).toNat)
  case atStart => exact ⟨0, Nat.zero_le _, rfl, _, rfl, HI⟩
  case round =>
    obtain ⟨n, hn, rfl, R0, HF, HV⟩ := hrel
    clear HI
    by_cases hlt : n < len
    · have hn' : n < ls.length := by rw [← HL.out]; exact hlt
      obtain ⟨b, off, rfl, hb, hcell⟩ := HEL.out n hn'
      have hcell2 : wr.cell? ⟨b, off + n, none⟩ = some (.string ls[n]) := (HV.out.bel.cell (p := ⟨b, off + n, none⟩) hb).trans hcell
      obtain ⟨ad2, len2, cap2, rfl, hl2, hlm2, hel2⟩ := rdsS_form (rows_rds HV.out.own)
      have HL2 := Lib.hid hl2
      have HEL2 := Lib.hid hel2
      have hwn : Hid (ls[n].size = c.size) := HWI.out _ (List.getElem_mem hn')
      unfold maxLen at hlm2
      clear hcell hl2 hel2
      obtain ⟨wo, rfl⟩ : ∃ wo : World, wo = wr := ⟨_, rfl⟩
      go_wp2_with fail
      go_loopw [9, 11, 27] (fun u9 _ k wi => ∃ j : Nat, j ≤ len2 ∧ k = .int .i64 j ∧ ∃ N, Hid ((R0.take j).foldlM (Cb.nextC ls[n].data.toList) [] = some N) ∧ Hid (Below wo.heap.size wo wi) ∧ Hid (wi.ownsRow wo.heap.size 9 1 u9 N.length (vs N))) (fun _ _ k _ => len2 - (intOf k).toNat)
      case atStart => exact ⟨0, Nat.zero_le _, rfl, [], rfl, Below.refl _ _, World.ownsRow_nil _ _ _ _⟩
      case round =>
        obtain ⟨j, hj, rfl, N, HG, HB, HO⟩ := hrel
        by_cases hlt2 : j < len2
        · have hj' : j < R0.length := by have := HL2.out; simp at this; omega
          obtain ⟨b2, off2, rfl, hb2, hcell3⟩ := HEL2.out j (by simpa using hj')
          have hcell4 : wr.cell? ⟨b2, off2 + j, none⟩ = some (.string (bs R0[j])) := (HB.out.cell (p := ⟨b2, off2 + j, none⟩) hb2).trans (by rw [hcell3]; simp)
          have hws : Hid (ls[n].size = (bs R0[j]).size) := by
            have h1 := HV.out.wide _ (List.getElem_mem hj')
            exact hwn.out.trans ((bs_size R0[j]).trans h1).symm
          have hws2 : (bs R0[j]).size ≤ 128 := by rw [bs_size, HV.out.wide _ (List.getElem_mem hj')]; exact hc128
          have hNl : N.length ≤ 16384 := (Cb.foldC_wide (by simpa using hwn.out) _ [] N (fun r hr => HV.out.wide r (List.mem_of_mem_take hr)) (fun r hr => by simp at hr) (by simp) HG.out).2
          have hcl := Cb.cut_few R0[j] ls[n].data.toList (by simpa [bs_size] using hws2)
          have hstep : Hid ((R0.take (j + 1)).foldlM (Cb.nextC ls[n].data.toList) [] = Cb.nextC ls[n].data.toList N R0[j]) := by
            unfold Hid; rw [Cb.foldlM_succ _ _ _ _ hj', HG.out]; rfl
          have hwb := HB.out.size
          clear hcell3
          go_wp2_with fail
          refine (cut_any (bs R0[j]) ls[n] _ hws.out hws2).mono ?_
          rintro e w3 ⟨v2, rfl, hown2, hbel2⟩
          have HO3 := Lib.hid (ownsRow_below HO.out hbel2)
          have HB3 := Lib.hid (HB.out.trans (hbel2.mono hwb))
          have HR3 : Hid (Rds w3 v2 (vs (Cb.cut R0[j] ls[n].data.toList))) := ownsRow_rds hown2
          have hw3 := HB3.out.size
          clear hown2 hbel2
          generalize hP : Cb.cut R0[j] ls[n].data.toList = P at *
          have HP := Lib.hid hP
          clear hP
          obtain ⟨M, hM⟩ : ∃ M, N.length + P.length = M := ⟨_, rfl⟩
          have HM := Lib.hid hM
          have hMb : M ≤ 16512 := by omega
          clear hM
          by_cases hbig : 16384 < M
          · have hnone : Hid (Cb.nextS ls[n].data.toList R0 = none) := by
              refine Cb.foldlM_none _ _ _ (j + 1) ?_
              rw [hstep.out]
              unfold Cb.nextC
              rw [HP.out, if_pos (by rw [List.length_append, HM.out]; exact hbig)]
            have hnone2 : Hid (Cb.leftS c.data.toList (lb ls) = none) := by
              refine Cb.foldlM_none _ _ _ (n + 1) ?_
              rw [Cb.foldlM_succ _ _ _ _ (by simpa using hn'), HF.out]
              simpa using hnone.out
            go_wp2_with (at_builtin; refine wpList_append_rds rfl _ _ _ rfl wo.heap.size 9 i0 _ 16 Try.underlying23 hf0 hf1 hf2 hf3 rfl u9 _ _ rfl HO3.out v2 _ rfl HR3.out (vs_one P) M (by rw [List.length_map]; exact HM.out) (by unfold maxLen; omega) (by omega) hw3 ?_; intro ad4 cap4 w4 hown4 hgrow4; rw [vs_append] at hown4)
            have HB4 := Lib.hid (HB3.out.grown hgrow4 hw3 (fun k hk => (HO3.out.lt k hk).1))
            have HO4 : Hid (w4.ownsRow wo.heap.size 9 1 (.slice ad4 M cap4) (N ++ P).length (vs (N ++ P))) := by unfold Hid; rw [List.length_append, HM.out]; exact hown4
            clear hown4 hgrow4
            have hcl1 : w4.cell? ⟨w.heap.size, 0, none⟩ = some (.int .i64 0) := (HB4.out.cell (p := ⟨w.heap.size, 0, none⟩) HV.out.size).trans HV.out.cell
            have hfr1 : w4.frozen? ⟨w.heap.size, 0, none⟩ = false := (HB4.out.frozen (p := ⟨w.heap.size, 0, none⟩) HV.out.size).trans HV.out.free
            have HBB := Lib.hid (HV.out.bel.trans (HB4.out.mono (Nat.le_of_lt HV.out.size)))
            have hsz4 : w.heap.size < w4.heap.size := Nat.lt_of_lt_of_le HV.out.size HB4.out.size
            refine door_fault (p := ⟨w.heap.size, 0, none⟩) 3 0 hsz4 hcl1 hfr1 fun W' hB hC => ?_
            rw [← HRR.out]
            exact ⟨.tuple #[.slice none 0 0, .int .i64 3], by simp [results, Try.results38, go_sem, hC], .slice none 0 0, by rw [HS.out none hnone2.out]; rfl, by rw [HS.out none hnone2.out]; exact rdsS_nil W', HBB.out.trans hB⟩
          · have hsome : Hid ((R0.take (j + 1)).foldlM (Cb.nextC ls[n].data.toList) [] = some (N ++ P)) := by
              unfold Hid; rw [hstep.out]
              unfold Cb.nextC
              rw [HP.out, if_neg (by rw [List.length_append, HM.out]; exact hbig)]
            go_wp2_with (at_builtin; refine wpList_append_rds rfl _ _ _ rfl wo.heap.size 9 i0 _ 16 Try.underlying23 hf0 hf1 hf2 hf3 rfl u9 _ _ rfl HO3.out v2 _ rfl HR3.out (vs_one P) M (by rw [List.length_map]; exact HM.out) (by unfold maxLen; omega) (by omega) hw3 ?_; intro ad4 cap4 w4 hown4 hgrow4; rw [vs_append] at hown4)
            have HB4 := Lib.hid (HB3.out.grown hgrow4 hw3 (fun k hk => (HO3.out.lt k hk).1))
            have HO4 : Hid (w4.ownsRow wo.heap.size 9 1 (.slice ad4 M cap4) (N ++ P).length (vs (N ++ P))) := by unfold Hid; rw [List.length_append, HM.out]; exact hown4
            clear hown4 hgrow4
            go_roundw
            case rel => exact ⟨j + 1, by omega, by go_num, N ++ P, hsome, HB4, HO4⟩
            case measure => simp [intOf]; omega
        · have hjl : Hid (j = R0.length) := by have := HL2.out; unfold Hid; simp at this; omega
          have hnx : Hid (Cb.nextS ls[n].data.toList R0 = some N) := by
            have := HG.out
            rw [hjl.out, List.take_length] at this
            exact this
          have hfold : Hid (((lb ls).take (n + 1)).foldlM (fun rest b => Cb.nextS b rest) [c.data.toList] = some N) := by
            unfold Hid
            rw [Cb.foldlM_succ _ _ _ _ (by simpa using hn'), HF.out]
            simpa using hnx.out
          have hwd := Cb.nextS_wide (by simpa using hwn.out) HV.out.wide hnx.out
          have HV2 : Hid (LeftInv w.heap.size w wr u9 N c.size) :=
            ⟨HV.out.bel.trans (HB.out.mono (Nat.le_of_lt HV.out.size)), Nat.lt_of_lt_of_le HV.out.size HB.out.size, (HB.out.cell (p := ⟨w.heap.size, 0, none⟩) HV.out.size).trans HV.out.cell,
              (HB.out.frozen (p := ⟨w.heap.size, 0, none⟩) HV.out.size).trans HV.out.free, ownsRow_le HO.out (by have := HV.out.size; omega), hwd.1, hwd.2⟩
          clear hwd
          go_wp2_with fail
          go_roundw
          case rel => exact ⟨n + 1, by omega, by go_num, N, hfold, HV2⟩
          case measure => simp [intOf]; omega
    · have hnl : Hid (n = ls.length) := by have := HL.out; unfold Hid; omega
      have hfin : Hid (S = (R0, 0)) := by
        have := HF.out
        rw [hnl.out, List.take_of_length_le (by simp)] at this
        exact HS.out (some R0) this
      have hcl1 := HV.out.cell
      have hfr1 := HV.out.free
      go_wp2_with fail
      have hc1 := cell_set_same (.int .i64 0) hcl1
      refine door_ret ⟨.tuple #[u6, .int .i64 0], by simp [results, Try.results38, go_sem, hc1], ?_⟩
      rw [← HRR.out]
      refine ⟨u6, by rw [hfin.out], ?_, HV.out.bel.setCell (Nat.le_refl _) _⟩
      rw [hfin.out]
      exact rows_rds (ownsRow_setCell_below HV.out.own (by simp) _)

set_option maxHeartbeats 800000 in
set_option maxRecDepth 20000 in
theorem Left_bad (c : ByteArray) (v : Value) (ls : List ByteArray) (w : World) (hr : RdsS w v ls) (hc : c.size ≤ maxLen) (hsz : ∀ s ∈ ls, s.size ≤ maxLen) (hn : (ls.length + 1) * 16 ≤ 140737488355328)
    (hw : ¬ Cb.wrong (c.data.toList :: lb ls) = 0) (q : Int) (hq : Cb.wrong (c.data.toList :: lb ls) = q) :
    Calls Try.prog 38 #[.string c, v] w fun e w' => e = .returned (.tuple #[.slice none 0 0, .int .i64 q]) ∧ Below w.heap.size w w' := by
  obtain ⟨i0, hf0, hf1, hf2, hf3⟩ := info_parts info_string
  have HW : Hid (¬ Cb.wrong (lb (c :: ls)) = 0) := hw
  have HQ : Hid (Cb.wrong (lb (c :: ls)) = q) := hq
  have HSZ : Hid (∀ s ∈ c :: ls, s.size ≤ maxLen) := fun s hs => by
    rcases List.mem_cons.1 hs with rfl | h
    · exact hc
    · exact hsz s h
  have HR := Lib.hid hr
  obtain ⟨ad, len, cap, rfl, hl, hlm, hel⟩ := rdsS_form hr
  have HL := Lib.hid hl
  unfold maxLen at hlm
  have hn2 : (len + 1) * 16 ≤ 140737488355328 := by rw [hl]; exact hn
  clear hw hq hr hsz hl hel hn
  go_enter_defers Try.func38, Try.ntmps38
  go_wp2_with (at_builtin; (refine wpList_append_rds rfl _ _ _ rfl (w.heap.size + 1) 9 i0 _ 16 Try.underlying23 hf0 hf1 hf2 hf3 rfl _ 1 [.string c] rfl (lit_row (by simp) (Nat.le_refl _)) _ (ls.map Value.string) rfl (Rds.below HR.out (((Below.refl _ _).alloc (Nat.le_refl _) _).alloc (by simp) _)) str_one (len + 1) (by rw [List.length_map, ← HL.out]; omega) (by unfold maxLen; omega) (by omega) (by simp) ?_); intro ad1 cap1 w1 hown1 hgrow1)
  have hr1 : RdsS w1 _ (c :: ls) := ownsRow_rds hown1
  have hbe1 : Below (w.heap.size + 1) (w.alloc (.cells #[.int .i64 0] 34)) w1 := ((Below.refl _ _).alloc (by simp) _).grown hgrow1 (by simp) (fun k hk => by have h : some (w.heap.size + 1) = some k := hk; injection h; omega)
  clear hown1 hgrow1
  refine (must_bad hr1 HSZ.out HW.out).mono ?_
  rintro e w' ⟨rfl, rfl⟩
  clear hr1
  have hlt : w.heap.size < w1.heap.size := by have := hbe1.size; simp at this; omega
  have hc1 : w1.cell? ⟨w.heap.size, 0, none⟩ = some (.int .i64 0) := by rw [hbe1.cell (p := ⟨w.heap.size, 0, none⟩) (by simp)]; simp [go_sem]
  have hz1 : w1.frozen? ⟨w.heap.size, 0, none⟩ = false := by rw [hbe1.frozen (p := ⟨w.heap.size, 0, none⟩) (by simp)]; simp [go_sem]
  have HB1 := Lib.hid (((Below.refl w.heap.size w).alloc (Nat.le_refl _) (.cells #[.int .i64 0] 34)).trans (hbe1.mono (by omega)))
  rw [HQ.out]
  clear hbe1
  go_wp2_with fail
  refine door_fault (p := ⟨w.heap.size, 0, none⟩) q 0 hlt hc1 hz1 fun W' hB hC => ?_
  exact ⟨.tuple #[.slice none 0 0, .int .i64 q], by simp [results, Try.results38, go_sem, hC], rfl, HB1.out.trans hB⟩

/-- What Left answers, program and reference alike. -/
def LeftPost (fnum : Nat) : Prop := ∀ (c : ByteArray) (v : Value) (ls : List ByteArray) (w : World), RdsS w v ls → c.size ≤ maxLen → (∀ s ∈ ls, s.size ≤ maxLen) → (ls.length + 1) * 16 ≤ 140737488355328 →
    Calls Try.prog fnum #[.string c, v] w fun e w' => ∃ v', e = .returned (.tuple #[v', .int .i64 (Cb.LeftS c.data.toList (lb ls)).2]) ∧ RdsS w' v' ((Cb.LeftS c.data.toList (lb ls)).1.map bs) ∧ Below w.heap.size w w'

theorem Left_any : LeftPost 38 := by
  intro c v ls w hr hc hsz hn
  by_cases hw : Cb.wrong (c.data.toList :: lb ls) = 0
  · exact Left_go c v ls w hr hc hsz hn hw _ rfl
  · refine (Left_bad c v ls w hr hc hsz hn hw _ rfl).mono fun e w' h => ⟨.slice none 0 0, ?_, ?_, h.2⟩
    · rw [h.1]; unfold Cb.LeftS; rw [if_neg hw]
    · unfold Cb.LeftS; rw [if_neg hw]; exact rdsS_nil w'
end Go.Proofs.Ytlamhpiiikcpiaa
