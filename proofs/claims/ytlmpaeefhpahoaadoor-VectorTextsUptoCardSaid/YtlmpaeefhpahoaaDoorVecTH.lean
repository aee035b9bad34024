/-
  Walks: the reference's Read.
-/
import Derived.BigQuiet
import Derived.Test.YtlmpaeefhpahoaaDoorVecTG
namespace Go.Proofs.YtlmpaeefhpahoaaDoor
open Go.RowKit

/-- Stamps as the walks' pairs. -/
def castP (l : List (Nat × Nat)) : List Stp := l.map fun s => ((s.1 : Int), (s.2 : Int))

theorem castP_snoc (l : List (Nat × Nat)) (x : Nat × Nat) : castP (l ++ [x]) = castP l ++ [((x.1 : Int), (x.2 : Int))] := by simp [castP]

/-- Rising stamps of devices. -/
def RiseN (l : List (Nat × Nat)) : Prop := l.Pairwise (fun a b => a.1 < b.1) ∧ ∀ x ∈ l, x.1 < 256 ∧ x.2 < 18446744073709551616

theorem RiseN.len {l : List (Nat × Nat)} (h : RiseN l) : l.length ≤ 256 := by
  have h1 : OkV (castP l) := by
    refine ⟨?_, fun s hs => ?_⟩
    · unfold Srt castP
      rw [List.pairwise_map]
      exact h.1.imp fun h => by simp only; omega
    · obtain ⟨x, hx, rfl⟩ := List.mem_map.1 hs
      have := (h.2 x hx).1
      unfold dev
      simp
      omega
  have := h1.len
  simpa [castP] using this

theorem RiseN.snoc {l : List (Nat × Nat)} {x : Nat × Nat} (h : RiseN l) (h1 : x.1 < 256) (h2 : x.2 < 18446744073709551616) (h3 : l.getLast?.any (fun y => decide (x.1 ≤ y.1)) = false) : RiseN (l ++ [x]) := by
  refine ⟨?_, fun y hy => ?_⟩
  · rw [List.pairwise_append]
    refine ⟨h.1, List.pairwise_singleton _ _, fun a ha b hb => ?_⟩
    obtain rfl : b = x := by simpa using hb
    rcases List.eq_nil_or_concat l with rfl | ⟨l', y, rfl⟩
    · cases ha
    · rw [List.concat_eq_append] at ha h3
      simp at h3
      have hp := h.1
      rw [List.concat_eq_append, List.pairwise_append] at hp
      rcases List.mem_append.1 ha with ha | ha
      · have := hp.2.2 a ha y (by simp); omega
      · obtain rfl : a = y := by simpa using ha
        omega
  · rcases List.mem_append.1 hy with hy | hy
    · exact h.2 y hy
    · obtain rfl : y = x := by simpa using hy
      exact ⟨h1, h2⟩

theorem RiseN.nil : RiseN [] := ⟨List.Pairwise.nil, fun _ h => by cases h⟩

/-- The bytes between two places hold no blank. -/
def Plain (s : ByteArray) (fr n : Nat) : Prop := (32 : UInt8) ∉ (s.data.toList.drop fr).take (n - fr)

theorem Plain.here (s : ByteArray) (n : Nat) : Plain s n n := by unfold Plain; simp

theorem Plain.next {s : ByteArray} {fr n : Nat} (h : Plain s fr n) (hf : fr ≤ n) (hn : n < s.size) (hc : s[n] ≠ 32) : Plain s fr (n + 1) := by
  unfold Plain at *
  have hl : n - fr < (s.data.toList.drop fr).length := by simp; omega
  rw [show n + 1 - fr = (n - fr) + 1 by omega, List.take_succ_eq_append_getElem hl]
  intro hm
  rcases List.mem_append.1 hm with hm | hm
  · exact h hm
  · have e : (s.data.toList.drop fr)[n - fr] = s[n] := by
      rw [List.getElem_drop]
      have : fr + (n - fr) = n := by omega
      simp only [this]
      exact get_list s n hn
    rw [e] at hm
    simp at hm
    exact hc hm.symm

theorem extract_data (s : ByteArray) (fr n : Nat) : (s.extract fr n).data.toList = (s.data.toList.drop fr).take (n - fr) := by
  simp [List.extract_eq_take_drop]

theorem pieces_blank {s : ByteArray} {fr n : Nat} (h : Plain s fr n) (hf : fr ≤ n) (hn : n < s.size) (hc : s[n] = 32) : Tx.pieces (s.data.toList.drop fr) = (s.extract fr n).data.toList :: Tx.pieces (s.data.toList.drop (n + 1)) := by
  rw [extract_data s fr n]
  have e1 : s.data.toList.drop fr = (s.data.toList.drop fr).take (n - fr) ++ 32 :: s.data.toList.drop (n + 1) := by
    have e2 : (s.data.toList.drop fr).drop (n - fr) = 32 :: s.data.toList.drop (n + 1) := by
      rw [List.drop_drop, show fr + (n - fr) = n by omega, List.drop_eq_getElem_cons (by simpa using hn), get_list s n hn, hc]
    rw [← e2, List.take_append_drop]
  conv => lhs; rw [e1]
  exact Tx.pieces_at _ _ h

theorem pieces_end {s : ByteArray} {fr : Nat} (h : Plain s fr s.size) : Tx.pieces (s.data.toList.drop fr) = [(s.extract fr s.size).data.toList] := by
  rw [extract_data s fr s.size]
  unfold Plain at h
  have e : (s.data.toList.drop fr).take (s.size - fr) = s.data.toList.drop fr := List.take_of_length_le (by simp)
  rw [e] at h ⊢
  exact Tx.pieces_plain _ h

set_option maxHeartbeats 3000000 in
set_option maxRecDepth 20000 in
theorem ReadR_any (s : ByteArray) (w : World) (htab : Tab10 w) (hs : s.size ≤ 1048576) (T : List (Nat × Nat) × Nat × Int) (hT : Tx.readT s.data.toList = T) (hne : s.data.toList ≠ [45]) :
    Calls Tryd.prog 29 #[.string s] w fun e w' => ∃ oa om oc, e = .returned (.tuple #[.slice oa om oc, .int .i64 T.2.1, .int .i64 T.2.2]) ∧ RdsP w' (.slice oa om oc) (castP T.1) ∧ Below w.heap.size w w' := by
  have hT' : Tx.readP (Tx.pieces s.data.toList) [] 0 = T := by unfold Tx.readT at hT; rw [if_neg hne] at hT; exact hT
  have HT := Lib.hid hT'
  have hss : (s.toList == [45]) = false := by rw [Lib.toList_data]; simpa using hne
  have HTab := Lib.hid htab
  clear hT hT' hne htab
  generalize hR : (fun (e : Ending) (w' : World) => _) = R
  have HR := Lib.hid hR
  clear hR
  go_enter Tryd.func29, Tryd.ntmps29
  go_wp2_with fail
  go_loopw [5, 6, 7] (fun ov fv k wr => ∃ n fr : Nat, ∃ o : List (Nat × Nat), ∃ oa om oc, n ≤ s.size + 1 ∧ fr ≤ n ∧ k = .int .i64 n ∧ fv = .int .i64 fr ∧ ov = .slice oa om oc ∧ Hid (om = o.length) ∧ Hid (RiseN o) ∧ Hid (n ≤ s.size → Tx.readP (Tx.pieces (s.data.toList.drop fr)) o fr = T) ∧ Hid (n ≤ s.size → Plain s fr n) ∧ Hid (n = s.size + 1 → T = (o, 0, 0)) ∧ Hid (wr.ownsRow w.heap.size 43 2 (.slice oa om oc) om (cellsV (castP o))) ∧ Hid (Below w.heap.size w wr)) (fun _ _ k _ => s.size + 1 - (intOf k).toNat)
  case atStart => exact ⟨0, 0, [], none, 0, 0, Nat.zero_le _, Nat.zero_le _, rfl, rfl, rfl, rfl, RiseN.nil, fun _ => by simpa using HT.out, fun _ => Plain.here s 0, fun h => by omega, World.ownsRow_nil _ _ _ _, Below.refl _ _⟩
  case round =>
    obtain ⟨wo, rfl⟩ : ∃ wo : World, wo = wr := ⟨wr, rfl⟩
    obtain ⟨n, fr, o, oa, om, oc, hn, hfr, rfl, rfl, rfl, HOM, HRi, HQ, HPl, HEnd, HO, HB⟩ := hrel
    have hwb := HB.out.size
    by_cases hle : n ≤ s.size
    · have hi0 : (0 : Int) ≤ (n : Int) := by omega
      have hi9 : (n : Int) ≤ (s.size : Int) := by omega
      by_cases hcon : ∃ h : n < s.size, s[n] ≠ 32
      · obtain ⟨hlt, hb⟩ := hcon
        have hi1 : (n : Int) < (s.size : Int) := by omega
        obtain ⟨e1, e2⟩ := byte_neV 32 hb 32 rfl
        have HPl2 := Lib.hid (Plain.next (HPl.out hle) hfr hlt hb)
        clear hb
        go_wp2_with fail
        go_roundw
        case rel => exact ⟨n + 1, fr, o, oa, om, oc, by omega, by omega, by go_num, rfl, rfl, HOM, HRi, fun _ => HQ.out hle, fun _ => HPl2.out, fun h => by omega, HO, HB⟩
        case measure => simp [intOf]; omega
      · have hstop : (n < s.size ∧ ∀ h : n < s.size, s[n] = 32) ∨ n = s.size := by
          rcases Nat.lt_or_ge n s.size with h | h
          · refine .inl ⟨h, fun h' => ?_⟩
            refine Classical.byContradiction fun hc => hcon ⟨h', hc⟩
          · exact .inr (by omega)
        clear hcon
        rcases hstop with ⟨hlt, hb⟩ | hend
        · have hi1 : (n : Int) < (s.size : Int) := by omega
          obtain ⟨e1, e2⟩ := byte_eqV 32 (hb hlt) 32 rfl
          have HPc : Hid (Tx.pieces (s.data.toList.drop fr) = (s.extract fr n).data.toList :: (Tx.pieces (s.data.toList.drop (n + 1)))) := pieces_blank (HPl.out hle) hfr hlt (hb hlt)
          have hPsz : (s.extract fr n).size = n - fr := by rw [ByteArray.size_extract]; omega
          obtain ⟨P, hP⟩ : ∃ P, s.extract fr n = P := ⟨_, rfl⟩
          rw [hP] at HPc hPsz
          have HPt := Lib.hid (part_any P wo (tab10_below HTab.out HB.out) (by omega))
          have HPs : Hid (P.data.toList.length = n - fr) := by show _ = _; rw [← hPsz]; simp
          clear hPsz
          cases hst : Tx.stOf P.data.toList with
          | none =>
            have HTT : Hid (T = ([], fr, 21)) := by
              show _ = _
              rw [← HQ.out hle, HPc.out]
              conv => lhs; rw [Tx.readP, hst]
            rw [hst] at HPt
            clear hst hb
            go_wp2_with fail
            refine HPt.out.mono ?_
            rintro e w2 ⟨d, v, rfl, _, hb2⟩
            have HB2 := Lib.hid (HB.out.trans (hb2.mono HB.out.size))
            have HB3 := Lib.hid (HB2.out.alloc HB2.out.size (.cells #[.int .i64 (d : Int), .int .u64 (v : Int)] 43))
            have hn1 : (w2.alloc (.cells #[.int .i64 (d : Int), .int .u64 (v : Int)] 43)).cell? ⟨w2.heap.size, 0, none⟩ = some (.int .i64 (d : Int)) := by simp [go_sem]
            have hn2 : (w2.alloc (.cells #[.int .i64 (d : Int), .int .u64 (v : Int)] 43)).cell? ⟨w2.heap.size, 1, none⟩ = some (.int .u64 (v : Int)) := by simp [go_sem]
            clear hb2
            go_wp2_with fail
            go_quiet (fail)
            go_wp2_with fail
            first | go_ret3 | skip
            rw [← HR.out, HTT.out]
            exact ⟨none, 0, 0, rfl, rdsP_nil _, below_dN HB3.out nq⟩
          | some x =>
            obtain ⟨hx1, hx2, _⟩ := (Tx.stOf_iff _ _).1 hst
            have HTT : Hid (T = if o.getLast?.any (fun y => decide (x.1 ≤ y.1)) = true then ([], fr, 21) else Tx.readP (Tx.pieces (s.data.toList.drop (n + 1))) (o ++ [x]) (n + 1)) := by
              show _ = _
              rw [← HQ.out hle, HPc.out]
              conv => lhs; rw [Tx.readP, hst]
              simp only [HPs.out]
              rw [show fr + (n - fr) + 1 = n + 1 by omega]
            have HPt2 : Hid (Calls Tryd.prog 50 #[.string P] wo fun e w' => e = .returned (.tuple #[.agg #[.int .i64 (x.1 : Int), .int .u64 (x.2 : Int)], .bool true]) ∧ Below wo.heap.size wo w') := by
              refine HPt.out.mono ?_
              rintro e w' ⟨d, v, rfl, hdv, hb⟩
              obtain ⟨rfl, rfl⟩ := hdv x hst
              rw [hst]
              exact ⟨rfl, hb⟩
            clear hst HPt hb
            rcases List.eq_nil_or_concat o with rfl | ⟨o', y, ho⟩
            · have HTN : Hid (T = Tx.readP (Tx.pieces (s.data.toList.drop (n + 1))) ([] ++ [x]) (n + 1)) := HTT.out
              obtain rfl : om = 0 := HOM.out
              have HCl : Hid (0 = (castP []).length) := rfl
              have HRi2 : Hid (RiseN ([] ++ [x])) := RiseN.snoc RiseN.nil hx1 hx2 rfl
              go_wp2_with fail
              refine HPt2.out.mono ?_
              rintro e w2 ⟨rfl, hb2⟩
              have HB2 := Lib.hid (HB.out.trans (hb2.mono HB.out.size))
              have HB3 := Lib.hid (HB2.out.alloc HB2.out.size (.cells #[.int .i64 (x.1 : Int), .int .u64 (x.2 : Int)] 43))
              have HO3 := Lib.hid ((ownsSt_below HO.out hb2).alloc (.cells #[.int .i64 (x.1 : Int), .int .u64 (x.2 : Int)] 43))
              have hn1 : (w2.alloc (.cells #[.int .i64 (x.1 : Int), .int .u64 (x.2 : Int)] 43)).cell? ⟨w2.heap.size, 0, none⟩ = some (.int .i64 (x.1 : Int)) := by simp [go_sem]
              have hn2 : (w2.alloc (.cells #[.int .i64 (x.1 : Int), .int .u64 (x.2 : Int)] 43)).cell? ⟨w2.heap.size, 1, none⟩ = some (.int .u64 (x.2 : Int)) := by simp [go_sem]
              clear hb2
              go_wp2_with fail
              go_quiet (fail)
              obtain ⟨w3, hw3⟩ : ∃ w3, w3 = (w2.alloc (.cells #[.int .i64 (x.1 : Int), .int .u64 (x.2 : Int)] 43)).drewN nq := ⟨_, rfl⟩
              have HB4 : Hid (Below w.heap.size w w3) := by rw [hw3]; exact below_dN HB3.out nq
              have HO4 : Hid (w3.ownsRow w.heap.size 43 2 (.slice oa (0) oc) (0) (cellsV (castP []))) := by rw [hw3]; exact ownsRow_drewN HO3.out nq
              have hm1 : w3.cell? ⟨w2.heap.size, 0, none⟩ = some (.int .i64 (x.1 : Int)) := by rw [hw3]; exact hn1
              have hm2 : w3.cell? ⟨w2.heap.size, 1, none⟩ = some (.int .u64 (x.2 : Int)) := by rw [hw3]; exact hn2
              rw [← hw3]
              clear hw3 hn1 hn2
              have HB5 := Lib.hid (HB4.out.alloc HB4.out.size (.cells #[.int .i64 (x.1 : Int), .int .u64 (x.2 : Int)] 43))
              have HO5 := Lib.hid (HO4.out.alloc (.cells #[.int .i64 (x.1 : Int), .int .u64 (x.2 : Int)] 43))
              have hq1 : (w3.alloc (.cells #[.int .i64 (x.1 : Int), .int .u64 (x.2 : Int)] 43)).cell? ⟨w3.heap.size, 0, none⟩ = some (.int .i64 (x.1 : Int)) := by simp [go_sem]
              have hq2 : (w3.alloc (.cells #[.int .i64 (x.1 : Int), .int .u64 (x.2 : Int)] 43)).cell? ⟨w3.heap.size, 1, none⟩ = some (.int .u64 (x.2 : Int)) := by simp [go_sem]
              have HQ1 := Lib.hid hq1
              have HQ2 := Lib.hid hq2
              clear hq1 hq2
              go_wp2_with (at_builtin; go_loud (refine wp_app_stamp rfl (.tmp 56) (.tmp 58) rfl w.heap.size (.slice oa (0) oc) (0) (castP []) ((x.1 : Int), (x.2 : Int)) _ _ rfl rfl HCl.out HO5.out HB5.out.size (by omega) HQ1.out HQ2.out ?_); intro v6 w6 hown6 hgr6; obtain ⟨oa6, oc6, rfl, _, _⟩ := ownsSt_form hown6; have HO6 := Lib.hid hown6; have HG6 := Lib.hid hgr6; clear hown6 hgr6)
              have HB6 := Lib.hid (HB5.out.grown HG6.out HB5.out.size (fun j hj => (HO5.out.lt _ hj).1))
              go_roundw
              case rel => exact ⟨n + 1, n + 1, [] ++ [x], oa6, 0 + 1, oc6, by omega, Nat.le_refl _, by go_num, by go_num, rfl, (by show _ = _; have := HCl.out; unfold castP at this; rw [List.length_map] at this; rw [List.length_append, List.length_singleton]; omega), HRi2, (fun _ => HTN.out.symm), (fun _ => Plain.here s (n + 1)), (fun h => by omega), (by show World.ownsRow _ _ _ _ _ _ _; rw [castP_snoc]; exact HO6.out), HB6⟩
              case measure => simp [intOf]; omega
            · rw [List.concat_eq_append] at ho
              subst ho
              obtain ⟨q, hq⟩ : ∃ q, q = o'.length := ⟨_, rfl⟩
              obtain rfl : om = q + 1 := by have := HOM.out; simp at this; omega
              have HCl : Hid (q + 1 = (castP (o' ++ [y])).length) := by show _ = _; simp [castP]; exact hq
              have hql : q + 1 ≤ 256 := by have := HRi.out.len; simp at this; omega
              obtain ⟨g, hoa⟩ : ∃ g, oa = some ⟨g, 0, none⟩ := by
                rcases HO.out.2 with ⟨_, h2⟩ | ⟨g, _, _, h, _⟩
                · omega
                · exact ⟨g, by injection h⟩
              subst hoa
              have HYc : Hid ((cellsV (castP (o' ++ [y])))[q * 2]? = some (.int .i64 (y.1 : Int))) := by
                show _ = _
                have hlq : q < (castP (o' ++ [y])).length := by rw [← HCl.out]; omega
                rw [(cellsV_get _ q hlq).1]
                have : (castP (o' ++ [y]))[q] = ((y.1 : Int), (y.2 : Int)) := by
                  subst hq
                  simp [castP]
                rw [this]
              have hany : (o' ++ [y]).getLast?.any (fun y => decide (x.1 ≤ y.1)) = decide (x.1 ≤ y.1) := by simp
              have g1 : IntKind.i64.wrap (((q : Int) + 1) - 1) = (q : Int) := by rw [IntWalk.i64_in _ (by omega)]; omega
              have g2 : (0 : Int) < (q : Int) + 1 := by omega
              by_cases hge : x.1 ≤ y.1
              · have HTN : Hid (T = ([], fr, 21)) := by show _ = _; rw [HTT.out, hany, decide_eq_true hge]; rfl
                have hgi : (x.1 : Int) ≤ (y.1 : Int) := by omega
                clear hany hq
                go_wp2_with fail
                refine HPt2.out.mono ?_
                rintro e w2 ⟨rfl, hb2⟩
                have HB2 := Lib.hid (HB.out.trans (hb2.mono HB.out.size))
                have HB3 := Lib.hid (HB2.out.alloc HB2.out.size (.cells #[.int .i64 (x.1 : Int), .int .u64 (x.2 : Int)] 43))
                have HO3 := Lib.hid ((ownsSt_below HO.out hb2).alloc (.cells #[.int .i64 (x.1 : Int), .int .u64 (x.2 : Int)] 43))
                have hn1 : (w2.alloc (.cells #[.int .i64 (x.1 : Int), .int .u64 (x.2 : Int)] 43)).cell? ⟨w2.heap.size, 0, none⟩ = some (.int .i64 (x.1 : Int)) := by simp [go_sem]
                have hn2 : (w2.alloc (.cells #[.int .i64 (x.1 : Int), .int .u64 (x.2 : Int)] 43)).cell? ⟨w2.heap.size, 1, none⟩ = some (.int .u64 (x.2 : Int)) := by simp [go_sem]
                clear hb2
                have hy : (w2.alloc (.cells #[.int .i64 (x.1 : Int), .int .u64 (x.2 : Int)] 43)).cell? ⟨g, q * 2, none⟩ = some (.int .i64 (y.1 : Int)) := (HO3.out.cellAt (q * 2) (by omega)).trans HYc.out
                go_wp2_with fail
                go_quiet (fail)
                go_wp2_with fail
                first | go_ret3 | skip
                rw [← HR.out, HTN.out]
                exact ⟨none, 0, 0, rfl, rdsP_nil _, below_dN HB3.out nq⟩
              · have HTN : Hid (T = Tx.readP (Tx.pieces (s.data.toList.drop (n + 1))) (o' ++ [y] ++ [x]) (n + 1)) := by show _ = _; rw [HTT.out, hany, decide_eq_false hge]; rfl
                have HRi2 : Hid (RiseN (o' ++ [y] ++ [x])) := RiseN.snoc HRi.out hx1 hx2 (by rw [hany]; exact decide_eq_false hge)
                have hgi : ¬ (x.1 : Int) ≤ (y.1 : Int) := by omega
                clear hany hq
                go_wp2_with fail
                refine HPt2.out.mono ?_
                rintro e w2 ⟨rfl, hb2⟩
                have HB2 := Lib.hid (HB.out.trans (hb2.mono HB.out.size))
                have HB3 := Lib.hid (HB2.out.alloc HB2.out.size (.cells #[.int .i64 (x.1 : Int), .int .u64 (x.2 : Int)] 43))
                have HO3 := Lib.hid ((ownsSt_below HO.out hb2).alloc (.cells #[.int .i64 (x.1 : Int), .int .u64 (x.2 : Int)] 43))
                have hn1 : (w2.alloc (.cells #[.int .i64 (x.1 : Int), .int .u64 (x.2 : Int)] 43)).cell? ⟨w2.heap.size, 0, none⟩ = some (.int .i64 (x.1 : Int)) := by simp [go_sem]
                have hn2 : (w2.alloc (.cells #[.int .i64 (x.1 : Int), .int .u64 (x.2 : Int)] 43)).cell? ⟨w2.heap.size, 1, none⟩ = some (.int .u64 (x.2 : Int)) := by simp [go_sem]
                clear hb2
                have hy : (w2.alloc (.cells #[.int .i64 (x.1 : Int), .int .u64 (x.2 : Int)] 43)).cell? ⟨g, q * 2, none⟩ = some (.int .i64 (y.1 : Int)) := (HO3.out.cellAt (q * 2) (by omega)).trans HYc.out
                go_wp2_with fail
                go_quiet (fail)
                obtain ⟨w3, hw3⟩ : ∃ w3, w3 = (w2.alloc (.cells #[.int .i64 (x.1 : Int), .int .u64 (x.2 : Int)] 43)).drewN nq := ⟨_, rfl⟩
                have HB4 : Hid (Below w.heap.size w w3) := by rw [hw3]; exact below_dN HB3.out nq
                have HO4 : Hid (w3.ownsRow w.heap.size 43 2 (.slice (some ⟨g, 0, none⟩) (q + 1) oc) (q + 1) (cellsV (castP (o' ++ [y])))) := by rw [hw3]; exact ownsRow_drewN HO3.out nq
                have hm1 : w3.cell? ⟨w2.heap.size, 0, none⟩ = some (.int .i64 (x.1 : Int)) := by rw [hw3]; exact hn1
                have hm2 : w3.cell? ⟨w2.heap.size, 1, none⟩ = some (.int .u64 (x.2 : Int)) := by rw [hw3]; exact hn2
                rw [← hw3]
                clear hw3 hn1 hn2
                have HB5 := Lib.hid (HB4.out.alloc HB4.out.size (.cells #[.int .i64 (x.1 : Int), .int .u64 (x.2 : Int)] 43))
                have HO5 := Lib.hid (HO4.out.alloc (.cells #[.int .i64 (x.1 : Int), .int .u64 (x.2 : Int)] 43))
                have hq1 : (w3.alloc (.cells #[.int .i64 (x.1 : Int), .int .u64 (x.2 : Int)] 43)).cell? ⟨w3.heap.size, 0, none⟩ = some (.int .i64 (x.1 : Int)) := by simp [go_sem]
                have hq2 : (w3.alloc (.cells #[.int .i64 (x.1 : Int), .int .u64 (x.2 : Int)] 43)).cell? ⟨w3.heap.size, 1, none⟩ = some (.int .u64 (x.2 : Int)) := by simp [go_sem]
                have HQ1 := Lib.hid hq1
                have HQ2 := Lib.hid hq2
                clear hq1 hq2
                go_wp2_with (at_builtin; go_loud (refine wp_app_stamp rfl (.tmp 56) (.tmp 58) rfl w.heap.size (.slice (some ⟨g, 0, none⟩) (q + 1) oc) (q + 1) (castP (o' ++ [y])) ((x.1 : Int), (x.2 : Int)) _ _ rfl rfl HCl.out HO5.out HB5.out.size (by omega) HQ1.out HQ2.out ?_); intro v6 w6 hown6 hgr6; obtain ⟨oa6, oc6, rfl, _, _⟩ := ownsSt_form hown6; have HO6 := Lib.hid hown6; have HG6 := Lib.hid hgr6; clear hown6 hgr6)
                have HB6 := Lib.hid (HB5.out.grown HG6.out HB5.out.size (fun j hj => (HO5.out.lt _ hj).1))
                go_roundw
                case rel => exact ⟨n + 1, n + 1, (o' ++ [y]) ++ [x], oa6, q + 1 + 1, oc6, by omega, Nat.le_refl _, by go_num, by go_num, rfl, (by show _ = _; have := HCl.out; unfold castP at this; rw [List.length_map] at this; rw [List.length_append, List.length_singleton]; omega), HRi2, (fun _ => HTN.out.symm), (fun _ => Plain.here s (n + 1)), (fun h => by omega), (by show World.ownsRow _ _ _ _ _ _ _; rw [castP_snoc]; exact HO6.out), HB6⟩
                case measure => simp [intOf]; omega
        · have hi1 : ¬ (n : Int) < (s.size : Int) := by omega
          have HPc : Hid (Tx.pieces (s.data.toList.drop fr) = (s.extract fr n).data.toList :: []) := by subst hend; exact pieces_end (HPl.out hle)
          have hPsz : (s.extract fr n).size = n - fr := by rw [ByteArray.size_extract]; omega
          obtain ⟨P, hP⟩ : ∃ P, s.extract fr n = P := ⟨_, rfl⟩
          rw [hP] at HPc hPsz
          have HPt := Lib.hid (part_any P wo (tab10_below HTab.out HB.out) (by omega))
          have HPs : Hid (P.data.toList.length = n - fr) := by show _ = _; rw [← hPsz]; simp
          clear hPsz
          have HE2 := Lib.hid hend
          clear hend
          cases hst : Tx.stOf P.data.toList with
          | none =>
            have HTT : Hid (T = ([], fr, 21)) := by
              show _ = _
              rw [← HQ.out hle, HPc.out]
              conv => lhs; rw [Tx.readP, hst]
            rw [hst] at HPt
            clear hst
            go_wp2_with fail
            refine HPt.out.mono ?_
            rintro e w2 ⟨d, v, rfl, _, hb2⟩
            have HB2 := Lib.hid (HB.out.trans (hb2.mono HB.out.size))
            have HB3 := Lib.hid (HB2.out.alloc HB2.out.size (.cells #[.int .i64 (d : Int), .int .u64 (v : Int)] 43))
            have hn1 : (w2.alloc (.cells #[.int .i64 (d : Int), .int .u64 (v : Int)] 43)).cell? ⟨w2.heap.size, 0, none⟩ = some (.int .i64 (d : Int)) := by simp [go_sem]
            have hn2 : (w2.alloc (.cells #[.int .i64 (d : Int), .int .u64 (v : Int)] 43)).cell? ⟨w2.heap.size, 1, none⟩ = some (.int .u64 (v : Int)) := by simp [go_sem]
            clear hb2
            go_wp2_with fail
            go_quiet (fail)
            go_wp2_with fail
            first | go_ret3 | skip
            rw [← HR.out, HTT.out]
            exact ⟨none, 0, 0, rfl, rdsP_nil _, below_dN HB3.out nq⟩
          | some x =>
            obtain ⟨hx1, hx2, _⟩ := (Tx.stOf_iff _ _).1 hst
            have HTT : Hid (T = if o.getLast?.any (fun y => decide (x.1 ≤ y.1)) = true then ([], fr, 21) else Tx.readP [] (o ++ [x]) (n + 1)) := by
              show _ = _
              rw [← HQ.out hle, HPc.out]
              conv => lhs; rw [Tx.readP, hst]
              simp only [HPs.out]
              rw [show fr + (n - fr) + 1 = n + 1 by omega]
            have HPt2 : Hid (Calls Tryd.prog 50 #[.string P] wo fun e w' => e = .returned (.tuple #[.agg #[.int .i64 (x.1 : Int), .int .u64 (x.2 : Int)], .bool true]) ∧ Below wo.heap.size wo w') := by
              refine HPt.out.mono ?_
              rintro e w' ⟨d, v, rfl, hdv, hb⟩
              obtain ⟨rfl, rfl⟩ := hdv x hst
              rw [hst]
              exact ⟨rfl, hb⟩
            clear hst HPt
            rcases List.eq_nil_or_concat o with rfl | ⟨o', y, ho⟩
            · have HTN : Hid (T = ([] ++ [x], 0, 0)) := HTT.out
              obtain rfl : om = 0 := HOM.out
              have HCl : Hid (0 = (castP []).length) := rfl
              have HRi2 : Hid (RiseN ([] ++ [x])) := RiseN.snoc RiseN.nil hx1 hx2 rfl
              go_wp2_with fail
              refine HPt2.out.mono ?_
              rintro e w2 ⟨rfl, hb2⟩
              have HB2 := Lib.hid (HB.out.trans (hb2.mono HB.out.size))
              have HB3 := Lib.hid (HB2.out.alloc HB2.out.size (.cells #[.int .i64 (x.1 : Int), .int .u64 (x.2 : Int)] 43))
              have HO3 := Lib.hid ((ownsSt_below HO.out hb2).alloc (.cells #[.int .i64 (x.1 : Int), .int .u64 (x.2 : Int)] 43))
              have hn1 : (w2.alloc (.cells #[.int .i64 (x.1 : Int), .int .u64 (x.2 : Int)] 43)).cell? ⟨w2.heap.size, 0, none⟩ = some (.int .i64 (x.1 : Int)) := by simp [go_sem]
              have hn2 : (w2.alloc (.cells #[.int .i64 (x.1 : Int), .int .u64 (x.2 : Int)] 43)).cell? ⟨w2.heap.size, 1, none⟩ = some (.int .u64 (x.2 : Int)) := by simp [go_sem]
              clear hb2
              go_wp2_with fail
              go_quiet (fail)
              obtain ⟨w3, hw3⟩ : ∃ w3, w3 = (w2.alloc (.cells #[.int .i64 (x.1 : Int), .int .u64 (x.2 : Int)] 43)).drewN nq := ⟨_, rfl⟩
              have HB4 : Hid (Below w.heap.size w w3) := by rw [hw3]; exact below_dN HB3.out nq
              have HO4 : Hid (w3.ownsRow w.heap.size 43 2 (.slice oa (0) oc) (0) (cellsV (castP []))) := by rw [hw3]; exact ownsRow_drewN HO3.out nq
              have hm1 : w3.cell? ⟨w2.heap.size, 0, none⟩ = some (.int .i64 (x.1 : Int)) := by rw [hw3]; exact hn1
              have hm2 : w3.cell? ⟨w2.heap.size, 1, none⟩ = some (.int .u64 (x.2 : Int)) := by rw [hw3]; exact hn2
              rw [← hw3]
              clear hw3 hn1 hn2
              have HB5 := Lib.hid (HB4.out.alloc HB4.out.size (.cells #[.int .i64 (x.1 : Int), .int .u64 (x.2 : Int)] 43))
              have HO5 := Lib.hid (HO4.out.alloc (.cells #[.int .i64 (x.1 : Int), .int .u64 (x.2 : Int)] 43))
              have hq1 : (w3.alloc (.cells #[.int .i64 (x.1 : Int), .int .u64 (x.2 : Int)] 43)).cell? ⟨w3.heap.size, 0, none⟩ = some (.int .i64 (x.1 : Int)) := by simp [go_sem]
              have hq2 : (w3.alloc (.cells #[.int .i64 (x.1 : Int), .int .u64 (x.2 : Int)] 43)).cell? ⟨w3.heap.size, 1, none⟩ = some (.int .u64 (x.2 : Int)) := by simp [go_sem]
              have HQ1 := Lib.hid hq1
              have HQ2 := Lib.hid hq2
              clear hq1 hq2
              go_wp2_with (at_builtin; go_loud (refine wp_app_stamp rfl (.tmp 56) (.tmp 58) rfl w.heap.size (.slice oa (0) oc) (0) (castP []) ((x.1 : Int), (x.2 : Int)) _ _ rfl rfl HCl.out HO5.out HB5.out.size (by omega) HQ1.out HQ2.out ?_); intro v6 w6 hown6 hgr6; obtain ⟨oa6, oc6, rfl, _, _⟩ := ownsSt_form hown6; have HO6 := Lib.hid hown6; have HG6 := Lib.hid hgr6; clear hown6 hgr6)
              have HB6 := Lib.hid (HB5.out.grown HG6.out HB5.out.size (fun j hj => (HO5.out.lt _ hj).1))
              go_roundw
              case rel => exact ⟨n + 1, n + 1, [] ++ [x], oa6, 0 + 1, oc6, by omega, Nat.le_refl _, by go_num, by go_num, rfl, (by show _ = _; have := HCl.out; unfold castP at this; rw [List.length_map] at this; rw [List.length_append, List.length_singleton]; omega), HRi2, (fun h => by have := HE2.out; omega), (fun _ => Plain.here s (n + 1)), (fun _ => HTN.out), (by show World.ownsRow _ _ _ _ _ _ _; rw [castP_snoc]; exact HO6.out), HB6⟩
              case measure => simp [intOf]; omega
            · rw [List.concat_eq_append] at ho
              subst ho
              obtain ⟨q, hq⟩ : ∃ q, q = o'.length := ⟨_, rfl⟩
              obtain rfl : om = q + 1 := by have := HOM.out; simp at this; omega
              have HCl : Hid (q + 1 = (castP (o' ++ [y])).length) := by show _ = _; simp [castP]; exact hq
              have hql : q + 1 ≤ 256 := by have := HRi.out.len; simp at this; omega
              obtain ⟨g, hoa⟩ : ∃ g, oa = some ⟨g, 0, none⟩ := by
                rcases HO.out.2 with ⟨_, h2⟩ | ⟨g, _, _, h, _⟩
                · omega
                · exact ⟨g, by injection h⟩
              subst hoa
              have HYc : Hid ((cellsV (castP (o' ++ [y])))[q * 2]? = some (.int .i64 (y.1 : Int))) := by
                show _ = _
                have hlq : q < (castP (o' ++ [y])).length := by rw [← HCl.out]; omega
                rw [(cellsV_get _ q hlq).1]
                have : (castP (o' ++ [y]))[q] = ((y.1 : Int), (y.2 : Int)) := by
                  subst hq
                  simp [castP]
                rw [this]
              have hany : (o' ++ [y]).getLast?.any (fun y => decide (x.1 ≤ y.1)) = decide (x.1 ≤ y.1) := by simp
              have g1 : IntKind.i64.wrap (((q : Int) + 1) - 1) = (q : Int) := by rw [IntWalk.i64_in _ (by omega)]; omega
              have g2 : (0 : Int) < (q : Int) + 1 := by omega
              by_cases hge : x.1 ≤ y.1
              · have HTN : Hid (T = ([], fr, 21)) := by show _ = _; rw [HTT.out, hany, decide_eq_true hge]; rfl
                have hgi : (x.1 : Int) ≤ (y.1 : Int) := by omega
                clear hany hq
                go_wp2_with fail
                refine HPt2.out.mono ?_
                rintro e w2 ⟨rfl, hb2⟩
                have HB2 := Lib.hid (HB.out.trans (hb2.mono HB.out.size))
                have HB3 := Lib.hid (HB2.out.alloc HB2.out.size (.cells #[.int .i64 (x.1 : Int), .int .u64 (x.2 : Int)] 43))
                have HO3 := Lib.hid ((ownsSt_below HO.out hb2).alloc (.cells #[.int .i64 (x.1 : Int), .int .u64 (x.2 : Int)] 43))
                have hn1 : (w2.alloc (.cells #[.int .i64 (x.1 : Int), .int .u64 (x.2 : Int)] 43)).cell? ⟨w2.heap.size, 0, none⟩ = some (.int .i64 (x.1 : Int)) := by simp [go_sem]
                have hn2 : (w2.alloc (.cells #[.int .i64 (x.1 : Int), .int .u64 (x.2 : Int)] 43)).cell? ⟨w2.heap.size, 1, none⟩ = some (.int .u64 (x.2 : Int)) := by simp [go_sem]
                clear hb2
                have hy : (w2.alloc (.cells #[.int .i64 (x.1 : Int), .int .u64 (x.2 : Int)] 43)).cell? ⟨g, q * 2, none⟩ = some (.int .i64 (y.1 : Int)) := (HO3.out.cellAt (q * 2) (by omega)).trans HYc.out
                go_wp2_with fail
                go_quiet (fail)
                go_wp2_with fail
                first | go_ret3 | skip
                rw [← HR.out, HTN.out]
                exact ⟨none, 0, 0, rfl, rdsP_nil _, below_dN HB3.out nq⟩
              · have HTN : Hid (T = (o' ++ [y] ++ [x], 0, 0)) := by show _ = _; rw [HTT.out, hany, decide_eq_false hge]; rfl
                have HRi2 : Hid (RiseN (o' ++ [y] ++ [x])) := RiseN.snoc HRi.out hx1 hx2 (by rw [hany]; exact decide_eq_false hge)
                have hgi : ¬ (x.1 : Int) ≤ (y.1 : Int) := by omega
                clear hany hq
                go_wp2_with fail
                refine HPt2.out.mono ?_
                rintro e w2 ⟨rfl, hb2⟩
                have HB2 := Lib.hid (HB.out.trans (hb2.mono HB.out.size))
                have HB3 := Lib.hid (HB2.out.alloc HB2.out.size (.cells #[.int .i64 (x.1 : Int), .int .u64 (x.2 : Int)] 43))
                have HO3 := Lib.hid ((ownsSt_below HO.out hb2).alloc (.cells #[.int .i64 (x.1 : Int), .int .u64 (x.2 : Int)] 43))
                have hn1 : (w2.alloc (.cells #[.int .i64 (x.1 : Int), .int .u64 (x.2 : Int)] 43)).cell? ⟨w2.heap.size, 0, none⟩ = some (.int .i64 (x.1 : Int)) := by simp [go_sem]
                have hn2 : (w2.alloc (.cells #[.int .i64 (x.1 : Int), .int .u64 (x.2 : Int)] 43)).cell? ⟨w2.heap.size, 1, none⟩ = some (.int .u64 (x.2 : Int)) := by simp [go_sem]
                clear hb2
                have hy : (w2.alloc (.cells #[.int .i64 (x.1 : Int), .int .u64 (x.2 : Int)] 43)).cell? ⟨g, q * 2, none⟩ = some (.int .i64 (y.1 : Int)) := (HO3.out.cellAt (q * 2) (by omega)).trans HYc.out
                go_wp2_with fail
                go_quiet (fail)
                obtain ⟨w3, hw3⟩ : ∃ w3, w3 = (w2.alloc (.cells #[.int .i64 (x.1 : Int), .int .u64 (x.2 : Int)] 43)).drewN nq := ⟨_, rfl⟩
                have HB4 : Hid (Below w.heap.size w w3) := by rw [hw3]; exact below_dN HB3.out nq
                have HO4 : Hid (w3.ownsRow w.heap.size 43 2 (.slice (some ⟨g, 0, none⟩) (q + 1) oc) (q + 1) (cellsV (castP (o' ++ [y])))) := by rw [hw3]; exact ownsRow_drewN HO3.out nq
                have hm1 : w3.cell? ⟨w2.heap.size, 0, none⟩ = some (.int .i64 (x.1 : Int)) := by rw [hw3]; exact hn1
                have hm2 : w3.cell? ⟨w2.heap.size, 1, none⟩ = some (.int .u64 (x.2 : Int)) := by rw [hw3]; exact hn2
                rw [← hw3]
                clear hw3 hn1 hn2
                have HB5 := Lib.hid (HB4.out.alloc HB4.out.size (.cells #[.int .i64 (x.1 : Int), .int .u64 (x.2 : Int)] 43))
                have HO5 := Lib.hid (HO4.out.alloc (.cells #[.int .i64 (x.1 : Int), .int .u64 (x.2 : Int)] 43))
                have hq1 : (w3.alloc (.cells #[.int .i64 (x.1 : Int), .int .u64 (x.2 : Int)] 43)).cell? ⟨w3.heap.size, 0, none⟩ = some (.int .i64 (x.1 : Int)) := by simp [go_sem]
                have hq2 : (w3.alloc (.cells #[.int .i64 (x.1 : Int), .int .u64 (x.2 : Int)] 43)).cell? ⟨w3.heap.size, 1, none⟩ = some (.int .u64 (x.2 : Int)) := by simp [go_sem]
                have HQ1 := Lib.hid hq1
                have HQ2 := Lib.hid hq2
                clear hq1 hq2
                go_wp2_with (at_builtin; go_loud (refine wp_app_stamp rfl (.tmp 56) (.tmp 58) rfl w.heap.size (.slice (some ⟨g, 0, none⟩) (q + 1) oc) (q + 1) (castP (o' ++ [y])) ((x.1 : Int), (x.2 : Int)) _ _ rfl rfl HCl.out HO5.out HB5.out.size (by omega) HQ1.out HQ2.out ?_); intro v6 w6 hown6 hgr6; obtain ⟨oa6, oc6, rfl, _, _⟩ := ownsSt_form hown6; have HO6 := Lib.hid hown6; have HG6 := Lib.hid hgr6; clear hown6 hgr6)
                have HB6 := Lib.hid (HB5.out.grown HG6.out HB5.out.size (fun j hj => (HO5.out.lt _ hj).1))
                go_roundw
                case rel => exact ⟨n + 1, n + 1, (o' ++ [y]) ++ [x], oa6, q + 1 + 1, oc6, by omega, Nat.le_refl _, by go_num, by go_num, rfl, (by show _ = _; have := HCl.out; unfold castP at this; rw [List.length_map] at this; rw [List.length_append, List.length_singleton]; omega), HRi2, (fun h => by have := HE2.out; omega), (fun _ => Plain.here s (n + 1)), (fun _ => HTN.out), (by show World.ownsRow _ _ _ _ _ _ _; rw [castP_snoc]; exact HO6.out), HB6⟩
                case measure => simp [intOf]; omega
    · have hi9 : ¬ (n : Int) ≤ (s.size : Int) := by omega
      have HTT : Hid (T = (o, 0, 0)) := HEnd.out (by omega)
      go_wp2_with fail
      first | go_ret3 | skip
      rw [← HR.out, HTT.out]
      exact ⟨oa, om, oc, rfl, owns_rdsP (by have := HOM.out; simp [castP]; exact this) HO.out, HB.out⟩
end Go.Proofs.YtlmpaeefhpahoaaDoor
