/-
  Walks: the reference's Merge.
-/
import Derived.Test.YtlmpaeefhpahoaaDoorVecZ
namespace Go.Proofs.YtlmpaeefhpahoaaDoor
open Go.RowKit

set_option maxHeartbeats 4000000 in
theorem MergeR_good (v : Value) (L : List (List Stp)) (w : World) (hr : RdsL w v L) (hc : L.all chk = true) (p : List Stp × Bool) (hp : joinTo ([], true) L.flatten = p) :
    Calls Tryd.prog 12 #[v] w fun e w' => ∃ oa om oc, e = .returned (.tuple #[.slice oa om oc, .bool p.2, .int .i64 0]) ∧ (p.2 = true → RdsP w' (.slice oa om oc) p.1) ∧ (p.2 = false → Value.slice oa om oc = .slice none 0 0) ∧ Below w.heap.size w w' := by
  have HC := Lib.hid (CheckR_any _ _ _ hr 0 (by rw [hc]; rfl))
  obtain ⟨ad, len, cap, rfl, hl, hlm, hel⟩ := hr
  have HL := Lib.hid hl
  have HEL := Lib.hid hel
  have HCd := Lib.hid (all_dev hc).1
  have HP := Lib.hid hp
  unfold maxLen at hlm
  clear hl hel hc hp
  generalize hR : (fun (e : Ending) (w' : World) => ∃ oa om oc, e = .returned (.tuple #[.slice oa om oc, .bool p.2, .int .i64 0]) ∧ (p.2 = true → RdsP w' (.slice oa om oc) p.1) ∧ (p.2 = false → Value.slice oa om oc = .slice none 0 0) ∧ Below w.heap.size w w') = R
  have HR := Lib.hid hR
  clear hR
  go_enter Tryd.func12, Tryd.ntmps12
  go_wp2_with fail
  refine HC.out.mono ?_
  rintro e w1 ⟨rfl, k, rfl⟩
  have HB0 := Lib.hid (below_dN (Below.refl w.heap.size w) k)
  go_wp2_with fail
  go_loopw [6, 7] (fun o k wr => ∃ n : Nat, ∃ q : List Stp, ∃ oa om oc, n ≤ len ∧ k = .int .i64 n ∧ o = .slice oa om oc ∧ Hid (joinTo ([], true) (L.take n).flatten = (q, true)) ∧ Hid (RdsP wr (.slice oa om oc) q) ∧ Hid (Below w.heap.size w wr)) (fun _ k _ => len - (intOf k).toNat)
  case atStart => exact ⟨0, [], none, 0, 0, Nat.zero_le _, rfl, rfl, rfl, rdsP_nil _, HB0⟩
  case round =>
    obtain ⟨wo, rfl⟩ : ∃ wo : World, wo = wr := ⟨wr, rfl⟩
    obtain ⟨n, q, oa, om, oc, hn, rfl, rfl, HQ, HO, HB⟩ := hrel
    by_cases hlt : n < len
    · have hn' : n < L.length := by rw [← HL.out]; exact hlt
      obtain ⟨b, off, x, rfl, hb, hcell, hx⟩ := HEL.out n hn'
      obtain ⟨xa, xn, xc, rfl, hxl, hxm, hxe⟩ := hx
      have HCx : Hid (∀ W, Below w.heap.size w W → W.cell? ⟨b, off + n, none⟩ = some (.slice xa xn xc)) := fun W h => (h.cell (p := ⟨b, off + n, none⟩) hb).trans hcell
      have hc1 := HCx.out _ HB.out
      have HXL := Lib.hid hxl
      have HXE := Lib.hid hxe
      have HDl : Hid (∀ s ∈ L[n], dev s.1 = true) := HCd.out _ (List.getElem_mem hn')
      have HQ0 : Hid (OkV q) := by
        have h0 := congrArg Prod.fst HQ.out
        show OkV q
        have h1 : (joinTo ([], true) (L.take n).flatten).1 = q := h0
        rw [← h1]
        refine OkV.joinTo ⟨List.Pairwise.nil, fun s hs => by simp at hs⟩ fun s hs => ?_
        obtain ⟨l, hl, hs⟩ := List.mem_flatten.1 hs
        exact HCd.out l (List.mem_of_mem_take hl) s hs
      have HNx : Hid ((L.take (n + 1)).flatten = (L.take n).flatten ++ L[n]) := by show _ = _; rw [List.take_succ_eq_append_getElem hn', List.flatten_append, List.flatten_cons, List.flatten_nil, List.append_nil]
      have HNr : Hid (L.flatten = (L.take n).flatten ++ (L[n] ++ (L.drop (n + 1)).flatten)) := by show _ = _; conv => lhs; rw [← List.take_append_drop n L, List.drop_eq_getElem_cons hn', List.flatten_append, List.flatten_cons]
      unfold maxLen at hxm
      clear hcell hxl hxe
      generalize L[n] = l at HXL HXE HDl HNx HNr
      go_wp2_with fail
      go_loopw [6, 8] (fun o k wi => ∃ i : Nat, ∃ q' : List Stp, ∃ oa om oc, i ≤ xn ∧ k = .int .i64 i ∧ o = .slice oa om oc ∧ Hid (joinTo (q, true) (l.take i) = (q', true)) ∧ Hid (RdsP wi (.slice oa om oc) q') ∧ Hid (Below w.heap.size w wi)) (fun _ k _ => xn - (intOf k).toNat)
      case atStart => exact ⟨0, q, oa, om, oc, Nat.zero_le _, rfl, rfl, rfl, HO, HB⟩
      case round =>
        obtain ⟨wi, rfl⟩ : ∃ wi : World, wi = wr := ⟨wr, rfl⟩
        clear HO HB hc1
        obtain ⟨i, q', oa, om, oc, hi, rfl, rfl, HQ', HO, HB⟩ := hrel
        have hc1 := HCx.out _ HB.out
        by_cases hlt2 : i < xn
        · have hi' : i < l.length := by rw [← HXL.out]; exact hlt2
          obtain ⟨b2, off2, rfl, hb2, hd1, hd2⟩ := HXE.out i hi'
          have HC1 : Hid (∀ W, Below w.heap.size w W → W.cell? ⟨b2, off2 + i * 2, none⟩ = some (.int .i64 l[i].1)) := fun W h => (h.cell (p := ⟨b2, off2 + i * 2, none⟩) hb2).trans hd1
          have HC2 : Hid (∀ W, Below w.heap.size w W → W.cell? ⟨b2, off2 + i * 2 + 1, none⟩ = some (.int .u64 l[i].2)) := fun W h => (h.cell (p := ⟨b2, off2 + i * 2 + 1, none⟩) hb2).trans hd2
          have HOk : Hid (OkV q') := by
            have h1 : (joinTo (q, true) (l.take i)).1 = q' := congrArg Prod.fst HQ'.out
            show OkV q'
            rw [← h1]
            exact OkV.joinTo (p := (q, true)) HQ0.out fun s hs => HDl.out s (List.mem_of_mem_take hs)
          have HNi : Hid (joinTo (q, true) (l.take (i + 1)) = step (q', true) l[i]) := by
            show _ = _
            rw [List.take_succ_eq_append_getElem hi', joinTo_snoc, HQ'.out]
          have HLi : Hid (l = l.take i ++ l[i] :: l.drop (i + 1)) := by show _ = _; conv => lhs; rw [← List.take_append_drop i l, List.drop_eq_getElem_cons hi']
          clear hd1 hd2
          generalize l[i] = s at HC1 HC2 HNi HLi
          have hd1 := HC1.out _ HB.out
          have hd2 := HC2.out _ HB.out
          cases hk : lk q' s.1 with
          | none =>
            have HF := Lib.hid (fun W h => findR_any (.slice oa om oc) q' s.1 W h 0 false (by rw [hk]; rfl) (by rw [hk]; rfl))
            have HPu := Lib.hid (fun W h => putR_srt (.slice oa om oc) q' s W h (by have := HOk.out.len; omega) HOk.out.1)
            have HSp : Hid (step (q', true) s = (put q' s, true)) := by show _ = _; unfold step; rw [hk]
            clear hk
            go_wp2_with fail
            refine (HF.out _ HO.out).mono ?_
            rintro e w2 ⟨rfl, rfl⟩
            go_wp2_with fail
            refine (HPu.out _ HO.out).mono ?_
            rintro e w4 ⟨oa4, om4, oc4, rfl, hr4, hb4⟩
            have HO4 := Lib.hid hr4
            have HB4 := Lib.hid (HB.out.trans (hb4.mono HB.out.size))
            clear hr4 hb4
            go_wp2_with fail
            go_roundw
            case rel => exact ⟨i + 1, put q' s, oa4, om4, oc4, by omega, by go_num, rfl, (by show _ = _; rw [HNi.out, HSp.out]), HO4, HB4⟩
            case measure => simp [intOf]; omega
          | some z =>
            have HF := Lib.hid (fun W h => findR_any (.slice oa om oc) q' s.1 W h z true (by rw [hk]; rfl) (by rw [hk]; rfl))
            by_cases hz : z = s.2
            · have HPu := Lib.hid (fun W h => putR_srt (.slice oa om oc) q' s W h (by have := HOk.out.len; omega) HOk.out.1)
              have HSp : Hid (step (q', true) s = (put q' s, true)) := by show _ = _; unfold step; rw [hk]; subst hz; rw [show put q' s = q' from put_same HOk.out.1 hk]; exact if_pos rfl
              have hzs : (z == s.2) = true := by simpa using hz
              clear hk
              go_wp2_with fail
              refine (HF.out _ HO.out).mono ?_
              rintro e w2 ⟨rfl, rfl⟩
              go_wp2_with fail
              refine (HPu.out _ HO.out).mono ?_
              rintro e w4 ⟨oa4, om4, oc4, rfl, hr4, hb4⟩
              have HO4 := Lib.hid hr4
              have HB4 := Lib.hid (HB.out.trans (hb4.mono HB.out.size))
              clear hr4 hb4
              go_wp2_with fail
              go_roundw
              case rel => exact ⟨i + 1, put q' s, oa4, om4, oc4, by omega, by go_num, rfl, (by show _ = _; rw [HNi.out, HSp.out]), HO4, HB4⟩
              case measure => simp [intOf]; omega
            · have HSp : Hid ((step (q', true) s).2 = false) := by show _ = _; unfold step; rw [hk]; simp only; rw [if_neg hz]
              have hzs : (z == s.2) = false := by simpa using hz
              clear hk
              go_wp2_with fail
              refine (HF.out _ HO.out).mono ?_
              rintro e w2 ⟨rfl, rfl⟩
              go_wp2_with fail
              first | go_ret3 | skip
              rw [← HR.out]
              have hp2 : p.2 = false := by
                rw [← HP.out, HNr.out]
                have e1 := HQ.out
                have e2 := HQ'.out
                have e3 := HLi.out
                unfold joinTo at e1 e2 ⊢
                rw [List.foldl_append, e1, List.foldl_append, e3, List.foldl_append, e2]
                rw [← List.foldl_append, List.cons_append, List.foldl_cons]
                exact joinTo_false _ HSp.out
              exact ⟨none, 0, 0, (by rw [hp2]; rfl), (fun h => by rw [hp2] at h; cases h), (fun _ => rfl), HB.out⟩
        · go_wp2_with fail
          go_roundw
          case rel => exact ⟨n + 1, q', oa, om, oc, by omega, by go_num, rfl, (by show joinTo _ _ = _; rw [HNx.out]; unfold joinTo; rw [List.foldl_append]; have h1 := HQ.out; have h2 := HQ'.out; unfold joinTo at h1 h2; rw [h1, ← h2, List.take_of_length_le (by have := HXL.out; omega)]), HO, HB⟩
          case measure => simp [intOf]; omega
    · go_wp2_with fail
      first | go_ret3 | skip
      rw [← HR.out]
      have : p = (q, true) := by rw [← HP.out, ← HQ.out, List.take_of_length_le (by have := HL.out; omega)]
      subst this
      exact ⟨_, _, _, rfl, fun _ => HO.out, (fun h => by cases h), HB.out⟩
end Go.Proofs.YtlmpaeefhpahoaaDoor
