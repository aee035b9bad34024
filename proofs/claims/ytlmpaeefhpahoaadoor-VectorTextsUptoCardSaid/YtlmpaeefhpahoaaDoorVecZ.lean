/-
  Walks: the reference's Join.
-/
import Derived.BigQuiet
import Derived.Test.YtlmpaeefhpahoaaDoorVecY
namespace Go.Proofs.YtlmpaeefhpahoaaDoor
open Go.RowKit

/-- The reference's put at rising stamps. -/
theorem putR_srt (v : Value) (l : List Stp) (s : Stp) (w : World) (hr : RdsP w v l) (hlen : l.length ≤ 4096) (hs : Srt l) :
    Calls Tryd.prog 32 #[v, .agg #[.int .i64 s.1, .int .u64 s.2]] w fun e w' => ∃ oa om oc, e = .returned (.slice oa om oc) ∧ RdsP w' (.slice oa om oc) (put l s) ∧ Below w.heap.size w w' := by
  refine (putR_any v l s w hr hlen _ (putR_put l s hs)).mono ?_
  rintro e w' ⟨v', rfl, hown, hb⟩
  obtain ⟨ad, cap, rfl, _, _⟩ := ownsSt_form hown
  exact ⟨_, _, _, rfl, owns_rdsP rfl hown, hb⟩

theorem JoinR_bad (v : Value) (L : List (List Stp)) (w : World) (hr : RdsL w v L) (hc : L.all chk = false) :
    Calls Tryd.prog 14 #[v] w fun e w' => e = .returned (.tuple #[.slice none 0 0, .int .i64 160]) ∧ ∃ k, w' = w.drewN k := by
  have HC := Lib.hid (CheckR_any _ _ _ hr 160 (by rw [hc]; rfl))
  obtain ⟨a, n, c, rfl, hx⟩ := hr
  clear hx
  clear hc
  go_enter Tryd.func14, Tryd.ntmps14
  go_wp2_with fail
  refine HC.out.mono ?_
  rintro e w1 ⟨rfl, k, rfl⟩
  go_wp2_with fail
  go_ret2
  exact ⟨rfl, k, rfl⟩

theorem MergeR_bad (v : Value) (L : List (List Stp)) (w : World) (hr : RdsL w v L) (hc : L.all chk = false) :
    Calls Tryd.prog 12 #[v] w fun e w' => e = .returned (.tuple #[.slice none 0 0, .bool false, .int .i64 160]) ∧ ∃ k, w' = w.drewN k := by
  have HC := Lib.hid (CheckR_any _ _ _ hr 160 (by rw [hc]; rfl))
  obtain ⟨a, n, c, rfl, hx⟩ := hr
  clear hx
  clear hc
  go_enter Tryd.func12, Tryd.ntmps12
  go_wp2_with fail
  refine HC.out.mono ?_
  rintro e w1 ⟨rfl, k, rfl⟩
  go_wp2_with fail
  go_ret3
  exact ⟨rfl, k, rfl⟩

set_option maxHeartbeats 4000000 in
theorem JoinR_good (v : Value) (L : List (List Stp)) (w : World) (hr : RdsL w v L) (hc : L.all chk = true) (p : List Stp × Bool) (hp : joinTo ([], true) L.flatten = p) :
    Calls Tryd.prog 14 #[v] w fun e w' => ∃ oa om oc, e = .returned (.tuple #[.slice oa om oc, .int .i64 0]) ∧ RdsP w' (.slice oa om oc) p.1 ∧ Below w.heap.size w w' := by
  have HC := Lib.hid (CheckR_any _ _ _ hr 0 (by rw [hc]; rfl))
  obtain ⟨ad, len, cap, rfl, hl, hlm, hel⟩ := hr
  have HL := Lib.hid hl
  have HEL := Lib.hid hel
  have HCd := Lib.hid (all_dev hc).1
  have HP := Lib.hid hp
  unfold maxLen at hlm
  clear hl hel hc hp
  generalize hR : (fun (e : Ending) (w' : World) => ∃ oa om oc, e = .returned (.tuple #[.slice oa om oc, .int .i64 0]) ∧ RdsP w' (.slice oa om oc) p.1 ∧ Below w.heap.size w w') = R
  have HR := Lib.hid hR
  clear hR
  go_enter Tryd.func14, Tryd.ntmps14
  go_wp2_with fail
  refine HC.out.mono ?_
  rintro e w1 ⟨rfl, k, rfl⟩
  have HB0 := Lib.hid (below_dN (Below.refl w.heap.size w) k)
  go_wp2_with fail
  go_loopw [5, 6] (fun o k wr => ∃ n : Nat, ∃ q : List Stp × Bool, ∃ oa om oc, n ≤ len ∧ k = .int .i64 n ∧ o = .slice oa om oc ∧ Hid (joinTo ([], true) (L.take n).flatten = q) ∧ Hid (RdsP wr (.slice oa om oc) q.1) ∧ Hid (Below w.heap.size w wr)) (fun _ k _ => len - (intOf k).toNat)
  case atStart => exact ⟨0, ([], true), none, 0, 0, Nat.zero_le _, rfl, rfl, rfl, rdsP_nil _, HB0⟩
  case round =>
    obtain ⟨wo, rfl⟩ : ∃ wo : World, wo = wr := ⟨wr, rfl⟩
    obtain ⟨n, q, oa, om, oc, hn, rfl, rfl, HQ, HO, HB⟩ := hrel
    by_cases hlt : n < len
    · have hn' : n < L.length := by rw [← HL.out]; exact hlt
      obtain ⟨b, off, x, rfl, hb, hcell, hx⟩ := HEL.out n hn'
      obtain ⟨xa, xn, xc, rfl, hxl, hxm, hxe⟩ := hx
      have HCx : Hid (∀ W, Below w.heap.size w W → W.cell? ⟨b, off + n, none⟩ = some (.slice xa xn xc)) := fun W h => (h.cell (p := ⟨b, off + n, none⟩) hb).trans hcell
      have hc1 := HCx.out _ HB.out
      have HXL := Lib.hid hxl
      have HXE := Lib.hid hxe
      have HDl : Hid (∀ s ∈ L[n], dev s.1 = true) := HCd.out _ (List.getElem_mem hn')
      have HQ0 : Hid (OkV q.1) := by
        show OkV q.1
        rw [← HQ.out]
        refine OkV.joinTo ⟨List.Pairwise.nil, fun s hs => by simp at hs⟩ fun s hs => ?_
        obtain ⟨l, hl, hs⟩ := List.mem_flatten.1 hs
        exact HCd.out l (List.mem_of_mem_take hl) s hs
      have HNx : Hid ((L.take (n + 1)).flatten = (L.take n).flatten ++ L[n]) := by show _ = _; rw [List.take_succ_eq_append_getElem hn', List.flatten_append, List.flatten_cons, List.flatten_nil, List.append_nil]
      unfold maxLen at hxm
      clear hcell hxl hxe
      generalize L[n] = l at HXL HXE HDl HNx
      go_wp2_with fail
      go_loopw [5, 7] (fun o k wi => ∃ i : Nat, ∃ q' : List Stp × Bool, ∃ oa om oc, i ≤ xn ∧ k = .int .i64 i ∧ o = .slice oa om oc ∧ Hid (joinTo q (l.take i) = q') ∧ Hid (RdsP wi (.slice oa om oc) q'.1) ∧ Hid (Below w.heap.size w wi)) (fun _ k _ => xn - (intOf k).toNat)
      case atStart => exact ⟨0, q, oa, om, oc, Nat.zero_le _, rfl, rfl, rfl, HO, HB⟩
      case round =>
        obtain ⟨wi, rfl⟩ : ∃ wi : World, wi = wr := ⟨wr, rfl⟩
        clear HO HB hc1
        obtain ⟨i, q', oa, om, oc, hi, rfl, rfl, HQ', HO, HB⟩ := hrel
        have hc1 := HCx.out _ HB.out
        by_cases hlt2 : i < xn
        · have hi' : i < l.length := by rw [← HXL.out]; exact hlt2
          obtain ⟨b2, off2, rfl, hb2, hd1, hd2⟩ := HXE.out i hi'
          have HC1 : Hid (∀ W, Below w.heap.size w W → W.cell? ⟨b2, off2 + i * 2, none⟩ = some (.int .i64 l[i].1)) := fun W h => (h.cell (p := ⟨b2, off2 + i * 2, none⟩) hb2).trans hd1
          have HC2 : Hid (∀ W, Below w.heap.size w W → W.cell? ⟨b2, off2 + i * 2 + 1, none⟩ = some (.int .u64 l[i].2)) := fun W h => (h.cell (p := ⟨b2, off2 + i * 2 + 1, none⟩) hb2).trans hd2
          have HOk : Hid (OkV q'.1) := by
            show OkV q'.1
            rw [← HQ'.out]
            exact OkV.joinTo HQ0.out fun s hs => HDl.out s (List.mem_of_mem_take hs)
          have HNi : Hid (joinTo q (l.take (i + 1)) = step q' l[i]) := by
            show _ = _
            rw [List.take_succ_eq_append_getElem hi', joinTo_snoc, HQ'.out]
          clear hd1 hd2
          generalize l[i] = s at HC1 HC2 HNi
          have hd1 := HC1.out _ HB.out
          have hd2 := HC2.out _ HB.out
          have HSt : Hid ((step q' s).1 = stepR q'.1 s) := (stepR_eq s HOk.out.1).symm
          cases hk : lk q'.1 s.1 with
          | none =>
            have HF := Lib.hid (fun W h => findR_any (.slice oa om oc) q'.1 s.1 W h 0 false (by rw [hk]; rfl) (by rw [hk]; rfl))
            have HPu := Lib.hid (fun W h => putR_srt (.slice oa om oc) q'.1 s W h (by have := HOk.out.len; omega) HOk.out.1)
            have HSp : Hid (stepR q'.1 s = put q'.1 s) := by show _ = _; unfold stepR; rw [hk]
            clear hk
            go_wp2_with fail
            refine (HF.out _ HO.out).mono ?_
            rintro e w2 ⟨rfl, rfl⟩
            go_wp2_with fail
            refine (HPu.out _ HO.out).mono ?_
            rintro e w4 ⟨oa4, om4, oc4, rfl, hr4, hb4⟩
            have HO4 := Lib.hid hr4
            have HB4 := Lib.hid (HB.out.trans (hb4.mono HB.out.size))
            clear hr4 hb4
            go_wp2_with fail
            go_roundw
            case rel => exact ⟨i + 1, step q' s, oa4, om4, oc4, by omega, by go_num, rfl, HNi, (by show RdsP _ _ _; rw [HSt.out, HSp.out]; exact HO4.out), HB4⟩
            case measure => simp [intOf]; omega
          | some z =>
            have HF := Lib.hid (fun W h => findR_any (.slice oa om oc) q'.1 s.1 W h z true (by rw [hk]; rfl) (by rw [hk]; rfl))
            by_cases hz : z < s.2
            · have HPu := Lib.hid (fun W h => putR_srt (.slice oa om oc) q'.1 s W h (by have := HOk.out.len; omega) HOk.out.1)
              have HSp : Hid (stepR q'.1 s = put q'.1 s) := by show _ = _; unfold stepR; rw [hk]; exact if_pos hz
              clear hk
              go_wp2_with fail
              refine (HF.out _ HO.out).mono ?_
              rintro e w2 ⟨rfl, rfl⟩
              go_wp2_with fail
              refine (HPu.out _ HO.out).mono ?_
              rintro e w4 ⟨oa4, om4, oc4, rfl, hr4, hb4⟩
              have HO4 := Lib.hid hr4
              have HB4 := Lib.hid (HB.out.trans (hb4.mono HB.out.size))
              clear hr4 hb4
              go_wp2_with fail
              go_roundw
              case rel => exact ⟨i + 1, step q' s, oa4, om4, oc4, by omega, by go_num, rfl, HNi, (by show RdsP _ _ _; rw [HSt.out, HSp.out]; exact HO4.out), HB4⟩
              case measure => simp [intOf]; omega
            · have HSp : Hid (stepR q'.1 s = q'.1) := by show _ = _; unfold stepR; rw [hk]; exact if_neg hz
              clear hk
              go_wp2_with fail
              refine (HF.out _ HO.out).mono ?_
              rintro e w2 ⟨rfl, rfl⟩
              go_wp2_with fail
              go_roundw
              case rel => exact ⟨i + 1, step q' s, oa, om, oc, by omega, by go_num, rfl, HNi, (by show RdsP _ _ _; rw [HSt.out, HSp.out]; exact HO.out), HB⟩
              case measure => simp [intOf]; omega
        · go_wp2_with fail
          go_roundw
          case rel => exact ⟨n + 1, q', oa, om, oc, by omega, by go_num, rfl, (by show joinTo _ _ = _; rw [HNx.out]; unfold joinTo; rw [List.foldl_append]; have h1 := HQ.out; have h2 := HQ'.out; unfold joinTo at h1 h2; rw [h1, ← h2, List.take_of_length_le (by have := HXL.out; omega)]), HO, HB⟩
          case measure => simp [intOf]; omega
    · go_wp2_with fail
      first | go_ret2 | skip
      rw [← HR.out]
      have : q = p := by rw [← HP.out, ← HQ.out, List.take_of_length_le (by have := HL.out; omega)]
      subst this
      exact ⟨_, _, _, rfl, HO.out, HB.out⟩
end Go.Proofs.YtlmpaeefhpahoaaDoor
