/-
  Walks: joined.
-/
import Derived.BigQuiet
import Derived.Test.YtlmpaeefhpahoaaDoorVecL
namespace Go.Proofs.YtlmpaeefhpahoaaDoor
open Go.RowKit

/-- A join under way: rising, of devices. -/
def OkV (l : List Stp) : Prop := Srt l ∧ ∀ s ∈ l, dev s.1 = true

theorem OkV.len {l : List Stp} (h : OkV l) : l.length ≤ 256 := srt_len (l := l) (by
  unfold chk
  rw [Bool.and_eq_true]
  exact ⟨srt_rises l h.1, List.all_eq_true.2 h.2⟩)

theorem OkV.step {p : List Stp × Bool} {s : Stp} (h : OkV p.1) (hs : dev s.1 = true) : OkV (step p s).1 := by
  refine ⟨srt_step s h.1, fun t ht => ?_⟩
  unfold Proofs.YtlmpaeefhpahoaaDoor.step at ht
  split at ht
  · rcases mem_put ht with rfl | ht
    · exact hs
    · exact h.2 t ht
  · split at ht
    · exact h.2 t ht
    · rcases mem_put ht with rfl | ht
      · exact hs
      · exact h.2 t ht

theorem OkV.joinTo {p : List Stp × Bool} {l : List Stp} (h : OkV p.1) (hs : ∀ s ∈ l, dev s.1 = true) : OkV (joinTo p l).1 := by
  induction l generalizing p with
  | nil => exact h
  | cons a r ih => exact ih (OkV.step h (hs a (by simp))) (fun s hs' => hs s (by simp [hs']))

theorem joinTo_snoc (p : List Stp × Bool) (l : List Stp) (s : Stp) : joinTo p (l ++ [s]) = step (joinTo p l) s := by simp [joinTo]

theorem cellsV_set : ∀ (l : List Stp) (i : Nat) (h : i < l.length) (m : Int), (cellsV l).set (i * 2 + 1) (.int .u64 m) = cellsV (l.set i (l[i].1, m))
  | [], i, h, _ => absurd h (Nat.not_lt_zero i)
  | a :: r, 0, _, m => by simp [cellsV_cons]
  | a :: r, i + 1, h, m => by
    have := cellsV_set r i (by simpa using h) m
    rw [cellsV_cons, show (i + 1) * 2 + 1 = (i * 2 + 1) + 2 by omega]
    simp only [List.set_cons_succ, List.getElem_cons_succ, cellsV_cons, this]

theorem ownsSt_below {w w' : World} {b : Nat} {e : TypeId} {size : Nat} {v : Value} {n : Nat} {xs : List Value} (h : w.ownsRow b e size v n xs) (hb : Below w.heap.size w w') : w'.ownsRow b e size v n xs := by
  obtain ⟨h1, h2⟩ := h
  refine ⟨h1, ?_⟩
  rcases h2 with h2 | ⟨g, cap, cur, hv, hg, hh, r⟩
  · exact .inl h2
  · have hlt : g < w.heap.size := by
      rcases Nat.lt_or_ge g w.heap.size with h | h
      · exact h
      · simp [Array.getElem?_eq_none h] at hh
    exact .inr ⟨g, cap, cur, hv, hg, (hb.block g hlt).trans hh, r⟩

set_option maxHeartbeats 3000000 in
theorem joined_any (v : Value) (L : List (List Stp)) (w : World) (hr : RdsL w v L) (hc : ∀ l ∈ L, ∀ s ∈ l, dev s.1 = true) (hlen : ∀ l ∈ L, l.length ≤ 4096) (p : List Stp × Bool) (hp : joinTo ([], true) L.flatten = p) :
    Calls Tryd.prog 30 #[v] w fun e w' => ∃ v', e = .returned (.tuple #[v', .bool p.2]) ∧ w'.ownsRow w.heap.size 43 2 v' p.1.length (cellsV p.1) ∧ Below w.heap.size w w' := by
  obtain ⟨ad, len, cap, rfl, hl, hlm, hel⟩ := hr
  have HL := Lib.hid hl
  have HEL := Lib.hid hel
  have HCd := Lib.hid hc
  have HLn := Lib.hid hlen
  have HP := Lib.hid hp
  unfold maxLen at hlm
  clear hl hel hc hlen hp
  generalize hR : (fun (e : Ending) (w' : World) => ∃ v', e = .returned (.tuple #[v', .bool p.2]) ∧ w'.ownsRow w.heap.size 43 2 v' p.1.length (cellsV p.1) ∧ Below w.heap.size w w') = R
  have HR := Lib.hid hR
  clear hR
  go_enter Tryd.func30, Tryd.ntmps30
  go_wp2_with fail
  go_loopw [4, 5, 14] (fun o a k wr => ∃ n : Nat, ∃ q : List Stp × Bool, ∃ oa om oc, n ≤ len ∧ k = .int .i64 n ∧ o = .slice oa om oc ∧ a = .bool q.2 ∧ Hid (joinTo ([], true) (L.take n).flatten = q) ∧ om = q.1.length ∧ Hid (wr.ownsRow w.heap.size 43 2 (.slice oa om oc) om (cellsV q.1)) ∧ Hid (Below w.heap.size w wr)) (fun _ _ k _ => len - (intOf k).toNat)
  case atStart => exact ⟨0, ([], true), none, 0, 0, Nat.zero_le _, rfl, rfl, rfl, rfl, rfl, World.ownsRow_nil _ _ _ _, Below.refl _ _⟩
  case round =>
    obtain ⟨wo, rfl⟩ : ∃ wo : World, wo = wr := ⟨wr, rfl⟩
    obtain ⟨n, q, oa, om, oc, hn, rfl, rfl, rfl, HQ, hom, HO, HB⟩ := hrel
    have HOM0 := Lib.hid hom
    clear hom
    by_cases hlt : n < len
    · have hn' : n < L.length := by rw [← HL.out]; exact hlt
      obtain ⟨b, off, x, rfl, hb, hcell, hx⟩ := HEL.out n hn'
      have hc1 : wo.cell? ⟨b, off + n, none⟩ = some x := (HB.out.cell (p := ⟨b, off + n, none⟩) hb).trans hcell
      have hwb := HB.out.size
      obtain ⟨xa, xn, xc, rfl, hxl, hxm, hxe⟩ := hx
      have HXL := Lib.hid hxl
      have HXE := Lib.hid hxe
      have HDl : Hid (∀ s ∈ L[n], dev s.1 = true) := HCd.out _ (List.getElem_mem hn')
      have hxn : xn ≤ 4096 := by rw [HXL.out]; exact HLn.out _ (List.getElem_mem hn')
      have HQ0 : Hid (OkV q.1) := by
        show OkV q.1
        rw [← HQ.out]
        refine OkV.joinTo ⟨List.Pairwise.nil, fun s hs => by simp at hs⟩ fun s hs => ?_
        obtain ⟨l, hl, hs⟩ := List.mem_flatten.1 hs
        exact HCd.out l (List.mem_of_mem_take hl) s hs
      have HNx : Hid ((L.take (n + 1)).flatten = (L.take n).flatten ++ L[n]) := by show _ = _; rw [List.take_succ_eq_append_getElem hn', List.flatten_append, List.flatten_cons, List.flatten_nil, List.append_nil]
      clear hcell hxl hxm hxe
      generalize L[n] = l at HXL HXE HDl HNx
      go_wp2_with fail
      go_loopw [4, 5, 20] (fun o a k wi => ∃ i : Nat, ∃ q' : List Stp × Bool, ∃ oa om oc, i ≤ xn ∧ k = .int .i64 i ∧ o = .slice oa om oc ∧ a = .bool q'.2 ∧ Hid (joinTo q (l.take i) = q') ∧ om = q'.1.length ∧ Hid (wi.ownsRow w.heap.size 43 2 (.slice oa om oc) om (cellsV q'.1)) ∧ Hid (Below w.heap.size w wi)) (fun _ _ k _ => xn - (intOf k).toNat)
      case atStart => exact ⟨0, q, oa, om, oc, Nat.zero_le _, rfl, rfl, rfl, rfl, HOM0.out, HO, HB⟩
      case round =>
        obtain ⟨wi, rfl⟩ : ∃ wi : World, wi = wr := ⟨wr, rfl⟩
        clear HO HB hc1 hwb HOM0
        obtain ⟨i, q', oa, om, oc, hi, rfl, rfl, rfl, HQ', hom, HO, HB⟩ := hrel
        by_cases hlt2 : i < xn
        · have hi' : i < l.length := by rw [← HXL.out]; exact hlt2
          obtain ⟨b2, off2, rfl, hb2, hd1, hd2⟩ := HXE.out i hi'
          have hc1 : wi.cell? ⟨b2, off2 + i * 2, none⟩ = some (.int .i64 l[i].1) := (HB.out.cell (p := ⟨b2, off2 + i * 2, none⟩) hb2).trans hd1
          have hc2 : wi.cell? ⟨b2, off2 + i * 2 + 1, none⟩ = some (.int .u64 l[i].2) := (HB.out.cell (p := ⟨b2, off2 + i * 2 + 1, none⟩) hb2).trans hd2
          have hwb := HB.out.size
          have HOk : Hid (OkV q'.1) := by
            show OkV q'.1
            rw [← HQ'.out]
            exact OkV.joinTo HQ0.out fun s hs => HDl.out s (List.mem_of_mem_take hs)
          have HNi : Hid (joinTo q (l.take (i + 1)) = step q' l[i]) := by
            show _ = _
            rw [List.take_succ_eq_append_getElem hi', joinTo_snoc, HQ'.out]
          clear hd1 hd2
          generalize l[i] = s at hc1 hc2 HNi
          obtain ⟨m, hm⟩ : ∃ m, pos q'.1 s.1 = m := ⟨_, rfl⟩
          have hm0 : m ≤ om := by rw [← hm, hom]; exact pos_le _ _
          have hom2 : om ≤ 256 := by rw [hom]; exact HOk.out.len
          have HOM := Lib.hid hom
          clear hom
          have hwa := (Below.refl wi.heap.size wi).alloc (Nat.le_refl _) (.cells #[.int .i64 s.1, .int .u64 s.2] 43)
          have HB0 := Lib.hid (HB.out.alloc hwb (.cells #[.int .i64 s.1, .int .u64 s.2] 43))
          have HO0 := Lib.hid (HO.out.alloc (.cells #[.int .i64 s.1, .int .u64 s.2] 43))
          have hnw : (wi.alloc (.cells #[.int .i64 s.1, .int .u64 s.2] 43)).cell? ⟨wi.heap.size, 0, none⟩ = some (.int .i64 s.1) := by unfold World.cell? World.alloc; simp
          have hnw2 : (wi.alloc (.cells #[.int .i64 s.1, .int .u64 s.2] 43)).cell? ⟨wi.heap.size, 1, none⟩ = some (.int .u64 s.2) := by unfold World.cell? World.alloc; simp
          cases hk : lk q'.1 s.1 with
          | none =>
            have HF := Lib.hid (find_any _ q'.1 s.1 _ (owns_rdsP HOM.out HO0.out) HOk.out.1 (by have := HOk.out.len; omega) m hm false (by rw [hk]; rfl))
            go_wp2_with fail
            refine HF.out.mono ?_
            rintro e w2 ⟨rfl, hb2'⟩
            have hs1 : w2.cell? ⟨wi.heap.size, 0, none⟩ = some (.int .i64 s.1) := (hb2'.cell (p := ⟨wi.heap.size, 0, none⟩) (by simp)).trans hnw
            have hs2 : w2.cell? ⟨wi.heap.size, 1, none⟩ = some (.int .u64 s.2) := (hb2'.cell (p := ⟨wi.heap.size, 1, none⟩) (by simp)).trans hnw2
            have HB2 := Lib.hid (HB0.out.trans (hb2'.mono HB0.out.size))
            have HO2 := Lib.hid (ownsSt_below HO0.out hb2')
            have HI := Lib.hid (Insert_any w.heap.size (.slice oa om oc) om m q'.1 s w2.heap.size (w2.alloc (.cells #[.int .i64 s.1, .int .u64 s.2] 43)) HOM.out hm0 (HO2.out.alloc _) (by have := HB2.out.size; simp; omega) (by omega)
              (fun e => by have := (HO2.out.lt _ e).2; omega) (by unfold World.alloc; simp))
            have HB3 := Lib.hid (HB2.out.alloc HB2.out.size (.cells #[.int .i64 s.1, .int .u64 s.2] 43))
            have HPt : Hid (q'.1.take m ++ s :: q'.1.drop m = put q'.1 s) := by show _ = _; rw [← hm]; exact put_pos q'.1 s HOk.out.1 hk
            have HSt : Hid (step q' s = (put q'.1 s, q'.2)) := by show _ = _; unfold step; rw [hk]
            clear hk hm hb2' hnw hnw2 hc1 hc2 hwa
            go_wp2_with fail
            refine HI.out.mono ?_
            rintro e w4 ⟨v', rfl, hown', hgr⟩
            obtain ⟨ad', cap', rfl, _, _⟩ := ownsSt_form hown'
            rw [HPt.out] at hown'
            have HO4 := Lib.hid hown'
            have HB4 := Lib.hid (HB3.out.grown hgr HB3.out.size (fun j hj => (HO2.out.lt _ hj).1))
            have HL4 : Hid (om + 1 = (put q'.1 s).length) := by
              show _ = _
              have := hown'.1
              rw [cellsV_length] at this
              omega
            clear hown' hgr
            go_wp2_with fail
            go_roundw
            case rel => exact ⟨i + 1, (put q'.1 s, q'.2), ad', om + 1, cap', by omega, by go_num, rfl, rfl, by rw [HNi.out, HSt.out]; rfl, HL4.out, HO4, HB4⟩
            case measure => simp [intOf]; omega
          | some z =>
            have HF := Lib.hid (find_any _ q'.1 s.1 _ (owns_rdsP HOM.out HO0.out) HOk.out.1 (by have := HOk.out.len; omega) m hm true (by rw [hk]; rfl))
            have hmz : m < q'.1.length ∧ ∀ h : m < q'.1.length, q'.1[m] = (s.1, z) := by
              have h1 := lk_pos q'.1 s.1 HOk.out.1
              rw [hk] at h1
              simp only [hm] at h1
              split at h1
              · rename_i h2
                refine ⟨h2, fun _ => ?_⟩
                split at h1
                · rename_i h3
                  injection h1 with h1
                  exact Prod.ext h3 h1.symm
                · cases h1
              · cases h1
            obtain ⟨hm1, hm2⟩ := hmz
            have hmo : m < om := by have := HOM.out; omega
            obtain ⟨g, hoa⟩ : ∃ g, oa = some ⟨g, 0, none⟩ := by
              rcases HO.out.2 with ⟨_, h2⟩ | ⟨g, _, _, h, _⟩
              · omega
              · exact ⟨g, by injection h⟩
            subst hoa
            have HSt : Hid (step q' s = if z = s.2 then q' else (put q'.1 (s.1, max z s.2), false)) := by show _ = _; unfold step; rw [hk]
            have HPt : Hid (∀ x, q'.1.set m (s.1, x) = put q'.1 (s.1, x)) := fun x => by rw [← hm]; exact set_pos q'.1 (s.1, x) z HOk.out.1 hk
            have HCz : Hid ((cellsV q'.1)[m * 2 + 1]? = some (.int .u64 z)) := by
              show _ = _
              rw [(cellsV_get q'.1 m hm1).2, hm2 hm1]
            have HSx : Hid (∀ x, (cellsV q'.1).set (m * 2 + 1) (.int .u64 x) = cellsV (put q'.1 (s.1, x))) := fun x => by
              rw [cellsV_set q'.1 m hm1 x, hm2 hm1]
              exact congrArg cellsV (HPt.out x)
            clear hk hm hm1 hm2
            by_cases hzs : z = s.2
            · go_wp2_with fail
              refine HF.out.mono ?_
              rintro e w2 ⟨rfl, hb2'⟩
              have hs2 : w2.cell? ⟨wi.heap.size, 1, none⟩ = some (.int .u64 s.2) := (hb2'.cell (p := ⟨wi.heap.size, 1, none⟩) (by simp)).trans hnw2
              have HB2 := Lib.hid (HB0.out.trans (hb2'.mono HB0.out.size))
              have HO2 := Lib.hid (ownsSt_below HO0.out hb2')
              have hz2 : w2.cell? ⟨g, m * 2 + 1, none⟩ = some (.int .u64 z) := (HO2.out.cellAt (m * 2 + 1) (by omega)).trans HCz.out
              have hzs' : (z == s.2) = true := by simpa using hzs
              have HZ := Lib.hid hzs
              subst hzs
              clear hb2' hnw hnw2 hc1 hc2 hwa
              go_wp2_with fail
              go_quiet (fail)
              go_wp2_with fail
              go_roundw
              case rel => exact ⟨i + 1, q', some ⟨g, 0, none⟩, om, oc, by omega, by go_num, rfl, rfl, by show joinTo _ _ = _; rw [HNi.out, HSt.out]; simp, HOM.out, HO2.out, below_dN HB2.out nq⟩
              case measure => simp [intOf]; omega
            · obtain ⟨mx, hmx⟩ : ∃ mx, mx = max z s.2 := ⟨_, rfl⟩
              go_wp2_with fail
              refine HF.out.mono ?_
              rintro e w2 ⟨rfl, hb2'⟩
              have hs2 : w2.cell? ⟨wi.heap.size, 1, none⟩ = some (.int .u64 s.2) := (hb2'.cell (p := ⟨wi.heap.size, 1, none⟩) (by simp)).trans hnw2
              have HB2 := Lib.hid (HB0.out.trans (hb2'.mono HB0.out.size))
              have HO2 := Lib.hid (ownsSt_below HO0.out hb2')
              have hz2 : w2.cell? ⟨g, m * 2 + 1, none⟩ = some (.int .u64 z) := (HO2.out.cellAt (m * 2 + 1) (by omega)).trans HCz.out
              have hf2 : w2.frozen? ⟨g, m * 2 + 1, none⟩ = false := HO2.out.frozenAt (m * 2 + 1)
              have hzs' : (z == s.2) = false := by simpa using hzs
              have HZ := Lib.hid hzs
              have HMX := Lib.hid hmx
              clear hb2' hnw hnw2 hc1 hc2 hwa hzs hmx
              go_wp2_with fail
              go_quiet (fail)
              obtain ⟨W3, hW3⟩ : ∃ W3, W3 = w2.drewN nq := ⟨_, rfl⟩
              have hs3 : W3.drew.cell? ⟨wi.heap.size, 1, none⟩ = some (.int .u64 s.2) := by rw [hW3]; exact hs2
              have hz3 : W3.drew.cell? ⟨g, m * 2 + 1, none⟩ = some (.int .u64 z) := by rw [hW3]; exact hz2
              have hf3 : W3.drew.frozen? ⟨g, m * 2 + 1, none⟩ = false := by rw [hW3]; exact hf2
              have HO3 : Hid (W3.drew.ownsRow w.heap.size 43 2 (.slice (some ⟨g, 0, none⟩) om oc) om (cellsV q'.1)) := by show World.ownsRow _ _ _ _ _ _ _; rw [hW3]; exact HO2.out
              have HB3 : Hid (Below w.heap.size w W3.drew) := by show Below _ _ _; rw [hW3]; exact below_dN (below_dN HB2.out nq) 1
              have HO3w : Hid (W3.ownsRow w.heap.size 43 2 (.slice (some ⟨g, 0, none⟩) om oc) om (cellsV q'.1)) := by show World.ownsRow _ _ _ _ _ _ _; rw [hW3]; exact HO2.out
              have HB3w : Hid (Below w.heap.size w W3) := by show Below _ _ _; rw [hW3]; exact below_dN HB2.out nq
              have HO4 : Hid (∀ W', W' = (W3.setCell ⟨g, m * 2 + 1, none⟩ (.int .u64 (max z s.2))).drew → Hid (W'.ownsRow w.heap.size 43 2 (.slice (some ⟨g, 0, none⟩) om oc) om (cellsV (put q'.1 (s.1, max z s.2))))) := by
                intro W' hW'
                show World.ownsRow _ _ _ _ _ _ _
                subst hW'
                rw [← HSx.out]
                exact (HO3w.out.stored (m * 2 + 1) (.int .u64 (max z s.2))).1
              have HB4 : Hid (∀ W', W' = (W3.setCell ⟨g, m * 2 + 1, none⟩ (.int .u64 (max z s.2))).drew → Hid (Below w.heap.size w W')) := by
                intro W' hW'
                subst hW'
                exact below_dN (HB3w.out.setCell (p := ⟨g, m * 2 + 1, none⟩) (HO3w.out.lt g rfl).1 _) 1
              have HFn : Hid (Hid (joinTo q (l.take (i + 1)) = (put q'.1 (s.1, max z s.2), false))) := by
                show joinTo _ _ = _
                rw [HNi.out, HSt.out, if_neg HZ.out]
              have HLp : Hid (om = (put q'.1 (s.1, max z s.2)).length) := by
                show _ = _
                rw [← HPt.out, List.length_set]
                exact HOM.out
              rw [← hW3]
              clear hW3 hs2 hz2 hf2
              go_wp2_with fail
              go_region_law (fail)
              all_goals (go_wp2_with fail)
              all_goals go_roundw
              all_goals (first
                | exact ⟨i + 1, (put q'.1 (s.1, max z s.2), false), some ⟨g, 0, none⟩, om, oc, by omega, by go_num, rfl, rfl, HFn.out, HLp.out, HO4.out _ rfl, HB4.out _ rfl⟩
                | (simp [intOf]; omega))
        · have HOM := Lib.hid hom
          clear hom
          go_wp2_with fail
          go_roundw
          case rel => exact ⟨n + 1, q', oa, om, oc, by omega, by go_num, rfl, rfl, (by show joinTo _ _ = _; rw [HNx.out]; unfold joinTo; rw [List.foldl_append]; have h1 := HQ.out; have h2 := HQ'.out; unfold joinTo at h1 h2; rw [h1, ← h2, List.take_of_length_le (by have := HXL.out; omega)]), HOM.out, HO, HB⟩
          case measure => simp [intOf]; omega
    · go_wp2_with fail
      rw [← HR.out]
      have : q = p := by rw [← HP.out, ← HQ.out, List.take_of_length_le (by have := HL.out; omega)]
      subst this
      exact ⟨_, rfl, by have h1 := HO.out; have h2 := HOM0.out; subst h2; exact h1, HB.out⟩
end Go.Proofs.YtlmpaeefhpahoaaDoor
