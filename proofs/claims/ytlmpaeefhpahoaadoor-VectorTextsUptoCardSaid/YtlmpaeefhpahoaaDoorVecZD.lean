/-
  Walks: With.
-/
import Derived.BigQuiet
import Derived.Test.YtlmpaeefhpahoaaDoorVecZC
namespace Go.Proofs.YtlmpaeefhpahoaaDoor
open Go.RowKit

theorem first_badG {α : Type} (p : α → Bool) : ∀ (l : List α), ∃ m, m ≤ l.length ∧ (∀ i, i < m → ∀ (h : i < l.length), p l[i] = true) ∧ (∀ h : m < l.length, p l[m] = false) ∧ l.all p = decide (m = l.length)
  | [] => ⟨0, Nat.le_refl _, fun i hi => absurd hi (Nat.not_lt_zero i), fun h => absurd h (Nat.lt_irrefl _), rfl⟩
  | a :: r => by
    cases ha : p a with
    | false => exact ⟨0, Nat.zero_le _, fun i hi => absurd hi (Nat.not_lt_zero i), fun _ => ha, by simp [ha]⟩
    | true =>
      obtain ⟨m, h0, h1, h2, h3⟩ := first_badG p r
      refine ⟨m + 1, by simpa using h0, fun i hi h => ?_, fun h => ?_, ?_⟩
      · cases i with
        | zero => exact ha
        | succ i => exact h1 i (by omega) (by simpa using h)
      · exact h2 (by simpa using h)
      · simp [ha, h3]

/-- What With answers. -/
def withOf (v l : List Stp) : List Stp × Int := if chk v then (if l.all (fun s => dev s.1) then (l.foldl put v, 0) else ([], 5)) else ([], 160)

theorem OkV.put {l : List Stp} {s : Stp} (h : OkV l) (hs : dev s.1 = true) : OkV (Proofs.YtlmpaeefhpahoaaDoor.put l s) :=
  ⟨srt_put s h.1, fun t ht => by rcases mem_put ht with rfl | ht; exact hs; exact h.2 t ht⟩

theorem OkV.puts {v l : List Stp} (h : OkV v) (hs : ∀ s ∈ l, dev s.1 = true) : OkV (l.foldl Proofs.YtlmpaeefhpahoaaDoor.put v) := by
  induction l generalizing v with
  | nil => exact h
  | cons a r ih => exact ih (h.put (hs a (by simp))) (fun s hs' => hs s (by simp [hs']))

theorem okV_chk {v : List Stp} (h : chk v = true) : OkV v := by
  refine ⟨chk_srt h, ?_⟩
  unfold chk at h
  rw [Bool.and_eq_true] at h
  exact fun s hs => List.all_eq_true.1 h.2 s hs

theorem foldl_snoc (v l : List Stp) (s : Stp) : (l ++ [s]).foldl put v = put (l.foldl put v) s := by simp

set_option maxHeartbeats 1600000 in
set_option maxRecDepth 20000 in
theorem With_bad (x y : Value) (v l : List Stp) (w : World) (hx : RdsP w x v) (hy : RdsP w y l) (hc : chk v = false) :
    Calls Tryd.prog 22 #[x, y] w fun e w' => e = .returned (.tuple #[.slice none 0 0, .int .i64 160]) ∧ Below w.heap.size w w' := by
  have HBe := Lib.hid ((Below.refl w.heap.size w).alloc (Nat.le_refl _) (.cells #[x] 24))
  have HC := Lib.hid (Check_any _ _ _ (rdsL_one 24 hx) 160 (by simp [hc, codeOf]))
  obtain ⟨ad, len, cap, rfl, hl⟩ := hx
  obtain ⟨ad', len', cap', rfl, hl'⟩ := hy
  clear hl hl' hc
  go_enter Tryd.func22, Tryd.ntmps22
  go_wp2_with fail
  refine HC.out.mono ?_
  rintro e w1 ⟨rfl, hb1⟩
  have HB1 := Lib.hid (HBe.out.trans (hb1.mono (by simp)))
  clear hb1
  go_wp2_with fail
  first | go_ret2 | skip
  exact ⟨rfl, HB1.out⟩

theorem cellsV_set2 : ∀ (l : List Stp) (i : Nat) (s : Stp), ((cellsV l).set (i * 2) (.int .i64 s.1)).set (i * 2 + 1) (.int .u64 s.2) = cellsV (l.set i s)
  | [], i, s => by simp [cellsV_nil]
  | a :: r, 0, s => by simp [cellsV_cons]
  | a :: r, i + 1, s => by
    have := cellsV_set2 r i s
    rw [cellsV_cons, show (i + 1) * 2 = i * 2 + 2 by omega, show i * 2 + 2 + 1 = (i * 2 + 1) + 2 by omega]
    simp only [List.set_cons_succ, cellsV_cons, this]

set_option maxHeartbeats 3000000 in
set_option maxRecDepth 20000 in
theorem With_go (x y : Value) (v l : List Stp) (w : World) (hx : RdsP w x v) (hy : RdsP w y l) (hc : chk v = true) (m : Nat) (hm : m ≤ l.length) (h1 : ∀ i, i < m → ∀ (h : i < l.length), dev l[i].1 = true) (h2 : ∀ h : m < l.length, dev l[m].1 = false) :
    Calls Tryd.prog 22 #[x, y] w fun e w' => ∃ oa om oc, e = .returned (.tuple #[.slice oa om oc, .int .i64 (if m = l.length then 0 else 5)]) ∧ (m = l.length → w'.ownsRow w.heap.size 43 2 (.slice oa om oc) (l.foldl put v).length (cellsV (l.foldl put v))) ∧ (m ≠ l.length → Value.slice oa om oc = .slice none 0 0) ∧ Below w.heap.size w w' := by
  have HBe := Lib.hid ((Below.refl w.heap.size w).alloc (Nat.le_refl _) (.cells #[x] 24))
  have HC := Lib.hid (Check_any _ _ _ (rdsL_one 24 hx) 0 (by simp [hc, codeOf]))
  have HCl := Lib.hid (fun W h => Clone_any x v W h (by have := srt_len hc; omega))
  have HX := Lib.hid hx
  have HV0 : Hid (OkV v) := okV_chk hc
  obtain ⟨ad, len, cap, rfl, hl⟩ := hx
  obtain ⟨ad', len', cap', rfl, hl', hlm, hel⟩ := hy
  have HL := Lib.hid hl'
  have HEL := Lib.hid hel
  have H1 := Lib.hid h1
  have H2 := Lib.hid h2
  have hml : m ≤ len' := by omega
  unfold maxLen at hlm
  clear hl hl' hel hc h1 h2
  generalize hR : (fun (e : Ending) (w' : World) => ∃ oa om oc, e = .returned (.tuple #[.slice oa om oc, .int .i64 (if m = l.length then 0 else 5)]) ∧ (m = l.length → w'.ownsRow w.heap.size 43 2 (.slice oa om oc) (l.foldl put v).length (cellsV (l.foldl put v))) ∧ (m ≠ l.length → Value.slice oa om oc = .slice none 0 0) ∧ Below w.heap.size w w') = R
  have HR := Lib.hid hR
  clear hR
  go_enter Tryd.func22, Tryd.ntmps22
  go_wp2_with fail
  refine HC.out.mono ?_
  rintro e w1 ⟨rfl, hb1⟩
  have HB1 := Lib.hid (HBe.out.trans (hb1.mono (by simp)))
  have HX1 := Lib.hid (HX.out.below HB1.out)
  clear hb1
  go_wp2_with fail
  refine (HCl.out _ HX1.out).mono ?_
  rintro e w2 ⟨v2, rfl, hown2, hb2⟩
  obtain ⟨oa2, oc2, rfl, _, _⟩ := ownsSt_form hown2
  have HO2 : Hid (w2.ownsRow w.heap.size 43 2 (.slice oa2 v.length oc2) v.length (cellsV v)) := ownsRow_leV hown2 HB1.out.size
  have HB2 := Lib.hid (HB1.out.trans (hb2.mono HB1.out.size))
  clear hown2 hb2
  go_wp2_with fail
  go_loopw [7, 22] (fun o k wr => ∃ n : Nat, ∃ q : List Stp, ∃ oa om oc, n ≤ m ∧ k = .int .i64 n ∧ o = .slice oa om oc ∧ Hid ((l.take n).foldl put v = q) ∧ Hid (om = q.length) ∧ Hid (OkV q) ∧ Hid (wr.ownsRow w.heap.size 43 2 (.slice oa om oc) om (cellsV q)) ∧ Hid (Below w.heap.size w wr)) (fun _ k _ => len' - (intOf k).toNat)
  case atStart => exact ⟨0, v, oa2, v.length, oc2, Nat.zero_le _, rfl, rfl, rfl, rfl, HV0, HO2, HB2⟩
  case round =>
    obtain ⟨wo, rfl⟩ : ∃ wo : World, wo = wr := ⟨wr, rfl⟩
    obtain ⟨n, q, oa, om, oc, hn, rfl, rfl, HQ, HOM, HOk, HO, HB⟩ := hrel
    by_cases hlt : n < len'
    · have hn' : n < l.length := by rw [← HL.out]; exact hlt
      obtain ⟨b, off, rfl, hb, hcell, hcell'⟩ := HEL.out n hn'
      have hwb := HB.out.size
      have hc1 : wo.cell? ⟨b, off + n * 2, none⟩ = some (.int .i64 l[n].1) := (HB.out.cell (p := ⟨b, off + n * 2, none⟩) hb).trans hcell
      have hc2 : wo.cell? ⟨b, off + n * 2 + 1, none⟩ = some (.int .u64 l[n].2) := (HB.out.cell (p := ⟨b, off + n * 2 + 1, none⟩) hb).trans hcell'
      have J1 : Hid (n < m → dev l[n].1 = true) := fun h => H1.out n h hn'
      have J2 : Hid (n = m → dev l[n].1 = false) := fun h => by subst h; exact H2.out hn'
      have HNx : Hid ((l.take (n + 1)).foldl put v = put q l[n]) := by show _ = _; rw [List.take_succ_eq_append_getElem hn', foldl_snoc, HQ.out]
      clear hcell hcell'
      generalize l[n] = s at hc1 hc2 J1 J2 HNx
      have HD := Lib.hid (fun W => isDevice_any s.1 W)
      have HB0 := Lib.hid (HB.out.alloc hwb (.cells #[.int .i64 s.1, .int .u64 s.2] 43))
      have HO0 := Lib.hid (HO.out.alloc (.cells #[.int .i64 s.1, .int .u64 s.2] 43))
      have hnw : (wo.alloc (.cells #[.int .i64 s.1, .int .u64 s.2] 43)).cell? ⟨wo.heap.size, 0, none⟩ = some (.int .i64 s.1) := by unfold World.cell? World.alloc; simp
      have hnw2 : (wo.alloc (.cells #[.int .i64 s.1, .int .u64 s.2] 43)).cell? ⟨wo.heap.size, 1, none⟩ = some (.int .u64 s.2) := by unfold World.cell? World.alloc; simp
      by_cases hnm : n < m
      · have hds := J1.out hnm
        obtain ⟨p, hp⟩ : ∃ p, pos q s.1 = p := ⟨_, rfl⟩
        have hp0 : p ≤ om := by rw [← hp, HOM.out]; exact pos_le _ _
        have hom2 : om ≤ 256 := by rw [HOM.out]; exact HOk.out.len
        have HOk1 : Hid (OkV (put q s)) := OkV.put HOk.out hds
        cases hk : lk q s.1 with
        | none =>
          have HF := Lib.hid (find_any _ q s.1 _ (owns_rdsP HOM.out HO0.out) HOk.out.1 (by have := HOk.out.len; omega) p hp false (by rw [hk]; rfl))
          go_wp2_with fail
          refine (HD.out _).mono ?_
          rintro e w3 ⟨rfl, rfl⟩
          go_wp2_with fail
          refine HF.out.mono ?_
          rintro e w4 ⟨rfl, hb4⟩
          have hs1 : w4.cell? ⟨wo.heap.size, 0, none⟩ = some (.int .i64 s.1) := (hb4.cell (p := ⟨wo.heap.size, 0, none⟩) (by simp)).trans hnw
          have hs2 : w4.cell? ⟨wo.heap.size, 1, none⟩ = some (.int .u64 s.2) := (hb4.cell (p := ⟨wo.heap.size, 1, none⟩) (by simp)).trans hnw2
          have HB4 := Lib.hid (HB0.out.trans (hb4.mono HB0.out.size))
          have HO4 := Lib.hid (ownsSt_below HO0.out hb4)
          have HI := Lib.hid (Insert_any w.heap.size (.slice oa om oc) om p q s w4.heap.size (w4.alloc (.cells #[.int .i64 s.1, .int .u64 s.2] 43)) HOM.out hp0 (HO4.out.alloc _) (by have := HB4.out.size; simp; omega) (by omega)
            (fun e => by have := (HO4.out.lt _ e).2; omega) (by unfold World.alloc; simp))
          have HB5 := Lib.hid (HB4.out.alloc HB4.out.size (.cells #[.int .i64 s.1, .int .u64 s.2] 43))
          have HPt : Hid (q.take p ++ s :: q.drop p = put q s) := by show _ = _; rw [← hp]; exact put_pos q s HOk.out.1 hk
          clear hk hp hb4 hnw hnw2 hc1 hc2
          go_wp2_with fail
          refine HI.out.mono ?_
          rintro e w6 ⟨v', rfl, hown', hgr⟩
          obtain ⟨ad6, cap6, rfl, _, _⟩ := ownsSt_form hown'
          rw [HPt.out] at hown'
          have HO6 := Lib.hid hown'
          have HB6 := Lib.hid (HB5.out.grown hgr HB5.out.size (fun j hj => (HO4.out.lt _ hj).1))
          have HL6 : Hid (om + 1 = (put q s).length) := by
            show _ = _
            have := hown'.1
            rw [cellsV_length] at this
            omega
          clear hown' hgr
          go_wp2_with fail
          go_roundw
          case rel => exact ⟨n + 1, put q s, ad6, om + 1, cap6, by omega, by go_num, rfl, HNx, HL6, HOk1, HO6, HB6⟩
          case measure => simp [intOf]; omega
        | some z =>
          have HF := Lib.hid (find_any _ q s.1 _ (owns_rdsP HOM.out HO0.out) HOk.out.1 (by have := HOk.out.len; omega) p hp true (by rw [hk]; rfl))
          have hpl : p < q.length := by
            have h1 := lk_pos q s.1 HOk.out.1
            rw [hk] at h1
            simp only [hp] at h1
            split at h1
            · assumption
            · cases h1
          have hpo : p < om := by have := HOM.out; omega
          obtain ⟨g, hoa⟩ : ∃ g, oa = some ⟨g, 0, none⟩ := by
            rcases HO.out.2 with ⟨_, h2⟩ | ⟨g, _, _, h, _⟩
            · omega
            · exact ⟨g, by injection h⟩
          subst hoa
          have HPt : Hid (q.set p s = put q s) := by show _ = _; rw [← hp]; exact set_pos q s z HOk.out.1 hk
          obtain ⟨e1, e2⟩ := cellsV_get q p hpl
          have HE1 := Lib.hid e1
          have HE2 := Lib.hid e2
          clear e1 e2
          clear hk hp
          go_wp2_with fail
          refine (HD.out _).mono ?_
          rintro e w3 ⟨rfl, rfl⟩
          go_wp2_with fail
          refine HF.out.mono ?_
          rintro e w4 ⟨rfl, hb4⟩
          have hs1 : w4.cell? ⟨wo.heap.size, 0, none⟩ = some (.int .i64 s.1) := (hb4.cell (p := ⟨wo.heap.size, 0, none⟩) (by simp)).trans hnw
          have hs2 : w4.cell? ⟨wo.heap.size, 1, none⟩ = some (.int .u64 s.2) := (hb4.cell (p := ⟨wo.heap.size, 1, none⟩) (by simp)).trans hnw2
          have HB4 := Lib.hid (HB0.out.trans (hb4.mono HB0.out.size))
          have HO4 := Lib.hid (ownsSt_below HO0.out hb4)
          have hf1 : w4.frozen? ⟨g, p * 2, none⟩ = false := HO4.out.frozenAt (p * 2)
          have hf2 : w4.frozen? ⟨g, p * 2 + 1, none⟩ = false := HO4.out.frozenAt (p * 2 + 1)
          have HO5 := Lib.hid (HO4.out.stored (p * 2) (.int .i64 s.1)).1
          have HO6 : Hid (((w4.setCell ⟨g, p * 2, none⟩ (.int .i64 s.1)).setCell ⟨g, p * 2 + 1, none⟩ (.int .u64 s.2)).ownsRow w.heap.size 43 2 (.slice (some ⟨g, 0, none⟩) om oc) om (cellsV (put q s))) := by
            show World.ownsRow _ _ _ _ _ _ _
            rw [← HPt.out, ← cellsV_set2]
            exact (HO5.out.stored (p * 2 + 1) (.int .u64 s.2)).1
          have HB6 := Lib.hid ((HB4.out.setCell (p := ⟨g, p * 2, none⟩) (HO4.out.lt g rfl).1 (.int .i64 s.1)).setCell (p := ⟨g, p * 2 + 1, none⟩) (HO4.out.lt g rfl).1 (.int .u64 s.2))
          have HL6 : Hid (om = (put q s).length) := by show _ = _; rw [← HPt.out, List.length_set]; exact HOM.out
          have hz1 := (HO4.out.cellAt (p * 2) (by omega)).trans HE1.out
          have hz2 := (HO4.out.cellAt (p * 2 + 1) (by omega)).trans HE2.out
          have hz3 : (w4.setCell ⟨g, p * 2, none⟩ (.int .i64 s.1)).cell? ⟨g, p * 2 + 1, none⟩ = some (.int .u64 q[p].2) := (HO5.out.cellAt (p * 2 + 1) (by omega)).trans (by rw [List.getElem?_set_ne (by omega)]; exact HE2.out)
          have hf3 : (w4.setCell ⟨g, p * 2, none⟩ (.int .i64 s.1)).frozen? ⟨g, p * 2 + 1, none⟩ = false := HO5.out.frozenAt (p * 2 + 1)
          generalize q[p].2 = U2 at hz2 hz3
          generalize q[p].1 = U1 at hz1
          clear hb4 hnw hnw2 hc1 hc2
          go_wp2_with fail
          go_roundw
          case rel => exact ⟨n + 1, put q s, some ⟨g, 0, none⟩, om, oc, by omega, by go_num, rfl, HNx, HL6, HOk1, HO6, HB6⟩
          case measure => simp [intOf]; omega
      · have hds : dev s.1 = false := J2.out (by omega)
        have hne : Hid (¬ m = l.length) := by show ¬ _; omega
        go_wp2_with fail
        refine (HD.out _).mono ?_
        rintro e w3 ⟨rfl, rfl⟩
        go_wp2_with fail
        first | go_ret2 | skip
        rw [← HR.out]
        exact ⟨none, 0, 0, (by rw [if_neg hne.out]; rfl), fun h => absurd h hne.out, (fun _ => rfl), HB0.out⟩
    · have hme : Hid (m = l.length) := by have := HL.out; show _ = _; omega
      go_wp2_with fail
      first | go_ret2 | skip
      rw [← HR.out]
      have hq : l.foldl put v = q := by rw [← HQ.out, List.take_of_length_le (by have := HL.out; omega)]
      exact ⟨oa, om, oc, (by rw [if_pos hme.out]; rfl), (fun _ => by rw [hq]; have h1 := HO.out; have h2 := HOM.out; subst h2; exact h1), fun h => absurd hme.out h, HB.out⟩

/-- With, whatever comes in. -/
theorem With_any (x y : Value) (v l : List Stp) (w : World) (hx : RdsP w x v) (hy : RdsP w y l) (p : List Stp) (q : Int) (hp : withOf v l = (p, q)) :
    Calls Tryd.prog 22 #[x, y] w fun e w' => ∃ oa om oc, e = .returned (.tuple #[.slice oa om oc, .int .i64 q]) ∧ RdsP w' (.slice oa om oc) p ∧ (∃ ys, w'.ownsRow w.heap.size 43 2 (.slice oa om oc) om ys) ∧ Below w.heap.size w w' := by
  cases hc : chk v with
  | false =>
    refine (With_bad x y v l w hx hy hc).mono ?_
    rintro e w' ⟨rfl, hb⟩
    have : (p, q) = ([], 160) := by rw [← hp]; unfold withOf; rw [hc]; rfl
    obtain ⟨rfl, rfl⟩ := Prod.mk.inj this
    exact ⟨_, _, _, rfl, rdsP_nil _, ⟨[], World.ownsRow_nil _ _ _ _⟩, hb⟩
  | true =>
    obtain ⟨m, h0, h1, h2, h3⟩ := first_badG (fun s : Stp => dev s.1) l
    refine (With_go x y v l w hx hy hc m h0 h1 h2).mono ?_
    rintro e w' ⟨oa, om, oc, rfl, h4, h5, hb⟩
    by_cases hm : m = l.length
    · have : (p, q) = (l.foldl put v, 0) := by rw [← hp]; unfold withOf; rw [hc, h3, decide_eq_true hm]; rfl
      obtain ⟨rfl, rfl⟩ := Prod.mk.inj this
      have h6 := h4 hm
      have h7 := ownsSt_form h6
      obtain ⟨ad, cap, hv, _, _⟩ := h7
      have h8 : om = (l.foldl put v).length := by injection hv
      exact ⟨_, _, _, by rw [if_pos hm], owns_rdsP rfl h6, ⟨_, by rw [h8] at h6 ⊢; exact h6⟩, hb⟩
    · have : (p, q) = ([], 5) := by rw [← hp]; unfold withOf; rw [hc, h3, decide_eq_false hm]; rfl
      obtain ⟨rfl, rfl⟩ := Prod.mk.inj this
      have h6 := h5 hm
      obtain ⟨rfl, rfl, rfl⟩ : oa = none ∧ om = 0 ∧ oc = 0 := by simpa using h6
      exact ⟨_, _, _, by rw [if_neg hm], rdsP_nil _, ⟨[], World.ownsRow_nil _ _ _ _⟩, hb⟩
end Go.Proofs.YtlmpaeefhpahoaaDoor
