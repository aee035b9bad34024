/-
  Walks: the reference's With.
-/
import Derived.BigQuiet
import Derived.Test.YtlmpaeefhpahoaaDoorVecZD
namespace Go.Proofs.YtlmpaeefhpahoaaDoor
open Go.RowKit

theorem run_append_none (w : World) (base : Nat) (ty : TypeId) (v : Value) (n c : Nat) (xs : List Value) (hown : w.ownsRow base 43 2 v n xs) :
    (Builtin.append_ #[24, 24] ty #[v, .slice none 0 c]).run Tryd.prog w = .ok v w := by
  obtain ⟨i0, hi, hz0, hz1, hz2⟩ := info_parts infoSt
  have ht := Tryd.underlying24
  rcases hown.2 with ⟨rfl, rfl⟩ | ⟨g, cap, cur, rfl, _, _, hnc, _⟩
  · simp [Builtin.append_, run_underlying ht, sizeOf, typeInfo, hi, Builtin.lenOf, Builtin.firstCells]
  · simp [Builtin.append_, run_underlying ht, sizeOf, typeInfo, hi, Builtin.lenOf, Builtin.firstCells, hnc, storeCells]

theorem rdsP_none {w : World} {n c : Nat} {l : List Stp} (h : RdsP w (.slice none n c) l) : n = 0 ∧ l = [] := by
  obtain ⟨a', n', c', hv, hn, _, hel⟩ := h
  obtain ⟨rfl, rfl, rfl⟩ : none = a' ∧ n = n' ∧ c = c' := by simpa using hv
  cases l with
  | nil => exact ⟨hn, rfl⟩
  | cons a r =>
    obtain ⟨_, _, h, _⟩ := hel 0 (by simp)
    cases h

set_option maxHeartbeats 1600000 in
set_option maxRecDepth 20000 in
theorem WithR_bad (x y : Value) (v l : List Stp) (w : World) (hx : RdsP w x v) (hy : RdsP w y l) (hc : chk v = false) :
    Calls Tryd.prog 23 #[x, y] w fun e w' => e = .returned (.tuple #[.slice none 0 0, .int .i64 160]) ∧ Below w.heap.size w w' := by
  have HBe := Lib.hid ((Below.refl w.heap.size w).alloc (Nat.le_refl _) (.cells #[x] 24))
  have HC := Lib.hid (CheckR_any _ _ _ (rdsL_one 24 hx) 160 (by simp [hc, codeOf]))
  obtain ⟨ad, len, cap, rfl, hl⟩ := hx
  obtain ⟨ad', len', cap', rfl, hl'⟩ := hy
  clear hl hl' hc
  go_enter Tryd.func23, Tryd.ntmps23
  go_wp2_with fail
  refine HC.out.mono ?_
  rintro e w1 ⟨rfl, k, rfl⟩
  go_wp2_with fail
  first | go_ret2 | skip
  exact ⟨rfl, below_dN HBe.out k⟩

set_option maxHeartbeats 3000000 in
set_option maxRecDepth 20000 in
theorem WithR_go (x y : Value) (v l : List Stp) (w : World) (hx : RdsP w x v) (hy : RdsP w y l) (hc : chk v = true) (m : Nat) (hm : m ≤ l.length) (h1 : ∀ i, i < m → ∀ (h : i < l.length), dev l[i].1 = true) (h2 : ∀ h : m < l.length, dev l[m].1 = false) :
    Calls Tryd.prog 23 #[x, y] w fun e w' => ∃ oa om oc, e = .returned (.tuple #[.slice oa om oc, .int .i64 (if m = l.length then 0 else 5)]) ∧ (m = l.length → RdsP w' (.slice oa om oc) (l.foldl put v)) ∧ (m ≠ l.length → Value.slice oa om oc = .slice none 0 0) ∧ Below w.heap.size w w' := by
  have HBe := Lib.hid ((Below.refl w.heap.size w).alloc (Nat.le_refl _) (.cells #[x] 24))
  have HC := Lib.hid (CheckR_any _ _ _ (rdsL_one 24 hx) 0 (by simp [hc, codeOf]))
  have HX := Lib.hid hx
  have HV0 : Hid (OkV v) := okV_chk hc
  obtain ⟨ad, len, cap, rfl, hl⟩ := hx
  obtain ⟨ad', len', cap', rfl, hl', hlm, hel⟩ := hy
  have HL := Lib.hid hl'
  have HEL := Lib.hid hel
  have H1 := Lib.hid h1
  have H2 := Lib.hid h2
  have HD := Lib.hid Device_any
  have hml : m ≤ len' := by omega
  unfold maxLen at hlm
  clear hl hl' hel hc h1 h2
  generalize hR : (fun (e : Ending) (w' : World) => ∃ oa om oc, e = .returned (.tuple #[.slice oa om oc, .int .i64 (if m = l.length then 0 else 5)]) ∧ (m = l.length → RdsP w' (.slice oa om oc) (l.foldl put v)) ∧ (m ≠ l.length → Value.slice oa om oc = .slice none 0 0) ∧ Below w.heap.size w w') = R
  have HR := Lib.hid hR
  clear hR
  go_enter Tryd.func23, Tryd.ntmps23
  go_wp2_with fail
  refine HC.out.mono ?_
  rintro e w1 ⟨rfl, k, rfl⟩
  have HB1 := Lib.hid (below_dN HBe.out k)
  obtain ⟨w1, hw1⟩ : ∃ w1, w1 = (w.alloc (.cells #[.slice ad len cap] 24)).drewN k := ⟨_, rfl⟩
  rw [← hw1] at HB1 ⊢
  clear hw1
  have HX1 := Lib.hid (HX.out.below HB1.out)
  go_wp2_with fail
  go_loop [7] (fun k => ∃ n : Nat, n ≤ m ∧ k = .int .i64 n) (fun k => len' - (intOf k).toNat)
  case atStart => exact ⟨0, Nat.zero_le _, rfl⟩
  case round =>
    obtain ⟨n, hn, rfl⟩ := hrel
    by_cases hlt : n < len'
    · have hn' : n < l.length := by rw [← HL.out]; exact hlt
      obtain ⟨b, off, rfl, hb, hcell, hcell'⟩ := HEL.out n hn'
      have hc1 : w1.cell? ⟨b, off + n * 2, none⟩ = some (.int .i64 l[n].1) := (HB1.out.cell (p := ⟨b, off + n * 2, none⟩) hb).trans hcell
      have J1 : Hid (n < m → dev l[n].1 = true) := fun h => H1.out n h hn'
      have J2 : Hid (n = m → dev l[n].1 = false) := fun h => by subst h; exact H2.out hn'
      clear hcell hcell'
      generalize l[n] = s at hc1 J1 J2
      by_cases hnm : n < m
      · have hds := J1.out hnm
        go_wp2_with fail
        refine (HD.out _ _).mono ?_
        rintro e w2 ⟨rfl, rfl⟩
        go_wp2_with fail
        go_round
        case rel => exact ⟨n + 1, by omega, by go_num⟩
        case measure => simp [intOf]; omega
      · have hds : dev s.1 = false := J2.out (by omega)
        have hne : Hid (¬ m = l.length) := by show ¬ _; omega
        go_wp2_with fail
        refine (HD.out _ _).mono ?_
        rintro e w2 ⟨rfl, rfl⟩
        go_wp2_with fail
        first | go_ret2 | skip
        rw [← HR.out]
        exact ⟨none, 0, 0, (by rw [if_neg hne.out]; rfl), fun h => absurd h hne.out, (fun _ => rfl), HB1.out⟩
    · have hme : Hid (m = l.length) := by have := HL.out; show _ = _; omega
      have HDv : Hid (∀ s ∈ l, dev s.1 = true) := by
        intro s hs
        obtain ⟨i, hi, rfl⟩ := List.getElem_of_mem hs
        exact H1.out i (by have := hme.out; omega) hi
      go_wp2_with fail
      clear hn hlt
      go_loopw [0, 8] (fun o k wr => ∃ n : Nat, ∃ q : List Stp, ∃ oa om oc, n ≤ len' ∧ k = .int .i64 n ∧ o = .slice oa om oc ∧ Hid ((l.take n).foldl put v = q) ∧ Hid (OkV q) ∧ Hid (RdsP wr (.slice oa om oc) q) ∧ Hid (Below w.heap.size w wr)) (fun _ k _ => len' - (intOf k).toNat)
      case atStart => exact ⟨0, v, ad, len, cap, Nat.zero_le _, rfl, rfl, rfl, HV0, HX1, HB1⟩
      case round =>
        obtain ⟨wo, rfl⟩ : ∃ wo : World, wo = wr := ⟨wr, rfl⟩
        obtain ⟨n, q, oa, om, oc, hn, rfl, rfl, HQ, HOk, HO, HB⟩ := hrel
        by_cases hlt : n < len'
        · have hn' : n < l.length := by rw [← HL.out]; exact hlt
          obtain ⟨b, off, rfl, hb, hcell, hcell'⟩ := HEL.out n hn'
          have hc1 : wo.cell? ⟨b, off + n * 2, none⟩ = some (.int .i64 l[n].1) := (HB.out.cell (p := ⟨b, off + n * 2, none⟩) hb).trans hcell
          have hc2 : wo.cell? ⟨b, off + n * 2 + 1, none⟩ = some (.int .u64 l[n].2) := (HB.out.cell (p := ⟨b, off + n * 2 + 1, none⟩) hb).trans hcell'
          have HNx : Hid ((l.take (n + 1)).foldl put v = put q l[n]) := by show _ = _; rw [List.take_succ_eq_append_getElem hn', foldl_snoc, HQ.out]
          have HOk1 : Hid (OkV (put q l[n])) := OkV.put HOk.out (HDv.out _ (List.getElem_mem hn'))
          have HPu := Lib.hid (fun W h => putR_srt (.slice oa om oc) q l[n] W h (by have := HOk.out.len; omega) HOk.out.1)
          clear hcell hcell'
          generalize l[n] = s at hc1 hc2 HNx HOk1 HPu
          go_wp2_with fail
          refine (HPu.out _ HO.out).mono ?_
          rintro e w4 ⟨oa4, om4, oc4, rfl, hr4, hb4⟩
          have HO4 := Lib.hid hr4
          have HB4 := Lib.hid (HB.out.trans (hb4.mono HB.out.size))
          clear hr4 hb4
          go_wp2_with fail
          go_roundw
          case rel => exact ⟨n + 1, put q s, oa4, om4, oc4, by omega, by go_num, rfl, HNx, HOk1, HO4, HB4⟩
          case measure => simp [intOf]; omega
        · have hq : Hid (l.foldl put v = q) := by show _ = _; rw [← HQ.out, List.take_of_length_le (by have := HL.out; omega)]
          have HBa := Lib.hid (HB.out.alloc HB.out.size (.cells #[] 43))
          have HRa := Lib.hid (HO.out.below ((Below.refl wo.heap.size wo).alloc (Nat.le_refl _) (.cells #[] 43)))
          have HOa : Hid ((wo.alloc (.cells #[] 43)).ownsRow wo.heap.size 43 2 (.slice (some ⟨wo.heap.size, 0, none⟩) 0 0) 0 (cellsV [])) := by
            refine ⟨rfl, .inr ⟨wo.heap.size, 0, #[], rfl, Nat.le_refl _, by unfold World.alloc; simp, Nat.le_refl _, Nat.zero_le _, rfl, rfl⟩⟩
          have hom : om ≤ 256 := by
            obtain ⟨a', n', c', hv, h2, _⟩ := HO.out
            have h3 : om = n' := by injection hv
            have := HOk.out.len
            omega
          cases oa with
          | none =>
            obtain ⟨rfl, hq0⟩ := rdsP_none HO.out
            have HQ0 := Lib.hid hq0
            clear hq0
            have HRn := Lib.hid (fun ty => run_append_none _ _ ty _ 0 oc _ HOa.out)
            go_wp2_with (at_builtin; go_loud (refine Lib.wpList_append_run _ rfl (.tmp 40) (.tmp 41) 24 24 rfl _ _ rfl rfl _ _ (HRn.out _) ?_))
            first | go_ret2 | skip
            rw [← HR.out]
            exact ⟨_, 0, 0, (by rw [if_pos hme.out]; rfl), (fun _ => by rw [hq.out, HQ0.out]; exact owns_rdsP rfl HOa.out), fun h => absurd hme.out h, HBa.out⟩
          | some oa =>
            go_wp2_with (at_builtin; go_loud (refine wp_app_all rfl (.tmp 40) (.tmp 41) rfl wo.heap.size _ 0 [] q oa om oc rfl rfl HRa.out HOa.out (by simp) (by omega) ?_); intro v' w1 hown hgr; obtain ⟨oa5, oc5, rfl, _, _⟩ := ownsSt_form hown; have HO1 := Lib.hid hown; have HG1 := Lib.hid hgr; clear hown hgr)
            first | go_ret2 | skip
            rw [← HR.out]
            have h1 := HO1.out
            rw [Nat.zero_add, List.nil_append] at h1
            have h2 : om = q.length := by
              obtain ⟨a', n', c', hv, h2, _⟩ := HO.out
              have h3 : om = n' := by injection hv
              omega
            refine ⟨_, _, _, (by rw [if_pos hme.out]; rfl), (fun _ => by rw [hq.out]; exact owns_rdsP (by omega) h1), fun h => absurd hme.out h, HBa.out.grown HG1.out HBa.out.size (fun j hj => by have := (HOa.out.lt _ hj).1; have := HB.out.size; omega)⟩

/-- The reference's With, whatever comes in. -/
theorem WithR_any (x y : Value) (v l : List Stp) (w : World) (hx : RdsP w x v) (hy : RdsP w y l) (p : List Stp) (q : Int) (hp : withOf v l = (p, q)) :
    Calls Tryd.prog 23 #[x, y] w fun e w' => ∃ oa om oc, e = .returned (.tuple #[.slice oa om oc, .int .i64 q]) ∧ RdsP w' (.slice oa om oc) p ∧ Below w.heap.size w w' := by
  cases hc : chk v with
  | false =>
    refine (WithR_bad x y v l w hx hy hc).mono ?_
    rintro e w' ⟨rfl, hb⟩
    have : (p, q) = ([], 160) := by rw [← hp]; unfold withOf; rw [hc]; rfl
    obtain ⟨rfl, rfl⟩ := Prod.mk.inj this
    exact ⟨_, _, _, rfl, rdsP_nil _, hb⟩
  | true =>
    obtain ⟨m, h0, h1, h2, h3⟩ := first_badG (fun s : Stp => dev s.1) l
    refine (WithR_go x y v l w hx hy hc m h0 h1 h2).mono ?_
    rintro e w' ⟨oa, om, oc, rfl, h4, h5, hb⟩
    by_cases hm : m = l.length
    · have : (p, q) = (l.foldl put v, 0) := by rw [← hp]; unfold withOf; rw [hc, h3, decide_eq_true hm]; rfl
      obtain ⟨rfl, rfl⟩ := Prod.mk.inj this
      exact ⟨_, _, _, by rw [if_pos hm], h4 hm, hb⟩
    · have : (p, q) = ([], 5) := by rw [← hp]; unfold withOf; rw [hc, h3, decide_eq_false hm]; rfl
      obtain ⟨rfl, rfl⟩ := Prod.mk.inj this
      have h6 := h5 hm
      obtain ⟨rfl, rfl, rfl⟩ : oa = none ∧ om = 0 ∧ oc = 0 := by simpa using h6
      exact ⟨_, _, _, by rw [if_neg hm], rdsP_nil _, hb⟩
end Go.Proofs.YtlmpaeefhpahoaaDoor
