/-
  The law WordsBlanks: its walk.
-/
import Derived.Test.YtfnfmkejkgiclaaDoorWdT
namespace Go.Proofs.YtfnfmkejkgiclaaDoor
open Go.RowKit Go.Shelf
set_option linter.unusedVariables false
set_option linter.unusedSimpArgs false

/-- How many tabs stand before a word. -/
def nbs (zs : List Int) (i : Nat) : Nat := ((zs[i]?).getD 0).toNat % 4
def psB (zs : List Int) (ss : List ByteArray) : List (Nat × List UInt8) := ss.zipIdx.map fun p => (nbs zs p.2, p.1.data.toList)
theorem psB_len (zs : List Int) (ss : List ByteArray) : (psB zs ss).length = ss.length := by simp [psB]
theorem psB_get (zs : List Int) (ss : List ByteArray) (i : Nat) (h : i < ss.length) (h2 : i < (psB zs ss).length) : (psB zs ss)[i] = (nbs zs i, ss[i].data.toList) := by simp [psB]
theorem psB_mem {zs : List Int} {ss : List ByteArray} {p : Nat × List UInt8} (h : p ∈ psB zs ss) : ∃ i, ∃ hi : i < ss.length, p = (nbs zs i, ss[i].data.toList) := by
  obtain ⟨i, hi, rfl⟩ := List.getElem_of_mem h
  rw [psB_len] at hi
  exact ⟨i, hi, psB_get zs ss i hi _⟩
theorem psB_map (zs : List Int) (ss : List ByteArray) : (psB zs ss).map (fun p => Wd.mkB p.2) = ss := by
  refine List.ext_getElem (by rw [List.length_map, psB_len]) fun i h1 h2 => ?_
  rw [List.getElem_map, psB_get zs ss i h2]
  exact Wd.mkB_of _
theorem bl_take (zs : List Int) (ss : List ByteArray) (i : Nat) (h : i < ss.length) : Wd.bl ((psB zs ss).take (i + 1)) = Wd.bl ((psB zs ss).take i) ++ 32 :: (List.replicate (nbs zs i) 9 ++ ss[i].data.toList) := by
  rw [List.take_succ_eq_append_getElem (by rw [psB_len]; exact h), psB_get zs ss i h]
  simp [Wd.bl]
theorem bl_len : ∀ (ps : List (Nat × List UInt8)), (∀ p ∈ ps, p.1 ≤ 3 ∧ p.2.length ≤ 4000) → (Wd.bl ps).length ≤ ps.length * 4004
  | [], _ => by simp [Wd.bl]
  | p :: ps, h => by
    have h1 := h p (by simp)
    have h2 := bl_len ps (fun x hx => h x (List.mem_cons_of_mem _ hx))
    have e : Wd.bl (p :: ps) = 32 :: (List.replicate p.1 9 ++ p.2) ++ Wd.bl ps := by simp [Wd.bl]
    rw [e]
    simp only [List.length_append, List.length_cons, List.length_replicate]
    omega
theorem psB_small (zs : List Int) (ss : List ByteArray) (i : Nat) : (Wd.bl ((psB zs (fewB ss)).take i)).length ≤ 240240 := by
  have h1 := bl_len ((psB zs (fewB ss)).take i) (fun p hp => by
    obtain ⟨j, hj, rfl⟩ := psB_mem (List.mem_of_mem_take hp)
    refine ⟨?_, ?_⟩
    · show nbs zs j ≤ 3
      unfold nbs
      omega
    · show (fewB ss)[j].data.toList.length ≤ 4000
      rw [size_list]
      exact fewB_size ss _ (List.getElem_mem hj))
  have h2 := fewB_len ss
  have h3 : ((psB zs (fewB ss)).take i).length ≤ 60 := by rw [List.length_take, psB_len]; omega
  have h4 := Nat.mul_le_mul_right 4004 h3
  omega

set_option maxHeartbeats 12800000 in
set_option maxRecDepth 20000 in
theorem wordsBlanks_any (v : Value) (ss : List ByteArray) (bv : Value) (zs : List Int) (r : ByteArray) (w : World) (hr : RdsS w v ss) (hb : Rds w bv (zs.map (Value.int .u8))) (hz : ∀ n ∈ zs, (Lit.int .u8 n).wf = true) :
    Calls Tryd.prog 6 #[v, bv, .string r] w fun e w' => e = .returned (.bool true) ∧ Below w.heap.size w w' := by
  have HF := Lib.hid (few_any v ss w hr)
  have hfl := fewB_len ss
  have HS := Lib.hid (fun (v : Value) (W : World) (hr : RdsS W v (fewB ss)) => few_say v ss W hr)
  obtain ⟨bd, bc, rfl, hbm, hbcell⟩ := rds_one hb
  rw [List.length_map] at hbm
  have HBC : Hid (∀ i (h : i < zs.length), ∃ b off, bd = some ⟨b, off, none⟩ ∧ b < w.heap.size ∧ w.cell? ⟨b, off + i, none⟩ = some (.int .u8 zs[i])) := fun i h => by
    obtain ⟨b, off, h1, h2, h3⟩ := hbcell i (by rw [List.length_map]; exact h)
    exact ⟨b, off, h1, h2, by rw [h3, List.getElem_map]⟩
  have HZ := Lib.hid hz
  rw [List.length_map]
  obtain ⟨m, hm⟩ : ∃ m, zs.length = m := ⟨_, rfl⟩
  rw [hm] at hbm ⊢
  have HM := Lib.hid hm
  unfold maxLen at hbm
  clear hb hz hbcell hm
  cases hs : Wd.say ((fewB ss).map fun x => x.data.toList) with
  | none =>
    have h1 : (sayV (fewB ss)).1 = ⟨#[]⟩ := by unfold sayV; rw [hs]
    have h2 : (sayV (fewB ss)).2 = 31 := by unfold sayV; rw [hs]
    rw [h1, h2] at HS
    clear hs h1 h2 hr
    go_enter Tryd.func6, Tryd.ntmps6
    go_wp2_with fail
    refine HF.out.mono ?_
    rintro e w1 ⟨ad, c, rfl, hr1, hb1⟩
    have HR1 := Lib.hid hr1
    have HB1 := Lib.hid hb1
    clear hr1 hb1
    go_wp2_with fail
    refine (HS.out _ _ HR1.out).mono ?_
    rintro e w2 ⟨rfl, hb2⟩
    have HB2 := Lib.hid (HB1.out.trans (hb2.mono HB1.out.size))
    clear hb2
    go_wp2_with fail
    refine (alive_any _).mono ?_
    rintro e w4 ⟨rfl, hb4⟩
    have HB4 := Lib.hid (HB2.out.trans (hb4.mono HB2.out.size))
    clear hb4
    go_wp2_with fail
    go_ret
    exact ⟨rfl, HB4.out⟩
  | some t =>
    obtain ⟨ht, hall⟩ := say_some hs
    have h1 : (sayV (fewB ss)).1 = Wd.mkB t := by unfold sayV; rw [hs]
    have h2 : (sayV (fewB ss)).2 = 0 := by unfold sayV; rw [hs]
    rw [h1, h2] at HS
    obtain ⟨n, hn⟩ : ∃ n, (fewB ss).length = n := ⟨_, rfl⟩
    rw [hn] at hfl
    have HF2 : Hid (Calls Tryd.prog 13 #[v] w (fun e w' => ∃ ad c, e = .returned (.slice ad n c) ∧ RdsS w' (.slice ad n c) (fewB ss) ∧ Below w.heap.size w w')) := by rw [← hn]; exact HF.out
    clear HF h1 h2 hs ht hr
    by_cases hn0 : n = 0 ∨ 4000 < r.size
    · have hcase : n = 0 ∨ ¬ n = 0 ∧ ((n : Int) == 0) = false ∧ (4000 : Int) < (r.size : Int) := by
        by_cases h : n = 0
        · exact .inl h
        · exact .inr ⟨h, by simp; omega, by omega⟩
      clear hn0
      rcases hcase with rfl | ⟨hn0, hnz, hrz⟩
      all_goals
        go_enter Tryd.func6, Tryd.ntmps6
        go_wp2_with fail
        refine HF2.out.mono ?_
        rintro e w1 ⟨ad, c, rfl, hr1, hb1⟩
        have HR1 := Lib.hid hr1
        have HB1 := Lib.hid hb1
        clear hr1 hb1
        go_wp2_with fail
        refine (HS.out _ _ HR1.out).mono ?_
        rintro e w2 ⟨rfl, hb2⟩
        have HB2 := Lib.hid (HB1.out.trans (hb2.mono HB1.out.size))
        clear hb2
        go_wp2_with fail
        refine (alive_any _).mono ?_
        rintro e w4 ⟨rfl, hb4⟩
        have HB4 := Lib.hid (HB2.out.trans (hb4.mono HB2.out.size))
        clear hb4
        go_wp2_with fail
        go_ret
        exact ⟨rfl, HB4.out⟩
    · have hn1 : ¬ n = 0 := fun h => hn0 (.inl h)
      have hrs : r.size ≤ 4000 := by omega
      have hnz : ((n : Int) == 0) = false := by simp; omega
      have hrz : decide ((4000 : Int) < (r.size : Int)) = false := by simp; omega
      have HAll := Lib.hid hall
      have HN := Lib.hid hn
      clear hn0 hall hn
      go_enter Tryd.func6, Tryd.ntmps6
      go_wp2_with fail
      refine HF2.out.mono ?_
      rintro e w1 ⟨ad, c, rfl, hr1, hb1⟩
      have HR1 := Lib.hid hr1
      have HB1 := Lib.hid hb1
      clear hr1 hb1
      go_wp2_with fail
      refine (HS.out _ _ HR1.out).mono ?_
      rintro e w2 ⟨rfl, hb2⟩
      have HB2 := Lib.hid (HB1.out.trans (hb2.mono HB1.out.size))
      obtain ⟨ad', n', cap', e1, _, _, hc⟩ := rdsS_form (HR1.out.below hb2)
      injection e1 with e1 e2 e3
      subst e1
      have HC := Lib.hid hc
      clear hb2 hc e2 e3
      go_wp2_with fail
      go_loopw [9, 10] (fun s i wr => ∃ (k : Nat) (t : ByteArray), k ≤ n ∧ i = .int .i64 k ∧ s = .string t ∧ t.size ≤ 240240 ∧ Hid (t.data.toList = Wd.bl ((psB zs (fewB ss)).take k)) ∧ Hid (Below w2.heap.size w2 wr)) (fun _ i wr => n - (intOf i).toNat)
      case atStart => exact ⟨0, ⟨#[]⟩, Nat.zero_le _, rfl, rfl, by decide, rfl, Below.refl _ _⟩
      case round =>
        obtain ⟨wo, rfl⟩ : ∃ wo : World, wo = wr := ⟨wr, rfl⟩
        obtain ⟨k, t1, hk, rfl, rfl, htm, ht1, hbw⟩ := hrel
        by_cases hlt : k < n
        · have hkz : (k : Int) < (n : Int) := by omega
          have hkf : k < (fewB ss).length := by rw [HN.out]; exact hlt
          obtain ⟨x, hx⟩ : ∃ x, (fewB ss)[k] = x := ⟨_, rfl⟩
          obtain ⟨b, off, rfl, hbl, x0⟩ := HC.out k hkf
          rw [hx] at x0
          have hxm : x.size ≤ 4000 := by rw [← hx]; exact fewB_size ss _ (List.getElem_mem hkf)
          obtain ⟨q, hq⟩ : ∃ q, nbs zs k = q := ⟨_, rfl⟩
          have hq3 : q ≤ 3 := by rw [← hq]; unfold nbs; omega
          have HQ := Lib.hid hq
          have HX := Lib.hid hx
          have hsum : ¬ (9223372036854775807 < t1.size + 1) := by omega
          clear hq hx
          go_wp2_with fail
          go_loopw [9, 11] (fun s i wr => ∃ (j : Nat) (t : ByteArray), j ≤ q ∧ i = .int .i64 j ∧ s = .string t ∧ t.size ≤ 240241 + j ∧ Hid (t.data.toList = t1.data.toList ++ 32 :: List.replicate j 9) ∧ Hid (Below wo.heap.size wo wr)) (fun _ i wr => q - (intOf i).toNat)
          case atStart => exact ⟨0, t1 ++ ⟨#[32]⟩, Nat.zero_le _, rfl, rfl, by rw [ByteArray.size_append]; show t1.size + 1 ≤ _; omega, by show _ = _; rw [Joins.data_append]; rfl, Below.refl _ _⟩
          case round =>
            obtain ⟨j, t2, hj, rfl, rfl, ht2m, ht2, hbj⟩ := hrel
            have HBj : Hid (Below w2.heap.size w2 wr) := hbw.out.trans (hbj.out.mono hbw.out.size)
            have x1 := (HBj.out.cell (p := ⟨b, off + k, none⟩) hbl).trans x0
            have HEnd : Hid (j = q → (t2 ++ x).data.toList = Wd.bl ((psB zs (fewB ss)).take (k + 1))) := fun e => by
              rw [Joins.data_append, ht2.out, ht1.out, bl_take zs (fewB ss) k hkf, HX.out, HQ.out, e]
              simp
            have HEndS : Hid ((t2 ++ x).data.toList = Wd.bl ((psB zs (fewB ss)).take (k + 1)) → (t2 ++ x).size ≤ 240240) := fun e => by
              rw [Lib.size_eq, e]
              exact psB_small zs ss (k + 1)
            have hsum2 : ¬ (9223372036854775807 < t2.size + 1) := by omega
            have hsum3 : ¬ (9223372036854775807 < t2.size + x.size) := by omega
            by_cases hkm : k < m
            · have hkmz : (k : Int) < (m : Int) := by omega
              obtain ⟨bb, bo, rfl, hbbl, z0⟩ := HBC.out k (by rw [HM.out]; exact hkm)
              obtain ⟨z, hzz⟩ : ∃ z, zs[k]'(by rw [HM.out]; exact hkm) = z := ⟨_, rfl⟩
              rw [hzz] at z0
              have hzw : (Lit.int .u8 z).wf = true := by rw [← hzz]; exact HZ.out _ (List.getElem_mem _)
              obtain ⟨hzl, hzh⟩ := bounds_u8 hzw
              have hqz : q = z.toNat % 4 := by
                rw [← HQ.out]
                unfold nbs
                rw [List.getElem?_eq_getElem (by rw [HM.out]; exact hkm), hzz]
                rfl
              have hmod : z % 4 = (q : Int) := by omega
              have hmod2 : z.tmod 4 = (q : Int) := by rw [Int.tmod_eq_emod_of_nonneg hzl]; exact hmod
              have z1 := (HB2.out.trans (HBj.out.mono HB2.out.size)).cell (p := ⟨bb, bo + k, none⟩) hbbl |>.trans z0
              clear z0 hzz hzw hqz
              by_cases hjq : j < q
              · have hjz : (j : Int) < (q : Int) := by omega
                go_wp2_with fail
                go_roundw
                case rel => exact ⟨j + 1, t2 ++ ⟨#[9]⟩, by omega, by go_num, rfl, by rw [ByteArray.size_append]; show t2.size + 1 ≤ _; omega, by show _ = _; rw [Joins.data_append, ht2.out, List.replicate_succ']; simp, hbj⟩
                case measure => simp [intOf]; omega
              · have hjz : decide ((j : Int) < (q : Int)) = false := by simp; omega
                have HE := Lib.hid (HEnd.out (by omega))
                go_wp2_with fail
                go_roundw
                case rel => exact ⟨k + 1, t2 ++ x, by omega, by go_num, rfl, HEndS.out HE.out, HE, HBj⟩
                case measure => simp [intOf]; omega
            · have hkmz : decide ((k : Int) < (m : Int)) = false := by simp; omega
              have hq0 : q = 0 := by
                rw [← HQ.out]
                unfold nbs
                rw [List.getElem?_eq_none (by rw [HM.out]; omega)]
                rfl
              have HE := Lib.hid (HEnd.out (by omega))
              go_wp2_with fail
              go_roundw
              case rel => exact ⟨k + 1, t2 ++ x, by omega, by go_num, rfl, HEndS.out HE.out, HE, HBj⟩
              case measure => simp [intOf]; omega
        · have hkz : decide ((k : Int) < (n : Int)) = false := by simp; omega
          have HT : Hid (t1.data.toList = Wd.bl (psB zs (fewB ss))) := by
            show _ = _
            rw [ht1.out, List.take_of_length_le (by rw [psB_len, HN.out]; omega)]
          have hsum : ¬ (9223372036854775807 < t1.size + 2) := by omega
          go_wp2_with fail
          go_loopw [9, 12] (fun s i wr => ∃ (j : Nat) (t : ByteArray), j ≤ r.size ∧ i = .int .i64 j ∧ s = .string t ∧ t.size ≤ 240242 + j ∧ Hid (t.data.toList = Wd.bl (psB zs (fewB ss)) ++ 32 :: 35 :: (r.data.toList.take j).filter (· != 10)) ∧ Hid (Below w2.heap.size w2 wr)) (fun _ i wr => r.size - (intOf i).toNat)
          case atStart => exact ⟨0, t1 ++ ⟨#[32, 35]⟩, Nat.zero_le _, rfl, rfl, by rw [ByteArray.size_append]; show t1.size + 2 ≤ _; omega, by show _ = _; rw [Joins.data_append, HT.out]; rfl, hbw.out⟩
          case round =>
            obtain ⟨j, t2, hj, rfl, rfl, ht2m, ht2, hbj⟩ := hrel
            by_cases hjr : j < r.size
            · have hjz : (j : Int) < (r.size : Int) := by omega
              have hrl : j < r.data.toList.length := by rw [size_list]; exact hjr
              have htk : r.data.toList.take (j + 1) = r.data.toList.take j ++ [r[j]] := by rw [List.take_succ_eq_append_getElem hrl]; rfl
              have hsum2 : ¬ (9223372036854775807 < t2.size + 1) := by omega
              have hex : (r.extract j (j + 1)).data.toList = [r[j]] := by
                rw [Lib.extract_data, show j + 1 - j = 1 by omega, List.drop_eq_getElem_cons hrl]; rfl
              have hxs : (r.extract j (j + 1)).size = 1 := by rw [ByteArray.size_extract]; omega
              have HX := Lib.hid hex
              have HXs := Lib.hid hxs
              have HTk := Lib.hid htk
              have hsum3 : ¬ (9223372036854775807 < t2.size + (r.extract j (j + 1)).size) := by rw [hxs]; exact hsum2
              clear hex hxs htk
              by_cases h10 : r[j] = 10
              · have HN2 : Hid (t2.data.toList = Wd.bl (psB zs (fewB ss)) ++ 32 :: 35 :: (r.data.toList.take (j + 1)).filter (· != 10)) := by
                  show _ = _
                  rw [HTk.out, List.filter_append, h10, ht2.out]; simp
                have hb10 := byte_eq (10 : UInt8) h10 10 rfl
                clear h10
                go_wp2_with fail
                go_roundw
                case rel => exact ⟨j + 1, t2, by omega, by go_num, rfl, by omega, HN2, hbj⟩
                case measure => simp [intOf]; omega
              · have HN2 : Hid ((t2 ++ r.extract j (j + 1)).data.toList = Wd.bl (psB zs (fewB ss)) ++ 32 :: 35 :: (r.data.toList.take (j + 1)).filter (· != 10)) := by
                  show _ = _
                  rw [Joins.data_append, HX.out, HTk.out, List.filter_append, ht2.out]
                  simp [h10]
                have hb10 := byte_ne (10 : UInt8) h10 10 rfl
                clear h10
                go_wp2_with fail
                go_roundw
                case rel => exact ⟨j + 1, t2 ++ r.extract j (j + 1), by omega, by go_num, rfl, by rw [ByteArray.size_append, HXs.out]; omega, HN2, hbj⟩
                case measure => simp [intOf]; omega
            · have hjz : decide ((j : Int) < (r.size : Int)) = false := by simp; omega
              have hsum2 : ¬ (9223372036854775807 < t2.size + 1) := by omega
              have hne : psB zs (fewB ss) ≠ [] := fun e => hn1 (by rw [← HN.out, ← psB_len zs, e]; rfl)
              obtain ⟨ws, hl, hw, hw1⟩ := Wd.lines_bl (psB zs (fewB ss)) ((r.data.toList.take j).filter (· != 10)) (by simp) hne (fun p hp => by
                obtain ⟨i, hi, rfl⟩ := psB_mem hp
                exact HAll.out _ (List.mem_map.2 ⟨_, List.getElem_mem hi, rfl⟩))
              rw [← ht2.out] at hl
              have hdt : (t2 ++ ⟨#[10]⟩).data.toList = t2.data.toList ++ [10] := by rw [Joins.data_append]
              rw [← hdt] at hl
              rw [psB_map] at hw
              have HL := Lib.hid (fun W => lines_ok (t2 ++ ⟨#[10]⟩) W (by rw [ByteArray.size_append]; show t2.size + 1 ≤ _; omega) [ws] hl)
              have hwl : ws.length = n := by rw [← HN.out, ← hw, List.length_map]
              have HW : Hid (∀ i (h : i < ws.length) (h2 : i < (fewB ss).length), ws[i].t = (fewB ss)[i]) := fun i h h2 => by
                have := congrArg (fun l : List ByteArray => l[i]?) hw
                simp only [List.getElem?_map, List.getElem?_eq_getElem h, Option.map_some, List.getElem?_eq_getElem h2] at this
                exact Option.some.inj this
              have HWo : Hid (∀ i (h : i < ws.length), ws[i].l = 1) := fun i h => hw1 _ (List.getElem_mem h)
              have HWl := Lib.hid hwl
              clear hl hw hw1 hdt hne hwl
              go_wp2_with fail
              refine (HL.out _).mono ?_
              rintro e w3 ⟨ad3, cap3, rfl, hr3, hb3⟩
              obtain ⟨b, off, adw, capw, rfl, hlt3, hcell, hrw⟩ := rdsLn_one hr3
              rw [HWl.out] at hcell hrw
              have HRw := Lib.hid hrw
              have HB3 : Hid (Below w2.heap.size w2 w3) := hbj.out.trans (hb3.mono hbj.out.size)
              clear hb3 hr3 hrw
              go_wp2_with fail
              go_loopw [17] (fun i wr => ∃ k : Nat, k ≤ n ∧ i = .int .i64 k ∧ Hid (Below w3.heap.size w3 wr)) (fun i wr => n - (intOf i).toNat)
              case atStart => exact ⟨0, Nat.zero_le _, rfl, Below.refl _ _⟩
              case round =>
                obtain ⟨k2, hk2, rfl, hbk⟩ := hrel
                have y0 := (hbk.out.cell (p := ⟨b, off, none⟩) hlt3).trans hcell
                by_cases hkn : k2 < n
                · have hkz2 : (k2 : Int) < (n : Int) := by omega
                  obtain ⟨bw, ow, rfl, hbl, k0, k1, _⟩ := (HRw.out.below hbk.out).at_ k2 (by rw [HWl.out]; exact hkn)
                  obtain ⟨bv, ov, rfl, hvl, v0⟩ := HC.out k2 (by rw [HN.out]; exact hkn)
                  have v1 := ((HB3.out.trans (hbk.out.mono HB3.out.size)).cell (p := ⟨bv, ov + k2, none⟩) hvl).trans v0
                  rw [HW.out k2 (by rw [HWl.out]; exact hkn) (by rw [HN.out]; exact hkn)] at k0
                  rw [HWo.out k2 (by rw [HWl.out]; exact hkn)] at k1
                  have k1' : wr.cell? ⟨bw, ow + k2 * 3 + 1, none⟩ = some (.int .i64 1) := k1
                  obtain ⟨x, hx⟩ : ∃ x, (fewB ss)[k2]'(by rw [HN.out]; exact hkn) = x := ⟨_, rfl⟩
                  rw [hx] at k0 v1
                  clear hx v0 k1
                  go_wp2_with fail
                  go_quiet (fail)
                  go_wp2_with fail
                  go_roundw
                  case rel => exact ⟨k2 + 1, by omega, by go_num, below_dN hbk.out _⟩
                  case measure => simp [intOf]; omega
                · have hkz2 : decide ((k2 : Int) < (n : Int)) = false := by simp; omega
                  go_wp2_with fail
                  refine (alive_any _).mono ?_
                  rintro e w4 ⟨rfl, hb4⟩
                  have HB13 : Hid (Below w.heap.size w w3) := HB2.out.trans (HB3.out.mono HB2.out.size)
                  have HB14 : Hid (Below w.heap.size w wr) := HB13.out.trans (hbk.out.mono HB13.out.size)
                  have HB4 : Hid (Below w.heap.size w w4) := HB14.out.trans (hb4.mono HB14.out.size)
                  clear hb4
                  go_wp2_with fail
                  go_ret
                  exact ⟨rfl, HB4.out⟩
end Go.Proofs.YtfnfmkejkgiclaaDoor
