/-
  The law WordsBack: its walk.
-/
import Derived.Test.YtfnfmkejkgiclaaDoorWdS
namespace Go.Proofs.YtfnfmkejkgiclaaDoor
open Go.RowKit Go.Shelf
set_option linter.unusedVariables false
set_option linter.unusedSimpArgs false

theorem say_some {l : List (List UInt8)} {t : List UInt8} (h : Wd.say l = some t) : t = Wd.jn l ∧ ∀ a ∈ l, Wd.wordB a = true := by
  unfold Wd.say at h
  split at h
  · rename_i h1
    injection h with h
    exact ⟨h.symm, fun a ha => List.all_eq_true.1 h1 a ha⟩
  · cases h

theorem jn_small (ss : List ByteArray) : (Wd.jn ((fewB ss).map fun x => x.data.toList)).length ≤ 240060 := by
  have h1 := Wd.jn_len 4000 ((fewB ss).map fun x => x.data.toList) (fun y hy => by
    obtain ⟨z, hz, rfl⟩ := List.mem_map.1 hy
    rw [size_list]; exact fewB_size ss z hz)
  have h2 := fewB_len ss
  rw [List.length_map] at h1
  have h3 := Nat.mul_le_mul_right (4000 + 1) h2
  omega

theorem mkB_map (ss : List ByteArray) : (ss.map fun x => x.data.toList).map Wd.mkB = ss := by
  rw [List.map_map]
  conv => rhs; rw [← List.map_id ss]
  exact List.map_congr_left fun x _ => Wd.mkB_of x

set_option maxHeartbeats 6400000 in
set_option maxRecDepth 20000 in
theorem wordsBack_any (v : Value) (ss : List ByteArray) (w : World) (hr : RdsS w v ss) : Calls Tryd.prog 5 #[v] w fun e w' => e = .returned (.bool true) ∧ Below w.heap.size w w' := by
  have HF := Lib.hid (few_any v ss w hr)
  have hfl := fewB_len ss
  have HS := Lib.hid (fun (v : Value) (W : World) (hr : RdsS W v (fewB ss)) => few_say v ss W hr)
  cases hs : Wd.say ((fewB ss).map fun x => x.data.toList) with
  | none =>
    have h1 : (sayV (fewB ss)).1 = ⟨#[]⟩ := by unfold sayV; rw [hs]
    have h2 : (sayV (fewB ss)).2 = 31 := by unfold sayV; rw [hs]
    rw [h1, h2] at HS
    clear hs h1 h2 hr
    go_enter Tryd.func5, Tryd.ntmps5
    go_wp2_with fail
    refine HF.out.mono ?_
    rintro e w1 ⟨ad, c, rfl, hr1, hb1⟩
    have HR1 := Lib.hid hr1
    have HB1 := Lib.hid hb1
    clear hr1 hb1
    go_wp2_with fail
    refine (HS.out _ _ HR1.out).mono ?_
    rintro e w2 ⟨rfl, hb2⟩
    have HB2 := Lib.hid (HB1.out.trans (hb2.mono HB1.out.size))
    clear hb2
    go_wp2_with fail
    refine (alive_any _).mono ?_
    rintro e w4 ⟨rfl, hb4⟩
    have HB4 := Lib.hid (HB2.out.trans (hb4.mono HB2.out.size))
    clear hb4
    go_wp2_with fail
    go_ret
    exact ⟨rfl, HB4.out⟩
  | some t =>
    obtain ⟨ht, hall⟩ := say_some hs
    have h1 : (sayV (fewB ss)).1 = Wd.mkB t := by unfold sayV; rw [hs]
    have h2 : (sayV (fewB ss)).2 = 0 := by unfold sayV; rw [hs]
    rw [h1, h2] at HS
    obtain ⟨ws, hl, hw⟩ := Wd.lines_jn _ hall
    rw [← ht] at hl
    rw [mkB_map] at hw
    have hsz : (Wd.mkB t).size ≤ 1048576 := by
      have := jn_small ss
      rw [← ht] at this
      rw [Wd.mkB_size]; omega
    rw [← Wd.mkB_list t] at hl
    obtain ⟨n, hn⟩ : ∃ n, (fewB ss).length = n := ⟨_, rfl⟩
    rw [hn] at hfl
    have HF2 : Hid (Calls Tryd.prog 13 #[v] w (fun e w' => ∃ ad c, e = .returned (.slice ad n c) ∧ RdsS w' (.slice ad n c) (fewB ss) ∧ Below w.heap.size w w')) := by rw [← hn]; exact HF.out
    clear HF h1 h2 hs ht hall hr
    by_cases hn0 : n = 0
    · subst hn0
      rw [List.length_eq_zero_iff.1 hn] at hl
      have HL := Lib.hid (fun W => lines_ok (Wd.mkB t) W hsz [] hl)
      clear hl hw hn hsz
      go_enter Tryd.func5, Tryd.ntmps5
      go_wp2_with fail
      refine HF2.out.mono ?_
      rintro e w1 ⟨ad, c, rfl, hr1, hb1⟩
      have HR1 := Lib.hid hr1
      have HB1 := Lib.hid hb1
      clear hr1 hb1
      go_wp2_with fail
      refine (HS.out _ _ HR1.out).mono ?_
      rintro e w2 ⟨rfl, hb2⟩
      have HB2 := Lib.hid (HB1.out.trans (hb2.mono HB1.out.size))
      clear hb2
      go_wp2_with fail
      refine (HL.out _).mono ?_
      rintro e w3 ⟨ad3, cap3, rfl, _, hb3⟩
      have HB3 := Lib.hid (HB2.out.trans (hb3.mono HB2.out.size))
      clear hb3
      go_wp2_with fail
      go_loopw [9] (fun i wr => i = .int .i64 0 ∧ Hid (Below w.heap.size w wr)) (fun i wr => 0)
      case atStart => exact ⟨rfl, HB3.out⟩
      case round =>
        obtain ⟨rfl, hbw⟩ := hrel
        go_wp2_with fail
        refine (alive_any _).mono ?_
        rintro e w4 ⟨rfl, hb4⟩
        have HB4 := Lib.hid (hbw.out.trans (hb4.mono hbw.out.size))
        clear hb4
        go_wp2_with fail
        go_ret
        exact ⟨rfl, HB4.out⟩
    · have hne : ¬ (fewB ss).map (fun x => x.data.toList) = [] := fun e => hn0 (by rw [← hn, ← List.length_map (f := fun x : ByteArray => x.data.toList), e]; rfl)
      rw [if_neg hne] at hl
      have HL := Lib.hid (fun W => lines_ok (Wd.mkB t) W hsz [ws] hl)
      have hwl : ws.length = n := by rw [← hn, ← hw, List.length_map]
      have HW : Hid (∀ i (h : i < ws.length) (h2 : i < (fewB ss).length), ws[i].t = (fewB ss)[i]) := fun i h h2 => by
        have := congrArg (fun l : List ByteArray => l[i]?) hw
        simp only [List.getElem?_map, List.getElem?_eq_getElem h, Option.map_some, List.getElem?_eq_getElem h2] at this
        exact Option.some.inj this
      have HWl := Lib.hid hwl
      have HN := Lib.hid hn
      have hnz : (0 : Int) < (n : Int) := by omega
      have hnz2 : ((n : Int) == 0) = false := by simp; omega
      have hn1 : 0 < n := by omega
      have hn2 : (n == 0) = false := by simpa using hn0
      clear hl hw hn hsz hne hwl
      go_enter Tryd.func5, Tryd.ntmps5
      go_wp2_with fail
      refine HF2.out.mono ?_
      rintro e w1 ⟨ad, c, rfl, hr1, hb1⟩
      have HR1 := Lib.hid hr1
      have HB1 := Lib.hid hb1
      clear hr1 hb1
      go_wp2_with fail
      refine (HS.out _ _ HR1.out).mono ?_
      rintro e w2 ⟨rfl, hb2⟩
      have HR2 := Lib.hid (HR1.out.below hb2)
      have HB2 := Lib.hid (HB1.out.trans (hb2.mono HB1.out.size))
      clear hb2
      go_wp2_with fail
      refine (HL.out _).mono ?_
      rintro e w3 ⟨ad3, cap3, rfl, hr3, hb3⟩
      obtain ⟨ad', n', cap', e1, _, _, hc⟩ := rdsS_form (HR2.out.below hb3)
      injection e1 with e1 e2 e3
      subst e1
      obtain ⟨b, off, adw, capw, rfl, hlt, hcell, hrw⟩ := rdsLn_one hr3
      rw [HWl.out] at hcell hrw
      have HRw := Lib.hid hrw
      have HC := Lib.hid hc
      have HB3 := Lib.hid (HB2.out.trans (hb3.mono HB2.out.size))
      clear hb3 hr3 hrw hc e2 e3
      go_wp2_with fail
      go_loopw [9] (fun i wr => ∃ k : Nat, k ≤ n ∧ i = .int .i64 k ∧ Hid (Below w3.heap.size w3 wr)) (fun i wr => n - (intOf i).toNat)
      case atStart => exact ⟨0, Nat.zero_le _, rfl, Below.refl _ _⟩
      case round =>
        obtain ⟨k, hk, rfl, hbw⟩ := hrel
        have y0 := (hbw.out.cell (p := ⟨b, off, none⟩) hlt).trans hcell
        by_cases hkn : k < n
        · have hkz : (k : Int) < (n : Int) := by omega
          obtain ⟨bw, ow, rfl, hbl, k0, k1, k2⟩ := (HRw.out.below hbw.out).at_ k (by rw [HWl.out]; exact hkn)
          obtain ⟨bv, ov, rfl, hvl, v0⟩ := HC.out k (by rw [HN.out]; exact hkn)
          have v1 := (hbw.out.cell (p := ⟨bv, ov + k, none⟩) hvl).trans v0
          rw [HW.out k (by rw [HWl.out]; exact hkn) (by rw [HN.out]; exact hkn)] at k0
          obtain ⟨x, hx⟩ : ∃ x, (fewB ss)[k]'(by rw [HN.out]; exact hkn) = x := ⟨_, rfl⟩
          rw [hx] at k0 v1
          clear hx v0
          go_wp2_with fail
          go_quiet (fail)
          go_wp2_with fail
          go_roundw
          case rel => exact ⟨k + 1, by omega, by go_num, below_dN hbw.out _⟩
          case measure => simp [intOf]; omega
        · have hkz : decide ((k : Int) < (n : Int)) = false := by simp; omega
          go_wp2_with fail
          refine (alive_any _).mono ?_
          rintro e w4 ⟨rfl, hb4⟩
          have HB4 : Hid (Below w.heap.size w w4) := (HB3.out.trans (hbw.out.mono HB3.out.size)).trans (hb4.mono (HB3.out.trans (hbw.out.mono HB3.out.size)).size)
          clear hb4
          go_wp2_with fail
          go_ret
          exact ⟨rfl, HB4.out⟩
end Go.Proofs.YtfnfmkejkgiclaaDoor
