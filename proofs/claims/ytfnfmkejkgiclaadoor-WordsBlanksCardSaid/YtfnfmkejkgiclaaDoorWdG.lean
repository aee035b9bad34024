/-
  Walks over package words: alone.
-/
import Derived.Test.YtfnfmkejkgiclaaDoorWdF
namespace Go.Proofs.YtfnfmkejkgiclaaDoor
open Go.RowKit Go.Shelf
set_option linter.unusedVariables false
set_option linter.unusedSimpArgs false

theorem ba_inj {a b : ByteArray} (h : a.data.toList = b.data.toList) : a = b := by
  have := congrArg Wd.mkB h
  rwa [Wd.mkB_of, Wd.mkB_of] at this

theorem rds_one {w : World} {v : Value} {us : List Value} (h : Rds w v us) : ∃ ad cap, v = .slice ad us.length cap ∧ us.length ≤ maxLen ∧ ∀ i (hi : i < us.length), ∃ b off, ad = some ⟨b, off, none⟩ ∧ b < w.heap.size ∧ w.cell? ⟨b, off + i, none⟩ = some us[i] := by
  rcases h with ⟨a, c, rfl, rfl, _⟩ | ⟨b, off, cap, rfl, h2, h3, h4, h5⟩
  · exact ⟨a, c, rfl, Nat.zero_le _, fun i hi => absurd hi (Nat.not_lt_zero _)⟩
  · exact ⟨_, cap, rfl, Nat.le_trans h2 h3, fun i hi => ⟨b, off, rfl, h4, h5 i hi⟩⟩

/-- Lines at a text that is no longer than the greatest one: told by its result. -/
theorem lines_err (s : ByteArray) (w : World) (hs : s.size ≤ 1048576) (num p : Nat) (h : Wd.lines s.data.toList = .error (num, p)) :
    Calls Tryd.prog 8 #[.string s] w fun e w' => e = .returned (.tuple #[.slice none 0 0, .int .i64 num, .int .i64 ((p : Int) + 1), .int .i64 30]) ∧ Below w.heap.size w w' :=
  (lines_any s w hs).mono fun e w' hp => by unfold LinesPost at hp; rw [h] at hp; exact hp
theorem lines_ok (s : ByteArray) (w : World) (hs : s.size ≤ 1048576) (acc : List (List Wrd)) (h : Wd.lines s.data.toList = .ok acc) :
    Calls Tryd.prog 8 #[.string s] w fun e w' => ∃ ad cap, e = .returned (.tuple #[.slice ad acc.length cap, .int .i64 0, .int .i64 0, .int .i64 0]) ∧ RdsLn (fun b => w.heap.size ≤ b) w' (.slice ad acc.length cap) acc ∧ Below w.heap.size w w' :=
  (lines_any s w hs).mono fun e w' hp => by
    unfold LinesPost at hp
    rw [h] at hp
    obtain ⟨v, rfl, h1, h2⟩ := hp
    obtain ⟨us, u1, u2, u3⟩ := id h1
    obtain ⟨ad, cap, rfl, _⟩ := rds_one u2
    rw [u1] at h1 ⊢
    exact ⟨ad, cap, rfl, h1, h2⟩

/-- The first line of one that reads as a single line. -/
theorem rdsLn_one {ok : Nat → Prop} {w : World} {ad : Option Addr} {cap : Nat} {ws : List Wrd} (h : RdsLn ok w (.slice ad 1 cap) [ws]) :
    ∃ b off adw capw, ad = some ⟨b, off, none⟩ ∧ b < w.heap.size ∧ w.cell? ⟨b, off, none⟩ = some (.slice adw ws.length capw) ∧ RdsW ok w (.slice adw ws.length capw) ws := by
  obtain ⟨us, u1, u2, u3, u4⟩ := h
  obtain ⟨ad', cap', e, _, hc⟩ := rds_one u2
  injection e with e1 e2 e3
  subst e1
  obtain ⟨b, off, hb, hl, hcell⟩ := hc 0 (by simp at u1; omega)
  have hr := u4 0 (by simp at u1; omega) (by simp)
  obtain ⟨adw, capw, hu, r1, r2, r3⟩ := id hr
  rw [hu] at hcell hr
  rw [Nat.add_zero] at hcell
  exact ⟨b, off, adw, capw, hb, hl, hcell, hr⟩

theorem bool_eq {a b : Bool} (h : a = b) : Ending.returned (.bool a) = .returned (.bool b) := by rw [h]

set_option maxHeartbeats 3200000 in
set_option maxRecDepth 20000 in
theorem alone_any (s : ByteArray) (wv : Value) (want : List ByteArray) (w : World) (hs : s.size ≤ 1048576) (hw : RdsS w wv want) :
    Calls Tryd.prog 26 #[.string s, wv] w fun e w' => e = .returned (.bool (Wd.aloneB s.data.toList want)) ∧ Below w.heap.size w w' := by
  obtain ⟨wa, wl, wc, rfl, hwl, hwm, hwc⟩ := rdsS_form hw
  have HWc := Lib.hid hwc
  unfold maxLen at hwm
  clear hw hwc
  unfold Wd.aloneB
  cases hl : Wd.lines s.data.toList with
  | error x =>
    obtain ⟨num, p⟩ := x
    have HL := Lib.hid (fun W => lines_err s W hs num p hl)
    clear hl
    go_enter Tryd.func26, Tryd.ntmps26
    go_wp2_with fail
    refine (HL.out _).mono ?_
    rintro e w1 ⟨rfl, hb⟩
    have HB := Lib.hid hb
    clear hb
    go_wp2_with fail
    go_ret
    exact ⟨rfl, HB.out⟩
  | ok acc =>
    have HL := Lib.hid (fun W => lines_ok s W hs acc hl)
    clear hl
    by_cases h1 : acc.length = 1
    · match acc, h1 with
      | [ws], _ =>
        have HWl := Lib.hid hwl
        clear hwl
        by_cases h2 : ws.length = wl
        · subst h2
          obtain ⟨q, hq⟩ : ∃ q, decide (ws.map Wrd.t = want) = q := ⟨_, rfl⟩
          have HQ := Lib.hid hq
          have hgoal : Hid (((([ws] : List (List Wrd)).length == 1) && decide ((([ws] : List (List Wrd)).headD []).map Wrd.t = want)) = q) := by
            show _ = _
            simpa using hq
          clear hq
          show Calls _ _ _ _ (fun e w' => e = .returned (.bool (([ws].length == 1) && decide (([ws].headD []).map Wrd.t = want))) ∧ _)
          rw [hgoal.out]
          go_enter Tryd.func26, Tryd.ntmps26
          go_wp2_with fail
          refine (HL.out _).mono ?_
          rintro e w1 ⟨ad, cap, rfl, hr, hb⟩
          have HB := Lib.hid hb
          obtain ⟨b, off, adw, capw, rfl, hlt, hcell, hrw⟩ := rdsLn_one hr
          have HRw := Lib.hid hrw
          clear hb hr hrw
          go_wp2_with fail
          go_loopw [38] (fun i wr => ∃ k : Nat, k ≤ ws.length ∧ i = .int .i64 k ∧ Hid (Below w1.heap.size w1 wr) ∧ Hid (∀ j (h : j < k) (h1 : j < ws.length) (h2 : j < want.length), ws[j].t = want[j])) (fun i wr => ws.length - (intOf i).toNat)
          case atStart => exact ⟨0, Nat.zero_le _, rfl, Below.refl _ _, fun j h => absurd h (Nat.not_lt_zero _)⟩
          case round =>
            obtain ⟨k, hk, rfl, hbw, hall⟩ := hrel
            by_cases hlt2 : k < ws.length
            · obtain ⟨bw, ow, rfl, hbl, k0, k1, k2⟩ : ∃ bw ow, adw = some ⟨bw, ow, none⟩ ∧ bw < wr.heap.size ∧ wr.cell? ⟨bw, ow + k * 3, none⟩ = some (.string ws[k].t) ∧ wr.cell? ⟨bw, ow + k * 3 + 1, none⟩ = some (.int .i64 ws[k].l) ∧ wr.cell? ⟨bw, ow + k * 3 + 2, none⟩ = some (.int .i64 ws[k].c) := by
                obtain ⟨ad', cap', e, _, _, hg⟩ := HRw.out.below hbw.out
                injection e with e1 _ _
                obtain ⟨bw, ow, h1, h2, _, h3⟩ := hg k hlt2
                exact ⟨bw, ow, by rw [e1]; exact h1, h2, h3⟩
              obtain ⟨bv, ov, rfl, hvl, v0⟩ := HWc.out k (by have := HWl.out; omega)
              have v1 := ((HB.out.trans (hbw.out.mono HB.out.size)).cell (p := ⟨bv, ov + k, none⟩) hvl).trans v0
              have hvl1 : bv < wr.heap.size := Nat.lt_of_lt_of_le hvl (HB.out.trans (hbw.out.mono HB.out.size)).size
              obtain ⟨W2, hW2⟩ : ∃ W2, W2 = wr.alloc (.cells #[.string ws[k].t, .int .i64 ws[k].l, .int .i64 ws[k].c] 41) := ⟨_, rfl⟩
              have hB2 : Below wr.heap.size wr W2 := by rw [hW2]; exact (Below.refl _ _).alloc (Nat.le_refl _) _
              have v2 := (hB2.cell (p := ⟨bv, ov + k, none⟩) hvl1).trans v1
              have n0 : W2.cell? ⟨wr.heap.size, 0, none⟩ = some (.string ws[k].t) := by rw [hW2]; simp [go_sem]
              have HW2 := Lib.hid hW2
              have HBn : Hid (Below w1.heap.size w1 W2) := hbw.out.trans (hB2.mono hbw.out.size)
              have hkl : ((k : Nat) : Int) < (ws.length : Int) := by omega
              by_cases heq : ws[k].t = want[k]'(by have := HWl.out; omega)
              · have hn1 : Hid (∀ j (h : j < k + 1) (h1 : j < ws.length) (h2 : j < want.length), ws[j].t = want[j]) := fun j h h1 h2 => by
                  by_cases hj : j = k
                  · subst hj; exact heq
                  · exact hall.out j (by omega) h1 h2
                rw [← heq] at v2
                clear v0 v1 hW2 hB2 heq
                go_wp2_with fail
                rw [← HW2.out]
                go_quiet (fail)
                go_wp2_with fail
                go_roundw
                case rel => exact ⟨k + 1, hlt2, by go_num, below_dN HBn.out _, hn1⟩
                case measure => simp [intOf]; omega
              · have hqf : Hid (q = false) := by
                  show _ = _
                  rw [← HQ.out, decide_eq_false_iff_not]
                  intro e
                  apply heq
                  have := congrArg (fun l : List ByteArray => l[k]?) e
                  simp only [List.getElem?_map, List.getElem?_eq_getElem hlt2, Option.map_some] at this
                  rw [List.getElem?_eq_getElem (by have := HWl.out; omega)] at this
                  exact Option.some.inj this
                have hd : ¬ ws[k].t.toList = (want[k]'(by have := HWl.out; omega)).toList := fun e => heq (by
                  rw [ByteArray.toList_eq, ByteArray.toList_eq] at e
                  exact ba_inj e)
                obtain ⟨y, hy⟩ : ∃ y, want[k]'(by have := HWl.out; omega) = y := ⟨_, rfl⟩
                rw [hy] at v2 hd
                have hd2 : (!ws[k].t.toList == y.toList) = true := by simpa using hd
                clear v0 v1 hy hW2 hB2 heq hd
                go_wp2_with fail
                rw [← HW2.out]
                go_quiet (fail)
                go_wp2_with fail
                go_ret
                exact ⟨bool_eq hqf.out.symm, below_dN (HB.out.trans (HBn.out.mono HB.out.size)) _⟩
            · have hkl : decide (((k : Nat) : Int) < (ws.length : Int)) = false := by simp; omega
              have hqt : Hid (q = true) := by
                show _ = _
                rw [← HQ.out, decide_eq_true_eq]
                refine List.ext_getElem (by rw [List.length_map]; exact HWl.out) fun j h1 h2 => ?_
                rw [List.getElem_map]
                exact hall.out j (by rw [List.length_map] at h1; omega) (by rw [List.length_map] at h1; exact h1) h2
              go_wp2_with fail
              go_ret
              exact ⟨bool_eq hqt.out.symm, HB.out.trans (hbw.out.mono HB.out.size)⟩
        · have hne : Hid ((([ws] : List (List Wrd)).length == 1 && decide ((([ws] : List (List Wrd)).headD []).map Wrd.t = want)) = false) := by
            show _ = _
            have : ¬ ws.map Wrd.t = want := fun e => h2 (by rw [HWl.out, ← e, List.length_map])
            simp [this]
          have h2z : (((ws.length : Nat) : Int) == (wl : Int)) = false := by simp; omega
          have h2y : (((ws.length : Nat) : Int) != (wl : Int)) = true := by simp; omega
          have h2x : (ws.length == wl) = false := by simpa using h2
          have h2w : (ws.length != wl) = true := by simpa using h2
          show Calls _ _ _ _ (fun e w' => e = .returned (.bool (([ws].length == 1) && decide (([ws].headD []).map Wrd.t = want))) ∧ _)
          rw [hne.out]
          go_enter Tryd.func26, Tryd.ntmps26
          go_wp2_with fail
          refine (HL.out _).mono ?_
          rintro e w1 ⟨ad, cap, rfl, hr, hb⟩
          have HB := Lib.hid hb
          obtain ⟨b, off, adw, capw, rfl, hlt, hcell, hrw⟩ := rdsLn_one hr
          clear hb hr hrw
          go_wp2_with fail
          go_ret
          exact ⟨rfl, HB.out⟩
    · have hne : Hid ((acc.length == 1 && decide ((acc.headD []).map Wrd.t = want)) = false) := by
        show _ = _
        simp [h1]
      have h1z : (((acc.length : Nat) : Int) == 1) = false := by simp; omega
      have h1y : (((acc.length : Nat) : Int) != 1) = true := by simp; omega
      clear h1
      show Calls _ _ _ _ (fun e w' => e = .returned (.bool ((acc.length == 1) && decide ((acc.headD []).map Wrd.t = want))) ∧ _)
      rw [hne.out]
      go_enter Tryd.func26, Tryd.ntmps26
      go_wp2_with fail
      refine (HL.out _).mono ?_
      rintro e w1 ⟨ad, cap, rfl, hr, hb⟩
      have HB := Lib.hid hb
      clear hb hr
      go_wp2_with fail
      go_ret
      exact ⟨rfl, HB.out⟩
end Go.Proofs.YtfnfmkejkgiclaaDoor
