/-
  Walks over the reference of words: Same.
-/
import Derived.Test.YtfnfmkejkgiclaaDoorWdL
namespace Go.Proofs.YtfnfmkejkgiclaaDoor
open Go.RowKit Go.Shelf
set_option linter.unusedVariables false
set_option linter.unusedSimpArgs false

/-- What is told at a place of lines. -/
def LnAt (W : World) (ad : Option Addr) (acc : List (List Wrd)) : Prop :=
  ∀ i (h : i < acc.length), ∃ b off adw capw, ad = some ⟨b, off, none⟩ ∧ b < W.heap.size ∧ W.cell? ⟨b, off + i, none⟩ = some (.slice adw acc[i].length capw) ∧ RdsW (fun _ => True) W (.slice adw acc[i].length capw) acc[i]

theorem rdsLn_at {ok : Nat → Prop} {w : World} {v : Value} {acc : List (List Wrd)} (h : RdsLn ok w v acc) : ∃ ad cap, v = .slice ad acc.length cap ∧ acc.length ≤ maxLen ∧ LnAt w ad acc := by
  obtain ⟨us, u1, u2, u3, u4⟩ := h
  obtain ⟨ad, cap, rfl, hm, hc⟩ := rds_one u2
  refine ⟨ad, cap, by rw [u1], by omega, fun i hi => ?_⟩
  obtain ⟨b, off, e, hl, hcell⟩ := hc i (by omega)
  have hr := u4 i (by omega) hi
  obtain ⟨adw, capw, hu, r⟩ := id hr
  rw [hu] at hcell hr
  exact ⟨b, off, adw, capw, e, hl, hcell, hr.mono fun _ _ _ => trivial⟩
theorem LnAt.below {w w' : World} {ad : Option Addr} {acc : List (List Wrd)} (h : LnAt w ad acc) (hb : Below w.heap.size w w') : LnAt w' ad acc := fun i hi => by
  obtain ⟨b, off, adw, capw, e, hl, hc, hr⟩ := h i hi
  exact ⟨b, off, adw, capw, e, Nat.lt_of_lt_of_le hl hb.size, (hb.cell (p := ⟨b, off + i, none⟩) hl).trans hc, hr.below hb⟩
theorem RdsW.at_ {ok : Nat → Prop} {w : World} {adw : Option Addr} {n capw : Nat} {ws : List Wrd} (h : RdsW ok w (.slice adw n capw) ws) (i : Nat) (hi : i < ws.length) : ∃ b off, adw = some ⟨b, off, none⟩ ∧ b < w.heap.size ∧
    w.cell? ⟨b, off + i * 3, none⟩ = some (.string ws[i].t) ∧ w.cell? ⟨b, off + i * 3 + 1, none⟩ = some (.int .i64 ws[i].l) ∧ w.cell? ⟨b, off + i * 3 + 2, none⟩ = some (.int .i64 ws[i].c) := by
  obtain ⟨ad', cap', e, _, _, hg⟩ := h
  injection e with e1 _ _
  subst e1
  obtain ⟨b, off, h1, h2, _, h3⟩ := hg i hi
  exact ⟨b, off, h1, h2, h3⟩

set_option maxHeartbeats 6400000 in
set_option maxRecDepth 20000 in
theorem rsame_eq (aa ab : Option Addr) (ca cb : Nat) (acc : List (List Wrd)) (w : World) (hm : acc.length ≤ maxLen) (hA : LnAt w aa acc) (hB : LnAt w ab acc) :
    Calls Tryd.prog 12 #[.slice aa acc.length ca, .slice ab acc.length cb] w fun e w' => e = .returned (.bool true) ∧ Below w.heap.size w w' := by
  have HA := Lib.hid hA
  have HB := Lib.hid hB
  unfold maxLen at hm
  obtain ⟨n, hn⟩ : ∃ n, acc.length = n := ⟨_, rfl⟩
  rw [hn] at hm ⊢
  have HN := Lib.hid hn
  clear hA hB hn
  go_enter Tryd.func12, Tryd.ntmps12
  go_wp2_with fail
  go_loopw [5] (fun i wr => ∃ k : Nat, k ≤ n ∧ i = .int .i64 k ∧ Hid (Below w.heap.size w wr)) (fun i wr => n - (intOf i).toNat)
  case atStart => exact ⟨0, Nat.zero_le _, rfl, Below.refl _ _⟩
  case round =>
    obtain ⟨wo, rfl⟩ : ∃ wo : World, wo = wr := ⟨wr, rfl⟩
    obtain ⟨k, hk, rfl, hbw⟩ := hrel
    by_cases hlt : k < n
    · have hkz : ((k : Nat) : Int) < (n : Int) := by omega
      have hkn : k < acc.length := by rw [HN.out]; exact hlt
      obtain ⟨b, off, adw, capw, rfl, hbl, hc, hr⟩ := HA.out.below hbw.out k hkn
      obtain ⟨b', off', adw', capw', rfl, hbl', hc', hr'⟩ := HB.out.below hbw.out k hkn
      obtain ⟨m, hm2⟩ : ∃ m, acc[k].length = m := ⟨_, rfl⟩
      rw [hm2] at hc hr hc' hr'
      obtain ⟨ws, hws⟩ : ∃ ws, acc[k] = ws := ⟨_, rfl⟩
      rw [hws] at hm2 hr hr'
      have HR := Lib.hid hr
      have HR' := Lib.hid hr'
      have HM := Lib.hid hm2
      have hmm : m ≤ 9223372036854775807 := by
        obtain ⟨_, _, e, h1, h2, _⟩ := hr
        unfold maxLen at h2
        omega
      clear hr hr' hm2 hws
      go_wp2_with fail
      go_quiet (fail)
      go_wp2_with fail
      go_loopw [6] (fun i wr => ∃ q : Nat, q ≤ m ∧ i = .int .i64 q ∧ Hid (Below wo.heap.size wo wr)) (fun i wr => m - (intOf i).toNat)
      case atStart => exact ⟨0, Nat.zero_le _, rfl, below_dN (Below.refl _ _) _⟩
      case round =>
        obtain ⟨q, hq, rfl, hbq⟩ := hrel
        have hbl2 : b < wr.heap.size := Nat.lt_of_lt_of_le hbl hbq.out.size
        have hbl3 : b' < wr.heap.size := Nat.lt_of_lt_of_le hbl' hbq.out.size
        have y0 := (hbq.out.cell (p := ⟨b, off + k, none⟩) hbl).trans hc
        have y1 := (hbq.out.cell (p := ⟨b', off' + k, none⟩) hbl').trans hc'
        by_cases hlq : q < m
        · have hqz : ((q : Nat) : Int) < (m : Int) := by omega
          obtain ⟨g, o, rfl, hg, k0, k1, k2⟩ := (HR.out.below hbq.out).at_ q (by rw [HM.out]; exact hlq)
          obtain ⟨g', o', rfl, hg', j0, j1, j2⟩ := (HR'.out.below hbq.out).at_ q (by rw [HM.out]; exact hlq)
          obtain ⟨x, hx⟩ : ∃ x, ws[q]'(by rw [HM.out]; exact hlq) = x := ⟨_, rfl⟩
          rw [hx] at k0 k1 k2 j0 j1 j2
          clear hx
          go_wp2_with fail
          go_quiet (fail)
          go_wp2_with fail
          go_roundw
          case rel => exact ⟨q + 1, by omega, by go_num, below_dN hbq.out _⟩
          case measure => simp [intOf]; omega
        · have hqz : decide (((q : Nat) : Int) < (m : Int)) = false := by simp; omega
          go_wp2_with fail
          go_roundw
          case rel => exact ⟨k + 1, by omega, by go_num, hbw.out.trans (hbq.out.mono hbw.out.size)⟩
          case measure => simp [intOf]; omega
    · have hkz : decide (((k : Nat) : Int) < (n : Int)) = false := by simp; omega
      go_wp2_with fail
      go_ret
      exact ⟨rfl, hbw.out⟩
end Go.Proofs.YtfnfmkejkgiclaaDoor
