/-
  The law RulesAny: its walk.
-/
import Derived.Test.YtbjkbcbclgfmpaaGreatDoorRgR
import Derived.Test.YtbjkbcbclgfmpaaGreatDoorRgP
namespace Go.Proofs.YtbjkbcbclgfmpaaGreatDoor
open Go.RowKit Go.Shelf Go.Lib Go.Sort
set_option linter.unusedVariables false
set_option linter.unusedSectionVars false
set_option linter.unusedSimpArgs false

namespace Pr
/-- No two rules have one key. -/
def KD (L : List Rl) : Prop := L.Pairwise fun a b => ¬ (a.p = b.p ∧ a.m = b.m)

theorem insL_perm (lt : Rl → Rl → Bool) : ∀ (s : List Rl) (x : Rl), (St.insL lt s x).Perm (x :: s)
  | [], x => List.Perm.refl _
  | y :: s, x => by
    unfold St.insL
    split
    · exact List.Perm.refl _
    · exact ((insL_perm lt s x).cons y).trans (List.Perm.swap x y s)
theorem mrg_perm (lt : Rl → Rl → Bool) : ∀ (t s : List Rl), (St.mrg lt s t).Perm (s ++ t)
  | [], s => by rw [List.append_nil]; exact List.Perm.refl _
  | x :: t, s => by
    show (St.mrg lt (St.insL lt s x) t).Perm _
    refine (mrg_perm lt t _).trans (((insL_perm lt s x).append_right t).trans ?_)
    rw [List.cons_append]
    exact List.perm_middle.symm
theorem isort_perm (lt : Rl → Rl → Bool) (L : List Rl) : (St.isort lt L).Perm L := by
  have := mrg_perm lt L []
  rw [List.nil_append] at this
  exact this

theorem ahead_total {a b : Rl} (h : Rp.aheadR b a = false) (hn : ¬ (a.p = b.p ∧ a.m = b.m)) : Rp.aheadR a b = true := by
  unfold Rp.aheadR Rp.aheadK at h ⊢
  by_cases hp : a.p = b.p
  · rw [if_pos hp]
    rw [if_pos hp.symm] at h
    cases h2 : Rp.lessB a.m b.m with
    | true => rfl
    | false => exact absurd ⟨hp, Rp.lessB_tri h2 h⟩ hn
  · rw [if_neg hp]
    rw [if_neg (fun e => hp e.symm)] at h
    simp only [decide_eq_false_iff_not, decide_eq_true_eq] at h ⊢
    omega

theorem isort_strict {L : List Rl} (h : KD L) : (St.isort Rp.aheadR L).Pairwise fun a b => Rp.aheadR a b = true := by
  have h1 : St.Srd Rp.aheadR (St.isort Rp.aheadR L) := St.srd_isort swoR L
  have h2 : KD (St.isort Rp.aheadR L) := ((isort_perm Rp.aheadR L).pairwise_iff (fun {a b} hab hba => hab ⟨hba.1.symm, hba.2.symm⟩)).2 h
  unfold St.Srd at h1
  unfold KD at h2
  exact (List.pairwise_and_iff.2 ⟨h1, h2⟩).imp fun h => ahead_total h.1 h.2

theorem isort_any {L M : List Rl} (h : KD L) (hp : M.Perm L) : St.isort Rp.aheadR M = St.isort Rp.aheadR L := by
  have h2 : KD M := (hp.pairwise_iff (fun {a b} hab hba => hab ⟨hba.1.symm, hba.2.symm⟩)).2 h
  refine strict_eq (lt := fun a b => Rp.aheadR a b = true) (fun a ha => ?_) (fun a b c hab hbc => ?_) (isort_strict h2) (isort_strict h) (fun x => ?_)
  · have := Rp.aheadK_swo_irrefl a.p a.m
    unfold Rp.aheadR at ha
    rw [this] at ha
    cases ha
  · exact Rp.aheadK_trans hab hbc
  · rw [(isort_perm Rp.aheadR M).mem_iff, hp.mem_iff, (isort_perm Rp.aheadR L).mem_iff]
end Pr

theorem OwnR.cells {ok : Nat → Prop} {w : World} {base n c : Nat} {ad : Option Addr} {xs : List RC} {L : List Rl} (h : OwnR ok w base (.slice ad n c) xs L) :
    (∀ p, ad = some p → ∀ j u, (cellsR xs)[j]? = some u → w.cell? (p.add j) = some u) ∧ (ad = none → n = 0 ∧ c = 0) := by
  have hl : (cellsR xs).length = L.length * 4 := by rw [cellsR_length, h.len]
  rcases h.row.2 with ⟨h1, h2⟩ | ⟨g, cap, cur, hv, hg, hh, hn, hc, hs, ht⟩
  · injection h1 with e1 e2 e3
    refine ⟨fun p hp j u hj => ?_, fun _ => ⟨e2, e3⟩⟩
    rw [e1] at hp
    cases hp
  · injection hv with e1 e2 e3
    refine ⟨fun p hp j u hj => ?_, fun e => by rw [e1] at e; cases e⟩
    rw [e1] at hp
    injection hp with hp
    subst hp
    have hj4 : j < L.length * 4 := by rw [← hl]; exact (List.getElem?_eq_some_iff.1 hj).1
    have hrow : w.ownsRow base 42 4 (.slice (some ⟨g, 0, none⟩) L.length cap) L.length (cellsR xs) := ⟨h.row.1, .inr ⟨g, cap, cur, rfl, hg, hh, hn, hc, hs, ht⟩⟩
    have hc2 := hrow.cellAt j hj4
    rw [Addr.add_lit, Nat.zero_add, hc2]
    exact hj

theorem lit_ownR {ok : Nat → Prop} {w : World} {base g : Nat} {x : RC} {r : Rl} (hg : g = w.heap.size) (hb : base ≤ g) (h : RdC ok (w.alloc (.cells #[.int .i64 x.p, .string x.m, .int .i64 x.k, .slice x.a x.n x.c] 42)) x r) :
    OwnR ok (w.alloc (.cells #[.int .i64 x.p, .string x.m, .int .i64 x.k, .slice x.a x.n x.c] 42)) base (.slice (some ⟨g, 0, none⟩) 1 1) [x] [r] := by
  subst hg
  exact ⟨World.ownsRow_lit w #[.int .i64 x.p, .string x.m, .int .i64 x.k, .slice x.a x.n x.c] 1 hb (by unfold maxLen; omega) (by simp), rfl, one_rdC h⟩

set_option maxHeartbeats 3200000 in
set_option maxRecDepth 20000 in
theorem rulesAny_any {ok : Nat → Prop} (v : Value) (L0 : List Rl) (w : World) (hr : RdsR ok w v L0) (_ : L0.length * 56 ≤ 140737488351232) : Calls Tryz.prog 5 #[v] w fun e w' => e = .returned (.bool true) ∧ Below w.heap.size w w' := by
  have HF := Lib.hid (fewR_any hr.lt)
  have HA := Lib.hid (fun W => ralive_any W)
  clear hr
  go_enter Tryz.func5, Tryz.ntmps5
  go_wp2_with fail
  refine HF.out.mono ?_
  rintro e w1 ⟨ad, n, cap, rfl, hn, hr, rfl⟩
  obtain ⟨L, hL⟩ : ∃ L, L = L0.take 60 := ⟨_, rfl⟩
  rw [← hL] at hn hr
  have hn60 : n ≤ 60 := by rw [hn, hL, List.length_take]; omega
  have HN := Lib.hid hn
  have HR := Lib.hid hr
  have HOr := Lib.hid (fun W (hW : Below w.heap.size w W) => order_rules (fun b => ok b ∧ b < w.heap.size) _ L W (hr.below hW) (by omega))
  have hcap' := hr.len.2.1
  have hcapm := hr.len.2.2
  unfold maxLen at hcapm
  clear hr hn hL HF
  go_wp2_with fail
  go_loopw [3, 4] (fun s3 s4 wr => ∃ (i : Nat) (ad3 : Option Addr) (c3 : Nat) (xs : List RC), s4 = .int .i64 i ∧ s3 = .slice ad3 i c3 ∧ i ≤ n ∧ Hid (Below w.heap.size w wr) ∧ Hid (OwnR (fun b => ok b ∧ b < w.heap.size) wr w.heap.size (.slice ad3 i c3) xs (L.take i).reverse) ∧ Hid (Pr.KD (L.take i))) (fun _ s4 _ => n - (intOf s4).toNat)
  case atStart => exact ⟨0, none, 0, [], rfl, rfl, Nat.zero_le _, Below.refl _ _, ownR_nil _ _ _, List.Pairwise.nil⟩
  case round =>
    obtain ⟨wo, rfl⟩ : ∃ wo : World, wo = wr := ⟨wr, rfl⟩
    obtain ⟨i, ad3, c3, xs, rfl, rfl, hin, HB, HO, HK⟩ := hrel
    by_cases hlt : i < n
    · have hiL : i < L.length := by rw [← HN.out]; exact hlt
      have hro := HR.out.below HB.out
      obtain ⟨b, off, x, rfl, hb, hbok, x0, x1, x2, x3, hx⟩ := hro.get i hiL
      obtain ⟨r, hrr⟩ : ∃ r, L[i] = r := ⟨_, rfl⟩
      rw [hrr] at hx
      have hrev : (L.take (i + 1)).reverse = [r] ++ (L.take i).reverse := by rw [List.take_succ_eq_append_getElem hiL, hrr, List.reverse_append]; rfl
      have hlen : (L.take i).reverse.length = i := by rw [List.length_reverse, List.length_take]; omega
      obtain ⟨W, hW⟩ : ∃ W, W = wo.alloc (.cells #[.int .i64 x.p, .string x.m, .int .i64 x.k, .slice x.a x.n x.c] 42) := ⟨_, rfl⟩
      have hbW : Below wo.heap.size wo W := by rw [hW]; exact (Below.refl _ _).alloc (Nat.le_refl _) _
      have hlit : OwnR (fun b => ok b ∧ b < w.heap.size) W w.heap.size (.slice (some ⟨wo.heap.size, 0, none⟩) 1 1) [x] [r] := by
        rw [hW]
        exact lit_ownR rfl HB.out.size (by rw [← hW]; exact hx.below hbW)
      have hoW := HO.out.below hbW
      obtain ⟨hcy, hcn⟩ := hoW.cells
      have hsz := HB.out.size
      have HLit := Lib.hid hlit
      have HOW := Lib.hid hoW
      have HCy := Lib.hid hcy
      have HCn := Lib.hid hcn
      have HRev := Lib.hid hrev
      have HLen := Lib.hid hlen
      have HX := Lib.hid hx
      have HBW := Lib.hid hbW
      have hWs := hbW.size
      have HWW := Lib.hid hW
      have HRr := Lib.hid hrr
      clear hro hx hrr hrev hlen hW hbW hlit hoW hcy hcn HO
      go_wp2_with (at_builtin; go_loud (refine wpList_plain rfl (fun _ hK => wp_app_cells (.tmp 18) (.tmp 19) rfl w.heap.size (fun b => ok b ∧ b < w.heap.size) (.slice (some ⟨wo.heap.size, 0, none⟩) 1 1) [x] [r] (by rfl) (by rw [← HWW.out]; exact HLit.out) ad3 i c3 xs (L.take i).reverse (by rfl) HLen.out.symm (by rw [HOW.out.len]) (by rw [← HWW.out]; exact HCy.out) HCn.out (by rw [← HWW.out]; exact HOW.out.rd) (fun b hb e => by injection e with e; have e : wo.heap.size = b := e; have := hb.2; omega) (i + 1) (by rw [HLen.out]; simp; omega) (by omega) (by rw [← HWW.out]; omega) (fun ad5 c5 w5 ho5 hg5 => hK _ _ ?_))); rw [← HWW.out] at hg5; rw [← HRev.out] at ho5; have HO5 := Lib.hid ho5; have HB5 := Lib.hid (HB.out.trans (Below.grown (B := w.heap.size) (a := wo) (HBW.out.mono hsz) hg5 (by omega) (fun k hk => by injection hk with hk; have hk : wo.heap.size = k := hk; omega))); clear ho5 hg5 hK)
      have hri5 := (HR.out.below HB5.out).get i hiL
      have hcw : Hid (∀ W, Below w.heap.size w W → W.cell? ⟨b, off + i * 4, none⟩ = some (.int .i64 r.p) ∧ W.cell? ⟨b, off + i * 4 + 1, none⟩ = some (.string r.m)) := fun W hW => by
        obtain ⟨b9, off9, y, e, _, _, y0, y1, _, _, hy⟩ := (HR.out.below hW).get i hiL
        injection e with e
        injection e with e1 e2 _
        subst e1 e2
        rw [hy.p, HRr.out] at y0
        rw [hy.m, HRr.out] at y1
        exact ⟨y0, y1⟩
      have hi0 : (0 : Int) ≤ (i : Int) := by omega
      have hin0 : (i : Int) < (n : Int) := by omega
      clear hri5 x0 x1 x2 x3 HX HLit HOW HCy HCn HRev HLen HBW hWs HWW
      go_loopw [5] (fun s5 wr => ∃ k : Nat, s5 = .int .i64 k ∧ k ≤ i ∧ Hid (Below w5.heap.size w5 wr) ∧ Hid (∀ y ∈ L.take k, ¬ (r.p = y.p ∧ r.m = y.m))) (fun s5 _ => i - (intOf s5).toNat)
      case atStart => exact ⟨0, rfl, Nat.zero_le _, Below.refl _ _, (show ∀ y ∈ L.take 0, ¬ (r.p = y.p ∧ r.m = y.m) from fun y hy => absurd hy (by simp))⟩
      case round =>
        obtain ⟨wi, rfl⟩ : ∃ wi : World, wi = wr := ⟨wr, rfl⟩
        obtain ⟨k, rfl, hki, HBi, HNo⟩ := hrel
        have hBi : Below w.heap.size w wi := HB5.out.trans (HBi.out.mono HB5.out.size)
        by_cases hlk : k < i
        · have hkL : k < L.length := by omega
          obtain ⟨x0, x1⟩ := hcw.out wi hBi
          obtain ⟨b9, off9, y, e, hbl, _, y0, y1, _, _, hy⟩ := (HR.out.below hBi).get k hkL
          injection e with e
          injection e with e1 e2 _
          subst e1 e2
          have hyp := hy.p
          have hym := hy.m
          have hk0 : (0 : Int) ≤ (k : Int) := by omega
          have hkn : (k : Int) < (n : Int) := by omega
          have htk : ∀ y' ∈ L.take (k + 1), y' ∈ L.take k ∨ (y'.p = y.p ∧ y'.m = y.m) := fun y' hy' => by
            rw [List.take_succ_eq_append_getElem hkL] at hy'
            rcases List.mem_append.1 hy' with h | h
            · exact .inl h
            · simp only [List.mem_singleton] at h
              rw [h]
              exact .inr ⟨hyp.symm, hym.symm⟩
          have HTk := Lib.hid htk
          have HBI := Lib.hid hBi
          clear hy hyp hym htk hBi
          by_cases hp : r.p = y.p
          · by_cases hm : r.m = y.m
            · have e1 : (r.p == y.p) = true := by simpa using hp
              have e2 : (r.m.toList == y.m.toList) = true := by rw [hm]; simp
              clear hp hm
              go_wp2_with fail
              go_quiet (fail)
              go_wp2_with fail
              refine (HA.out _).mono ?_
              rintro e w7 ⟨rfl, hb7⟩
              have HB7 := Lib.hid (HBI.out.trans ((((below_dN (Below.refl wi.heap.size wi) nq).trans (hb7.mono (by simp)))).mono HBI.out.size))
              clear hb7
              go_wp2_with fail
              go_ret
              exact ⟨rfl, HB7.out⟩
            · have e1 : (r.p == y.p) = true := by simpa using hp
              have e2 : (r.m.toList == y.m.toList) = false := by rw [is_eq]; simpa using hm
              have HNn : Hid (∀ y' ∈ L.take (k + 1), ¬ (r.p = y'.p ∧ r.m = y'.m)) := fun y' hy' hh => by
                rcases HTk.out y' hy' with h | ⟨_, h⟩
                · exact HNo.out y' h hh
                · exact hm (hh.2.trans h)
              clear hp hm
              go_wp2_with fail
              go_quiet (fail)
              go_wp2_with fail
              go_roundw
              case rel => exact ⟨k + 1, by first | rfl | go_num, by omega, below_dN HBi.out nq, HNn⟩
              case measure => simp [intOf]; omega
          · have e1 : (r.p == y.p) = false := by simpa using hp
            have HNn : Hid (∀ y' ∈ L.take (k + 1), ¬ (r.p = y'.p ∧ r.m = y'.m)) := fun y' hy' hh => by
              rcases HTk.out y' hy' with h | ⟨h, _⟩
              · exact HNo.out y' h hh
              · exact hp (hh.1.trans h)
            clear hp
            go_wp2_with fail
            go_quiet (fail)
            go_wp2_with fail
            go_roundw
            case rel => exact ⟨k + 1, by first | rfl | go_num, by omega, below_dN HBi.out nq, HNn⟩
            case measure => simp [intOf]; omega
        · have hki' : k = i := by omega
          have HKn : Hid (Pr.KD (L.take (i + 1))) := by
            show Pr.KD _
            rw [List.take_succ_eq_append_getElem hiL, HRr.out]
            unfold Pr.KD
            refine List.pairwise_append.2 ⟨HK.out, List.pairwise_singleton _ _, fun a ha c hc => ?_⟩
            simp only [List.mem_singleton] at hc
            subst hc
            have h := HNo.out
            rw [hki'] at h
            exact fun hh => h a ha ⟨hh.1.symm, hh.2.symm⟩
          have HBI := Lib.hid hBi
          have HOi := Lib.hid (HO5.out.below HBi.out)
          clear hki' hBi HO5 HK
          go_wp2_with fail
          go_roundw
          case rel => exact ⟨i + 1, ad5, c5, [x] ++ xs, by first | rfl | go_num, rfl, by omega, HBI.out, HOi.out, HKn⟩
          case measure => simp [intOf]; omega
    · have hie : i = L.length := by rw [← HN.out]; omega
      have hte : L.take i = L := by rw [hie, List.take_length]
      rw [hte] at HK HO
      have HO1 := Lib.hid (HOr.out wo HB.out)
      have HRb := Lib.hid HO.out.toRds'
      have HSm : Hid (St.isort Rp.aheadR L.reverse = St.isort Rp.aheadR L) := Pr.isort_any HK.out (List.reverse_perm L)
      clear hie hte HO HK
      go_wp2_with fail
      refine HO1.out.mono ?_
      rintro e w2 ⟨v2, rfl, hr2, hb2⟩
      have HR2 := Lib.hid hr2
      have HB2 := Lib.hid (HB.out.trans (hb2.mono HB.out.size))
      have HO2 := Lib.hid (order_rules _ _ _ w2 (HRb.out.below hb2) (by rw [List.length_reverse, ← HN.out]; omega))
      clear hr2 hb2 HO1
      go_wp2_with fail
      refine HO2.out.mono ?_
      rintro e w3 ⟨v3, rfl, hr3, hb3⟩
      rw [HSm.out] at hr3
      have HB3 := Lib.hid (HB2.out.trans (hb3.mono HB2.out.size))
      have HS := Lib.hid (sameRules_same _ _ _ _ _ w3 (HR2.out.below hb3) hr3)
      clear hr3 hb3 HO2
      go_wp2_with fail
      refine HS.out.mono ?_
      rintro e w4 ⟨rfl, hg4⟩
      have HB4 := Lib.hid (HB3.out.trans (hg4.below.mono HB3.out.size))
      clear hg4 HS
      go_wp2_with fail
      refine (HA.out _).mono ?_
      rintro e w7 ⟨rfl, hb7⟩
      have HB7 := Lib.hid (HB4.out.trans (hb7.mono HB4.out.size))
      clear hb7
      go_wp2_with fail
      go_ret
      exact ⟨rfl, HB7.out⟩
end Go.Proofs.YtbjkbcbclgfmpaaGreatDoor
