/-
  Walks: Text and Load of a table, of code and reference.
-/
import Derived.Test.YtlamhpiiikcpiaaGreatDoorFibTA
namespace Go.Proofs.YtlamhpiiikcpiaaGreatDoor
open Go.RowKit Go.Shelf Go.Lib Go.Sort
set_option linter.unusedVariables false
set_option linter.unusedSectionVars false
set_option linter.unusedSimpArgs false
set_option maxHeartbeats 1600000 in
set_option maxRecDepth 20000 in
theorem text_tab {ok : Nat → Prop} {w : World} {tb : Nat} {v : Value} {L : List Rl} {W : Int} {t : List UInt8} (h : Tab 0 1 ok w tb v L W) (hp : Pr.print L W = .ok t) (ht : Tab10 w) :
    Calls Tryz.prog 7 #[.pointer (some ⟨tb, 0, none⟩)] w fun e w' => e = .returned (.tuple #[.string (Wd.mkB t), .int .i64 0]) ∧ Below w.heap.size w w' := by
  have HI := Lib.hid (is_tab h)
  have HP : Hid (∀ Wx, Below w.heap.size w Wx → Calls Tryz.prog 24 #[v, .int .i64 W] Wx fun e w' => e = .returned (.tuple #[.string (Wd.mkB t), .int .i64 0, .int .i64 0]) ∧ Below w.heap.size w w') := fun Wx hWx => by
    refine (print_any (h.rd.below hWx) W (.inr (tab10_below ht hWx))).mono ?_
    intro e w' hq
    unfold PrintPost at hq
    rw [hp] at hq
    exact ⟨hq.1, hWx.trans (hq.2.mono hWx.size)⟩
  have c0 := h.c0
  have c1 := h.c1
  clear h hp ht
  go_enter Tryz.func7, Tryz.ntmps7
  go_wp2_with fail
  refine HI.out.mono ?_
  rintro e w1 ⟨rfl, rfl⟩
  go_upto_region 3 with fail
  go_region_with (go_at_call 24; refine (HP.out _ (by repeat (first | (with_reducible exact Below.refl _ _) | (with_reducible refine Below.drew ?_)))).mono ?_; rintro _ w2 ⟨rfl, hb2⟩)
  all_goals
    have HB2 := Lib.hid hb2
    clear hb2 c0 c1
    go_wp2_with fail
    go_ret2
    exact ⟨rfl, HB2.out⟩
set_option maxHeartbeats 1600000 in
set_option maxRecDepth 20000 in
theorem rtext_tab {ok : Nat → Prop} {w : World} {tb : Nat} {v : Value} {L : List Rl} {W : Int} {t : List UInt8} (h : Tab 1 0 ok w tb v L W) (hp : Pr.print L W = .ok t) (ht : Tab10 w) :
    Calls Tryz.prog 8 #[.pointer (some ⟨tb, 0, none⟩)] w fun e w' => e = .returned (.tuple #[.string (Wd.mkB t), .int .i64 0]) ∧ Below w.heap.size w w' := by
  have HP : Hid (∀ Wx, Below w.heap.size w Wx → Calls Tryz.prog 25 #[v, .int .i64 W] Wx fun e w' => e = .returned (.tuple #[.string (Wd.mkB t), .int .i64 0, .int .i64 0]) ∧ Below w.heap.size w w') := fun Wx hWx => by
    refine (rprint_any (h.rd.below hWx) W (.inr (tab10_below ht hWx))).mono ?_
    intro e w' hq
    unfold PrintPost at hq
    rw [hp] at hq
    exact ⟨hq.1, hWx.trans (hq.2.mono hWx.size)⟩
  have c0 := h.c0
  have c1 := h.c1
  clear h hp ht
  go_enter Tryz.func8, Tryz.ntmps8
  go_upto_region 1 with fail
  go_region_with (go_at_call 25; refine (HP.out _ (by repeat (first | (with_reducible exact Below.refl _ _) | (with_reducible refine Below.drew ?_)))).mono ?_; rintro _ w2 ⟨rfl, hb2⟩)
  all_goals
    have HB2 := Lib.hid hb2
    clear hb2 c0 c1
    go_wp2_with fail
    go_ret2
    exact ⟨rfl, HB2.out⟩
/-- What Load comes to: line, column, code, the table's rules. -/
def loadL (s : ByteArray) (W : Int) (L : List Rl) : Int × Int × Int × List Rl :=
  match Pr.parseX s W with
  | .ok M => (0, 0, 0, St.isort Rp.aheadR M)
  | .error (c, l, k) => (l, k, c, L)
theorem loadL_few {s : ByteArray} {W : Int} {L : List Rl} (h : L.length ≤ 4096) : (loadL s W L).2.2.2.length ≤ 4096 := by
  unfold loadL
  split
  · rename_i M hM
    show (St.isort Rp.aheadR M).length ≤ 4096
    rw [St.length_isort]
    exact Pr.parseX_few hM
  · exact h
/-- What Load answers and leaves. -/
def LoadPost (vo wo : Nat) (ok : Nat → Prop) (s : ByteArray) (W : Int) (L : List Rl) (tb : Nat) (w : World) (e : Ending) (w' : World) : Prop :=
  e = .returned (.tuple #[.int .i64 (loadL s W L).1, .int .i64 (loadL s W L).2.1, .int .i64 (loadL s W L).2.2.1]) ∧ (∃ v', Tab vo wo (okNew ok w) w' tb v' (loadL s W L).2.2.2 W) ∧ But (fun b => b = tb) w w'
set_option maxHeartbeats 3200000 in
set_option maxRecDepth 20000 in
theorem load_tab {ok : Nat → Prop} {w : World} {tb : Nat} {v : Value} {L : List Rl} {W : Int} (s : ByteArray) (h : Tab 0 1 ok w tb v L W) :
    Calls Tryz.prog 10 #[.pointer (some ⟨tb, 0, none⟩), .string s] w (LoadPost 0 1 ok s W L tb w) := by
  have HI := Lib.hid (is_tab h)
  have HP := Lib.hid (fun Wx => parseX_any s W Wx h.lo h.hi)
  have c1 := h.c1
  have H := Lib.hid h
  have htb := h.lt
  clear h
  cases hpr : Pr.parseX s W with
  | error q =>
    obtain ⟨c, l, k⟩ := q
    have hc : ¬ (c : Int) = 0 := Pr.parseX_error hpr
    have HLd : Hid (loadL s W L = ((l : Int), (k : Int), c, L)) := by show _ = _; unfold loadL; rw [hpr]
    have HPr := Lib.hid hpr
    clear hpr
    go_enter Tryz.func10, Tryz.ntmps10
    go_wp2_with fail
    refine HI.out.mono ?_
    rintro e w1 ⟨rfl, rfl⟩
    go_wp2_with fail
    refine (HP.out _).mono ?_
    intro e2 w2 hp2
    unfold ParsePostX at hp2
    rw [HPr.out] at hp2
    obtain ⟨rfl, hb2⟩ := hp2
    have hb : Below w.heap.size w w2 := hb2
    have HB := Lib.hid hb
    clear hb hb2 c1
    go_wp2_with fail
    go_ret3
    have hno : ∀ b, okNew ok w b → b ≠ tb := fun b hb => hb.elim (fun h => H.out.no b h.1) (fun h => by omega)
    have h2 := H.out.below HB.out
    unfold LoadPost
    rw [HLd.out]
    exact ⟨rfl, ⟨v, h2.c0, h2.c1, h2.f0, (H.out.rd.lt.below HB.out).mono fun b hb => .inl hb, hno, H.out.lo, H.out.hi⟩, But.below HB.out⟩
  | ok M =>
    have hfew := Pr.parseX_few hpr
    have HLd : Hid (loadL s W L = (0, 0, 0, St.isort Rp.aheadR M)) := by show _ = _; unfold loadL; rw [hpr]
    have HPr := Lib.hid hpr
    have HFew := Lib.hid hfew
    obtain ⟨n, hn⟩ : ∃ n, n = M.length := ⟨_, rfl⟩
    have HN := Lib.hid hn
    clear hpr hn hfew
    go_enter Tryz.func10, Tryz.ntmps10
    go_wp2_with fail
    refine HI.out.mono ?_
    rintro e w1 ⟨rfl, rfl⟩
    go_wp2_with fail
    refine (HP.out _).mono ?_
    intro e2 w2 hp2
    unfold ParsePostX at hp2
    rw [HPr.out] at hp2
    obtain ⟨ad, cp, rfl, hr2, hb2⟩ := hp2
    rw [← HN.out] at hr2 ⊢
    have hb : Below w.heap.size w w2 := hb2
    have HO := Lib.hid (order_rules _ _ M w2 hr2 (by have := HFew.out; omega))
    have HB := Lib.hid hb
    clear hb hb2 c1 hr2
    go_wp2_with fail
    refine HO.out.mono ?_
    rintro e w3 ⟨v3, rfl, hr3, hb3⟩
    have hb13 : Below w.heap.size w w3 := HB.out.trans (hb3.mono HB.out.size)
    have hs2 := HB.out.size
    have t2 := (hb13.cell (p := ⟨tb, 0, none⟩) htb).trans H.out.c0
    have t3 := (hb13.cell (p := ⟨tb, 1, none⟩) htb).trans H.out.c1
    have f2 := ((But.below hb13).frozen (S := fun _ => False) (p := ⟨tb, 0, none⟩) htb (fun h => h)).trans H.out.f0
    have HB3 := Lib.hid hb13
    have HR3 := Lib.hid hr3
    have HS2 := Lib.hid hs2
    obtain ⟨ad3, cp3, rfl, _, _⟩ := hr3.form
    clear hb3 hb13 hr3 hs2
    go_wp2_with fail
    go_ret3
    have hbt : But (fun b => b = tb) w3 (w3.setCell ⟨tb, 0, none⟩ (.slice ad3 (St.isort Rp.aheadR M).length cp3)) := But.set (S := fun b => b = tb) (a := ⟨tb, 0, none⟩) rfl _
    have hno : ∀ b, okNew ok w b → b ≠ tb := fun b hb => hb.elim (fun h => H.out.no b h.1) (fun h => by omega)
    unfold LoadPost
    rw [HLd.out]
    refine ⟨rfl, ⟨_, cell_set_same _ t2, (cell_set_other _ (by simp)).trans t3, by first | exact f2 | (simp [go_sem]; exact f2), ?_, hno, H.out.lo, H.out.hi⟩, (But.below HB3.out).trans hbt⟩
    exact RdsR.but (HR3.out.mono (ok' := okNew ok w) fun b hb => .inr (Nat.le_trans HS2.out hb)) hbt (fun b hb e => hno b hb e)
set_option maxHeartbeats 3200000 in
set_option maxRecDepth 20000 in
theorem rload_tab {ok : Nat → Prop} {w : World} {tb : Nat} {v : Value} {L : List Rl} {W : Int} (s : ByteArray) (h : Tab 1 0 ok w tb v L W) :
    Calls Tryz.prog 13 #[.pointer (some ⟨tb, 0, none⟩), .string s] w (LoadPost 1 0 ok s W L tb w) := by
  have HP := Lib.hid (fun Wx => rparseX_any s W Wx h.lo h.hi)
  have c1 := h.c1
  have H := Lib.hid h
  have htb := h.lt
  clear h
  cases hpr : Pr.parseX s W with
  | error q =>
    obtain ⟨c, l, k⟩ := q
    have hc : ¬ (c : Int) = 0 := Pr.parseX_error hpr
    have HLd : Hid (loadL s W L = ((l : Int), (k : Int), c, L)) := by show _ = _; unfold loadL; rw [hpr]
    have HPr := Lib.hid hpr
    clear hpr
    go_enter Tryz.func13, Tryz.ntmps13
    go_wp2_with fail
    refine (HP.out _).mono ?_
    intro e2 w2 hp2
    unfold ParsePostX at hp2
    rw [HPr.out] at hp2
    obtain ⟨rfl, hb2⟩ := hp2
    have hb : Below w.heap.size w w2 := hb2
    have HB := Lib.hid hb
    clear hb hb2 c1
    go_wp2_with fail
    go_ret3
    have hno : ∀ b, okNew ok w b → b ≠ tb := fun b hb => hb.elim (fun h => H.out.no b h.1) (fun h => by omega)
    have h2 := H.out.below HB.out
    unfold LoadPost
    rw [HLd.out]
    exact ⟨rfl, ⟨v, h2.c0, h2.c1, h2.f0, (H.out.rd.lt.below HB.out).mono fun b hb => .inl hb, hno, H.out.lo, H.out.hi⟩, But.below HB.out⟩
  | ok M =>
    have hfew := Pr.parseX_few hpr
    have HLd : Hid (loadL s W L = (0, 0, 0, St.isort Rp.aheadR M)) := by show _ = _; unfold loadL; rw [hpr]
    have HPr := Lib.hid hpr
    have HFew := Lib.hid hfew
    obtain ⟨n, hn⟩ : ∃ n, n = M.length := ⟨_, rfl⟩
    have HN := Lib.hid hn
    clear hpr hn hfew
    go_enter Tryz.func13, Tryz.ntmps13
    go_wp2_with fail
    refine (HP.out _).mono ?_
    intro e2 w2 hp2
    unfold ParsePostX at hp2
    rw [HPr.out] at hp2
    obtain ⟨ad, cp, rfl, hr2, hb2⟩ := hp2
    rw [← HN.out] at hr2 ⊢
    have hb : Below w.heap.size w w2 := hb2
    have HO := Lib.hid (rOrder_rules _ _ M w2 hr2 (by have := HFew.out; omega))
    have HB := Lib.hid hb
    clear hb hb2 c1 hr2
    go_wp2_with fail
    refine HO.out.mono ?_
    rintro e w3 ⟨v3, rfl, hr3, hb3⟩
    have hb13 : Below w.heap.size w w3 := HB.out.trans (hb3.mono HB.out.size)
    have hs2 := HB.out.size
    have t2 := (hb13.cell (p := ⟨tb, 1, none⟩) htb).trans H.out.c0
    have t3 := (hb13.cell (p := ⟨tb, 0, none⟩) htb).trans H.out.c1
    have f2 := ((But.below hb13).frozen (S := fun _ => False) (p := ⟨tb, 1, none⟩) htb (fun h => h)).trans H.out.f0
    have HB3 := Lib.hid hb13
    have HR3 := Lib.hid hr3
    have HS2 := Lib.hid hs2
    obtain ⟨ad3, cp3, rfl, _, _⟩ := hr3.form
    clear hb3 hb13 hr3 hs2
    go_wp2_with fail
    go_ret3
    have hbt : But (fun b => b = tb) w3 (w3.setCell ⟨tb, 1, none⟩ (.slice ad3 (St.isort Rp.aheadR M).length cp3)) := But.set (S := fun b => b = tb) (a := ⟨tb, 1, none⟩) rfl _
    have hno : ∀ b, okNew ok w b → b ≠ tb := fun b hb => hb.elim (fun h => H.out.no b h.1) (fun h => by omega)
    unfold LoadPost
    rw [HLd.out]
    refine ⟨rfl, ⟨_, cell_set_same _ t2, (cell_set_other _ (by simp)).trans t3, by first | exact f2 | (simp [go_sem]; exact f2), ?_, hno, H.out.lo, H.out.hi⟩, (But.below HB3.out).trans hbt⟩
    exact RdsR.but (HR3.out.mono (ok' := okNew ok w) fun b hb => .inr (hb.elim (fun h => Nat.le_trans HS2.out h) (fun h => h.1))) hbt (fun b hb e => hno b hb e)
end Go.Proofs.YtlamhpiiikcpiaaGreatDoor
