/-
  Walks: SameRule of a rule with itself; FibMeets.
-/
import Derived.Test.YtlbelkjgaeaaeaaGreatSrD
namespace Go.Proofs.YtlbelkjgaeaaeaaGreat
open Go.RowKit Go.Shelf Go.Lib Go.Sort
set_option linter.unusedVariables false
set_option linter.unusedSectionVars false
set_option linter.unusedSimpArgs false

end Go.Proofs.YtlbelkjgaeaaeaaGreat
/-
  Walks: slices.Clone at strings, copied and the reference's Copy, with what is new in them: the ports' cells may be written.
-/
namespace Go.Proofs.YtlbelkjgaeaaeaaGreat
open Go.RowKit Go.Shelf Go.Lib Go.Sort
set_option linter.unusedVariables false
set_option linter.unusedSectionVars false
set_option linter.unusedSimpArgs false

/-- The cells of a rule's ports may be written. -/
def Pf (w : World) (x : RC) : Prop := ∀ b off, x.a = some ⟨b, off, none⟩ → ∀ k, k < x.n → w.frozen? ⟨b, off + k, none⟩ = false

theorem Pf.but {ok S : Nat → Prop} {w w' : World} {x : RC} {r : Rl} (h : Pf w x) (hx : RdC ok w x r) (hb : But S w w') (hs : ∀ b, ok b → ¬ S b) : Pf w' x := by
  intro b off ha k hk
  have hl := hx.s.lt.2 ⟨b, off, none⟩ x.n x.c (by rw [ha]) (by omega)
  exact (hb.frozen (p := ⟨b, off + k, none⟩) hl.2 (hs b hl.1)).trans (h b off ha k hk)
theorem Pf.below {ok : Nat → Prop} {w w' : World} {x : RC} {r : Rl} (h : Pf w x) (hx : RdC ok w x r) (hb : Below w.heap.size w w') : Pf w' x := h.but hx (But.below (S := fun _ => False) hb) (fun _ _ h => h)

theorem ownsRow_pf {w : World} {base : Nat} {e : TypeId} {ad : Option Addr} {n c : Nat} {xs : List Value} (h : w.ownsRow base e 1 (.slice ad n c) n xs) : ∀ b off, ad = some ⟨b, off, none⟩ → ∀ k, k < n → w.frozen? ⟨b, off + k, none⟩ = false := by
  intro b off ha k hk
  subst ha
  have hoff : off = 0 := by
    rcases h.2 with ⟨h1, _⟩ | ⟨g, cap, cur, hv, _⟩
    · cases h1
    · injection hv with e1 _ _
      injection e1 with e1
      injection e1
  subst hoff
  rw [Nat.zero_add]
  exact h.frozenAt k

set_option maxHeartbeats 800000 in
set_option maxRecDepth 20000 in
theorem cloneS_own (v : Value) (ps : List ByteArray) (w : World) (hr : RdsS w v ps) (hn : ps.length * 16 ≤ 140737488351232) :
    Calls Tryz.prog 46 #[v] w fun e w' => ∃ ad c, e = .returned (.slice ad ps.length c) ∧ RdsO (fun b => w.heap.size ≤ b) w' (.slice ad ps.length c) ps ∧ (∀ b off, ad = some ⟨b, off, none⟩ → ∀ k, k < ps.length → w'.frozen? ⟨b, off + k, none⟩ = false) ∧ Below w.heap.size w w' := by
  obtain ⟨i0, hi, hz0, hz1, hz2⟩ := info_parts infoS
  have HR := Lib.hid hr
  obtain ⟨ad, len, cap, rfl, hl, hlm, hel⟩ := rdsS_form hr
  clear hel hr
  unfold maxLen at hlm
  cases ad with
  | none =>
    obtain ⟨e1, e2, e3⟩ := rdsS_nilcap HR.out
    subst e2 e3
    have hp := Lib.hid e1
    clear hl e1
    have hnn : ∀ W : World, (binOp .eql 58 (.slice none 0 0) (.slice none 0 0)).run Tryz.prog W = .ok (.bool true) W := fun W => Lib.run_eql_slice_nil W _ _ _ _ _ _ _ Tryz.underlying58
    go_enter Tryz.func46, Tryz.ntmps46
    go_wp2_with fail
    go_ret
    refine ⟨none, 0, by rw [hp.out]; rfl, ?_, (fun b off h => by cases h), Below.refl _ _⟩
    rw [hp.out]
    exact ⟨rdsS_nil _, okV_nil _ _ _⟩
  | some a =>
    have HL := Lib.hid hl
    have HN := Lib.hid hn
    have hown := lit0_rowE (w := w) (e := 9) (k := 1) (g := w.heap.size) (b := w.heap.size) rfl (Nat.le_refl _)
    have HOW := Lib.hid hown
    have hb := (Below.refl w.heap.size w).alloc (Nat.le_refl _) (.cells #[] 9)
    have HR2 := Lib.hid (HR.out.below hb)
    have HB := Lib.hid hb
    clear hl hn hb hown
    have hnn : ∀ W : World, (binOp .eql 58 (.slice (some a) len cap) (.slice none 0 0)).run Tryz.prog W = .ok (.bool false) W := fun W => Lib.run_eql_slice_nil W _ _ _ _ _ _ _ Tryz.underlying58
    go_enter Tryz.func46, Tryz.ntmps46
    go_wp2_with (at_builtin; go_loud (refine wpList_append_rds rfl (.tmp 5) (.tmp 6) _ rfl w.heap.size 9 i0 _ 16 Tryz.underlying58 hi hz0 hz1 hz2 rfl _ 0 [] rfl HOW.out _ (ps.map Value.string) rfl HR2.out str_one len (by rw [List.length_map]; have := HL.out; omega) (by unfold maxLen; omega) (by have := HL.out; have := HN.out; omega) (by simp) ?_); intro ad2 cap2 w2 h2 hg; have HO := Lib.hid h2; have HG := Lib.hid hg; clear h2 hg)
    go_ret
    have HG2 : Below w.heap.size w w2 := HB.out.grown HG.out (by simp) (fun k hk => by injection hk with hk; subst hk; exact Nat.le_refl _)
    refine ⟨ad2, cap2, by rw [← HL.out]; rfl, ?_, by rw [← HL.out]; exact ownsRow_pf HO.out, HG2⟩
    rw [← HL.out]
    refine ⟨?_, ?_⟩
    · have := ownsRow_rds HO.out
      show Rds _ _ _
      simpa using this
    · intro a' n' c' hv hn'
      injection hv with e1 _ _
      have := (HO.out.lt a'.block (by rw [e1]; rfl)).1
      exact this

set_option maxHeartbeats 1600000 in
set_option maxRecDepth 20000 in
theorem copied_own (ok : Nat → Prop) (v : Value) (L : List Rl) (w : World) (hr : RdsR ok w v L) (hn : L.length * 56 ≤ 140737488355328) :
    Calls Tryz.prog 40 #[v] w fun e w' => ∃ ad c xs, e = .returned (.slice ad L.length c) ∧ OwnR (okF w.heap.size (.slice ad L.length c)) w' w.heap.size (.slice ad L.length c) xs L ∧ (∀ j (h : j < xs.length), Pf w' xs[j]) ∧ Below w.heap.size w w' := by
  have HR := Lib.hid hr
  obtain ⟨n, hnl⟩ : ∃ n, n = L.length := ⟨_, rfl⟩
  have HN : Hid (n = L.length) := hnl
  have hnb : n * 56 ≤ 140737488355328 := by rw [hnl]; exact hn
  obtain ⟨ad0, cap0, rfl, hnc, hcm⟩ := hr.form
  rw [← hnl] at HR hnc ⊢
  unfold maxLen at hcm
  clear hr hn hnl
  go_enter Tryz.func40, Tryz.ntmps40
  go_wp2_with fail
  go_loopw [3, 8] (fun s3 s8 wr => ∃ (i : Nat) (ad : Option Addr) (c : Nat) (xs : List RC), s8 = .int .i64 i ∧ s3 = .slice ad i c ∧ i ≤ n ∧ Hid (xs.length = i) ∧ Hid (OwnR (okF w.heap.size (.slice ad i c)) wr w.heap.size (.slice ad i c) xs (L.take i)) ∧ Hid (∀ j (h : j < xs.length), Pf wr xs[j]) ∧ Hid (Below w.heap.size w wr)) (fun _ s8 _ => n - (intOf s8).toNat)
  case atStart => exact ⟨0, none, 0, [], rfl, rfl, Nat.zero_le _, rfl, ownR_nil _ _ _, (fun j h => absurd h (Nat.not_lt_zero _)), Below.refl _ _⟩
  case round =>
    obtain ⟨wo, rfl⟩ : ∃ wo : World, wo = wr := ⟨wr, rfl⟩
    obtain ⟨i, ad, c, xs, rfl, rfl, hin, HXl, HO, HPf, HB⟩ := hrel
    by_cases hlt : i < n
    · have hiL : i < L.length := by rw [← HN.out]; exact hlt
      obtain ⟨b, off, x, rfl, hb, _, x0, x1, x2, x3, hx⟩ := HR.out.get i hiL
      have X0 := (HB.out.cell (p := ⟨b, off + i * 4, none⟩) hb).trans x0
      have X1 := (HB.out.cell (p := ⟨b, off + i * 4 + 1, none⟩) hb).trans x1
      have X2 := (HB.out.cell (p := ⟨b, off + i * 4 + 2, none⟩) hb).trans x2
      have X3 := (HB.out.cell (p := ⟨b, off + i * 4 + 3, none⟩) hb).trans x3
      obtain ⟨r, hrr⟩ : ∃ r, L[i] = r := ⟨_, rfl⟩
      rw [hrr] at hx
      have HRr := Lib.hid hrr
      have HXx := Lib.hid hx
      obtain ⟨W2, hW2⟩ : ∃ W2, W2 = wo.alloc (.cells #[.int .i64 x.p, .string x.m, .int .i64 x.k, .slice x.a x.n x.c] 62) := ⟨_, rfl⟩
      have hg2 : Grn wo W2 := by rw [hW2]; exact (Grn.refl _).alloc _
      have HG2 := Lib.hid hg2
      have HCS := Lib.hid (cloneS_own (.slice x.a x.n x.c) r.ps W2 ((hx.s.1.below HB.out).below hg2.below) hx.z.n)
      have HHp : Hid (W2.heap[wo.heap.size]? = some (.cells #[.int .i64 x.p, .string x.m, .int .i64 x.k, .slice x.a x.n x.c] 62 (0, 0))) := by rw [hW2]; exact heap_alloc_new _ _
      have hw2s : W2.heap.size = wo.heap.size + 1 := by rw [hW2]; simp
      have HW2s := Lib.hid hw2s
      have y3 : W2.cell? ⟨wo.heap.size, 2 + 1, none⟩ = some (.slice x.a x.n x.c) := by rw [hW2]; simp [go_sem]
      have HW2 := Lib.hid hW2
      clear x0 x1 x2 x3 hx hrr hg2 hW2 hw2s
      go_upto_region 5 with fail
      rw [← HW2.out]
      clear HW2 X0 X1 X2 X3
      go_wp2_with fail
      refine HCS.out.mono ?_
      rintro e w3 ⟨ad2, c2, rfl, hrd, hfr3, hb3⟩
      have hlt2 : wo.heap.size < W2.heap.size := by rw [HW2s.out]; omega
      have hh3 : w3.heap[wo.heap.size]? = some (.cells #[.int .i64 x.p, .string x.m, .int .i64 x.k, .slice x.a x.n x.c] 62 (0, 0)) := by rw [hb3.block _ hlt2]; exact HHp.out
      have z0 : w3.cell? ⟨wo.heap.size, 0, none⟩ = some (.int .i64 x.p) := by simp [World.cell?, hh3]
      have z1 : w3.cell? ⟨wo.heap.size, 1, none⟩ = some (.string x.m) := by simp [World.cell?, hh3]
      have z2 : w3.cell? ⟨wo.heap.size, 2, none⟩ = some (.int .i64 x.k) := by simp [World.cell?, hh3]
      have z3 : w3.cell? ⟨wo.heap.size, 3, none⟩ = some (.slice x.a x.n x.c) := by simp [World.cell?, hh3]
      have f3 : w3.frozen? ⟨wo.heap.size, 3, none⟩ = false := by simp [World.frozen?, hh3]
      obtain ⟨w5, hw5⟩ : ∃ w5, w5 = w3.setCell ⟨wo.heap.size, 3, none⟩ (.slice ad2 r.ps.length c2) := ⟨_, rfl⟩
      have hbw5 : Below wo.heap.size wo w5 := by
        rw [hw5]
        refine (HG2.out.below.trans (hb3.mono (by rw [HW2s.out]; omega))).setCell ?_ _
        show wo.heap.size ≤ wo.heap.size
        omega
      have hbut5 : But (fun b => b = wo.heap.size) w3 w5 := by rw [hw5]; exact But.set (S := fun b => b = wo.heap.size) (a := ⟨wo.heap.size, 3, none⟩) rfl _
      have hs35 : w3.heap.size ≤ w5.heap.size := hbut5.size
      have hW2w3 := hb3.size
      have HOw := Lib.hid (HO.out.below (hbw5.alloc hbw5.size (.cells #[.int .i64 x.p, .string x.m, .int .i64 x.k, .slice ad2 r.ps.length c2] 62)))
      have HYr : Hid (RdC (okF w.heap.size (.slice ad i c)) (w5.alloc (.cells #[.int .i64 x.p, .string x.m, .int .i64 x.k, .slice ad2 r.ps.length c2] 62)) ⟨x.p, x.m, x.k, ad2, r.ps.length, c2⟩ r) := by
        refine ⟨HXx.out.p, HXx.out.m, HXx.out.k, ?_, HXx.out.z⟩
        refine ((hrd.but hbut5 (fun b hb e => by omega)).below ((Below.refl _ _).alloc (Nat.le_refl _) _)).mono (fun b hb => ⟨by have := HB.out.size; have := HW2s.out; omega, fun e => ?_⟩)
        have := (HO.out.row.lt b e).2
        have := HW2s.out
        omega
      have HPy : Hid (Pf (w5.alloc (.cells #[.int .i64 x.p, .string x.m, .int .i64 x.k, .slice ad2 r.ps.length c2] 62)) ⟨x.p, x.m, x.k, ad2, r.ps.length, c2⟩) := by
        have hrc : RdC (fun b => W2.heap.size ≤ b) w3 ⟨x.p, x.m, x.k, ad2, r.ps.length, c2⟩ r := ⟨HXx.out.p, HXx.out.m, HXx.out.k, hrd, HXx.out.z⟩
        have hp3 : Pf w3 ⟨x.p, x.m, x.k, ad2, r.ps.length, c2⟩ := hfr3
        have hns : ∀ b, W2.heap.size ≤ b → ¬ b = wo.heap.size := fun b hb e => by omega
        exact (hp3.but hrc hbut5 hns).below (hrc.but hbut5 hns) ((Below.refl _ _).alloc (Nat.le_refl _) _)
      have HPo : Hid (∀ j (h : j < xs.length), Pf (w5.alloc (.cells #[.int .i64 x.p, .string x.m, .int .i64 x.k, .slice ad2 r.ps.length c2] 62)) xs[j]) := fun j h => by
        have h2 : j < (L.take i).length := by rw [← HO.out.len]; exact h
        exact (HPf.out j h).below (HO.out.rd j h h2) (hbw5.alloc hbw5.size _)
      have HBw5 : Hid (Below w.heap.size w w5) := HB.out.trans (hbw5.mono HB.out.size)
      have hbsz := HB.out.size
      have HOl : Hid ((L.take i).length = i) := by show _ = _; rw [List.length_take]; omega
      have HW5 := Lib.hid hw5
      have q0 : w5.cell? ⟨wo.heap.size, 0, none⟩ = some (.int .i64 x.p) := by rw [hw5]; exact (cell_set_other _ (by simp)).trans z0
      have q1 : w5.cell? ⟨wo.heap.size, 1, none⟩ = some (.string x.m) := by rw [hw5]; exact (cell_set_other _ (by simp)).trans z1
      have q2 : w5.cell? ⟨wo.heap.size, 2, none⟩ = some (.int .i64 x.k) := by rw [hw5]; exact (cell_set_other _ (by simp)).trans z2
      have q3 : w5.cell? ⟨wo.heap.size, 3, none⟩ = some (.slice ad2 r.ps.length c2) := by rw [hw5]; exact cell_set_same _ z3
      clear hrd hfr3 hb3 hh3 hbut5 hw5 hW2w3 hs35 hlt2 y3
      go_upto_region 6 with fail
      rw [← HW5.out]
      clear z0 z1 z2 z3 f3 HW5
      go_wp2_with (at_builtin; go_loud (refine wpList_plain rfl (fun _ hK => wp_app_one (.tmp 18) (.tmp 20) rfl w.heap.size _ xs (L.take i) (by rfl) HOw.out w5.heap.size 1 ⟨x.p, x.m, x.k, ad2, r.ps.length, c2⟩ r (by rfl) (heap_alloc_new _ _) HYr.out (i + 1) (by rw [HOl.out]) (by omega) (by have := HBw5.out.size; simp; omega) (fun ad4 c4 w4 ho4 hg4 => hK _ _ ?_))); have HO4 := Lib.hid ho4; have HG4 := Lib.hid hg4; clear ho4 hg4)
      have HB4 : Hid (Below w.heap.size w w4) := (HBw5.out.alloc HBw5.out.size _).grown HG4.out (by have := HBw5.out.size; simp; omega) (fun k hk => (HO.out.row.lt k hk).1)
      have HF4 : Hid (L.take i ++ [r] = L.take (i + 1)) := by show _ = _; rw [List.take_succ_eq_append_getElem hiL, HRr.out]
      have HP4 : Hid (∀ j (h : j < (xs ++ [(⟨x.p, x.m, x.k, ad2, r.ps.length, c2⟩ : RC)]).length), Pf w4 (xs ++ [(⟨x.p, x.m, x.k, ad2, r.ps.length, c2⟩ : RC)])[j]) := fun j h => by
        have hbut : But (fun b => (Value.slice ad i c).ownBlock = some b) (w5.alloc (.cells #[.int .i64 x.p, .string x.m, .int .i64 x.k, .slice ad2 r.ps.length c2] 62)) w4 := ⟨HG4.out.os, HG4.out.tape, HG4.out.output, HG4.out.size, fun k hk hn => HG4.out.block k hk (fun e => hn e.symm)⟩
        by_cases hj : j < xs.length
        · have e : (xs ++ [(⟨x.p, x.m, x.k, ad2, r.ps.length, c2⟩ : RC)])[j] = xs[j] := List.getElem_append_left hj
          rw [e]
          have h2 : j < (L.take i).length := by rw [← HO.out.len]; exact hj
          exact (HPo.out j hj).but (HOw.out.rd j hj h2) hbut (fun b hb e => hb.2 e)
        · have hji : j = xs.length := by simp at h; omega
          have e : (xs ++ [(⟨x.p, x.m, x.k, ad2, r.ps.length, c2⟩ : RC)])[j] = ⟨x.p, x.m, x.k, ad2, r.ps.length, c2⟩ := by subst hji; simp
          rw [e]
          exact HPy.out.but HYr.out hbut (fun b hb e => hb.2 e)
      rw [HF4.out] at HO4
      go_roundw
      case rel => exact ⟨i + 1, ad4, c4, _, by first | rfl | go_num, rfl, by omega, (by show _ = _; rw [List.length_append, HXl.out]; rfl : Hid ((xs ++ [_]).length = i + 1)), HO4, HP4.out, HB4⟩
      case measure => simp [intOf]; omega
    · have hin' : i = n := by omega
      have HF : Hid (L.take i = L) := by show _ = _; rw [hin']; exact List.take_of_length_le (by have := HN.out; omega)
      subst hin'
      go_wp2_with fail
      go_ret
      refine ⟨ad, c, xs, rfl, ?_, HPf.out, HB.out⟩
      have := HO.out
      rw [HF.out] at this
      exact this

set_option maxHeartbeats 1600000 in
set_option maxRecDepth 20000 in
theorem rCopy_own (ok : Nat → Prop) (x : RC) (r : Rl) (w : World) (hx : RdC ok w x r) :
    Calls Tryz.prog 54 #[.agg #[.int .i64 x.p, .string x.m, .int .i64 x.k, .slice x.a x.n x.c]] w fun e w' => ∃ y : RC, e = .returned (.agg #[.int .i64 y.p, .string y.m, .int .i64 y.k, .slice y.a y.n y.c]) ∧ RdC (fun b => w.heap.size ≤ b) w' y r ∧ Pf w' y ∧ Below w.heap.size w w' := by
  obtain ⟨i0, hi, hz0, hz1, hz2⟩ := info_parts infoS
  obtain ⟨W0, hW0⟩ : ∃ W0, W0 = (w.alloc (.cells #[.int .i64 x.p, .string x.m, .int .i64 x.k, .slice x.a x.n x.c] 62)).alloc (.cells #[.int .i64 0, .string ⟨#[]⟩, .int .i64 0, .slice none 0 0] 62) := ⟨_, rfl⟩
  obtain ⟨W1, hW1⟩ : ∃ W1, W1 = W0.alloc (.cells #[] 9) := ⟨_, rfl⟩
  have hg : Grn w W1 := by rw [hW1, hW0]; exact (((Grn.refl w).alloc _).alloc _).alloc _
  have hs0 : W0.heap.size = w.heap.size + 2 := by rw [hW0]; simp
  have hsz : W1.heap.size = w.heap.size + 3 := by rw [hW1]; simp [hs0]
  have h0 : W1.heap[w.heap.size]? = some (.cells #[.int .i64 x.p, .string x.m, .int .i64 x.k, .slice x.a x.n x.c] 62 (0, 0)) := by
    rw [hW1, hW0]; simp only [al_heap, Array.getElem?_push, Array.size_push]; simp <;> omega
  have h1 : W1.heap[w.heap.size + 1]? = some (.cells #[.int .i64 0, .string ⟨#[]⟩, .int .i64 0, .slice none 0 0] 62 (0, 0)) := by
    rw [hW1, hW0]; simp only [al_heap, Array.getElem?_push, Array.size_push]; simp <;> omega
  have hown : W1.ownsRow (w.heap.size + 2) 9 1 (.slice (some ⟨w.heap.size + 2, 0, none⟩) 0 0) 0 [] := by
    rw [hW1]; exact lit0_rowE hs0.symm (Nat.le_refl _)
  have HOW := Lib.hid hown
  have HR := Lib.hid (hx.s.1.below hg.below)
  have HG := Lib.hid hg.below
  have H0 := Lib.hid h0
  have H1 := Lib.hid h1
  have HX := Lib.hid hx
  have HZ := Lib.hid hx.z.n
  have hxn : x.n = r.ps.length := by
    obtain ⟨ad, len, cap, e, hl, _, _⟩ := rdsS_form hx.s.1
    injection e with _ e2 _
    rw [e2, hl]
  have HN := Lib.hid hxn
  rw [hW0] at hW1
  have HSz := Lib.hid hsz
  have HW1 := Lib.hid hW1
  have a3 : W1.cell? ⟨w.heap.size, 2 + 1, none⟩ = some (.slice x.a x.n x.c) := by simp [World.cell?, h0]
  clear hown hg h0 h1 hx hxn hW0 hW1 hs0 hsz
  go_enter Tryz.func54, Tryz.ntmps54
  go_upto_region 1 with fail
  obtain ⟨nn, hnn⟩ : ∃ nn, nn = r.ps.length := ⟨_, rfl⟩
  have HNN := Lib.hid hnn
  clear hnn
  go_wp2_with (at_builtin; rw [← HW1.out]; go_loud (refine wpList_append_rds rfl (.tmp 3) (.tmp 6) _ rfl (w.heap.size + 2) 9 i0 _ 16 Tryz.underlying58 hi hz0 hz1 hz2 rfl (.slice (some ⟨w.heap.size + 2, 0, none⟩) 0 0) 0 [] rfl HOW.out _ (r.ps.map Value.string) rfl HR.out str_one nn (by rw [List.length_map, HNN.out]; omega) (by have := HZ.out; have := HNN.out; unfold maxLen; omega) (by have := HZ.out; have := HNN.out; omega) (by rw [HSz.out]; omega) ?_); intro ad2 cap2 w2 h2 hg; have HO := Lib.hid h2; have HG2 := Lib.hid hg; have b0 := (hg.block w.heap.size (by rw [HSz.out]; omega) (by simp [Value.ownBlock])).trans H0.out; have b1 := (hg.block (w.heap.size + 1) (by rw [HSz.out]; omega) (by simp [Value.ownBlock])).trans H1.out; have z0 : w2.cell? ⟨w.heap.size, 0, none⟩ = some (.int .i64 x.p) := (by simp [World.cell?, b0]); have z1 : w2.cell? ⟨w.heap.size, 1, none⟩ = some (.string x.m) := (by simp [World.cell?, b0]); have z2 : w2.cell? ⟨w.heap.size, 2, none⟩ = some (.int .i64 x.k) := (by simp [World.cell?, b0]); have z3 : w2.cell? ⟨w.heap.size, 3, none⟩ = some (.slice x.a x.n x.c) := (by simp [World.cell?, b0]); have f3 : w2.frozen? ⟨w.heap.size, 3, none⟩ = false := (by simp [World.frozen?, b0]); have r0 : w2.cell? ⟨w.heap.size + 1, 0, none⟩ = some (.int .i64 0) := (by simp [World.cell?, b1]); have r1 : w2.cell? ⟨w.heap.size + 1, 1, none⟩ = some (.string ⟨#[]⟩) := (by simp [World.cell?, b1]); have r2 : w2.cell? ⟨w.heap.size + 1, 2, none⟩ = some (.int .i64 0) := (by simp [World.cell?, b1]); have r3 : w2.cell? ⟨w.heap.size + 1, 3, none⟩ = some (.slice none 0 0) := (by simp [World.cell?, b1]); have rf0 : w2.frozen? ⟨w.heap.size + 1, 0, none⟩ = false := (by simp [World.frozen?, b1]); have rf1 : w2.frozen? ⟨w.heap.size + 1, 1, none⟩ = false := (by simp [World.frozen?, b1]); have rf2 : w2.frozen? ⟨w.heap.size + 1, 2, none⟩ = false := (by simp [World.frozen?, b1]); have rf3 : w2.frozen? ⟨w.heap.size + 1, 3, none⟩ = false := (by simp [World.frozen?, b1]); clear h2 hg b0 b1)
  refine bodyPost_ret (res_copy _ (w.heap.size + 1) _ x.p x.k x.m ad2 nn cap2 rfl ?_ ?_ ?_ ?_) rfl ?_
  · simp [go_sem, r0]
  · simp [go_sem, r1]
  · simp [go_sem, r2]
  · simp [go_sem, r3]
  have hb2 : Below w.heap.size w w2 := HG.out.grown HG2.out (by rw [HSz.out]; omega) (fun k hk => by have e := Option.some.inj (show some (w.heap.size + 2) = some k from hk); omega)
  have hset : ∀ (W : World) (g o : Nat) (c : Value), w.heap.size ≤ g → Below w.heap.size w W → Below w.heap.size w (W.setCell ⟨g, o, none⟩ c) := fun W g o c hg hb => hb.setCell hg c
  have hrow := ownsRow_rds HO.out
  rw [List.nil_append] at hrow
  have hblk : ∀ a' n' c', Value.slice ad2 nn cap2 = .slice (some a') n' c' → w.heap.size + 2 ≤ a'.block := fun a' n' c' hv => by
    injection hv with e1 _ _
    exact (HO.out.lt a'.block (by rw [e1]; rfl)).1
  have hro : RdsO (fun b => w.heap.size + 2 ≤ b) w2 (.slice ad2 nn cap2) r.ps := ⟨hrow, fun a' n' c' hv _ => hblk a' n' c' hv⟩
  have hbut : ∀ (W : World) (g o : Nat) (c : Value), g < w.heap.size + 2 → But (fun b => b < w.heap.size + 2) W (W.setCell ⟨g, o, none⟩ c) := fun W g o c hg => But.set (S := fun b => b < w.heap.size + 2) (a := ⟨g, o, none⟩) hg c
  refine ⟨⟨x.p, x.m, x.k, ad2, nn, cap2⟩, rfl, ⟨HX.out.p, HX.out.m, HX.out.k, ?_, HX.out.z⟩, ?_, ?_⟩
  · refine (RdsO.but hro (S := fun b => b < w.heap.size + 2) ?_ (fun b hb h => by omega)).mono fun b hb => by omega
    exact ((((hbut _ _ _ _ (by omega)).trans (hbut _ _ _ _ (by omega))).trans (hbut _ _ _ _ (by omega))).trans (hbut _ _ _ _ (by omega))).trans (hbut _ _ _ _ (by omega))
  · have hp2 : Pf w2 ⟨x.p, x.m, x.k, ad2, nn, cap2⟩ := ownsRow_pf HO.out
    have hrc : RdC (fun b => w.heap.size + 2 ≤ b) w2 ⟨x.p, x.m, x.k, ad2, nn, cap2⟩ r := ⟨HX.out.p, HX.out.m, HX.out.k, hro, HX.out.z⟩
    refine hp2.but hrc (S := fun b => b < w.heap.size + 2) ?_ (fun b hb h => by omega)
    exact ((((hbut _ _ _ _ (by omega)).trans (hbut _ _ _ _ (by omega))).trans (hbut _ _ _ _ (by omega))).trans (hbut _ _ _ _ (by omega))).trans (hbut _ _ _ _ (by omega))
  · exact hset _ _ _ _ (by omega) (hset _ _ _ _ (by omega) (hset _ _ _ _ (by omega) (hset _ _ _ _ (by omega) (hset _ _ _ _ (by omega) hb2))))
end Go.Proofs.YtlbelkjgaeaaeaaGreat
/-
  Walks: SameChanges of a row with itself; a row of changes of the call's own; ports that may be written.
-/
namespace Go.Proofs.YtlbelkjgaeaaeaaGreat
open Go.RowKit Go.Shelf Go.Lib Go.Sort
set_option linter.unusedVariables false
set_option linter.unusedSectionVars false
set_option linter.unusedSimpArgs false

set_option maxHeartbeats 800000 in
set_option maxRecDepth 20000 in
theorem rules_own {ok : Nat → Prop} {w : World} {tb : Nat} {v : Value} {L : List Rl} {W : Int} (h : Tab 0 1 ok w tb v L W) (hL : L.length ≤ 4096) :
    Calls Tryz.prog 27 #[.pointer (some ⟨tb, 0, none⟩)] w fun e w' => ∃ ad c xs, e = .returned (.slice ad L.length c) ∧ OwnR (okF w.heap.size (.slice ad L.length c)) w' w.heap.size (.slice ad L.length c) xs L ∧ (∀ j (h : j < xs.length), Pf w' xs[j]) ∧ Below w.heap.size w w' := by
  have HI := Lib.hid (is_tab h)
  have HC := Lib.hid (copied_own ok v L w h.rd (by omega))
  have c0 := h.c0
  clear h
  go_enter Tryz.func27, Tryz.ntmps27
  go_wp2_with fail
  refine HI.out.mono ?_
  rintro e w1 ⟨rfl, rfl⟩
  go_wp2_with fail
  refine HC.out.mono ?_
  rintro e w2 ⟨ad, c, xs, rfl, hr, hp, hb⟩
  have HR := Lib.hid hr
  have HP := Lib.hid hp
  have HB := Lib.hid hb
  clear hr hp hb
  go_wp2_with fail
  go_ret
  exact ⟨ad, c, xs, rfl, HR.out, HP.out, HB.out⟩

/-- A row of changes of the call's own. -/
structure OwnCh (P : Nat → Prop) (w : World) (base : Nat) (v : Value) (xs : List (Int × RC)) (L : List (Int × Rl)) : Prop where
  row : w.ownsRow base 64 5 v L.length (cellsC xs)
  len : xs.length = L.length
  rd : ∀ i (h : i < xs.length) (h' : i < L.length), xs[i].1 = L[i].1 ∧ RdC (okP P v) w xs[i].2 L[i].2

theorem cellsC_length : ∀ (l : List (Int × RC)), (cellsC l).length = l.length * 5
  | [] => rfl
  | x :: l => by
    show (encC x ++ cellsC l).length = _
    rw [List.length_append, cellsC_length l, List.length_cons]
    show 5 + _ = _
    omega
theorem cellsC_get : ∀ (l : List (Int × RC)) (i : Nat) (h : i < l.length), (cellsC l)[i * 5]? = some (.int .i64 l[i].1) ∧ (cellsC l)[i * 5 + 1]? = some (.int .i64 l[i].2.p) ∧ (cellsC l)[i * 5 + 2]? = some (.string l[i].2.m) ∧ (cellsC l)[i * 5 + 3]? = some (.int .i64 l[i].2.k) ∧ (cellsC l)[i * 5 + 4]? = some (.slice l[i].2.a l[i].2.n l[i].2.c)
  | [], i, h => absurd h (Nat.not_lt_zero i)
  | x :: l, 0, _ => by simp [cellsC, encC]
  | x :: l, i + 1, h => by
    have := cellsC_get l i (by simpa using h)
    rw [show cellsC (x :: l) = encC x ++ cellsC l from rfl, show (i + 1) * 5 = i * 5 + 5 by omega]
    simpa [encC] using this
theorem cellsC_append (a b : List (Int × RC)) : cellsC (a ++ b) = cellsC a ++ cellsC b := by simp [cellsC]

theorem one_cellsC {W : World} {g : Nat} {k : Int} {x : RC} {e : TypeId} (h : W.heap[g]? = some (.cells #[.int .i64 k, .int .i64 x.p, .string x.m, .int .i64 x.k, .slice x.a x.n x.c] e (0, 0))) : ∀ j u, (cellsC [(k, x)])[j]? = some u → W.cell? ((⟨g, 0, none⟩ : Addr).add j) = some u := by
  intro j u hj
  have hc : W.cell? ⟨g, j, none⟩ = (#[Value.int .i64 k, .int .i64 x.p, .string x.m, .int .i64 x.k, .slice x.a x.n x.c] : Array Value)[j]? := by simp [World.cell?, h]
  rw [Addr.add_lit, Nat.zero_add, hc]
  simpa [cellsC, encC] using hj

/-- append of one change, told by its cells, at a step of a region that draws its order. -/
theorem step_app_ch {w : World} {ops : Array Oper} {o : Oper} {a : Act} {K : Act → World → Prop} {Q : Exit → Act → World → Prop} {E : Prop} (hgd : o.guard = none) (P : Nat → Prop) (s x : Operand)
    (ho : o.op = .call { callee := .builtin .append, args := #[s, x], argTypes := #[32, 32] })
    (base : Nat) (v : Value) (xs : List (Int × RC)) (L : List (Int × Rl)) (hs : a.eval s = v) (h1 : OwnCh P w base v xs L)
    (g0 c : Nat) (k : Int) (y : RC) (r : Rl) (hx : a.eval x = .slice (some ⟨g0, 0, none⟩) 1 c) (hyc : w.heap[g0]? = some (.cells #[.int .i64 k, .int .i64 y.p, .string y.m, .int .i64 y.k, .slice y.a y.n y.c] 64 (0, 0)))
    (hyr : RdC (okP P v) w y r) (tot : Nat) (htot : L.length + 1 = tot) (hbytes : tot * 64 ≤ 140737488355328) (hbase : base ≤ w.heap.size)
    (h : ∀ ad cap w', OwnCh P w' base (.slice ad tot cap) (xs ++ [(k, y)]) (L ++ [(k, r)]) → w.grownBy w' v.ownBlock → K (a.put o.dst (.slice ad tot cap)) w') :
    if Region.wanted o (yielded ops a.tmps) = true then Oper.wp Tryz.prog o a w K Q else E := by
  have hw : Region.wanted o (yielded ops a.tmps) = true := by simp [Region.wanted, hgd]
  rw [if_pos hw]
  subst htot
  obtain ⟨i0, hi, hz0, hz1, hz2⟩ := info_parts infoC
  refine wp_append_lies w s x 32 ho base 64 i0 _ 5 64 Tryz.underlying32 hi hz0 hz1 hz2 rfl (by decide) v L.length (cellsC xs) hs h1.row ⟨g0, 0, none⟩ 1 c (cellsC [(k, y)]) hx rfl (one_cellsC hyc) (fun u hu => by simpa [cellsC, encC] using cells5_one k y u (by simpa [cellsC, encC] using hu))
    (by omega) (by unfold maxLen; omega) hbytes hbase w.heap.size rfl fun g cap w' hown hg hgg hlt => h _ cap w' ?_ hg
  have hbut : But (fun b => v.ownBlock = some b) w w' := ⟨hg.os, hg.tape, hg.output, hg.size, fun k hk hn => hg.block k hk (fun e => hn e.symm)⟩
  have key : ∀ {y' : RC} {r' : Rl}, RdC (okP P v) w y' r' → RdC (okP P (.slice (some ⟨g, 0, none⟩) (L.length + 1) cap)) w' y' r' := fun hy => by
    refine (hy.lt.but hbut (fun b hb e => hb.1.2 e)).mono (fun b hb => ⟨hb.1.1, fun e => ?_⟩)
    have e2 : g = b := Option.some.inj e
    rcases hgg with h3 | h3
    · exact hb.1.2 (by rw [h3, e2])
    · have := hb.2; omega
  refine ⟨?_, ?_, ?_⟩
  · rw [cellsC_append, List.length_append]; exact hown
  · rw [List.length_append, List.length_append, h1.len]; rfl
  · intro i h3 h4
    by_cases hlt2 : i < xs.length
    · rw [List.getElem_append_left hlt2, List.getElem_append_left (by rw [← h1.len]; exact hlt2)]
      obtain ⟨g1, g2⟩ := h1.rd i hlt2 (by rw [← h1.len]; exact hlt2)
      exact ⟨g1, key g2⟩
    · have e1 : i = xs.length := by simp at h3; omega
      subst e1
      have e2 : (xs ++ [(k, y)])[xs.length]'h3 = (k, y) := by simp
      have e3 : (L ++ [(k, r)])[xs.length]'h4 = (k, r) := by simp only [h1.len]; simp
      rw [e2, e3]
      exact ⟨rfl, key hyr⟩

/-- Ports that are there and may be written. -/
def SW (w : World) (x : RC) : Prop := ∀ b off, x.a = some ⟨b, off, none⟩ → ∀ k, k < x.n → (∃ s, w.cell? ⟨b, off + k, none⟩ = some (.string s)) ∧ w.frozen? ⟨b, off + k, none⟩ = false

theorem sw_of {ok : Nat → Prop} {w : World} {x : RC} {r : Rl} (hx : RdC ok w x r) (hp : Pf w x) : SW w x := by
  intro b off ha k hk
  refine ⟨?_, hp b off ha k hk⟩
  rcases hx.s.1 with ⟨a', c', h1, h2, h3⟩ | ⟨b', off', cap, h1, h2, h3, h4, h5⟩
  · injection h1 with _ e2 _
    omega
  · injection h1 with e1 e2 e3
    rw [ha] at e1
    injection e1 with e1
    injection e1 with e1 e4 _
    subst e1 e4
    have := h5 k (by rw [← e2]; exact hk)
    refine ⟨r.ps[k]'(by rw [List.length_map] at e2; omega), ?_⟩
    rw [this, List.getElem_map]

theorem SW.set {w : World} {x : RC} (h : SW w x) {p : Addr} {s0 : ByteArray} (hp : w.cell? p = some (.string s0)) (s : ByteArray) : SW (w.setCell p (.string s)) x := by
  intro b off ha k hk
  obtain ⟨⟨s1, h1⟩, h2⟩ := h b off ha k hk
  refine ⟨?_, by first | exact h2 | (rw [World.frozen?_setCell]; exact h2)⟩
  by_cases he : p = ⟨b, off + k, none⟩
  · subst he
    exact ⟨s, cell_set_same _ hp⟩
  · exact ⟨s1, (cell_set_other _ he).trans h1⟩
theorem SW.below {ok : Nat → Prop} {w w' : World} {x : RC} {r : Rl} (h : SW w x) (hx : RdC ok w x r) (hb : Below w.heap.size w w') : SW w' x := by
  intro b off ha k hk
  obtain ⟨⟨s, h1⟩, h2⟩ := h b off ha k hk
  have hl := hx.s.lt.2 ⟨b, off, none⟩ x.n x.c (by rw [ha]) (by omega)
  exact ⟨⟨s, (hb.cell (p := ⟨b, off + k, none⟩) hl.2).trans h1⟩, ((But.below hb).frozen (S := fun _ => False) (p := ⟨b, off + k, none⟩) hl.2 (fun h => h)).trans h2⟩
end Go.Proofs.YtlbelkjgaeaaeaaGreat
/-
  Rows whose ports may be written: what the stores into them keep.
-/
namespace Go.Proofs.YtlbelkjgaeaaeaaGreat
open Go.RowKit Go.Shelf Go.Lib Go.Sort
set_option linter.unusedVariables false
set_option linter.unusedSectionVars false
set_option linter.unusedSimpArgs false

theorem Tab.toP {vo wo t : Nat} {ok : Nat → Prop} {w : World} {v : Value} {L : List Rl} {W : Int} (h : Tab vo wo ok w t v L W) (P : Nat → Prop) (hP : ∀ k, ok k → k < w.heap.size → P k) (ht : ∀ k, P k → k ≠ t) : Tab vo wo P w t v L W :=
  ⟨h.c0, h.c1, h.f0, h.rd.lt.mono fun k hk => hP k hk.1 hk.2, ht, h.lo, h.hi⟩

theorem ownCh_nil (P : Nat → Prop) (w : World) (base : Nat) : OwnCh P w base (.slice none 0 0) [] [] := ⟨World.ownsRow_nil _ _ _ _, rfl, fun i h => absurd h (Nat.not_lt_zero _)⟩
theorem OwnCh.below {P : Nat → Prop} {w w' : World} {base : Nat} {v : Value} {xs : List (Int × RC)} {L : List (Int × Rl)} (h : OwnCh P w base v xs L) (hb : Below w.heap.size w w') : OwnCh P w' base v xs L :=
  ⟨ownsRow_below h.row hb, h.len, fun i h1 h2 => ⟨(h.rd i h1 h2).1, (h.rd i h1 h2).2.below hb⟩⟩

theorem OwnCh.cells {P : Nat → Prop} {w : World} {base n c : Nat} {ad : Option Addr} {xs : List (Int × RC)} {L : List (Int × Rl)} (h : OwnCh P w base (.slice ad n c) xs L) (i : Nat) (hi : i < xs.length) :
    ∃ g, ad = some ⟨g, 0, none⟩ ∧ g < w.heap.size ∧ w.cell? ⟨g, 0 + i * 5, none⟩ = some (.int .i64 xs[i].1) ∧ w.cell? ⟨g, 0 + i * 5 + 1, none⟩ = some (.int .i64 xs[i].2.p) ∧ w.cell? ⟨g, 0 + i * 5 + 2, none⟩ = some (.string xs[i].2.m) ∧ w.cell? ⟨g, 0 + i * 5 + 3, none⟩ = some (.int .i64 xs[i].2.k) ∧ w.cell? ⟨g, 0 + i * 5 + 4, none⟩ = some (.slice xs[i].2.a xs[i].2.n xs[i].2.c) := by
  obtain ⟨⟨h1, h2⟩, h3, h4⟩ := h
  rcases h2 with ⟨h2, h5⟩ | ⟨g, cap, cur, hv, hg, hh, hn, hc, hs, ht⟩
  · exact absurd hi (by omega)
  · injection hv with e1 e2 e3
    refine ⟨g, e1, ?_, ?_⟩
    · rcases Nat.lt_or_ge g w.heap.size with h | h
      · exact h
      · simp [Array.getElem?_eq_none h] at hh
    · have key : ∀ j u, j < L.length * 5 → (cellsC xs)[j]? = some u → w.cell? ⟨g, 0 + j, none⟩ = some u := fun j u hj hu => by
        rw [← ht, List.getElem?_take_of_lt (by omega)] at hu
        simp only [World.cell?, hh, Nat.zero_add]
        simpa using hu
      have h6 := cellsC_get xs i hi
      have k0 := key (i * 5) _ (by omega) h6.1
      have k1 := key (i * 5 + 1) _ (by omega) h6.2.1
      have k2 := key (i * 5 + 2) _ (by omega) h6.2.2.1
      have k3 := key (i * 5 + 3) _ (by omega) h6.2.2.2.1
      have k4 := key (i * 5 + 4) _ (by omega) h6.2.2.2.2
      exact ⟨k0, k1, k2, k3, k4⟩

theorem OwnCh.toRds {P : Nat → Prop} {w : World} {base : Nat} {v : Value} {xs : List (Int × RC)} {L : List (Int × Rl)} (h : OwnCh P w base v xs L) (hk : ∀ b, base ≤ b → P b) : RdsC P w v L := by
  have h0 := h
  obtain ⟨⟨h1, h2⟩, h3, h4⟩ := h
  rcases h2 with ⟨h2, h5⟩ | ⟨g, cap, cur, hv, hg, hh, hn, hc, hs, ht⟩
  · subst h2
    have e1 : L = [] := List.length_eq_zero_iff.1 h5
    have e2 : xs = [] := List.length_eq_zero_iff.1 (by omega)
    subst e1 e2
    exact ⟨[], none, 0, 0, rfl, rfl, rfl, ⟨Nat.le_refl _, fun _ => rfl⟩, Nat.zero_le _, okV_nil _ _ _, fun i h => absurd h (Nat.not_lt_zero _), fun i h => absurd h (Nat.not_lt_zero _)⟩
  · subst hv
    refine ⟨xs, _, _, cap, rfl, rfl, h3, ⟨hn, fun h => by cases h⟩, hc, okV_some (hk g hg), fun i hi => ?_, fun i h1 h2 => ⟨(h4 i h1 h2).1, (h4 i h1 h2).2.mono fun b hb => hb.1⟩⟩
    obtain ⟨g', e, k⟩ := h0.cells i hi
    exact ⟨g', 0, e, k⟩

theorem OwnR.cells {ok : Nat → Prop} {w : World} {base n c : Nat} {ad : Option Addr} {xs : List RC} {L : List Rl} (h : OwnR ok w base (.slice ad n c) xs L) (i : Nat) (hi : i < xs.length) :
    ∃ g, ad = some ⟨g, 0, none⟩ ∧ g < w.heap.size ∧ w.cell? ⟨g, 0 + i * 4 + 3, none⟩ = some (.slice xs[i].a xs[i].n xs[i].c) := by
  obtain ⟨⟨h1, h2⟩, h3, h4⟩ := h
  rcases h2 with ⟨h2, h5⟩ | ⟨g, cap, cur, hv, hg, hh, hn, hc, hs, ht⟩
  · exact absurd hi (by omega)
  · injection hv with e1 e2 e3
    refine ⟨g, e1, ?_, ?_⟩
    · rcases Nat.lt_or_ge g w.heap.size with h | h
      · exact h
      · simp [Array.getElem?_eq_none h] at hh
    · have key : ∀ j u, j < L.length * 4 → (cellsR xs)[j]? = some u → w.cell? ⟨g, 0 + j, none⟩ = some u := fun j u hj hu => by
        rw [← ht, List.getElem?_take_of_lt (by omega)] at hu
        simp only [World.cell?, hh, Nat.zero_add]
        simpa using hu
      exact key (i * 4 + 3) _ (by omega) (cellsR_get xs i hi).2.2.2

theorem rdC_form {ok : Nat → Prop} {w : World} {x : RC} {r : Rl} (hx : RdC ok w x r) : x.n ≤ 8796093021952 ∧ (0 < x.n → ∃ b off, x.a = some ⟨b, off, none⟩ ∧ ok b ∧ b < w.heap.size) := by
  have hz := hx.z.n
  have hl := hx.s.lt
  rcases hx.s.1 with ⟨a', c', h1, h2, h3⟩ | ⟨b', off', cap, h1, h2, h3, h4, h5⟩
  · injection h1 with _ e2 _
    exact ⟨by omega, fun h => by omega⟩
  · injection h1 with e1 e2 e3
    rw [List.length_map] at e2
    refine ⟨by omega, fun hn => ⟨b', off', e1, ?_⟩⟩
    exact hl.2 ⟨b', off', none⟩ x.n x.c (by rw [e1]) (by omega)

theorem SW.below' {w w' : World} {x : RC} (h : SW w x) (hb : Below w.heap.size w w') : SW w' x := by
  intro b off ha k hk
  obtain ⟨⟨s, h1⟩, h2⟩ := h b off ha k hk
  have hl : b < w.heap.size := by
    rcases Nat.lt_or_ge b w.heap.size with h3 | h3
    · exact h3
    · rw [World.cell?, Array.getElem?_eq_none h3] at h1; cases h1
  exact ⟨⟨s, (hb.cell (p := ⟨b, off + k, none⟩) hl).trans h1⟩, ((But.below hb).frozen (S := fun _ => False) (p := ⟨b, off + k, none⟩) hl (fun h => h)).trans h2⟩

/-- A row of elements of k cells, the ports' header at cell d: the ports may be written, they lie beside the row in blocks from lo up to hi. -/
structure PW (k d lo hi : Nat) (w : World) (ad : Option Addr) (n : Nat) (ys : List RC) : Prop where
  len : ys.length = n
  get : ∀ i (h : i < ys.length), ∃ g off, ad = some ⟨g, off, none⟩ ∧ g < w.heap.size ∧ w.cell? ⟨g, off + i * k + d, none⟩ = some (.slice ys[i].a ys[i].n ys[i].c)
  form : ∀ i (h : i < ys.length), ys[i].n ≤ 8796093021952 ∧ (0 < ys[i].n → ∃ b off, ys[i].a = some ⟨b, off, none⟩ ∧ lo ≤ b ∧ b < hi ∧ ∀ a, ad = some a → a.block ≠ b)
  sw : ∀ i (h : i < ys.length), SW w ys[i]

theorem PW.below {k d lo hi n : Nat} {w w' : World} {ad : Option Addr} {ys : List RC} (h : PW k d lo hi w ad n ys) (hb : Below w.heap.size w w') : PW k d lo hi w' ad n ys := by
  refine ⟨h.len, fun i hi => ?_, h.form, fun i hi => (h.sw i hi).below' hb⟩
  obtain ⟨g, off, e, hl, hc⟩ := h.get i hi
  exact ⟨g, off, e, Nat.lt_of_lt_of_le hl hb.size, (hb.cell (p := ⟨g, off + i * k + d, none⟩) hl).trans hc⟩

theorem PW.at {k d lo hi n : Nat} {w : World} {ad : Option Addr} {ys : List RC} (h : PW k d lo hi w ad n ys) (i : Nat) (hi' : i < n) : ∃ x, ∃ hi2 : i < ys.length, ys[i] = x ∧ x.n ≤ 8796093021952 ∧ ∃ g off, ad = some ⟨g, off, none⟩ ∧ w.cell? ⟨g, off + i * k + d, none⟩ = some (.slice x.a x.n x.c) := by
  have hi2 : i < ys.length := by rw [h.len]; exact hi'
  obtain ⟨g, off, e, hl, hc⟩ := h.get i hi2
  exact ⟨_, hi2, rfl, (h.form i hi2).1, g, off, e, hc⟩

/-- What a store into the ports meets, and what it leaves. -/
theorem PW.store {k d lo hi n : Nat} {w : World} {ad : Option Addr} {ys : List RC} (h : PW k d lo hi w ad n ys) {i : Nat} (hi2 : i < ys.length) {x : RC} (hx : ys[i] = x) {j : Nat} (hj : j < x.n) :
    ∃ b off s0, x.a = some ⟨b, off, none⟩ ∧ w.cell? ⟨b, off + j, none⟩ = some (.string s0) ∧ w.frozen? ⟨b, off + j, none⟩ = false ∧
      ∀ s, PW k d lo hi (w.setCell ⟨b, off + j, none⟩ (.string s)) ad n ys ∧ But (fun b => lo ≤ b ∧ b < hi) w (w.setCell ⟨b, off + j, none⟩ (.string s)) := by
  subst hx
  obtain ⟨b, off, ha, h1, h2, h3⟩ := (h.form i hi2).2 (by omega)
  obtain ⟨⟨s0, h4⟩, h5⟩ := h.sw i hi2 b off ha j hj
  refine ⟨b, off, s0, ha, h4, h5, fun s => ⟨⟨h.len, fun i' hi' => ?_, h.form, fun i' hi' => (h.sw i' hi').set h4 s⟩, But.set (a := ⟨b, off + j, none⟩) (S := fun b => lo ≤ b ∧ b < hi) ⟨h1, h2⟩ _⟩⟩
  obtain ⟨g, off', e, hl, hc⟩ := h.get i' hi'
  refine ⟨g, off', e, by simpa [World.setCell] using hl, (cell_set_other _ (fun e2 => ?_)).trans hc⟩
  exact h3 _ e (congrArg Addr.block e2).symm

theorem OwnCh.pw {P : Nat → Prop} {w : World} {base n c : Nat} {ad : Option Addr} {xs : List (Int × RC)} {L : List (Int × Rl)} (h : OwnCh P w base (.slice ad n c) xs L) (hp : ∀ j (h : j < xs.length), Pf w xs[j].2) (hP : ∀ b, P b → base ≤ b) (hn : xs.length = n) : PW 5 4 base w.heap.size w ad n (xs.map (·.2)) := by
  have hL : ∀ {i}, i < (xs.map (·.2)).length → i < xs.length := fun hi => by rw [List.length_map] at hi; exact hi
  have hL2 : ∀ {i}, i < xs.length → i < L.length := fun hi => by rw [← h.len]; exact hi
  refine ⟨by rw [List.length_map]; exact hn, fun i hi => ?_, fun i hi => ?_, fun i hi => ?_⟩
  · obtain ⟨g, e, hl, _, _, _, _, k4⟩ := h.cells i (hL hi)
    refine ⟨g, 0, e, hl, ?_⟩
    rw [List.getElem_map]
    exact k4
  · rw [List.getElem_map]
    obtain ⟨f1, f2⟩ := rdC_form (h.rd i (hL hi) (hL2 (hL hi))).2
    refine ⟨f1, fun h0 => ?_⟩
    obtain ⟨b, off, ha, hk, hl⟩ := f2 h0
    refine ⟨b, off, ha, hP b hk.1, hl, fun a he e => ?_⟩
    exact hk.2 (by rw [he, ← e]; rfl)
  · rw [List.getElem_map]
    exact sw_of (h.rd i (hL hi) (hL2 (hL hi))).2 (hp i (hL hi))

theorem OwnR.pw {w : World} {base n c : Nat} {ad : Option Addr} {xs : List RC} {L : List Rl} (h : OwnR (okF base (.slice ad n c)) w base (.slice ad n c) xs L) (hp : ∀ j (h : j < xs.length), Pf w xs[j]) (hn : xs.length = n) : PW 4 3 base w.heap.size w ad n xs := by
  have hL2 : ∀ {i}, i < xs.length → i < L.length := fun hi => by rw [← h.len]; exact hi
  refine ⟨hn, fun i hi => ?_, fun i hi => ?_, fun i hi => ?_⟩
  · obtain ⟨g, e, hl, k4⟩ := h.cells i hi
    exact ⟨g, 0, e, hl, k4⟩
  · obtain ⟨f1, f2⟩ := rdC_form (h.rd i hi (hL2 hi))
    refine ⟨f1, fun h0 => ?_⟩
    obtain ⟨b, off, ha, hk, hl⟩ := f2 h0
    refine ⟨b, off, ha, hk.1, hl, fun a he e => ?_⟩
    exact hk.2 (by rw [he, ← e]; rfl)
  · exact sw_of (h.rd i hi (hL2 hi)) (hp i hi)

theorem app_pf {P : Nat → Prop} {w9 W w4 : World} {base : Nat} {v : Value} {xs : List (Int × RC)} {L : List (Int × Rl)} {k : Int} {y : RC} {r : Rl} (h : OwnCh P w9 base v xs L) (hp : ∀ j (h : j < xs.length), Pf w9 xs[j].2) (hy : RdC (okP P v) w9 y r) (hpy : Pf w9 y) (hb : Below w9.heap.size w9 W) (hg : W.grownBy w4 v.ownBlock) :
    ∀ j (h : j < (xs ++ [(k, y)]).length), Pf w4 (xs ++ [(k, y)])[j].2 := by
  have hbut : But (fun b => v.ownBlock = some b) W w4 := ⟨hg.os, hg.tape, hg.output, hg.size, fun k hk hn => hg.block k hk (fun e => hn e.symm)⟩
  have key : ∀ {x r}, RdC (okP P v) w9 x r → Pf w9 x → Pf w4 x := fun hx hpx => (hpx.below hx hb).but (hx.below hb) hbut (fun b hb e => hb.2 e)
  intro j hj
  by_cases hlt : j < xs.length
  · rw [List.getElem_append_left hlt]
    exact key (h.rd j hlt (by rw [← h.len]; exact hlt)).2 (hp j hlt)
  · have hje : j = xs.length := by simp at hj; omega
    have e : (xs ++ [(k, y)])[j] = (k, y) := by subst hje; simp
    rw [e]
    exact key hy hpy
end Go.Proofs.YtlbelkjgaeaaeaaGreat
