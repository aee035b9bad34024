/-
  Walks: copied.
-/
import Derived.Test.YtlbelkjgaeaaeaaGreatFibB
namespace Go.Proofs.YtlbelkjgaeaaeaaGreat
open Go.RowKit Go.Shelf Go.Lib Go.Sort
set_option linter.unusedVariables false
set_option linter.unusedSectionVars false

/-- Blocks of the call's own, but for the row itself. -/
def okF (base : Nat) (v : Value) : Nat → Prop := fun b => base ≤ b ∧ v.ownBlock ≠ some b

/-- append of one rule, told by its cells, onto a row of the call's own whose ports lie in blocks of the call's own. -/
theorem wp_app_one {w : World} {o : Oper} {a : Act} {K : Act → World → Prop} {Q : Exit → Act → World → Prop} (s x : Operand)
    (ho : o.op = .call { callee := .builtin .append, args := #[s, x], argTypes := #[44, 44] })
    (base : Nat) (v : Value) (xs : List RC) (L : List Rl) (hs : a.eval s = v) (h1 : OwnR (okF base v) w base v xs L)
    (g0 c : Nat) (y : RC) (r : Rl) (hx : a.eval x = .slice (some ⟨g0, 0, none⟩) 1 c) (hyc : w.heap[g0]? = some (.cells #[.int .i64 y.p, .string y.m, .int .i64 y.k, .slice y.a y.n y.c] 62 (0, 0)))
    (hyr : RdC (okF base v) w y r) (tot : Nat) (htot : L.length + 1 = tot) (hbytes : tot * 56 ≤ 140737488355328) (hbase : base ≤ w.heap.size)
    (h : ∀ ad cap w', OwnR (okF base (.slice ad tot cap)) w' base (.slice ad tot cap) (xs ++ [y]) (L ++ [r]) → w.grownBy w' v.ownBlock → K (a.put o.dst (.slice ad tot cap)) w') : o.wp Tryz.prog a w K Q := by
  subst htot
  obtain ⟨i0, hi, hz0, hz1, hz2⟩ := info_parts infoR
  refine wp_append_lies w s x 44 ho base 62 i0 _ 4 56 Tryz.underlying44 hi hz0 hz1 hz2 rfl (by decide) v L.length (cellsR xs) hs h1.row ⟨g0, 0, none⟩ 1 c (cellsR [y]) hx rfl (one_cells hyc _ rfl) (cellsR_one _)
    (by omega) (by unfold maxLen; omega) hbytes hbase w.heap.size rfl fun g cap w' hown hg hgg hlt => h _ cap w' ?_ hg
  have hbut : But (fun b => v.ownBlock = some b) w w' := ⟨hg.os, hg.tape, hg.output, hg.size, fun k hk hn => hg.block k hk (fun e => hn e.symm)⟩
  have key : ∀ {y' : RC} {r' : Rl}, RdC (okF base v) w y' r' → RdC (okF base (.slice (some ⟨g, 0, none⟩) (L.length + 1) cap)) w' y' r' := fun hy => by
    refine (hy.lt.but hbut (fun b hb e => hb.1.2 e)).mono (fun b hb => ⟨hb.1.1, fun e => ?_⟩)
    have e2 : g = b := Option.some.inj e
    rcases hgg with h3 | h3
    · exact hb.1.2 (by rw [h3, e2])
    · have := hb.2; omega
  refine ⟨?_, ?_, ?_⟩
  · rw [cellsR_append, List.length_append]; exact hown
  · rw [List.length_append, List.length_append, h1.len]; rfl
  · intro i h3 h4
    by_cases hlt2 : i < xs.length
    · rw [List.getElem_append_left hlt2, List.getElem_append_left (by rw [← h1.len]; exact hlt2)]
      exact key (h1.rd i hlt2 (by rw [← h1.len]; exact hlt2))
    · have e1 : i = xs.length := by simp at h3; omega
      subst e1
      have e2 : (xs ++ [y])[xs.length]'h3 = y := by simp
      have e3 : (L ++ [r])[xs.length]'h4 = r := by simp only [h1.len]; simp
      rw [e2, e3]
      exact key hyr

theorem OwnR.freshRds {w : World} {base : Nat} {v : Value} {xs : List RC} {L : List Rl} (h : OwnR (okF base v) w base v xs L) : RdsR (fun b => base ≤ b) w v L :=
  (h.mono (ok' := fun b => base ≤ b) fun b hb => hb.1).toRds fun b hb => hb

set_option maxHeartbeats 1600000 in
set_option maxRecDepth 20000 in
theorem copied_any (ok : Nat → Prop) (v : Value) (L : List Rl) (w : World) (hr : RdsR ok w v L) (hn : L.length * 56 ≤ 140737488355328) :
    Calls Tryz.prog 40 #[v] w fun e w' => ∃ ad c, e = .returned (.slice ad L.length c) ∧ RdsR (fun b => w.heap.size ≤ b) w' (.slice ad L.length c) L ∧ Below w.heap.size w w' := by
  have HR := Lib.hid hr
  obtain ⟨n, hnl⟩ : ∃ n, n = L.length := ⟨_, rfl⟩
  have HN : Hid (n = L.length) := hnl
  have hnb : n * 56 ≤ 140737488355328 := by rw [hnl]; exact hn
  obtain ⟨ad0, cap0, rfl, hnc, hcm⟩ := hr.form
  rw [← hnl] at HR hnc ⊢
  unfold maxLen at hcm
  clear hr hn hnl
  go_enter Tryz.func40, Tryz.ntmps40
  go_wp2_with fail
  go_loopw [3, 8] (fun s3 s8 wr => ∃ (i : Nat) (ad : Option Addr) (c : Nat) (xs : List RC), s8 = .int .i64 i ∧ s3 = .slice ad i c ∧ i ≤ n ∧ Hid (xs.length = i) ∧ Hid (OwnR (okF w.heap.size (.slice ad i c)) wr w.heap.size (.slice ad i c) xs (L.take i)) ∧ Hid (Below w.heap.size w wr)) (fun _ s8 _ => n - (intOf s8).toNat)
  case atStart => exact ⟨0, none, 0, [], rfl, rfl, Nat.zero_le _, rfl, ownR_nil _ _ _, Below.refl _ _⟩
  case round =>
    obtain ⟨wo, rfl⟩ : ∃ wo : World, wo = wr := ⟨wr, rfl⟩
    obtain ⟨i, ad, c, xs, rfl, rfl, hin, HXl, HO, HB⟩ := hrel
    by_cases hlt : i < n
    · have hiL : i < L.length := by rw [← HN.out]; exact hlt
      obtain ⟨b, off, x, rfl, hb, _, x0, x1, x2, x3, hx⟩ := HR.out.get i hiL
      have X0 := (HB.out.cell (p := ⟨b, off + i * 4, none⟩) hb).trans x0
      have X1 := (HB.out.cell (p := ⟨b, off + i * 4 + 1, none⟩) hb).trans x1
      have X2 := (HB.out.cell (p := ⟨b, off + i * 4 + 2, none⟩) hb).trans x2
      have X3 := (HB.out.cell (p := ⟨b, off + i * 4 + 3, none⟩) hb).trans x3
      obtain ⟨r, hrr⟩ : ∃ r, L[i] = r := ⟨_, rfl⟩
      rw [hrr] at hx
      have HRr := Lib.hid hrr
      have HXx := Lib.hid hx
      obtain ⟨W2, hW2⟩ : ∃ W2, W2 = wo.alloc (.cells #[.int .i64 x.p, .string x.m, .int .i64 x.k, .slice x.a x.n x.c] 62) := ⟨_, rfl⟩
      have hg2 : Grn wo W2 := by rw [hW2]; exact (Grn.refl _).alloc _
      have HG2 := Lib.hid hg2
      have HCS := Lib.hid (cloneS_any (.slice x.a x.n x.c) r.ps W2 ((hx.s.1.below HB.out).below hg2.below) hx.z.n)
      have HHp : Hid (W2.heap[wo.heap.size]? = some (.cells #[.int .i64 x.p, .string x.m, .int .i64 x.k, .slice x.a x.n x.c] 62 (0, 0))) := by rw [hW2]; exact heap_alloc_new _ _
      have hw2s : W2.heap.size = wo.heap.size + 1 := by rw [hW2]; simp
      have HW2s := Lib.hid hw2s
      have y3 : W2.cell? ⟨wo.heap.size, 2 + 1, none⟩ = some (.slice x.a x.n x.c) := by rw [hW2]; simp [go_sem]
      have HW2 := Lib.hid hW2
      clear x0 x1 x2 x3 hx hrr hg2 hW2 hw2s
      go_upto_region 5 with fail
      rw [← HW2.out]
      clear HW2 X0 X1 X2 X3
      go_wp2_with fail
      refine HCS.out.mono ?_
      rintro e w3 ⟨ad2, c2, rfl, hrd, hb3⟩
      have hlt2 : wo.heap.size < W2.heap.size := by rw [HW2s.out]; omega
      have hh3 : w3.heap[wo.heap.size]? = some (.cells #[.int .i64 x.p, .string x.m, .int .i64 x.k, .slice x.a x.n x.c] 62 (0, 0)) := by rw [hb3.block _ hlt2]; exact HHp.out
      have z0 : w3.cell? ⟨wo.heap.size, 0, none⟩ = some (.int .i64 x.p) := by simp [World.cell?, hh3]
      have z1 : w3.cell? ⟨wo.heap.size, 1, none⟩ = some (.string x.m) := by simp [World.cell?, hh3]
      have z2 : w3.cell? ⟨wo.heap.size, 2, none⟩ = some (.int .i64 x.k) := by simp [World.cell?, hh3]
      have z3 : w3.cell? ⟨wo.heap.size, 3, none⟩ = some (.slice x.a x.n x.c) := by simp [World.cell?, hh3]
      have f3 : w3.frozen? ⟨wo.heap.size, 3, none⟩ = false := by simp [World.frozen?, hh3]
      obtain ⟨w5, hw5⟩ : ∃ w5, w5 = w3.setCell ⟨wo.heap.size, 3, none⟩ (.slice ad2 r.ps.length c2) := ⟨_, rfl⟩
      have hbw5 : Below wo.heap.size wo w5 := by
        rw [hw5]
        refine (HG2.out.below.trans (hb3.mono (by rw [HW2s.out]; omega))).setCell ?_ _
        show wo.heap.size ≤ wo.heap.size
        omega
      have hbut5 : But (fun b => b = wo.heap.size) w3 w5 := by rw [hw5]; exact But.set (S := fun b => b = wo.heap.size) (a := ⟨wo.heap.size, 3, none⟩) rfl _
      have hs35 : w3.heap.size ≤ w5.heap.size := hbut5.size
      have hW2w3 := hb3.size
      have HOw := Lib.hid (HO.out.below (hbw5.alloc hbw5.size (.cells #[.int .i64 x.p, .string x.m, .int .i64 x.k, .slice ad2 r.ps.length c2] 62)))
      have HYr : Hid (RdC (okF w.heap.size (.slice ad i c)) (w5.alloc (.cells #[.int .i64 x.p, .string x.m, .int .i64 x.k, .slice ad2 r.ps.length c2] 62)) ⟨x.p, x.m, x.k, ad2, r.ps.length, c2⟩ r) := by
        refine ⟨HXx.out.p, HXx.out.m, HXx.out.k, ?_, HXx.out.z⟩
        refine ((hrd.but hbut5 (fun b hb e => by omega)).below ((Below.refl _ _).alloc (Nat.le_refl _) _)).mono (fun b hb => ⟨by have := HB.out.size; have := HW2s.out; omega, fun e => ?_⟩)
        have := (HO.out.row.lt b e).2
        have := HW2s.out
        omega
      have HBw5 : Hid (Below w.heap.size w w5) := HB.out.trans (hbw5.mono HB.out.size)
      have hbsz := HB.out.size
      have HOl : Hid ((L.take i).length = i) := by show _ = _; rw [List.length_take]; omega
      have HW5 := Lib.hid hw5
      have q0 : w5.cell? ⟨wo.heap.size, 0, none⟩ = some (.int .i64 x.p) := by rw [hw5]; exact (cell_set_other _ (by simp)).trans z0
      have q1 : w5.cell? ⟨wo.heap.size, 1, none⟩ = some (.string x.m) := by rw [hw5]; exact (cell_set_other _ (by simp)).trans z1
      have q2 : w5.cell? ⟨wo.heap.size, 2, none⟩ = some (.int .i64 x.k) := by rw [hw5]; exact (cell_set_other _ (by simp)).trans z2
      have q3 : w5.cell? ⟨wo.heap.size, 3, none⟩ = some (.slice ad2 r.ps.length c2) := by rw [hw5]; exact cell_set_same _ z3
      clear hrd hb3 hh3 hbut5 hw5 hW2w3 hs35 hlt2 y3
      go_upto_region 6 with fail
      rw [← HW5.out]
      clear z0 z1 z2 z3 f3 HW5
      go_wp2_with (at_builtin; go_loud (refine wpList_plain rfl (fun _ hK => wp_app_one (.tmp 18) (.tmp 20) rfl w.heap.size _ xs (L.take i) (by rfl) HOw.out w5.heap.size 1 ⟨x.p, x.m, x.k, ad2, r.ps.length, c2⟩ r (by rfl) (heap_alloc_new _ _) HYr.out (i + 1) (by rw [HOl.out]) (by omega) (by have := HBw5.out.size; simp; omega) (fun ad4 c4 w4 ho4 hg4 => hK _ _ ?_))); have HO4 := Lib.hid ho4; have HG4 := Lib.hid hg4; clear ho4 hg4)
      have HB4 : Hid (Below w.heap.size w w4) := (HBw5.out.alloc HBw5.out.size _).grown HG4.out (by have := HBw5.out.size; simp; omega) (fun k hk => (HO.out.row.lt k hk).1)
      have HF4 : Hid (L.take i ++ [r] = L.take (i + 1)) := by show _ = _; rw [List.take_succ_eq_append_getElem hiL, HRr.out]
      rw [HF4.out] at HO4
      go_roundw
      case rel => exact ⟨i + 1, ad4, c4, _, by first | rfl | go_num, rfl, by omega, (by show _ = _; rw [List.length_append, HXl.out]; rfl : Hid ((xs ++ [_]).length = i + 1)), HO4, HB4⟩
      case measure => simp [intOf]; omega
    · have hin' : i = n := by omega
      have HF : Hid (L.take i = L) := by show _ = _; rw [hin']; exact List.take_of_length_le (by have := HN.out; omega)
      subst hin'
      go_wp2_with fail
      go_ret
      refine ⟨ad, c, rfl, ?_, HB.out⟩
      have := HO.out.freshRds
      rw [HF.out] at this
      exact this
end Go.Proofs.YtlbelkjgaeaaeaaGreat
