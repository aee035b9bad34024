/-
  Walks over package rules: Parse.
-/
import Derived.Test.YtlamhpiiikcpiaaGreatDoorRgK
import Derived.Test.YtlamhpiiikcpiaaGreatDoorRulI
import Derived.Deep.AppendLies
namespace Go.Proofs.YtlamhpiiikcpiaaGreatDoor
open Go.RowKit Go.Shelf Go.Lib Go.Sort
set_option linter.unusedVariables false
set_option linter.unusedSectionVars false
set_option linter.unusedSimpArgs false
/-- What Parse answers. -/
def ParsePost (s : ByteArray) (width : Int) (w : World) (e : Ending) (w' : World) : Prop :=
  match Pr.parse s width with
  | .ok L => ∃ ad c, e = .returned (.tuple #[.slice ad L.length c, .int .i64 0, .int .i64 0, .int .i64 0]) ∧ RdsR (fun b => w.heap.size ≤ b) w' (.slice ad L.length c) L ∧ Below w.heap.size w w'
  | .error (c, l, k) => e = .returned (.tuple #[.slice none 0 0, .int .i64 l, .int .i64 k, .int .i64 c]) ∧ Below w.heap.size w w'
theorem res_parse (w : World) (N : Nat) (tmps : Array Value) (ad : Option Addr) (n c : Nat) (x y z : Int) (t4 : tmps.getD 4 undef = .slice ad n c) (t5 : tmps.getD 5 undef = .pointer (some ⟨N, 0, none⟩)) (t6 : tmps.getD 6 undef = .pointer (some ⟨N + 1, 0, none⟩)) (t7 : tmps.getD 7 undef = .pointer (some ⟨N + 2, 0, none⟩))
    (h1 : w.cell? ⟨N, 0, none⟩ = some (.int .i64 x)) (h2 : w.cell? ⟨N + 1, 0, none⟩ = some (.int .i64 y)) (h3 : w.cell? ⟨N + 2, 0, none⟩ = some (.int .i64 z)) :
    (results Tryz.f26 tmps).run Tryz.prog w = .ok (.tuple #[.slice ad n c, .int .i64 x, .int .i64 y, .int .i64 z]) w := by
  rw [Array.getD_eq_getD_getElem?] at t4 t5 t6 t7
  simp [results, Tryz.results26, t4, t5, t6, t7, loadVar, asAddr, go_sem, Tryz.isAgg3, Tryz.sizeOf3, Tryz.isAgg28, Tryz.sizeOf28, h1, h2, h3]
set_option maxHeartbeats 6400000 in
set_option maxRecDepth 20000 in
theorem parse_width (s : ByteArray) (width : Int) (w : World) (hw : width < 1 ∨ 128 < width) : Calls Tryz.prog 26 #[.string s, .int .i64 width] w (ParsePost s width w) := by
  have hP : Pr.parse s width = .error (1, 0, 0) := by unfold Pr.parse; rw [if_pos hw]
  have HP := Lib.hid hP
  clear hP
  have hcs : width < 1 ∨ (decide (width < 1) = false ∧ 128 < width) := by
    by_cases h : width < 1
    · exact .inl h
    · exact .inr ⟨by simpa using h, by omega⟩
  clear hw
  rcases hcs with h1 | ⟨h1, h2⟩
  all_goals
    go_enter_defers Tryz.func26, Tryz.ntmps26
    go_wp2_with fail
    refine ⟨_, res_parse _ w.heap.size _ none 0 0 0 0 1 rfl rfl rfl rfl ?_ ?_ ?_, ?_⟩
    · simp [go_sem]
    · simp [go_sem]
    · simp [go_sem]
    show ParsePost _ _ _ _ _
    unfold ParsePost
    rw [HP.out]
    exact ⟨rfl, (((Below.refl _ _).alloc (Nat.le_refl _) _).alloc (by simp) _).alloc (by simp; omega) _⟩
set_option maxHeartbeats 6400000 in
set_option maxRecDepth 20000 in
theorem parse_err (s : ByteArray) (width : Int) (w : World) (hs : s.size ≤ 1048576) (h1 : 1 ≤ width) (h2 : width ≤ 128) (num p : Nat) (hl : Wd.lines s.data.toList = .error (num, p)) : Calls Tryz.prog 26 #[.string s, .int .i64 width] w (ParsePost s width w) := by
  have hP : Pr.parse s width = .error (30, num, p + 1) := by unfold Pr.parse; rw [if_neg (by omega), hl]
  have HP := Lib.hid hP
  have HL := Lib.hid (fun w => lines_err s w hs num p hl)
  have hw1 : decide (width < 1) = false := by simp; omega
  have hw2 : decide (128 < width) = false := by simp; omega
  obtain ⟨W0, hW0⟩ : ∃ W0, W0 = ((w.alloc (.cells #[.int .i64 0] 3)).alloc (.cells #[.int .i64 0] 3)).alloc (.cells #[.int .i64 0] 28) := ⟨_, rfl⟩
  have hb0 : Below w.heap.size w W0 := by rw [hW0]; exact (((Below.refl _ _).alloc (Nat.le_refl _) _).alloc (by simp) _).alloc (by simp; omega) _
  have hs0 : W0.heap.size = w.heap.size + 3 := by rw [hW0]; simp
  have hA0 : W0.heap[w.heap.size]? = some (.cells #[.int .i64 0] 3 (0, 0)) := by
    rw [hW0]; simp only [al_heap, Array.getElem?_push, Array.size_push]; simp <;> omega
  have hB0 : W0.heap[w.heap.size + 1]? = some (.cells #[.int .i64 0] 3 (0, 0)) := by
    rw [hW0]; simp only [al_heap, Array.getElem?_push, Array.size_push]; simp <;> omega
  have hC0 : W0.heap[w.heap.size + 1 + 1]? = some (.cells #[.int .i64 0] 28 (0, 0)) := by
    rw [hW0]; simp only [al_heap, Array.getElem?_push, Array.size_push]; simp
  have HB0 := Lib.hid hb0
  have HS0 := Lib.hid hs0
  have HA0 := Lib.hid hA0
  have HBB := Lib.hid hB0
  have HC0 := Lib.hid hC0
  have HW0 := Lib.hid hW0
  clear hP hl hs h1 h2 hb0 hs0 hA0 hB0 hC0 hW0
  go_enter_defers Tryz.func26, Tryz.ntmps26
  go_upto_region 1 with fail
  rw [← HW0.out]
  clear HW0
  go_wp2_with fail
  refine (HL.out _).mono ?_
  rintro e w1 ⟨rfl, hb1⟩
  have a1 := (hb1.block _ (by rw [HS0.out]; omega)).trans HA0.out
  have b1 := (hb1.block _ (by rw [HS0.out]; omega)).trans HBB.out
  have c1 := (hb1.block _ (by rw [HS0.out]; omega)).trans HC0.out
  have k0 : w1.cell? ⟨w.heap.size, 0, none⟩ = some (.int .i64 0) := by simp [World.cell?, a1]
  have k1 : w1.cell? ⟨w.heap.size + 1, 0, none⟩ = some (.int .i64 0) := by simp [World.cell?, b1]
  have k2 : w1.cell? ⟨w.heap.size + 1 + 1, 0, none⟩ = some (.int .i64 0) := by simp [World.cell?, c1]
  have g0 : w1.frozen? ⟨w.heap.size, 0, none⟩ = false := by simp [World.frozen?, a1]
  have g1 : w1.frozen? ⟨w.heap.size + 1, 0, none⟩ = false := by simp [World.frozen?, b1]
  have g2 : w1.frozen? ⟨w.heap.size + 1 + 1, 0, none⟩ = false := by simp [World.frozen?, c1]
  obtain ⟨w2, hw2⟩ : ∃ w2, w2 = (w1.setCell ⟨w.heap.size, 0, none⟩ (.int .i64 num)).setCell ⟨w.heap.size + 1, 0, none⟩ (.int .i64 ((p : Int) + 1)) := ⟨_, rfl⟩
  have m0 : w2.cell? ⟨w.heap.size, 0, none⟩ = some (.int .i64 num) := by rw [hw2]; exact cell_setd2 (cell_set_same _ k0) (by simp)
  have m1 : w2.cell? ⟨w.heap.size + 1, 0, none⟩ = some (.int .i64 ((p : Int) + 1)) := by rw [hw2]; exact cell_set_same _ (cell_setd2 k1 (by simp))
  have m2 : w2.cell? ⟨w.heap.size + 1 + 1, 0, none⟩ = some (.int .i64 0) := by rw [hw2]; exact cell_setd2 (cell_setd2 k2 (by simp)) (by simp)
  have e0 : w2.frozen? ⟨w.heap.size, 0, none⟩ = false := by rw [hw2, World.frozen?_setCell, World.frozen?_setCell]; exact g0
  have e1 : w2.frozen? ⟨w.heap.size + 1, 0, none⟩ = false := by rw [hw2, World.frozen?_setCell, World.frozen?_setCell]; exact g1
  have e2 : w2.frozen? ⟨w.heap.size + 1 + 1, 0, none⟩ = false := by rw [hw2, World.frozen?_setCell, World.frozen?_setCell]; exact g2
  have HB2 : Hid (Below w.heap.size w w2) := by
    show Below _ _ _
    rw [hw2]
    exact ((HB0.out.trans (hb1.mono HB0.out.size)).setCell (Nat.le_refl _) _).setCell (Nat.le_succ _) _
  have HW2 := Lib.hid hw2
  clear hb1 a1 b1 c1 hw2
  go_upto_region 4 with fail
  rw [← HW2.out]
  clear HW2 k0 k1 k2 g0 g1 g2
  go_upto_region 5 with fail
  have hk : w2.cell? ⟨w.heap.size, 0, none⟩ = some (.int .i64 num) ∧ w2.cell? ⟨w.heap.size + 1, 0, none⟩ = some (.int .i64 ((p : Int) + 1)) := ⟨m0, m1⟩
  have hky0 : ∀ (Wz : World), (Wz.cell? ⟨w.heap.size, 0, none⟩ = some (.int .i64 num) ∧ Wz.cell? ⟨w.heap.size + 1, 0, none⟩ = some (.int .i64 ((p : Int) + 1))) → ((Wz.setCell ⟨w.heap.size, 0, none⟩ (.int .i64 num)).cell? ⟨w.heap.size, 0, none⟩ = some (.int .i64 num) ∧ (Wz.setCell ⟨w.heap.size, 0, none⟩ (.int .i64 num)).cell? ⟨w.heap.size + 1, 0, none⟩ = some (.int .i64 ((p : Int) + 1))) := fun Wz h => ⟨cell_set_same _ h.1, cell_setd2 h.2 (by simp)⟩
  have hky1 : ∀ (Wz : World), (Wz.cell? ⟨w.heap.size, 0, none⟩ = some (.int .i64 num) ∧ Wz.cell? ⟨w.heap.size + 1, 0, none⟩ = some (.int .i64 ((p : Int) + 1))) → ((Wz.setCell ⟨w.heap.size + 1, 0, none⟩ (.int .i64 ((p : Int) + 1))).cell? ⟨w.heap.size, 0, none⟩ = some (.int .i64 num) ∧ (Wz.setCell ⟨w.heap.size + 1, 0, none⟩ (.int .i64 ((p : Int) + 1))).cell? ⟨w.heap.size + 1, 0, none⟩ = some (.int .i64 ((p : Int) + 1))) := fun Wz h => ⟨cell_setd2 h.1 (by simp), cell_set_same _ h.2⟩
  have hky2 : ∀ (Wz : World), (Wz.cell? ⟨w.heap.size, 0, none⟩ = some (.int .i64 num) ∧ Wz.cell? ⟨w.heap.size + 1, 0, none⟩ = some (.int .i64 ((p : Int) + 1))) → ((Wz.setCell ⟨w.heap.size + 1 + 1, 0, none⟩ (.int .i64 30)).cell? ⟨w.heap.size, 0, none⟩ = some (.int .i64 num) ∧ (Wz.setCell ⟨w.heap.size + 1 + 1, 0, none⟩ (.int .i64 30)).cell? ⟨w.heap.size + 1, 0, none⟩ = some (.int .i64 ((p : Int) + 1))) := fun Wz h => ⟨cell_setd2 h.1 (by simp), cell_setd2 h.2 (by simp)⟩
  go_region_held3 (fun Wx => Wx.cell? ⟨w.heap.size, 0, none⟩ = some (.int .i64 num) ∧ Wx.cell? ⟨w.heap.size + 1, 0, none⟩ = some (.int .i64 ((p : Int) + 1))) (first | exact hk | exact hky0 _ hk | exact hky1 _ (hky0 _ hk) | exact hky2 _ (hky1 _ (hky0 _ hk)) | go_keep) (fail)
  rename_i hHeld
  obtain ⟨w3, hw3⟩ : ∃ w3, w3 = (((w2.setCell ⟨w.heap.size, 0, none⟩ (.int .i64 num)).setCell ⟨w.heap.size + 1, 0, none⟩ (.int .i64 ((p : Int) + 1))).setCell ⟨w.heap.size + 1 + 1, 0, none⟩ (.int .i64 30)).drew := ⟨_, rfl⟩
  rw [← hw3]
  have n0 : w3.cell? ⟨w.heap.size, 0, none⟩ = some (.int .i64 num) := by rw [hw3]; exact cell_setd2 (cell_setd2 (cell_set_same _ m0) (by simp)) (by simp)
  have n1 : w3.cell? ⟨w.heap.size + 1, 0, none⟩ = some (.int .i64 ((p : Int) + 1)) := by rw [hw3]; exact cell_setd2 (cell_set_same _ (cell_setd2 m1 (by simp))) (by simp)
  have n2 : w3.cell? ⟨w.heap.size + 1 + 1, 0, none⟩ = some (.int .i64 30) := by rw [hw3]; exact cell_set_same _ (cell_setd2 (cell_setd2 m2 (by simp)) (by simp))
  have HB3 : Hid (Below w.heap.size w w3) := by
    show Below _ _ _
    rw [hw3]
    exact (((HB2.out.setCell (Nat.le_refl _) _).setCell (Nat.le_succ _) _).setCell (by show w.heap.size ≤ w.heap.size + 1 + 1; omega) _).drew
  clear hw3 hHeld hk hky0 hky1 hky2 m0 m1 m2 e0 e1 e2
  go_wp2_with fail
  refine ⟨_, res_parse _ w.heap.size _ none 0 0 num ((p : Int) + 1) 30 rfl rfl rfl rfl n0 n1 n2, ?_⟩
  show ParsePost _ _ _ _ _
  unfold ParsePost
  rw [HP.out]
  exact ⟨by simp, HB3.out⟩
/-- Blocks of the call's own, but for the row itself. -/
def okFP (base : Nat) (v : Value) : Nat → Prop := fun b => base ≤ b ∧ v.ownBlock ≠ some b
/-- append of one rule, told by its cells, onto a row of the call's own whose ports lie in blocks of the call's own. -/
theorem wp_app_oneP {w : World} {o : Oper} {a : Act} {K : Act → World → Prop} {Q : Exit → Act → World → Prop} (s x : Operand)
    (ho : o.op = .call { callee := .builtin .append, args := #[s, x], argTypes := #[36, 36] })
    (base : Nat) (v : Value) (xs : List RC) (L : List Rl) (hs : a.eval s = v) (h1 : OwnR (okFP base v) w base v xs L)
    (g0 c : Nat) (y : RC) (r : Rl) (hx : a.eval x = .slice (some ⟨g0, 0, none⟩) 1 c) (hyc : w.heap[g0]? = some (.cells #[.int .i64 y.p, .string y.m, .int .i64 y.k, .slice y.a y.n y.c] 47 (0, 0)))
    (hyr : RdC (okFP base v) w y r) (tot : Nat) (htot : L.length + 1 = tot) (hbytes : tot * 56 ≤ 140737488355328) (hbase : base ≤ w.heap.size)
    (h : ∀ ad cap w', OwnR (okFP base (.slice ad tot cap)) w' base (.slice ad tot cap) (xs ++ [y]) (L ++ [r]) → w.grownBy w' v.ownBlock → K (a.put o.dst (.slice ad tot cap)) w') : o.wp Tryz.prog a w K Q := by
  subst htot
  obtain ⟨i0, hi, hz0, hz1, hz2⟩ := info_parts infoR
  refine wp_append_lies w s x 36 ho base 47 i0 _ 4 56 Tryz.underlying36 hi hz0 hz1 hz2 rfl (by decide) v L.length (cellsR xs) hs h1.row ⟨g0, 0, none⟩ 1 c (cellsR [y]) hx rfl (one_cells hyc _ rfl) (cellsR_one _)
    (by omega) (by unfold maxLen; omega) hbytes hbase w.heap.size rfl fun g cap w' hown hg hgg hlt => h _ cap w' ?_ hg
  have hbut : But (fun b => v.ownBlock = some b) w w' := ⟨hg.os, hg.tape, hg.output, hg.size, fun k hk hn => hg.block k hk (fun e => hn e.symm)⟩
  have key : ∀ {y' : RC} {r' : Rl}, RdC (okFP base v) w y' r' → RdC (okFP base (.slice (some ⟨g, 0, none⟩) (L.length + 1) cap)) w' y' r' := fun hy => by
    refine (hy.lt.but hbut (fun b hb e => hb.1.2 e)).mono (fun b hb => ⟨hb.1.1, fun e => ?_⟩)
    have e2 : g = b := Option.some.inj e
    rcases hgg with h3 | h3
    · exact hb.1.2 (by rw [h3, e2])
    · have := hb.2; omega
  refine ⟨?_, ?_, ?_⟩
  · rw [cellsR_append, List.length_append]; exact hown
  · rw [List.length_append, List.length_append, h1.len]; rfl
  · intro i h3 h4
    by_cases hlt2 : i < xs.length
    · rw [List.getElem_append_left hlt2, List.getElem_append_left (by rw [← h1.len]; exact hlt2)]
      exact key (h1.rd i hlt2 (by rw [← h1.len]; exact hlt2))
    · have e1 : i = xs.length := by simp at h3; omega
      subst e1
      have e2 : (xs ++ [y])[xs.length]'h3 = y := by simp
      have e3 : (L ++ [r])[xs.length]'h4 = r := by simp only [h1.len]; simp
      rw [e2, e3]
      exact key hyr
theorem OwnR.freshRdsP {w : World} {base : Nat} {v : Value} {xs : List RC} {L : List Rl} (h : OwnR (okFP base v) w base v xs L) : RdsR (fun b => base ≤ b) w v L :=
  (h.mono (ok' := fun b => base ≤ b) fun b hb => hb.1).toRds fun b hb => hb
theorem Pr.parseF_step {width : Int} {acc : List (List Wrd)} {i : Nat} (h : i < acc.length) (L : List Rl) : Pr.parseF width (acc.drop i) L =
    match Pr.rule acc[i] width with
    | .error (c, j) => .error (c, (Pr.wd acc[i] j).l, (Pr.wd acc[i] j).c)
    | .ok r => if knownB L r.p r.m = true then .error (52, (Pr.wd acc[i] 0).l, (Pr.wd acc[i] 0).c) else if ¬ L.length < 4096 then .error (3, (Pr.wd acc[i] 0).l, (Pr.wd acc[i] 0).c) else Pr.parseF width (acc.drop (i + 1)) (L ++ [r]) := by
  rw [List.drop_eq_getElem_cons h]
  rfl
theorem own_ge {w : World} {base : Nat} {e : TypeId} {k n : Nat} {v : Value} {xs : List Value} (h : w.ownsRow base e k v n xs) : ∀ g, v.ownBlock = some g → base ≤ g ∧ g < w.heap.size := by
  intro g hg
  obtain ⟨h1, h2⟩ := h
  rcases h2 with ⟨h2, h5⟩ | ⟨g', cap, cur, hv, hg', hh, r⟩
  · subst h2; cases hg
  · rw [hv] at hg
    have e1 : g' = g := Option.some.inj hg
    subst e1
    exact ⟨hg', (Array.getElem?_eq_some_iff.1 hh).1⟩
theorem OwnR.butP {ok S : Nat → Prop} {w w' : World} {base : Nat} {v : Value} {xs : List RC} {L : List Rl} (h : OwnR ok w base v xs L) (hb : But S w w') (h1 : ∀ g, v.ownBlock = some g → ¬ S g) (h2 : ∀ b, ok b → ¬ S b) : OwnR ok w' base v xs L :=
  ⟨ownsRow_butS' h.row hb h1, h.len, fun i h3 h4 => (h.rd i h3 h4).but hb h2⟩
theorem MapSt.but {S : Nat → Prop} {w w' : World} {b : Nat} {L : List Rl} (h : MapSt w b L) (hb : But S w w') (hs : ¬ S b) : MapSt w' b L := by
  obtain ⟨es, clock, h1, h2⟩ := h
  exact ⟨es, clock, (hb.block b (Array.getElem?_eq_some_iff.1 h1).1 hs).trans h1, h2⟩
/-- What is told at a place of lines, in blocks that are ok. -/
def LnO (ok : Nat → Prop) (W : World) (ad : Option Addr) (acc : List (List Wrd)) : Prop :=
  ∀ i (h : i < acc.length), ∃ b off adw capw, ad = some ⟨b, off, none⟩ ∧ ok b ∧ b < W.heap.size ∧ W.cell? ⟨b, off + i, none⟩ = some (.slice adw acc[i].length capw) ∧ RdsW ok W (.slice adw acc[i].length capw) acc[i]
theorem rdsLn_ok {ok : Nat → Prop} {w : World} {v : Value} {acc : List (List Wrd)} (h : RdsLn ok w v acc) : ∃ ad cap, v = .slice ad acc.length cap ∧ LnO (fun b => ok b ∧ b < w.heap.size) w ad acc := by
  obtain ⟨us, u1, u2, u3, u4⟩ := h
  obtain ⟨ad, cap, rfl, hm, hc⟩ := rds_one u2
  refine ⟨ad, cap, by rw [u1], fun i hi => ?_⟩
  obtain ⟨b, off, e, hl, hcell⟩ := hc i (by omega)
  have hr := u4 i (by omega) hi
  obtain ⟨adw, capw, hu, r⟩ := id hr
  rw [hu] at hcell hr
  exact ⟨b, off, adw, capw, e, ⟨u3 _ _ _ (by rw [e]) (by omega), hl⟩, hl, hcell, hr.mono fun b hb ho => ⟨ho, hb⟩⟩
theorem LnO.but {ok S : Nat → Prop} {w w' : World} {ad : Option Addr} {acc : List (List Wrd)} (h : LnO ok w ad acc) (hb : But S w w') (hs : ∀ b, ok b → ¬ S b) : LnO ok w' ad acc := fun i hi => by
  obtain ⟨b, off, adw, capw, e, h1, hl, hc, hr⟩ := h i hi
  exact ⟨b, off, adw, capw, e, h1, Nat.lt_of_lt_of_le hl hb.size, (hb.cell (p := ⟨b, off + i, none⟩) hl (hs b h1)).trans hc, hr.but hb hs⟩
/-- Where the loop over the lines stands: rules so far (row v reads L, the map knows K). -/
structure PSt (w : World) (acc : List (List Wrd)) (ad0 : Option Addr) (M : Nat) (v : Value) (xs : List RC) (L K : List Rl) (W : World) : Prop where
  bel : Below w.heap.size w W
  lo : w.heap.size + 3 ≤ M
  hi : M < W.heap.size
  c0 : W.cell? ⟨w.heap.size, 0, none⟩ = some (.int .i64 0)
  c1 : W.cell? ⟨w.heap.size + 1, 0, none⟩ = some (.int .i64 0)
  c2 : W.cell? ⟨w.heap.size + 1 + 1, 0, none⟩ = some (.int .i64 0)
  f0 : W.frozen? ⟨w.heap.size, 0, none⟩ = false
  f1 : W.frozen? ⟨w.heap.size + 1, 0, none⟩ = false
  f2 : W.frozen? ⟨w.heap.size + 1 + 1, 0, none⟩ = false
  ln : LnO (fun b => w.heap.size + 3 ≤ b ∧ b < M) W ad0 acc
  own : OwnR (okFP (M + 1) v) W (M + 1) v xs L
  mp : MapSt W M K
theorem PSt.but {w : World} {acc : List (List Wrd)} {ad0 : Option Addr} {M : Nat} {v : Value} {xs : List RC} {L K : List Rl} {W W' : World} {S : Nat → Prop} (h : PSt w acc ad0 M v xs L K W) (hb : But S W W') (hs : ∀ b, S b → M ≤ b) (ho : ∀ g, v.ownBlock = some g → ¬ S g) (hp : ∀ b, okFP (M + 1) v b → ¬ S b) {K' : List Rl} (hm : MapSt W' M K') : PSt w acc ad0 M v xs L K' W' := by
  have h1 := h.lo
  have h2 := h.hi
  have n : ∀ j, j < M → ¬ S j := fun j hj e => by have := hs j e; omega
  exact ⟨h.bel.trans (hb.toBelow h.bel.size fun k hk => by have := hs k hk; omega), h1, Nat.lt_of_lt_of_le h2 hb.size,
    (hb.cell (p := ⟨w.heap.size, 0, none⟩) (by show w.heap.size < _; omega) (n (w.heap.size) (by omega))).trans h.c0, (hb.cell (p := ⟨w.heap.size + 1, 0, none⟩) (by show w.heap.size + 1 < _; omega) (n (w.heap.size + 1) (by omega))).trans h.c1, (hb.cell (p := ⟨w.heap.size + 1 + 1, 0, none⟩) (by show w.heap.size + 1 + 1 < _; omega) (n (w.heap.size + 1 + 1) (by omega))).trans h.c2,
    (hb.frozen (p := ⟨w.heap.size, 0, none⟩) (by show w.heap.size < _; omega) (n (w.heap.size) (by omega))).trans h.f0, (hb.frozen (p := ⟨w.heap.size + 1, 0, none⟩) (by show w.heap.size + 1 < _; omega) (n (w.heap.size + 1) (by omega))).trans h.f1, (hb.frozen (p := ⟨w.heap.size + 1 + 1, 0, none⟩) (by show w.heap.size + 1 + 1 < _; omega) (n (w.heap.size + 1 + 1) (by omega))).trans h.f2,
    h.ln.but hb fun b hk => n b hk.2, h.own.butP hb ho hp, hm⟩
theorem PSt.below {w : World} {acc : List (List Wrd)} {ad0 : Option Addr} {M : Nat} {v : Value} {xs : List RC} {L K : List Rl} {W W' : World} (h : PSt w acc ad0 M v xs L K W) (hb : Below W.heap.size W W') : PSt w acc ad0 M v xs L K W' :=
  h.but (S := fun _ => False) (But.below hb) (fun _ h => h.elim) (fun _ _ h => h) (fun _ _ h => h) (h.mp.but (S := fun _ => False) (But.below hb) fun h => h)
theorem PSt.mapped {w : World} {acc : List (List Wrd)} {ad0 : Option Addr} {M : Nat} {v : Value} {xs : List RC} {L K K' : List Rl} {W W' : World} (h : PSt w acc ad0 M v xs L K W) (hb : But (fun k => k = M) W W') (hm : MapSt W' M K') : PSt w acc ad0 M v xs L K' W' :=
  h.but hb (fun b e => by omega) (fun g hg e => by have := (own_ge h.own.row g hg).1; omega) (fun b hb e => by have := hb.1; omega) hm
theorem PSt.grown {w : World} {acc : List (List Wrd)} {ad0 : Option Addr} {M : Nat} {v v' : Value} {xs xs' : List RC} {L L' K : List Rl} {W W' : World} (h : PSt w acc ad0 M v xs L K W) (hg : W.grownBy W' v.ownBlock) (ho : OwnR (okFP (M + 1) v') W' (M + 1) v' xs' L') : PSt w acc ad0 M v' xs' L' K W' := by
  have hb : But (fun b => v.ownBlock = some b) W W' := ⟨hg.os, hg.tape, hg.output, hg.size, fun k hk hn => hg.block k hk (fun e => hn e.symm)⟩
  have h1 := h.lo
  have h2 := h.hi
  have n : ∀ j, j ≤ M → ¬ v.ownBlock = some j := fun j hj e => by have := (own_ge h.own.row j e).1; omega
  exact ⟨h.bel.trans (hb.toBelow h.bel.size fun k hk => by have := (own_ge h.own.row k hk).1; omega), h1, Nat.lt_of_lt_of_le h2 hb.size,
    (hb.cell (p := ⟨w.heap.size, 0, none⟩) (by show w.heap.size < _; omega) (n (w.heap.size) (by omega))).trans h.c0, (hb.cell (p := ⟨w.heap.size + 1, 0, none⟩) (by show w.heap.size + 1 < _; omega) (n (w.heap.size + 1) (by omega))).trans h.c1, (hb.cell (p := ⟨w.heap.size + 1 + 1, 0, none⟩) (by show w.heap.size + 1 + 1 < _; omega) (n (w.heap.size + 1 + 1) (by omega))).trans h.c2,
    (hb.frozen (p := ⟨w.heap.size, 0, none⟩) (by show w.heap.size < _; omega) (n (w.heap.size) (by omega))).trans h.f0, (hb.frozen (p := ⟨w.heap.size + 1, 0, none⟩) (by show w.heap.size + 1 < _; omega) (n (w.heap.size + 1) (by omega))).trans h.f1, (hb.frozen (p := ⟨w.heap.size + 1 + 1, 0, none⟩) (by show w.heap.size + 1 + 1 < _; omega) (n (w.heap.size + 1 + 1) (by omega))).trans h.f2,
    h.ln.but hb fun b hk => n b (by omega), ho, h.mp.but hb (n _ (Nat.le_refl _))⟩
/-- The fault's end of Parse. -/
theorem PSt.fault {w : World} {acc : List (List Wrd)} {ad0 : Option Addr} {M : Nat} {v : Value} {xs : List RC} {L K : List Rl} {W : World} (h : PSt w acc ad0 M v xs L K W) {tmps : Array Value} {s : ByteArray} {width : Int} (c : Int) (q : Wrd)
    (t4 : tmps.getD 4 undef = .slice none 0 0) (t5 : tmps.getD 5 undef = .pointer (some ⟨w.heap.size, 0, none⟩)) (t6 : tmps.getD 6 undef = .pointer (some ⟨w.heap.size + 1, 0, none⟩)) (t7 : tmps.getD 7 undef = .pointer (some ⟨w.heap.size + 1 + 1, 0, none⟩))
    (hP : Pr.parse s width = .error (c, q.l, q.c)) :
    Leaves Tryz.prog Tryz.f26 tmps (fun e w' => ParsePost s width w e w') [{ target := .fn (.func 48) #[], args := #[.pointer (some ⟨w.heap.size, 0, none⟩), .pointer (some ⟨w.heap.size + 1, 0, none⟩), .pointer (some ⟨w.heap.size + 2, 0, none⟩)] }] (.panicking [{ v := faultV c q, recovered := false }]) W := by
  refine pdoor_fault c q (.int .i64 0) (.int .i64 0) (.int .i64 0) (by have := h.lo; have := h.hi; omega) h.c0 h.c1 h.c2 h.f0 h.f1 h.f2 fun W' hB h0 h1 h2 => ?_
  refine ⟨_, res_parse _ w.heap.size _ none 0 0 q.l q.c c t4 t5 t6 t7 h0 h1 h2, ?_⟩
  show ParsePost _ _ _ _ _
  unfold ParsePost
  rw [hP]
  exact ⟨rfl, h.bel.trans (hB.mono (Nat.le_refl _))⟩
set_option maxHeartbeats 12800000 in
set_option maxRecDepth 20000 in
theorem parse_ok (s : ByteArray) (width : Int) (w : World) (hs : s.size ≤ 1048576) (h1 : 1 ≤ width) (h2 : width ≤ 128) (acc : List (List Wrd)) (hl : Wd.lines s.data.toList = .ok acc) : Calls Tryz.prog 26 #[.string s, .int .i64 width] w (ParsePost s width w) := by
  have hP : Pr.parse s width = Pr.parseF width acc [] := by unfold Pr.parse; rw [if_neg (by omega), hl]
  have HP := Lib.hid hP
  have HL := Lib.hid (fun w => lines_ok s w hs acc hl)
  have hsm := Wd.lines_small hl
  rw [← Lib.size_eq] at hsm
  have HSm := Lib.hid hsm
  have HSz := Lib.hid hs
  have hn6 : acc.length ≤ 1048577 := by have := hsm.1; omega
  obtain ⟨n, hn⟩ : ∃ n, acc.length = n := ⟨_, rfl⟩
  rw [hn] at HL hn6
  have HN := Lib.hid hn
  have hw1 : decide (width < 1) = false := by simp; omega
  have hw2 : decide (128 < width) = false := by simp; omega
  obtain ⟨W0, hW0⟩ : ∃ W0, W0 = ((w.alloc (.cells #[.int .i64 0] 3)).alloc (.cells #[.int .i64 0] 3)).alloc (.cells #[.int .i64 0] 28) := ⟨_, rfl⟩
  have hb0 : Below w.heap.size w W0 := by rw [hW0]; exact (((Below.refl _ _).alloc (Nat.le_refl _) _).alloc (by simp) _).alloc (by simp; omega) _
  have hs0 : W0.heap.size = w.heap.size + 3 := by rw [hW0]; simp
  have hA0 : W0.heap[w.heap.size]? = some (.cells #[.int .i64 0] 3 (0, 0)) := by
    rw [hW0]; simp only [al_heap, Array.getElem?_push, Array.size_push]; simp <;> omega
  have hB0 : W0.heap[w.heap.size + 1]? = some (.cells #[.int .i64 0] 3 (0, 0)) := by
    rw [hW0]; simp only [al_heap, Array.getElem?_push, Array.size_push]; simp <;> omega
  have hC0 : W0.heap[w.heap.size + 1 + 1]? = some (.cells #[.int .i64 0] 28 (0, 0)) := by
    rw [hW0]; simp only [al_heap, Array.getElem?_push, Array.size_push]; simp
  have HB0 := Lib.hid hb0
  have HS0 := Lib.hid hs0
  have HA0 := Lib.hid hA0
  have HBB := Lib.hid hB0
  have HC0 := Lib.hid hC0
  have HW0 := Lib.hid hW0
  clear hP hl hs h1 h2 hb0 hs0 hA0 hB0 hC0 hW0 hsm hn
  go_enter_defers Tryz.func26, Tryz.ntmps26
  go_upto_region 1 with fail
  rw [← HW0.out]
  clear HW0
  go_wp2_with fail
  refine (HL.out _).mono ?_
  rintro e w1 ⟨ad0, cap0, rfl, hrl, hb1⟩
  have a1 := (hb1.block _ (by rw [HS0.out]; omega)).trans HA0.out
  have b1 := (hb1.block _ (by rw [HS0.out]; omega)).trans HBB.out
  have c1 := (hb1.block _ (by rw [HS0.out]; omega)).trans HC0.out
  have k0 : w1.cell? ⟨w.heap.size, 0, none⟩ = some (.int .i64 0) := by simp [World.cell?, a1]
  have k1 : w1.cell? ⟨w.heap.size + 1, 0, none⟩ = some (.int .i64 0) := by simp [World.cell?, b1]
  have k2 : w1.cell? ⟨w.heap.size + 1 + 1, 0, none⟩ = some (.int .i64 0) := by simp [World.cell?, c1]
  have g0 : w1.frozen? ⟨w.heap.size, 0, none⟩ = false := by simp [World.frozen?, a1]
  have g1 : w1.frozen? ⟨w.heap.size + 1, 0, none⟩ = false := by simp [World.frozen?, b1]
  have g2 : w1.frozen? ⟨w.heap.size + 1 + 1, 0, none⟩ = false := by simp [World.frozen?, c1]
  obtain ⟨w2, hw2⟩ : ∃ w2, w2 = (w1.setCell ⟨w.heap.size, 0, none⟩ (.int .i64 0)).setCell ⟨w.heap.size + 1, 0, none⟩ (.int .i64 0) := ⟨_, rfl⟩
  have m0 : w2.cell? ⟨w.heap.size, 0, none⟩ = some (.int .i64 0) := by rw [hw2]; exact cell_setd2 (cell_set_same _ k0) (by simp)
  have m1 : w2.cell? ⟨w.heap.size + 1, 0, none⟩ = some (.int .i64 0) := by rw [hw2]; exact cell_set_same _ (cell_setd2 k1 (by simp))
  have m2 : w2.cell? ⟨w.heap.size + 1 + 1, 0, none⟩ = some (.int .i64 0) := by rw [hw2]; exact cell_setd2 (cell_setd2 k2 (by simp)) (by simp)
  have e0 : w2.frozen? ⟨w.heap.size, 0, none⟩ = false := by rw [hw2, World.frozen?_setCell, World.frozen?_setCell]; exact g0
  have e1 : w2.frozen? ⟨w.heap.size + 1, 0, none⟩ = false := by rw [hw2, World.frozen?_setCell, World.frozen?_setCell]; exact g1
  have e2 : w2.frozen? ⟨w.heap.size + 1 + 1, 0, none⟩ = false := by rw [hw2, World.frozen?_setCell, World.frozen?_setCell]; exact g2
  have hbt : But (fun b => b < w.heap.size + 3) w1 w2 := by
    rw [hw2]
    exact (But.set (S := fun b => b < w.heap.size + 3) (a := ⟨w.heap.size, 0, none⟩) (by show w.heap.size < _; omega) _).trans (But.set (S := fun b => b < w.heap.size + 3) (a := ⟨w.heap.size + 1, 0, none⟩) (by show w.heap.size + 1 < _; omega) _)
  have HB2 : Hid (Below w.heap.size w w2) := by
    show Below _ _ _
    rw [hw2]
    exact ((HB0.out.trans (hb1.mono HB0.out.size)).setCell (Nat.le_refl _) _).setCell (Nat.le_succ _) _
  have hs2 : w2.heap.size = w1.heap.size := by rw [hw2]; simp [World.setCell]
  have hs1 : w.heap.size + 3 ≤ w1.heap.size := by have := hb1.size; have := HS0.out; omega
  have HW2 := Lib.hid hw2
  have HRl := Lib.hid hrl
  have HBt := Lib.hid hbt
  clear hb1 a1 b1 c1 hw2 hrl hbt
  go_upto_region 4 with fail
  rw [← HW2.out]
  clear HW2 k0 k1 k2 g0 g1 g2
  obtain ⟨w3, hw3⟩ : ∃ w3, w3 = w2.alloc (.map #[] 0) := ⟨_, rfl⟩
  have HP3 : Hid (PSt w acc ad0 w2.heap.size (.slice none 0 0) [] [] [] w3) := by
    have hb : Below w2.heap.size w2 w3 := by rw [hw3]; exact (Below.refl _ _).alloc (Nat.le_refl _) _
    have hl : w2.heap.size < w3.heap.size := by rw [hw3]; simp
    obtain ⟨ad, cap, e, hln⟩ := rdsLn_ok (HRl.out.but HBt.out fun b hb => by have := HS0.out; omega)
    injection e with e1 _ _
    subst e1
    exact ⟨HB2.out.trans (hb.mono HB2.out.size), by omega, hl, (hb.cell (p := ⟨w.heap.size, 0, none⟩) (cellLt m0)).trans m0, (hb.cell (p := ⟨w.heap.size + 1, 0, none⟩) (cellLt m1)).trans m1, (hb.cell (p := ⟨w.heap.size + 1 + 1, 0, none⟩) (cellLt m2)).trans m2,
      ((But.below hb).frozen (S := fun _ => False) (p := ⟨w.heap.size, 0, none⟩) (cellLt m0) (fun h => h)).trans e0, ((But.below hb).frozen (S := fun _ => False) (p := ⟨w.heap.size + 1, 0, none⟩) (cellLt m1) (fun h => h)).trans e1, ((But.below hb).frozen (S := fun _ => False) (p := ⟨w.heap.size + 1 + 1, 0, none⟩) (cellLt m2) (fun h => h)).trans e2,
      fun i hi => by
        obtain ⟨b, off, adw, capw, e, h1, hl, hc, hr⟩ := (hln.but (S := fun _ => False) (But.below hb) (fun _ _ h => h)) i hi
        exact ⟨b, off, adw, capw, e, ⟨by have := h1.1; have := HS0.out; omega, h1.2⟩, hl, hc, hr.mono fun b _ h => ⟨by have := h.1; have := HS0.out; omega, h.2⟩⟩,
      ownR_nil _ _ _, ⟨#[], 0, by rw [hw3]; exact heap_alloc_new _ _, .nil⟩⟩
  have HW3 := Lib.hid hw3
  obtain ⟨M, hM⟩ : ∃ M, w2.heap.size = M := ⟨_, rfl⟩
  rw [hM] at HP3
  have hmm := @run_makeMap Tryz.prog
  clear m0 m1 m2 e0 e1 e2 hw3 hs2 hs1
  go_wp2_with fail
  clear hmm
  rw [← HW3.out]
  clear HW3 hM HBt HRl HB2
  go_loopw [10, 37] (fun s10 s37 wr => ∃ (i m : Nat) (ad : Option Addr) (c : Nat) (xs : List RC) (L : List Rl), s37 = .int .i64 i ∧ s10 = .slice ad m c ∧ i ≤ n ∧ m ≤ i ∧ Hid (L.length = m) ∧ Hid (PSt w acc ad0 M (.slice ad m c) xs L L wr) ∧ Hid (Pr.parseF width acc [] = Pr.parseF width (acc.drop i) L)) (fun _ s37 _ => n - (intOf s37).toNat)
  case atStart => exact ⟨0, 0, none, 0, [], [], rfl, rfl, Nat.zero_le _, Nat.le_refl _, rfl, HP3.out, rfl⟩
  case round =>
    obtain ⟨wo, rfl⟩ : ∃ wo : World, wo = wr := ⟨wr, rfl⟩
    obtain ⟨i, m, ad, c, xs, L, rfl, rfl, hin, hmi, HLn, HSt, HDo⟩ := hrel
    by_cases hlt : i < n
    · have hik : i < acc.length := by rw [HN.out]; exact hlt
      obtain ⟨b, off, adw, capw, rfl, hbo, hbl, hc, hr⟩ := HSt.out.ln i hik
      obtain ⟨ws, hws⟩ : ∃ ws, acc[i] = ws := ⟨_, rfl⟩
      have hsm := HSm.out.2 _ (List.getElem_mem hik)
      have hst := Pr.parseF_step (width := width) hik L
      rw [hws] at hc hr hsm hst
      obtain ⟨k, hk⟩ : ∃ k, ws.length = k := ⟨_, rfl⟩
      rw [hk] at hc hr
      have hsz : s.size ≤ 1048576 := HSz.out
      obtain ⟨W5, hW5⟩ : ∃ W5, W5 = wo.alloc (.cells #[.slice adw k capw, .int .i64 0] 119) := ⟨_, rfl⟩
      have hb5 : Below wo.heap.size wo W5 := by rw [hW5]; exact (Below.refl _ _).alloc (Nat.le_refl _) _
      have hs5 : W5.heap.size = wo.heap.size + 1 := by rw [hW5]; simp
      have hh5 : W5.heap[wo.heap.size]? = some (.cells #[.slice adw k capw, .int .i64 0] 119 (0, 0)) := by rw [hW5]; exact heap_alloc_new _ _
      have hR : Rdr (fun b => w.heap.size + 3 ≤ b ∧ b < M) wo.heap.size 0 (.slice adw k capw) ws W5 := ⟨by simp [World.cell?, hh5], by simp [World.cell?, hh5], by simp [World.frozen?, hh5], hr.below hb5, fun b hb e => by have := HSt.out.hi; omega, hsm.1, by have := hsm.2.1; omega, fun x hx => by have := (hsm.2.2 x hx).2; omega⟩
      have HR := Lib.hid hR
      have HRule := Lib.hid (rule_rd hR (fun b hb => by have := HSt.out.hi; omega) (fun x hx => by have := (hsm.2.2 x hx).1; omega) width)
      have HS5 := Lib.hid (HSt.out.below hb5)
      have HStp := Lib.hid (HDo.out.trans hst)
      have HBl := Lib.hid hb5
      have HSz5 := Lib.hid hs5
      have HW5 := Lib.hid hW5
      clear hR hr hsm hst hws hb5 hs5 hh5 hW5 hsz
      go_upto_region 13 with fail
      rw [← HW5.out]
      clear HW5
      go_wp2_with fail
      refine HRule.out.mono ?_
      intro e w6 hpost
      have hstp := HStp.out
      clear HStp
      cases hrl : Pr.rule ws width with
      | error cj =>
        obtain ⟨cc, j⟩ := cj
        unfold RulePost at hpost
        rw [hrl] at hpost hstp
        obtain ⟨rfl, hb6⟩ := hpost
        have hS6 := HSt.out.below ((but_fresh (But.below (S := fun _ => False) HBl.out) hb6 (fun x e => by omega)).toBelow (Nat.le_refl _) (fun _ h => h.elim))
        have HF := Lib.hid (fun tmps => hS6.fault (tmps := tmps) (s := s) (width := width) cc (Pr.wd ws j))
        have HE := Lib.hid (HP.out.trans hstp)
        clear hS6 hb6 hrl hstp
        go_wp2_with fail
        exact HF.out _ rfl rfl rfl rfl HE.out
      | ok r =>
        unfold RulePost at hpost
        rw [hrl] at hpost hstp
        obtain ⟨x, rfl, hx, ⟨j, hR6⟩, hb6⟩ := hpost
        have HStp := Lib.hid (HP.out.trans hstp)
        have HX := Lib.hid hx
        have HB6 := Lib.hid hb6
        have hl6 := hR6.lt
        obtain ⟨w7, hw7⟩ : ∃ w7, w7 = (w6.alloc (.cells #[.int .i64 x.p, .string x.m, .int .i64 x.k, .slice x.a x.n x.c] 47)) := ⟨_, rfl⟩
        have hb7 : Below w6.heap.size w6 w7 := by rw [hw7]; exact (Below.refl _ _).alloc (Nat.le_refl _) _
        have hh7 : w7.heap[w6.heap.size]? = some (.cells #[.int .i64 x.p, .string x.m, .int .i64 x.k, .slice x.a x.n x.c] 47 (0, 0)) := by rw [hw7]; exact heap_alloc_new _ _
        have hR7 := hR6.below hb7
        have r1 := hR7.c1
        have rf := hR7.f1
        have HR7 := Lib.hid hR7
        have HH7 := Lib.hid hh7
        have HB7 := Lib.hid hb7
        have HW7 := Lib.hid hw7
        clear hR7 hR6 hb7 hh7 hw7 hx hb6 hstp hrl HRule
        go_upto_region 14 with fail
        rw [← HW7.out]
        clear HW7
        obtain ⟨w8, hw8⟩ : ∃ w8, w8 = w7.setCell ⟨wo.heap.size, 1, none⟩ (.int .i64 0) := ⟨_, rfl⟩
        obtain ⟨hR8, hb8⟩ : Rdr (fun b => w.heap.size + 3 ≤ b ∧ b < M) wo.heap.size 0 (.slice adw k capw) ws w8 ∧ But (fun b => b = wo.heap.size) w7 w8 := by rw [hw8]; exact HR7.out.step 0
        have hh8 := (hb8.block _ (Array.getElem?_eq_some_iff.1 HH7.out).1 (by omega)).trans HH7.out
        have hx8 := (HX.out.below HB7.out).but hb8 (fun b hb e => by have := HSz5.out; omega)
        have hq8 := but_fresh (but_fresh (but_fresh (But.below (S := fun _ => False) HBl.out) HB6.out (fun x e => by omega)) (But.below (S := fun _ => False) HB7.out) (fun _ h => h.elim)) hb8 (fun x e => by omega)
        have hS8 := HSt.out.below (W' := w8) (hq8.toBelow (Nat.le_refl _) (fun _ h => h.elim))
        have HQ8 := Lib.hid hq8
        have d0 : w8.cell? ⟨w6.heap.size, 0, none⟩ = some (.int .i64 x.p) := by simp [World.cell?, hh8]
        have d1 : w8.cell? ⟨w6.heap.size, 1, none⟩ = some (.string x.m) := by simp [World.cell?, hh8]
        have d2 : w8.cell? ⟨w6.heap.size, 2, none⟩ = some (.int .i64 x.k) := by simp [World.cell?, hh8]
        have d3 : w8.cell? ⟨w6.heap.size, 3, none⟩ = some (.slice x.a x.n x.c) := by simp [World.cell?, hh8]
        have HR8 := Lib.hid hR8
        have HX8 := Lib.hid hx8
        have HS8 := Lib.hid hS8
        have HH8 := Lib.hid hh8
        have HW8 := Lib.hid hw8
        have hl8 : w6.heap.size < w8.heap.size := (Array.getElem?_eq_some_iff.1 hh8).1
        have ep := hx8.p
        have em := hx8.m
        obtain ⟨kn, hkn⟩ : ∃ kn, knownB L r.p r.m = kn := ⟨_, rfl⟩
        have HKn := Lib.hid hkn
        have hstp := HStp.out
        rw [hkn] at hstp
        have HStq := Lib.hid hstp
        have hHk := Lib.hid (fun (Wx : World) (h : MapSt Wx M L) => lookup_map h x.p x.m kn (by rw [ep, em]; exact hkn))
        clear hw8 hR8 hb8 hh8 hx8 hS8 HR7 HH7 HStp hkn hstp hq8 HBl HB6 HB7 HX HS5 ep em
        go_upto_region 15 with fail
        rw [← HW8.out]
        clear HW8 r1 rf
        go_wp2_with fail
        refine (keyOf_any x w8).mono ?_
        rintro e w9 ⟨rfl, hb9⟩
        have hR9 := HR8.out.below hb9
        have hlk := hHk.out w9 (HS8.out.below hb9).mp
        cases kn with
        | true =>
          rw [if_pos rfl] at hlk
          have HF := Lib.hid (fun (W : World) (hb : Below w9.heap.size w9 W) tmps => ((HS8.out.below hb9).below hb).fault (tmps := tmps) (s := s) (width := width) 52 (Pr.wd ws 0))
          have HE := Lib.hid (HStq.out.trans (if_pos rfl))
          have HM := Lib.hid (pmust_bad hR9 52 _ rfl)
          clear hR9 hb9 hHk HS8
          go_wp2_with fail
          refine HM.out.mono ?_
          rintro e w10 ⟨rfl, hb10⟩
          go_wp2_with fail
          exact HF.out w10 hb10 _ rfl rfl rfl rfl HE.out
        | false =>
          rw [if_neg (by decide)] at hlk
          have HM := Lib.hid (pmust_ok hR9 52 _ rfl (by omega))
          have HQ9 := Lib.hid (but_fresh HQ8.out (But.below (S := fun _ => False) hb9) (fun _ h => h.elim))
          have HH9 := Lib.hid ((hb9.block _ hl8).trans HH8.out)
          have HX9 := Lib.hid (HX8.out.below hb9)
          have HStr := Lib.hid (HStq.out.trans (if_neg (by decide)))
          have hl9 := Nat.lt_of_lt_of_le hl8 hb9.size
          clear hR9 hb9 hHk HS8 HQ8 HH8 HX8 HStq hl8
          go_wp2_with fail
          refine HM.out.mono ?_
          rintro e w10 ⟨rfl, hR10, hb10⟩
          have r1 := hR10.c1
          have rf := hR10.f1
          obtain ⟨w11, hw11⟩ : ∃ w11, w11 = w10.setCell ⟨wo.heap.size, 1, none⟩ (.int .i64 0) := ⟨_, rfl⟩
          obtain ⟨hR11, hb11⟩ : Rdr (fun b => w.heap.size + 3 ≤ b ∧ b < M) wo.heap.size 0 (.slice adw k capw) ws w11 ∧ But (fun b => b = wo.heap.size) w10 w11 := by rw [hw11]; exact hR10.step 0
          have hb12 := hb10.trans hb11
          have HQ11 := Lib.hid (but_fresh HQ9.out hb12 (fun x e => by omega))
          have HH11 := Lib.hid ((hb12.block _ hl9 (by omega)).trans HH9.out)
          have HX11 := Lib.hid (HX9.out.but hb12 (fun b hb e => by have := HSz5.out; omega))
          have HR11 := Lib.hid hR11
          have HW11 := Lib.hid hw11
          have hl11 := Nat.lt_of_lt_of_le hl9 hb12.size
          clear HM hw11 hR11 hb11 hb10 hR10 hb12 HQ9 HH9 HX9 d0 d1 d2 d3 hlk hl9
          go_upto_region 16 with fail
          go_upto_region 17 with fail
          rw [← HW11.out]
          clear HW11 r1 rf
          by_cases hm4 : (m : Int) < 4096
          · have HM := Lib.hid (pmust_ok HR11.out 3 _ rfl (by omega))
            go_wp2_with fail
            refine HM.out.mono ?_
            rintro e w12 ⟨rfl, hR12, hb12⟩
            have hq12 := but_fresh HQ11.out hb12 (fun x e => by omega)
            have hh12 := (hb12.block _ hl11 (by omega)).trans HH11.out
            have hx12 := HX11.out.but hb12 (fun b hb e => by have := HSz5.out; omega)
            have hl12 := Nat.lt_of_lt_of_le hl11 hb12.size
            have d0 : w12.cell? ⟨w6.heap.size, 0, none⟩ = some (.int .i64 x.p) := by simp [World.cell?, hh12]
            have d1 : w12.cell? ⟨w6.heap.size, 1, none⟩ = some (.string x.m) := by simp [World.cell?, hh12]
            have d2 : w12.cell? ⟨w6.heap.size, 2, none⟩ = some (.int .i64 x.k) := by simp [World.cell?, hh12]
            have d3 : w12.cell? ⟨w6.heap.size, 3, none⟩ = some (.slice x.a x.n x.c) := by simp [World.cell?, hh12]
            have HQ12 := Lib.hid hq12
            have HH12 := Lib.hid hh12
            have HX12 := Lib.hid hx12
            clear HM HQ11 HH11 HX11 HR11 hR12 hb12 hq12 hh12 hx12
            go_upto_region 18 with fail
            go_wp2_with fail
            refine (keyOf_any x w12).mono ?_
            rintro e w13 ⟨rfl, hb13⟩
            have hq13 := but_fresh HQ12.out (But.below (S := fun _ => False) hb13) (fun _ h => h.elim)
            have hS13 := HSt.out.below (hq13.toBelow (Nat.le_refl _) (fun _ h => h.elim))
            obtain ⟨w14, hup, hM14, hb14⟩ := update_map hS13.mp r HKn.out
            rw [← HX12.out.p, ← HX12.out.m] at hup
            have hS14 := hS13.mapped hb14 hM14
            have hh14 := (hb14.block _ (Nat.lt_of_lt_of_le hl12 hb13.size) (by have := HSt.out.hi; omega)).trans ((hb13.block _ hl12).trans HH12.out)
            have hx14 := (HX12.out.below hb13).but hb14 (fun b hb e => by have := HSz5.out; have := HSt.out.hi; omega)
            have hog := own_ge HSt.out.own.row
            have e0 : w14.cell? ⟨w6.heap.size, 0, none⟩ = some (.int .i64 x.p) := by simp [World.cell?, hh14]
            have e1 : w14.cell? ⟨w6.heap.size, 1, none⟩ = some (.string x.m) := by simp [World.cell?, hh14]
            have e2 : w14.cell? ⟨w6.heap.size, 2, none⟩ = some (.int .i64 x.k) := by simp [World.cell?, hh14]
            have e3 : w14.cell? ⟨w6.heap.size, 3, none⟩ = some (.slice x.a x.n x.c) := by simp [World.cell?, hh14]
            obtain ⟨w15, hw15⟩ : ∃ w15, w15 = w14.alloc (.cells #[.int .i64 x.p, .string x.m, .int .i64 x.k, .slice x.a x.n x.c] 47) := ⟨_, rfl⟩
            have hb15 : Below w14.heap.size w14 w15 := by rw [hw15]; exact (Below.refl _ _).alloc (Nat.le_refl _) _
            have hh15 : w15.heap[w14.heap.size]? = some (.cells #[.int .i64 x.p, .string x.m, .int .i64 x.k, .slice x.a x.n x.c] 47 (0, 0)) := by rw [hw15]; exact heap_alloc_new _ _
            have HH15 := Lib.hid hh15
            have HS15 := Lib.hid (hS14.below hb15)
            have HX15 := Lib.hid ((hx14.below hb15).mono (ok' := okFP (M + 1) (.slice ad m c)) fun b hb => ⟨by have := HSz5.out; have := HSt.out.hi; omega, fun e => by have := (hog b e).2; have := HSz5.out; omega⟩)
            have HW15 := Lib.hid hw15
            have HStz := Lib.hid (HStr.out.trans (if_neg (by rw [HLn.out]; omega)))
            clear hq13 hS13 hM14 hb14 hS14 hh14 hx14 hog hw15 hb15 hh15 HQ12 HH12 HX12 HKn HStr hb13
            go_upto_region 19 with fail
            go_wp2_with (at_builtin; go_loud (refine wpList_plain rfl (fun _ hK => wp_app_oneP (.tmp 68) (.tmp 70) rfl (M + 1) (.slice ad m c) xs L (by rfl) (by rw [← HW15.out]; exact HS15.out.own) w14.heap.size 1 x r (by rfl) (by rw [← HW15.out]; exact HH15.out) (by rw [← HW15.out]; exact HX15.out) (m + 1) (by rw [HLn.out]) (by omega) (by rw [← HW15.out]; have := HS15.out.hi; omega) (fun ad16 c16 w16 ho16 hg16 => hK _ _ ?_))); have HO16 := Lib.hid ho16; rw [← HW15.out] at hg16; have HG16 := Lib.hid hg16; clear ho16 hg16 hK)
            go_roundw
            case rel => exact ⟨i + 1, m + 1, ad16, c16, xs ++ [x], L ++ [r], by first | rfl | go_num, rfl, by omega, by omega, by show _ = _; rw [List.length_append, HLn.out]; rfl, HS15.out.grown HG16.out HO16.out, HP.out.symm.trans HStz.out⟩
            case measure => simp [intOf]; omega
          · have HM := Lib.hid (pmust_bad HR11.out 3 _ rfl)
            have hS11 := HSt.out.below (HQ11.out.toBelow (Nat.le_refl _) (fun _ h => h.elim))
            have HF := Lib.hid (fun (W : World) (hb : Below w11.heap.size w11 W) tmps => (hS11.below hb).fault (tmps := tmps) (s := s) (width := width) 3 (Pr.wd ws 0))
            have HE := Lib.hid (HStr.out.trans (if_pos (by rw [HLn.out]; omega)))
            clear hS11
            go_wp2_with fail
            refine HM.out.mono ?_
            rintro e w12 ⟨rfl, hb12⟩
            go_wp2_with fail
            exact HF.out w12 hb12 _ rfl rfl rfl rfl HE.out
    · have hie : i = acc.length := by rw [HN.out]; omega
      have HE : Hid (Pr.parse s width = .ok L) := by
        show _ = _
        rw [HP.out, HDo.out, hie, List.drop_length]
        rfl
      have q0 := HSt.out.c0
      have q1 := HSt.out.c1
      have q2 := HSt.out.c2
      have p0 := HSt.out.f0
      have p1 := HSt.out.f1
      have p2 := HSt.out.f2
      obtain ⟨wz, hwz⟩ : ∃ wz, wz = ((wo.setCell ⟨w.heap.size, 0, none⟩ (.int .i64 0)).setCell ⟨w.heap.size + 1, 0, none⟩ (.int .i64 0)).setCell ⟨w.heap.size + 1 + 1, 0, none⟩ (.int .i64 0) := ⟨_, rfl⟩
      have n0 : wz.cell? ⟨w.heap.size, 0, none⟩ = some (.int .i64 0) := by rw [hwz]; exact cell_setd2 (cell_setd2 (cell_set_same _ q0) (by simp)) (by simp)
      have n1 : wz.cell? ⟨w.heap.size + 1, 0, none⟩ = some (.int .i64 0) := by rw [hwz]; exact cell_setd2 (cell_set_same _ (cell_setd2 q1 (by simp))) (by simp)
      have n2 : wz.cell? ⟨w.heap.size + 1 + 1, 0, none⟩ = some (.int .i64 0) := by rw [hwz]; exact cell_set_same _ (cell_setd2 (cell_setd2 q2 (by simp)) (by simp))
      have hbz : But (fun b => w.heap.size ≤ b ∧ b < w.heap.size + 3) wo wz := by
        rw [hwz]
        exact ((But.set (S := fun b => w.heap.size ≤ b ∧ b < w.heap.size + 3) (a := ⟨w.heap.size, 0, none⟩) ⟨Nat.le_refl _, by show w.heap.size < _; omega⟩ _).trans (But.set (S := fun b => w.heap.size ≤ b ∧ b < w.heap.size + 3) (a := ⟨w.heap.size + 1, 0, none⟩) ⟨by show _ ≤ w.heap.size + 1; omega, by show w.heap.size + 1 < _; omega⟩ _)).trans (But.set (S := fun b => w.heap.size ≤ b ∧ b < w.heap.size + 3) (a := ⟨w.heap.size + 1 + 1, 0, none⟩) ⟨by show _ ≤ w.heap.size + 1 + 1; omega, by show w.heap.size + 1 + 1 < _; omega⟩ _)
      have HBz := Lib.hid (HSt.out.bel.trans (hbz.toBelow HSt.out.bel.size fun k hk => hk.1))
      have HRz := Lib.hid ((HSt.out.own.freshRdsP.but hbz fun b hb e => by have := HSt.out.lo; omega).mono (ok' := fun b => w.heap.size ≤ b) fun b hb => by have := HSt.out.lo; omega)
      have HWz := Lib.hid hwz
      clear hie hwz hbz HSt HDo
      go_wp2_with fail
      rw [← HWz.out]
      refine pdoor_ret ⟨_, res_parse _ w.heap.size _ ad m c 0 0 0 rfl rfl rfl rfl n0 n1 n2, ?_⟩
      show ParsePost _ _ _ _ _
      unfold ParsePost
      rw [HE.out]
      have hm := HLn.out
      subst hm
      exact ⟨ad, c, rfl, HRz.out, HBz.out⟩
theorem Parse_any (s : ByteArray) (width : Int) (w : World) (hs : s.size ≤ 1048576) : Calls Tryz.prog 26 #[.string s, .int .i64 width] w (ParsePost s width w) := by
  by_cases h : width < 1 ∨ 128 < width
  · exact parse_width s width w h
  · cases hl : Wd.lines s.data.toList with
    | error e =>
      obtain ⟨num, p⟩ := e
      exact parse_err s width w hs (by omega) (by omega) num p hl
    | ok acc => exact parse_ok s width w hs (by omega) (by omega) acc hl
theorem res_rword (w : World) (b : Nat) (tmps : Array Value) (t : ByteArray) (l c : Int) (h2 : tmps.getD 2 undef = .pointer (some ⟨b, 0, none⟩)) (h0 : w.cell? ⟨b, 0, none⟩ = some (.string t)) (h1 : w.cell? ⟨b, 1, none⟩ = some (.int .i64 l)) (h3 : w.cell? ⟨b, 2, none⟩ = some (.int .i64 c)) :
    (results Tryz.f95 tmps).run Tryz.prog w = .ok (.agg #[.string t, .int .i64 l, .int .i64 c]) w := by
  rw [Array.getD_eq_getD_getElem?] at h2
  simp [results, Tryz.results95, h2, loadVar, asAddr, go_sem, Tryz.isAgg167, Tryz.sizeOf167, h0, h1, h3]
set_option maxHeartbeats 1600000 in
set_option maxRecDepth 20000 in
theorem rword_any {ok : Nat → Prop} {rb i : Nat} {v : Value} {ws : List Wrd} {w : World} (h : Rdr ok rb i v ws w) (q : Wrd) (hq : Pr.wd ws i = q) :
    Calls Tryz.prog 95 #[.pointer (some ⟨rb, 0, none⟩)] w fun e w' => e = .returned (.agg #[.string q.t, .int .i64 q.l, .int .i64 q.c]) ∧ Below w.heap.size w w' := by
  subst hq
  obtain ⟨W0, hW0⟩ : ∃ W0, W0 = w.alloc (.cells #[.string ⟨#[]⟩, .int .i64 0, .int .i64 0] 167) := ⟨_, rfl⟩
  have hb0 : Below w.heap.size w W0 := by rw [hW0]; exact (Below.refl _ _).alloc (Nat.le_refl _) _
  have hh0 : W0.heap[w.heap.size]? = some (.cells #[.string ⟨#[]⟩, .int .i64 0, .int .i64 0] 167 (0, 0)) := by rw [hW0]; exact heap_alloc_new _ _
  have hlt := h.lt
  obtain ⟨ad, cap, hv, hnc, hcm, _⟩ := id h.rd
  have hne := h.ne
  have hfew := h.few
  have hz := h.z
  obtain ⟨n, hn⟩ : ∃ n, ws.length = n := ⟨_, rfl⟩
  have h0 := h.below hb0
  have hrd := h.rd
  rw [hv] at hrd
  have c0 := h0.c0
  have c1 := h0.c1
  rw [hv, hn] at c0
  rw [hn] at hrd hne hfew
  have hs0 : W0.heap.size = w.heap.size + 1 := by rw [hW0]; simp
  have HB0 := Lib.hid hb0
  have HH0 := Lib.hid hh0
  have HW0 := Lib.hid hW0
  have HS0 := Lib.hid hs0
  by_cases hi : i < n
  · obtain ⟨b, off, rfl, hbl, k0, k1, k2⟩ := hrd.at_ i (by rw [hn]; exact hi)
    rw [Pr.wd_in (by rw [hn]; exact hi)]
    obtain ⟨x, hx⟩ : ∃ x, ws[i]'(by rw [hn]; exact hi) = x := ⟨_, rfl⟩
    rw [hx] at k0 k1 k2 ⊢
    have K0 := (hb0.cell (p := ⟨b, off + i * 3, none⟩) hbl).trans k0
    have K1 := (hb0.cell (p := ⟨b, off + i * 3 + 1, none⟩) hbl).trans k1
    have K2 := (hb0.cell (p := ⟨b, off + i * 3 + 2, none⟩) hbl).trans k2
    have hiz : (i : Int) < (n : Int) := by omega
    have hi0 : (0 : Int) ≤ (i : Int) := by omega
    clear h h0 hrd hn hz hv hnc hcm hW0 hb0 hh0 hs0 hx k0 k1 k2 hne hfew
    go_enter Tryz.func95, Tryz.ntmps95
    go_upto_region 1 with fail
    rw [← HW0.out]
    clear HW0
    go_wp2_with fail
    go_quiet (fail)
    go_upto_region 2 with fail
    obtain ⟨wq, hwq⟩ : ∃ wq, wq = W0.drewN nq := ⟨_, rfl⟩
    have hc : ∀ p, wq.cell? p = W0.cell? p := fun p => by rw [hwq]; rfl
    have hbq : Below w.heap.size w wq := by rw [hwq]; exact below_dN HB0.out nq
    have hhq : wq.heap[w.heap.size]? = some (.cells #[.string ⟨#[]⟩, .int .i64 0, .int .i64 0] 167 (0, 0)) := by rw [hwq]; exact HH0.out
    rw [← hwq]
    have d0 := (hc _).trans c0
    have d1 := (hc _).trans c1
    have D0 := (hc _).trans K0
    have D1 := (hc _).trans K1
    have D2 := (hc _).trans K2
    have t0 : wq.cell? ⟨w.heap.size, 0, none⟩ = some (.string ⟨#[]⟩) := by simp [World.cell?, hhq]
    have t1 : wq.cell? ⟨w.heap.size, 1, none⟩ = some (.int .i64 0) := by simp [World.cell?, hhq]
    have t2 : wq.cell? ⟨w.heap.size, 2, none⟩ = some (.int .i64 0) := by simp [World.cell?, hhq]
    have g0 : wq.frozen? ⟨w.heap.size, 0, none⟩ = false := by simp [World.frozen?, hhq]
    have g1 : wq.frozen? ⟨w.heap.size, 1, none⟩ = false := by simp [World.frozen?, hhq]
    have g2 : wq.frozen? ⟨w.heap.size, 2, none⟩ = false := by simp [World.frozen?, hhq]
    have HBq := Lib.hid hbq
    clear c0 c1 K0 K1 K2 hc hhq hwq hbq
    have hk : wq.cell? ⟨rb, 0, none⟩ = some (.slice (some ⟨b, off, none⟩) n cap) ∧ wq.cell? ⟨rb, 1, none⟩ = some (.int .i64 i) ∧ wq.cell? ⟨b, off + i * 3, none⟩ = some (.string x.t) ∧ wq.cell? ⟨b, off + i * 3 + 1, none⟩ = some (.int .i64 x.l) ∧ wq.cell? ⟨b, off + i * 3 + 2, none⟩ = some (.int .i64 x.c) := ⟨d0, d1, D0, D1, D2⟩
    have hky : ∀ (x1 x2 x3 : Value) (p : Addr) (r : Option Value), p.block < w.heap.size → wq.cell? p = r → (((wq.setCell ⟨w.heap.size, 0, none⟩ x1).setCell ⟨w.heap.size, 1, none⟩ x2).setCell ⟨w.heap.size, 2, none⟩ x3).cell? p = r := fun x1 x2 x3 p r hp h =>
      cell_setd (by show w.heap.size ≠ p.block; omega) (cell_setd (by show w.heap.size ≠ p.block; omega) (cell_setd (by show w.heap.size ≠ p.block; omega) h))
    go_region_held3 (fun Wx => Wx.cell? ⟨rb, 0, none⟩ = some (.slice (some ⟨b, off, none⟩) n cap) ∧ Wx.cell? ⟨rb, 1, none⟩ = some (.int .i64 i) ∧ Wx.cell? ⟨b, off + i * 3, none⟩ = some (.string x.t) ∧ Wx.cell? ⟨b, off + i * 3 + 1, none⟩ = some (.int .i64 x.l) ∧ Wx.cell? ⟨b, off + i * 3 + 2, none⟩ = some (.int .i64 x.c)) (first | exact hk | exact ⟨hky _ _ _ _ _ hlt hk.1, hky _ _ _ _ _ hlt hk.2.1, hky _ _ _ _ _ hbl hk.2.2.1, hky _ _ _ _ _ hbl hk.2.2.2.1, hky _ _ _ _ _ hbl hk.2.2.2.2⟩ | go_keep) (fail)
    rename_i hHeld
    clear hHeld hk hky d0 d1 D0 D1 D2
    go_wp2_with fail
    refine bodyPost_ret (res_rword _ w.heap.size _ x.t x.l x.c rfl ?_ ?_ ?_) rfl ?_
    · exact cell_setd2 (cell_setd2 (cell_set_same _ t0) (by simp)) (by simp)
    · exact cell_setd2 (cell_set_same _ (cell_setd2 t1 (by simp))) (by simp)
    · exact cell_set_same _ (cell_setd2 (cell_setd2 t2 (by simp)) (by simp))
    · exact ⟨rfl, ((((HBq.out.setCell (Nat.le_refl _) _).setCell (Nat.le_refl _) _).setCell (Nat.le_refl _) _)).drew⟩
  · have hn0 : 0 < n := hne
    obtain ⟨b, off, rfl, hbl, k0, k1, k2⟩ := hrd.at_ (n - 1) (by rw [hn]; omega)
    rw [Pr.wd_out (by rw [hn]; exact hi) (by rw [hn]; exact hne)]
    obtain ⟨m, hm⟩ : ∃ m, n - 1 = m := ⟨_, rfl⟩
    have hmn : m < n := by omega
    obtain ⟨x, hx⟩ : ∃ x, ws[n - 1]'(by rw [hn]; omega) = x := ⟨_, rfl⟩
    have hx2 : ws[ws.length - 1]'(by rw [hn]; omega) = x := by rw [← hx]; congr 1; omega
    rw [hx2]
    have hxz := hz x (by rw [← hx]; exact List.getElem_mem _)
    rw [hx] at k0 k1 k2
    rw [hm] at k0 k1 k2
    have K0 := (hb0.cell (p := ⟨b, off + m * 3, none⟩) hbl).trans k0
    have K1 := (hb0.cell (p := ⟨b, off + m * 3 + 1, none⟩) hbl).trans k1
    have K2 := (hb0.cell (p := ⟨b, off + m * 3 + 2, none⟩) hbl).trans k2
    have hiz : decide ((i : Int) < (n : Int)) = false := by simp; omega
    have hmz : (n : Int) - 1 = (m : Int) := by omega
    have hw1 : IntKind.i64.wrap ((n : Int) - 1) = (m : Int) := by rw [hmz]; exact IntWalk.i64_in _ (by omega)
    have hw2 : IntKind.i64.wrap (m : Int) = (m : Int) := IntWalk.i64_in _ (by omega)
    have hw3 : IntKind.i64.wrap ((x.c : Int) + (x.t.size : Int)) = (x.c : Int) + (x.t.size : Int) := IntWalk.i64_in _ (by omega)
    have hm0 : (0 : Int) ≤ (m : Int) := by omega
    have hm1 : (m : Int) < (n : Int) := by omega
    clear h h0 hrd hn hz hv hnc hcm hW0 hb0 hh0 hs0 hx hx2 k0 k1 k2 hne hfew hm
    go_enter Tryz.func95, Tryz.ntmps95
    go_upto_region 1 with fail
    rw [← HW0.out]
    clear HW0
    go_wp2_with fail
    go_quiet (fail)
    go_upto_region 3 with fail
    obtain ⟨wq, hwq⟩ : ∃ wq, wq = W0.drewN nq := ⟨_, rfl⟩
    have hc : ∀ p, wq.cell? p = W0.cell? p := fun p => by rw [hwq]; rfl
    have hbq : Below w.heap.size w wq := by rw [hwq]; exact below_dN HB0.out nq
    have hhq : wq.heap[w.heap.size]? = some (.cells #[.string ⟨#[]⟩, .int .i64 0, .int .i64 0] 167 (0, 0)) := by rw [hwq]; exact HH0.out
    have hsq : wq.heap.size = w.heap.size + 1 := by rw [hwq]; exact HS0.out
    rw [← hwq]
    have d0 := (hc _).trans c0
    have D0 := (hc _).trans K0
    have D1 := (hc _).trans K1
    have D2 := (hc _).trans K2
    have HHq := Lib.hid hhq
    have HBq := Lib.hid hbq
    have HSq := Lib.hid hsq
    have hbq1 : b < wq.heap.size := by omega
    have hrq1 : rb < wq.heap.size := by omega
    clear c0 c1 K0 K1 K2 hc hhq hwq hbq hsq
    have hk : wq.cell? ⟨rb, 0, none⟩ = some (.slice (some ⟨b, off, none⟩) n cap) ∧ wq.cell? ⟨b, off + m * 3, none⟩ = some (.string x.t) ∧ wq.cell? ⟨b, off + m * 3 + 1, none⟩ = some (.int .i64 x.l) ∧ wq.cell? ⟨b, off + m * 3 + 2, none⟩ = some (.int .i64 x.c) := ⟨d0, D0, D1, D2⟩
    have hky : ∀ (o : Obj) (p : Addr) (r : Option Value), p.block < wq.heap.size → wq.cell? p = r → (wq.alloc o).cell? p = r := fun o p r hp h => (((Below.refl _ _).alloc (Nat.le_refl _) o : Below wq.heap.size wq (wq.alloc o)).cell hp).trans h
    go_region_held3 (fun Wx => Wx.cell? ⟨rb, 0, none⟩ = some (.slice (some ⟨b, off, none⟩) n cap) ∧ Wx.cell? ⟨b, off + m * 3, none⟩ = some (.string x.t) ∧ Wx.cell? ⟨b, off + m * 3 + 1, none⟩ = some (.int .i64 x.l) ∧ Wx.cell? ⟨b, off + m * 3 + 2, none⟩ = some (.int .i64 x.c)) (first | exact hk | exact ⟨hky _ _ _ hrq1 hk.1, hky _ _ _ hbq1 hk.2.1, hky _ _ _ hbq1 hk.2.2.1, hky _ _ _ hbq1 hk.2.2.2⟩ | go_keep) (fail)
    rename_i hHeld
    clear hHeld hk hky d0 D0 D1 D2
    obtain ⟨w3, hw3⟩ : ∃ w3, w3 = (wq.alloc (.cells #[.string x.t, .int .i64 x.l, .int .i64 x.c] 167)).drew := ⟨_, rfl⟩
    have hb3 : Below wq.heap.size wq w3 := by rw [hw3]; exact ((Below.refl _ _).alloc (Nat.le_refl _) _).drew
    have hh3 : w3.heap[wq.heap.size]? = some (.cells #[.string x.t, .int .i64 x.l, .int .i64 x.c] 167 (0, 0)) := by rw [hw3]; exact heap_alloc_new _ _
    have hh4 : w3.heap[w.heap.size]? = some (.cells #[.string ⟨#[]⟩, .int .i64 0, .int .i64 0] 167 (0, 0)) := (hb3.block _ (by rw [HSq.out]; omega)).trans HHq.out
    have hsq := HSq.out
    have y0 : w3.cell? ⟨wq.heap.size, 0, none⟩ = some (.string x.t) := by simp [World.cell?, hh3]
    have y1 : w3.cell? ⟨wq.heap.size, 1, none⟩ = some (.int .i64 x.l) := by simp [World.cell?, hh3]
    have y2 : w3.cell? ⟨wq.heap.size, 2, none⟩ = some (.int .i64 x.c) := by simp [World.cell?, hh3]
    have t0 : w3.cell? ⟨w.heap.size, 0, none⟩ = some (.string ⟨#[]⟩) := by simp [World.cell?, hh4]
    have t1 : w3.cell? ⟨w.heap.size, 1, none⟩ = some (.int .i64 0) := by simp [World.cell?, hh4]
    have t2 : w3.cell? ⟨w.heap.size, 2, none⟩ = some (.int .i64 0) := by simp [World.cell?, hh4]
    have g0 : w3.frozen? ⟨w.heap.size, 0, none⟩ = false := by simp [World.frozen?, hh4]
    have g1 : w3.frozen? ⟨w.heap.size, 1, none⟩ = false := by simp [World.frozen?, hh4]
    have g2 : w3.frozen? ⟨w.heap.size, 2, none⟩ = false := by simp [World.frozen?, hh4]
    have HB3 : Hid (Below w.heap.size w w3) := HBq.out.trans (hb3.mono HBq.out.size)
    rw [← hw3]
    clear hw3 hb3 hh3 hh4 hsq
    go_wp2_with fail
    refine bodyPost_ret (res_rword _ w.heap.size _ ⟨#[]⟩ x.l ((x.c : Int) + (x.t.size : Int)) rfl ?_ ?_ ?_) rfl ?_
    · exact cell_setd2 (cell_setd2 (cell_set_same _ t0) (by simp)) (by simp)
    · exact cell_setd2 (cell_set_same _ (cell_setd2 t1 (by simp))) (by simp)
    · exact cell_set_same _ (cell_setd2 (cell_setd2 t2 (by simp)) (by simp))
    · exact ⟨by simp, (((HB3.out.setCell (Nat.le_refl _) _).setCell (Nat.le_refl _) _).setCell (Nat.le_refl _) _)⟩
/-- The reference's reader in block rb: its words, its place, the fault's place and its number. -/
structure RRd (ok : Nat → Prop) (rb i : Nat) (l c e : Int) (v : Value) (ws : List Wrd) (w : World) : Prop where
  r : Rdr ok rb i v ws w
  c2 : w.cell? ⟨rb, 2, none⟩ = some (.int .i64 l)
  c3 : w.cell? ⟨rb, 3, none⟩ = some (.int .i64 c)
  c4 : w.cell? ⟨rb, 4, none⟩ = some (.int .i64 e)
  f2 : w.frozen? ⟨rb, 2, none⟩ = false
  f3 : w.frozen? ⟨rb, 3, none⟩ = false
  f4 : w.frozen? ⟨rb, 4, none⟩ = false
theorem RRd.but {ok S : Nat → Prop} {rb i : Nat} {l c e : Int} {v : Value} {ws : List Wrd} {w w' : World} (h : RRd ok rb i l c e v ws w) (hb : But S w w') (h1 : ¬ S rb) (h2 : ∀ b, ok b → ¬ S b) : RRd ok rb i l c e v ws w' :=
  ⟨h.r.but hb h1 h2, (hb.cell (p := ⟨rb, 2, none⟩) h.r.lt h1).trans h.c2, (hb.cell (p := ⟨rb, 3, none⟩) h.r.lt h1).trans h.c3, (hb.cell (p := ⟨rb, 4, none⟩) h.r.lt h1).trans h.c4,
    (hb.frozen (p := ⟨rb, 2, none⟩) h.r.lt h1).trans h.f2, (hb.frozen (p := ⟨rb, 3, none⟩) h.r.lt h1).trans h.f3, (hb.frozen (p := ⟨rb, 4, none⟩) h.r.lt h1).trans h.f4⟩
theorem RRd.below {ok : Nat → Prop} {rb i : Nat} {l c e : Int} {v : Value} {ws : List Wrd} {w w' : World} (h : RRd ok rb i l c e v ws w) (hb : Below w.heap.size w w') : RRd ok rb i l c e v ws w' := h.but (S := fun _ => False) (But.below hb) (fun h => h) (fun _ _ h => h)
theorem RRd.step {ok : Nat → Prop} {rb i : Nat} {l c e : Int} {v : Value} {ws : List Wrd} {w : World} (h : RRd ok rb i l c e v ws w) (j : Nat) : RRd ok rb j l c e v ws (w.setCell ⟨rb, 1, none⟩ (.int .i64 j)) ∧ But (fun b => b = rb) w (w.setCell ⟨rb, 1, none⟩ (.int .i64 j)) :=
  ⟨⟨(h.r.step j).1, (cell_set_other _ (by simp)).trans h.c2, (cell_set_other _ (by simp)).trans h.c3, (cell_set_other _ (by simp)).trans h.c4, by rw [World.frozen?_setCell]; exact h.f2, by rw [World.frozen?_setCell]; exact h.f3, by rw [World.frozen?_setCell]; exact h.f4⟩, (h.r.step j).2⟩
/-- A fault is laid. -/
theorem RRd.lay {ok : Nat → Prop} {rb i : Nat} {l c e : Int} {v : Value} {ws : List Wrd} {w : World} (h : RRd ok rb i l c e v ws w) (l' c' e' : Int) (hn : ∀ b, ok b → b ≠ rb) {W : World} (hW : W = ((w.setCell ⟨rb, 4, none⟩ (.int .i64 e')).setCell ⟨rb, 2, none⟩ (.int .i64 l')).setCell ⟨rb, 3, none⟩ (.int .i64 c')) : RRd ok rb i l' c' e' v ws W ∧ But (fun b => b = rb) w W := by
  subst hW
  have hb : But (fun b => b = rb) w (((w.setCell ⟨rb, 4, none⟩ (.int .i64 e')).setCell ⟨rb, 2, none⟩ (.int .i64 l')).setCell ⟨rb, 3, none⟩ (.int .i64 c')) :=
    ((But.set (S := fun b => b = rb) (a := ⟨rb, 4, none⟩) rfl _).trans (But.set (S := fun b => b = rb) (a := ⟨rb, 2, none⟩) rfl _)).trans (But.set (S := fun b => b = rb) (a := ⟨rb, 3, none⟩) rfl _)
  refine ⟨⟨⟨cell_setd2 (cell_setd2 (cell_setd2 h.r.c0 (by simp)) (by simp)) (by simp), cell_setd2 (cell_setd2 (cell_setd2 h.r.c1 (by simp)) (by simp)) (by simp), ?_, h.r.rd.but hb (fun b hk e => hn b hk e), h.r.no, h.r.ne, h.r.few, h.r.z⟩,
    cell_setd2 (cell_set_same _ (cell_setd2 h.c2 (by simp))) (by simp), cell_set_same _ (cell_setd2 (cell_setd2 h.c3 (by simp)) (by simp)), cell_setd2 (cell_setd2 (cell_set_same _ h.c4) (by simp)) (by simp), ?_, ?_, ?_⟩, hb⟩
  · rw [World.frozen?_setCell, World.frozen?_setCell, World.frozen?_setCell]; exact h.r.f1
  · rw [World.frozen?_setCell, World.frozen?_setCell, World.frozen?_setCell]; exact h.f2
  · rw [World.frozen?_setCell, World.frozen?_setCell, World.frozen?_setCell]; exact h.f3
  · rw [World.frozen?_setCell, World.frozen?_setCell, World.frozen?_setCell]; exact h.f4
set_option maxHeartbeats 1600000 in
set_option maxRecDepth 20000 in
theorem fail_any {ok : Nat → Prop} {rb i : Nat} {l c : Int} {v : Value} {ws : List Wrd} {w : World} (h : RRd ok rb i l c 0 v ws w) (code : Int) (q : Wrd) (hq : Pr.wd ws i = q) :
    Calls Tryz.prog 58 #[.pointer (some ⟨rb, 0, none⟩), .int .i64 code] w fun e w' => e = .returned (.tuple #[]) ∧ RRd ok rb i q.l q.c code v ws w' ∧ But (fun b => b = rb) w w' := by
  have HW := Lib.hid (rword_any h.r _ hq)
  have H := Lib.hid h
  have c4 := h.c4
  have hl := h.r.lt
  clear h hq
  go_enter Tryz.func58, Tryz.ntmps58
  go_wp2_with fail
  refine HW.out.mono ?_
  rintro e w1 ⟨rfl, hb1⟩
  have h1 := H.out.below hb1
  obtain ⟨w2, hw2⟩ : ∃ w2, w2 = w1.alloc (.cells #[.string q.t, .int .i64 q.l, .int .i64 q.c] 167) := ⟨_, rfl⟩
  have hb2 : Below w1.heap.size w1 w2 := by rw [hw2]; exact (Below.refl _ _).alloc (Nat.le_refl _) _
  have hh2 : w2.heap[w1.heap.size]? = some (.cells #[.string q.t, .int .i64 q.l, .int .i64 q.c] 167 (0, 0)) := by rw [hw2]; exact heap_alloc_new _ _
  have h2 := h1.below hb2
  have hne : rb ≠ w1.heap.size := by have := hb1.size; omega
  have y1 : w2.cell? ⟨w1.heap.size, 1, none⟩ = some (.int .i64 q.l) := by simp [World.cell?, hh2]
  have y2 : w2.cell? ⟨w1.heap.size, 2, none⟩ = some (.int .i64 q.c) := by simp [World.cell?, hh2]
  have d2 := h2.c2
  have d3 := h2.c3
  have d4 := h2.c4
  have g2 := h2.f2
  have g3 := h2.f3
  have g4 := h2.f4
  have HB := Lib.hid (hb1.trans (hb2.mono hb1.size))
  have H2 := Lib.hid h2
  have HW2 := Lib.hid hw2
  clear h1 h2 hb1 hb2 hh2 hw2 H HW c4
  go_upto_region 2 with fail
  rw [← HW2.out]
  clear HW2
  have hk : w2.cell? ⟨w1.heap.size, 1, none⟩ = some (.int .i64 q.l) ∧ w2.cell? ⟨w1.heap.size, 2, none⟩ = some (.int .i64 q.c) := ⟨y1, y2⟩
  have hky : ∀ (Wz : World) (o : Nat) (u : Value), (Wz.cell? ⟨w1.heap.size, 1, none⟩ = some (.int .i64 q.l) ∧ Wz.cell? ⟨w1.heap.size, 2, none⟩ = some (.int .i64 q.c)) → ((Wz.setCell ⟨rb, o, none⟩ u).cell? ⟨w1.heap.size, 1, none⟩ = some (.int .i64 q.l) ∧ (Wz.setCell ⟨rb, o, none⟩ u).cell? ⟨w1.heap.size, 2, none⟩ = some (.int .i64 q.c)) := fun Wz o u h => ⟨cell_setd hne h.1, cell_setd hne h.2⟩
  go_region_held3 (fun Wx => Wx.cell? ⟨w1.heap.size, 1, none⟩ = some (.int .i64 q.l) ∧ Wx.cell? ⟨w1.heap.size, 2, none⟩ = some (.int .i64 q.c)) (first | exact hk | exact hky _ _ _ hk | exact hky _ _ _ (hky _ _ _ hk) | exact hky _ _ _ (hky _ _ _ (hky _ _ _ hk)) | go_keep) (fail)
  rename_i hHeld
  clear hHeld hk hky
  obtain ⟨w3, hw3⟩ : ∃ w3, w3 = ((w2.setCell ⟨rb, 4, none⟩ (.int .i64 code)).setCell ⟨rb, 2, none⟩ (.int .i64 q.l)).setCell ⟨rb, 3, none⟩ (.int .i64 q.c) := ⟨_, rfl⟩
  obtain ⟨h3, hb3⟩ := H2.out.lay q.l q.c code H2.out.r.no hw3
  have HW3 := Lib.hid hw3
  have H3 := Lib.hid h3
  have HB3 := Lib.hid hb3
  clear h3 hb3 hw3
  rw [← HW3.out]
  clear HW3
  have hd : Below w3.heap.size w3 w3.drew := (Below.refl _ _).drew
  have HR := Lib.hid (H3.out.below hd)
  go_wp2_with fail
  first | refine bodyPost_end (v := .tuple #[]) (results_none rfl _ _ _) rfl ?_ | refine bodyPost_ret (v := .tuple #[]) (results_none rfl _ _ _) rfl ?_
  exact ⟨rfl, HR.out, ((But.below HB.out).trans HB3.out).trans (But.below hd)⟩
/-- What Must leaves. -/
def MustPost (ok : Nat → Prop) (rb i : Nat) (v : Value) (ws : List Wrd) (s : ByteArray) (code : Int) (w : World) (e : Ending) (w' : World) : Prop :=
  e = .returned (.tuple #[]) ∧ But (fun b => b = rb) w w' ∧
    (((Pr.wd ws i).t = s ∧ RRd ok rb (i + 1) 0 0 0 v ws w') ∨ (¬ (Pr.wd ws i).t = s ∧ RRd ok rb i (Pr.wd ws i).l (Pr.wd ws i).c code v ws w'))
theorem rmust_done {ok : Nat → Prop} {rb i : Nat} {l c e : Int} {v : Value} {ws : List Wrd} {w : World} (h : RRd ok rb i l c e v ws w) (he : ¬ e = 0) (s : ByteArray) (code : Int) :
    Calls Tryz.prog 93 #[.pointer (some ⟨rb, 0, none⟩), .string s, .int .i64 code] w fun e w' => e = .returned (.tuple #[]) ∧ w = w' := by
  have c4 := h.c4
  clear h
  go_enter Tryz.func93, Tryz.ntmps93
  go_wp2_with fail
  first | refine bodyPost_end (v := .tuple #[]) (results_none rfl _ _ _) rfl ?_ | refine bodyPost_ret (v := .tuple #[]) (results_none rfl _ _ _) rfl ?_
  exact ⟨rfl, rfl⟩
set_option maxHeartbeats 1600000 in
set_option maxRecDepth 20000 in
theorem rmust_any {ok : Nat → Prop} {rb i : Nat} {v : Value} {ws : List Wrd} {w : World} (h : RRd ok rb i 0 0 0 v ws w) (hi : i ≤ 4000000) (s : ByteArray) (code : Int) :
    Calls Tryz.prog 93 #[.pointer (some ⟨rb, 0, none⟩), .string s, .int .i64 code] w (MustPost ok rb i v ws s code w) := by
  obtain ⟨q, hq⟩ : ∃ q, Pr.wd ws i = q := ⟨_, rfl⟩
  have HW := Lib.hid (rword_any h.r _ hq)
  have H := Lib.hid h
  have HQ := Lib.hid hq
  have c4 := h.c4
  have hl := h.r.lt
  have hw1 : IntKind.i64.wrap ((i : Int) + 1) = (i : Int) + 1 := IntWalk.i64_in _ (by omega)
  have hf : ∀ w, Sem.run Tryz.prog (Instr.field 167 (.agg #[.string q.t, .int .i64 q.l, .int .i64 q.c]) 0) w = .ok (.string q.t) w := fun w => by kernel_rfl
  clear h hq
  by_cases hs : q.t = s
  · have he : (q.t.toList == s.toList) = true := by rw [is_eq]; simpa using hs
    have HSs := Lib.hid hs
    clear hs
    go_enter Tryz.func93, Tryz.ntmps93
    go_wp2_with fail
    refine HW.out.mono ?_
    rintro e w1 ⟨rfl, hb1⟩
    have h1 := H.out.below hb1
    have d1 := h1.r.c1
    have e1 := h1.r.f1
    have HB1 := Lib.hid hb1
    have HS1 := Lib.hid (h1.step (i + 1))
    clear h1 hb1 c4
    go_wp2_with fail
    first | refine bodyPost_end (v := .tuple #[]) (results_none rfl _ _ _) rfl ?_ | refine bodyPost_ret (v := .tuple #[]) (results_none rfl _ _ _) rfl ?_
    exact ⟨rfl, (But.below HB1.out).trans HS1.out.2, .inl ⟨by rw [HQ.out]; exact HSs.out, HS1.out.1⟩⟩
  · have he : (q.t.toList == s.toList) = false := by rw [is_eq]; simpa using hs
    have HSs := Lib.hid hs
    clear hs
    go_enter Tryz.func93, Tryz.ntmps93
    go_wp2_with fail
    refine HW.out.mono ?_
    rintro e w1 ⟨rfl, hb1⟩
    have HF := Lib.hid (fail_any (H.out.below hb1) code _ HQ.out)
    have HB1 := Lib.hid hb1
    clear hb1 c4
    go_wp2_with fail
    refine HF.out.mono ?_
    rintro e w2 ⟨rfl, hr2, hb2⟩
    have HR2 := Lib.hid hr2
    have HB2 := Lib.hid hb2
    clear hr2 hb2
    go_wp2_with fail
    first | refine bodyPost_end (v := .tuple #[]) (results_none rfl _ _ _) rfl ?_ | refine bodyPost_ret (v := .tuple #[]) (results_none rfl _ _ _) rfl ?_
    exact ⟨rfl, (But.below HB1.out).trans HB2.out, .inr ⟨by rw [HQ.out]; exact HSs.out, by rw [HQ.out]; exact HR2.out⟩⟩
end Go.Proofs.YtlamhpiiikcpiaaGreatDoor
