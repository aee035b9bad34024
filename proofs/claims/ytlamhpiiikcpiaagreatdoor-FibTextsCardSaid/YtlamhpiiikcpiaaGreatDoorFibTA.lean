/-
  Walks: rules of a text of any length; a table's text.
-/
import Derived.Test.YtlamhpiiikcpiaaGreatDoorFtE
import Derived.Test.YtlamhpiiikcpiaaGreatDoorRgR
import Derived.Test.YtlamhpiiikcpiaaGreatDoorRgO
import Derived.Test.YtlamhpiiikcpiaaGreatDoorRgE
import Derived.Test.YtlamhpiiikcpiaaGreatDoorRgF
namespace Go.Proofs.YtlamhpiiikcpiaaGreatDoor
open Go.RowKit Go.Shelf Go.Lib Go.Sort
set_option linter.unusedVariables false
set_option linter.unusedSectionVars false
set_option linter.unusedSimpArgs false
namespace Pr
/-- The rules of a text of any length. -/
def parseX (s : ByteArray) (width : Int) : Except (Int × Nat × Nat) (List Rl) := if (1048576 : Int) < s.size then .error (2, 0, 0) else parse s width
theorem parseF_few {width : Int} : ∀ (wss : List (List Wrd)) (out L : List Rl), parseF width wss out = .ok L → out.length ≤ 4096 → L.length ≤ 4096
  | [], out, L, h, ho => by
    simp only [parseF] at h
    injection h with h
    rw [← h]
    exact ho
  | ws :: rest, out, L, h, ho => by
    simp only [parseF] at h
    split at h
    · cases h
    · split at h
      · cases h
      · split at h
        · cases h
        · rename_i hk
          exact parseF_few rest _ L h (by simp; omega)
theorem parse_few {s : ByteArray} {width : Int} {L : List Rl} (h : parse s width = .ok L) : L.length ≤ 4096 := by
  unfold parse at h
  split at h
  · cases h
  · split at h
    · cases h
    · exact parseF_few _ _ _ h (Nat.zero_le _)
theorem parseX_few {s : ByteArray} {width : Int} {L : List Rl} (h : parseX s width = .ok L) : L.length ≤ 4096 := by
  unfold parseX at h
  split at h
  · cases h
  · exact parse_few h
theorem parseF_error {width : Int} : ∀ (wss : List (List Wrd)) (out : List Rl) (c : Int) (l k : Nat), parseF width wss out = .error (c, l, k) → c ≠ 0
  | [], out, c, l, k, h => by
    simp only [parseF] at h
    cases h
  | ws :: rest, out, c, l, k, h => by
    simp only [parseF] at h
    split at h
    · rename_i d j hr
      injection h with h
      injection h with h1 h2
      rw [← h1]
      exact Pr.rule_err hr
    · split at h
      · injection h with h
        injection h with h1 h2
        omega
      · split at h
        · injection h with h
          injection h with h1 h2
          omega
        · exact parseF_error rest _ c l k h
theorem parseX_error {s : ByteArray} {width : Int} {c : Int} {l k : Nat} (h : parseX s width = .error (c, l, k)) : c ≠ 0 := by
  unfold parseX at h
  split at h
  · injection h with h
    injection h with h1 h2
    omega
  · unfold parse at h
    split at h
    · injection h with h
      injection h with h1 h2
      omega
    · split at h
      · injection h with h
        injection h with h1 h2
        omega
      · exact parseF_error _ _ _ _ _ h
theorem printF_some {W : Int} : ∀ (rest seen : List Rl), (seen ++ rest).Pairwise (fun a b => Rp.aheadR a b = true) → (∀ r ∈ rest, Rp.checkR r W = 0) → ∃ t, printF W rest seen = .ok t
  | [], seen, _, _ => ⟨[], rfl⟩
  | r :: rest, seen, hs, hc => by
    obtain ⟨t, ht⟩ := printF_some rest (seen ++ [r]) (by simpa using hs) (fun x hx => hc x (by simp [hx]))
    refine ⟨lineT r ++ 10 :: t, ?_⟩
    simp only [printF]
    rw [if_neg (fun h => h (hc r (by simp))), if_neg ?_, ht]
    · rfl
    · intro hk
      obtain ⟨x, hx, h1, h3⟩ := (known_iff _ _ _).1 hk
      have h2 := (List.pairwise_append.1 hs).2.2 x hx r (by simp)
      unfold Rp.aheadR at h2
      rw [h1, h3] at h2
      rw [Rp.aheadK_swo_irrefl] at h2
      cases h2
theorem print_some {W : Int} {L : List Rl} (h : Fb.Ok W L) (h1 : 1 ≤ W) (h2 : W ≤ 128) : ∃ t, print L W = .ok t := by
  unfold print
  rw [if_neg (by omega), if_neg (by have := h.few; omega)]
  exact printF_some L [] (by simpa using h.strict) h.chk
theorem parse_printX {L : List Rl} {W : Int} {t : List UInt8} (h : print L W = .ok t) (hs : ¬ (1048576 : Int) < t.length) : parseX (Wd.mkB t) W = .ok L := by
  unfold parseX
  rw [if_neg (by rw [Wd.mkB_size]; exact hs)]
  unfold print at h
  split at h
  · cases h
  · rename_i hw
    split at h
    · cases h
    · rename_i hf
      obtain ⟨h1, h2⟩ := printF_ok L [] t h (by simp; omega)
      obtain ⟨wss, h3, h4⟩ := h2 1
      unfold parse
      rw [if_neg hw, Wd.mkB_list]
      unfold Wd.lines
      rw [h3]
      exact h4
theorem order_id {W : Int} {L : List Rl} (h : Fb.Ok W L) : St.isort Rp.aheadR L = L := St.isort_srd swoR (Fb.strict_srd h.strict)
end Pr
/-- What Parse answers at a text of any length. -/
def ParsePostX (s : ByteArray) (width : Int) (w : World) (e : Ending) (w' : World) : Prop :=
  match Pr.parseX s width with
  | .ok L => ∃ ad c, e = .returned (.tuple #[.slice ad L.length c, .int .i64 0, .int .i64 0, .int .i64 0]) ∧ RdsR (fun b => w.heap.size ≤ b) w' (.slice ad L.length c) L ∧ Below w.heap.size w w'
  | .error (c, l, k) => e = .returned (.tuple #[.slice none 0 0, .int .i64 l, .int .i64 k, .int .i64 c]) ∧ Below w.heap.size w w'
theorem parsePostX {s : ByteArray} {width : Int} {w : World} {e : Ending} {w' : World} (hs : ¬ (1048576 : Int) < s.size) (h : ParsePost s width w e w') : ParsePostX s width w e w' := by
  have hP : Pr.parseX s width = Pr.parse s width := by unfold Pr.parseX; rw [if_neg hs]
  unfold ParsePostX
  rw [hP]
  exact h
set_option maxHeartbeats 6400000 in
set_option maxRecDepth 20000 in
theorem parse_long (s : ByteArray) (width : Int) (w : World) (hs : (1048576 : Int) < s.size) (h1 : 1 ≤ width) (h2 : width ≤ 128) : Calls Tryz.prog 26 #[.string s, .int .i64 width] w (ParsePostX s width w) := by
  have hP : Pr.parseX s width = .error (2, 0, 0) := by unfold Pr.parseX; rw [if_pos hs]
  have HP := Lib.hid hP
  have HL := Lib.hid (fun w => lines_long s w hs)
  have hw1 : decide (width < 1) = false := by simp; omega
  have hw2 : decide (128 < width) = false := by simp; omega
  obtain ⟨W0, hW0⟩ : ∃ W0, W0 = ((w.alloc (.cells #[.int .i64 0] 3)).alloc (.cells #[.int .i64 0] 3)).alloc (.cells #[.int .i64 0] 28) := ⟨_, rfl⟩
  have hb0 : Below w.heap.size w W0 := by rw [hW0]; exact (((Below.refl _ _).alloc (Nat.le_refl _) _).alloc (by simp) _).alloc (by simp; omega) _
  have hs0 : W0.heap.size = w.heap.size + 3 := by rw [hW0]; simp
  have hA0 : W0.heap[w.heap.size]? = some (.cells #[.int .i64 0] 3 (0, 0)) := by
    rw [hW0]; simp only [al_heap, Array.getElem?_push, Array.size_push]; simp <;> omega
  have hB0 : W0.heap[w.heap.size + 1]? = some (.cells #[.int .i64 0] 3 (0, 0)) := by
    rw [hW0]; simp only [al_heap, Array.getElem?_push, Array.size_push]; simp <;> omega
  have hC0 : W0.heap[w.heap.size + 1 + 1]? = some (.cells #[.int .i64 0] 28 (0, 0)) := by
    rw [hW0]; simp only [al_heap, Array.getElem?_push, Array.size_push]; simp
  have HB0 := Lib.hid hb0
  have HS0 := Lib.hid hs0
  have HA0 := Lib.hid hA0
  have HBB := Lib.hid hB0
  have HC0 := Lib.hid hC0
  have HW0 := Lib.hid hW0
  clear hP hs h1 h2 hb0 hs0 hA0 hB0 hC0 hW0
  go_enter_defers Tryz.func26, Tryz.ntmps26
  go_upto_region 1 with fail
  rw [← HW0.out]
  clear HW0
  go_wp2_with fail
  refine (HL.out _).mono ?_
  rintro e w1 ⟨rfl, hb1⟩
  have a1 := (hb1.block _ (by rw [HS0.out]; omega)).trans HA0.out
  have b1 := (hb1.block _ (by rw [HS0.out]; omega)).trans HBB.out
  have c1 := (hb1.block _ (by rw [HS0.out]; omega)).trans HC0.out
  have k0 : w1.cell? ⟨w.heap.size, 0, none⟩ = some (.int .i64 0) := by simp [World.cell?, a1]
  have k1 : w1.cell? ⟨w.heap.size + 1, 0, none⟩ = some (.int .i64 0) := by simp [World.cell?, b1]
  have k2 : w1.cell? ⟨w.heap.size + 1 + 1, 0, none⟩ = some (.int .i64 0) := by simp [World.cell?, c1]
  have g0 : w1.frozen? ⟨w.heap.size, 0, none⟩ = false := by simp [World.frozen?, a1]
  have g1 : w1.frozen? ⟨w.heap.size + 1, 0, none⟩ = false := by simp [World.frozen?, b1]
  have g2 : w1.frozen? ⟨w.heap.size + 1 + 1, 0, none⟩ = false := by simp [World.frozen?, c1]
  obtain ⟨w2, hw2⟩ : ∃ w2, w2 = (w1.setCell ⟨w.heap.size, 0, none⟩ (.int .i64 0)).setCell ⟨w.heap.size + 1, 0, none⟩ (.int .i64 0) := ⟨_, rfl⟩
  have m0 : w2.cell? ⟨w.heap.size, 0, none⟩ = some (.int .i64 0) := by rw [hw2]; exact cell_setd2 (cell_set_same _ k0) (by simp)
  have m1 : w2.cell? ⟨w.heap.size + 1, 0, none⟩ = some (.int .i64 0) := by rw [hw2]; exact cell_set_same _ (cell_setd2 k1 (by simp))
  have m2 : w2.cell? ⟨w.heap.size + 1 + 1, 0, none⟩ = some (.int .i64 0) := by rw [hw2]; exact cell_setd2 (cell_setd2 k2 (by simp)) (by simp)
  have e0 : w2.frozen? ⟨w.heap.size, 0, none⟩ = false := by rw [hw2, World.frozen?_setCell, World.frozen?_setCell]; exact g0
  have e1 : w2.frozen? ⟨w.heap.size + 1, 0, none⟩ = false := by rw [hw2, World.frozen?_setCell, World.frozen?_setCell]; exact g1
  have e2 : w2.frozen? ⟨w.heap.size + 1 + 1, 0, none⟩ = false := by rw [hw2, World.frozen?_setCell, World.frozen?_setCell]; exact g2
  have HB2 : Hid (Below w.heap.size w w2) := by
    show Below _ _ _
    rw [hw2]
    exact ((HB0.out.trans (hb1.mono HB0.out.size)).setCell (Nat.le_refl _) _).setCell (Nat.le_succ _) _
  have HW2 := Lib.hid hw2
  clear hb1 a1 b1 c1 hw2
  go_upto_region 4 with fail
  rw [← HW2.out]
  clear HW2 k0 k1 k2 g0 g1 g2
  go_upto_region 5 with fail
  have hk : w2.cell? ⟨w.heap.size, 0, none⟩ = some (.int .i64 0) ∧ w2.cell? ⟨w.heap.size + 1, 0, none⟩ = some (.int .i64 0) := ⟨m0, m1⟩
  have hky0 : ∀ (Wz : World), (Wz.cell? ⟨w.heap.size, 0, none⟩ = some (.int .i64 0) ∧ Wz.cell? ⟨w.heap.size + 1, 0, none⟩ = some (.int .i64 0)) → ((Wz.setCell ⟨w.heap.size, 0, none⟩ (.int .i64 0)).cell? ⟨w.heap.size, 0, none⟩ = some (.int .i64 0) ∧ (Wz.setCell ⟨w.heap.size, 0, none⟩ (.int .i64 0)).cell? ⟨w.heap.size + 1, 0, none⟩ = some (.int .i64 0)) := fun Wz h => ⟨cell_set_same _ h.1, cell_setd2 h.2 (by simp)⟩
  have hky1 : ∀ (Wz : World), (Wz.cell? ⟨w.heap.size, 0, none⟩ = some (.int .i64 0) ∧ Wz.cell? ⟨w.heap.size + 1, 0, none⟩ = some (.int .i64 0)) → ((Wz.setCell ⟨w.heap.size + 1, 0, none⟩ (.int .i64 0)).cell? ⟨w.heap.size, 0, none⟩ = some (.int .i64 0) ∧ (Wz.setCell ⟨w.heap.size + 1, 0, none⟩ (.int .i64 0)).cell? ⟨w.heap.size + 1, 0, none⟩ = some (.int .i64 0)) := fun Wz h => ⟨cell_setd2 h.1 (by simp), cell_set_same _ h.2⟩
  have hky2 : ∀ (Wz : World), (Wz.cell? ⟨w.heap.size, 0, none⟩ = some (.int .i64 0) ∧ Wz.cell? ⟨w.heap.size + 1, 0, none⟩ = some (.int .i64 0)) → ((Wz.setCell ⟨w.heap.size + 1 + 1, 0, none⟩ (.int .i64 2)).cell? ⟨w.heap.size, 0, none⟩ = some (.int .i64 0) ∧ (Wz.setCell ⟨w.heap.size + 1 + 1, 0, none⟩ (.int .i64 2)).cell? ⟨w.heap.size + 1, 0, none⟩ = some (.int .i64 0)) := fun Wz h => ⟨cell_setd2 h.1 (by simp), cell_setd2 h.2 (by simp)⟩
  go_region_held3 (fun Wx => Wx.cell? ⟨w.heap.size, 0, none⟩ = some (.int .i64 0) ∧ Wx.cell? ⟨w.heap.size + 1, 0, none⟩ = some (.int .i64 0)) (first | exact hk | exact hky0 _ hk | exact hky1 _ (hky0 _ hk) | exact hky2 _ (hky1 _ (hky0 _ hk)) | go_keep) (fail)
  rename_i hHeld
  obtain ⟨w3, hw3⟩ : ∃ w3, w3 = (((w2.setCell ⟨w.heap.size, 0, none⟩ (.int .i64 0)).setCell ⟨w.heap.size + 1, 0, none⟩ (.int .i64 0)).setCell ⟨w.heap.size + 1 + 1, 0, none⟩ (.int .i64 2)).drew := ⟨_, rfl⟩
  rw [← hw3]
  have n0 : w3.cell? ⟨w.heap.size, 0, none⟩ = some (.int .i64 0) := by rw [hw3]; exact cell_setd2 (cell_setd2 (cell_set_same _ m0) (by simp)) (by simp)
  have n1 : w3.cell? ⟨w.heap.size + 1, 0, none⟩ = some (.int .i64 0) := by rw [hw3]; exact cell_setd2 (cell_set_same _ (cell_setd2 m1 (by simp))) (by simp)
  have n2 : w3.cell? ⟨w.heap.size + 1 + 1, 0, none⟩ = some (.int .i64 2) := by rw [hw3]; exact cell_set_same _ (cell_setd2 (cell_setd2 m2 (by simp)) (by simp))
  have HB3 : Hid (Below w.heap.size w w3) := by
    show Below _ _ _
    rw [hw3]
    exact (((HB2.out.setCell (Nat.le_refl _) _).setCell (Nat.le_succ _) _).setCell (by show w.heap.size ≤ w.heap.size + 1 + 1; omega) _).drew
  clear hw3 hHeld hk hky0 hky1 hky2 m0 m1 m2 e0 e1 e2
  go_wp2_with fail
  refine ⟨_, res_parse _ w.heap.size _ none 0 0 0 0 2 rfl rfl rfl rfl n0 n1 n2, ?_⟩
  show ParsePostX _ _ _ _ _
  unfold ParsePostX
  rw [HP.out]
  exact ⟨rfl, HB3.out⟩
theorem parseX_any (s : ByteArray) (width : Int) (w : World) (h1 : 1 ≤ width) (h2 : width ≤ 128) : Calls Tryz.prog 26 #[.string s, .int .i64 width] w (ParsePostX s width w) := by
  by_cases hs : (1048576 : Int) < s.size
  · exact parse_long s width w hs h1 h2
  · exact (Parse_any s width w (by omega)).mono fun e w' h => parsePostX hs h
set_option maxHeartbeats 1600000 in
set_option maxRecDepth 20000 in
theorem rparse_long (s : ByteArray) (width : Int) (w : World) (hs : (1048576 : Int) < s.size) (h1 : 1 ≤ width) (h2 : width ≤ 128) : Calls Tryz.prog 30 #[.string s, .int .i64 width] w (ParsePostX s width w) := by
  have hP : Pr.parseX s width = .error (2, 0, 0) := by unfold Pr.parseX; rw [if_pos hs]
  have HP := Lib.hid hP
  have HL := Lib.hid (fun w => rlines_long s w hs)
  have hw1 : decide (width < 1) = false := by simp; omega
  have hw2 : decide (128 < width) = false := by simp; omega
  clear hP hs h1 h2
  go_enter Tryz.func30, Tryz.ntmps30
  go_wp2_with fail
  refine (HL.out _).mono ?_
  rintro e w1 ⟨rfl, rfl⟩
  go_wp2_with fail
  refine bodyPost_ret (v := .tuple #[.slice none 0 0, .int .i64 0, .int .i64 0, .int .i64 2]) (by simp [results, go_sem]) rfl ?_
  show ParsePostX _ _ _ _ _
  unfold ParsePostX
  rw [HP.out]
  exact ⟨rfl, Below.refl _ _⟩
theorem rparseX_any (s : ByteArray) (width : Int) (w : World) (h1 : 1 ≤ width) (h2 : width ≤ 128) : Calls Tryz.prog 30 #[.string s, .int .i64 width] w (ParsePostX s width w) := by
  by_cases hs : (1048576 : Int) < s.size
  · exact rparse_long s width w hs h1 h2
  · exact (rParse_any s width w (by omega)).mono fun e w' h => parsePostX hs h
end Go.Proofs.YtlamhpiiikcpiaaGreatDoor
