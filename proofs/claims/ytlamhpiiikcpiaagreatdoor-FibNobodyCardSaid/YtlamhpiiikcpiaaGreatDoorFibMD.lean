/-
  Walks: awake: two rules that are known.
-/
import Derived.Test.YtlamhpiiikcpiaaGreatDoorFibMC
import Derived.Test.YtlamhpiiikcpiaaGreatDoorFibMB
import Derived.OwnWalk
import Derived.SliceStrings
import Derived.ProofKit
import Derived.Deep.Slices
import Derived.Deep.Strs
import Derived.WalkKit
import Derived.Test.YtlamhpiiikcpiaaGreatDoorProg
import Derived.HandedShaped
namespace Go.Proofs.YtlamhpiiikcpiaaGreatDoor
open Go.RowKit Go.Shelf Go.Lib Go.Sort
set_option linter.unusedVariables false
set_option linter.unusedSectionVars false
set_option linter.unusedSimpArgs false

namespace Aw
abbrev p1 : ByteArray := ⟨#[112]⟩
abbrev m1 : ByteArray := ⟨#[49, 120]⟩
abbrev m2 : ByteArray := ⟨#[49, 49]⟩
abbrev h2 : ByteArray := ⟨#[49, 48]⟩
abbrev h3 : ByteArray := ⟨#[48, 48]⟩
def r1 : Rl := ⟨5, m1, 3, [p1]⟩
def r2 : Rl := ⟨9, m2, 2, []⟩
theorem done : Fb.doL 2 [] [(1, r1), (1, r2)] 0 = (some [r2, r1], 0, 0) := by kernel_rfl
theorem end_ : Fb.endL 2 [] [(1, r1), (1, r2)] = [r2, r1] := by kernel_rfl
theorem look1 : Fb.lookS [r2, r1] 2 m2 = (2, [], 0) := by kernel_rfl
theorem look2 : Fb.lookS [r2, r1] 2 h2 = (3, [p1], 0) := by kernel_rfl
theorem look3 : Fb.lookS [r2, r1] 2 h3 = (1, [], 0) := by kernel_rfl
end Aw

/-- Lookup, at an answer that is known. -/
theorem lookup_is {ok : Nat → Prop} {w : World} {tb : Nat} {v : Value} {L : List Rl} {W : Int} (h : Tab 0 1 ok w tb v L W) (s : ByteArray) (hs : s.size ≤ maxLen) {k e : Int} {ps : List ByteArray} (hS : Fb.lookS L W s = (k, ps, e)) :
    Calls Tryz.prog 15 #[.pointer (some ⟨tb, 0, none⟩), .string s] w fun e' w' => ∃ (a : Option Addr) (n c : Nat), e' = .returned (.tuple #[.agg #[.int .i64 k, .slice a n c], .int .i64 e]) ∧ RdsO (fun b => w.heap.size ≤ b) w' (.slice a n c) ps ∧ Below w.heap.size w w' := by
  have := lookup_any h s hs
  rw [hS] at this
  refine this.mono ?_
  rintro e' w' ⟨hb, a, n, c, hr, rfl⟩
  exact ⟨a, n, c, rfl, hr, hb⟩

theorem small_le (s : ByteArray) (h : s.size ≤ 64) : s.size ≤ maxLen := by unfold maxLen; omega

set_option maxHeartbeats 1600000 in
set_option maxRecDepth 20000 in
theorem awake_any (w : World) : Calls Tryz.prog 6 #[] w fun e w' => e = .returned (.bool true) ∧ Below w.heap.size w w' := by
  obtain ⟨W1, hW1⟩ : ∃ W1, W1 = w.alloc (.cells #[.slice none 0 0, .int .i64 2] 53) := ⟨_, rfl⟩
  have hb1 : Below w.heap.size w W1 := by rw [hW1]; exact (Below.refl _ _).alloc (Nat.le_refl _) _
  have hs1 : W1.heap.size = w.heap.size + 1 := by rw [hW1]; simp
  have hT1 : Tab 0 1 (fun _ => False) W1 w.heap.size (.slice none 0 0) [] 2 := by rw [hW1]; exact tab_new w 2 (by decide) (by decide)
  have HNew : Hid (∀ Wx, Calls Tryz.prog 9 #[.int .i64 2] Wx fun e w' => e = .returned (.tuple #[.pointer (some ⟨Wx.heap.size, 0, none⟩), .int .i64 0]) ∧ w' = Wx.alloc (.cells #[.slice none 0 0, .int .i64 2] 53)) := fun Wx => new_ok 2 Wx (by decide) (by decide)
  obtain ⟨W2, hW2⟩ : ∃ W2, W2 = W1.alloc (.cells #[.string ⟨#[112]⟩] 9) := ⟨_, rfl⟩
  have hb2 : Below W1.heap.size W1 W2 := by rw [hW2]; exact (Below.refl _ _).alloc (Nat.le_refl _) _
  have hs2 : W2.heap.size = W1.heap.size + 1 := by rw [hW2]; simp
  have hr2 : RdsS W2 (.slice (some ⟨W1.heap.size, 0, none⟩) 1 1) [⟨#[112]⟩] := by
    rw [hW2]
    refine rdsS_mk (ss := [⟨#[112]⟩]) (by simp) (by unfold maxLen; simp) (by simp) ?_
    intro i hi
    match i, hi with
    | 0, _ => simp [go_sem]
  obtain ⟨W3, hW3⟩ : ∃ W3, W3 = W2.alloc (.cells #[.int .i64 1, .int .i64 5, .string ⟨#[49, 120]⟩, .int .i64 3, .slice (some ⟨W1.heap.size, 0, none⟩) 1 1, .int .i64 1, .int .i64 9, .string ⟨#[49, 49]⟩, .int .i64 2, .slice none 0 0] 49) := ⟨_, rfl⟩
  have hb3 : Below W2.heap.size W2 W3 := by rw [hW3]; exact (Below.refl _ _).alloc (Nat.le_refl _) _
  have hh3 : W3.heap[W2.heap.size]? = some (.cells #[.int .i64 1, .int .i64 5, .string ⟨#[49, 120]⟩, .int .i64 3, .slice (some ⟨W1.heap.size, 0, none⟩) 1 1, .int .i64 1, .int .i64 9, .string ⟨#[49, 49]⟩, .int .i64 2, .slice none 0 0] 49 (0, 0)) := by rw [hW3]; exact heap_alloc_new _ _
  have hc3 : RdsC (fun _ => True) W3 (.slice (some ⟨W2.heap.size, 0, none⟩) 2 2) [(1, Aw.r1), (1, Aw.r2)] := by
    refine two_rdsC (x := ⟨5, ⟨#[49, 120]⟩, 3, some ⟨W1.heap.size, 0, none⟩, 1, 1⟩) (y := ⟨9, ⟨#[49, 49]⟩, 2, none, 0, 0⟩) hh3 ⟨rfl, rfl, rfl, ⟨hr2.below hb3, fun _ _ _ _ _ => trivial⟩, ⟨by decide, by decide, ?_⟩⟩ ⟨rfl, rfl, rfl, ⟨rdsS_nil _, okV_nil _ _ _⟩, ⟨by decide, by decide, fun s hs => by cases hs⟩⟩ trivial
    intro s hs
    have : s = Aw.p1 := by simpa [Aw.r1] using hs
    rw [this]; decide
  have hDo := do_tab ((hT1.below hb2).below hb3) hc3 (by simp) (Fb.ok_nil 2)
  rw [Aw.done, Aw.end_] at hDo
  have HDo := Lib.hid hDo
  have HB13 := Lib.hid (hb2.trans (hb3.mono (by omega)))
  have HB1 := Lib.hid hb1
  have HS1 := Lib.hid hs1
  have hs23 : W2.heap.size < W3.heap.size := by rw [hW3]; simp
  rw [hW2] at hW3
  have HW3 := Lib.hid hW3
  have HW1 := Lib.hid hW1
  have HS2 := Lib.hid hs2
  have HS3 := Lib.hid hs23
  clear hb1 hs1 hT1 hb2 hs2 hr2 hb3 hh3 hc3 hDo hW1 hW2 hW3 hs23
  go_enter Tryz.func6, Tryz.ntmps6
  go_wp2_with fail
  refine (HNew.out _).mono ?_
  rintro e w1 ⟨rfl, rfl⟩
  rw [← HW1.out]
  go_wp2_with fail
  rw [← HW3.out]
  have hsz2 : W1.heap.size + 1 = W2.heap.size := HS2.out.symm
  rw [hsz2]
  refine HDo.out.mono ?_
  rintro e w4 ⟨rfl, ⟨v4, hT4⟩, hbt⟩
  have hB4 : Below w.heap.size w w4 := (HB1.out.trans (HB13.out.mono (by rw [HS1.out]; omega))).trans (hbt.toBelow (by have := HB13.out.size; have := HS1.out; omega) (fun k hk => by omega))
  have HB4 := Lib.hid hB4
  have HT4 := Lib.hid hT4
  have HK1 := Lib.hid (lookup_is hT4 ⟨#[49, 49]⟩ (small_le _ (by decide)) Aw.look1)
  clear hB4 hT4 hbt hsz2
  go_wp2_with fail
  refine HK1.out.mono ?_
  rintro e w5 ⟨a5, n5, c5, rfl, hr5, hb5⟩
  obtain ⟨W5, hW5⟩ : ∃ W5, W5 = w5.alloc (.cells #[.int .i64 2, .slice a5 n5 c5] 45) := ⟨_, rfl⟩
  have hb5a : Below w5.heap.size w5 W5 := by rw [hW5]; exact (Below.refl _ _).alloc (Nat.le_refl _) _
  have hB5 : Below w4.heap.size w4 W5 := hb5.trans (hb5a.mono hb5.size)
  have k5 : W5.cell? ⟨w5.heap.size, 0, none⟩ = some (.int .i64 2) := by rw [hW5]; simp [go_sem]
  have hl5 : w5.heap.size < W5.heap.size := by rw [hW5]; simp
  have HT5 := Lib.hid (HT4.out.below hB5)
  have HK2 := Lib.hid (lookup_is HT5.out ⟨#[49, 48]⟩ (small_le _ (by decide)) Aw.look2)
  have HB5 := Lib.hid hB5
  have HW5 := Lib.hid hW5
  clear hr5 hb5 hb5a hB5 hW5
  go_upto_region 6 with fail
  rw [← HW5.out]
  clear HW5
  go_wp2_with fail
  refine HK2.out.mono ?_
  rintro e w6 ⟨a6, n6, c6, rfl, hr6, hb6⟩
  obtain ⟨W6, hW6⟩ : ∃ W6, W6 = w6.alloc (.cells #[.int .i64 3, .slice a6 n6 c6] 45) := ⟨_, rfl⟩
  have hb6a : Below w6.heap.size w6 W6 := by rw [hW6]; exact (Below.refl _ _).alloc (Nat.le_refl _) _
  have hB6 : Below W5.heap.size W5 W6 := hb6.trans (hb6a.mono hb6.size)
  have k6 : W6.cell? ⟨w6.heap.size, 0, none⟩ = some (.int .i64 3) := by rw [hW6]; simp [go_sem]
  have hl6 : w6.heap.size < W6.heap.size := by rw [hW6]; simp
  have k56 := (hB6.cell (p := ⟨w5.heap.size, 0, none⟩) hl5).trans k5
  have HT6 := Lib.hid (HT5.out.below hB6)
  have HK3 := Lib.hid (lookup_is HT6.out ⟨#[48, 48]⟩ (small_le _ (by decide)) Aw.look3)
  have HB6 := Lib.hid hB6
  have HW6 := Lib.hid hW6
  clear hr6 hb6 hb6a hB6 hW6 k5
  go_upto_region 7 with fail
  rw [← HW6.out]
  clear HW6
  go_wp2_with fail
  refine HK3.out.mono ?_
  rintro e w7 ⟨a7, n7, c7, rfl, hr7, hb7⟩
  obtain ⟨W7, hW7⟩ : ∃ W7, W7 = w7.alloc (.cells #[.int .i64 1, .slice a7 n7 c7] 45) := ⟨_, rfl⟩
  have hb7a : Below w7.heap.size w7 W7 := by rw [hW7]; exact (Below.refl _ _).alloc (Nat.le_refl _) _
  have hB7 : Below W6.heap.size W6 W7 := hb7.trans (hb7a.mono hb7.size)
  have k7 : W7.cell? ⟨w7.heap.size, 0, none⟩ = some (.int .i64 1) := by rw [hW7]; simp [go_sem]
  have hl65 : w5.heap.size < W6.heap.size := Nat.lt_of_lt_of_le hl5 HB6.out.size
  have k57 := (hB7.cell (p := ⟨w5.heap.size, 0, none⟩) hl65).trans k56
  have k67 := (hB7.cell (p := ⟨w6.heap.size, 0, none⟩) hl6).trans k6
  have HT7 := Lib.hid (HT6.out.below hB7)
  have HLen := Lib.hid (len_tab HT7.out)
  have HB7 : Hid (Below w.heap.size w W7) := HB4.out.trans ((HB5.out.trans ((HB6.out.trans (hB7.mono HB6.out.size)).mono HB5.out.size)).mono HB4.out.size)
  have HW7 := Lib.hid hW7
  clear hr7 hb7 hb7a hB7 hW7 k56 k6
  go_upto_region 8 with fail
  rw [← HW7.out]
  clear HW7
  go_wp2_with fail
  refine HLen.out.mono ?_
  rintro e w8 ⟨rfl, rfl⟩
  go_wp2_with fail
  go_ret
  exact ⟨rfl, HB7.out⟩
end Go.Proofs.YtlamhpiiikcpiaaGreatDoor
/-
  Walks: a table that nobody made: is, Do, Meets, Lookup, Dead, Width, Len, Rules.
-/
namespace Go.Proofs.YtlamhpiiikcpiaaGreatDoor
open Go.RowKit Go.Shelf Go.Lib Go.Sort
set_option linter.unusedVariables false
set_option linter.unusedSectionVars false
set_option linter.unusedSimpArgs false

/-- No table: nil, or one of width 0. -/
def NoTab (w : World) (p : Value) : Prop := p = .pointer none ∨ ∃ tb, p = .pointer (some ⟨tb, 0, none⟩) ∧ w.cell? ⟨tb, 1, none⟩ = some (.int .i64 0)

theorem NoTab.below {w w' : World} {p : Value} (h : NoTab w p) (hb : Below w.heap.size w w') : NoTab w' p := by
  rcases h with h | ⟨tb, h, h1⟩
  · exact .inl h
  · refine .inr ⟨tb, h, ?_⟩
    have hl : tb < w.heap.size := by
      rcases Nat.lt_or_ge tb w.heap.size with h3 | h3
      · exact h3
      · rw [World.cell?, Array.getElem?_eq_none h3] at h1; cases h1
    exact (hb.cell (p := ⟨tb, 1, none⟩) hl).trans h1

set_option maxHeartbeats 800000 in
set_option maxRecDepth 20000 in
theorem is_no {w : World} {p : Value} (h : NoTab w p) :
    Calls Tryz.prog 23 #[p] w fun e w' => e = .returned (.bool false) ∧ w = w' := by
  rcases h with rfl | ⟨tb, rfl, c1⟩
  · go_enter Tryz.func23, Tryz.ntmps23
    go_wp2_with fail
    go_ret
    exact ⟨rfl, rfl⟩
  · go_enter Tryz.func23, Tryz.ntmps23
    go_wp2_with fail
    go_ret
    exact ⟨rfl, rfl⟩

set_option maxHeartbeats 800000 in
set_option maxRecDepth 20000 in
theorem width_no {w : World} {p : Value} (h : NoTab w p) :
    Calls Tryz.prog 19 #[p] w fun e w' => e = .returned (.int .i64 0) ∧ w = w' := by
  have HI := Lib.hid (is_no h)
  clear h
  go_enter Tryz.func19, Tryz.ntmps19
  go_wp2_with fail
  refine HI.out.mono ?_
  rintro e w1 ⟨rfl, rfl⟩
  go_wp2_with fail
  go_ret
  exact ⟨rfl, rfl⟩

set_option maxHeartbeats 800000 in
set_option maxRecDepth 20000 in
theorem len_no {w : World} {p : Value} (h : NoTab w p) :
    Calls Tryz.prog 20 #[p] w fun e w' => e = .returned (.int .i64 0) ∧ w = w' := by
  have HI := Lib.hid (is_no h)
  clear h
  go_enter Tryz.func20, Tryz.ntmps20
  go_wp2_with fail
  refine HI.out.mono ?_
  rintro e w1 ⟨rfl, rfl⟩
  go_wp2_with fail
  go_ret
  exact ⟨rfl, rfl⟩

set_option maxHeartbeats 800000 in
set_option maxRecDepth 20000 in
theorem rules_no {w : World} {p : Value} (h : NoTab w p) :
    Calls Tryz.prog 12 #[p] w fun e w' => e = .returned (.slice none 0 0) ∧ w = w' := by
  have HI := Lib.hid (is_no h)
  clear h
  go_enter Tryz.func12, Tryz.ntmps12
  go_wp2_with fail
  refine HI.out.mono ?_
  rintro e w1 ⟨rfl, rfl⟩
  go_wp2_with fail
  go_ret
  exact ⟨rfl, rfl⟩

set_option maxHeartbeats 800000 in
set_option maxRecDepth 20000 in
theorem do_no {w : World} {p : Value} (cv : Value) (h : NoTab w p) :
    Calls Tryz.prog 14 #[p, cv] w fun e w' => e = .returned (.tuple #[.int .i64 0, .int .i64 4]) ∧ w = w' := by
  have HI := Lib.hid (is_no h)
  clear h
  go_enter Tryz.func14, Tryz.ntmps14
  go_wp2_with fail
  refine HI.out.mono ?_
  rintro e w1 ⟨rfl, rfl⟩
  go_wp2_with fail
  go_ret2
  exact ⟨rfl, rfl⟩

set_option maxHeartbeats 800000 in
set_option maxRecDepth 20000 in
theorem dead_no {w : World} {p : Value} (h : NoTab w p) :
    Calls Tryz.prog 17 #[p] w fun e w' => e = .returned (.tuple #[.slice none 0 0, .int .i64 4]) ∧ w = w' := by
  have HI := Lib.hid (is_no h)
  clear h
  go_enter Tryz.func17, Tryz.ntmps17
  go_wp2_with fail
  refine HI.out.mono ?_
  rintro e w1 ⟨rfl, rfl⟩
  go_wp2_with fail
  go_ret2
  exact ⟨rfl, rfl⟩

set_option maxHeartbeats 800000 in
set_option maxRecDepth 20000 in
theorem meets_no {w : World} {p : Value} (h : NoTab w p) (s : ByteArray) :
    Calls Tryz.prog 16 #[p, .string s] w fun e w' => e = .returned (.tuple #[.agg #[.int .i64 0, .string ⟨#[]⟩, .int .i64 0, .slice none 0 0], .bool false, .int .i64 4]) ∧ Below w.heap.size w w' := by
  obtain ⟨W0, hW0⟩ : ∃ W0, W0 = w.alloc (.cells #[.int .i64 0, .string ⟨#[]⟩, .int .i64 0, .slice none 0 0] 47) := ⟨_, rfl⟩
  have hb0 : Below w.heap.size w W0 := by rw [hW0]; exact (Below.refl _ _).alloc (Nat.le_refl _) _
  have h2 : W0.heap[w.heap.size]? = some (.cells #[.int .i64 0, .string ⟨#[]⟩, .int .i64 0, .slice none 0 0] 47 (0, 0)) := by rw [hW0]; exact heap_alloc_new _ _
  have HI := Lib.hid (is_no (h.below hb0))
  have HB0 := Lib.hid hb0
  have HW0 := Lib.hid hW0
  have z0 : W0.cell? ⟨w.heap.size, 0, none⟩ = some (.int .i64 0) := by simp [World.cell?, h2]
  have z1 : W0.cell? ⟨w.heap.size, 1, none⟩ = some (.string ⟨#[]⟩) := by simp [World.cell?, h2]
  have z2 : W0.cell? ⟨w.heap.size, 2, none⟩ = some (.int .i64 0) := by simp [World.cell?, h2]
  have z3 : W0.cell? ⟨w.heap.size, 3, none⟩ = some (.slice none 0 0) := by simp [World.cell?, h2]
  have f0 : W0.frozen? ⟨w.heap.size, 0, none⟩ = false := by simp [World.frozen?, h2]
  have f1 : W0.frozen? ⟨w.heap.size, 1, none⟩ = false := by simp [World.frozen?, h2]
  have f2 : W0.frozen? ⟨w.heap.size, 2, none⟩ = false := by simp [World.frozen?, h2]
  have f3 : W0.frozen? ⟨w.heap.size, 3, none⟩ = false := by simp [World.frozen?, h2]
  clear h hb0 hW0 h2
  go_enter Tryz.func16, Tryz.ntmps16
  go_upto_region 1 with fail
  rw [← HW0.out]
  clear HW0
  go_wp2_with fail
  refine HI.out.mono ?_
  rintro e w1 ⟨rfl, rfl⟩
  go_wp2_with fail
  refine bodyPost_ret (res_meets _ w.heap.size _ 0 0 ⟨#[]⟩ none 0 0 false 4 rfl rfl rfl ?_ ?_ ?_ ?_) rfl ?_
  · simp [go_sem, z0]
  · simp [go_sem, z1]
  · simp [go_sem, z2]
  · simp [go_sem, z3]
  refine ⟨rfl, ?_⟩
  exact (((HB0.out.setCell (Nat.le_refl _) _).setCell (Nat.le_refl _) _).setCell (Nat.le_refl _) _).setCell (Nat.le_refl _) _

set_option maxHeartbeats 1600000 in
set_option maxRecDepth 20000 in
theorem lookup_no {w : World} {p : Value} (h : NoTab w p) (s : ByteArray) :
    Calls Tryz.prog 15 #[p, .string s] w fun e w' => e = .returned (.tuple #[.agg #[.int .i64 0, .slice none 0 0], .int .i64 4]) ∧ Below w.heap.size w w' := by
  obtain ⟨W0, hW0⟩ : ∃ W0, W0 = w.alloc (.cells #[.int .i64 0, .slice none 0 0] 45) := ⟨_, rfl⟩
  have hb0 : Below w.heap.size w W0 := by rw [hW0]; exact (Below.refl _ _).alloc (Nat.le_refl _) _
  have hs0 : W0.heap.size = w.heap.size + 1 := by rw [hW0]; simp
  have hh0 : W0.heap[w.heap.size]? = some (.cells #[.int .i64 0, .slice none 0 0] 45 (0, 0)) := by rw [hW0]; exact heap_alloc_new _ _
  have HM := Lib.hid (meets_no (h.below hb0) s)
  have HB0 := Lib.hid hb0
  have HS0 := Lib.hid hs0
  have HH0 := Lib.hid hh0
  have HW0 := Lib.hid hW0
  clear h hb0 hs0 hh0 hW0
  go_enter Tryz.func15, Tryz.ntmps15
  go_upto_region 1 with fail
  rw [← HW0.out]
  clear HW0
  go_wp2_with fail
  refine HM.out.mono ?_
  rintro e w2 ⟨rfl, hb2⟩
  have HB2 := Lib.hid hb2
  have h2 := (hb2.block w.heap.size (by rw [HS0.out]; omega)).trans HH0.out
  have hlt : w.heap.size < w2.heap.size := by have := hb2.size; have := HS0.out; omega
  obtain ⟨W3, hW3⟩ : ∃ W3, W3 = w2.alloc (.cells #[.int .i64 0, .string ⟨#[]⟩, .int .i64 0, .slice none 0 0] 47) := ⟨_, rfl⟩
  have hb3 : Below w2.heap.size w2 W3 := by rw [hW3]; exact (Below.refl _ _).alloc (Nat.le_refl _) _
  have h3 := (hb3.block w.heap.size hlt).trans h2
  have g0 : W3.heap[w2.heap.size]? = some (.cells #[.int .i64 0, .string ⟨#[]⟩, .int .i64 0, .slice none 0 0] 47 (0, 0)) := by rw [hW3]; exact heap_alloc_new _ _
  have z0 : W3.cell? ⟨w.heap.size, 0, none⟩ = some (.int .i64 0) := by simp [World.cell?, h3]
  have z1 : W3.cell? ⟨w.heap.size, 1, none⟩ = some (.slice none 0 0) := by simp [World.cell?, h3]
  have f0 : W3.frozen? ⟨w.heap.size, 0, none⟩ = false := by simp [World.frozen?, h3]
  have f1 : W3.frozen? ⟨w.heap.size, 1, none⟩ = false := by simp [World.frozen?, h3]
  have p2 : W3.cell? ⟨w2.heap.size, 2, none⟩ = some (.int .i64 0) := by simp [World.cell?, g0]
  have p3 : W3.cell? ⟨w2.heap.size, 2 + 1, none⟩ = some (.slice none 0 0) := by simp [World.cell?, g0]
  have p3' : W3.cell? ⟨w2.heap.size, 3, none⟩ = some (.slice none 0 0) := p3
  have HB3 : Hid (Below w.heap.size w W3) := (HB0.out.trans (hb2.mono (by have := HS0.out; omega))).trans (hb3.mono (by omega))
  have HW3 := Lib.hid hW3
  clear hb2 h2 h3 hb3 hW3 g0
  go_upto_region 2 with fail
  rw [← HW3.out]
  clear HW3
  go_wp2_with fail
  refine bodyPost_ret (res_look _ w.heap.size _ 0 none 0 0 4 rfl rfl ?_ ?_) rfl ?_
  · simp [go_sem, z0]
  · simp [go_sem, z1]
  refine ⟨rfl, ?_⟩
  exact (HB3.out.setCell (Nat.le_refl _) _).setCell (Nat.le_refl _) _
end Go.Proofs.YtlamhpiiikcpiaaGreatDoor
/-
  Walks: Text, Load, Undo of a table that nobody made; FibNobody.
-/
namespace Go.Proofs.YtlamhpiiikcpiaaGreatDoor
open Go.RowKit Go.Shelf Go.Lib Go.Sort
set_option linter.unusedVariables false
set_option linter.unusedSectionVars false
set_option linter.unusedSimpArgs false

set_option maxHeartbeats 800000 in
set_option maxRecDepth 20000 in
theorem text_no {w : World} {p : Value} (h : NoTab w p) :
    Calls Tryz.prog 7 #[p] w fun e w' => e = .returned (.tuple #[.string ⟨#[]⟩, .int .i64 4]) ∧ w = w' := by
  have HI := Lib.hid (is_no h)
  clear h
  go_enter Tryz.func7, Tryz.ntmps7
  go_wp2_with fail
  refine HI.out.mono ?_
  rintro e w1 ⟨rfl, rfl⟩
  go_wp2_with fail
  go_ret2
  exact ⟨rfl, rfl⟩

set_option maxHeartbeats 800000 in
set_option maxRecDepth 20000 in
theorem load_no {w : World} {p : Value} (s : ByteArray) (h : NoTab w p) :
    Calls Tryz.prog 10 #[p, .string s] w fun e w' => e = .returned (.tuple #[.int .i64 0, .int .i64 0, .int .i64 4]) ∧ w = w' := by
  have HI := Lib.hid (is_no h)
  clear h
  go_enter Tryz.func10, Tryz.ntmps10
  go_wp2_with fail
  refine HI.out.mono ?_
  rintro e w1 ⟨rfl, rfl⟩
  go_wp2_with fail
  go_ret3
  exact ⟨rfl, rfl⟩

set_option maxHeartbeats 800000 in
set_option maxRecDepth 20000 in
theorem undo_no {w : World} {p : Value} (cv : Value) (h : NoTab w p) :
    Calls Tryz.prog 18 #[p, cv] w fun e w' => e = .returned (.tuple #[.slice none 0 0, .int .i64 0, .int .i64 4]) ∧ w = w' := by
  have HI := Lib.hid (is_no h)
  clear h
  go_enter Tryz.func18, Tryz.ntmps18
  go_wp2_with fail
  refine HI.out.mono ?_
  rintro e w1 ⟨rfl, rfl⟩
  go_wp2_with fail
  go_ret3
  exact ⟨rfl, rfl⟩

/-- A call that answers so, at every world behind one. -/
def NoAns (f : Nat) (wo : World) (args : Array Value) (r : Value) : Prop := ∀ Wx, Below wo.heap.size wo Wx → Calls Tryz.prog f args Wx fun e w' => e = .returned r ∧ Below wo.heap.size wo w'
theorem NoAns.same {f : Nat} {wo : World} {args : Array Value} {r : Value} (h : ∀ Wx, Below wo.heap.size wo Wx → Calls Tryz.prog f args Wx fun e w' => e = .returned r ∧ Wx = w') : NoAns f wo args r := fun Wx hWx => by
  refine (h Wx hWx).mono ?_
  rintro e w' ⟨rfl, rfl⟩
  exact ⟨rfl, hWx⟩
theorem NoAns.more {f : Nat} {wo : World} {args : Array Value} {r : Value} (h : ∀ Wx, Below wo.heap.size wo Wx → Calls Tryz.prog f args Wx fun e w' => e = .returned r ∧ Below Wx.heap.size Wx w') : NoAns f wo args r := fun Wx hWx => by
  refine (h Wx hWx).mono ?_
  rintro e w' ⟨rfl, hb⟩
  exact ⟨rfl, hWx.trans (hb.mono hWx.size)⟩

set_option maxHeartbeats 3200000 in
set_option maxRecDepth 20000 in
theorem FibNobody_walk0 (k p kk : Int) (m : ByteArray) (a : Option Addr) (n c : Nat) (s : ByteArray) (w : World)
    (HAw : Hid (∀ Wx, Calls Tryz.prog 6 #[] Wx fun e w' => e = .returned (.bool true) ∧ Below Wx.heap.size Wx w')) :
    Calls Tryz.prog 4 #[.agg #[.int .i64 k, .int .i64 p, .string m, .int .i64 kk, .slice a n c], .string s] w fun e w' => e = .returned (.bool true) ∧ Below w.heap.size w w' := by
  obtain ⟨W3, hW3⟩ : ∃ W3, W3 = ((w.alloc (.cells #[.int .i64 k, .int .i64 p, .string m, .int .i64 kk, .slice a n c] 49)).alloc (.cells #[.slice none 0 0, .int .i64 0] 53)).alloc (.cells #[.pointer none, .pointer (some ⟨w.heap.size + 1, 0, none⟩)] 23) := ⟨_, rfl⟩
  have hb3 : Below w.heap.size w W3 := by rw [hW3]; exact (((Below.refl _ _).alloc (Nat.le_refl _) _).alloc (by simp) _).alloc (by simp <;> omega) _
  have hs3 : W3.heap.size = w.heap.size + 3 := by rw [hW3]; simp
  have h0 : W3.heap[w.heap.size]? = some (.cells #[.int .i64 k, .int .i64 p, .string m, .int .i64 kk, .slice a n c] 49 (0, 0)) := by
    rw [hW3]; simp only [al_heap, Array.getElem?_push, Array.size_push]; simp <;> omega
  have h1 : W3.heap[w.heap.size + 1]? = some (.cells #[.slice none 0 0, .int .i64 0] 53 (0, 0)) := by
    rw [hW3]; simp only [al_heap, Array.getElem?_push, Array.size_push]; simp <;> omega
  have h2 : W3.heap[w.heap.size + 2]? = some (.cells #[.pointer none, .pointer (some ⟨w.heap.size + 1, 0, none⟩)] 23 (0, 0)) := by
    rw [hW3]; simp only [al_heap, Array.getElem?_push, Array.size_push]; simp <;> omega
  have HCc : Hid (∀ Wx, Below W3.heap.size W3 Wx → Wx.cell? ⟨w.heap.size, 0, none⟩ = some (.int .i64 k) ∧ Wx.cell? ⟨w.heap.size, 1, none⟩ = some (.int .i64 p) ∧ Wx.cell? ⟨w.heap.size, 2, none⟩ = some (.string m) ∧ Wx.cell? ⟨w.heap.size, 3, none⟩ = some (.int .i64 kk) ∧ Wx.cell? ⟨w.heap.size, 4, none⟩ = some (.slice a n c)) := fun Wx hWx => by
    have e := (hWx.block w.heap.size (by omega)).trans h0
    refine ⟨?_, ?_, ?_, ?_, ?_⟩ <;> simp [World.cell?, e]
  have HPv : Hid (∀ Wx i, Below W3.heap.size W3 Wx → i < 2 → ∃ pv, Wx.cell? ⟨w.heap.size + 2, i, none⟩ = some pv ∧ NoTab Wx pv) := fun Wx i hWx hi => by
    have e := (hWx.block (w.heap.size + 2) (by omega)).trans h2
    have e1 := (hWx.block (w.heap.size + 1) (by omega)).trans h1
    match i, hi with
    | 0, _ => exact ⟨.pointer none, by simp [World.cell?, e], .inl rfl⟩
    | 1, _ => exact ⟨.pointer (some ⟨w.heap.size + 1, 0, none⟩), by simp [World.cell?, e], .inr ⟨_, rfl, by simp [World.cell?, e1]⟩⟩
  have HB3 := Lib.hid hb3
  have HS3 := Lib.hid hs3
  have HW3 := Lib.hid hW3
  clear hb3 hs3 h0 h1 h2 hW3
  go_enter Tryz.func4, Tryz.ntmps4
  go_upto_region 3 with fail
  rw [← HW3.out]
  clear HW3
  go_loopw [30] (fun s30 wr => ∃ i : Nat, s30 = .int .i64 i ∧ i ≤ 2 ∧ Hid (Below W3.heap.size W3 wr)) (fun s30 _ => 2 - (intOf s30).toNat)
  case atStart => exact ⟨0, rfl, by omega, Below.refl _ _⟩
  case round =>
    obtain ⟨wo, rfl⟩ : ∃ wo : World, wo = wr := ⟨wr, rfl⟩
    obtain ⟨i, rfl, hi, HB⟩ := hrel
    by_cases hlt : i < 2
    · obtain ⟨pv, hpv, hnt⟩ := HPv.out wo i HB.out hlt
      have HDo : Hid (∀ cv, NoAns 14 wo #[pv, cv] (.tuple #[.int .i64 0, .int .i64 4])) := fun cv => .same fun Wx hWx => do_no cv (hnt.below hWx)
      have HUn : Hid (∀ cv, NoAns 18 wo #[pv, cv] (.tuple #[.slice none 0 0, .int .i64 0, .int .i64 4])) := fun cv => .same fun Wx hWx => undo_no cv (hnt.below hWx)
      have HLk : Hid (NoAns 15 wo #[pv, .string s] (.tuple #[.agg #[.int .i64 0, .slice none 0 0], .int .i64 4])) := .more fun Wx hWx => lookup_no (hnt.below hWx) s
      have HMt : Hid (NoAns 16 wo #[pv, .string s] (.tuple #[.agg #[.int .i64 0, .string ⟨#[]⟩, .int .i64 0, .slice none 0 0], .bool false, .int .i64 4])) := .more fun Wx hWx => meets_no (hnt.below hWx) s
      have HDd : Hid (NoAns 17 wo #[pv] (.tuple #[.slice none 0 0, .int .i64 4])) := .same fun Wx hWx => dead_no (hnt.below hWx)
      have HTx : Hid (NoAns 7 wo #[pv] (.tuple #[.string ⟨#[]⟩, .int .i64 4])) := .same fun Wx hWx => text_no (hnt.below hWx)
      have HLd : Hid (NoAns 10 wo #[pv, .string ⟨#[]⟩] (.tuple #[.int .i64 0, .int .i64 0, .int .i64 4])) := .same fun Wx hWx => load_no _ (hnt.below hWx)
      have HWd : Hid (NoAns 19 wo #[pv] (.int .i64 0)) := .same fun Wx hWx => width_no (hnt.below hWx)
      have HLn : Hid (NoAns 20 wo #[pv] (.int .i64 0)) := .same fun Wx hWx => len_no (hnt.below hWx)
      have HRl : Hid (NoAns 12 wo #[pv] (.slice none 0 0)) := .same fun Wx hWx => rules_no (hnt.below hWx)
      obtain ⟨q0, q1, q2, q3, q4⟩ := HCc.out wo HB.out
      clear hnt
      go_wp2_with fail
      refine (HDo.out _ _ ((Below.refl _ _).alloc (Nat.le_refl _) _)).mono ?_
      rintro e w1 ⟨rfl, hb1⟩
      have H1 := Lib.hid hb1
      clear hb1 q0 q1 q2 q3 q4 hpv
      go_wp2_with fail
      refine (HLk.out _ H1.out).mono ?_
      rintro e w2 ⟨rfl, hb2⟩
      have H2 := Lib.hid hb2
      clear hb2
      go_wp2_with fail
      refine (HMt.out _ (H2.out.alloc H2.out.size _)).mono ?_
      rintro e w3 ⟨rfl, hb3⟩
      have H3 := Lib.hid hb3
      clear hb3
      go_wp2_with fail
      refine (HDd.out _ (H3.out.alloc H3.out.size _)).mono ?_
      rintro e w4 ⟨rfl, hb4⟩
      have H4 := Lib.hid hb4
      clear hb4
      go_wp2_with fail
      refine (HTx.out _ H4.out).mono ?_
      rintro e w5 ⟨rfl, hb5⟩
      have H5 := Lib.hid hb5
      clear hb5
      go_wp2_with fail
      refine (HLd.out _ H5.out).mono ?_
      rintro e w6 ⟨rfl, hb6⟩
      have H6 := Lib.hid hb6
      obtain ⟨q0, q1, q2, q3, q4⟩ := HCc.out w6 (HB.out.trans (hb6.mono HB.out.size))
      clear hb6
      go_wp2_with fail
      refine (HUn.out _ _ (H6.out.alloc H6.out.size _)).mono ?_
      rintro e w7 ⟨rfl, hb7⟩
      have H7 := Lib.hid hb7
      clear hb7 q0 q1 q2 q3 q4
      go_wp2_with fail
      refine (HWd.out _ H7.out).mono ?_
      rintro e w8 ⟨rfl, hb8⟩
      have H8 := Lib.hid hb8
      clear hb8
      go_wp2_with fail
      refine (HLn.out _ H8.out).mono ?_
      rintro e w9 ⟨rfl, hb9⟩
      have H9 := Lib.hid hb9
      clear hb9
      go_wp2_with fail
      refine (HRl.out _ H9.out).mono ?_
      rintro e w10 ⟨rfl, hb10⟩
      have H10 := Lib.hid hb10
      clear hb10
      go_wp2_with fail
      go_roundw
      case rel => exact ⟨i + 1, by first | rfl | go_num, by omega, HB.out.trans (H10.out.mono HB.out.size)⟩
      case measure => simp [intOf]; omega
    · go_wp2_with fail
      refine (HAw.out _).mono ?_
      rintro e w2 ⟨rfl, hb⟩
      have HB2 := Lib.hid hb
      clear hb
      go_wp2_with fail
      go_ret
      have hs := HB.out.size
      have hs3 := HS3.out
      exact ⟨rfl, HB3.out.trans ((HB.out.trans (HB2.out.mono hs)).mono (by omega))⟩

theorem FibNobody_walk (k p kk : Int) (m : ByteArray) (a : Option Addr) (n c : Nat) (s : ByteArray) (w : World) :
    Calls Tryz.prog 4 #[.agg #[.int .i64 k, .int .i64 p, .string m, .int .i64 kk, .slice a n c], .string s] w fun e w' => e = .returned (.bool true) ∧ Below w.heap.size w w' :=
  FibNobody_walk0 k p kk m a n c s w (fun Wx => awake_any Wx)
end Go.Proofs.YtlamhpiiikcpiaaGreatDoor
/-
  An argument that is a change: five cells.
-/
namespace Go.Proofs.YtlamhpiiikcpiaaGreatDoor
open Go.ChangeShapes Go.WideShapes Go.RowKit Go.Deep

theorem five_vals : ∀ {l : List Value}, l.length = 5 → ∃ a b c d e, l = [a, b, c, d, e]
  | [a, b, c, d, e], _ => ⟨a, b, c, d, e, rfl⟩
theorem five_cells : ∀ {v : Value}, v.cells.toList.length = 5 → ∃ a b c d e, v = .agg #[a, b, c, d, e]
  | .agg cs, h => by
    obtain ⟨l⟩ := cs
    obtain ⟨a, b, c, d, e, h2⟩ := five_vals (l := l) h
    subst h2
    exact ⟨a, b, c, d, e, rfl⟩
  | .bool _, h | .int _ _, h | .string _, h | .slice _ _ _, h | .pointer _, h => by simp [Value.cells] at h

theorem change_arg {H : Type} {enc : TypeId × Value → H} {W : World} {base : Nat} {spare : Nat → Bool} {held : Bool} {v : Value} {d : DataW H} {ps : List MemPlace}
    (h : DataW.Trod enc Tryz.prog W base spare held 49 v d ps) : ∃ (k p : Int) (m : ByteArray) (kk : Int) (a : Option Addr) (n c : Nat), v = .agg #[.int .i64 k, .int .i64 p, .string m, .int .i64 kk, .slice a n c] := by
  obtain ⟨fuel, hf⟩ := h
  obtain ⟨y0, y1, n1, _, hl, h0, h1⟩ := trod_struct2 Tryz.underlying49 hf
  have hC : Tryz.prog.cellsOf 49 = 5 := by kernel_rfl
  have hl5 : v.cells.toList.length = 5 := hl.trans hC
  have hv := five_cells hl5
  obtain ⟨c0, c1, c2, c3, c4, rfl⟩ := hv
  clear hl hl5 hf
  have k0 : Tryz.prog.cellsOf 41 = 1 := by kernel_rfl
  have k1 : Tryz.prog.cellsOf 47 = 4 := by kernel_rfl
  simp only [Value.cells, k0, k1, List.drop_zero, List.take_succ_cons, List.take_zero, List.drop_succ_cons] at h0 h1
  obtain ⟨k, e0, _⟩ := DataW.trod_int Tryz.underlying41 h0
  obtain ⟨z0, z1, z2, n2, _, _, g0, g1, g2⟩ := trod_struct3 Tryz.underlying47 h1
  have k2 : Tryz.prog.cellsOf 3 = 1 := by kernel_rfl
  have k3 : Tryz.prog.cellsOf 9 = 1 := by kernel_rfl
  have k4 : Tryz.prog.cellsOf 45 = 2 := by kernel_rfl
  simp only [k2, k3, k4, List.drop_zero, List.take_succ_cons, List.take_zero, List.drop_succ_cons] at g0 g1 g2
  obtain ⟨p, e1, _⟩ := DataW.trod_int Tryz.underlying3 g0
  obtain ⟨m, e2, _⟩ := DataW.trod_string Tryz.underlying9 g1
  obtain ⟨u0, u1, n3, _, _, f0, f1⟩ := trod_struct2 Tryz.underlying45 g2
  have k5 : Tryz.prog.cellsOf 42 = 1 := by kernel_rfl
  have k6 : Tryz.prog.cellsOf 43 = 1 := by kernel_rfl
  simp only [k5, k6, List.drop_zero, List.take_succ_cons, List.take_zero, List.drop_succ_cons] at f0 f1
  obtain ⟨kk, e3, _⟩ := DataW.trod_int Tryz.underlying42 f0
  have hs : ∃ a n c, c4 = .slice a n c := by
    rcases open_slice Tryz.underlying43 f1 with ⟨hcs, _⟩ | ⟨x, l, c, mm, nn, D, Pl, hcs, _⟩
    · simp only [List.cons.injEq, and_true] at hcs
      exact ⟨_, _, _, hcs⟩
    · simp only [List.cons.injEq, and_true] at hcs
      exact ⟨_, _, _, hcs⟩
  obtain ⟨a, n, c, rfl⟩ := hs
  simp only [List.cons.injEq, and_true] at e0 e1 e2 e3
  subst e0 e1 e2 e3
  exact ⟨k, p, m, kk, a, n, c, rfl⟩
end Go.Proofs.YtlamhpiiikcpiaaGreatDoor
/-
  The wrap of a tied card's row that hands on that the first world is shaped.
-/
namespace Go.Proofs.YtlamhpiiikcpiaaGreatDoor

theorem handed_both {H : Type} {enc : TypeId × Value → H} {a : Assume} {C : Checked} {os : Os} {f : FuncId} {fn : Func} {s : ChangeSpec} {conds : List PathCond} {apart fresh handsOn again : Bool} {X : World → Array Value → Prop}
    (hX : ∀ (w w' : World) (args : Array Value), w.heap = w'.heap → X w args → X w' args)
    (own : ownKnob C.prog.godebug = none) (started : os.Started) (noInit : C.prog.inits.idxOf? f = none) (hfn : C.prog.funcs[f]? = some fn)
    (witness : ∃ (w : World) (tape : Tape) (i : Input), w.os = os ∧ (w.forCall tape i).Shaped C.prog ∧ i.vars = [] ∧ Input.okWide C.prog (w.forCall tape i) .any w.heap.size f i ∧
      ((s.pre enc C.prog fn conds apart (w.forCall tape i).memory i.args ∧ X (w.forCall tape i).memory i.args) ∧ sizedMet enc C.prog fn (OpenSpec.ofChange s) apart (w.forCall tape i).memory i.args) ∧ a.holds C.prog (lone (Frame.enter C.prog f i.args .normal) [] (w.forCall tape i)))
    (contract : ∀ (W : World) (base : Nat) (args : Array Value) (ds gs : List (DataW H)) (before : List MemPlace),
      (∀ (j : Nat) t v, fn.params[j]? = some t → args[j]? = some v → Value.okWide C.prog W .any base t v) →
      DataW.Whole enc C.prog fn.params.toList s.vars apart W args.toList ds gs before →
      (DataW.weightsEach C.prog (fn.params.toList ++ s.plain.varTypes C.prog) (ds ++ gs)).all (· ≤ reachBytes) = true → X W args → W.ShapedOpen C.prog →
      Calls C.prog f args W fun e W' => ∃ v, e = .returned v ∧ s.post enc C.prog fn apart fresh handsOn again W args v W') :
    ReturnsInHanded a C os f .any (fun w args => (s.pre enc C.prog fn conds apart w args ∧ X w args) ∧ sizedMet enc C.prog fn (OpenSpec.ofChange s) apart w args) (s.post enc C.prog fn apart fresh handsOn again) := by
  refine returnsInHanded_of_calls own started noInit witness ?_
  intro w tape i _ hsh _ hok hpre _
  obtain ⟨_, _, _, fn', hfn', _, _, _, _, hval⟩ := hok
  have e : fn' = fn := Option.some.inj (hfn'.symm.trans hfn)
  subst e
  obtain ⟨⟨⟨ds, gs, before, hw, _⟩, hx⟩, hz⟩ := hpre
  have hw' := DataW.Whole.of_heap (w' := w.forCall tape i) (by rfl) hw
  refine (contract (w.forCall tape i) w.heap.size i.args ds gs before hval hw' (hz.weights hw) (hX _ _ _ (by rfl) hx) hsh).mono fun e W' ⟨v, he, hp⟩ => ?_
  subst he
  exact ChangeSpec.post_blind hp
end Go.Proofs.YtlamhpiiikcpiaaGreatDoor
