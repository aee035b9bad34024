/-
  Walks: awake: two rules that are known.
-/
import Derived.Test.YtlamhpiiikcpiaaFibMC
import Derived.Test.YtlamhpiiikcpiaaFibMB
import Derived.BigQuiet
import Derived.Deep.RegionHeld3
import Derived.SizedLaws
import Derived.SliceStrings
import Derived.ProofKit
import Derived.Deep.Slices
import Derived.Deep.Strs
import Derived.Test.YtlamhpiiikcpiaaRul
import Derived.Test.YtlamhpiiikcpiaaFibMA
import Derived.Test.YtlamhpiiikcpiaaCubeH
import Derived.Test.YtlamhpiiikcpiaaCubeRE
import Derived.Test.YtlamhpiiikcpiaaRds
namespace Go.Proofs.Ytlamhpiiikcpiaa
open Go.RowKit Go.Shelf Go.Lib Go.Sort
set_option linter.unusedVariables false
set_option linter.unusedSectionVars false
set_option linter.unusedSimpArgs false

namespace Aw
abbrev p1 : ByteArray := ⟨#[112]⟩
abbrev m1 : ByteArray := ⟨#[49, 120]⟩
abbrev m2 : ByteArray := ⟨#[49, 49]⟩
abbrev h2 : ByteArray := ⟨#[49, 48]⟩
abbrev h3 : ByteArray := ⟨#[48, 48]⟩
def r1 : Rl := ⟨5, m1, 3, [p1]⟩
def r2 : Rl := ⟨9, m2, 2, []⟩
theorem done : Fb.doL 2 [] [(1, r1), (1, r2)] 0 = (some [r2, r1], 0, 0) := by kernel_rfl
theorem end_ : Fb.endL 2 [] [(1, r1), (1, r2)] = [r2, r1] := by kernel_rfl
theorem look1 : Fb.lookS [r2, r1] 2 m2 = (2, [], 0) := by kernel_rfl
theorem look2 : Fb.lookS [r2, r1] 2 h2 = (3, [p1], 0) := by kernel_rfl
theorem look3 : Fb.lookS [r2, r1] 2 h3 = (1, [], 0) := by kernel_rfl
end Aw

/-- Lookup, at an answer that is known. -/
theorem lookup_is {ok : Nat → Prop} {w : World} {tb : Nat} {v : Value} {L : List Rl} {W : Int} (h : Tab 0 1 ok w tb v L W) (s : ByteArray) (hs : s.size ≤ maxLen) {k e : Int} {ps : List ByteArray} (hS : Fb.lookS L W s = (k, ps, e)) :
    Calls Try.prog 12 #[.pointer (some ⟨tb, 0, none⟩), .string s] w fun e' w' => ∃ (a : Option Addr) (n c : Nat), e' = .returned (.tuple #[.agg #[.int .i64 k, .slice a n c], .int .i64 e]) ∧ RdsO (fun b => w.heap.size ≤ b) w' (.slice a n c) ps ∧ Below w.heap.size w w' := by
  have := lookup_any h s hs
  rw [hS] at this
  refine this.mono ?_
  rintro e' w' ⟨hb, a, n, c, hr, rfl⟩
  exact ⟨a, n, c, rfl, hr, hb⟩

theorem small_le (s : ByteArray) (h : s.size ≤ 64) : s.size ≤ maxLen := by unfold maxLen; omega

set_option maxHeartbeats 1600000 in
set_option maxRecDepth 20000 in
theorem awake_any (w : World) : Calls Try.prog 9 #[] w fun e w' => e = .returned (.bool true) ∧ Below w.heap.size w w' := by
  obtain ⟨W1, hW1⟩ : ∃ W1, W1 = w.alloc (.cells #[.slice none 0 0, .int .i64 2] 69) := ⟨_, rfl⟩
  have hb1 : Below w.heap.size w W1 := by rw [hW1]; exact (Below.refl _ _).alloc (Nat.le_refl _) _
  have hs1 : W1.heap.size = w.heap.size + 1 := by rw [hW1]; simp
  have hT1 : Tab 0 1 (fun _ => False) W1 w.heap.size (.slice none 0 0) [] 2 := by rw [hW1]; exact tab_new w 2 (by decide) (by decide)
  have HNew : Hid (∀ Wx, Calls Try.prog 26 #[.int .i64 2] Wx fun e w' => e = .returned (.tuple #[.pointer (some ⟨Wx.heap.size, 0, none⟩), .int .i64 0]) ∧ w' = Wx.alloc (.cells #[.slice none 0 0, .int .i64 2] 69)) := fun Wx => new_ok 2 Wx (by decide) (by decide)
  obtain ⟨W2, hW2⟩ : ∃ W2, W2 = W1.alloc (.cells #[.string ⟨#[112]⟩] 9) := ⟨_, rfl⟩
  have hb2 : Below W1.heap.size W1 W2 := by rw [hW2]; exact (Below.refl _ _).alloc (Nat.le_refl _) _
  have hs2 : W2.heap.size = W1.heap.size + 1 := by rw [hW2]; simp
  have hr2 : RdsS W2 (.slice (some ⟨W1.heap.size, 0, none⟩) 1 1) [⟨#[112]⟩] := by
    rw [hW2]
    refine rdsS_mk (ss := [⟨#[112]⟩]) (by simp) (by unfold maxLen; simp) (by simp) ?_
    intro i hi
    match i, hi with
    | 0, _ => simp [go_sem]
  obtain ⟨W3, hW3⟩ : ∃ W3, W3 = W2.alloc (.cells #[.int .i64 1, .int .i64 5, .string ⟨#[49, 120]⟩, .int .i64 3, .slice (some ⟨W1.heap.size, 0, none⟩) 1 1, .int .i64 1, .int .i64 9, .string ⟨#[49, 49]⟩, .int .i64 2, .slice none 0 0] 51) := ⟨_, rfl⟩
  have hb3 : Below W2.heap.size W2 W3 := by rw [hW3]; exact (Below.refl _ _).alloc (Nat.le_refl _) _
  have hh3 : W3.heap[W2.heap.size]? = some (.cells #[.int .i64 1, .int .i64 5, .string ⟨#[49, 120]⟩, .int .i64 3, .slice (some ⟨W1.heap.size, 0, none⟩) 1 1, .int .i64 1, .int .i64 9, .string ⟨#[49, 49]⟩, .int .i64 2, .slice none 0 0] 51 (0, 0)) := by rw [hW3]; exact heap_alloc_new _ _
  have hc3 : RdsC (fun _ => True) W3 (.slice (some ⟨W2.heap.size, 0, none⟩) 2 2) [(1, Aw.r1), (1, Aw.r2)] := by
    refine two_rdsC (x := ⟨5, ⟨#[49, 120]⟩, 3, some ⟨W1.heap.size, 0, none⟩, 1, 1⟩) (y := ⟨9, ⟨#[49, 49]⟩, 2, none, 0, 0⟩) hh3 ⟨rfl, rfl, rfl, ⟨hr2.below hb3, fun _ _ _ _ _ => trivial⟩, ⟨by decide, by decide, ?_⟩⟩ ⟨rfl, rfl, rfl, ⟨rdsS_nil _, okV_nil _ _ _⟩, ⟨by decide, by decide, fun s hs => by cases hs⟩⟩ trivial
    intro s hs
    have : s = Aw.p1 := by simpa [Aw.r1] using hs
    rw [this]; decide
  have hDo := do_tab ((hT1.below hb2).below hb3) hc3 (by simp) (Fb.ok_nil 2)
  rw [Aw.done, Aw.end_] at hDo
  have HDo := Lib.hid hDo
  have HB13 := Lib.hid (hb2.trans (hb3.mono (by omega)))
  have HB1 := Lib.hid hb1
  have HS1 := Lib.hid hs1
  have hs23 : W2.heap.size < W3.heap.size := by rw [hW3]; simp
  rw [hW2] at hW3
  have HW3 := Lib.hid hW3
  have HW1 := Lib.hid hW1
  have HS2 := Lib.hid hs2
  have HS3 := Lib.hid hs23
  clear hb1 hs1 hT1 hb2 hs2 hr2 hb3 hh3 hc3 hDo hW1 hW2 hW3 hs23
  go_enter Try.func9, Try.ntmps9
  go_wp2_with fail
  refine (HNew.out _).mono ?_
  rintro e w1 ⟨rfl, rfl⟩
  rw [← HW1.out]
  go_wp2_with fail
  rw [← HW3.out]
  have hsz2 : W1.heap.size + 1 = W2.heap.size := HS2.out.symm
  rw [hsz2]
  refine HDo.out.mono ?_
  rintro e w4 ⟨rfl, ⟨v4, hT4⟩, hbt⟩
  have hB4 : Below w.heap.size w w4 := (HB1.out.trans (HB13.out.mono (by rw [HS1.out]; omega))).trans (hbt.toBelow (by have := HB13.out.size; have := HS1.out; omega) (fun k hk => by omega))
  have HB4 := Lib.hid hB4
  have HT4 := Lib.hid hT4
  have HK1 := Lib.hid (lookup_is hT4 ⟨#[49, 49]⟩ (small_le _ (by decide)) Aw.look1)
  clear hB4 hT4 hbt hsz2
  go_wp2_with fail
  refine HK1.out.mono ?_
  rintro e w5 ⟨a5, n5, c5, rfl, hr5, hb5⟩
  obtain ⟨W5, hW5⟩ : ∃ W5, W5 = w5.alloc (.cells #[.int .i64 2, .slice a5 n5 c5] 31) := ⟨_, rfl⟩
  have hb5a : Below w5.heap.size w5 W5 := by rw [hW5]; exact (Below.refl _ _).alloc (Nat.le_refl _) _
  have hB5 : Below w4.heap.size w4 W5 := hb5.trans (hb5a.mono hb5.size)
  have k5 : W5.cell? ⟨w5.heap.size, 0, none⟩ = some (.int .i64 2) := by rw [hW5]; simp [go_sem]
  have hl5 : w5.heap.size < W5.heap.size := by rw [hW5]; simp
  have HT5 := Lib.hid (HT4.out.below hB5)
  have HK2 := Lib.hid (lookup_is HT5.out ⟨#[49, 48]⟩ (small_le _ (by decide)) Aw.look2)
  have HB5 := Lib.hid hB5
  have HW5 := Lib.hid hW5
  clear hr5 hb5 hb5a hB5 hW5
  go_upto_region 6 with fail
  rw [← HW5.out]
  clear HW5
  go_wp2_with fail
  refine HK2.out.mono ?_
  rintro e w6 ⟨a6, n6, c6, rfl, hr6, hb6⟩
  obtain ⟨W6, hW6⟩ : ∃ W6, W6 = w6.alloc (.cells #[.int .i64 3, .slice a6 n6 c6] 31) := ⟨_, rfl⟩
  have hb6a : Below w6.heap.size w6 W6 := by rw [hW6]; exact (Below.refl _ _).alloc (Nat.le_refl _) _
  have hB6 : Below W5.heap.size W5 W6 := hb6.trans (hb6a.mono hb6.size)
  have k6 : W6.cell? ⟨w6.heap.size, 0, none⟩ = some (.int .i64 3) := by rw [hW6]; simp [go_sem]
  have hl6 : w6.heap.size < W6.heap.size := by rw [hW6]; simp
  have k56 := (hB6.cell (p := ⟨w5.heap.size, 0, none⟩) hl5).trans k5
  have HT6 := Lib.hid (HT5.out.below hB6)
  have HK3 := Lib.hid (lookup_is HT6.out ⟨#[48, 48]⟩ (small_le _ (by decide)) Aw.look3)
  have HB6 := Lib.hid hB6
  have HW6 := Lib.hid hW6
  clear hr6 hb6 hb6a hB6 hW6 k5
  go_upto_region 7 with fail
  rw [← HW6.out]
  clear HW6
  go_wp2_with fail
  refine HK3.out.mono ?_
  rintro e w7 ⟨a7, n7, c7, rfl, hr7, hb7⟩
  obtain ⟨W7, hW7⟩ : ∃ W7, W7 = w7.alloc (.cells #[.int .i64 1, .slice a7 n7 c7] 31) := ⟨_, rfl⟩
  have hb7a : Below w7.heap.size w7 W7 := by rw [hW7]; exact (Below.refl _ _).alloc (Nat.le_refl _) _
  have hB7 : Below W6.heap.size W6 W7 := hb7.trans (hb7a.mono hb7.size)
  have k7 : W7.cell? ⟨w7.heap.size, 0, none⟩ = some (.int .i64 1) := by rw [hW7]; simp [go_sem]
  have hl65 : w5.heap.size < W6.heap.size := Nat.lt_of_lt_of_le hl5 HB6.out.size
  have k57 := (hB7.cell (p := ⟨w5.heap.size, 0, none⟩) hl65).trans k56
  have k67 := (hB7.cell (p := ⟨w6.heap.size, 0, none⟩) hl6).trans k6
  have HT7 := Lib.hid (HT6.out.below hB7)
  have HLen := Lib.hid (len_tab HT7.out)
  have HB7 : Hid (Below w.heap.size w W7) := HB4.out.trans ((HB5.out.trans ((HB6.out.trans (hB7.mono HB6.out.size)).mono HB5.out.size)).mono HB4.out.size)
  have HW7 := Lib.hid hW7
  clear hr7 hb7 hb7a hB7 hW7 k56 k6
  go_upto_region 8 with fail
  rw [← HW7.out]
  clear HW7
  go_wp2_with fail
  refine HLen.out.mono ?_
  rintro e w8 ⟨rfl, rfl⟩
  go_wp2_with fail
  go_ret
  exact ⟨rfl, HB7.out⟩
end Go.Proofs.Ytlamhpiiikcpiaa
/-
  Walks: made: a table, and the document's, with changes done one by one.
-/
namespace Go.Proofs.Ytlamhpiiikcpiaa
open Go.RowKit Go.Shelf Go.Lib Go.Sort
set_option linter.unusedVariables false
set_option linter.unusedSectionVars false
set_option linter.unusedSimpArgs false

/-- One change of a row. -/
theorem RdsC.one {ok : Nat → Prop} {w : World} {b off n cap : Nat} {L : List (Int × Rl)} (h : RdsC ok w (.slice (some ⟨b, off, none⟩) n cap) L) (i : Nat) (hi : i < L.length) : RdsC ok w (.slice (some ⟨b, off + i * 5, none⟩) 1 (cap - i)) [L[i]] := by
  have hl : n = L.length ∧ n ≤ cap := by
    obtain ⟨xs, ad', n', cap', h1, h2, h3, h4, _⟩ := h
    injection h1 with e1 e2 e3
    subst e1 e2 e3
    exact ⟨h2, h4.1⟩
  have := h.part i (i + 1) (by omega) (by omega)
  have hne : ¬ cap = i := by omega
  have hadd : (⟨b, off, none⟩ : Addr).add (i * 5) = ⟨b, off + i * 5, none⟩ := by unfold Addr.add; split <;> simp_all
  have e : (L.take (i + 1)).drop i = [L[i]] := by
    rw [List.take_succ_eq_append_getElem hi]
    exact List.drop_left' (by rw [List.length_take]; omega)
  rw [if_neg hne, Option.map_some, hadd, e, show i + 1 - i = 1 by omega] at this
  exact this

set_option maxHeartbeats 1600000 in
set_option maxRecDepth 20000 in
theorem made_bad (W : Int) (cv : Value) (w : World) (hW : W < 1 ∨ W > 128) :
    Calls Try.prog 8 #[.int .i64 W, cv] w fun e w' => e = .returned (.tuple #[.pointer none, .pointer none, .bool true]) ∧ w' = w := by
  have HN : Hid (∀ Wx, Calls Try.prog 26 #[.int .i64 W] Wx fun e w' => e = .returned (.tuple #[.pointer none, .int .i64 1]) ∧ w' = Wx) := fun Wx => new_bad W Wx hW
  have HR : Hid (∀ Wx, Calls Try.prog 27 #[.int .i64 W] Wx fun e w' => e = .returned (.tuple #[.pointer none, .int .i64 1]) ∧ w' = Wx) := fun Wx => rNew_bad W Wx hW
  clear hW
  go_enter Try.func8, Try.ntmps8
  go_wp2_with fail
  refine (HN.out _).mono ?_
  rintro e w1 ⟨rfl, rfl⟩
  go_wp2_with fail
  refine (HR.out _).mono ?_
  rintro e w2 ⟨rfl, rfl⟩
  go_wp2_with fail
  go_loopw [11] (fun s11 wr => s11 = .int .i64 0 ∧ Hid (wr = w2)) (fun s11 _ => 0)
  case atStart => exact ⟨rfl, rfl⟩
  case round =>
    obtain ⟨rfl, HE⟩ := hrel
    go_wp2_with fail
    go_ret3
    exact ⟨rfl, HE.out⟩

/-- What made comes to, at a width that may be: two tables of the same rules. -/
def MadePost (W : Int) (m : List (Int × Rl)) (w : World) (e : Ending) (w' : World) : Prop := Below w.heap.size w w' ∧ ∃ (tb rb : Nat) (v v2 : Value), w.heap.size ≤ tb ∧ w.heap.size ≤ rb ∧ tb ≠ rb ∧
      e = .returned (.tuple #[.pointer (some ⟨tb, 0, none⟩), .pointer (some ⟨rb, 0, none⟩), .bool true]) ∧
      Tab 0 1 (fun b => w.heap.size ≤ b ∧ b ≠ tb ∧ b ≠ rb) w' tb v (Fb.mkL W (m.take 100)) W ∧ Tab 1 0 (fun b => w.heap.size ≤ b ∧ b ≠ tb ∧ b ≠ rb) w' rb v2 (Fb.mkL W (m.take 100)) W

set_option maxHeartbeats 1600000 in
set_option maxRecDepth 20000 in
theorem made_ok {ok2 : Nat → Prop} (W : Int) (cv : Value) (m : List (Int × Rl)) (w : World) (h1 : 1 ≤ W) (h2 : W ≤ 128) (hc : RdsC ok2 w cv m) (hm : m.length * 64 ≤ 140737488351232) :
    Calls Try.prog 8 #[.int .i64 W, cv] w (MadePost W m w) := by
  have HNw : Hid (∀ Wx, Calls Try.prog 26 #[.int .i64 W] Wx fun e w' => e = .returned (.tuple #[.pointer (some ⟨Wx.heap.size, 0, none⟩), .int .i64 0]) ∧ w' = Wx.alloc (.cells #[.slice none 0 0, .int .i64 W] 69)) := fun Wx => new_ok W Wx h1 h2
  have HRw : Hid (∀ Wx, Calls Try.prog 27 #[.int .i64 W] Wx fun e w' => e = .returned (.tuple #[.pointer (some ⟨Wx.heap.size, 0, none⟩), .int .i64 0]) ∧ w' = Wx.alloc (.cells #[.int .i64 W, .slice none 0 0] 48)) := fun Wx => rNew_ok W Wx h1 h2
  obtain ⟨W1, hW1⟩ : ∃ W1, W1 = w.alloc (.cells #[.slice none 0 0, .int .i64 W] 69) := ⟨_, rfl⟩
  have hb1 : Below w.heap.size w W1 := by rw [hW1]; exact (Below.refl _ _).alloc (Nat.le_refl _) _
  have hs1 : W1.heap.size = w.heap.size + 1 := by rw [hW1]; simp
  have hT1 : Tab 0 1 (fun _ => False) W1 w.heap.size (.slice none 0 0) [] W := by rw [hW1]; exact tab_new w W h1 h2
  obtain ⟨W2, hW2⟩ : ∃ W2, W2 = W1.alloc (.cells #[.int .i64 W, .slice none 0 0] 48) := ⟨_, rfl⟩
  have hb2 : Below W1.heap.size W1 W2 := by rw [hW2]; exact (Below.refl _ _).alloc (Nat.le_refl _) _
  have hs2 : W2.heap.size = W1.heap.size + 1 := by rw [hW2]; simp
  have hR2 : Tab 1 0 (fun _ => False) W2 W1.heap.size (.slice none 0 0) [] W := by rw [hW2]; exact rtab_new W1 W h1 h2
  have HT2 : Hid (Tab 0 1 (fun b => w.heap.size ≤ b ∧ b ≠ w.heap.size ∧ b ≠ W1.heap.size) W2 w.heap.size (.slice none 0 0) [] W) := (hT1.below hb2).mono (fun _ h => h.elim) (fun b hb => hb.2.1)
  have HR2 : Hid (Tab 1 0 (fun b => w.heap.size ≤ b ∧ b ≠ w.heap.size ∧ b ≠ W1.heap.size) W2 W1.heap.size (.slice none 0 0) [] W) := hR2.mono (fun _ h => h.elim) (fun b hb => hb.2.2)
  have HB2 : Hid (Below w.heap.size w W2) := hb1.trans (hb2.mono (by omega))
  obtain ⟨rb, hrb⟩ : ∃ rb, rb = W1.heap.size := ⟨_, rfl⟩
  have hne : w.heap.size ≠ rb := by omega
  have hsz2 : rb < W2.heap.size := by omega
  have HRB : Hid (w.heap.size ≤ rb) := by show _ ≤ _; omega
  obtain ⟨n, hn⟩ : ∃ n, n = m.length := ⟨_, rfl⟩
  have HN := Lib.hid hn
  rw [← hn] at hm
  obtain ⟨adc, capc, rfl, hcc, hcm⟩ := hc.form
  unfold maxLen at hcm
  have HC := Lib.hid hc
  rw [← hn] at HC hcc ⊢
  rw [← hrb] at HT2 HR2
  have HOk0 := Lib.hid (Fb.mkL_ok W)
  have HW1 := Lib.hid hW1
  have HW2 := Lib.hid hW2
  have HRb := Lib.hid hrb
  clear hc hn hb1 hs1 hT1 hb2 hs2 hR2 hW1 hW2 hrb
  go_enter Try.func8, Try.ntmps8
  go_wp2_with fail
  refine (HNw.out _).mono ?_
  rintro e w1 ⟨rfl, rfl⟩
  rw [← HW1.out]
  go_wp2_with fail
  refine (HRw.out _).mono ?_
  rintro e w2 ⟨rfl, rfl⟩
  rw [← HW2.out, ← HRb.out]
  clear HW1 HW2 HRb
  have hbn : (false != false) = false := rfl
  go_wp2_with fail
  go_loopw [11] (fun s11 wr => ∃ (i : Nat) (v v2 : Value), s11 = .int .i64 i ∧ i ≤ n ∧ i ≤ 100 ∧ Hid (Tab 0 1 (fun b => w.heap.size ≤ b ∧ b ≠ w.heap.size ∧ b ≠ rb) wr w.heap.size v (Fb.mkL W (m.take i)) W) ∧ Hid (Tab 1 0 (fun b => w.heap.size ≤ b ∧ b ≠ w.heap.size ∧ b ≠ rb) wr rb v2 (Fb.mkL W (m.take i)) W) ∧ Hid (Below w.heap.size w wr) ∧ Hid (rb < wr.heap.size)) (fun s11 _ => n - (intOf s11).toNat)
  case atStart => exact ⟨0, _, _, rfl, Nat.zero_le _, Nat.zero_le _, HT2.out, HR2.out, HB2.out, hsz2⟩
  case round =>
    obtain ⟨wo, rfl⟩ : ∃ wo : World, wo = wr := ⟨wr, rfl⟩
    obtain ⟨i, v, v2, rfl, hin, hi100, HT, HR, HB, HZ⟩ := hrel
    by_cases hlt : i < n
    · by_cases hlt2 : i < 100
      · have him : i < m.length := by rw [← HN.out]; exact hlt
        obtain ⟨b, off, k, x, rfl, hb, _, hk, x0, x1, x2, x3, x4, hx⟩ := HC.out.get i him
        have X0 := (HB.out.cell (p := ⟨b, off + i * 5, none⟩) hb).trans x0
        have X1 := (HB.out.cell (p := ⟨b, off + i * 5 + 1, none⟩) hb).trans x1
        have X2 := (HB.out.cell (p := ⟨b, off + i * 5 + 2, none⟩) hb).trans x2
        have X3 := (HB.out.cell (p := ⟨b, off + i * 5 + 3, none⟩) hb).trans x3
        have X4 := (HB.out.cell (p := ⟨b, off + i * 5 + 4, none⟩) hb).trans x4
        obtain ⟨W4, hW4⟩ : ∃ W4, W4 = wo.alloc (.cells #[.int .i64 k, .int .i64 x.p, .string x.m, .int .i64 x.k, .slice x.a x.n x.c] 51) := ⟨_, rfl⟩
        have hb4 : Below wo.heap.size wo W4 := by rw [hW4]; exact (Below.refl _ _).alloc (Nat.le_refl _) _
        have hh4 : W4.heap[wo.heap.size]? = some (.cells #[.int .i64 k, .int .i64 x.p, .string x.m, .int .i64 x.k, .slice x.a x.n x.c] 51 (0, 0)) := by rw [hW4]; exact heap_alloc_new _ _
        have hwx : Below w.heap.size w W4 := HB.out.trans (hb4.mono HB.out.size)
        have hd1 := do_tab (HT.out.below hb4) (one_rdsC hh4 ((Rl.okTrue hx).below hwx) trivial) (by simp) (HOk0.out (m.take i))
        rw [show (k, m[i].2) = m[i] by rw [hk]] at hd1
        obtain ⟨S, hS⟩ : ∃ S, S = Fb.doL W (Fb.mkL W (m.take i)) [m[i]] 0 := ⟨_, rfl⟩
        rw [← hS, ← Fb.mkL_succ W m i him] at hd1
        have HD1 := Lib.hid hd1
        have HSS := Lib.hid hS
        have HB4 := Lib.hid hb4
        have HW4 := Lib.hid hW4
        clear x0 x1 x2 x3 x4 hx hW4 hb4 hh4 hwx hd1 hk hS
        go_wp2_with fail
        rw [← HW4.out]
        clear HW4
        refine HD1.out.mono ?_
        rintro e w5 ⟨rfl, ⟨v5, hT5⟩, hbt5⟩
        have hw4 := HB4.out.size
        have HR5 := Lib.hid ((HR.out.below HB4.out).but hbt5 (fun e => hne e.symm) (fun b hb e => hb.2.1 e))
        clear X0 X1 X2 X3 X4
        have hbt05 : But (fun b => b = w.heap.size) w w5 := ((But.below (S := fun b => b = w.heap.size) HB.out).trans (But.below (S := fun b => b = w.heap.size) HB4.out)).trans hbt5
        have hc5 := (HC.out.lt.but hbt05 (fun b hb e => by have := hb.2; omega)).one i him
        have hd2 := rDo_tab HR5.out hc5 (by simp) (HOk0.out (m.take i))
        rw [← HSS.out, ← Fb.mkL_succ W m i him] at hd2
        have HD2 := Lib.hid hd2
        have hs5 := hbt5.size
        have hz := HZ.out
        have HT5 : Hid (Tab 0 1 (fun b => w.heap.size ≤ b ∧ b ≠ w.heap.size ∧ b ≠ rb) w5 w.heap.size v5 (Fb.mkL W (m.take (i + 1))) W) := hT5.mono (fun b hb => by
          rcases hb with hb | hb
          · exact hb.1
          · have := HRB.out
            exact ⟨by omega, by omega, by omega⟩) (fun b hb => hb.2.1)
        have HBt5 := Lib.hid hbt5
        clear hbt05 hc5 hd2 hT5 hbt5
        go_wp2_with fail
        refine HD2.out.mono ?_
        rintro e w6 ⟨rfl, ⟨v6, hR6⟩, hbt6⟩
        have hs6 := hbt6.size
        have HT6 := Lib.hid (HT5.out.but hbt6 (fun e => hne e) (fun b hb e => hb.2.2 e))
        have HR6 : Hid (Tab 1 0 (fun b => w.heap.size ≤ b ∧ b ≠ w.heap.size ∧ b ≠ rb) w6 rb v6 (Fb.mkL W (m.take (i + 1))) W) := hR6.mono (fun b hb => by
          rcases hb with hb | hb
          · exact hb.1
          · have := HRB.out
            exact ⟨by omega, by omega, by omega⟩) (fun b hb => hb.2.2)
        have HB6 : Hid (Below w.heap.size w w6) := ((HB.out.trans (HB4.out.mono HB.out.size)).trans (HBt5.out.toBelow (by have := HB.out.size; omega) (fun k hk => by omega))).trans (hbt6.toBelow (by have := HB.out.size; omega) (fun k hk => by have := HRB.out; omega))
        have hse : (S.2.2 != S.2.2) = false := by simp
        clear hR6 hbt6
        go_wp2_with fail
        go_roundw
        case rel => exact ⟨i + 1, v5, v6, by first | rfl | go_num, by omega, by omega, HT6.out, HR6.out, HB6.out, by show _ < _; omega⟩
        case measure => simp [intOf]; omega
      · have hi : i = 100 := by omega
        have hfin : m.take i = m.take 100 := by rw [hi]
        have HFin := Lib.hid hfin
        clear hfin
        have hi' : ¬ (i : Int) < 100 := by omega
        go_wp2_with fail
        go_ret3
        refine ⟨HB.out, w.heap.size, rb, v, v2, Nat.le_refl _, HRB.out, hne, rfl, ?_, ?_⟩
        · have := HT.out; rw [HFin.out] at this; exact this
        · have := HR.out; rw [HFin.out] at this; exact this
    · have hfin : m.take i = m.take 100 := by rw [List.take_of_length_le (by rw [← HN.out]; omega), List.take_of_length_le (by rw [← HN.out]; omega)]
      have HFin := Lib.hid hfin
      clear hfin
      go_wp2_with fail
      go_ret3
      refine ⟨HB.out, w.heap.size, rb, v, v2, Nat.le_refl _, HRB.out, hne, rfl, ?_, ?_⟩
      · have := HT.out; rw [HFin.out] at this; exact this
      · have := HR.out; rw [HFin.out] at this; exact this
end Go.Proofs.Ytlamhpiiikcpiaa
/-
  Walks: FibChanges.
-/
namespace Go.Proofs.Ytlamhpiiikcpiaa
open Go.RowKit Go.Shelf Go.Lib Go.Sort
set_option linter.unusedVariables false
set_option linter.unusedSectionVars false
set_option linter.unusedSimpArgs false

/-- Blocks that are new, but for two tables. -/
abbrev okT (B tb rb : Nat) : Nat → Prop := fun b => B ≤ b ∧ b ≠ tb ∧ b ≠ rb

theorem Tab.new {vo wo B tb rb t : Nat} {w w' : World} {v : Value} {L : List Rl} {W : Int} (h : Tab vo wo (okNew (okT B tb rb) w) w' t v L W) (hB : B ≤ w.heap.size) (h1 : tb < w.heap.size) (h2 : rb < w.heap.size) (ht : t = tb ∨ t = rb) : Tab vo wo (okT B tb rb) w' t v L W :=
  h.mono (fun b hb => by
    rcases hb with hb | hb
    · exact hb.1
    · exact ⟨by omega, by omega, by omega⟩) (fun b hb e => by
    rcases ht with h | h
    · exact hb.2.1 (e.trans h)
    · exact hb.2.2 (e.trans h))

/-- Rules, told loosely: for the calls of a region. -/
theorem rules_loose {ok : Nat → Prop} {w : World} {tb : Nat} {v : Value} {L : List Rl} {W : Int} (h : Tab 0 1 ok w tb v L W) (hL : L.length ≤ 4096) : ∀ Wx, Below w.heap.size w Wx → Calls Try.prog 18 #[.pointer (some ⟨tb, 0, none⟩)] Wx fun e w' => ∃ ad n c, e = .returned (.slice ad n c) ∧ RdsR (fun b => w.heap.size ≤ b) w' (.slice ad n c) L ∧ Below w.heap.size w w' := fun Wx hWx => by
  refine (rules_tab (h.below hWx) hL).mono ?_
  rintro e w' ⟨ad, c, rfl, hr, hb⟩
  exact ⟨ad, _, c, rfl, hr.mono fun b hb => Nat.le_trans hWx.size hb, hWx.trans (hb.mono hWx.size)⟩
theorem same_loose {L : List Rl} {w : World} : ∀ (ok ok2 : Nat → Prop) (Wx : World) (v1 v2 : Value), RdsR ok Wx v1 L → RdsR ok2 Wx v2 L → Below w.heap.size w Wx → Calls Try.prog 17 #[v1, v2] Wx fun e w' => e = .returned (.bool true) ∧ Below w.heap.size w w' := fun ok ok2 Wx v1 v2 h1 h2 hb => by
  refine (sameRules_same ok ok2 v1 v2 L Wx h1 h2).mono ?_
  rintro e w' ⟨rfl, hg⟩
  exact ⟨rfl, hb.trans (hg.below.mono hb.size)⟩

set_option maxHeartbeats 3200000 in
set_option maxRecDepth 20000 in
theorem FibChanges_walk (W : Int) (v1 : Value) (l : List (Int × Rl)) (v2 : Value) (m : List (Int × Rl)) (w : World) (h1 : RdsC (fun _ => True) w v1 l) (z1 : l.length * 64 ≤ 140737488351232) (h2 : RdsC (fun _ => True) w v2 m) (z2 : m.length * 64 ≤ 140737488351232) :
    Calls Try.prog 6 #[.int .i64 W, v1, v2] w fun e w' => e = .returned (.bool true) ∧ Below w.heap.size w w' := by
  have HAw : Hid (∀ Wx, Calls Try.prog 9 #[] Wx fun e w' => e = .returned (.bool true) ∧ Below Wx.heap.size Wx w') := fun Wx => awake_any Wx
  by_cases hW : W < 1 ∨ W > 128
  · have HM := Lib.hid (made_bad W v1 w hW)
    clear h1 h2 hW
    go_enter Try.func6, Try.ntmps6
    go_wp2_with fail
    refine HM.out.mono ?_
    rintro e w1 ⟨rfl, rfl⟩
    go_wp2_with fail
    refine (HAw.out _).mono ?_
    rintro e w2 ⟨rfl, hb⟩
    have HB := Lib.hid hb
    clear hb
    go_wp2_with fail
    go_ret
    exact ⟨rfl, HB.out⟩
  have HM := Lib.hid (made_ok W v1 l w (by omega) (by omega) h1 z1)
  have HC := Lib.hid h2.lt
  obtain ⟨L, hL⟩ : ∃ L, L = Fb.mkL W (l.take 100) := ⟨_, rfl⟩
  have HOk : Hid (Fb.Ok W L) := by rw [hL]; exact Fb.mkL_ok W _
  have HL := Lib.hid hL
  obtain ⟨S, hS⟩ : ∃ S, S = Fb.doL W L m 0 := ⟨_, rfl⟩
  have HS := Lib.hid hS
  clear h1 h2 hW hL hS
  go_enter Try.func6, Try.ntmps6
  go_wp2_with fail
  refine HM.out.mono ?_
  rintro e w1 ⟨hb1, tb, rb, v, vr, ht, hr, hne, rfl, hT, hR⟩
  rw [← HL.out] at hT hR
  have HB1 := Lib.hid hb1
  have HT1 := Lib.hid hT
  have HR1 := Lib.hid hR
  clear hb1 hT hR
  go_wp2_with fail
  refine (HAw.out _).mono ?_
  rintro e w2 ⟨rfl, hb2⟩
  have HB2 := Lib.hid hb2
  have HT2 := Lib.hid (HT1.out.below hb2)
  have HR2 := Lib.hid (HR1.out.below hb2)
  have c2 := HR2.out.c0
  have HRu := Lib.hid (rules_loose HT2.out HOk.out.few)
  have HSa := Lib.hid (same_loose (L := L) (w := w2))
  clear hb2
  go_upto_region 6 with fail
  go_region_with (first
    | (go_at_call 18; refine (HRu.out _ (by repeat (first | (with_reducible exact Below.refl _ _) | (with_reducible refine Below.drew ?_)))).mono ?_; rintro _ w3 ⟨ad3, n3, c3, rfl, hr3, hb3⟩; have c3' := ((HR2.out.below hb3).c0); have HR3 := Lib.hid hr3; have HB3 := Lib.hid hb3; clear hr3 hb3)
    | (go_at_call 17; refine (HSa.out _ _ _ _ _ HR3.out (HR2.out.below HB3.out).rd HB3.out).mono ?_; rintro _ w4 ⟨rfl, hb4⟩; have HB4 := Lib.hid hb4; clear hb4))
  all_goals
    have HT4 := Lib.hid (HT2.out.below HB4.out)
    have HR4 := Lib.hid (HR2.out.below HB4.out)
    have hB4 : Below w.heap.size w w4 := HB1.out.trans ((HB2.out.trans (HB4.out.mono HB2.out.size)).mono HB1.out.size)
    have HB04 := Lib.hid hB4
    have hl4 := hB4.size
    have htl : tb < w4.heap.size := HT4.out.lt
    have hrl : rb < w4.heap.size := HR4.out.lt
    have hd := do_tab HT4.out (HC.out.below hB4) z2 HOk.out
    rw [← HS.out] at hd
    have HD := Lib.hid hd
    clear hd hB4 c2 c3'
    go_wp2_with fail
    refine HD.out.mono ?_
    rintro e w5 ⟨rfl, ⟨v5, hT5⟩, hbt5⟩
    have HT5 := Lib.hid (hT5.new hl4 htl hrl (.inl rfl))
    have HR5 := Lib.hid (HR4.out.but hbt5 (fun e => hne e.symm) (fun b hb e => hb.2.1 e))
    have hs5 := hbt5.size
    have HBt5 := Lib.hid hbt5
    have hc5 := (HC.out.below HB04.out).but hbt5 (fun b hb e => by have := hb.2; omega)
    have hd := rDo_tab HR5.out hc5 z2 HOk.out
    rw [← HS.out] at hd
    have HD2 := Lib.hid hd
    clear hd hT5 hbt5 hc5
    go_wp2_with fail
    refine HD2.out.mono ?_
    rintro e w6 ⟨rfl, ⟨v6, hR6⟩, hbt6⟩
    have HR6 := Lib.hid (hR6.new (Nat.le_trans hl4 hs5) (Nat.lt_of_lt_of_le htl hs5) (Nat.lt_of_lt_of_le hrl hs5) (.inr rfl))
    have HT6 := Lib.hid (HT5.out.but hbt6 (fun e => hne e) (fun b hb e => hb.2.2 e))
    have hOk6 := HOk.out.end_ m
    have HB6 : Hid (Below w.heap.size w w6) := (HB04.out.trans (HBt5.out.toBelow hl4 (fun k hk => by omega))).trans (hbt6.toBelow (by omega) (fun k hk => by omega))
    have HRu6 := Lib.hid (rules_loose HT6.out hOk6.few)
    have HSa6 := Lib.hid (same_loose (L := Fb.endL W L m) (w := w6))
    have HLn : Hid (∀ Wx, Below w6.heap.size w6 Wx → Calls Try.prog 22 #[.pointer (some ⟨tb, 0, none⟩)] Wx fun e w' => e = .returned (.int .i64 (Fb.endL W L m).length) ∧ Wx = w') := fun Wx hWx => len_tab (HT6.out.below hWx)
    have HWd : Hid (∀ Wx, Below w6.heap.size w6 Wx → Calls Try.prog 23 #[.pointer (some ⟨tb, 0, none⟩)] Wx fun e w' => e = .returned (.int .i64 W) ∧ Wx = w') := fun Wx hWx => width_tab (HT6.out.below hWx)
    obtain ⟨n6, hn6⟩ : ∃ n6, n6 = (Fb.endL W L m).length := ⟨_, rfl⟩
    rw [← hn6] at HLn
    obtain ⟨ad6, cp6, rfl, _, _⟩ := HR6.out.rd.form
    rw [← hn6] at HR6
    have c6 := HR6.out.c0
    clear hR6 hbt6 hOk6 hn6
    go_upto_region 10 with fail
    go_region_held3 (fun w' => w'.cell? ⟨rb, 1, none⟩ = some (.slice ad6 n6 cp6)) (first | assumption | go_keep) (first
      | (go_at_call 18; refine (HRu6.out _ (by repeat (first | (with_reducible exact Below.refl _ _) | (with_reducible refine Below.drew ?_)))).mono ?_; rintro _ w7 ⟨ad7, n7, c7, rfl, hr7, hb7⟩; have c7' := ((HR6.out.below hb7).c0); have HR7 := Lib.hid hr7; have HB7 := Lib.hid hb7; clear hr7 hb7)
      | (go_at_call 17; refine (HSa6.out _ _ _ _ _ HR7.out (HR6.out.below HB7.out).rd HB7.out).mono ?_; rintro _ w8 ⟨rfl, hb8⟩; have HB8 := Lib.hid hb8; have c8 := ((HR6.out.below hb8).c0); clear hb8)
      | (go_at_call 22; refine (HLn.out _ HB8.out).mono ?_; rintro _ w9 ⟨rfl, rfl⟩)
      | (go_at_call 23; refine (HWd.out _ HB8.out).mono ?_; rintro _ w9 ⟨rfl, rfl⟩))
    all_goals
      go_wp2_with fail
      go_ret
      exact ⟨rfl, HB6.out.trans (HB8.out.mono HB6.out.size)⟩
end Go.Proofs.Ytlamhpiiikcpiaa
/-
  Slices of rules that came in read as rules, and are no longer than their weights allow.
-/
namespace Go.Proofs.Ytlamhpiiikcpiaa
open Go.ChangeShapes Go.WideShapes Go.RowKit Go.Deep

section
variable {H : Type} {P : Program}
theorem w_all {e : TypeId} : ∀ {l : List (DataW H)} {d : DataW H}, d ∈ l → ∀ n ∈ d.weights P e, n ∈ DataW.weightsAll P e l
  | x :: l, d, hd, n, hn => by
    rcases List.mem_cons.1 hd with rfl | hd
    · simp only [DataW.weightsAll, List.mem_append]; exact .inl hn
    · simp only [DataW.weightsAll, List.mem_append]; exact .inr (w_all hd n hn)
theorem w_elem {t e : TypeId} (hu : P.underlying t = some (.slice e)) {el sp : List (DataW H)} {d : DataW H} (hd : d ∈ el) : ∀ n ∈ d.weights P e, n ∈ (DataW.slice el sp).weights P t := by
  intro n hn
  simp only [DataW.weights, hu, List.mem_cons, List.mem_append]
  exact .inr (.inl (w_all hd n hn))
theorem w_len {t e : TypeId} (hu : P.underlying t = some (.slice e)) {el sp : List (DataW H)} : (el.length + sp.length) * P.bytesOf e ∈ (DataW.slice el sp).weights P t := by
  simp only [DataW.weights, hu, List.mem_cons]
  exact .inl trivial
theorem w_field {t : TypeId} {fs : Array Field} (hu : P.underlying t = some (.struct fs)) {parts : List (DataW H)} {j : Nat} {e : TypeId} {d : DataW H} (hf : (fs.toList.map (·.type))[j]? = some e) (hd : parts[j]? = some d) : ∀ n ∈ d.weights P e, n ∈ (DataW.agg parts).weights P t := by
  intro n hn
  simp only [DataW.weights, hu]
  exact DataW.weights_mem_each hf hd n hn
theorem w_string {t : TypeId} {bytes : List UInt8} : bytes.length ∈ (DataW.lit (.string bytes) : DataW H).weights P t := by simp [DataW.weights]
end

theorem spot_none {W : World} {x : Addr} {v : Value} (h : W.cell? x = some v) : x.spot = none := by
  cases hs : x.spot with
  | none => rfl
  | some n =>
    unfold World.cell? at h
    split at h
    · rw [hs] at h; simp at h
    · cases h

theorem reach_is : reachBytes = 140737488351232 := by decide

/-- A slice of strings inside of what came in. -/
theorem strs_in {H : Type} {enc : TypeId × Value → H} {P : Program} {W : World} {base : Nat} {spare : Nat → Bool} {held : Bool} {t e : TypeId} {v : Value} {d : DataW H} {ps : List MemPlace} {fuel : Nat}
    (hu : P.underlying t = some (.slice e)) (he : P.underlying e = some .string) (hc : P.cellsOf e = 1) (hB : P.bytesOf e = 16) (hw : ∀ n ∈ d.weights P t, n ≤ reachBytes)
    (h : DataW.trod enc P W base spare held fuel t [v] = some (d, ps)) : ∃ ad n c ss, v = .slice ad n c ∧ RdsS W v ss ∧ (∀ s ∈ ss, s.size ≤ 140737488351232) ∧ ss.length * 16 ≤ 140737488351232 := by
  rw [reach_is] at hw
  rcases open_strings hu he hc h with ⟨hcs, _⟩ | ⟨x, l, c, ss, hcs, _, hl, hm, hz, hx, hcell, hws⟩
  · simp at hcs
    subst hcs
    exact ⟨none, 0, 0, [], rfl, rdsS_nil W, by simp, by simp⟩
  · simp at hcs
    subst hcs
    obtain ⟨hx, _⟩ := Prod.mk.inj hx
    subst hx
    have z := hw _ (w_len hu)
    rw [hB] at z
    have hl2 : l ≤ ss.length := by
      rw [hz]
      split
      · exact hl
      · exact Nat.le_refl _
    have h1 : (strs (H := H) (ss.take l)).length + (strs (H := H) (ss.drop l)).length = ss.length := by
      simp [strs]
      omega
    rw [h1] at z
    have htl : (ss.take l).length = l := by simp; omega
    refine ⟨some x, l, c, ss.take l, rfl, ?_, fun s hs => ?_, by rw [htl]; omega⟩
    · rcases Nat.eq_zero_or_pos l with h0 | h0
      · subst h0
        simp only [List.take_zero]
        exact rdsS_empty W x c
      · have hc0 := hcell 0 (by omega)
        have hx0 : x.add 0 = x := by unfold Addr.add; rw [if_pos rfl]
        rw [hx0] at hc0
        have hsp := spot_none hc0
        obtain ⟨b, off, sp⟩ := x
        simp only at hsp
        subst hsp
        have hlt := World.block_lt_of_cell? W _ hc0
        have hadd : ∀ i, (⟨b, off, none⟩ : Addr).add i = ⟨b, off + i, none⟩ := fun i => by unfold Addr.add; split <;> simp_all
        have := rdsS_mk (w := W) (ss := ss.take l) (b := b) (off := off) (cap := c) (by omega) hm hlt (fun i hi => by
          have hi' : i < l := by omega
          have := hcell i (by omega)
          rw [hadd] at this
          rw [this, List.getD_eq_getElem?_getD, List.getElem?_eq_getElem (show i < ss.length by omega)]
          simp)
        rw [htl] at this
        exact this
    · have hm2 : (DataW.lit (.string s.data.toList) : DataW H) ∈ strs (H := H) (ss.take l) := by
        unfold strs
        exact List.mem_map.2 ⟨s, hs, rfl⟩
      have := hw _ (w_elem hu hm2 _ w_string)
      simpa using this

theorem list4 : ∀ {l : List Value}, l.length = 4 → ∃ a b c d, l = [a, b, c, d]
  | [a, b, c, d], _ => ⟨a, b, c, d, rfl⟩
theorem list5 : ∀ {l : List Value}, l.length = 5 → ∃ a b c d e, l = [a, b, c, d, e]
  | [a, b, c, d, e], _ => ⟨a, b, c, d, e, rfl⟩

/-- A rule inside of what came in. -/
theorem rule_in {H : Type} {enc : TypeId × Value → H} {W : World} {base : Nat} {spare : Nat → Bool} {held : Bool} {cs : List Value} {d : DataW H} {ps : List MemPlace} {fuel : Nat} (hw : ∀ n ∈ d.weights Try.prog 33, n ≤ reachBytes)
    (h : DataW.trod enc Try.prog W base spare held fuel 33 cs = some (d, ps)) : ∃ (x : RC) (r : Rl), cs = encR x ∧ RdC (fun _ => True) W x r := by
  have he := Try.underlying33
  obtain ⟨y0, y1, y2, n, hx, hl, h0, h1, h2⟩ := trod_struct3 he h
  have hC : Try.prog.cellsOf 33 = 4 := by kernel_rfl
  have hl4 : cs.length = 4 := hl.trans hC
  clear hl
  obtain ⟨c0, c1, c2, c3, rfl⟩ := list4 hl4
  · clear hl4
    have k0 : Try.prog.cellsOf 3 = 1 := by kernel_rfl
    have k1 : Try.prog.cellsOf 9 = 1 := by kernel_rfl
    have k2 : Try.prog.cellsOf 31 = 2 := by kernel_rfl
    simp only [k0, k1, k2, List.drop_zero, List.take_succ_cons, List.take_zero, List.drop_succ_cons] at h0 h1 h2
    obtain ⟨hd, _⟩ := Prod.mk.inj hx
    subst hd
    have ha := Try.underlying31
    obtain ⟨z0, z1, n2, hx2, _, g0, g1⟩ := trod_struct2 ha h2
    have k3 : Try.prog.cellsOf 29 = 1 := by kernel_rfl
    have k4 : Try.prog.cellsOf 23 = 1 := by kernel_rfl
    simp only [k3, k4, List.drop_zero, List.take_succ_cons, List.take_zero, List.drop_succ_cons] at g0 g1
    obtain ⟨p, e0, _⟩ := DataW.trod_int Try.underlying3 h0
    obtain ⟨m, e1, q1⟩ := DataW.trod_string Try.underlying9 h1
    obtain ⟨k, e2, _⟩ := DataW.trod_int Try.underlying29 g0
    have w1 : ∀ n ∈ y1.1.weights Try.prog 9, n ≤ reachBytes := fun n hn => hw n (w_field he (j := 1) rfl rfl n hn)
    have w2 : ∀ n ∈ y2.1.weights Try.prog 31, n ≤ reachBytes := fun n hn => hw n (w_field he (j := 2) rfl rfl n hn)
    rw [hx2] at w2
    have w3 : ∀ n ∈ z1.1.weights Try.prog 23, n ≤ reachBytes := fun n hn => w2 n (w_field ha (j := 1) rfl rfl n hn)
    obtain ⟨ad, l, c, ss, e3, hr, hs, hn⟩ := strs_in Try.underlying23 Try.underlying9 (by kernel_rfl) (by kernel_rfl) w3 g1
    simp only [List.cons.injEq, and_true] at e0 e1 e2
    subst e0 e1 e2 e3
    rw [q1.1] at w1
    have hm := w1 _ w_string
    rw [Array.length_toList, reach_is] at hm
    exact ⟨⟨p, m, k, ad, l, c⟩, ⟨p, m, k, ss⟩, rfl, ⟨rfl, rfl, rfl, ⟨hr, fun _ _ _ _ _ => trivial⟩, ⟨hm, hn, hs⟩⟩⟩

theorem encR_inj {x y : RC} (h : encR x = encR y) : x = y := by
  cases x; cases y
  simp only [encR, List.cons.injEq, Value.int.injEq, Value.string.injEq, Value.slice.injEq, true_and, and_true] at h
  obtain ⟨h1, h2, h3, h4, h5, h6⟩ := h
  subst h1 h2 h3 h4 h5 h6
  rfl

theorem rules_of {H : Type} {enc : TypeId × Value → H} {W : World} {base : Nat} {spare : Nat → Bool} {held : Bool} {t : TypeId} {a : Option Addr} {len cap : Nat} {d : DataW H} {ps : List MemPlace} (ht : Try.prog.underlying t = some (.slice 33)) (hw : ∀ n ∈ d.weights Try.prog t, n ≤ reachBytes)
    (h : DataW.Trod enc Try.prog W base spare held t (.slice a len cap) d ps) : ∃ L : List Rl, RdsR (fun _ => True) W (.slice a len cap) L ∧ L.length * 56 ≤ 140737488351232 := by
  obtain ⟨fuel, hf⟩ := h
  rcases open_slice ht hf with ⟨hcs, _⟩ | ⟨x, l, c, m, n, D, Pl, hcs, _, hl, hm, hmm, hx, hel⟩
  · simp [Value.cells] at hcs
    obtain ⟨rfl, rfl, rfl⟩ := hcs
    exact ⟨[], rdsR_nil _ W, by simp⟩
  · simp [Value.cells] at hcs
    obtain ⟨rfl, rfl, rfl⟩ := hcs
    obtain ⟨hx, _⟩ := Prod.mk.inj hx
    subst hx
    have hlm : len ≤ m := by rw [hmm]; split <;> omega
    have z := hw _ (w_len ht)
    rw [show Try.prog.bytesOf 33 = 56 by kernel_rfl, reach_is] at z
    simp only [List.length_map, List.length_range] at z
    have hC : Try.prog.cellsOf 33 = 4 := by kernel_rfl
    rw [hC] at hel
    have each : ∀ i, i < len → ∃ q : RC × Rl, RdC (fun _ => True) W q.1 q.2 ∧ W.cell? (x.add (i * 4)) = some (.int .i64 q.1.p) ∧ W.cell? (x.add (i * 4 + 1)) = some (.string q.1.m) ∧ W.cell? (x.add (i * 4 + 2)) = some (.int .i64 q.1.k) ∧ W.cell? (x.add (i * 4 + 3)) = some (.slice q.1.a q.1.n q.1.c) := by
      intro i hi
      obtain ⟨cs', h1, h2⟩ := hel i (by omega)
      obtain ⟨y, r, rfl, hr⟩ := rule_in (fun n hn => hw n (w_elem ht (List.mem_map.2 ⟨i, List.mem_range.2 hi, rfl⟩) n hn)) h2
      obtain ⟨_, _, hcell⟩ := World.cells?_some h1
      have g0 := hcell 0 (by decide)
      have g1 := hcell 1 (by decide)
      have g2 := hcell 2 (by decide)
      have g3 := hcell 3 (by decide)
      rw [add_add] at g0 g1 g2 g3
      exact ⟨(y, r), hr, by simpa [encR] using g0, by simpa [encR] using g1, by simpa [encR] using g2, by simpa [encR] using g3⟩
    obtain ⟨q, hq⟩ := choose_lt each
    refine ⟨(List.range len).map fun i => (q i).2, ⟨(List.range len).map fun i => (q i).1, some x, len, cap, rfl, by simp, by simp, ⟨by omega, fun h => by cases h⟩, by omega, fun _ _ _ _ _ => trivial, fun i hi => ?_, fun i hi hi' => ?_⟩, ?_⟩
    · have hi' : i < len := by simpa using hi
      obtain ⟨_, c0, c1, c2, c3⟩ := hq i hi'
      have hc0 := (hq 0 (by omega)).2.1
      have hx0 : x.add (0 * 4) = x := by rw [Nat.zero_mul]; unfold Addr.add; rw [if_pos rfl]
      rw [hx0] at hc0
      have hsp := spot_none hc0
      obtain ⟨b, off, sp⟩ := x
      simp only at hsp
      subst hsp
      have hadd : ∀ i, (⟨b, off, none⟩ : Addr).add i = ⟨b, off + i, none⟩ := fun i => by unfold Addr.add; split <;> simp_all
      have hlt := World.block_lt_of_cell? W _ hc0
      rw [hadd] at c0 c1 c2 c3
      exact ⟨b, off, rfl, hlt, by simpa using c0, by simpa [Nat.add_assoc] using c1, by simpa [Nat.add_assoc] using c2, by simpa [Nat.add_assoc] using c3⟩
    · have hi' : i < len := by simpa using hi
      simpa using (hq i hi').1
    · rw [List.length_map, List.length_range]
      omega
end Go.Proofs.Ytlamhpiiikcpiaa
/-
  A slice of changes that came in reads as changes, and is no longer than its weight allows.
-/
namespace Go.Proofs.Ytlamhpiiikcpiaa
open Go.ChangeShapes Go.WideShapes Go.RowKit Go.Deep

theorem changes_of {H : Type} {enc : TypeId × Value → H} {W : World} {base : Nat} {spare : Nat → Bool} {held : Bool} {t : TypeId} {a : Option Addr} {len cap : Nat} {d : DataW H} {ps : List MemPlace} (ht : Try.prog.underlying t = some (.slice 51)) (hw : ∀ n ∈ d.weights Try.prog t, n ≤ reachBytes)
    (h : DataW.Trod enc Try.prog W base spare held t (.slice a len cap) d ps) : ∃ L : List (Int × Rl), RdsC (fun _ => True) W (.slice a len cap) L ∧ L.length * 64 ≤ 140737488351232 := by
  obtain ⟨fuel, hf⟩ := h
  rcases open_slice ht hf with ⟨hcs, _⟩ | ⟨x, l, c, m, n, D, Pl, hcs, _, hl, hm, hmm, hx, hel⟩
  · simp [Value.cells] at hcs
    obtain ⟨rfl, rfl, rfl⟩ := hcs
    exact ⟨[], rdsC_nil _ W, by simp⟩
  · simp [Value.cells] at hcs
    obtain ⟨rfl, rfl, rfl⟩ := hcs
    obtain ⟨hx, _⟩ := Prod.mk.inj hx
    subst hx
    have hlm : len ≤ m := by rw [hmm]; split <;> omega
    have z := hw _ (w_len ht)
    rw [show Try.prog.bytesOf 51 = 64 by kernel_rfl, reach_is] at z
    simp only [List.length_map, List.length_range] at z
    have hC : Try.prog.cellsOf 51 = 5 := by kernel_rfl
    rw [hC] at hel
    have each : ∀ i, i < len → ∃ q : Int × RC × Rl, RdC (fun _ => True) W q.2.1 q.2.2 ∧ W.cell? (x.add (i * 5)) = some (.int .i64 q.1) ∧ W.cell? (x.add (i * 5 + 1)) = some (.int .i64 q.2.1.p) ∧ W.cell? (x.add (i * 5 + 2)) = some (.string q.2.1.m) ∧ W.cell? (x.add (i * 5 + 3)) = some (.int .i64 q.2.1.k) ∧ W.cell? (x.add (i * 5 + 4)) = some (.slice q.2.1.a q.2.1.n q.2.1.c) := by
      intro i hi
      obtain ⟨cs', h1, h2⟩ := hel i (by omega)
      have he := Try.underlying51
      have hwi : ∀ n ∈ (D i).weights Try.prog 51, n ≤ reachBytes := fun n hn => hw n (w_elem ht (List.mem_map.2 ⟨i, List.mem_range.2 hi, rfl⟩) n hn)
      obtain ⟨y0, y1, n2, hx, hlc, h3, h4⟩ := trod_struct2 he h2
      obtain ⟨_, _, hcell⟩ := World.cells?_some h1
      have hl5 : cs'.length = 5 := hlc.trans hC
      clear hlc
      obtain ⟨c0, c1, c2, c3, c4, rfl⟩ := list5 hl5
      · clear hl5
        have k0 : Try.prog.cellsOf 49 = 1 := by kernel_rfl
        have k1 : Try.prog.cellsOf 33 = 4 := by kernel_rfl
        simp only [k0, k1, List.drop_zero, List.take_succ_cons, List.take_zero, List.drop_succ_cons] at h3 h4
        obtain ⟨k, e0, _⟩ := DataW.trod_int Try.underlying49 h3
        have hd := (Prod.mk.inj hx).1
        rw [hd] at hwi
        obtain ⟨y, r, e1, hr⟩ := rule_in (fun n hn => hwi n (w_field he (j := 1) rfl rfl n hn)) h4
        simp only [encR, List.cons.injEq, and_true] at e0 e1
        obtain ⟨rfl, rfl, rfl, rfl⟩ := e1
        subst e0
        have g0 := hcell 0 (by decide)
        have g1 := hcell 1 (by decide)
        have g2 := hcell 2 (by decide)
        have g3 := hcell 3 (by decide)
        have g4 := hcell 4 (by decide)
        rw [add_add] at g0 g1 g2 g3 g4
        exact ⟨(k, y, r), hr, by simpa using g0, by simpa using g1, by simpa using g2, by simpa using g3, by simpa using g4⟩
    obtain ⟨q, hq⟩ := choose_lt each
    refine ⟨(List.range len).map fun i => ((q i).1, (q i).2.2), ⟨(List.range len).map fun i => ((q i).1, (q i).2.1), some x, len, cap, rfl, by simp, by simp, ⟨by omega, fun h => by cases h⟩, by omega, fun _ _ _ _ _ => trivial, fun i hi => ?_, fun i hi hi' => ?_⟩, ?_⟩
    · have hi' : i < len := by simpa using hi
      obtain ⟨_, c0, c1, c2, c3, c4⟩ := hq i hi'
      have hc0 := (hq 0 (by omega)).2.1
      have hx0 : x.add (0 * 5) = x := by rw [Nat.zero_mul]; unfold Addr.add; rw [if_pos rfl]
      rw [hx0] at hc0
      have hsp := spot_none hc0
      obtain ⟨b, off, sp⟩ := x
      simp only at hsp
      subst hsp
      have hadd : ∀ i, (⟨b, off, none⟩ : Addr).add i = ⟨b, off + i, none⟩ := fun i => by unfold Addr.add; split <;> simp_all
      have hlt := World.block_lt_of_cell? W _ hc0
      rw [hadd] at c0 c1 c2 c3 c4
      exact ⟨b, off, rfl, hlt, by simpa using c0, by simpa [Nat.add_assoc] using c1, by simpa [Nat.add_assoc] using c2, by simpa [Nat.add_assoc] using c3, by simpa [Nat.add_assoc] using c4⟩
    · have hi' : i < len := by simpa using hi
      exact ⟨by simp, by simpa using (hq i hi').1⟩
    · rw [List.length_map, List.length_range]
      omega
end Go.Proofs.Ytlamhpiiikcpiaa
/-
  Walks: Dead of the code's table.
-/
namespace Go.Proofs.Ytlamhpiiikcpiaa
open Go.RowKit Go.Shelf Go.Lib Go.Sort
set_option linter.unusedVariables false
set_option linter.unusedSectionVars false
set_option linter.unusedSimpArgs false

namespace Fb
theorem deadL_step (ahead : List ByteArray) {L : List Rl} {i : Nat} (h : i < L.length) : deadL ahead (L.drop i) = if (leftR ahead L[i]).2 = 0 then (deadL (ahead ++ [L[i].m]) (L.drop (i + 1))).map fun t => if (leftR ahead L[i]).1.length = 0 then L[i] :: t else t else none := by
  rw [List.drop_eq_getElem_cons h]
  rfl
theorem deadL_end (ahead : List ByteArray) {L : List Rl} : deadL ahead (L.drop L.length) = some [] := by
  rw [List.drop_length]
  rfl
theorem map_snoc {o : Option (List Rl)} {D : List Rl} (r : Rl) (c : Prop) [Decidable c] : (o.map fun t => if c then r :: t else t).map (D ++ ·) = o.map fun t => (if c then D ++ [r] else D) ++ t := by
  cases o with
  | none => rfl
  | some t => by_cases h : c <;> simp [h]
end Fb

theorem ownsRow_keep {w w' : World} {b : Nat} {e : TypeId} {size : Nat} {v : Value} {n : Nat} {xs : List Value} (h : w.ownsRow b e size v n xs) (hk : ∀ g, v.ownBlock = some g → w'.heap[g]? = w.heap[g]?) : w'.ownsRow b e size v n xs := by
  obtain ⟨h1, h2⟩ := h
  refine ⟨h1, ?_⟩
  rcases h2 with h2 | ⟨g, cap, cur, hv, hg, hh, r⟩
  · exact .inl h2
  · refine .inr ⟨g, cap, cur, hv, hg, ?_, r⟩
    rw [hk g (by rw [hv]; rfl)]
    exact hh
theorem OwnR.keep {ok : Nat → Prop} {w w' : World} {base : Nat} {v : Value} {xs : List RC} {L : List Rl} (h : OwnR ok w base v xs L) (hk : ∀ g, v.ownBlock = some g → w'.heap[g]? = w.heap[g]?) (hr : ∀ (x : RC) (r : Rl), RdC ok w x r → RdC ok w' x r) : OwnR ok w' base v xs L :=
  ⟨ownsRow_keep h.row hk, h.len, fun i h1 h2 => hr _ _ (h.rd i h1 h2)⟩

/-- append of one rule, told by its cells; where the new row lies. -/
theorem wp_app_oneQ {w : World} {o : Oper} {a : Act} {K : Act → World → Prop} {Q : Exit → Act → World → Prop} (P : Nat → Prop) (s x : Operand)
    (ho : o.op = .call { callee := .builtin .append, args := #[s, x], argTypes := #[45, 45] })
    (base : Nat) (v : Value) (xs : List RC) (L : List Rl) (hs : a.eval s = v) (h1 : OwnR (okP P v) w base v xs L)
    (g0 c : Nat) (y : RC) (r : Rl) (hx : a.eval x = .slice (some ⟨g0, 0, none⟩) 1 c) (hyc : w.heap[g0]? = some (.cells #[.int .i64 y.p, .string y.m, .int .i64 y.k, .slice y.a y.n y.c] 33 (0, 0)))
    (hyr : RdC (okP P v) w y r) (tot : Nat) (htot : L.length + 1 = tot) (hbytes : tot * 56 ≤ 140737488355328) (hbase : base ≤ w.heap.size)
    (h : ∀ g cap w', OwnR (okP P (.slice (some ⟨g, 0, none⟩) tot cap)) w' base (.slice (some ⟨g, 0, none⟩) tot cap) (xs ++ [y]) (L ++ [r]) → w.grownBy w' v.ownBlock → (v.ownBlock = some g ∨ w.heap.size ≤ g) → K (a.put o.dst (.slice (some ⟨g, 0, none⟩) tot cap)) w') : o.wp Try.prog a w K Q := by
  subst htot
  obtain ⟨i0, hi, hz0, hz1, hz2⟩ := info_parts infoR
  refine wp_append_lies w s x 45 ho base 33 i0 _ 4 56 Try.underlying45 hi hz0 hz1 hz2 rfl (by decide) v L.length (cellsR xs) hs h1.row ⟨g0, 0, none⟩ 1 c (cellsR [y]) hx rfl (one_cells hyc _ rfl) (cellsR_one _)
    (by omega) (by unfold maxLen; omega) hbytes hbase w.heap.size rfl fun g cap w' hown hg hgg hlt => h g cap w' ?_ hg (hgg.imp id (fun e => Nat.le_of_eq e.symm))
  have hbut : But (fun b => v.ownBlock = some b) w w' := ⟨hg.os, hg.tape, hg.output, hg.size, fun k hk hn => hg.block k hk (fun e => hn e.symm)⟩
  have key : ∀ {y' : RC} {r' : Rl}, RdC (okP P v) w y' r' → RdC (okP P (.slice (some ⟨g, 0, none⟩) (L.length + 1) cap)) w' y' r' := fun hy => by
    refine (hy.lt.but hbut (fun b hb e => hb.1.2 e)).mono (fun b hb => ⟨hb.1.1, fun e => ?_⟩)
    have e2 : g = b := Option.some.inj e
    rcases hgg with h3 | h3
    · exact hb.1.2 (by rw [h3, e2])
    · have := hb.2; omega
  refine ⟨?_, ?_, ?_⟩
  · rw [cellsR_append, List.length_append]; exact hown
  · rw [List.length_append, List.length_append, h1.len]; rfl
  · intro i h3 h4
    by_cases hlt2 : i < xs.length
    · rw [List.getElem_append_left hlt2, List.getElem_append_left (by rw [← h1.len]; exact hlt2)]
      exact key (h1.rd i hlt2 (by rw [← h1.len]; exact hlt2))
    · have e1 : i = xs.length := by simp at h3; omega
      subst e1
      have e2 : (xs ++ [y])[xs.length]'h3 = y := by simp
      have e3 : (L ++ [r])[xs.length]'h4 = r := by simp only [h1.len]; simp
      rw [e2, e3]
      exact key hyr

/-- append of one string, told by its cell; where the new row lies. -/
theorem wp_app_strQ {w : World} {o : Oper} {a : Act} {K : Act → World → Prop} {Q : Exit → Act → World → Prop} (s x : Operand)
    (ho : o.op = .call { callee := .builtin .append, args := #[s, x], argTypes := #[23, 23] })
    (base : Nat) (v : Value) (n : Nat) (xs : List Value) (hs : a.eval s = v) (h1 : w.ownsRow base 9 1 v n xs)
    (g0 c : Nat) (y : ByteArray) (hx : a.eval x = .slice (some ⟨g0, 0, none⟩) 1 c) (hyc : w.heap[g0]? = some (.cells #[.string y] 9 (0, 0)))
    (tot : Nat) (htot : n + 1 = tot) (hbytes : tot * 16 ≤ 140737488355328) (hbase : base ≤ w.heap.size)
    (h : ∀ g cap w', w'.ownsRow base 9 1 (.slice (some ⟨g, 0, none⟩) tot cap) tot (xs ++ [.string y]) → w.grownBy w' v.ownBlock → (v.ownBlock = some g ∨ w.heap.size ≤ g) → K (a.put o.dst (.slice (some ⟨g, 0, none⟩) tot cap)) w') : o.wp Try.prog a w K Q := by
  subst htot
  obtain ⟨i0, hi, hz0, hz1, hz2⟩ := info_parts infoS
  refine wp_append_lies w s x 23 ho base 9 i0 _ 1 16 Try.underlying23 hi hz0 hz1 hz2 rfl (by decide) v n xs hs h1 ⟨g0, 0, none⟩ 1 c [.string y] hx rfl (fun j u hj => ?_) (fun u hu => by simp at hu; subst hu; rfl)
    (by omega) (by unfold maxLen; omega) hbytes hbase w.heap.size rfl fun g cap w' hown hg hgg hlt => h g cap w' hown hg (hgg.imp id (fun e => Nat.le_of_eq e.symm))
  rw [Addr.add_lit, Nat.zero_add]
  match j, hj with
  | 0, hj => simp at hj; subst hj; simp [World.cell?, hyc]

/-- What Dead comes to. -/
def DeadPost (P : Nat → Prop) (L : List Rl) (w : World) (e : Ending) (w' : World) : Prop :=
  Below w.heap.size w w' ∧ ((∃ (D : List Rl) (ad : Option Addr) (n c : Nat), Fb.deadL [] L = some D ∧ e = .returned (.tuple #[.slice ad n c, .int .i64 0]) ∧ RdsR P w' (.slice ad n c) D) ∨ (Fb.deadL [] L = none ∧ e = .returned (.tuple #[.slice none 0 0, .int .i64 3])))

theorem one_str {W : World} {g : Nat} {s : ByteArray} {e : TypeId} (h : W.heap[g]? = some (.cells #[.string s] e (0, 0))) : RdsS W (.slice (some ⟨g, 0, none⟩) 1 1) [s] := by
  have hlt : g < W.heap.size := by
    rcases Nat.lt_or_ge g W.heap.size with h' | h'
    · exact h'
    · rw [Array.getElem?_eq_none h'] at h; cases h
  refine rdsS_mk (ss := [s]) (by simp) (by unfold maxLen; simp) hlt ?_
  intro i hi
  match i, hi with
  | 0, _ => simp [World.cell?, h]

set_option maxHeartbeats 3200000 in
set_option maxRecDepth 20000 in
theorem dead_tab {ok : Nat → Prop} {w : World} {tb : Nat} {v : Value} {L : List Rl} {W : Int} (h : Tab 0 1 ok w tb v L W) (hL : Fb.Ok W L) :
    Calls Try.prog 24 #[.pointer (some ⟨tb, 0, none⟩)] w (DeadPost (fun b => w.heap.size ≤ b) L w) := by
  obtain ⟨i0, hi, hz0, hz1, hz2⟩ := info_parts infoS
  have HI := Lib.hid (is_tab h)
  have HR := Lib.hid h.rd.lt
  have c0 := h.c0
  obtain ⟨n, hn⟩ : ∃ n, n = L.length := ⟨_, rfl⟩
  have HN := Lib.hid hn
  have hn4 : n ≤ 4096 := by rw [hn]; exact hL.few
  obtain ⟨adv, capv, rfl, hvc, hvm⟩ := h.rd.form
  rw [← hn] at HR hvc c0
  unfold maxLen at hvm
  have HChk := Lib.hid hL.chk
  clear h hL hn
  go_enter Try.func24, Try.ntmps24
  go_wp2_with fail
  refine HI.out.mono ?_
  rintro e w1 ⟨rfl, rfl⟩
  go_wp2_with fail
  clear c0
  go_loopw [4, 5, 19] (fun s4 s5 s19 wr => ∃ (i : Nat) (ad : Option Addr) (c : Nat) (xs : List RC) (D : List Rl) (aa : Option Addr) (ac k : Nat), s19 = .int .i64 i ∧ s4 = .slice ad k c ∧ s5 = .slice aa i ac ∧ i ≤ n ∧ k ≤ i ∧ Hid (D.length = k) ∧
    Hid (OwnR (okP (fun b => ok b ∧ b < w.heap.size) (.slice ad k c)) wr w.heap.size (.slice ad k c) xs D) ∧ Hid (wr.ownsRow w.heap.size 9 1 (.slice aa i ac) i (((L.take i).map (·.m)).map Value.string)) ∧ Hid (∀ g, (Value.slice ad k c).ownBlock = some g → (Value.slice aa i ac).ownBlock ≠ some g) ∧ Hid (Fb.deadL [] L = (Fb.deadL ((L.take i).map (·.m)) (L.drop i)).map (D ++ ·)) ∧ Hid (Below w.heap.size w wr)) (fun _ _ s19 _ => n - (intOf s19).toNat)
  case atStart => exact ⟨0, none, 0, [], [], none, 0, 0, rfl, rfl, rfl, Nat.zero_le _, Nat.le_refl _, rfl, ownR_nil _ _ _, World.ownsRow_nil _ _ _ _, (fun g h => by simp [Value.ownBlock] at h), by show _ = _; simp, Below.refl _ _⟩
  case round =>
    obtain ⟨wo, rfl⟩ : ∃ wo : World, wo = wr := ⟨wr, rfl⟩
    obtain ⟨i, ad, c, xs, D, aa, ac, k, rfl, rfl, rfl, hin, hki, HDl, HO, HA, HDj, HDe, HB⟩ := hrel
    by_cases hlt : i < n
    · have hiL : i < L.length := by rw [← HN.out]; exact hlt
      obtain ⟨b, off, x, rfl, hb, _, x0, x1, x2, x3, hx⟩ := HR.out.get i hiL
      have X0 := (HB.out.cell (p := ⟨b, off + i * 4, none⟩) hb).trans x0
      have X1 := (HB.out.cell (p := ⟨b, off + i * 4 + 1, none⟩) hb).trans x1
      have X2 := (HB.out.cell (p := ⟨b, off + i * 4 + 2, none⟩) hb).trans x2
      have X3 := (HB.out.cell (p := ⟨b, off + i * 4 + 3, none⟩) hb).trans x3
      obtain ⟨W3, hW3⟩ : ∃ W3, W3 = wo.alloc (.cells #[.int .i64 x.p, .string x.m, .int .i64 x.k, .slice x.a x.n x.c] 33) := ⟨_, rfl⟩
      have hb3 : Below wo.heap.size wo W3 := by rw [hW3]; exact (Below.refl _ _).alloc (Nat.le_refl _) _
      have hs3 : W3.heap.size = wo.heap.size + 1 := by rw [hW3]; simp
      have hh3 : W3.heap[wo.heap.size]? = some (.cells #[.int .i64 x.p, .string x.m, .int .i64 x.k, .slice x.a x.n x.c] 33 (0, 0)) := by rw [hW3]; exact heap_alloc_new _ _
      have q1 : W3.cell? ⟨wo.heap.size, 1, none⟩ = some (.string x.m) := by simp [World.cell?, hh3]
      obtain ⟨S, hS⟩ : ∃ S, S = Fb.leftR ((L.take i).map (·.m)) L[i] := ⟨_, rfl⟩
      have hall : ∀ r ∈ L.take i, Rp.checkR r W = 0 := fun r hr => HChk.out r (List.mem_of_mem_take hr)
      have hse := Fb.leftR_err (HChk.out _ (List.getElem_mem hiL)) hall
      rw [← hS] at hse
      have hSt := Fb.deadL_step ((L.take i).map (·.m)) hiL
      rw [← hS] at hSt
      have hlm : (L.take (i + 1)).map (·.m) = (L.take i).map (·.m) ++ [L[i].m] := by rw [List.take_succ_eq_append_getElem hiL, List.map_append]; rfl
      rw [← hlm] at hSt
      have hsz : ∀ s ∈ (L.take i).map (·.m), s.size ≤ maxLen := fun s hs => by
        obtain ⟨r, hr, rfl⟩ := List.mem_map.1 hs
        have := (Fb.chk_cube (hall r hr)).2
        unfold maxLen; omega
      have hxs : x.m.size ≤ maxLen := by rw [hx.m]; have := hx.z.m; unfold maxLen; omega
      have hA3 := ownsRow_below HA.out hb3
      have hrs : RdsS W3 (.slice aa i ac) ((L.take i).map (·.m)) := ownsRow_rds hA3
      have HLe := Lib.hid (Left_any x.m (.slice aa i ac) ((L.take i).map (·.m)) W3 hrs hxs hsz (by rw [List.length_map, List.length_take]; omega))
      rw [hx.m] at HLe
      rw [show Cb.LeftS L[i].m.data.toList (lb ((L.take i).map (·.m))) = S from hS.symm] at HLe
      have HXr := Lib.hid hx
      have HLm := Lib.hid hlm
      have HSt := Lib.hid hSt
      have HB3 := Lib.hid hb3
      have HS3 := Lib.hid hs3
      have HH3 := Lib.hid hh3
      have HW3 := Lib.hid hW3
      have hxm : x.m = L[i].m := hx.m
      rw [← hxm] at HLe
      have HXm := Lib.hid hxm
      clear x0 x1 x2 x3 hx hS hSt hlm hsz hxs hA3 hrs hW3 hb3 hs3 hh3 hall hxm
      go_upto_region 8 with fail
      rw [← HW3.out]
      clear HW3 X0 X1 X2 X3
      go_wp2_with fail
      refine HLe.out.mono ?_
      rintro e w4 ⟨v4, rfl, hr4, hb4⟩
      have h4 := (hb4.block wo.heap.size (by rw [HS3.out]; omega)).trans HH3.out
      have hB4 : Below wo.heap.size wo w4 := HB3.out.trans (hb4.mono (by rw [HS3.out]; omega))
      have HB4 := Lib.hid hB4
      have HH4 := Lib.hid h4
      obtain ⟨al, ln, lc, rfl, hll, _, _⟩ := rdsS_form hr4
      rw [List.length_map] at hll
      have HLl := Lib.hid hll
      have hlt4 : wo.heap.size < w4.heap.size := by have := hb4.size; have := HS3.out; omega
      have p0 : w4.cell? ⟨wo.heap.size, 0, none⟩ = some (.int .i64 x.p) := by simp [World.cell?, h4]
      have p1 : w4.cell? ⟨wo.heap.size, 1, none⟩ = some (.string x.m) := by simp [World.cell?, h4]
      have p2 : w4.cell? ⟨wo.heap.size, 2, none⟩ = some (.int .i64 x.k) := by simp [World.cell?, h4]
      have p3 : w4.cell? ⟨wo.heap.size, 3, none⟩ = some (.slice x.a x.n x.c) := by simp [World.cell?, h4]
      have HO4 := Lib.hid (HO.out.below hB4)
      have HA4 := Lib.hid (ownsRow_below HA.out hB4)
      have hbs := HB.out.size
      clear hr4 hb4 h4 hB4 hll
      obtain ⟨SE, hSE⟩ : ∃ SE, S.2 = SE := ⟨_, rfl⟩
      rw [hSE] at hse HSt ⊢
      rcases hse with rfl | rfl
      · rw [if_pos rfl] at HSt
        by_cases hl0 : ln = 0
        case' pos =>
          subst hl0
          have HSt2 : Hid (Fb.deadL [] L = (Fb.deadL ((L.take (i + 1)).map (·.m)) (L.drop (i + 1))).map ((D ++ [L[i]]) ++ ·)) := by
            show _ = _
            rw [HDe.out, HSt.out, Fb.map_snoc]
            simp only [if_pos HLl.out.symm]
          have hB5 : Below w4.heap.size w4 (w4.alloc (.cells #[.int .i64 x.p, .string x.m, .int .i64 x.k, .slice x.a x.n x.c] 33)) := (Below.refl _ _).alloc (Nat.le_refl _) _
          have HOw := Lib.hid (HO4.out.below hB5)
          have HYr : Hid (RdC (okP (fun b => ok b ∧ b < w.heap.size) (.slice ad k c)) (w4.alloc (.cells #[.int .i64 x.p, .string x.m, .int .i64 x.k, .slice x.a x.n x.c] 33)) x L[i]) :=
            (((HXr.out.below HB.out).below HB4.out).below hB5).mono fun b hb => ⟨hb, fun e => by have := (HO.out.row.lt b e).1; omega⟩
          have HB5 := Lib.hid hB5
          clear hB5
          go_upto_region 13 with (at_builtin; go_loud (refine wpList_plain rfl (fun _ hK => wp_app_oneQ (fun b => ok b ∧ b < w.heap.size) (.tmp 36) (.tmp 38) rfl w.heap.size (.slice ad k c) xs D (by rfl) HOw.out w4.heap.size 1 x L[i] (by rfl) (heap_alloc_new _ _) HYr.out (k + 1) (by rw [HDl.out]) (by omega) (by have := HB4.out.size; simp; omega) (fun g5 c5 w5 ho5 hg5 hgg5 => hK _ _ ?_))); have HO5 := Lib.hid ho5; have HG5 := Lib.hid hg5; have HGG5 := Lib.hid hgg5; clear ho5 hg5 hgg5)
          have hB5w : Below w.heap.size w w5 := (HB.out.trans ((HB4.out.trans (HB5.out.mono (by omega))).mono hbs)).grown HG5.out (by have := HB4.out.size; simp; omega) (fun j hj => (HO.out.row.lt j hj).1)
          have hblk : ∀ j, j < w4.heap.size → (Value.slice ad k c).ownBlock ≠ some j → w5.heap[j]? = w4.heap[j]? := fun j hj hne => (HG5.out.block j (by simp; omega) (fun e => hne e.symm)).trans (HB5.out.block j hj)
          have hown5 : ∀ j, (Value.slice ad k c).ownBlock = some j → j < wo.heap.size := fun j hj => (HO.out.row.lt j hj).2
          have h5 := (hblk wo.heap.size hlt4 (fun e => by have := hown5 _ e; omega)).trans HH4.out
          have HA5 : Hid (w5.ownsRow w.heap.size 9 1 (.slice aa i ac) i (((L.take i).map (·.m)).map Value.string)) := ownsRow_keep HA4.out (fun g hg => hblk g (by have := (HA.out.lt g hg).2; have := HB4.out.size; omega) (fun e => HDj.out g e hg))
          have HDj5 : Hid (∀ g, (Value.slice (some ⟨g5, 0, none⟩) (k + 1) c5).ownBlock = some g → (Value.slice aa i ac).ownBlock ≠ some g) := fun g e1 e2 => by
            have e3 : g5 = g := Option.some.inj e1
            rcases HGG5.out with h | h
            · exact HDj.out g (by rw [h, e3]) e2
            · have := (HA.out.lt g e2).2; have := HB4.out.size; simp at h; omega
          obtain ⟨k5, hk5⟩ : ∃ k5, k5 = k + 1 := ⟨_, rfl⟩
          have HDl5 : Hid ((D ++ [L[i]]).length = k5) := by show _ = _; rw [List.length_append, HDl.out, hk5]; rfl
          have hk5i : k5 ≤ i + 1 := by omega
          have hlt5 : wo.heap.size < w5.heap.size := by have := HG5.out.size; simp at this; omega
          rw [← hk5] at HO5 HDj5 ⊢
          have HBw5 := Lib.hid hB5w
          obtain ⟨D5, hD5⟩ : ∃ D5, D5 = D ++ [L[i]] := ⟨_, rfl⟩
          obtain ⟨xs5, hxs5⟩ : ∃ xs5, xs5 = xs ++ [x] := ⟨_, rfl⟩
          obtain ⟨ad5, had5⟩ : ∃ ad5, ad5 = some (⟨g5, 0, none⟩ : Addr) := ⟨_, rfl⟩
          rw [← hD5] at HDl5 HSt2 HO5
          rw [← hxs5] at HO5
          rw [← had5] at HO5 HDj5 ⊢
          clear hk5 hB5w hblk hown5 hD5 hxs5 had5 HOw HYr HB5 HG5 HGG5 p0 p1 p2 p3
        case' neg =>
          have HSt2 : Hid (Fb.deadL [] L = (Fb.deadL ((L.take (i + 1)).map (·.m)) (L.drop (i + 1))).map (D ++ ·)) := by
            show _ = _
            rw [HDe.out, HSt.out, Fb.map_snoc]
            simp only [if_neg (show ¬ S.1.length = 0 by rw [← HLl.out]; exact hl0)]
          go_upto_region 13 with fail
          obtain ⟨w5, rfl⟩ : ∃ w5 : World, w5 = w4 := ⟨_, rfl⟩
          have h5 := HH4.out
          have HA5 := HA4
          have HO5 := HO4
          have HDj5 := HDj
          have HDl5 := HDl
          obtain ⟨k5, rfl⟩ : ∃ k5, k5 = k := ⟨_, rfl⟩
          have hk5i : k5 ≤ i + 1 := by omega
          have hlt5 := hlt4
          have HBw5 : Hid (Below w.heap.size w w5) := HB.out.trans (HB4.out.mono hbs)
          obtain ⟨D5, rfl⟩ : ∃ D5, D5 = D := ⟨_, rfl⟩
          obtain ⟨xs5, rfl⟩ : ∃ xs5, xs5 = xs := ⟨_, rfl⟩
          obtain ⟨ad5, rfl⟩ : ∃ ad5, ad5 = ad := ⟨_, rfl⟩
          obtain ⟨c5, rfl⟩ : ∃ c5, c5 = c := ⟨_, rfl⟩
          clear p0 p1 p2 p3
        all_goals
          have r1 : w5.cell? ⟨wo.heap.size, 1, none⟩ = some (.string x.m) := by simp [World.cell?, h5]
          have hB6 : Below w5.heap.size w5 (w5.alloc (.cells #[.string x.m] 9)) := (Below.refl _ _).alloc (Nat.le_refl _) _
          have HAw := Lib.hid (ownsRow_below HA5.out hB6)
          have HB6 := Lib.hid hB6
          have hw5 := HBw5.out.size
          clear hB6 h5
          go_wp2_with (at_builtin; go_loud (refine wpList_plain rfl (fun _ hK => wp_app_strQ (.tmp 40) (.tmp 43) rfl w.heap.size (.slice aa i ac) i _ (by rfl) HAw.out w5.heap.size 1 x.m (by rfl) (heap_alloc_new _ _) (i + 1) rfl (by omega) (by simp; omega) (fun g7 c7 w7 ho7 hg7 hgg7 => hK _ _ ?_))); have HA7 := Lib.hid ho7; have HG7 := Lib.hid hg7; have HGG7 := Lib.hid hgg7; clear ho7 hg7 hgg7)
          have hB7w : Below w.heap.size w w7 := (HBw5.out.trans (HB6.out.mono hw5)).grown HG7.out (by simp; omega) (fun j hj => (HA5.out.lt j hj).1)
          have hblk : ∀ j, j < w5.heap.size → (Value.slice aa i ac).ownBlock ≠ some j → w7.heap[j]? = w5.heap[j]? := fun j hj hne => (HG7.out.block j (by simp; omega) (fun e => hne e.symm)).trans (HB6.out.block j hj)
          have HO7 : Hid (OwnR (okP (fun b => ok b ∧ b < w.heap.size) (.slice ad5 k5 c5)) w7 w.heap.size (.slice ad5 k5 c5) xs5 D5) := by
            refine HO5.out.keep (fun g hg => hblk g (HO5.out.row.lt g hg).2 (HDj5.out g hg)) (fun y r hy => ?_)
            have hbut : But (fun b => w.heap.size ≤ b) w5 w7 := ⟨HG7.out.os.trans HB6.out.os, HG7.out.tape.trans HB6.out.tape, HG7.out.output.trans HB6.out.output, Nat.le_trans HB6.out.size HG7.out.size, fun j hj hn => hblk j hj (fun e => hn (HA5.out.lt j e).1)⟩
            exact hy.but hbut (fun b hb h => by have := hb.1.2; omega)
          have HDj7 : Hid (∀ g, (Value.slice ad5 k5 c5).ownBlock = some g → (Value.slice (some ⟨g7, 0, none⟩) (i + 1) c7).ownBlock ≠ some g) := fun g e1 e2 => by
            have e3 : g7 = g := Option.some.inj e2
            rcases HGG7.out with h | h
            · exact HDj5.out g e1 (by rw [h, e3])
            · have := (HO5.out.row.lt g e1).2; simp at h; omega
          have HA7' : Hid (w7.ownsRow w.heap.size 9 1 (.slice (some ⟨g7, 0, none⟩) (i + 1) c7) (i + 1) (((L.take (i + 1)).map (·.m)).map Value.string)) := by
            show World.ownsRow _ _ _ _ _ _ _
            rw [HLm.out, List.map_append, ← HXm.out]
            exact HA7.out
          have HB7 := Lib.hid hB7w
          clear hB7w hblk
          go_roundw
          case rel => exact ⟨i + 1, ad5, c5, xs5, D5, some ⟨g7, 0, none⟩, c7, k5, by first | rfl | go_num, rfl, rfl, by omega, hk5i, HDl5.out, HO7.out, HA7'.out, HDj7.out, HSt2.out, HB7.out⟩
          case measure => simp [intOf]; omega
      · rw [if_neg (by decide)] at HSt
        clear p0 p1 p2 p3
        go_wp2_with fail
        go_ret2
        refine ⟨HB.out.trans (HB4.out.mono hbs), .inr ⟨?_, rfl⟩⟩
        rw [HDe.out, HSt.out]
        rfl
    · have hin' : i = n := by omega
      have HFin : Hid (Fb.deadL [] L = some D) := by
        show _ = _
        rw [HDe.out, hin', HN.out, Fb.deadL_end]
        simp
      have hrd := (HO.out.mono (ok' := fun b => w.heap.size ≤ b ∨ (ok b ∧ b < w.heap.size)) fun b hb => .inr hb.1).toRds (fun b hb => .inl hb)
      have HCo := Lib.hid (copied_any _ _ D wo hrd (by rw [HDl.out]; omega))
      rw [HDl.out] at HCo
      have hbs := HB.out.size
      clear hrd
      go_wp2_with fail
      refine HCo.out.mono ?_
      rintro e w4 ⟨ad4, c4, rfl, hr4, hb4⟩
      have HR4 := Lib.hid hr4
      have HB4 := Lib.hid hb4
      clear hr4 hb4
      go_wp2_with fail
      go_ret2
      exact ⟨HB.out.trans (HB4.out.mono hbs), .inl ⟨D, ad4, k, c4, HFin.out, rfl, HR4.out.mono fun b hb => Nat.le_trans hbs hb⟩⟩
end Go.Proofs.Ytlamhpiiikcpiaa
/-
  Walks: Dead of the reference's table.
-/
namespace Go.Proofs.Ytlamhpiiikcpiaa
open Go.RowKit Go.Shelf Go.Lib Go.Sort
set_option linter.unusedVariables false
set_option linter.unusedSectionVars false
set_option linter.unusedSimpArgs false

set_option maxHeartbeats 3200000 in
set_option maxRecDepth 20000 in
theorem rdead_tab {ok : Nat → Prop} {w : World} {tb : Nat} {v : Value} {L : List Rl} {W : Int} (h : Tab 1 0 ok w tb v L W) (hL : Fb.Ok W L) :
    Calls Try.prog 25 #[.pointer (some ⟨tb, 0, none⟩)] w (DeadPost (fun b => (ok b ∧ b < w.heap.size) ∨ w.heap.size ≤ b) L w) := by
  obtain ⟨i0, hi, hz0, hz1, hz2⟩ := info_parts infoS
  have HR := Lib.hid h.rd.lt
  have c0 := h.c0
  obtain ⟨n, hn⟩ : ∃ n, n = L.length := ⟨_, rfl⟩
  have HN := Lib.hid hn
  have hn4 : n ≤ 4096 := by rw [hn]; exact hL.few
  obtain ⟨adv, capv, rfl, hvc, hvm⟩ := h.rd.form
  rw [← hn] at HR hvc c0
  unfold maxLen at hvm
  have HChk := Lib.hid hL.chk
  have HTb := Lib.hid h.lt
  clear h hL hn
  go_enter Try.func25, Try.ntmps25
  go_wp2_with fail
  have HC0 := Lib.hid c0
  have htb := HTb.out
  clear c0
  go_loopw [4, 5, 6] (fun s4 s5 s19 wr => ∃ (i : Nat) (ad : Option Addr) (c : Nat) (xs : List RC) (D : List Rl) (aa : Option Addr) (ac k : Nat), s19 = .int .i64 i ∧ s4 = .slice ad k c ∧ s5 = .slice aa i ac ∧ i ≤ n ∧ k ≤ i ∧ Hid (D.length = k) ∧
    Hid (OwnR (okP (fun b => ok b ∧ b < w.heap.size) (.slice ad k c)) wr w.heap.size (.slice ad k c) xs D) ∧ Hid (wr.ownsRow w.heap.size 9 1 (.slice aa i ac) i (((L.take i).map (·.m)).map Value.string)) ∧ Hid (∀ g, (Value.slice ad k c).ownBlock = some g → (Value.slice aa i ac).ownBlock ≠ some g) ∧ Hid (Fb.deadL [] L = (Fb.deadL ((L.take i).map (·.m)) (L.drop i)).map (D ++ ·)) ∧ Hid (Below w.heap.size w wr)) (fun _ _ s19 _ => n - (intOf s19).toNat)
  case atStart => exact ⟨0, none, 0, [], [], none, 0, 0, rfl, rfl, rfl, Nat.zero_le _, Nat.le_refl _, rfl, ownR_nil _ _ _, World.ownsRow_nil _ _ _ _, (fun g h => by simp [Value.ownBlock] at h), by show _ = _; simp, Below.refl _ _⟩
  case round =>
    obtain ⟨wo, rfl⟩ : ∃ wo : World, wo = wr := ⟨wr, rfl⟩
    obtain ⟨i, ad, c, xs, D, aa, ac, k, rfl, rfl, rfl, hin, hki, HDl, HO, HA, HDj, HDe, HB⟩ := hrel
    have T1 := (HB.out.cell (p := ⟨tb, 1, none⟩) htb).trans HC0.out
    by_cases hlt : i < n
    · have hiL : i < L.length := by rw [← HN.out]; exact hlt
      obtain ⟨b, off, x, rfl, hb, _, x0, x1, x2, x3, hx⟩ := HR.out.get i hiL
      have X0 := (HB.out.cell (p := ⟨b, off + i * 4, none⟩) hb).trans x0
      have X1 := (HB.out.cell (p := ⟨b, off + i * 4 + 1, none⟩) hb).trans x1
      have X2 := (HB.out.cell (p := ⟨b, off + i * 4 + 2, none⟩) hb).trans x2
      have X3 := (HB.out.cell (p := ⟨b, off + i * 4 + 3, none⟩) hb).trans x3
      obtain ⟨S, hS⟩ : ∃ S, S = Fb.leftR ((L.take i).map (·.m)) L[i] := ⟨_, rfl⟩
      have hall : ∀ r ∈ L.take i, Rp.checkR r W = 0 := fun r hr => HChk.out r (List.mem_of_mem_take hr)
      have hse := Fb.leftR_err (HChk.out _ (List.getElem_mem hiL)) hall
      rw [← hS] at hse
      have hSt := Fb.deadL_step ((L.take i).map (·.m)) hiL
      rw [← hS] at hSt
      have hlm : (L.take (i + 1)).map (·.m) = (L.take i).map (·.m) ++ [L[i].m] := by rw [List.take_succ_eq_append_getElem hiL, List.map_append]; rfl
      rw [← hlm] at hSt
      have hsz : ∀ s ∈ (L.take i).map (·.m), s.size ≤ maxLen := fun s hs => by
        obtain ⟨r, hr, rfl⟩ := List.mem_map.1 hs
        have := (Fb.chk_cube (hall r hr)).2
        unfold maxLen; omega
      have hxs : x.m.size ≤ maxLen := by rw [hx.m]; have := hx.z.m; unfold maxLen; omega
      have hrs : RdsS wo (.slice aa i ac) ((L.take i).map (·.m)) := ownsRow_rds HA.out
      have HLe := Lib.hid (rLeft_any x.m (.slice aa i ac) ((L.take i).map (·.m)) wo hrs hxs hsz (by rw [List.length_map, List.length_take]; omega))
      rw [hx.m] at HLe
      rw [show Cb.LeftS L[i].m.data.toList (lb ((L.take i).map (·.m))) = S from hS.symm] at HLe
      have HXr := Lib.hid hx
      have HLm := Lib.hid hlm
      have HSt := Lib.hid hSt
      have HXc : Hid (w.cell? ⟨b, off + i * 4, none⟩ = some (.int .i64 x.p) ∧ w.cell? ⟨b, off + i * 4 + 1, none⟩ = some (.string x.m) ∧ w.cell? ⟨b, off + i * 4 + 2, none⟩ = some (.int .i64 x.k) ∧ w.cell? ⟨b, off + i * 4 + 3, none⟩ = some (.slice x.a x.n x.c)) := ⟨x0, x1, x2, x3⟩
      have hxm : x.m = L[i].m := hx.m
      rw [← hxm] at HLe
      have HXm := Lib.hid hxm
      clear x0 x1 x2 x3 hx hS hSt hlm hsz hxs hrs hall hxm
      clear X0 X2 X3
      go_wp2_with fail
      refine HLe.out.mono ?_
      rintro e w4 ⟨v4, rfl, hr4, hb4⟩
      have hB4 : Below wo.heap.size wo w4 := hb4
      have HB4 := Lib.hid hB4
      have hB4w : Below w.heap.size w w4 := HB.out.trans (hb4.mono HB.out.size)
      have HB4w := Lib.hid hB4w
      have T4 := (hB4w.cell (p := ⟨tb, 1, none⟩) htb).trans HC0.out
      obtain ⟨al, ln, lc, rfl, hll, _, _⟩ := rdsS_form hr4
      rw [List.length_map] at hll
      have HLl := Lib.hid hll
      have p0 := (hB4w.cell (p := ⟨b, off + i * 4, none⟩) hb).trans HXc.out.1
      have p1 := (hB4w.cell (p := ⟨b, off + i * 4 + 1, none⟩) hb).trans HXc.out.2.1
      have p2 := (hB4w.cell (p := ⟨b, off + i * 4 + 2, none⟩) hb).trans HXc.out.2.2.1
      have p3 := (hB4w.cell (p := ⟨b, off + i * 4 + 3, none⟩) hb).trans HXc.out.2.2.2
      have HO4 := Lib.hid (HO.out.below hB4)
      have HA4 := Lib.hid (ownsRow_below HA.out hB4)
      have hbs := HB.out.size
      clear hr4 hb4 hB4 hB4w hll T1 X1
      obtain ⟨SE, hSE⟩ : ∃ SE, S.2 = SE := ⟨_, rfl⟩
      rw [hSE] at hse HSt ⊢
      rcases hse with rfl | rfl
      · rw [if_pos rfl] at HSt
        by_cases hl0 : ln = 0
        case' pos =>
          subst hl0
          have HSt2 : Hid (Fb.deadL [] L = (Fb.deadL ((L.take (i + 1)).map (·.m)) (L.drop (i + 1))).map ((D ++ [L[i]]) ++ ·)) := by
            show _ = _
            rw [HDe.out, HSt.out, Fb.map_snoc]
            simp only [if_pos HLl.out.symm]
          have hB5 : Below w4.heap.size w4 (w4.alloc (.cells #[.int .i64 x.p, .string x.m, .int .i64 x.k, .slice x.a x.n x.c] 33)) := (Below.refl _ _).alloc (Nat.le_refl _) _
          have HOw := Lib.hid (HO4.out.below hB5)
          have HYr : Hid (RdC (okP (fun b => ok b ∧ b < w.heap.size) (.slice ad k c)) (w4.alloc (.cells #[.int .i64 x.p, .string x.m, .int .i64 x.k, .slice x.a x.n x.c] 33)) x L[i]) :=
            (((HXr.out.below HB.out).below HB4.out).below hB5).mono fun b hb => ⟨hb, fun e => by have := (HO.out.row.lt b e).1; omega⟩
          have HB5 := Lib.hid hB5
          clear hB5
          go_upto_region 11 with (at_builtin; go_loud (refine wpList_plain rfl (fun _ hK => wp_app_oneQ (fun b => ok b ∧ b < w.heap.size) (.tmp 36) (.tmp 44) rfl w.heap.size (.slice ad k c) xs D (by rfl) HOw.out w4.heap.size 1 x L[i] (by rfl) (heap_alloc_new _ _) HYr.out (k + 1) (by rw [HDl.out]) (by omega) (by have := HB4.out.size; simp; omega) (fun g5 c5 w5 ho5 hg5 hgg5 => hK _ _ ?_))); have HO5 := Lib.hid ho5; have HG5 := Lib.hid hg5; have HGG5 := Lib.hid hgg5; clear ho5 hg5 hgg5)
          have hB5w : Below w.heap.size w w5 := (HB.out.trans ((HB4.out.trans (HB5.out.mono HB4.out.size)).mono hbs)).grown HG5.out (by have := HB4.out.size; simp; omega) (fun j hj => (HO.out.row.lt j hj).1)
          have hblk : ∀ j, j < w4.heap.size → (Value.slice ad k c).ownBlock ≠ some j → w5.heap[j]? = w4.heap[j]? := fun j hj hne => (HG5.out.block j (by simp; omega) (fun e => hne e.symm)).trans (HB5.out.block j hj)
          have hown5 : ∀ j, (Value.slice ad k c).ownBlock = some j → j < wo.heap.size := fun j hj => (HO.out.row.lt j hj).2
          have T5 := (hB5w.cell (p := ⟨tb, 1, none⟩) htb).trans HC0.out
          have r1 := (hB5w.cell (p := ⟨b, off + i * 4 + 1, none⟩) hb).trans HXc.out.2.1
          have HA5 : Hid (w5.ownsRow w.heap.size 9 1 (.slice aa i ac) i (((L.take i).map (·.m)).map Value.string)) := ownsRow_keep HA4.out (fun g hg => hblk g (by have := (HA.out.lt g hg).2; have := HB4.out.size; omega) (fun e => HDj.out g e hg))
          have HDj5 : Hid (∀ g, (Value.slice (some ⟨g5, 0, none⟩) (k + 1) c5).ownBlock = some g → (Value.slice aa i ac).ownBlock ≠ some g) := fun g e1 e2 => by
            have e3 : g5 = g := Option.some.inj e1
            rcases HGG5.out with h | h
            · exact HDj.out g (by rw [h, e3]) e2
            · have := (HA.out.lt g e2).2; have := HB4.out.size; simp at h; omega
          obtain ⟨k5, hk5⟩ : ∃ k5, k5 = k + 1 := ⟨_, rfl⟩
          have HDl5 : Hid ((D ++ [L[i]]).length = k5) := by show _ = _; rw [List.length_append, HDl.out, hk5]; rfl
          have hk5i : k5 ≤ i + 1 := by omega
          rw [← hk5] at HO5 HDj5 ⊢
          have HBw5 := Lib.hid hB5w
          obtain ⟨D5, hD5⟩ : ∃ D5, D5 = D ++ [L[i]] := ⟨_, rfl⟩
          obtain ⟨xs5, hxs5⟩ : ∃ xs5, xs5 = xs ++ [x] := ⟨_, rfl⟩
          obtain ⟨ad5, had5⟩ : ∃ ad5, ad5 = some (⟨g5, 0, none⟩ : Addr) := ⟨_, rfl⟩
          rw [← hD5] at HDl5 HSt2 HO5
          rw [← hxs5] at HO5
          rw [← had5] at HO5 HDj5 ⊢
          clear hk5 hB5w hblk hown5 hD5 hxs5 had5 HOw HYr HB5 HG5 HGG5 p0 p1 p2 p3 T4
        case' neg =>
          have HSt2 : Hid (Fb.deadL [] L = (Fb.deadL ((L.take (i + 1)).map (·.m)) (L.drop (i + 1))).map (D ++ ·)) := by
            show _ = _
            rw [HDe.out, HSt.out, Fb.map_snoc]
            simp only [if_neg (show ¬ S.1.length = 0 by rw [← HLl.out]; exact hl0)]
          go_upto_region 11 with fail
          obtain ⟨w5, rfl⟩ : ∃ w5 : World, w5 = w4 := ⟨_, rfl⟩
          have T5 := T4
          have r1 := p1
          have HA5 := HA4
          have HO5 := HO4
          have HDj5 := HDj
          have HDl5 := HDl
          obtain ⟨k5, rfl⟩ : ∃ k5, k5 = k := ⟨_, rfl⟩
          have hk5i : k5 ≤ i + 1 := by omega
          have HBw5 : Hid (Below w.heap.size w w5) := HB.out.trans (HB4.out.mono hbs)
          obtain ⟨D5, rfl⟩ : ∃ D5, D5 = D := ⟨_, rfl⟩
          obtain ⟨xs5, rfl⟩ : ∃ xs5, xs5 = xs := ⟨_, rfl⟩
          obtain ⟨ad5, rfl⟩ : ∃ ad5, ad5 = ad := ⟨_, rfl⟩
          obtain ⟨c5, rfl⟩ : ∃ c5, c5 = c := ⟨_, rfl⟩
          clear p0 p1 p2 p3 T4
        all_goals
          have hB6 : Below w5.heap.size w5 (w5.alloc (.cells #[.string x.m] 9)) := (Below.refl _ _).alloc (Nat.le_refl _) _
          have HAw := Lib.hid (ownsRow_below HA5.out hB6)
          have HB6 := Lib.hid hB6
          have hw5 := HBw5.out.size
          clear hB6
          go_wp2_with (at_builtin; go_loud (refine wpList_plain rfl (fun _ hK => wp_app_strQ (.tmp 46) (.tmp 55) rfl w.heap.size (.slice aa i ac) i _ (by rfl) HAw.out w5.heap.size 1 x.m (by rfl) (heap_alloc_new _ _) (i + 1) rfl (by omega) (by simp; omega) (fun g7 c7 w7 ho7 hg7 hgg7 => hK _ _ ?_))); have HA7 := Lib.hid ho7; have HG7 := Lib.hid hg7; have HGG7 := Lib.hid hgg7; clear ho7 hg7 hgg7)
          have hB7w : Below w.heap.size w w7 := (HBw5.out.trans (HB6.out.mono hw5)).grown HG7.out (by simp; omega) (fun j hj => (HA5.out.lt j hj).1)
          have hblk : ∀ j, j < w5.heap.size → (Value.slice aa i ac).ownBlock ≠ some j → w7.heap[j]? = w5.heap[j]? := fun j hj hne => (HG7.out.block j (by simp; omega) (fun e => hne e.symm)).trans (HB6.out.block j hj)
          have HO7 : Hid (OwnR (okP (fun b => ok b ∧ b < w.heap.size) (.slice ad5 k5 c5)) w7 w.heap.size (.slice ad5 k5 c5) xs5 D5) := by
            refine HO5.out.keep (fun g hg => hblk g (HO5.out.row.lt g hg).2 (HDj5.out g hg)) (fun y r hy => ?_)
            have hbut : But (fun b => w.heap.size ≤ b) w5 w7 := ⟨HG7.out.os.trans HB6.out.os, HG7.out.tape.trans HB6.out.tape, HG7.out.output.trans HB6.out.output, Nat.le_trans HB6.out.size HG7.out.size, fun j hj hn => hblk j hj (fun e => hn (HA5.out.lt j e).1)⟩
            exact hy.but hbut (fun b hb h => by have := hb.1.2; omega)
          have HDj7 : Hid (∀ g, (Value.slice ad5 k5 c5).ownBlock = some g → (Value.slice (some ⟨g7, 0, none⟩) (i + 1) c7).ownBlock ≠ some g) := fun g e1 e2 => by
            have e3 : g7 = g := Option.some.inj e2
            rcases HGG7.out with h | h
            · exact HDj5.out g e1 (by rw [h, e3])
            · have := (HO5.out.row.lt g e1).2; simp at h; omega
          have HA7' : Hid (w7.ownsRow w.heap.size 9 1 (.slice (some ⟨g7, 0, none⟩) (i + 1) c7) (i + 1) (((L.take (i + 1)).map (·.m)).map Value.string)) := by
            show World.ownsRow _ _ _ _ _ _ _
            rw [HLm.out, List.map_append, ← HXm.out]
            exact HA7.out
          have HB7 := Lib.hid hB7w
          clear hB7w hblk
          go_roundw
          case rel => exact ⟨i + 1, ad5, c5, xs5, D5, some ⟨g7, 0, none⟩, c7, k5, by first | rfl | go_num, rfl, rfl, by omega, hk5i, HDl5.out, HO7.out, HA7'.out, HDj7.out, HSt2.out, HB7.out⟩
          case measure => simp [intOf]; omega
      · rw [if_neg (by decide)] at HSt
        clear p0 p1 p2 p3 T4
        go_wp2_with fail
        go_ret2
        refine ⟨HB.out.trans (HB4.out.mono hbs), .inr ⟨?_, rfl⟩⟩
        rw [HDe.out, HSt.out]
        rfl
    · have hin' : i = n := by omega
      have HFin : Hid (Fb.deadL [] L = some D) := by
        show _ = _
        rw [HDe.out, hin', HN.out, Fb.deadL_end]
        simp
      have HRd := Lib.hid ((HO.out.mono (ok' := fun b => (ok b ∧ b < w.heap.size) ∨ w.heap.size ≤ b) fun b hb => .inl hb.1).toRds (fun b hb => .inr hb))
      go_wp2_with fail
      go_ret2
      exact ⟨HB.out, .inl ⟨D, ad, k, c, HFin.out, rfl, HRd.out⟩⟩
end Go.Proofs.Ytlamhpiiikcpiaa
/-
  Walks: FibDeads.
-/
namespace Go.Proofs.Ytlamhpiiikcpiaa
open Go.RowKit Go.Shelf Go.Lib Go.Sort
set_option linter.unusedVariables false
set_option linter.unusedSectionVars false
set_option linter.unusedSimpArgs false

namespace Fb
/-- Dead's answer. -/
def deadF (L : List Rl) : List Rl × Int := match deadL [] L with | some D => (D, 0) | none => ([], 3)

theorem deadF_cases (L : List Rl) : (∃ D, deadL [] L = some D ∧ deadF L = (D, 0)) ∨ (deadL [] L = none ∧ deadF L = ([], 3)) := by
  unfold deadF
  cases deadL [] L with
  | none => exact .inr ⟨rfl, rfl⟩
  | some D => exact .inl ⟨D, rfl, rfl⟩

/-- What a table holds when the first i of the rules that no header meets are out. -/
structure Outd (W : Int) (L : List Rl) (i : Nat) (M : List Rl) : Prop where
  ok : Ok W M
  mem : ∀ x, x ∈ M ↔ x ∈ L ∧ x ∉ (deadF L).1.take i

theorem outd_zero {W : Int} {L : List Rl} (hL : Ok W L) : Outd W L 0 L := ⟨hL, fun x => by simp⟩
theorem outd_step {W : Int} {L M : List Rl} (hL : Ok W L) {i : Nat} (h : Outd W L i M) (hi : i < (deadF L).1.length) : mayI M W 2 (deadF L).1[i] = 0 ∧ Outd W L (i + 1) (aft M 2 (deadF L).1[i]) := by
  rcases deadF_cases L with ⟨D, h1, h2⟩ | ⟨h1, h2⟩
  · have e : (deadF L).1 = D := by rw [h2]
    have hm := h.mem
    have hok := h.ok
    have key : ∀ (D' : List Rl) (hD : D' = D) (hi' : i < D'.length), (∀ x, x ∈ M ↔ x ∈ L ∧ x ∉ D'.take i) → mayI M W 2 D'[i] = 0 ∧ ∀ x, x ∈ aft M 2 D'[i] ↔ x ∈ L ∧ x ∉ D'.take (i + 1) := by
      intro D' hD hi' hm'
      subst hD
      exact dead_step hL hok h1 hi' hm'
    have := key _ e hi hm
    exact ⟨this.1, hok.aft this.1, this.2⟩
  · rw [h2] at hi
    exact absurd hi (Nat.not_lt_zero _)
theorem outd_meet {W : Int} {L M : List Rl} (hL : Ok W L) {i : Nat} (h : Outd W L i M) (s : List UInt8) : meetL M s = meetL L s := by
  rcases deadF_cases L with ⟨D, h1, h2⟩ | ⟨h1, h2⟩
  · have e : (deadF L).1 = D := by rw [h2]
    have hm := h.mem
    rw [e] at hm
    exact meetL_dead hL h.ok h1 (S := D.take i) (fun r hr => List.mem_of_mem_take hr) hm s
  · have : M = L := strict_ext h.ok.strict hL.strict fun x => by rw [h.mem, h2]; simp
    rw [this]
theorem outd_look {W : Int} {L M : List Rl} (hL : Ok W L) {i : Nat} (h : Outd W L i M) (s : ByteArray) : lookS M W s = lookS L W s := by
  unfold lookS meetS
  rw [outd_meet hL h]
end Fb

theorem deadPost_form {P : Nat → Prop} {L : List Rl} {w w' : World} {e : Ending} (h : DeadPost P L w e w') : ∃ (ad : Option Addr) (n c : Nat), e = .returned (.tuple #[.slice ad n c, .int .i64 (Fb.deadF L).2]) ∧ RdsR P w' (.slice ad n c) (Fb.deadF L).1 ∧ Below w.heap.size w w' := by
  obtain ⟨hb, h⟩ := h
  rcases Fb.deadF_cases L with ⟨D, h1, h2⟩ | ⟨h1, h2⟩
  · rcases h with ⟨D', ad, n, c, h3, h4, h5⟩ | ⟨h3, _⟩
    · rw [h1] at h3
      have := Option.some.inj h3
      subst this
      exact ⟨ad, n, c, by rw [h4, h2], by rw [h2]; exact h5, hb⟩
    · rw [h1] at h3; cases h3
  · rcases h with ⟨D', ad, n, c, h3, h4, h5⟩ | ⟨h3, h4⟩
    · rw [h1] at h3; cases h3
    · exact ⟨none, 0, 0, by rw [h4, h2], by rw [h2]; exact rdsR_nil _ _, hb⟩

/-- The cells of an action. -/
structure AC where
  k : Int
  a : Option Addr
  n : Nat
  c : Nat
deriving Inhabited
def encA (x : AC) : List Value := [.int .i64 x.k, .slice x.a x.n x.c]
def cellsA (l : List AC) : List Value := l.flatMap encA
theorem cellsA_length : ∀ (l : List AC), (cellsA l).length = l.length * 2
  | [] => rfl
  | x :: l => by
    show (encA x ++ cellsA l).length = _
    rw [List.length_append, cellsA_length l, List.length_cons]
    show 2 + _ = _
    omega
theorem cellsA_get : ∀ (l : List AC) (i : Nat) (h : i < l.length), (cellsA l)[i * 2]? = some (.int .i64 l[i].k) ∧ (cellsA l)[i * 2 + 1]? = some (.slice l[i].a l[i].n l[i].c)
  | [], i, h => absurd h (Nat.not_lt_zero i)
  | x :: l, 0, _ => by simp [cellsA, encA]
  | x :: l, i + 1, h => by
    have := cellsA_get l i (by simpa using h)
    rw [show cellsA (x :: l) = encA x ++ cellsA l from rfl, show (i + 1) * 2 = i * 2 + 2 by omega]
    simpa [encA] using this
theorem infoA : (Try.prog.info? 31).map (fun i => (i.zero, i.size, i.bytes)) = some (some (.agg #[.int .i64 0, .slice none 0 0]), 2, 32) := by kernel_rfl

theorem one_cellsA {W : World} {g : Nat} {x : AC} {e : TypeId} (h : W.heap[g]? = some (.cells #[.int .i64 x.k, .slice x.a x.n x.c] e (0, 0))) : ∀ p, some (⟨g, 0, none⟩ : Addr) = some p → ∀ j u, (cellsA [x])[j]? = some u → W.cell? (p.add j) = some u := by
  intro p hp j u hj
  injection hp with hp
  subst hp
  have hc : W.cell? ⟨g, j, none⟩ = (#[Value.int .i64 x.k, .slice x.a x.n x.c] : Array Value)[j]? := by simp [World.cell?, h]
  rw [Addr.add_lit, Nat.zero_add, hc]
  simpa [cellsA, encA] using hj
theorem cellsA_one (x : AC) : ∀ u ∈ cellsA [x], u.oneCell' = true := by
  intro u hu
  simp only [cellsA, encA, List.flatMap_cons, List.flatMap_nil, List.append_nil, List.mem_cons, List.mem_nil_iff, or_false] at hu
  rcases hu with rfl | rfl <;> rfl

/-- append of one action, told by its cells. -/
theorem wp_app_act {w : World} {o : Oper} {a : Act} {K : Act → World → Prop} {Q : Exit → Act → World → Prop} (s x : Operand)
    (ho : o.op = .call { callee := .builtin .append, args := #[s, x], argTypes := #[60, 60] })
    (base n : Nat) (v : Value) (xs : List AC) (hs : a.eval s = v) (h1 : w.ownsRow base 31 2 v n (cellsA xs))
    (g0 c : Nat) (y : AC) (hx : a.eval x = .slice (some ⟨g0, 0, none⟩) 1 c) (hyc : w.heap[g0]? = some (.cells #[.int .i64 y.k, .slice y.a y.n y.c] 31 (0, 0)))
    (tot : Nat) (htot : n + 1 = tot) (hbytes : tot * 32 ≤ 140737488355328) (hbase : base ≤ w.heap.size)
    (h : ∀ ad cap w', w'.ownsRow base 31 2 (.slice ad tot cap) tot (cellsA (xs ++ [y])) → w.grownBy w' v.ownBlock → K (a.put o.dst (.slice ad tot cap)) w') : o.wp Try.prog a w K Q := by
  obtain ⟨i0, hi, hz0, hz1, hz2⟩ := info_parts infoA
  refine wp_append_k s x 60 ho base 31 i0 _ 2 32 Try.underlying60 hi hz0 hz1 hz2 rfl (by decide) v n (cellsA xs) hs h1 (some ⟨g0, 0, none⟩) 1 c (cellsA [y]) hx rfl (one_cellsA hyc) (fun e => by cases e) (cellsA_one y)
    tot htot (by unfold maxLen; omega) hbytes hbase fun ad cap w' hown hg => h ad cap w' ?_ hg
  have e : cellsA (xs ++ [y]) = cellsA xs ++ cellsA [y] := by simp [cellsA]
  rw [e]
  exact hown

set_option maxHeartbeats 3200000 in
set_option maxRecDepth 20000 in
theorem FibDeads_walk (W : Int) (v1 : Value) (l : List (Int × Rl)) (v2 : Value) (hs : List ByteArray) (w : World) (h1 : RdsC (fun _ => True) w v1 l) (z1 : l.length * 64 ≤ 140737488351232) (h2 : RdsS w v2 hs) (zs : ∀ s ∈ hs, s.size ≤ maxLen) (z2 : hs.length ≤ 1048576) :
    Calls Try.prog 7 #[.int .i64 W, v1, v2] w fun e w' => e = .returned (.bool true) ∧ Below w.heap.size w w' := by
  have HAw : Hid (∀ Wx, Calls Try.prog 9 #[] Wx fun e w' => e = .returned (.bool true) ∧ Below Wx.heap.size Wx w') := fun Wx => awake_any Wx
  by_cases hW : W < 1 ∨ W > 128
  · have HM := Lib.hid (made_bad W v1 w hW)
    clear h1 h2 hW
    go_enter Try.func7, Try.ntmps7
    go_wp2_with fail
    refine HM.out.mono ?_
    rintro e w1 ⟨rfl, rfl⟩
    go_wp2_with fail
    refine (HAw.out _).mono ?_
    rintro e w2 ⟨rfl, hb⟩
    have HB := Lib.hid hb
    clear hb
    go_wp2_with fail
    go_ret
    exact ⟨rfl, HB.out⟩
  have HM := Lib.hid (made_ok W v1 l w (by omega) (by omega) h1 z1)
  obtain ⟨L, hL⟩ : ∃ L, L = Fb.mkL W (l.take 100) := ⟨_, rfl⟩
  have HOk : Hid (Fb.Ok W L) := by rw [hL]; exact Fb.mkL_ok W _
  have HL := Lib.hid hL
  obtain ⟨adh, lenh, caph, rfl, hlh, hmh, helh⟩ := rdsS_form h2
  have HEl := Lib.hid helh
  have HLh := Lib.hid hlh
  have HZs := Lib.hid zs
  have hz3 : lenh ≤ 1048576 := by rw [hlh]; exact z2
  unfold maxLen at hmh
  obtain ⟨DF, hDF⟩ : ∃ DF, DF = Fb.deadF L := ⟨_, rfl⟩
  have HDF := Lib.hid hDF
  obtain ⟨nd, hnd⟩ : ∃ nd, nd = DF.1.length := ⟨_, rfl⟩
  have HNd := Lib.hid hnd
  clear h1 h2 hW hL helh hlh zs hDF hnd z2
  go_enter Try.func7, Try.ntmps7
  go_wp2_with fail
  refine HM.out.mono ?_
  rintro e w1 ⟨hb1, tb, rb, v, vr, ht, hr, hne, rfl, hT, hR⟩
  rw [← HL.out] at hT hR
  have HB1 := Lib.hid hb1
  have HT1 := Lib.hid hT
  have HR1 := Lib.hid hR
  clear hb1 hT hR
  go_wp2_with fail
  refine (HAw.out _).mono ?_
  rintro e w2 ⟨rfl, hb2⟩
  have HB2 := Lib.hid (HB1.out.trans (hb2.mono HB1.out.size))
  have HT2 := Lib.hid (HT1.out.below hb2)
  have HR2 := Lib.hid (HR1.out.below hb2)
  have HDe := Lib.hid (dead_tab HT2.out HOk.out)
  have HR2l : Hid (Tab 1 0 (fun b => (okT w.heap.size tb rb b) ∧ b < w2.heap.size) w2 rb vr L W) := ⟨HR2.out.c0, HR2.out.c1, HR2.out.f0, HR2.out.rd.lt, fun b hb => HR2.out.no b hb.1, HR2.out.lo, HR2.out.hi⟩
  have htl := HT2.out.lt
  clear hb2
  go_wp2_with fail
  refine HDe.out.mono ?_
  intro e w3 hpost
  obtain ⟨ad3, n3, c3, rfl, hr3, hb3⟩ := deadPost_form hpost
  rw [← HDF.out] at hr3 ⊢
  have h3n := hr3.len.1
  rw [← HNd.out] at h3n
  subst h3n
  have hr3d := rdead_tab (HR2.out.below hb3) HOk.out
  have HDe2 := Lib.hid hr3d
  have HRd := Lib.hid (hr3.lt)
  have HB3 := Lib.hid hb3
  clear hpost hr3 hb3 hr3d
  go_wp2_with fail
  refine HDe2.out.mono ?_
  intro e w4 hpost
  obtain ⟨ad4, n4, c4, rfl, hr4, hb4⟩ := deadPost_form hpost
  rw [← HDF.out] at hr4 ⊢
  have HSa := Lib.hid (sameRules_same _ _ _ _ DF.1 w4 (HRd.out.below hb4) hr4)
  have HRd4 : Hid (RdsR (fun b => w2.heap.size ≤ b) w4 (.slice ad3 n3 c3) DF.1) := (HRd.out.below hb4).mono fun b hb => hb.1
  have HB4 := Lib.hid (HB3.out.trans (hb4.mono HB3.out.size))
  have hee : (DF.2 != DF.2) = false := by simp
  clear hpost hr4 hb4
  go_wp2_with fail
  refine HSa.out.mono ?_
  rintro e w5 ⟨rfl, hg5⟩
  have HB5 := Lib.hid (HB4.out.trans (hg5.below.mono HB4.out.size))
  have HR5 : Hid (RdsR (fun b => w2.heap.size ≤ b ∧ b < w5.heap.size) w5 (.slice ad3 n3 c3) DF.1) := (HRd4.out.below hg5.below).lt
  clear hg5
  go_wp2_with fail
  go_loopw [14, 15] (fun s14 s15 wr => ∃ (i c : Nat) (ad : Option Addr) (xs : List AC), s15 = .int .i64 i ∧ s14 = .slice ad i c ∧ i ≤ lenh ∧ Hid (xs.length = i) ∧ Hid (wr.ownsRow w5.heap.size 31 2 (.slice ad i c) i (cellsA xs)) ∧
    Hid (∀ j (h : j < xs.length) (h' : j < hs.length), xs[j].k = (Fb.lookS L W hs[j]).1 ∧ RdsO (fun b => b ≠ tb ∧ b < w2.heap.size) wr (.slice xs[j].a xs[j].n xs[j].c) (Fb.lookS L W hs[j]).2.1) ∧ Hid (Below w5.heap.size w5 wr)) (fun _ s15 _ => lenh - (intOf s15).toNat)
  case atStart => exact ⟨0, 0, none, [], rfl, rfl, Nat.zero_le _, rfl, World.ownsRow_nil _ _ _ _, fun j h => absurd h (Nat.not_lt_zero _), Below.refl _ _⟩
  case round =>
    obtain ⟨wo, rfl⟩ : ∃ wo : World, wo = wr := ⟨wr, rfl⟩
    obtain ⟨i, c, ad, xs, rfl, rfl, hin, HXl, HO, HXs, HBw⟩ := hrel
    have HB : Hid (Below w2.heap.size w2 wo) := HB5.out.trans (HBw.out.mono HB5.out.size)
    by_cases hlt : i < lenh
    · have hih : i < hs.length := by have := HLh.out; omega
      obtain ⟨b, off, rfl, hb, x0⟩ := HEl.out i hih
      obtain ⟨s, hss⟩ : ∃ s, hs[i] = s := ⟨_, rfl⟩
      rw [hss] at x0
      have hsz : s.size ≤ maxLen := by rw [← hss]; exact HZs.out _ (List.getElem_mem hih)
      have x1 := ((HB2.out.trans (HB.out.mono HB2.out.size)).cell (p := ⟨b, off + i, none⟩) hb).trans x0
      have HLk := Lib.hid (rlookup_any (HR2l.out.below HB.out) s hsz)
      have HSs := Lib.hid hss
      clear x0 hss hsz
      go_wp2_with fail
      refine HLk.out.mono ?_
      rintro e w7 ⟨hb7, a7, n7, c7, hr7, rfl⟩
      obtain ⟨W7, hW7⟩ : ∃ W7, W7 = w7.alloc (.cells #[.int .i64 (Fb.lookS L W s).1, .slice a7 n7 c7] 31) := ⟨_, rfl⟩
      have hb7a : Below w7.heap.size w7 W7 := by rw [hW7]; exact (Below.refl _ _).alloc (Nat.le_refl _) _
      have hB7 : Below wo.heap.size wo W7 := hb7.trans (hb7a.mono hb7.size)
      have hh7 : W7.heap[w7.heap.size]? = some (.cells #[.int .i64 (Fb.lookS L W s).1, .slice a7 n7 c7] 31 (0, 0)) := by rw [hW7]; exact heap_alloc_new _ _
      have k0 : W7.cell? ⟨w7.heap.size, 0, none⟩ = some (.int .i64 (Fb.lookS L W s).1) := by simp [World.cell?, hh7]
      have k1 : W7.cell? ⟨w7.heap.size, 1, none⟩ = some (.slice a7 n7 c7) := by simp [World.cell?, hh7]
      have hB8 : Below wo.heap.size wo (W7.alloc (.cells #[.int .i64 (Fb.lookS L W s).1, .slice a7 n7 c7] 31)) := hB7.alloc hB7.size _
      have HOw := Lib.hid (ownsRow_below HO.out hB8)
      have HR7 : Hid (RdsO (fun b => b ≠ tb ∧ b < w2.heap.size) (W7.alloc (.cells #[.int .i64 (Fb.lookS L W s).1, .slice a7 n7 c7] 31)) (.slice a7 n7 c7) (Fb.lookS L W s).2.1) := ((hr7.below hb7a).below ((Below.refl _ _).alloc (Nat.le_refl _) _)).mono fun b hb => ⟨hb.1.1.2.1, hb.1.2⟩
      have HB8 := Lib.hid hB8
      have hbs := HBw.out.size
      have h25 := HB5.out.size
      have HW7 := Lib.hid hW7
      clear hb7 hr7 hb7a hB7 hh7 hB8 hW7 x1
      go_upto_region 15 with fail
      rw [← HW7.out]
      go_wp2_with (at_builtin; go_loud (refine wpList_plain rfl (fun _ hK => wp_app_act (.tmp 73) (.tmp 75) rfl w5.heap.size i (.slice ad i c) xs (by rfl) HOw.out W7.heap.size 1 ⟨(Fb.lookS L W s).1, a7, n7, c7⟩ (by rfl) (heap_alloc_new _ _) (i + 1) rfl (by omega) (by have := HB8.out.size; omega) (fun ad9 c9 w9 ho9 hg9 => hK _ _ ?_))); have HO9 := Lib.hid ho9; have HG9 := Lib.hid hg9; clear ho9 hg9)
      have hbw9 : Below w5.heap.size w5 w9 := (HBw.out.trans (HB8.out.mono HBw.out.size)).grown HG9.out (by have := HB8.out.size; omega) (fun k hk => (HO.out.lt k hk).1)
      have hblk : ∀ j, j < wo.heap.size → (Value.slice ad i c).ownBlock ≠ some j → w9.heap[j]? = wo.heap[j]? := fun j hj hne => (HG9.out.block j (by have := HB8.out.size; omega) (fun e => hne e.symm)).trans (HB8.out.block j hj)
      have hS9 : But (fun b => w5.heap.size ≤ b) wo w9 := ⟨HG9.out.os.trans HB8.out.os, HG9.out.tape.trans HB8.out.tape, HG9.out.output.trans HB8.out.output, Nat.le_trans HB8.out.size HG9.out.size, fun j hj hn => hblk j hj (fun e => hn (HO.out.lt j e).1)⟩
      have hG9 : But (fun b => w5.heap.size ≤ b) (W7.alloc (.cells #[.int .i64 (Fb.lookS L W s).1, .slice a7 n7 c7] 31)) w9 := ⟨HG9.out.os, HG9.out.tape, HG9.out.output, HG9.out.size, fun j hj hn => HG9.out.block j hj (fun e => hn (HO.out.lt j e.symm).1)⟩
      have HXs9 : Hid (∀ j (h : j < (xs ++ [(⟨(Fb.lookS L W s).1, a7, n7, c7⟩ : AC)]).length) (h' : j < hs.length), (xs ++ [(⟨(Fb.lookS L W s).1, a7, n7, c7⟩ : AC)])[j].k = (Fb.lookS L W hs[j]).1 ∧ RdsO (fun b => b ≠ tb ∧ b < w2.heap.size) w9 (.slice (xs ++ [(⟨(Fb.lookS L W s).1, a7, n7, c7⟩ : AC)])[j].a (xs ++ [(⟨(Fb.lookS L W s).1, a7, n7, c7⟩ : AC)])[j].n (xs ++ [(⟨(Fb.lookS L W s).1, a7, n7, c7⟩ : AC)])[j].c) (Fb.lookS L W hs[j]).2.1) := fun j hj hj' => by
        by_cases hjl : j < xs.length
        · have e : (xs ++ [(⟨(Fb.lookS L W s).1, a7, n7, c7⟩ : AC)])[j] = xs[j] := List.getElem_append_left hjl
          rw [e]
          obtain ⟨g1, g2⟩ := HXs.out j hjl hj'
          exact ⟨g1, g2.but hS9 (fun b hb h => by omega)⟩
        · have hji : j = xs.length := by simp at hj; omega
          have e : (xs ++ [(⟨(Fb.lookS L W s).1, a7, n7, c7⟩ : AC)])[j] = ⟨(Fb.lookS L W s).1, a7, n7, c7⟩ := by subst hji; simp
          have e2 : hs[j] = s := by
            have : j = i := by rw [hji, HXl.out]
            subst this
            exact HSs.out
          rw [e, e2]
          exact ⟨rfl, HR7.out.but hG9 (fun b hb h => by omega)⟩
      have HB9 := Lib.hid hbw9
      clear hbw9 hblk hS9 hG9
      go_roundw
      case rel => exact ⟨i + 1, c9, ad9, _, by first | rfl | go_num, rfl, by omega, by show _ = _; rw [List.length_append, HXl.out]; rfl, HO9.out, HXs9.out, HB9.out⟩
      case measure => simp [intOf]; omega
    · have hin' : i = lenh := by omega
      subst hin'
      have HRa : Hid (RdsR (fun b => w2.heap.size ≤ b) wo (.slice ad3 n3 c3) DF.1) := (HR5.out.mono (ok' := fun b => w2.heap.size ≤ b) fun b hb => hb.1).below HBw.out
      obtain ⟨hn3e, hn3, hm3⟩ := HRa.out.len
      unfold maxLen at hm3
      have HN3 := Lib.hid hn3e
      have hT5 : Tab 0 1 (okT w.heap.size tb rb) wo tb v L W := HT2.out.below HB.out
      have HT5 := Lib.hid hT5
      have hbo := HB.out.size
      have hwo := HB2.out.size
      clear hT5 hn3e
      go_wp2_with fail
      go_loopw [18] (fun s18 wr => ∃ (q : Nat) (vq : Value) (M : List Rl), s18 = .int .i64 q ∧ q ≤ n3 ∧ Hid (Tab 0 1 (okT w.heap.size tb rb) wr tb vq M W) ∧ Hid (Fb.Outd W L q M) ∧ Hid (But (fun b => b = tb) wo wr)) (fun s18 _ => n3 - (intOf s18).toNat)
      case atStart => exact ⟨0, v, L, rfl, Nat.zero_le _, HT5.out, Fb.outd_zero HOk.out, But.refl _ _⟩
      case round =>
        obtain ⟨wp, rfl⟩ : ∃ wp : World, wp = wr := ⟨wr, rfl⟩
        obtain ⟨q, vq, M, rfl, hqn, HTq, HOq, HBq⟩ := hrel
        have hs5 := HBq.out.size
        by_cases hlt2 : q < n3
        · have hqD : q < DF.1.length := by rw [← HN3.out]; exact hlt2
          have HRq := Lib.hid (HRa.out.but HBq.out (fun b hb e => by omega))
          obtain ⟨b, off, x, rfl, hb, _, x0, x1, x2, x3, hx⟩ := HRq.out.get q hqD
          obtain ⟨W4, hW4⟩ : ∃ W4, W4 = wp.alloc (.cells #[.int .i64 2, .int .i64 x.p, .string x.m, .int .i64 x.k, .slice x.a x.n x.c] 51) := ⟨_, rfl⟩
          have hb4 : Below wp.heap.size wp W4 := by rw [hW4]; exact (Below.refl _ _).alloc (Nat.le_refl _) _
          have hh4 : W4.heap[wp.heap.size]? = some (.cells #[.int .i64 2, .int .i64 x.p, .string x.m, .int .i64 x.k, .slice x.a x.n x.c] 51 (0, 0)) := by rw [hW4]; exact heap_alloc_new _ _
          obtain ⟨hmay, hout⟩ : Fb.mayI M W 2 DF.1[q] = 0 ∧ Fb.Outd W L (q + 1) (Fb.aft M 2 DF.1[q]) := by
            have := @Fb.outd_step W L M HOk.out q HOq.out
            have e := HDF.out
            subst e
            exact this hqD
          have hd1 := do_tab (HTq.out.below hb4) (one_rdsC hh4 ((Rl.okTrue hx).below hb4) trivial) (by simp) HOq.out.ok
          rw [Fb.doL_one, if_pos hmay, Fb.endL_one hmay] at hd1
          have HD1 := Lib.hid hd1
          have HOut := Lib.hid hout
          have HB4 := Lib.hid hb4
          have HW4 := Lib.hid hW4
          have htq := HTq.out.lt
          have hw4 := hb4.size
          clear hx hW4 hb4 hh4 hd1 hmay hout
          go_wp2_with fail
          rw [← HW4.out]
          clear HW4
          refine HD1.out.mono ?_
          rintro e w8 ⟨rfl, ⟨v8, hT8⟩, hbt8⟩
          have HT8 := Lib.hid (hT8.new (by omega) (by omega) (by have := HR2.out.lt; omega) (.inl rfl))
          have HBt8 : Hid (But (fun b => b = tb) wo w8) := (HBq.out.trans (But.below HB4.out)).trans hbt8
          clear hT8 hbt8 x0 x1 x2 x3
          go_wp2_with fail
          go_roundw
          case rel => exact ⟨q + 1, v8, _, by first | rfl | go_num, by omega, HT8.out, HOut.out, HBt8.out⟩
          case measure => simp [intOf]; omega
        · have HOw : Hid (wp.ownsRow w5.heap.size 31 2 (.slice ad i c) i (cellsA xs)) := ownsRow_but HO.out HBq.out (fun k hk e => by have := HB5.out.size; omega)
          have HXw : Hid (∀ j (h : j < xs.length) (h' : j < hs.length), xs[j].k = (Fb.lookS L W hs[j]).1 ∧ RdsS wp (.slice xs[j].a xs[j].n xs[j].c) (Fb.lookS L W hs[j]).2.1) := fun j h h' => ⟨(HXs.out j h h').1, ((HXs.out j h h').2.but HBq.out (fun b hb e => hb.1 e)).1⟩
          have HBp : Hid (Below w.heap.size w wp) := (HB2.out.trans (HB.out.mono hwo)).trans (HBq.out.toBelow (by omega) (fun k hk => by omega))
          have HBp2 : Hid (But (fun b => b = tb) w wp) := (But.below (HB2.out.trans (HB.out.mono hwo))).trans HBq.out
          have hhl : i = hs.length := by have := HLh.out; omega
          have HHl := Lib.hid hhl
          clear hhl
          go_wp2_with fail
          go_loopw [21] (fun s21 wr => ∃ j : Nat, s21 = .int .i64 j ∧ j ≤ i ∧ Hid (Below wp.heap.size wp wr)) (fun s21 _ => i - (intOf s21).toNat)
          case atStart => exact ⟨0, rfl, Nat.zero_le _, Below.refl _ _⟩
          case round =>
            obtain ⟨wz, rfl⟩ : ∃ wz : World, wz = wr := ⟨wr, rfl⟩
            obtain ⟨j, rfl, hji, HBz⟩ := hrel
            by_cases hlt3 : j < i
            · have hjh : j < hs.length := by rw [← HHl.out]; exact hlt3
              have hjx : j < xs.length := by rw [HXl.out]; exact hlt3
              obtain ⟨b, off, rfl, hb, y0⟩ := HEl.out j hjh
              obtain ⟨s, hss⟩ : ∃ s, hs[j] = s := ⟨_, rfl⟩
              rw [hss] at y0
              have hsz : s.size ≤ maxLen := by rw [← hss]; exact HZs.out _ (List.getElem_mem hjh)
              have y1 := ((HBp.out.trans (HBz.out.mono HBp.out.size)).cell (p := ⟨b, off + j, none⟩) hb).trans y0
              have hlk := lookup_any (HTq.out.below HBz.out) s hsz
              rw [Fb.outd_look HOk.out HOq.out] at hlk
              have HLk := Lib.hid hlk
              obtain ⟨g1, g2⟩ := HXw.out j hjx hjh
              rw [hss] at g1 g2
              obtain ⟨gb, gcap, hgv, hgb, hgl⟩ := HOw.out.form (by omega)
              injection hgv with hga hgx hgc
              clear hgx
              subst hga hgc
              have k0 := HOw.out.cellAt (j * 2) (by omega)
              have k1 := HOw.out.cellAt (j * 2 + 1) (by omega)
              obtain ⟨q0, q1⟩ := cellsA_get xs j hjx
              rw [q0] at k0
              rw [q1] at k1
              rw [g1] at k0
              have HK : Hid (∀ Wx, Below wz.heap.size wz Wx → Wx.cell? ⟨gb, j * 2, none⟩ = some (.int .i64 (Fb.lookS L W s).1) ∧ Wx.cell? ⟨gb, j * 2 + 1, none⟩ = some (.slice xs[j].a xs[j].n xs[j].c)) := fun Wx hWx => by
                have hb9 := HBz.out.trans (hWx.mono HBz.out.size)
                exact ⟨(hb9.cell (p := ⟨gb, j * 2, none⟩) hgl).trans k0, (hb9.cell (p := ⟨gb, j * 2 + 1, none⟩) hgl).trans k1⟩
              have HG2 := Lib.hid (RdsS.below g2 HBz.out)
              clear y0 hss hsz hlk g1 g2 k0 k1 q0 q1
              go_wp2_with fail
              refine HLk.out.mono ?_
              rintro e w7 ⟨hb7, a7, n7, c7, hr7, rfl⟩
              obtain ⟨W7, hW7⟩ : ∃ W7, W7 = w7.alloc (.cells #[.int .i64 (Fb.lookS L W s).1, .slice a7 n7 c7] 31) := ⟨_, rfl⟩
              have hb7a : Below w7.heap.size w7 W7 := by rw [hW7]; exact (Below.refl _ _).alloc (Nat.le_refl _) _
              have hB7 : Below wz.heap.size wz W7 := hb7.trans (hb7a.mono hb7.size)
              have hh7 : W7.heap[w7.heap.size]? = some (.cells #[.int .i64 (Fb.lookS L W s).1, .slice a7 n7 c7] 31 (0, 0)) := by rw [hW7]; exact heap_alloc_new _ _
              have p0 : W7.cell? ⟨w7.heap.size, 0, none⟩ = some (.int .i64 (Fb.lookS L W s).1) := by simp [World.cell?, hh7]
              have p1 : W7.cell? ⟨w7.heap.size, 1, none⟩ = some (.slice a7 n7 c7) := by simp [World.cell?, hh7]
              obtain ⟨r0, r1⟩ := HK.out W7 hB7
              have HSm : Hid (∀ Wx, Below W7.heap.size W7 Wx → Calls Try.prog 15 #[.agg #[.int .i64 (Fb.lookS L W s).1, .slice a7 n7 c7], .agg #[.int .i64 (Fb.lookS L W s).1, .slice xs[j].a xs[j].n xs[j].c]] Wx fun e w' => e = .returned (.bool true) ∧ Below Wx.heap.size Wx w') := fun Wx hWx =>
                (same_same (Fb.lookS L W s).1 a7 xs[j].a n7 xs[j].n c7 xs[j].c (Fb.lookS L W s).2.1 Wx ((hr7.1.below hb7a).below hWx) ((HG2.out.below hB7).below hWx)).mono fun e w' he => ⟨he.1, he.2.below⟩
              have hl7 : w7.heap.size < W7.heap.size := by rw [hW7]; simp
              have HK7 : Hid (∀ Wx, Below W7.heap.size W7 Wx → Wx.cell? ⟨w7.heap.size, 0, none⟩ = some (.int .i64 (Fb.lookS L W s).1) ∧ Wx.cell? ⟨w7.heap.size, 1, none⟩ = some (.slice a7 n7 c7) ∧ Wx.cell? ⟨gb, j * 2, none⟩ = some (.int .i64 (Fb.lookS L W s).1) ∧ Wx.cell? ⟨gb, j * 2 + 1, none⟩ = some (.slice xs[j].a xs[j].n xs[j].c)) := fun Wx hWx => by
                have hg7 : gb < W7.heap.size := Nat.lt_of_lt_of_le hgl (Nat.le_trans HBz.out.size hB7.size)
                exact ⟨(hWx.cell (p := ⟨w7.heap.size, 0, none⟩) hl7).trans p0, (hWx.cell (p := ⟨w7.heap.size, 1, none⟩) hl7).trans p1, (hWx.cell (p := ⟨gb, j * 2, none⟩) hg7).trans r0, (hWx.cell (p := ⟨gb, j * 2 + 1, none⟩) hg7).trans r1⟩
              have HB7 := Lib.hid (HBz.out.trans (hB7.mono HBz.out.size))
              have HW7 := Lib.hid hW7
              clear hb7 hr7 hb7a hB7 hh7 hW7 y1
              go_upto_region 26 with fail
              rw [← HW7.out]
              clear HW7
              go_region_held3 (fun w' => w'.cell? ⟨w7.heap.size, 0, none⟩ = some (.int .i64 (Fb.lookS L W s).1) ∧ w'.cell? ⟨w7.heap.size, 1, none⟩ = some (.slice a7 n7 c7) ∧ w'.cell? ⟨gb, j * 2, none⟩ = some (.int .i64 (Fb.lookS L W s).1) ∧ w'.cell? ⟨gb, j * 2 + 1, none⟩ = some (.slice xs[j].a xs[j].n xs[j].c)) (first | exact ⟨p0, p1, r0, r1⟩ | exact HK7.out _ (((Below.refl _ W7).drew.trans HB9.out)) | exact HK7.out _ HB9.out | go_keep) (first | (go_at_call 15; refine (HSm.out _ (by repeat (first | (with_reducible exact Below.refl _ _) | (with_reducible refine Below.drew ?_)))).mono ?_; rintro _ w9 ⟨rfl, hb9⟩; have HB9 := Lib.hid hb9; clear hb9))
              all_goals
                go_wp2_with fail
                go_roundw
                case rel => exact ⟨j + 1, by first | rfl | go_num, by omega, HB7.out.trans (((Below.refl _ W7).drew.trans HB9.out).mono HB7.out.size)⟩
                case measure => simp [intOf]; omega
            · go_wp2_with fail
              go_ret
              exact ⟨rfl, HBp.out.trans (HBz.out.mono HBp.out.size)⟩
end Go.Proofs.Ytlamhpiiikcpiaa
/-
  A slice of strings that came in reads as strings, and is no longer than its weight allows.
-/
namespace Go.Proofs.Ytlamhpiiikcpiaa
open Go.ChangeShapes Go.WideShapes Go.RowKit

theorem addr_add (b off i : Nat) : (⟨b, off, none⟩ : Addr).add i = ⟨b, off + i, none⟩ := by unfold Addr.add; split <;> simp_all

theorem strs_of {H : Type} {enc : TypeId × Value → H} {P : Program} {W : World} {base : Nat} {spare : Nat → Bool} {held : Bool} {t e : TypeId} {a : Option Addr} {len cap : Nat} {d : DataW H} {ps : List MemPlace} {ts : List TypeId} {ds : List (DataW H)} {j : Nat}
    (hsz : (DataW.weightsEach P ts ds).all (· ≤ reachBytes) = true) (ht : ts[j]? = some t) (hd : ds[j]? = some d) (hu : P.underlying t = some (.slice e)) (he : P.underlying e = some .string) (hc : P.cellsOf e = 1) (hB : P.bytesOf e = 16)
    (h : DataW.Trod enc P W base spare held t (.slice a len cap) d ps) : ∃ ss : List ByteArray, RdsS W (.slice a len cap) ss ∧ (∀ s ∈ ss, s.size ≤ maxLen) ∧ ss.length * 16 ≤ 140737488351232 := by
  obtain ⟨fuel, hf⟩ := h
  rcases open_strings hu he hc hf with ⟨hcs, _⟩ | ⟨x, l, c, ss, hcs, _, hl, hm, hz, hx, hcell, hws⟩
  · simp [Value.cells] at hcs
    obtain ⟨rfl, rfl, rfl⟩ := hcs
    exact ⟨[], rdsS_nil W, by simp, by simp⟩
  · simp [Value.cells] at hcs
    obtain ⟨rfl, rfl, rfl⟩ := hcs
    obtain ⟨hx, _⟩ := Prod.mk.inj hx
    subst hx
    have z := sized_slice hsz ht hd hu
    rw [hB] at z
    have hl2 : len ≤ ss.length := by
      rw [hz]
      split
      · exact hl
      · exact Nat.le_refl _
    have h1 : (strs (H := H) (ss.take len)).length + (strs (H := H) (ss.drop len)).length = ss.length := by
      simp [strs]
      omega
    rw [h1] at z
    have hr : reachBytes = 140737488351232 := by decide
    rw [hr] at z
    have htl : (ss.take len).length = len := by simp; omega
    refine ⟨ss.take len, ?_, fun s hs => hws s (List.mem_of_mem_take hs), by rw [htl]; omega⟩
    rcases Nat.eq_zero_or_pos len with h0 | h0
    · subst h0
      simp only [List.take_zero]
      exact rdsS_empty W x cap
    · have hc0 := hcell 0 (by omega)
      have hx0 : x.add 0 = x := by unfold Addr.add; rw [if_pos rfl]
      rw [hx0] at hc0
      have hsp : x.spot = none := by
        cases hs : x.spot with
        | none => rfl
        | some n =>
          unfold World.cell? at hc0
          split at hc0
          · rw [hs] at hc0; simp at hc0
          · cases hc0
      obtain ⟨b, off, sp⟩ := x
      simp only at hsp
      subst hsp
      have hlt := World.block_lt_of_cell? W _ hc0
      have := rdsS_mk (w := W) (ss := ss.take len) (b := b) (off := off) (cap := cap) (by omega) hm hlt (fun i hi => by
        have hi' : i < len := by omega
        have := hcell i (by omega)
        rw [addr_add] at this
        rw [this, List.getD_eq_getElem?_getD, List.getElem?_eq_getElem (show i < ss.length by omega)]
        simp)
      rw [htl] at this
      exact this
end Go.Proofs.Ytlamhpiiikcpiaa
