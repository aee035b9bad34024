/-
  Walks: awake: two rules that are known.
-/
import Derived.Test.YtlamhpiiikcpiaaFibMC
import Derived.Test.YtlamhpiiikcpiaaFibMB
import Derived.BigQuiet
import Derived.Deep.RegionHeld3
import Derived.SizedLaws
import Derived.SliceStrings
import Derived.ProofKit
import Derived.Deep.Slices
import Derived.Deep.Strs
import Derived.Test.YtlamhpiiikcpiaaRul
import Derived.Test.YtlamhpiiikcpiaaFibMA
namespace Go.Proofs.Ytlamhpiiikcpiaa
open Go.RowKit Go.Shelf Go.Lib Go.Sort
set_option linter.unusedVariables false
set_option linter.unusedSectionVars false
set_option linter.unusedSimpArgs false

namespace Aw
abbrev p1 : ByteArray := ⟨#[112]⟩
abbrev m1 : ByteArray := ⟨#[49, 120]⟩
abbrev m2 : ByteArray := ⟨#[49, 49]⟩
abbrev h2 : ByteArray := ⟨#[49, 48]⟩
abbrev h3 : ByteArray := ⟨#[48, 48]⟩
def r1 : Rl := ⟨5, m1, 3, [p1]⟩
def r2 : Rl := ⟨9, m2, 2, []⟩
theorem done : Fb.doL 2 [] [(1, r1), (1, r2)] 0 = (some [r2, r1], 0, 0) := by kernel_rfl
theorem end_ : Fb.endL 2 [] [(1, r1), (1, r2)] = [r2, r1] := by kernel_rfl
theorem look1 : Fb.lookS [r2, r1] 2 m2 = (2, [], 0) := by kernel_rfl
theorem look2 : Fb.lookS [r2, r1] 2 h2 = (3, [p1], 0) := by kernel_rfl
theorem look3 : Fb.lookS [r2, r1] 2 h3 = (1, [], 0) := by kernel_rfl
end Aw

/-- Lookup, at an answer that is known. -/
theorem lookup_is {ok : Nat → Prop} {w : World} {tb : Nat} {v : Value} {L : List Rl} {W : Int} (h : Tab 0 1 ok w tb v L W) (s : ByteArray) (hs : s.size ≤ maxLen) {k e : Int} {ps : List ByteArray} (hS : Fb.lookS L W s = (k, ps, e)) :
    Calls Try.prog 12 #[.pointer (some ⟨tb, 0, none⟩), .string s] w fun e' w' => ∃ (a : Option Addr) (n c : Nat), e' = .returned (.tuple #[.agg #[.int .i64 k, .slice a n c], .int .i64 e]) ∧ RdsO (fun b => w.heap.size ≤ b) w' (.slice a n c) ps ∧ Below w.heap.size w w' := by
  have := lookup_any h s hs
  rw [hS] at this
  refine this.mono ?_
  rintro e' w' ⟨hb, a, n, c, hr, rfl⟩
  exact ⟨a, n, c, rfl, hr, hb⟩

theorem small_le (s : ByteArray) (h : s.size ≤ 64) : s.size ≤ maxLen := by unfold maxLen; omega

set_option maxHeartbeats 1600000 in
set_option maxRecDepth 20000 in
theorem awake_any (w : World) : Calls Try.prog 9 #[] w fun e w' => e = .returned (.bool true) ∧ Below w.heap.size w w' := by
  obtain ⟨W1, hW1⟩ : ∃ W1, W1 = w.alloc (.cells #[.slice none 0 0, .int .i64 2] 69) := ⟨_, rfl⟩
  have hb1 : Below w.heap.size w W1 := by rw [hW1]; exact (Below.refl _ _).alloc (Nat.le_refl _) _
  have hs1 : W1.heap.size = w.heap.size + 1 := by rw [hW1]; simp
  have hT1 : Tab 0 1 (fun _ => False) W1 w.heap.size (.slice none 0 0) [] 2 := by rw [hW1]; exact tab_new w 2 (by decide) (by decide)
  have HNew : Hid (∀ Wx, Calls Try.prog 26 #[.int .i64 2] Wx fun e w' => e = .returned (.tuple #[.pointer (some ⟨Wx.heap.size, 0, none⟩), .int .i64 0]) ∧ w' = Wx.alloc (.cells #[.slice none 0 0, .int .i64 2] 69)) := fun Wx => new_ok 2 Wx (by decide) (by decide)
  obtain ⟨W2, hW2⟩ : ∃ W2, W2 = W1.alloc (.cells #[.string ⟨#[112]⟩] 9) := ⟨_, rfl⟩
  have hb2 : Below W1.heap.size W1 W2 := by rw [hW2]; exact (Below.refl _ _).alloc (Nat.le_refl _) _
  have hs2 : W2.heap.size = W1.heap.size + 1 := by rw [hW2]; simp
  have hr2 : RdsS W2 (.slice (some ⟨W1.heap.size, 0, none⟩) 1 1) [⟨#[112]⟩] := by
    rw [hW2]
    refine rdsS_mk (ss := [⟨#[112]⟩]) (by simp) (by unfold maxLen; simp) (by simp) ?_
    intro i hi
    match i, hi with
    | 0, _ => simp [go_sem]
  obtain ⟨W3, hW3⟩ : ∃ W3, W3 = W2.alloc (.cells #[.int .i64 1, .int .i64 5, .string ⟨#[49, 120]⟩, .int .i64 3, .slice (some ⟨W1.heap.size, 0, none⟩) 1 1, .int .i64 1, .int .i64 9, .string ⟨#[49, 49]⟩, .int .i64 2, .slice none 0 0] 51) := ⟨_, rfl⟩
  have hb3 : Below W2.heap.size W2 W3 := by rw [hW3]; exact (Below.refl _ _).alloc (Nat.le_refl _) _
  have hh3 : W3.heap[W2.heap.size]? = some (.cells #[.int .i64 1, .int .i64 5, .string ⟨#[49, 120]⟩, .int .i64 3, .slice (some ⟨W1.heap.size, 0, none⟩) 1 1, .int .i64 1, .int .i64 9, .string ⟨#[49, 49]⟩, .int .i64 2, .slice none 0 0] 51 (0, 0)) := by rw [hW3]; exact heap_alloc_new _ _
  have hc3 : RdsC (fun _ => True) W3 (.slice (some ⟨W2.heap.size, 0, none⟩) 2 2) [(1, Aw.r1), (1, Aw.r2)] := by
    refine two_rdsC (x := ⟨5, ⟨#[49, 120]⟩, 3, some ⟨W1.heap.size, 0, none⟩, 1, 1⟩) (y := ⟨9, ⟨#[49, 49]⟩, 2, none, 0, 0⟩) hh3 ⟨rfl, rfl, rfl, ⟨hr2.below hb3, fun _ _ _ _ _ => trivial⟩, ⟨by decide, by decide, ?_⟩⟩ ⟨rfl, rfl, rfl, ⟨rdsS_nil _, okV_nil _ _ _⟩, ⟨by decide, by decide, fun s hs => by cases hs⟩⟩ trivial
    intro s hs
    have : s = Aw.p1 := by simpa [Aw.r1] using hs
    rw [this]; decide
  have hDo := do_tab ((hT1.below hb2).below hb3) hc3 (by simp) (Fb.ok_nil 2)
  rw [Aw.done, Aw.end_] at hDo
  have HDo := Lib.hid hDo
  have HB13 := Lib.hid (hb2.trans (hb3.mono (by omega)))
  have HB1 := Lib.hid hb1
  have HS1 := Lib.hid hs1
  have hs23 : W2.heap.size < W3.heap.size := by rw [hW3]; simp
  rw [hW2] at hW3
  have HW3 := Lib.hid hW3
  have HW1 := Lib.hid hW1
  have HS2 := Lib.hid hs2
  have HS3 := Lib.hid hs23
  clear hb1 hs1 hT1 hb2 hs2 hr2 hb3 hh3 hc3 hDo hW1 hW2 hW3 hs23
  go_enter Try.func9, Try.ntmps9
  go_wp2_with fail
  refine (HNew.out _).mono ?_
  rintro e w1 ⟨rfl, rfl⟩
  rw [← HW1.out]
  go_wp2_with fail
  rw [← HW3.out]
  have hsz2 : W1.heap.size + 1 = W2.heap.size := HS2.out.symm
  rw [hsz2]
  refine HDo.out.mono ?_
  rintro e w4 ⟨rfl, ⟨v4, hT4⟩, hbt⟩
  have hB4 : Below w.heap.size w w4 := (HB1.out.trans (HB13.out.mono (by rw [HS1.out]; omega))).trans (hbt.toBelow (by have := HB13.out.size; have := HS1.out; omega) (fun k hk => by omega))
  have HB4 := Lib.hid hB4
  have HT4 := Lib.hid hT4
  have HK1 := Lib.hid (lookup_is hT4 ⟨#[49, 49]⟩ (small_le _ (by decide)) Aw.look1)
  clear hB4 hT4 hbt hsz2
  go_wp2_with fail
  refine HK1.out.mono ?_
  rintro e w5 ⟨a5, n5, c5, rfl, hr5, hb5⟩
  obtain ⟨W5, hW5⟩ : ∃ W5, W5 = w5.alloc (.cells #[.int .i64 2, .slice a5 n5 c5] 31) := ⟨_, rfl⟩
  have hb5a : Below w5.heap.size w5 W5 := by rw [hW5]; exact (Below.refl _ _).alloc (Nat.le_refl _) _
  have hB5 : Below w4.heap.size w4 W5 := hb5.trans (hb5a.mono hb5.size)
  have k5 : W5.cell? ⟨w5.heap.size, 0, none⟩ = some (.int .i64 2) := by rw [hW5]; simp [go_sem]
  have hl5 : w5.heap.size < W5.heap.size := by rw [hW5]; simp
  have HT5 := Lib.hid (HT4.out.below hB5)
  have HK2 := Lib.hid (lookup_is HT5.out ⟨#[49, 48]⟩ (small_le _ (by decide)) Aw.look2)
  have HB5 := Lib.hid hB5
  have HW5 := Lib.hid hW5
  clear hr5 hb5 hb5a hB5 hW5
  go_upto_region 6 with fail
  rw [← HW5.out]
  clear HW5
  go_wp2_with fail
  refine HK2.out.mono ?_
  rintro e w6 ⟨a6, n6, c6, rfl, hr6, hb6⟩
  obtain ⟨W6, hW6⟩ : ∃ W6, W6 = w6.alloc (.cells #[.int .i64 3, .slice a6 n6 c6] 31) := ⟨_, rfl⟩
  have hb6a : Below w6.heap.size w6 W6 := by rw [hW6]; exact (Below.refl _ _).alloc (Nat.le_refl _) _
  have hB6 : Below W5.heap.size W5 W6 := hb6.trans (hb6a.mono hb6.size)
  have k6 : W6.cell? ⟨w6.heap.size, 0, none⟩ = some (.int .i64 3) := by rw [hW6]; simp [go_sem]
  have hl6 : w6.heap.size < W6.heap.size := by rw [hW6]; simp
  have k56 := (hB6.cell (p := ⟨w5.heap.size, 0, none⟩) hl5).trans k5
  have HT6 := Lib.hid (HT5.out.below hB6)
  have HK3 := Lib.hid (lookup_is HT6.out ⟨#[48, 48]⟩ (small_le _ (by decide)) Aw.look3)
  have HB6 := Lib.hid hB6
  have HW6 := Lib.hid hW6
  clear hr6 hb6 hb6a hB6 hW6 k5
  go_upto_region 7 with fail
  rw [← HW6.out]
  clear HW6
  go_wp2_with fail
  refine HK3.out.mono ?_
  rintro e w7 ⟨a7, n7, c7, rfl, hr7, hb7⟩
  obtain ⟨W7, hW7⟩ : ∃ W7, W7 = w7.alloc (.cells #[.int .i64 1, .slice a7 n7 c7] 31) := ⟨_, rfl⟩
  have hb7a : Below w7.heap.size w7 W7 := by rw [hW7]; exact (Below.refl _ _).alloc (Nat.le_refl _) _
  have hB7 : Below W6.heap.size W6 W7 := hb7.trans (hb7a.mono hb7.size)
  have k7 : W7.cell? ⟨w7.heap.size, 0, none⟩ = some (.int .i64 1) := by rw [hW7]; simp [go_sem]
  have hl65 : w5.heap.size < W6.heap.size := Nat.lt_of_lt_of_le hl5 HB6.out.size
  have k57 := (hB7.cell (p := ⟨w5.heap.size, 0, none⟩) hl65).trans k56
  have k67 := (hB7.cell (p := ⟨w6.heap.size, 0, none⟩) hl6).trans k6
  have HT7 := Lib.hid (HT6.out.below hB7)
  have HLen := Lib.hid (len_tab HT7.out)
  have HB7 : Hid (Below w.heap.size w W7) := HB4.out.trans ((HB5.out.trans ((HB6.out.trans (hB7.mono HB6.out.size)).mono HB5.out.size)).mono HB4.out.size)
  have HW7 := Lib.hid hW7
  clear hr7 hb7 hb7a hB7 hW7 k56 k6
  go_upto_region 8 with fail
  rw [← HW7.out]
  clear HW7
  go_wp2_with fail
  refine HLen.out.mono ?_
  rintro e w8 ⟨rfl, rfl⟩
  go_wp2_with fail
  go_ret
  exact ⟨rfl, HB7.out⟩
end Go.Proofs.Ytlamhpiiikcpiaa
/-
  Walks: made: a table, and the document's, with changes done one by one.
-/
namespace Go.Proofs.Ytlamhpiiikcpiaa
open Go.RowKit Go.Shelf Go.Lib Go.Sort
set_option linter.unusedVariables false
set_option linter.unusedSectionVars false
set_option linter.unusedSimpArgs false

/-- One change of a row. -/
theorem RdsC.one {ok : Nat → Prop} {w : World} {b off n cap : Nat} {L : List (Int × Rl)} (h : RdsC ok w (.slice (some ⟨b, off, none⟩) n cap) L) (i : Nat) (hi : i < L.length) : RdsC ok w (.slice (some ⟨b, off + i * 5, none⟩) 1 (cap - i)) [L[i]] := by
  have hl : n = L.length ∧ n ≤ cap := by
    obtain ⟨xs, ad', n', cap', h1, h2, h3, h4, _⟩ := h
    injection h1 with e1 e2 e3
    subst e1 e2 e3
    exact ⟨h2, h4.1⟩
  have := h.part i (i + 1) (by omega) (by omega)
  have hne : ¬ cap = i := by omega
  have hadd : (⟨b, off, none⟩ : Addr).add (i * 5) = ⟨b, off + i * 5, none⟩ := by unfold Addr.add; split <;> simp_all
  have e : (L.take (i + 1)).drop i = [L[i]] := by
    rw [List.take_succ_eq_append_getElem hi]
    exact List.drop_left' (by rw [List.length_take]; omega)
  rw [if_neg hne, Option.map_some, hadd, e, show i + 1 - i = 1 by omega] at this
  exact this

set_option maxHeartbeats 1600000 in
set_option maxRecDepth 20000 in
theorem made_bad (W : Int) (cv : Value) (w : World) (hW : W < 1 ∨ W > 128) :
    Calls Try.prog 8 #[.int .i64 W, cv] w fun e w' => e = .returned (.tuple #[.pointer none, .pointer none, .bool true]) ∧ w' = w := by
  have HN : Hid (∀ Wx, Calls Try.prog 26 #[.int .i64 W] Wx fun e w' => e = .returned (.tuple #[.pointer none, .int .i64 1]) ∧ w' = Wx) := fun Wx => new_bad W Wx hW
  have HR : Hid (∀ Wx, Calls Try.prog 27 #[.int .i64 W] Wx fun e w' => e = .returned (.tuple #[.pointer none, .int .i64 1]) ∧ w' = Wx) := fun Wx => rNew_bad W Wx hW
  clear hW
  go_enter Try.func8, Try.ntmps8
  go_wp2_with fail
  refine (HN.out _).mono ?_
  rintro e w1 ⟨rfl, rfl⟩
  go_wp2_with fail
  refine (HR.out _).mono ?_
  rintro e w2 ⟨rfl, rfl⟩
  go_wp2_with fail
  go_loopw [11] (fun s11 wr => s11 = .int .i64 0 ∧ Hid (wr = w2)) (fun s11 _ => 0)
  case atStart => exact ⟨rfl, rfl⟩
  case round =>
    obtain ⟨rfl, HE⟩ := hrel
    go_wp2_with fail
    go_ret3
    exact ⟨rfl, HE.out⟩

/-- What made comes to, at a width that may be: two tables of the same rules. -/
def MadePost (W : Int) (m : List (Int × Rl)) (w : World) (e : Ending) (w' : World) : Prop := Below w.heap.size w w' ∧ ∃ (tb rb : Nat) (v v2 : Value), w.heap.size ≤ tb ∧ w.heap.size ≤ rb ∧ tb ≠ rb ∧
      e = .returned (.tuple #[.pointer (some ⟨tb, 0, none⟩), .pointer (some ⟨rb, 0, none⟩), .bool true]) ∧
      Tab 0 1 (fun b => w.heap.size ≤ b ∧ b ≠ tb ∧ b ≠ rb) w' tb v (Fb.mkL W (m.take 100)) W ∧ Tab 1 0 (fun b => w.heap.size ≤ b ∧ b ≠ tb ∧ b ≠ rb) w' rb v2 (Fb.mkL W (m.take 100)) W

set_option maxHeartbeats 1600000 in
set_option maxRecDepth 20000 in
theorem made_ok {ok2 : Nat → Prop} (W : Int) (cv : Value) (m : List (Int × Rl)) (w : World) (h1 : 1 ≤ W) (h2 : W ≤ 128) (hc : RdsC ok2 w cv m) (hm : m.length * 64 ≤ 140737488351232) :
    Calls Try.prog 8 #[.int .i64 W, cv] w (MadePost W m w) := by
  have HNw : Hid (∀ Wx, Calls Try.prog 26 #[.int .i64 W] Wx fun e w' => e = .returned (.tuple #[.pointer (some ⟨Wx.heap.size, 0, none⟩), .int .i64 0]) ∧ w' = Wx.alloc (.cells #[.slice none 0 0, .int .i64 W] 69)) := fun Wx => new_ok W Wx h1 h2
  have HRw : Hid (∀ Wx, Calls Try.prog 27 #[.int .i64 W] Wx fun e w' => e = .returned (.tuple #[.pointer (some ⟨Wx.heap.size, 0, none⟩), .int .i64 0]) ∧ w' = Wx.alloc (.cells #[.int .i64 W, .slice none 0 0] 48)) := fun Wx => rNew_ok W Wx h1 h2
  obtain ⟨W1, hW1⟩ : ∃ W1, W1 = w.alloc (.cells #[.slice none 0 0, .int .i64 W] 69) := ⟨_, rfl⟩
  have hb1 : Below w.heap.size w W1 := by rw [hW1]; exact (Below.refl _ _).alloc (Nat.le_refl _) _
  have hs1 : W1.heap.size = w.heap.size + 1 := by rw [hW1]; simp
  have hT1 : Tab 0 1 (fun _ => False) W1 w.heap.size (.slice none 0 0) [] W := by rw [hW1]; exact tab_new w W h1 h2
  obtain ⟨W2, hW2⟩ : ∃ W2, W2 = W1.alloc (.cells #[.int .i64 W, .slice none 0 0] 48) := ⟨_, rfl⟩
  have hb2 : Below W1.heap.size W1 W2 := by rw [hW2]; exact (Below.refl _ _).alloc (Nat.le_refl _) _
  have hs2 : W2.heap.size = W1.heap.size + 1 := by rw [hW2]; simp
  have hR2 : Tab 1 0 (fun _ => False) W2 W1.heap.size (.slice none 0 0) [] W := by rw [hW2]; exact rtab_new W1 W h1 h2
  have HT2 : Hid (Tab 0 1 (fun b => w.heap.size ≤ b ∧ b ≠ w.heap.size ∧ b ≠ W1.heap.size) W2 w.heap.size (.slice none 0 0) [] W) := (hT1.below hb2).mono (fun _ h => h.elim) (fun b hb => hb.2.1)
  have HR2 : Hid (Tab 1 0 (fun b => w.heap.size ≤ b ∧ b ≠ w.heap.size ∧ b ≠ W1.heap.size) W2 W1.heap.size (.slice none 0 0) [] W) := hR2.mono (fun _ h => h.elim) (fun b hb => hb.2.2)
  have HB2 : Hid (Below w.heap.size w W2) := hb1.trans (hb2.mono (by omega))
  obtain ⟨rb, hrb⟩ : ∃ rb, rb = W1.heap.size := ⟨_, rfl⟩
  have hne : w.heap.size ≠ rb := by omega
  have hsz2 : rb < W2.heap.size := by omega
  have HRB : Hid (w.heap.size ≤ rb) := by show _ ≤ _; omega
  obtain ⟨n, hn⟩ : ∃ n, n = m.length := ⟨_, rfl⟩
  have HN := Lib.hid hn
  rw [← hn] at hm
  obtain ⟨adc, capc, rfl, hcc, hcm⟩ := hc.form
  unfold maxLen at hcm
  have HC := Lib.hid hc
  rw [← hn] at HC hcc ⊢
  rw [← hrb] at HT2 HR2
  have HOk0 := Lib.hid (Fb.mkL_ok W)
  have HW1 := Lib.hid hW1
  have HW2 := Lib.hid hW2
  have HRb := Lib.hid hrb
  clear hc hn hb1 hs1 hT1 hb2 hs2 hR2 hW1 hW2 hrb
  go_enter Try.func8, Try.ntmps8
  go_wp2_with fail
  refine (HNw.out _).mono ?_
  rintro e w1 ⟨rfl, rfl⟩
  rw [← HW1.out]
  go_wp2_with fail
  refine (HRw.out _).mono ?_
  rintro e w2 ⟨rfl, rfl⟩
  rw [← HW2.out, ← HRb.out]
  clear HW1 HW2 HRb
  have hbn : (false != false) = false := rfl
  go_wp2_with fail
  go_loopw [11] (fun s11 wr => ∃ (i : Nat) (v v2 : Value), s11 = .int .i64 i ∧ i ≤ n ∧ i ≤ 100 ∧ Hid (Tab 0 1 (fun b => w.heap.size ≤ b ∧ b ≠ w.heap.size ∧ b ≠ rb) wr w.heap.size v (Fb.mkL W (m.take i)) W) ∧ Hid (Tab 1 0 (fun b => w.heap.size ≤ b ∧ b ≠ w.heap.size ∧ b ≠ rb) wr rb v2 (Fb.mkL W (m.take i)) W) ∧ Hid (Below w.heap.size w wr) ∧ Hid (rb < wr.heap.size)) (fun s11 _ => n - (intOf s11).toNat)
  case atStart => exact ⟨0, _, _, rfl, Nat.zero_le _, Nat.zero_le _, HT2.out, HR2.out, HB2.out, hsz2⟩
  case round =>
    obtain ⟨wo, rfl⟩ : ∃ wo : World, wo = wr := ⟨wr, rfl⟩
    obtain ⟨i, v, v2, rfl, hin, hi100, HT, HR, HB, HZ⟩ := hrel
    by_cases hlt : i < n
    · by_cases hlt2 : i < 100
      · have him : i < m.length := by rw [← HN.out]; exact hlt
        obtain ⟨b, off, k, x, rfl, hb, _, hk, x0, x1, x2, x3, x4, hx⟩ := HC.out.get i him
        have X0 := (HB.out.cell (p := ⟨b, off + i * 5, none⟩) hb).trans x0
        have X1 := (HB.out.cell (p := ⟨b, off + i * 5 + 1, none⟩) hb).trans x1
        have X2 := (HB.out.cell (p := ⟨b, off + i * 5 + 2, none⟩) hb).trans x2
        have X3 := (HB.out.cell (p := ⟨b, off + i * 5 + 3, none⟩) hb).trans x3
        have X4 := (HB.out.cell (p := ⟨b, off + i * 5 + 4, none⟩) hb).trans x4
        obtain ⟨W4, hW4⟩ : ∃ W4, W4 = wo.alloc (.cells #[.int .i64 k, .int .i64 x.p, .string x.m, .int .i64 x.k, .slice x.a x.n x.c] 51) := ⟨_, rfl⟩
        have hb4 : Below wo.heap.size wo W4 := by rw [hW4]; exact (Below.refl _ _).alloc (Nat.le_refl _) _
        have hh4 : W4.heap[wo.heap.size]? = some (.cells #[.int .i64 k, .int .i64 x.p, .string x.m, .int .i64 x.k, .slice x.a x.n x.c] 51 (0, 0)) := by rw [hW4]; exact heap_alloc_new _ _
        have hwx : Below w.heap.size w W4 := HB.out.trans (hb4.mono HB.out.size)
        have hd1 := do_tab (HT.out.below hb4) (one_rdsC hh4 ((Rl.okTrue hx).below hwx) trivial) (by simp) (HOk0.out (m.take i))
        rw [show (k, m[i].2) = m[i] by rw [hk]] at hd1
        obtain ⟨S, hS⟩ : ∃ S, S = Fb.doL W (Fb.mkL W (m.take i)) [m[i]] 0 := ⟨_, rfl⟩
        rw [← hS, ← Fb.mkL_succ W m i him] at hd1
        have HD1 := Lib.hid hd1
        have HSS := Lib.hid hS
        have HB4 := Lib.hid hb4
        have HW4 := Lib.hid hW4
        clear x0 x1 x2 x3 x4 hx hW4 hb4 hh4 hwx hd1 hk hS
        go_wp2_with fail
        rw [← HW4.out]
        clear HW4
        refine HD1.out.mono ?_
        rintro e w5 ⟨rfl, ⟨v5, hT5⟩, hbt5⟩
        have hw4 := HB4.out.size
        have HR5 := Lib.hid ((HR.out.below HB4.out).but hbt5 (fun e => hne e.symm) (fun b hb e => hb.2.1 e))
        clear X0 X1 X2 X3 X4
        have hbt05 : But (fun b => b = w.heap.size) w w5 := ((But.below (S := fun b => b = w.heap.size) HB.out).trans (But.below (S := fun b => b = w.heap.size) HB4.out)).trans hbt5
        have hc5 := (HC.out.lt.but hbt05 (fun b hb e => by have := hb.2; omega)).one i him
        have hd2 := rDo_tab HR5.out hc5 (by simp) (HOk0.out (m.take i))
        rw [← HSS.out, ← Fb.mkL_succ W m i him] at hd2
        have HD2 := Lib.hid hd2
        have hs5 := hbt5.size
        have hz := HZ.out
        have HT5 : Hid (Tab 0 1 (fun b => w.heap.size ≤ b ∧ b ≠ w.heap.size ∧ b ≠ rb) w5 w.heap.size v5 (Fb.mkL W (m.take (i + 1))) W) := hT5.mono (fun b hb => by
          rcases hb with hb | hb
          · exact hb.1
          · have := HRB.out
            exact ⟨by omega, by omega, by omega⟩) (fun b hb => hb.2.1)
        have HBt5 := Lib.hid hbt5
        clear hbt05 hc5 hd2 hT5 hbt5
        go_wp2_with fail
        refine HD2.out.mono ?_
        rintro e w6 ⟨rfl, ⟨v6, hR6⟩, hbt6⟩
        have hs6 := hbt6.size
        have HT6 := Lib.hid (HT5.out.but hbt6 (fun e => hne e) (fun b hb e => hb.2.2 e))
        have HR6 : Hid (Tab 1 0 (fun b => w.heap.size ≤ b ∧ b ≠ w.heap.size ∧ b ≠ rb) w6 rb v6 (Fb.mkL W (m.take (i + 1))) W) := hR6.mono (fun b hb => by
          rcases hb with hb | hb
          · exact hb.1
          · have := HRB.out
            exact ⟨by omega, by omega, by omega⟩) (fun b hb => hb.2.2)
        have HB6 : Hid (Below w.heap.size w w6) := ((HB.out.trans (HB4.out.mono HB.out.size)).trans (HBt5.out.toBelow (by have := HB.out.size; omega) (fun k hk => by omega))).trans (hbt6.toBelow (by have := HB.out.size; omega) (fun k hk => by have := HRB.out; omega))
        have hse : (S.2.2 != S.2.2) = false := by simp
        clear hR6 hbt6
        go_wp2_with fail
        go_roundw
        case rel => exact ⟨i + 1, v5, v6, by first | rfl | go_num, by omega, by omega, HT6.out, HR6.out, HB6.out, by show _ < _; omega⟩
        case measure => simp [intOf]; omega
      · have hi : i = 100 := by omega
        have hfin : m.take i = m.take 100 := by rw [hi]
        have HFin := Lib.hid hfin
        clear hfin
        have hi' : ¬ (i : Int) < 100 := by omega
        go_wp2_with fail
        go_ret3
        refine ⟨HB.out, w.heap.size, rb, v, v2, Nat.le_refl _, HRB.out, hne, rfl, ?_, ?_⟩
        · have := HT.out; rw [HFin.out] at this; exact this
        · have := HR.out; rw [HFin.out] at this; exact this
    · have hfin : m.take i = m.take 100 := by rw [List.take_of_length_le (by rw [← HN.out]; omega), List.take_of_length_le (by rw [← HN.out]; omega)]
      have HFin := Lib.hid hfin
      clear hfin
      go_wp2_with fail
      go_ret3
      refine ⟨HB.out, w.heap.size, rb, v, v2, Nat.le_refl _, HRB.out, hne, rfl, ?_, ?_⟩
      · have := HT.out; rw [HFin.out] at this; exact this
      · have := HR.out; rw [HFin.out] at this; exact this
end Go.Proofs.Ytlamhpiiikcpiaa
/-
  Walks: FibChanges.
-/
namespace Go.Proofs.Ytlamhpiiikcpiaa
open Go.RowKit Go.Shelf Go.Lib Go.Sort
set_option linter.unusedVariables false
set_option linter.unusedSectionVars false
set_option linter.unusedSimpArgs false

/-- Blocks that are new, but for two tables. -/
abbrev okT (B tb rb : Nat) : Nat → Prop := fun b => B ≤ b ∧ b ≠ tb ∧ b ≠ rb

theorem Tab.new {vo wo B tb rb t : Nat} {w w' : World} {v : Value} {L : List Rl} {W : Int} (h : Tab vo wo (okNew (okT B tb rb) w) w' t v L W) (hB : B ≤ w.heap.size) (h1 : tb < w.heap.size) (h2 : rb < w.heap.size) (ht : t = tb ∨ t = rb) : Tab vo wo (okT B tb rb) w' t v L W :=
  h.mono (fun b hb => by
    rcases hb with hb | hb
    · exact hb.1
    · exact ⟨by omega, by omega, by omega⟩) (fun b hb e => by
    rcases ht with h | h
    · exact hb.2.1 (e.trans h)
    · exact hb.2.2 (e.trans h))

/-- Rules, told loosely: for the calls of a region. -/
theorem rules_loose {ok : Nat → Prop} {w : World} {tb : Nat} {v : Value} {L : List Rl} {W : Int} (h : Tab 0 1 ok w tb v L W) (hL : L.length ≤ 4096) : ∀ Wx, Below w.heap.size w Wx → Calls Try.prog 18 #[.pointer (some ⟨tb, 0, none⟩)] Wx fun e w' => ∃ ad n c, e = .returned (.slice ad n c) ∧ RdsR (fun b => w.heap.size ≤ b) w' (.slice ad n c) L ∧ Below w.heap.size w w' := fun Wx hWx => by
  refine (rules_tab (h.below hWx) hL).mono ?_
  rintro e w' ⟨ad, c, rfl, hr, hb⟩
  exact ⟨ad, _, c, rfl, hr.mono fun b hb => Nat.le_trans hWx.size hb, hWx.trans (hb.mono hWx.size)⟩
theorem same_loose {L : List Rl} {w : World} : ∀ (ok ok2 : Nat → Prop) (Wx : World) (v1 v2 : Value), RdsR ok Wx v1 L → RdsR ok2 Wx v2 L → Below w.heap.size w Wx → Calls Try.prog 17 #[v1, v2] Wx fun e w' => e = .returned (.bool true) ∧ Below w.heap.size w w' := fun ok ok2 Wx v1 v2 h1 h2 hb => by
  refine (sameRules_same ok ok2 v1 v2 L Wx h1 h2).mono ?_
  rintro e w' ⟨rfl, hg⟩
  exact ⟨rfl, hb.trans (hg.below.mono hb.size)⟩

set_option maxHeartbeats 3200000 in
set_option maxRecDepth 20000 in
theorem FibChanges_walk (W : Int) (v1 : Value) (l : List (Int × Rl)) (v2 : Value) (m : List (Int × Rl)) (w : World) (h1 : RdsC (fun _ => True) w v1 l) (z1 : l.length * 64 ≤ 140737488351232) (h2 : RdsC (fun _ => True) w v2 m) (z2 : m.length * 64 ≤ 140737488351232) :
    Calls Try.prog 6 #[.int .i64 W, v1, v2] w fun e w' => e = .returned (.bool true) ∧ Below w.heap.size w w' := by
  have HAw : Hid (∀ Wx, Calls Try.prog 9 #[] Wx fun e w' => e = .returned (.bool true) ∧ Below Wx.heap.size Wx w') := fun Wx => awake_any Wx
  by_cases hW : W < 1 ∨ W > 128
  · have HM := Lib.hid (made_bad W v1 w hW)
    clear h1 h2 hW
    go_enter Try.func6, Try.ntmps6
    go_wp2_with fail
    refine HM.out.mono ?_
    rintro e w1 ⟨rfl, rfl⟩
    go_wp2_with fail
    refine (HAw.out _).mono ?_
    rintro e w2 ⟨rfl, hb⟩
    have HB := Lib.hid hb
    clear hb
    go_wp2_with fail
    go_ret
    exact ⟨rfl, HB.out⟩
  have HM := Lib.hid (made_ok W v1 l w (by omega) (by omega) h1 z1)
  have HC := Lib.hid h2.lt
  obtain ⟨L, hL⟩ : ∃ L, L = Fb.mkL W (l.take 100) := ⟨_, rfl⟩
  have HOk : Hid (Fb.Ok W L) := by rw [hL]; exact Fb.mkL_ok W _
  have HL := Lib.hid hL
  obtain ⟨S, hS⟩ : ∃ S, S = Fb.doL W L m 0 := ⟨_, rfl⟩
  have HS := Lib.hid hS
  clear h1 h2 hW hL hS
  go_enter Try.func6, Try.ntmps6
  go_wp2_with fail
  refine HM.out.mono ?_
  rintro e w1 ⟨hb1, tb, rb, v, vr, ht, hr, hne, rfl, hT, hR⟩
  rw [← HL.out] at hT hR
  have HB1 := Lib.hid hb1
  have HT1 := Lib.hid hT
  have HR1 := Lib.hid hR
  clear hb1 hT hR
  go_wp2_with fail
  refine (HAw.out _).mono ?_
  rintro e w2 ⟨rfl, hb2⟩
  have HB2 := Lib.hid hb2
  have HT2 := Lib.hid (HT1.out.below hb2)
  have HR2 := Lib.hid (HR1.out.below hb2)
  have c2 := HR2.out.c0
  have HRu := Lib.hid (rules_loose HT2.out HOk.out.few)
  have HSa := Lib.hid (same_loose (L := L) (w := w2))
  clear hb2
  go_upto_region 6 with fail
  go_region_with (first
    | (go_at_call 18; refine (HRu.out _ (by repeat (first | (with_reducible exact Below.refl _ _) | (with_reducible refine Below.drew ?_)))).mono ?_; rintro _ w3 ⟨ad3, n3, c3, rfl, hr3, hb3⟩; have c3' := ((HR2.out.below hb3).c0); have HR3 := Lib.hid hr3; have HB3 := Lib.hid hb3; clear hr3 hb3)
    | (go_at_call 17; refine (HSa.out _ _ _ _ _ HR3.out (HR2.out.below HB3.out).rd HB3.out).mono ?_; rintro _ w4 ⟨rfl, hb4⟩; have HB4 := Lib.hid hb4; clear hb4))
  all_goals
    have HT4 := Lib.hid (HT2.out.below HB4.out)
    have HR4 := Lib.hid (HR2.out.below HB4.out)
    have hB4 : Below w.heap.size w w4 := HB1.out.trans ((HB2.out.trans (HB4.out.mono HB2.out.size)).mono HB1.out.size)
    have HB04 := Lib.hid hB4
    have hl4 := hB4.size
    have htl : tb < w4.heap.size := HT4.out.lt
    have hrl : rb < w4.heap.size := HR4.out.lt
    have hd := do_tab HT4.out (HC.out.below hB4) z2 HOk.out
    rw [← HS.out] at hd
    have HD := Lib.hid hd
    clear hd hB4 c2 c3'
    go_wp2_with fail
    refine HD.out.mono ?_
    rintro e w5 ⟨rfl, ⟨v5, hT5⟩, hbt5⟩
    have HT5 := Lib.hid (hT5.new hl4 htl hrl (.inl rfl))
    have HR5 := Lib.hid (HR4.out.but hbt5 (fun e => hne e.symm) (fun b hb e => hb.2.1 e))
    have hs5 := hbt5.size
    have HBt5 := Lib.hid hbt5
    have hc5 := (HC.out.below HB04.out).but hbt5 (fun b hb e => by have := hb.2; omega)
    have hd := rDo_tab HR5.out hc5 z2 HOk.out
    rw [← HS.out] at hd
    have HD2 := Lib.hid hd
    clear hd hT5 hbt5 hc5
    go_wp2_with fail
    refine HD2.out.mono ?_
    rintro e w6 ⟨rfl, ⟨v6, hR6⟩, hbt6⟩
    have HR6 := Lib.hid (hR6.new (Nat.le_trans hl4 hs5) (Nat.lt_of_lt_of_le htl hs5) (Nat.lt_of_lt_of_le hrl hs5) (.inr rfl))
    have HT6 := Lib.hid (HT5.out.but hbt6 (fun e => hne e) (fun b hb e => hb.2.2 e))
    have hOk6 := HOk.out.end_ m
    have HB6 : Hid (Below w.heap.size w w6) := (HB04.out.trans (HBt5.out.toBelow hl4 (fun k hk => by omega))).trans (hbt6.toBelow (by omega) (fun k hk => by omega))
    have HRu6 := Lib.hid (rules_loose HT6.out hOk6.few)
    have HSa6 := Lib.hid (same_loose (L := Fb.endL W L m) (w := w6))
    have HLn : Hid (∀ Wx, Below w6.heap.size w6 Wx → Calls Try.prog 22 #[.pointer (some ⟨tb, 0, none⟩)] Wx fun e w' => e = .returned (.int .i64 (Fb.endL W L m).length) ∧ Wx = w') := fun Wx hWx => len_tab (HT6.out.below hWx)
    have HWd : Hid (∀ Wx, Below w6.heap.size w6 Wx → Calls Try.prog 23 #[.pointer (some ⟨tb, 0, none⟩)] Wx fun e w' => e = .returned (.int .i64 W) ∧ Wx = w') := fun Wx hWx => width_tab (HT6.out.below hWx)
    obtain ⟨n6, hn6⟩ : ∃ n6, n6 = (Fb.endL W L m).length := ⟨_, rfl⟩
    rw [← hn6] at HLn
    obtain ⟨ad6, cp6, rfl, _, _⟩ := HR6.out.rd.form
    rw [← hn6] at HR6
    have c6 := HR6.out.c0
    clear hR6 hbt6 hOk6 hn6
    go_upto_region 10 with fail
    go_region_held3 (fun w' => w'.cell? ⟨rb, 1, none⟩ = some (.slice ad6 n6 cp6)) (first | assumption | go_keep) (first
      | (go_at_call 18; refine (HRu6.out _ (by repeat (first | (with_reducible exact Below.refl _ _) | (with_reducible refine Below.drew ?_)))).mono ?_; rintro _ w7 ⟨ad7, n7, c7, rfl, hr7, hb7⟩; have c7' := ((HR6.out.below hb7).c0); have HR7 := Lib.hid hr7; have HB7 := Lib.hid hb7; clear hr7 hb7)
      | (go_at_call 17; refine (HSa6.out _ _ _ _ _ HR7.out (HR6.out.below HB7.out).rd HB7.out).mono ?_; rintro _ w8 ⟨rfl, hb8⟩; have HB8 := Lib.hid hb8; have c8 := ((HR6.out.below hb8).c0); clear hb8)
      | (go_at_call 22; refine (HLn.out _ HB8.out).mono ?_; rintro _ w9 ⟨rfl, rfl⟩)
      | (go_at_call 23; refine (HWd.out _ HB8.out).mono ?_; rintro _ w9 ⟨rfl, rfl⟩))
    all_goals
      go_wp2_with fail
      go_ret
      exact ⟨rfl, HB6.out.trans (HB8.out.mono HB6.out.size)⟩
end Go.Proofs.Ytlamhpiiikcpiaa
/-
  Slices of rules that came in read as rules, and are no longer than their weights allow.
-/
namespace Go.Proofs.Ytlamhpiiikcpiaa
open Go.ChangeShapes Go.WideShapes Go.RowKit Go.Deep

section
variable {H : Type} {P : Program}
theorem w_all {e : TypeId} : ∀ {l : List (DataW H)} {d : DataW H}, d ∈ l → ∀ n ∈ d.weights P e, n ∈ DataW.weightsAll P e l
  | x :: l, d, hd, n, hn => by
    rcases List.mem_cons.1 hd with rfl | hd
    · simp only [DataW.weightsAll, List.mem_append]; exact .inl hn
    · simp only [DataW.weightsAll, List.mem_append]; exact .inr (w_all hd n hn)
theorem w_elem {t e : TypeId} (hu : P.underlying t = some (.slice e)) {el sp : List (DataW H)} {d : DataW H} (hd : d ∈ el) : ∀ n ∈ d.weights P e, n ∈ (DataW.slice el sp).weights P t := by
  intro n hn
  simp only [DataW.weights, hu, List.mem_cons, List.mem_append]
  exact .inr (.inl (w_all hd n hn))
theorem w_len {t e : TypeId} (hu : P.underlying t = some (.slice e)) {el sp : List (DataW H)} : (el.length + sp.length) * P.bytesOf e ∈ (DataW.slice el sp).weights P t := by
  simp only [DataW.weights, hu, List.mem_cons]
  exact .inl trivial
theorem w_field {t : TypeId} {fs : Array Field} (hu : P.underlying t = some (.struct fs)) {parts : List (DataW H)} {j : Nat} {e : TypeId} {d : DataW H} (hf : (fs.toList.map (·.type))[j]? = some e) (hd : parts[j]? = some d) : ∀ n ∈ d.weights P e, n ∈ (DataW.agg parts).weights P t := by
  intro n hn
  simp only [DataW.weights, hu]
  exact DataW.weights_mem_each hf hd n hn
theorem w_string {t : TypeId} {bytes : List UInt8} : bytes.length ∈ (DataW.lit (.string bytes) : DataW H).weights P t := by simp [DataW.weights]
end

theorem spot_none {W : World} {x : Addr} {v : Value} (h : W.cell? x = some v) : x.spot = none := by
  cases hs : x.spot with
  | none => rfl
  | some n =>
    unfold World.cell? at h
    split at h
    · rw [hs] at h; simp at h
    · cases h

theorem reach_is : reachBytes = 140737488351232 := by decide

/-- A slice of strings inside of what came in. -/
theorem strs_in {H : Type} {enc : TypeId × Value → H} {P : Program} {W : World} {base : Nat} {spare : Nat → Bool} {held : Bool} {t e : TypeId} {v : Value} {d : DataW H} {ps : List MemPlace} {fuel : Nat}
    (hu : P.underlying t = some (.slice e)) (he : P.underlying e = some .string) (hc : P.cellsOf e = 1) (hB : P.bytesOf e = 16) (hw : ∀ n ∈ d.weights P t, n ≤ reachBytes)
    (h : DataW.trod enc P W base spare held fuel t [v] = some (d, ps)) : ∃ ad n c ss, v = .slice ad n c ∧ RdsS W v ss ∧ (∀ s ∈ ss, s.size ≤ 140737488351232) ∧ ss.length * 16 ≤ 140737488351232 := by
  rw [reach_is] at hw
  rcases open_strings hu he hc h with ⟨hcs, _⟩ | ⟨x, l, c, ss, hcs, _, hl, hm, hz, hx, hcell, hws⟩
  · simp at hcs
    subst hcs
    exact ⟨none, 0, 0, [], rfl, rdsS_nil W, by simp, by simp⟩
  · simp at hcs
    subst hcs
    obtain ⟨hx, _⟩ := Prod.mk.inj hx
    subst hx
    have z := hw _ (w_len hu)
    rw [hB] at z
    have hl2 : l ≤ ss.length := by
      rw [hz]
      split
      · exact hl
      · exact Nat.le_refl _
    have h1 : (strs (H := H) (ss.take l)).length + (strs (H := H) (ss.drop l)).length = ss.length := by
      simp [strs]
      omega
    rw [h1] at z
    have htl : (ss.take l).length = l := by simp; omega
    refine ⟨some x, l, c, ss.take l, rfl, ?_, fun s hs => ?_, by rw [htl]; omega⟩
    · rcases Nat.eq_zero_or_pos l with h0 | h0
      · subst h0
        simp only [List.take_zero]
        exact rdsS_empty W x c
      · have hc0 := hcell 0 (by omega)
        have hx0 : x.add 0 = x := by unfold Addr.add; rw [if_pos rfl]
        rw [hx0] at hc0
        have hsp := spot_none hc0
        obtain ⟨b, off, sp⟩ := x
        simp only at hsp
        subst hsp
        have hlt := World.block_lt_of_cell? W _ hc0
        have hadd : ∀ i, (⟨b, off, none⟩ : Addr).add i = ⟨b, off + i, none⟩ := fun i => by unfold Addr.add; split <;> simp_all
        have := rdsS_mk (w := W) (ss := ss.take l) (b := b) (off := off) (cap := c) (by omega) hm hlt (fun i hi => by
          have hi' : i < l := by omega
          have := hcell i (by omega)
          rw [hadd] at this
          rw [this, List.getD_eq_getElem?_getD, List.getElem?_eq_getElem (show i < ss.length by omega)]
          simp)
        rw [htl] at this
        exact this
    · have hm2 : (DataW.lit (.string s.data.toList) : DataW H) ∈ strs (H := H) (ss.take l) := by
        unfold strs
        exact List.mem_map.2 ⟨s, hs, rfl⟩
      have := hw _ (w_elem hu hm2 _ w_string)
      simpa using this

theorem list4 : ∀ {l : List Value}, l.length = 4 → ∃ a b c d, l = [a, b, c, d]
  | [a, b, c, d], _ => ⟨a, b, c, d, rfl⟩
theorem list5 : ∀ {l : List Value}, l.length = 5 → ∃ a b c d e, l = [a, b, c, d, e]
  | [a, b, c, d, e], _ => ⟨a, b, c, d, e, rfl⟩

/-- A rule inside of what came in. -/
theorem rule_in {H : Type} {enc : TypeId × Value → H} {W : World} {base : Nat} {spare : Nat → Bool} {held : Bool} {cs : List Value} {d : DataW H} {ps : List MemPlace} {fuel : Nat} (hw : ∀ n ∈ d.weights Try.prog 33, n ≤ reachBytes)
    (h : DataW.trod enc Try.prog W base spare held fuel 33 cs = some (d, ps)) : ∃ (x : RC) (r : Rl), cs = encR x ∧ RdC (fun _ => True) W x r := by
  have he := Try.underlying33
  obtain ⟨y0, y1, y2, n, hx, hl, h0, h1, h2⟩ := trod_struct3 he h
  have hC : Try.prog.cellsOf 33 = 4 := by kernel_rfl
  have hl4 : cs.length = 4 := hl.trans hC
  clear hl
  obtain ⟨c0, c1, c2, c3, rfl⟩ := list4 hl4
  · clear hl4
    have k0 : Try.prog.cellsOf 3 = 1 := by kernel_rfl
    have k1 : Try.prog.cellsOf 9 = 1 := by kernel_rfl
    have k2 : Try.prog.cellsOf 31 = 2 := by kernel_rfl
    simp only [k0, k1, k2, List.drop_zero, List.take_succ_cons, List.take_zero, List.drop_succ_cons] at h0 h1 h2
    obtain ⟨hd, _⟩ := Prod.mk.inj hx
    subst hd
    have ha := Try.underlying31
    obtain ⟨z0, z1, n2, hx2, _, g0, g1⟩ := trod_struct2 ha h2
    have k3 : Try.prog.cellsOf 29 = 1 := by kernel_rfl
    have k4 : Try.prog.cellsOf 23 = 1 := by kernel_rfl
    simp only [k3, k4, List.drop_zero, List.take_succ_cons, List.take_zero, List.drop_succ_cons] at g0 g1
    obtain ⟨p, e0, _⟩ := DataW.trod_int Try.underlying3 h0
    obtain ⟨m, e1, q1⟩ := DataW.trod_string Try.underlying9 h1
    obtain ⟨k, e2, _⟩ := DataW.trod_int Try.underlying29 g0
    have w1 : ∀ n ∈ y1.1.weights Try.prog 9, n ≤ reachBytes := fun n hn => hw n (w_field he (j := 1) rfl rfl n hn)
    have w2 : ∀ n ∈ y2.1.weights Try.prog 31, n ≤ reachBytes := fun n hn => hw n (w_field he (j := 2) rfl rfl n hn)
    rw [hx2] at w2
    have w3 : ∀ n ∈ z1.1.weights Try.prog 23, n ≤ reachBytes := fun n hn => w2 n (w_field ha (j := 1) rfl rfl n hn)
    obtain ⟨ad, l, c, ss, e3, hr, hs, hn⟩ := strs_in Try.underlying23 Try.underlying9 (by kernel_rfl) (by kernel_rfl) w3 g1
    simp only [List.cons.injEq, and_true] at e0 e1 e2
    subst e0 e1 e2 e3
    rw [q1.1] at w1
    have hm := w1 _ w_string
    rw [Array.length_toList, reach_is] at hm
    exact ⟨⟨p, m, k, ad, l, c⟩, ⟨p, m, k, ss⟩, rfl, ⟨rfl, rfl, rfl, ⟨hr, fun _ _ _ _ _ => trivial⟩, ⟨hm, hn, hs⟩⟩⟩

theorem encR_inj {x y : RC} (h : encR x = encR y) : x = y := by
  cases x; cases y
  simp only [encR, List.cons.injEq, Value.int.injEq, Value.string.injEq, Value.slice.injEq, true_and, and_true] at h
  obtain ⟨h1, h2, h3, h4, h5, h6⟩ := h
  subst h1 h2 h3 h4 h5 h6
  rfl

theorem rules_of {H : Type} {enc : TypeId × Value → H} {W : World} {base : Nat} {spare : Nat → Bool} {held : Bool} {t : TypeId} {a : Option Addr} {len cap : Nat} {d : DataW H} {ps : List MemPlace} (ht : Try.prog.underlying t = some (.slice 33)) (hw : ∀ n ∈ d.weights Try.prog t, n ≤ reachBytes)
    (h : DataW.Trod enc Try.prog W base spare held t (.slice a len cap) d ps) : ∃ L : List Rl, RdsR (fun _ => True) W (.slice a len cap) L ∧ L.length * 56 ≤ 140737488351232 := by
  obtain ⟨fuel, hf⟩ := h
  rcases open_slice ht hf with ⟨hcs, _⟩ | ⟨x, l, c, m, n, D, Pl, hcs, _, hl, hm, hmm, hx, hel⟩
  · simp [Value.cells] at hcs
    obtain ⟨rfl, rfl, rfl⟩ := hcs
    exact ⟨[], rdsR_nil _ W, by simp⟩
  · simp [Value.cells] at hcs
    obtain ⟨rfl, rfl, rfl⟩ := hcs
    obtain ⟨hx, _⟩ := Prod.mk.inj hx
    subst hx
    have hlm : len ≤ m := by rw [hmm]; split <;> omega
    have z := hw _ (w_len ht)
    rw [show Try.prog.bytesOf 33 = 56 by kernel_rfl, reach_is] at z
    simp only [List.length_map, List.length_range] at z
    have hC : Try.prog.cellsOf 33 = 4 := by kernel_rfl
    rw [hC] at hel
    have each : ∀ i, i < len → ∃ q : RC × Rl, RdC (fun _ => True) W q.1 q.2 ∧ W.cell? (x.add (i * 4)) = some (.int .i64 q.1.p) ∧ W.cell? (x.add (i * 4 + 1)) = some (.string q.1.m) ∧ W.cell? (x.add (i * 4 + 2)) = some (.int .i64 q.1.k) ∧ W.cell? (x.add (i * 4 + 3)) = some (.slice q.1.a q.1.n q.1.c) := by
      intro i hi
      obtain ⟨cs', h1, h2⟩ := hel i (by omega)
      obtain ⟨y, r, rfl, hr⟩ := rule_in (fun n hn => hw n (w_elem ht (List.mem_map.2 ⟨i, List.mem_range.2 hi, rfl⟩) n hn)) h2
      obtain ⟨_, _, hcell⟩ := World.cells?_some h1
      have g0 := hcell 0 (by decide)
      have g1 := hcell 1 (by decide)
      have g2 := hcell 2 (by decide)
      have g3 := hcell 3 (by decide)
      rw [add_add] at g0 g1 g2 g3
      exact ⟨(y, r), hr, by simpa [encR] using g0, by simpa [encR] using g1, by simpa [encR] using g2, by simpa [encR] using g3⟩
    obtain ⟨q, hq⟩ := choose_lt each
    refine ⟨(List.range len).map fun i => (q i).2, ⟨(List.range len).map fun i => (q i).1, some x, len, cap, rfl, by simp, by simp, ⟨by omega, fun h => by cases h⟩, by omega, fun _ _ _ _ _ => trivial, fun i hi => ?_, fun i hi hi' => ?_⟩, ?_⟩
    · have hi' : i < len := by simpa using hi
      obtain ⟨_, c0, c1, c2, c3⟩ := hq i hi'
      have hc0 := (hq 0 (by omega)).2.1
      have hx0 : x.add (0 * 4) = x := by rw [Nat.zero_mul]; unfold Addr.add; rw [if_pos rfl]
      rw [hx0] at hc0
      have hsp := spot_none hc0
      obtain ⟨b, off, sp⟩ := x
      simp only at hsp
      subst hsp
      have hadd : ∀ i, (⟨b, off, none⟩ : Addr).add i = ⟨b, off + i, none⟩ := fun i => by unfold Addr.add; split <;> simp_all
      have hlt := World.block_lt_of_cell? W _ hc0
      rw [hadd] at c0 c1 c2 c3
      exact ⟨b, off, rfl, hlt, by simpa using c0, by simpa [Nat.add_assoc] using c1, by simpa [Nat.add_assoc] using c2, by simpa [Nat.add_assoc] using c3⟩
    · have hi' : i < len := by simpa using hi
      simpa using (hq i hi').1
    · rw [List.length_map, List.length_range]
      omega
end Go.Proofs.Ytlamhpiiikcpiaa
/-
  A slice of changes that came in reads as changes, and is no longer than its weight allows.
-/
namespace Go.Proofs.Ytlamhpiiikcpiaa
open Go.ChangeShapes Go.WideShapes Go.RowKit Go.Deep

theorem changes_of {H : Type} {enc : TypeId × Value → H} {W : World} {base : Nat} {spare : Nat → Bool} {held : Bool} {t : TypeId} {a : Option Addr} {len cap : Nat} {d : DataW H} {ps : List MemPlace} (ht : Try.prog.underlying t = some (.slice 51)) (hw : ∀ n ∈ d.weights Try.prog t, n ≤ reachBytes)
    (h : DataW.Trod enc Try.prog W base spare held t (.slice a len cap) d ps) : ∃ L : List (Int × Rl), RdsC (fun _ => True) W (.slice a len cap) L ∧ L.length * 64 ≤ 140737488351232 := by
  obtain ⟨fuel, hf⟩ := h
  rcases open_slice ht hf with ⟨hcs, _⟩ | ⟨x, l, c, m, n, D, Pl, hcs, _, hl, hm, hmm, hx, hel⟩
  · simp [Value.cells] at hcs
    obtain ⟨rfl, rfl, rfl⟩ := hcs
    exact ⟨[], rdsC_nil _ W, by simp⟩
  · simp [Value.cells] at hcs
    obtain ⟨rfl, rfl, rfl⟩ := hcs
    obtain ⟨hx, _⟩ := Prod.mk.inj hx
    subst hx
    have hlm : len ≤ m := by rw [hmm]; split <;> omega
    have z := hw _ (w_len ht)
    rw [show Try.prog.bytesOf 51 = 64 by kernel_rfl, reach_is] at z
    simp only [List.length_map, List.length_range] at z
    have hC : Try.prog.cellsOf 51 = 5 := by kernel_rfl
    rw [hC] at hel
    have each : ∀ i, i < len → ∃ q : Int × RC × Rl, RdC (fun _ => True) W q.2.1 q.2.2 ∧ W.cell? (x.add (i * 5)) = some (.int .i64 q.1) ∧ W.cell? (x.add (i * 5 + 1)) = some (.int .i64 q.2.1.p) ∧ W.cell? (x.add (i * 5 + 2)) = some (.string q.2.1.m) ∧ W.cell? (x.add (i * 5 + 3)) = some (.int .i64 q.2.1.k) ∧ W.cell? (x.add (i * 5 + 4)) = some (.slice q.2.1.a q.2.1.n q.2.1.c) := by
      intro i hi
      obtain ⟨cs', h1, h2⟩ := hel i (by omega)
      have he := Try.underlying51
      have hwi : ∀ n ∈ (D i).weights Try.prog 51, n ≤ reachBytes := fun n hn => hw n (w_elem ht (List.mem_map.2 ⟨i, List.mem_range.2 hi, rfl⟩) n hn)
      obtain ⟨y0, y1, n2, hx, hlc, h3, h4⟩ := trod_struct2 he h2
      obtain ⟨_, _, hcell⟩ := World.cells?_some h1
      have hl5 : cs'.length = 5 := hlc.trans hC
      clear hlc
      obtain ⟨c0, c1, c2, c3, c4, rfl⟩ := list5 hl5
      · clear hl5
        have k0 : Try.prog.cellsOf 49 = 1 := by kernel_rfl
        have k1 : Try.prog.cellsOf 33 = 4 := by kernel_rfl
        simp only [k0, k1, List.drop_zero, List.take_succ_cons, List.take_zero, List.drop_succ_cons] at h3 h4
        obtain ⟨k, e0, _⟩ := DataW.trod_int Try.underlying49 h3
        have hd := (Prod.mk.inj hx).1
        rw [hd] at hwi
        obtain ⟨y, r, e1, hr⟩ := rule_in (fun n hn => hwi n (w_field he (j := 1) rfl rfl n hn)) h4
        simp only [encR, List.cons.injEq, and_true] at e0 e1
        obtain ⟨rfl, rfl, rfl, rfl⟩ := e1
        subst e0
        have g0 := hcell 0 (by decide)
        have g1 := hcell 1 (by decide)
        have g2 := hcell 2 (by decide)
        have g3 := hcell 3 (by decide)
        have g4 := hcell 4 (by decide)
        rw [add_add] at g0 g1 g2 g3 g4
        exact ⟨(k, y, r), hr, by simpa using g0, by simpa using g1, by simpa using g2, by simpa using g3, by simpa using g4⟩
    obtain ⟨q, hq⟩ := choose_lt each
    refine ⟨(List.range len).map fun i => ((q i).1, (q i).2.2), ⟨(List.range len).map fun i => ((q i).1, (q i).2.1), some x, len, cap, rfl, by simp, by simp, ⟨by omega, fun h => by cases h⟩, by omega, fun _ _ _ _ _ => trivial, fun i hi => ?_, fun i hi hi' => ?_⟩, ?_⟩
    · have hi' : i < len := by simpa using hi
      obtain ⟨_, c0, c1, c2, c3, c4⟩ := hq i hi'
      have hc0 := (hq 0 (by omega)).2.1
      have hx0 : x.add (0 * 5) = x := by rw [Nat.zero_mul]; unfold Addr.add; rw [if_pos rfl]
      rw [hx0] at hc0
      have hsp := spot_none hc0
      obtain ⟨b, off, sp⟩ := x
      simp only at hsp
      subst hsp
      have hadd : ∀ i, (⟨b, off, none⟩ : Addr).add i = ⟨b, off + i, none⟩ := fun i => by unfold Addr.add; split <;> simp_all
      have hlt := World.block_lt_of_cell? W _ hc0
      rw [hadd] at c0 c1 c2 c3 c4
      exact ⟨b, off, rfl, hlt, by simpa using c0, by simpa [Nat.add_assoc] using c1, by simpa [Nat.add_assoc] using c2, by simpa [Nat.add_assoc] using c3, by simpa [Nat.add_assoc] using c4⟩
    · have hi' : i < len := by simpa using hi
      exact ⟨by simp, by simpa using (hq i hi').1⟩
    · rw [List.length_map, List.length_range]
      omega
end Go.Proofs.Ytlamhpiiikcpiaa
