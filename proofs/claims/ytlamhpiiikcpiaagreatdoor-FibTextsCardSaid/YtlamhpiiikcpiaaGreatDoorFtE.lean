/-
  Walks: awake: two rules that are known.
-/
import Derived.Test.YtlamhpiiikcpiaaGreatDoorFtD
import Derived.Test.YtlamhpiiikcpiaaGreatDoorFtC
import Derived.BigQuiet
import Derived.Deep.RegionHeld3
namespace Go.Proofs.YtlamhpiiikcpiaaGreatDoor
open Go.RowKit Go.Shelf Go.Lib Go.Sort
set_option linter.unusedVariables false
set_option linter.unusedSectionVars false
set_option linter.unusedSimpArgs false
namespace Aw
abbrev p1 : ByteArray := ⟨#[112]⟩
abbrev m1 : ByteArray := ⟨#[49, 120]⟩
abbrev m2 : ByteArray := ⟨#[49, 49]⟩
abbrev h2 : ByteArray := ⟨#[49, 48]⟩
abbrev h3 : ByteArray := ⟨#[48, 48]⟩
def r1 : Rl := ⟨5, m1, 3, [p1]⟩
def r2 : Rl := ⟨9, m2, 2, []⟩
theorem done : Fb.doL 2 [] [(1, r1), (1, r2)] 0 = (some [r2, r1], 0, 0) := by kernel_rfl
theorem end_ : Fb.endL 2 [] [(1, r1), (1, r2)] = [r2, r1] := by kernel_rfl
theorem look1 : Fb.lookS [r2, r1] 2 m2 = (2, [], 0) := by kernel_rfl
theorem look2 : Fb.lookS [r2, r1] 2 h2 = (3, [p1], 0) := by kernel_rfl
theorem look3 : Fb.lookS [r2, r1] 2 h3 = (1, [], 0) := by kernel_rfl
end Aw
/-- Lookup, at an answer that is known. -/
theorem lookup_is {ok : Nat → Prop} {w : World} {tb : Nat} {v : Value} {L : List Rl} {W : Int} (h : Tab 0 1 ok w tb v L W) (s : ByteArray) (hs : s.size ≤ maxLen) {k e : Int} {ps : List ByteArray} (hS : Fb.lookS L W s = (k, ps, e)) :
    Calls Tryz.prog 15 #[.pointer (some ⟨tb, 0, none⟩), .string s] w fun e' w' => ∃ (a : Option Addr) (n c : Nat), e' = .returned (.tuple #[.agg #[.int .i64 k, .slice a n c], .int .i64 e]) ∧ RdsO (fun b => w.heap.size ≤ b) w' (.slice a n c) ps ∧ Below w.heap.size w w' := by
  have := lookup_any h s hs
  rw [hS] at this
  refine this.mono ?_
  rintro e' w' ⟨hb, a, n, c, hr, rfl⟩
  exact ⟨a, n, c, rfl, hr, hb⟩
theorem small_le (s : ByteArray) (h : s.size ≤ 64) : s.size ≤ maxLen := by unfold maxLen; omega
set_option maxHeartbeats 1600000 in
set_option maxRecDepth 20000 in
theorem awake_any (w : World) : Calls Tryz.prog 6 #[] w fun e w' => e = .returned (.bool true) ∧ Below w.heap.size w w' := by
  obtain ⟨W1, hW1⟩ : ∃ W1, W1 = w.alloc (.cells #[.slice none 0 0, .int .i64 2] 53) := ⟨_, rfl⟩
  have hb1 : Below w.heap.size w W1 := by rw [hW1]; exact (Below.refl _ _).alloc (Nat.le_refl _) _
  have hs1 : W1.heap.size = w.heap.size + 1 := by rw [hW1]; simp
  have hT1 : Tab 0 1 (fun _ => False) W1 w.heap.size (.slice none 0 0) [] 2 := by rw [hW1]; exact tab_new w 2 (by decide) (by decide)
  have HNew : Hid (∀ Wx, Calls Tryz.prog 9 #[.int .i64 2] Wx fun e w' => e = .returned (.tuple #[.pointer (some ⟨Wx.heap.size, 0, none⟩), .int .i64 0]) ∧ w' = Wx.alloc (.cells #[.slice none 0 0, .int .i64 2] 53)) := fun Wx => new_ok 2 Wx (by decide) (by decide)
  obtain ⟨W2, hW2⟩ : ∃ W2, W2 = W1.alloc (.cells #[.string ⟨#[112]⟩] 9) := ⟨_, rfl⟩
  have hb2 : Below W1.heap.size W1 W2 := by rw [hW2]; exact (Below.refl _ _).alloc (Nat.le_refl _) _
  have hs2 : W2.heap.size = W1.heap.size + 1 := by rw [hW2]; simp
  have hr2 : RdsS W2 (.slice (some ⟨W1.heap.size, 0, none⟩) 1 1) [⟨#[112]⟩] := by
    rw [hW2]
    refine rdsS_mk (ss := [⟨#[112]⟩]) (by simp) (by unfold maxLen; simp) (by simp) ?_
    intro i hi
    match i, hi with
    | 0, _ => simp [go_sem]
  obtain ⟨W3, hW3⟩ : ∃ W3, W3 = W2.alloc (.cells #[.int .i64 1, .int .i64 5, .string ⟨#[49, 120]⟩, .int .i64 3, .slice (some ⟨W1.heap.size, 0, none⟩) 1 1, .int .i64 1, .int .i64 9, .string ⟨#[49, 49]⟩, .int .i64 2, .slice none 0 0] 49) := ⟨_, rfl⟩
  have hb3 : Below W2.heap.size W2 W3 := by rw [hW3]; exact (Below.refl _ _).alloc (Nat.le_refl _) _
  have hh3 : W3.heap[W2.heap.size]? = some (.cells #[.int .i64 1, .int .i64 5, .string ⟨#[49, 120]⟩, .int .i64 3, .slice (some ⟨W1.heap.size, 0, none⟩) 1 1, .int .i64 1, .int .i64 9, .string ⟨#[49, 49]⟩, .int .i64 2, .slice none 0 0] 49 (0, 0)) := by rw [hW3]; exact heap_alloc_new _ _
  have hc3 : RdsC (fun _ => True) W3 (.slice (some ⟨W2.heap.size, 0, none⟩) 2 2) [(1, Aw.r1), (1, Aw.r2)] := by
    refine two_rdsC (x := ⟨5, ⟨#[49, 120]⟩, 3, some ⟨W1.heap.size, 0, none⟩, 1, 1⟩) (y := ⟨9, ⟨#[49, 49]⟩, 2, none, 0, 0⟩) hh3 ⟨rfl, rfl, rfl, ⟨hr2.below hb3, fun _ _ _ _ _ => trivial⟩, ⟨by decide, by decide, ?_⟩⟩ ⟨rfl, rfl, rfl, ⟨rdsS_nil _, okV_nil _ _ _⟩, ⟨by decide, by decide, fun s hs => by cases hs⟩⟩ trivial
    intro s hs
    have : s = Aw.p1 := by simpa [Aw.r1] using hs
    rw [this]; decide
  have hDo := do_tab ((hT1.below hb2).below hb3) hc3 (by simp) (Fb.ok_nil 2)
  rw [Aw.done, Aw.end_] at hDo
  have HDo := Lib.hid hDo
  have HB13 := Lib.hid (hb2.trans (hb3.mono (by omega)))
  have HB1 := Lib.hid hb1
  have HS1 := Lib.hid hs1
  have hs23 : W2.heap.size < W3.heap.size := by rw [hW3]; simp
  rw [hW2] at hW3
  have HW3 := Lib.hid hW3
  have HW1 := Lib.hid hW1
  have HS2 := Lib.hid hs2
  have HS3 := Lib.hid hs23
  clear hb1 hs1 hT1 hb2 hs2 hr2 hb3 hh3 hc3 hDo hW1 hW2 hW3 hs23
  go_enter Tryz.func6, Tryz.ntmps6
  go_wp2_with fail
  refine (HNew.out _).mono ?_
  rintro e w1 ⟨rfl, rfl⟩
  rw [← HW1.out]
  go_wp2_with fail
  rw [← HW3.out]
  have hsz2 : W1.heap.size + 1 = W2.heap.size := HS2.out.symm
  rw [hsz2]
  refine HDo.out.mono ?_
  rintro e w4 ⟨rfl, ⟨v4, hT4⟩, hbt⟩
  have hB4 : Below w.heap.size w w4 := (HB1.out.trans (HB13.out.mono (by rw [HS1.out]; omega))).trans (hbt.toBelow (by have := HB13.out.size; have := HS1.out; omega) (fun k hk => by omega))
  have HB4 := Lib.hid hB4
  have HT4 := Lib.hid hT4
  have HK1 := Lib.hid (lookup_is hT4 ⟨#[49, 49]⟩ (small_le _ (by decide)) Aw.look1)
  clear hB4 hT4 hbt hsz2
  go_wp2_with fail
  refine HK1.out.mono ?_
  rintro e w5 ⟨a5, n5, c5, rfl, hr5, hb5⟩
  obtain ⟨W5, hW5⟩ : ∃ W5, W5 = w5.alloc (.cells #[.int .i64 2, .slice a5 n5 c5] 45) := ⟨_, rfl⟩
  have hb5a : Below w5.heap.size w5 W5 := by rw [hW5]; exact (Below.refl _ _).alloc (Nat.le_refl _) _
  have hB5 : Below w4.heap.size w4 W5 := hb5.trans (hb5a.mono hb5.size)
  have k5 : W5.cell? ⟨w5.heap.size, 0, none⟩ = some (.int .i64 2) := by rw [hW5]; simp [go_sem]
  have hl5 : w5.heap.size < W5.heap.size := by rw [hW5]; simp
  have HT5 := Lib.hid (HT4.out.below hB5)
  have HK2 := Lib.hid (lookup_is HT5.out ⟨#[49, 48]⟩ (small_le _ (by decide)) Aw.look2)
  have HB5 := Lib.hid hB5
  have HW5 := Lib.hid hW5
  clear hr5 hb5 hb5a hB5 hW5
  go_upto_region 6 with fail
  rw [← HW5.out]
  clear HW5
  go_wp2_with fail
  refine HK2.out.mono ?_
  rintro e w6 ⟨a6, n6, c6, rfl, hr6, hb6⟩
  obtain ⟨W6, hW6⟩ : ∃ W6, W6 = w6.alloc (.cells #[.int .i64 3, .slice a6 n6 c6] 45) := ⟨_, rfl⟩
  have hb6a : Below w6.heap.size w6 W6 := by rw [hW6]; exact (Below.refl _ _).alloc (Nat.le_refl _) _
  have hB6 : Below W5.heap.size W5 W6 := hb6.trans (hb6a.mono hb6.size)
  have k6 : W6.cell? ⟨w6.heap.size, 0, none⟩ = some (.int .i64 3) := by rw [hW6]; simp [go_sem]
  have hl6 : w6.heap.size < W6.heap.size := by rw [hW6]; simp
  have k56 := (hB6.cell (p := ⟨w5.heap.size, 0, none⟩) hl5).trans k5
  have HT6 := Lib.hid (HT5.out.below hB6)
  have HK3 := Lib.hid (lookup_is HT6.out ⟨#[48, 48]⟩ (small_le _ (by decide)) Aw.look3)
  have HB6 := Lib.hid hB6
  have HW6 := Lib.hid hW6
  clear hr6 hb6 hb6a hB6 hW6 k5
  go_upto_region 7 with fail
  rw [← HW6.out]
  clear HW6
  go_wp2_with fail
  refine HK3.out.mono ?_
  rintro e w7 ⟨a7, n7, c7, rfl, hr7, hb7⟩
  obtain ⟨W7, hW7⟩ : ∃ W7, W7 = w7.alloc (.cells #[.int .i64 1, .slice a7 n7 c7] 45) := ⟨_, rfl⟩
  have hb7a : Below w7.heap.size w7 W7 := by rw [hW7]; exact (Below.refl _ _).alloc (Nat.le_refl _) _
  have hB7 : Below W6.heap.size W6 W7 := hb7.trans (hb7a.mono hb7.size)
  have k7 : W7.cell? ⟨w7.heap.size, 0, none⟩ = some (.int .i64 1) := by rw [hW7]; simp [go_sem]
  have hl65 : w5.heap.size < W6.heap.size := Nat.lt_of_lt_of_le hl5 HB6.out.size
  have k57 := (hB7.cell (p := ⟨w5.heap.size, 0, none⟩) hl65).trans k56
  have k67 := (hB7.cell (p := ⟨w6.heap.size, 0, none⟩) hl6).trans k6
  have HT7 := Lib.hid (HT6.out.below hB7)
  have HLen := Lib.hid (len_tab HT7.out)
  have HB7 : Hid (Below w.heap.size w W7) := HB4.out.trans ((HB5.out.trans ((HB6.out.trans (hB7.mono HB6.out.size)).mono HB5.out.size)).mono HB4.out.size)
  have HW7 := Lib.hid hW7
  clear hr7 hb7 hb7a hB7 hW7 k56 k6
  go_upto_region 8 with fail
  rw [← HW7.out]
  clear HW7
  go_wp2_with fail
  refine HLen.out.mono ?_
  rintro e w8 ⟨rfl, rfl⟩
  go_wp2_with fail
  go_ret
  exact ⟨rfl, HB7.out⟩
/-- One change of a row. -/
theorem RdsC.one {ok : Nat → Prop} {w : World} {b off n cap : Nat} {L : List (Int × Rl)} (h : RdsC ok w (.slice (some ⟨b, off, none⟩) n cap) L) (i : Nat) (hi : i < L.length) : RdsC ok w (.slice (some ⟨b, off + i * 5, none⟩) 1 (cap - i)) [L[i]] := by
  have hl : n = L.length ∧ n ≤ cap := by
    obtain ⟨xs, ad', n', cap', h1, h2, h3, h4, _⟩ := h
    injection h1 with e1 e2 e3
    subst e1 e2 e3
    exact ⟨h2, h4.1⟩
  have := h.part i (i + 1) (by omega) (by omega)
  have hne : ¬ cap = i := by omega
  have hadd : (⟨b, off, none⟩ : Addr).add (i * 5) = ⟨b, off + i * 5, none⟩ := by unfold Addr.add; split <;> simp_all
  have e : (L.take (i + 1)).drop i = [L[i]] := by
    rw [List.take_succ_eq_append_getElem hi]
    exact List.drop_left' (by rw [List.length_take]; omega)
  rw [if_neg hne, Option.map_some, hadd, e, show i + 1 - i = 1 by omega] at this
  exact this
set_option maxHeartbeats 1600000 in
set_option maxRecDepth 20000 in
theorem made_bad (W : Int) (cv : Value) (w : World) (hW : W < 1 ∨ W > 128) :
    Calls Tryz.prog 5 #[.int .i64 W, cv] w fun e w' => e = .returned (.tuple #[.pointer none, .pointer none, .bool true]) ∧ w' = w := by
  have HN : Hid (∀ Wx, Calls Tryz.prog 9 #[.int .i64 W] Wx fun e w' => e = .returned (.tuple #[.pointer none, .int .i64 1]) ∧ w' = Wx) := fun Wx => new_bad W Wx hW
  have HR : Hid (∀ Wx, Calls Tryz.prog 21 #[.int .i64 W] Wx fun e w' => e = .returned (.tuple #[.pointer none, .int .i64 1]) ∧ w' = Wx) := fun Wx => rNew_bad W Wx hW
  clear hW
  go_enter Tryz.func5, Tryz.ntmps5
  go_wp2_with fail
  refine (HN.out _).mono ?_
  rintro e w1 ⟨rfl, rfl⟩
  go_wp2_with fail
  refine (HR.out _).mono ?_
  rintro e w2 ⟨rfl, rfl⟩
  go_wp2_with fail
  go_loopw [11] (fun s11 wr => s11 = .int .i64 0 ∧ Hid (wr = w2)) (fun s11 _ => 0)
  case atStart => exact ⟨rfl, rfl⟩
  case round =>
    obtain ⟨rfl, HE⟩ := hrel
    go_wp2_with fail
    go_ret3
    exact ⟨rfl, HE.out⟩
/-- What made comes to, at a width that may be: two tables of the same rules. -/
def MadePost (W : Int) (m : List (Int × Rl)) (w : World) (e : Ending) (w' : World) : Prop := Below w.heap.size w w' ∧ ∃ (tb rb : Nat) (v v2 : Value), w.heap.size ≤ tb ∧ w.heap.size ≤ rb ∧ tb ≠ rb ∧
      e = .returned (.tuple #[.pointer (some ⟨tb, 0, none⟩), .pointer (some ⟨rb, 0, none⟩), .bool true]) ∧
      Tab 0 1 (fun b => w.heap.size ≤ b ∧ b ≠ tb ∧ b ≠ rb) w' tb v (Fb.mkL W (m.take 100)) W ∧ Tab 1 0 (fun b => w.heap.size ≤ b ∧ b ≠ tb ∧ b ≠ rb) w' rb v2 (Fb.mkL W (m.take 100)) W
set_option maxHeartbeats 1600000 in
set_option maxRecDepth 20000 in
theorem made_ok {ok2 : Nat → Prop} (W : Int) (cv : Value) (m : List (Int × Rl)) (w : World) (h1 : 1 ≤ W) (h2 : W ≤ 128) (hc : RdsC ok2 w cv m) (hm : m.length * 64 ≤ 140737488351232) :
    Calls Tryz.prog 5 #[.int .i64 W, cv] w (MadePost W m w) := by
  have HNw : Hid (∀ Wx, Calls Tryz.prog 9 #[.int .i64 W] Wx fun e w' => e = .returned (.tuple #[.pointer (some ⟨Wx.heap.size, 0, none⟩), .int .i64 0]) ∧ w' = Wx.alloc (.cells #[.slice none 0 0, .int .i64 W] 53)) := fun Wx => new_ok W Wx h1 h2
  have HRw : Hid (∀ Wx, Calls Tryz.prog 21 #[.int .i64 W] Wx fun e w' => e = .returned (.tuple #[.pointer (some ⟨Wx.heap.size, 0, none⟩), .int .i64 0]) ∧ w' = Wx.alloc (.cells #[.int .i64 W, .slice none 0 0] 39)) := fun Wx => rNew_ok W Wx h1 h2
  obtain ⟨W1, hW1⟩ : ∃ W1, W1 = w.alloc (.cells #[.slice none 0 0, .int .i64 W] 53) := ⟨_, rfl⟩
  have hb1 : Below w.heap.size w W1 := by rw [hW1]; exact (Below.refl _ _).alloc (Nat.le_refl _) _
  have hs1 : W1.heap.size = w.heap.size + 1 := by rw [hW1]; simp
  have hT1 : Tab 0 1 (fun _ => False) W1 w.heap.size (.slice none 0 0) [] W := by rw [hW1]; exact tab_new w W h1 h2
  obtain ⟨W2, hW2⟩ : ∃ W2, W2 = W1.alloc (.cells #[.int .i64 W, .slice none 0 0] 39) := ⟨_, rfl⟩
  have hb2 : Below W1.heap.size W1 W2 := by rw [hW2]; exact (Below.refl _ _).alloc (Nat.le_refl _) _
  have hs2 : W2.heap.size = W1.heap.size + 1 := by rw [hW2]; simp
  have hR2 : Tab 1 0 (fun _ => False) W2 W1.heap.size (.slice none 0 0) [] W := by rw [hW2]; exact rtab_new W1 W h1 h2
  have HT2 : Hid (Tab 0 1 (fun b => w.heap.size ≤ b ∧ b ≠ w.heap.size ∧ b ≠ W1.heap.size) W2 w.heap.size (.slice none 0 0) [] W) := (hT1.below hb2).mono (fun _ h => h.elim) (fun b hb => hb.2.1)
  have HR2 : Hid (Tab 1 0 (fun b => w.heap.size ≤ b ∧ b ≠ w.heap.size ∧ b ≠ W1.heap.size) W2 W1.heap.size (.slice none 0 0) [] W) := hR2.mono (fun _ h => h.elim) (fun b hb => hb.2.2)
  have HB2 : Hid (Below w.heap.size w W2) := hb1.trans (hb2.mono (by omega))
  obtain ⟨rb, hrb⟩ : ∃ rb, rb = W1.heap.size := ⟨_, rfl⟩
  have hne : w.heap.size ≠ rb := by omega
  have hsz2 : rb < W2.heap.size := by omega
  have HRB : Hid (w.heap.size ≤ rb) := by show _ ≤ _; omega
  obtain ⟨n, hn⟩ : ∃ n, n = m.length := ⟨_, rfl⟩
  have HN := Lib.hid hn
  rw [← hn] at hm
  obtain ⟨adc, capc, rfl, hcc, hcm⟩ := hc.form
  unfold maxLen at hcm
  have HC := Lib.hid hc
  rw [← hn] at HC hcc ⊢
  rw [← hrb] at HT2 HR2
  have HOk0 := Lib.hid (Fb.mkL_ok W)
  have HW1 := Lib.hid hW1
  have HW2 := Lib.hid hW2
  have HRb := Lib.hid hrb
  clear hc hn hb1 hs1 hT1 hb2 hs2 hR2 hW1 hW2 hrb
  go_enter Tryz.func5, Tryz.ntmps5
  go_wp2_with fail
  refine (HNw.out _).mono ?_
  rintro e w1 ⟨rfl, rfl⟩
  rw [← HW1.out]
  go_wp2_with fail
  refine (HRw.out _).mono ?_
  rintro e w2 ⟨rfl, rfl⟩
  rw [← HW2.out, ← HRb.out]
  clear HW1 HW2 HRb
  have hbn : (false != false) = false := rfl
  go_wp2_with fail
  go_loopw [11] (fun s11 wr => ∃ (i : Nat) (v v2 : Value), s11 = .int .i64 i ∧ i ≤ n ∧ i ≤ 100 ∧ Hid (Tab 0 1 (fun b => w.heap.size ≤ b ∧ b ≠ w.heap.size ∧ b ≠ rb) wr w.heap.size v (Fb.mkL W (m.take i)) W) ∧ Hid (Tab 1 0 (fun b => w.heap.size ≤ b ∧ b ≠ w.heap.size ∧ b ≠ rb) wr rb v2 (Fb.mkL W (m.take i)) W) ∧ Hid (Below w.heap.size w wr) ∧ Hid (rb < wr.heap.size)) (fun s11 _ => n - (intOf s11).toNat)
  case atStart => exact ⟨0, _, _, rfl, Nat.zero_le _, Nat.zero_le _, HT2.out, HR2.out, HB2.out, hsz2⟩
  case round =>
    obtain ⟨wo, rfl⟩ : ∃ wo : World, wo = wr := ⟨wr, rfl⟩
    obtain ⟨i, v, v2, rfl, hin, hi100, HT, HR, HB, HZ⟩ := hrel
    by_cases hlt : i < n
    · by_cases hlt2 : i < 100
      · have him : i < m.length := by rw [← HN.out]; exact hlt
        obtain ⟨b, off, k, x, rfl, hb, _, hk, x0, x1, x2, x3, x4, hx⟩ := HC.out.get i him
        have X0 := (HB.out.cell (p := ⟨b, off + i * 5, none⟩) hb).trans x0
        have X1 := (HB.out.cell (p := ⟨b, off + i * 5 + 1, none⟩) hb).trans x1
        have X2 := (HB.out.cell (p := ⟨b, off + i * 5 + 2, none⟩) hb).trans x2
        have X3 := (HB.out.cell (p := ⟨b, off + i * 5 + 3, none⟩) hb).trans x3
        have X4 := (HB.out.cell (p := ⟨b, off + i * 5 + 4, none⟩) hb).trans x4
        obtain ⟨W4, hW4⟩ : ∃ W4, W4 = wo.alloc (.cells #[.int .i64 k, .int .i64 x.p, .string x.m, .int .i64 x.k, .slice x.a x.n x.c] 49) := ⟨_, rfl⟩
        have hb4 : Below wo.heap.size wo W4 := by rw [hW4]; exact (Below.refl _ _).alloc (Nat.le_refl _) _
        have hh4 : W4.heap[wo.heap.size]? = some (.cells #[.int .i64 k, .int .i64 x.p, .string x.m, .int .i64 x.k, .slice x.a x.n x.c] 49 (0, 0)) := by rw [hW4]; exact heap_alloc_new _ _
        have hwx : Below w.heap.size w W4 := HB.out.trans (hb4.mono HB.out.size)
        have hd1 := do_tab (HT.out.below hb4) (one_rdsC hh4 ((Rl.okTrue hx).below hwx) trivial) (by simp) (HOk0.out (m.take i))
        rw [show (k, m[i].2) = m[i] by rw [hk]] at hd1
        obtain ⟨S, hS⟩ : ∃ S, S = Fb.doL W (Fb.mkL W (m.take i)) [m[i]] 0 := ⟨_, rfl⟩
        rw [← hS, ← Fb.mkL_succ W m i him] at hd1
        have HD1 := Lib.hid hd1
        have HSS := Lib.hid hS
        have HB4 := Lib.hid hb4
        have HW4 := Lib.hid hW4
        clear x0 x1 x2 x3 x4 hx hW4 hb4 hh4 hwx hd1 hk hS
        go_wp2_with fail
        rw [← HW4.out]
        clear HW4
        refine HD1.out.mono ?_
        rintro e w5 ⟨rfl, ⟨v5, hT5⟩, hbt5⟩
        have hw4 := HB4.out.size
        have HR5 := Lib.hid ((HR.out.below HB4.out).but hbt5 (fun e => hne e.symm) (fun b hb e => hb.2.1 e))
        clear X0 X1 X2 X3 X4
        have hbt05 : But (fun b => b = w.heap.size) w w5 := ((But.below (S := fun b => b = w.heap.size) HB.out).trans (But.below (S := fun b => b = w.heap.size) HB4.out)).trans hbt5
        have hc5 := (HC.out.lt.but hbt05 (fun b hb e => by have := hb.2; omega)).one i him
        have hd2 := rDo_tab HR5.out hc5 (by simp) (HOk0.out (m.take i))
        rw [← HSS.out, ← Fb.mkL_succ W m i him] at hd2
        have HD2 := Lib.hid hd2
        have hs5 := hbt5.size
        have hz := HZ.out
        have HT5 : Hid (Tab 0 1 (fun b => w.heap.size ≤ b ∧ b ≠ w.heap.size ∧ b ≠ rb) w5 w.heap.size v5 (Fb.mkL W (m.take (i + 1))) W) := hT5.mono (fun b hb => by
          rcases hb with hb | hb
          · exact hb.1
          · have := HRB.out
            exact ⟨by omega, by omega, by omega⟩) (fun b hb => hb.2.1)
        have HBt5 := Lib.hid hbt5
        clear hbt05 hc5 hd2 hT5 hbt5
        go_wp2_with fail
        refine HD2.out.mono ?_
        rintro e w6 ⟨rfl, ⟨v6, hR6⟩, hbt6⟩
        have hs6 := hbt6.size
        have HT6 := Lib.hid (HT5.out.but hbt6 (fun e => hne e) (fun b hb e => hb.2.2 e))
        have HR6 : Hid (Tab 1 0 (fun b => w.heap.size ≤ b ∧ b ≠ w.heap.size ∧ b ≠ rb) w6 rb v6 (Fb.mkL W (m.take (i + 1))) W) := hR6.mono (fun b hb => by
          rcases hb with hb | hb
          · exact hb.1
          · have := HRB.out
            exact ⟨by omega, by omega, by omega⟩) (fun b hb => hb.2.2)
        have HB6 : Hid (Below w.heap.size w w6) := ((HB.out.trans (HB4.out.mono HB.out.size)).trans (HBt5.out.toBelow (by have := HB.out.size; omega) (fun k hk => by omega))).trans (hbt6.toBelow (by have := HB.out.size; omega) (fun k hk => by have := HRB.out; omega))
        have hse : (S.2.2 != S.2.2) = false := by simp
        clear hR6 hbt6
        go_wp2_with fail
        go_roundw
        case rel => exact ⟨i + 1, v5, v6, by first | rfl | go_num, by omega, by omega, HT6.out, HR6.out, HB6.out, by show _ < _; omega⟩
        case measure => simp [intOf]; omega
      · have hi : i = 100 := by omega
        have hfin : m.take i = m.take 100 := by rw [hi]
        have HFin := Lib.hid hfin
        clear hfin
        have hi' : ¬ (i : Int) < 100 := by omega
        go_wp2_with fail
        go_ret3
        refine ⟨HB.out, w.heap.size, rb, v, v2, Nat.le_refl _, HRB.out, hne, rfl, ?_, ?_⟩
        · have := HT.out; rw [HFin.out] at this; exact this
        · have := HR.out; rw [HFin.out] at this; exact this
    · have hfin : m.take i = m.take 100 := by rw [List.take_of_length_le (by rw [← HN.out]; omega), List.take_of_length_le (by rw [← HN.out]; omega)]
      have HFin := Lib.hid hfin
      clear hfin
      go_wp2_with fail
      go_ret3
      refine ⟨HB.out, w.heap.size, rb, v, v2, Nat.le_refl _, HRB.out, hne, rfl, ?_, ?_⟩
      · have := HT.out; rw [HFin.out] at this; exact this
      · have := HR.out; rw [HFin.out] at this; exact this
/-- Blocks that are new, but for two tables. -/
abbrev okT (B tb rb : Nat) : Nat → Prop := fun b => B ≤ b ∧ b ≠ tb ∧ b ≠ rb
theorem Tab.new {vo wo B tb rb t : Nat} {w w' : World} {v : Value} {L : List Rl} {W : Int} (h : Tab vo wo (okNew (okT B tb rb) w) w' t v L W) (hB : B ≤ w.heap.size) (h1 : tb < w.heap.size) (h2 : rb < w.heap.size) (ht : t = tb ∨ t = rb) : Tab vo wo (okT B tb rb) w' t v L W :=
  h.mono (fun b hb => by
    rcases hb with hb | hb
    · exact hb.1
    · exact ⟨by omega, by omega, by omega⟩) (fun b hb e => by
    rcases ht with h | h
    · exact hb.2.1 (e.trans h)
    · exact hb.2.2 (e.trans h))
/-- Rules, told loosely: for the calls of a region. -/
theorem rules_loose {ok : Nat → Prop} {w : World} {tb : Nat} {v : Value} {L : List Rl} {W : Int} (h : Tab 0 1 ok w tb v L W) (hL : L.length ≤ 4096) : ∀ Wx, Below w.heap.size w Wx → Calls Tryz.prog 12 #[.pointer (some ⟨tb, 0, none⟩)] Wx fun e w' => ∃ ad n c, e = .returned (.slice ad n c) ∧ RdsR (fun b => w.heap.size ≤ b) w' (.slice ad n c) L ∧ Below w.heap.size w w' := fun Wx hWx => by
  refine (rules_tab (h.below hWx) hL).mono ?_
  rintro e w' ⟨ad, c, rfl, hr, hb⟩
  exact ⟨ad, _, c, rfl, hr.mono fun b hb => Nat.le_trans hWx.size hb, hWx.trans (hb.mono hWx.size)⟩
theorem same_loose {L : List Rl} {w : World} : ∀ (ok ok2 : Nat → Prop) (Wx : World) (v1 v2 : Value), RdsR ok Wx v1 L → RdsR ok2 Wx v2 L → Below w.heap.size w Wx → Calls Tryz.prog 11 #[v1, v2] Wx fun e w' => e = .returned (.bool true) ∧ Below w.heap.size w w' := fun ok ok2 Wx v1 v2 h1 h2 hb => by
  refine (sameRules_same ok ok2 v1 v2 L Wx h1 h2).mono ?_
  rintro e w' ⟨rfl, hg⟩
  exact ⟨rfl, hb.trans (hg.below.mono hb.size)⟩
end Go.Proofs.YtlamhpiiikcpiaaGreatDoor
