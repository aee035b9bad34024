/-
  The order of rules: plain laws; cmp.Compare at strings, cmp.Or, rules.order.
-/
import Derived.Test.YtlbelkjgaeaaeaaGreatRulC
import Derived.Test.YtlbelkjgaeaaeaaGreatStF
import Derived.Deep.RegionWith
import Derived.Deep.RegionHeld3
import Derived.Sort.Walk0
namespace Go.Proofs.YtlbelkjgaeaaeaaGreat
open Go.RowKit Go.Shelf Go.Lib Go.Sort
set_option linter.unusedVariables false
set_option linter.unusedSectionVars false

namespace Rp
/-- Does one key stand ahead of another one? -/
def aheadK (p : Int) (m : ByteArray) (q : Int) (n : ByteArray) : Bool := if p = q then lessB m n else decide (q < p)
def aheadR (a b : Rl) : Bool := aheadK a.p a.m b.p b.m
def cmpS (a b : ByteArray) : Int := if lessB a b = true then -1 else if lessB b a = true then 1 else 0
def cmpK (p : Int) (m : ByteArray) (q : Int) (n : ByteArray) : Int := if Lib.compareInt q p = 0 then cmpS m n else Lib.compareInt q p

theorem lessB_eq (a b : ByteArray) : lessB a b = decide (a.toList < b.toList) := bytesLess_eq _ _
theorem lessB_irrefl (a : ByteArray) : lessB a a = false := by rw [lessB_eq]; exact decide_eq_false (List.lt_irrefl _)
theorem lessB_trans {a b c : ByteArray} (h : lessB a b = true) (h2 : lessB b c = true) : lessB a c = true := by
  rw [lessB_eq] at *
  exact decide_eq_true (List.lt_trans (of_decide_eq_true h) (of_decide_eq_true h2))
theorem lessB_ntrans {a b c : ByteArray} (h : lessB a b = false) (h2 : lessB b c = false) : lessB a c = false := by
  rw [lessB_eq] at *
  have h := of_decide_eq_false h
  have h2 := of_decide_eq_false h2
  refine decide_eq_false fun h3 => ?_
  rw [List.not_lt] at h h2
  exact (List.not_lt.2 (List.le_trans h2 h)) h3
theorem lessB_tri {a b : ByteArray} (h : lessB a b = false) (h2 : lessB b a = false) : a = b := by
  rw [lessB_eq] at *
  have h := of_decide_eq_false h
  have h2 := of_decide_eq_false h2
  rw [List.not_lt] at h h2
  have := List.le_antisymm h2 h
  have e : a.data.toList = b.data.toList := by rw [← Lib.toList_data, ← Lib.toList_data]; exact this
  cases a; cases b
  simp only at e
  rw [Array.toList_inj] at e
  rw [e]

theorem compareInt_zero (x y : Int) : Lib.compareInt x y = 0 ↔ x = y := by
  unfold Lib.compareInt
  by_cases h : x < y
  · simp [h]; omega
  · by_cases h2 : y < x
    · simp [h, h2]; omega
    · simp [h, h2]; omega

theorem cmpK_lt (p : Int) (m : ByteArray) (q : Int) (n : ByteArray) : decide (cmpK p m q n < 0) = aheadK p m q n := by
  unfold cmpK aheadK
  by_cases h : p = q
  · subst h
    rw [if_pos ((compareInt_zero _ _).2 rfl), if_pos rfl]
    unfold cmpS
    cases h1 : lessB m n
    · cases h2 : lessB n m <;> simp
    · simp
  · rw [if_neg (fun h2 => h ((compareInt_zero _ _).1 h2).symm), if_neg h, decide_eq_decide]
    unfold Lib.compareInt
    by_cases h1 : q < p
    · simp [h1]
    · by_cases h2 : p < q
      · simp [h1, h2]
      · omega

theorem aheadK_swo_irrefl (p : Int) (m : ByteArray) : aheadK p m p m = false := by unfold aheadK; rw [if_pos rfl]; exact lessB_irrefl m
theorem aheadK_trans {p q r : Int} {a b c : ByteArray} (h : aheadK p a q b = true) (h2 : aheadK q b r c = true) : aheadK p a r c = true := by
  unfold aheadK at *
  by_cases h3 : p = q
  · subst h3
    rw [if_pos rfl] at h
    by_cases h4 : p = r
    · subst h4
      rw [if_pos rfl] at h2
      rw [if_pos rfl]
      exact lessB_trans h h2
    · rw [if_neg h4] at h2 ⊢
      exact h2
  · rw [if_neg h3] at h
    have h := of_decide_eq_true h
    by_cases h4 : q = r
    · subst h4
      rw [if_neg h3]
      exact decide_eq_true h
    · rw [if_neg h4] at h2
      have h2 := of_decide_eq_true h2
      rw [if_neg (by omega)]
      exact decide_eq_true (by omega)
theorem aheadK_ntrans {p q r : Int} {a b c : ByteArray} (h : aheadK p a q b = false) (h2 : aheadK q b r c = false) : aheadK p a r c = false := by
  unfold aheadK at *
  by_cases h3 : p = q
  · subst h3
    rw [if_pos rfl] at h
    by_cases h4 : p = r
    · subst h4
      rw [if_pos rfl] at h2
      rw [if_pos rfl]
      exact lessB_ntrans h h2
    · rw [if_neg h4] at h2 ⊢
      exact h2
  · rw [if_neg h3] at h
    have h := of_decide_eq_false h
    by_cases h4 : q = r
    · subst h4
      rw [if_neg h3]
      exact decide_eq_false h
    · rw [if_neg h4] at h2
      have h2 := of_decide_eq_false h2
      rw [if_neg (by omega)]
      exact decide_eq_false (by omega)
end Rp

def cfC (x y : RC) : Int := Rp.cmpK x.p x.m y.p y.m
def aheadC (x y : RC) : Bool := Rp.aheadK x.p x.m y.p y.m
theorem ltOf_cfC : ltOf cfC = aheadC := by
  funext x y
  show decide (cfC x y < 0) = _
  exact Rp.cmpK_lt _ _ _ _
theorem swoC : SWO aheadC := ⟨fun x => Rp.aheadK_swo_irrefl _ _, fun _ _ _ => Rp.aheadK_trans, fun _ _ _ => Rp.aheadK_ntrans⟩
theorem swoR : SWO Rp.aheadR := ⟨fun x => Rp.aheadK_swo_irrefl _ _, fun _ _ _ => Rp.aheadK_trans, fun _ _ _ => Rp.aheadK_ntrans⟩

theorem isNaNS_any (s : ByteArray) (w : World) : Calls Tryz.prog 98 #[.string s] w fun e w' => e = .returned (.bool false) ∧ w = w' := by
  have h : (s.toList != s.toList) = false := by simp
  go_enter Tryz.func98, Tryz.ntmps98
  go_wp2_with fail
  go_ret
  exact ⟨by first | rfl | simp, rfl⟩

set_option maxHeartbeats 800000 in
theorem compareS_any (a b : ByteArray) (w : World) : Calls Tryz.prog 87 #[.string a, .string b] w fun e w' => e = .returned (.int .i64 (Rp.cmpS a b)) ∧ w = w' := by
  have HN := Lib.hid (fun s W => isNaNS_any s W)
  obtain ⟨q1, h1⟩ : ∃ q, Rp.lessB a b = q := ⟨_, rfl⟩
  obtain ⟨q2, h2⟩ : ∃ q, Rp.lessB b a = q := ⟨_, rfl⟩
  have h3 : (Op.bytesLess a.toList b.toList || a.toList == b.toList) = !q2 := by
    show (Rp.lessB a b || a.toList == b.toList) = _
    rw [← h2]
    cases h4 : Rp.lessB a b with
    | true =>
      cases h5 : Rp.lessB b a with
      | true => have := Rp.lessB_trans h4 h5; rw [Rp.lessB_irrefl] at this; cases this
      | false => rfl
    | false =>
      cases h5 : Rp.lessB b a with
      | true =>
        have : ¬ a.toList = b.toList := fun e => by rw [Rp.lessB_eq, e] at h5; exact (List.lt_irrefl _) (of_decide_eq_true h5)
        simpa using this
      | false => have := Rp.lessB_tri h4 h5; subst this; simp
  have HQ : Hid (Rp.cmpS a b = if q1 = true then -1 else if q2 = true then 1 else 0) := by show _ = _; unfold Rp.cmpS; rw [h1, h2]
  unfold Rp.lessB at h1
  clear h2
  cases q1 with
  | true =>
    clear h3
    go_enter Tryz.func87, Tryz.ntmps87
    go_wp2_with ((with_reducible refine (HN.out _ _).mono ?_); rintro e w' ⟨rfl, rfl⟩)
    go_ret
    exact ⟨by rw [HQ.out]; rfl, rfl⟩
  | false =>
    cases q2 with
    | true =>
      have h4 : (a.toList == b.toList) = false := by rw [h1] at h3; simpa using h3
      clear h3
      go_enter Tryz.func87, Tryz.ntmps87
      go_wp2_with ((with_reducible refine (HN.out _ _).mono ?_); rintro e w' ⟨rfl, rfl⟩)
      go_ret
      exact ⟨by rw [HQ.out]; rfl, rfl⟩
    | false =>
      have h4 : (a.toList == b.toList) = true := by rw [h1] at h3; simpa using h3
      clear h3
      go_enter Tryz.func87, Tryz.ntmps87
      go_wp2_with ((with_reducible refine (HN.out _ _).mono ?_); rintro e w' ⟨rfl, rfl⟩)
      go_ret
      exact ⟨by rw [HQ.out]; rfl, rfl⟩

/-- cmp.Or of two numbers. -/
theorem or2_any (b : Nat) (x y : Int) (w : World) (h0 : w.cell? ⟨b, 0, none⟩ = some (.int .i64 x)) (h1 : w.cell? ⟨b, 1, none⟩ = some (.int .i64 y)) (z : Int) (hz : (if x = 0 then y else x) = z) :
    Calls Tryz.prog 85 #[.slice (some ⟨b, 0, none⟩) 2 2] w fun e w' => e = .returned (.int .i64 z) ∧ w = w' := by
  have HZ := Lib.hid hz
  clear hz
  go_enter Tryz.func85, Tryz.ntmps85
  go_wp2_with fail
  go_loop [8] (fun k => ∃ n : Nat, n ≤ 2 ∧ k = .int .i64 n ∧ Hid (1 ≤ n → x = 0) ∧ Hid (2 ≤ n → y = 0)) (fun k => 2 - (intOf k).toNat)
  case atStart => exact ⟨0, by omega, rfl, fun h => absurd h (by omega), fun h => absurd h (by omega)⟩
  case round =>
    obtain ⟨n, hn, rfl, HI, HJ⟩ := hrel
    by_cases hn0 : n = 0
    · subst hn0
      clear HI HJ
      by_cases hx : x = 0
      · have hx' : (x != 0) = false := by simpa using hx
        have HX := Lib.hid hx
        clear hx
        go_wp2_with fail
        go_round
        case rel => exact ⟨1, by omega, by first | rfl | go_num, fun _ => HX.out, fun h => absurd h (by omega)⟩
        case measure => simp [intOf]
      · have hx' : (x != 0) = true := by simpa using hx
        have HX : Hid (z = x) := by show _ = _; rw [← HZ.out, if_neg hx]
        clear hx
        go_wp2_with fail
        go_ret
        exact ⟨by rw [HX.out]; rfl, rfl⟩
    · by_cases hn1 : n = 1
      · subst hn1
        have HX := Lib.hid (HI.out (Nat.le_refl _))
        clear HI HJ
        by_cases hy : y = 0
        · have hy' : (y != 0) = false := by simpa using hy
          have HY := Lib.hid hy
          clear hy
          go_wp2_with fail
          go_round
          case rel => exact ⟨2, by omega, by first | rfl | go_num, fun _ => HX.out, fun h => HY.out⟩
          case measure => simp [intOf]
        · have hy' : (y != 0) = true := by simpa using hy
          have HX : Hid (z = y) := by show _ = _; rw [← HZ.out, if_pos HX.out]
          clear hy
          go_wp2_with fail
          go_ret
          exact ⟨by rw [HX.out]; rfl, rfl⟩
      · obtain rfl : n = 2 := by omega
        have HX : Hid (z = 0) := by show _ = _; rw [← HZ.out, if_pos (HI.out (by omega)), HJ.out (by omega)]
        clear HI HJ
        go_wp2_with fail
        go_ret
        exact ⟨by rw [HX.out]; rfl, rfl⟩

theorem cI_any (x y q : Int) (h : Lib.compareInt x y = q) (w : World) : Calls Tryz.prog 86 #[.int .i64 x, .int .i64 y] w fun e w' => e = .returned (.int .i64 q) ∧ w' = w := by
  subst h; exact Tryz.cmp_Compare_int x y w

/-- w' is w with some draws and some new blocks. -/
def Grn (w w' : World) : Prop := ∃ q os, w' = grow (w.drewN q) os
theorem Grn.refl (w : World) : Grn w w := ⟨0, #[], by simp [World.drewN]⟩
theorem Grn.alloc {w w' : World} (h : Grn w w') (o : Obj) : Grn w (w'.alloc o) := by
  obtain ⟨q, os, rfl⟩ := h
  exact ⟨q, os ++ #[o], by rw [alloc_eq_grow, grow_grow]⟩
theorem Grn.drew {w w' : World} (h : Grn w w') : Grn w w'.drew := by
  obtain ⟨q, os, rfl⟩ := h
  exact ⟨q + 1, os, rfl⟩
theorem Grn.drewN {w w' : World} (h : Grn w w') (n : Nat) : Grn w (w'.drewN n) := by
  obtain ⟨q, os, rfl⟩ := h
  exact ⟨q + n, os, by rw [show (grow (w.drewN q) os).drewN n = grow ((w.drewN q).drewN n) os from rfl, World.drewN_drewN]⟩
theorem Grn.grow {w w' : World} (h : Grn w w') (n : Nat) (os : Array Obj) : Grn w (Sort.grow (w'.drewN n) os) := by
  obtain ⟨q, os', h2⟩ := h.drewN n
  exact ⟨q, os' ++ os, by rw [h2, grow_grow]⟩
theorem Grn.trans {a b c : World} (h : Grn a b) (k : Grn b c) : Grn a c := by
  obtain ⟨q, os, rfl⟩ := k
  exact h.grow q os
theorem Grn.below {w w' : World} (h : Grn w w') : Below w.heap.size w w' := by
  obtain ⟨q, os, rfl⟩ := h
  exact ⟨rfl, rfl, rfl, by rw [size_grow]; exact Nat.le_add_right _ _, fun k hk => heap_grow_old (w.drewN q) os hk⟩

set_option maxHeartbeats 1600000 in
set_option maxRecDepth 20000 in
theorem order_any (x y : RC) (w : World) (z : Int) (hz : cfC x y = z) :
    Calls Tryz.prog 76 #[x.v, y.v] w fun e w' => e = .returned (.int .i64 z) ∧ Grn w w' := by
  obtain ⟨p, m, k, a, n, c⟩ := x
  obtain ⟨p2, m2, k2, a2, n2, c2⟩ := y
  unfold cfC Rp.cmpK at hz
  simp only at hz
  obtain ⟨c1, hc1⟩ : ∃ c1, Lib.compareInt p2 p = c1 := ⟨_, rfl⟩
  obtain ⟨c3, hc3⟩ : ∃ c3, Rp.cmpS m m2 = c3 := ⟨_, rfl⟩
  rw [hc1, hc3] at hz
  have HZ := Lib.hid hz
  have HI := Lib.hid (fun W => cI_any p2 p c1 hc1 W)
  have HS := Lib.hid (fun W => compareS_any m m2 W)
  rw [hc3] at HS
  have HO := Lib.hid (fun b W h0 h1 => or2_any b c1 c3 W h0 h1 z hz)
  clear hz hc1 hc3
  unfold RC.v
  simp only
  obtain ⟨W2, hW2⟩ : ∃ W2, W2 = (w.alloc (.cells #[.int .i64 p, .string m, .int .i64 k, .slice a n c] 62)).alloc (.cells #[.int .i64 p2, .string m2, .int .i64 k2, .slice a2 n2 c2] 62) := ⟨_, rfl⟩
  have HG : Hid (Grn w W2) := by rw [hW2]; exact ((Grn.refl w).alloc _).alloc _
  obtain ⟨b1, hb1⟩ : ∃ b1, b1 = w.heap.size := ⟨_, rfl⟩
  obtain ⟨b2, hb2⟩ : ∃ b2, b2 = w.heap.size + 1 := ⟨_, rfl⟩
  have x0 : W2.cell? ⟨b1, 0, none⟩ = some (.int .i64 p) := by rw [hW2, hb1]; simp [go_sem]
  have x1 : W2.cell? ⟨b1, 1, none⟩ = some (.string m) := by rw [hW2, hb1]; simp [go_sem]
  have y0 : W2.cell? ⟨b2, 0, none⟩ = some (.int .i64 p2) := by rw [hW2, hb2]; simp [go_sem]
  have y1 : W2.cell? ⟨b2, 1, none⟩ = some (.string m2) := by rw [hW2, hb2]; simp [go_sem]
  go_enter Tryz.func76, Tryz.ntmps76
  go_upto_region 1 with fail
  rw [← hW2, ← hb2, ← hb1]
  clear hW2 hb1 hb2
  go_region_held3 (fun w' => w'.cell? ⟨b1, 0, none⟩ = some (.int .i64 p) ∧ w'.cell? ⟨b1, 1, none⟩ = some (.string m) ∧ w'.cell? ⟨b2, 0, none⟩ = some (.int .i64 p2) ∧ w'.cell? ⟨b2, 1, none⟩ = some (.string m2)) (first | go_keep | exact ⟨x0, x1, y0, y1⟩) (first | (go_at_call 86; refine (HI.out _).mono ?_; rintro _ _ ⟨rfl, rfl⟩) | (go_at_call 87; refine (HS.out _).mono ?_; rintro _ _ ⟨rfl, rfl⟩) | (go_at_call 85; refine (HO.out _ _ (by simp [go_sem]) (by simp [go_sem])).mono ?_; rintro _ _ ⟨rfl, rfl⟩))
  all_goals
    go_wp2_with fail
    go_ret
    exact ⟨rfl, (HG.out.alloc _).drew⟩
end Go.Proofs.YtlbelkjgaeaaeaaGreat
