/-
  Walks: which ports and actions may be: the code's.
-/
import Derived.Test.YtbjkbcbclgfmpaaDoorRgC
import Derived.Test.YtbjkbcbclgfmpaaDoorRgG
import Derived.BigQuiet
import Derived.Shelf.SlSortCmp.KitK
import Derived.Lib.Hide
import Derived.WalkKit
import Derived.Test.YtbjkbcbclgfmpaaDoorRgA
import Derived.Test.YtbjkbcbclgfmpaaDoorShelf
import Derived.Shelf.SlSortCmp.QuietGrown
namespace Go.Proofs.YtbjkbcbclgfmpaaDoor
open Go.RowKit
set_option linter.unusedVariables false

theorem okAt_at {ps : List ByteArray} {i : Nat} (h : i < ps.length) : Rp.okAt ps i = (Rp.nameB ps[i].data.toList && (i == 0 || Rp.lessB (ps[i - 1]'(by omega)) ps[i])) := by
  unfold Rp.okAt
  rw [List.getD_eq_getElem?_getD, List.getElem?_eq_getElem h, List.getD_eq_getElem?_getD, List.getElem?_eq_getElem (show i - 1 < ps.length by omega)]
  rfl

theorem ports_bad {ps : List ByteArray} {i : Nat} (h : i < ps.length) (hf : Rp.okAt ps i = false) : Rp.portsB ps = false := by
  unfold Rp.portsB
  rw [Rp.range_all_false h hf]; rfl

set_option maxHeartbeats 800000 in
set_option maxRecDepth 20000 in
theorem ports_any (v : Value) (ps : List ByteArray) (w : World) (hr : RdsS w v ps) (hz : ∀ x ∈ ps, x.size ≤ 140737488351232) :
    Calls Tryd.prog 36 #[v] w fun e w' => e = .returned (.bool (Rp.portsB ps)) ∧ w = w' := by
  obtain ⟨ad, len, cap, rfl, hl, hlm, hel⟩ := rdsS_form hr
  unfold maxLen at hlm
  have HL := Lib.hid hl
  have HEL := Lib.hid hel
  have HZ := Lib.hid hz
  clear hl hel hz hr
  go_enter Tryd.func36, Tryd.ntmps36
  go_wp2_with fail
  go_loop [3, 4, 7] (fun _ _ k => ∃ n : Nat, n ≤ len ∧ k = .int .i64 n ∧ Hid ((List.range n).all (Rp.okAt ps) = true)) (fun _ _ k => len - (intOf k).toNat)
  case atStart => exact ⟨0, Nat.zero_le _, rfl, rfl⟩
  case round =>
    obtain ⟨n, hn, rfl, HA⟩ := hrel
    by_cases hlt : n < len
    · have hn' : n < ps.length := by rw [← HL.out]; exact hlt
      obtain ⟨b, off, rfl, hb, hc⟩ := HEL.out n hn'
      have hsz : ps[n].size ≤ 9223372036854775807 := by have := HZ.out _ (List.getElem_mem hn'); omega
      obtain ⟨d, hd⟩ : ∃ d, Rp.nameB ps[n].data.toList = d := ⟨_, rfl⟩
      have HD := Lib.hid (name_is ps[n] d (by unfold maxLen; exact hsz) hd)
      have HK := Lib.hid (okAt_at hn')
      rw [hd] at HK
      clear hd
      cases d with
      | false =>
        have HF := Lib.hid (ports_bad hn' (by rw [HK.out]; rfl))
        clear HK
        go_wp2_with ((with_reducible refine (HD.out _).mono ?_); rintro e w' ⟨rfl, rfl⟩)
        go_ret
        exact ⟨ret_bool HF.out.symm, rfl⟩
      | true =>
        by_cases hn0 : n = 0
        · subst hn0
          simp only [Nat.add_zero] at hc
          have HO : Hid (Rp.okAt ps 0 = true) := by show _ = _; rw [HK.out]; rfl
          clear HK
          go_wp2_with ((with_reducible refine (HD.out _).mono ?_); rintro e w' ⟨rfl, rfl⟩)
          go_round
          case rel => exact ⟨1, by omega, by go_num, by unfold Hid; rw [Rp.range_all_succ, HA.out, HO.out]; rfl⟩
          case measure => simp [intOf]; omega
        · obtain ⟨m, rfl⟩ : ∃ m, n = m + 1 := ⟨n - 1, by omega⟩
          have hm' : m < ps.length := by omega
          obtain ⟨b2, off2, hab, hb2, hc2⟩ := HEL.out m hm'
          injection hab with hab
          injection hab with e1 e2
          subst e1 e2
          have hmz : ((m + 1 : Nat) : Int) - 1 = (m : Int) := by omega
          have hmlt : (m : Int) < (len : Int) := by omega
          obtain ⟨q, hq⟩ : ∃ q, Rp.lessB ps[m] ps[m + 1] = q := ⟨_, rfl⟩
          have HK2 : Hid (Rp.okAt ps (m + 1) = q) := by show _ = _; rw [HK.out, ← hq]; simp
          unfold Rp.lessB at hq
          clear HK
          cases q with
          | false =>
            have HF := Lib.hid (ports_bad hn' HK2.out)
            go_wp2_with ((with_reducible refine (HD.out _).mono ?_); rintro e w' ⟨rfl, rfl⟩)
            go_ret
            exact ⟨ret_bool HF.out.symm, rfl⟩
          | true =>
            go_wp2_with ((with_reducible refine (HD.out _).mono ?_); rintro e w' ⟨rfl, rfl⟩)
            go_round
            case rel => exact ⟨m + 1 + 1, by omega, by go_num, by unfold Hid; rw [Rp.range_all_succ, HA.out, HK2.out]; rfl⟩
            case measure => simp [intOf]; omega
    · have HE : Hid (Rp.portsB ps = (decide (1 ≤ len) && decide (len ≤ 64))) := by
        show _ = _
        have : n = ps.length := by have := HL.out; omega
        unfold Rp.portsB
        have h2 := HA.out
        rw [this] at h2
        rw [h2, HL.out, Bool.true_and]
      go_wp2_with fail
      all_goals
        go_ret
        refine ⟨ret_bool ?_, rfl⟩
        rw [HE.out, Bool.eq_iff_iff]
        simp
        omega

theorem ports_is (v : Value) (ps : List ByteArray) (d : Bool) (w : World) (hr : RdsS w v ps) (hz : ∀ x ∈ ps, x.size ≤ 140737488351232) (h : Rp.portsB ps = d) :
    Calls Tryd.prog 36 #[v] w fun e w' => e = .returned (.bool d) ∧ w = w' := by subst h; exact ports_any v ps w hr hz

set_option maxHeartbeats 800000 in
set_option maxRecDepth 20000 in
theorem action_any (k : Int) (a : Option Addr) (n c : Nat) (ps : List ByteArray) (w : World) (hr : RdsS w (.slice a n c) ps) (hz : ∀ x ∈ ps, x.size ≤ 140737488351232) (q : Bool) (hq : Rp.actionB k ps = q) :
    Calls Tryd.prog 21 #[.agg #[.int .i64 k, .slice a n c]] w fun e w' => e = .returned (.bool q) ∧ Below w.heap.size w w' := by
  obtain ⟨ad, len, cap, hv, hl, hlm, _⟩ := rdsS_form hr
  injection hv with e1 e2 e3
  subst e1 e2 e3
  have HB := Lib.hid ((Below.refl w.heap.size w).alloc (Nat.le_refl _) (.cells #[.int .i64 k, .slice a n c] 40))
  have HR := Lib.hid (hr.below HB.out)
  have HQ := Lib.hid hq
  have HL := Lib.hid hl
  have HZ := Lib.hid hz
  unfold maxLen at hlm
  clear hq hl hr hz
  by_cases h12 : k = 1 ∨ k = 2
  · have HQ2 : Hid (decide ((n : Int) = 0) = q) := by
      show _ = _
      rw [← HQ.out]
      unfold Rp.actionB
      rw [if_pos h12, HL.out, decide_eq_decide]
      omega
    rcases h12 with rfl | rfl
    all_goals
      go_enter Tryd.func21, Tryd.ntmps21
      go_wp2_with fail
      go_ret
      exact ⟨ret_bool (by rw [← HQ2.out]; first | rfl | (rw [Bool.eq_iff_iff]; simp)), HB.out⟩
  · by_cases h34 : k = 3 ∨ k = 4
    · have HP := Lib.hid (ports_is _ ps q _ HR.out HZ.out (by rw [← HQ.out]; unfold Rp.actionB; rw [if_neg h12, if_pos h34]))
      clear h12
      rcases h34 with rfl | rfl
      all_goals
        go_enter Tryd.func21, Tryd.ntmps21
        go_wp2_with fail
        refine HP.out.mono ?_
        rintro e w1 ⟨rfl, rfl⟩
        go_wp2_with fail
        go_ret
        exact ⟨rfl, HB.out⟩
    · have HQ2 : Hid (q = false) := by show _ = _; rw [← HQ.out]; unfold Rp.actionB; rw [if_neg h12, if_neg h34]
      have n1 : ¬ k = 1 := fun h => h12 (.inl h)
      have n2 : ¬ k = 2 := fun h => h12 (.inr h)
      have n3 : ¬ k = 3 := fun h => h34 (.inl h)
      have n4 : ¬ k = 4 := fun h => h34 (.inr h)
      clear h12 h34
      go_enter Tryd.func21, Tryd.ntmps21
      go_wp2_with fail
      go_ret
      exact ⟨ret_bool HQ2.out.symm, HB.out⟩

theorem checkR_cases (r : Rl) (width : Int) (q : Int) (h : Rp.checkR r width = q) :
    (q = 1 ∧ (width < 1 ∨ width > 128 ∨ r.p < 0 ∨ r.p > 2147483647)) ∨
    ((1 ≤ width ∧ width ≤ 128 ∧ 0 ≤ r.p ∧ r.p ≤ 2147483647) ∧
      ((q = 10 ∧ Cb.isCube r.m.data.toList = false) ∨
       (Cb.isCube r.m.data.toList = true ∧ ((q = 11 ∧ ¬ ((r.m.size : Int) = width)) ∨
          ((r.m.size : Int) = width ∧ ((q = 51 ∧ Rp.actionB r.k r.ps = false) ∨ (q = 0 ∧ Rp.actionB r.k r.ps = true))))))) := by
  unfold Rp.checkR at h
  by_cases h1 : width < 1 ∨ width > 128 ∨ r.p < 0 ∨ r.p > 2147483647
  · rw [if_pos h1] at h; exact .inl ⟨h.symm, h1⟩
  · rw [if_neg h1] at h
    refine .inr ⟨by omega, ?_⟩
    cases h2 : Cb.isCube r.m.data.toList with
    | false => rw [if_pos h2] at h; exact .inl ⟨h.symm, rfl⟩
    | true =>
      rw [if_neg (by rw [h2]; simp)] at h
      refine .inr ⟨rfl, ?_⟩
      by_cases h3 : (r.m.size : Int) = width
      · rw [if_neg (by simpa using h3)] at h
        refine .inr ⟨h3, ?_⟩
        cases h4 : Rp.actionB r.k r.ps with
        | false => rw [if_pos h4] at h; exact .inl ⟨h.symm, rfl⟩
        | true => rw [if_neg (by rw [h4]; simp)] at h; exact .inr ⟨h.symm, rfl⟩
      · rw [if_pos h3] at h; exact .inl ⟨h.symm, h3⟩

set_option maxHeartbeats 1600000 in
set_option maxRecDepth 20000 in
theorem check_any (ok : Nat → Prop) (x : RC) (r : Rl) (width : Int) (w : World) (hr : RdC ok w x r) (q : Int) (hq : Rp.checkR r width = q) :
    Calls Tryd.prog 9 #[x.v, .int .i64 width] w fun e w' => e = .returned (.int .i64 q) ∧ Below w.heap.size w w' := by
  obtain ⟨p, m, k, a, n, c⟩ := x
  obtain ⟨hp, hm, hk, hs, hz⟩ := hr
  simp only at hp hm hk hs
  subst hp hm hk
  unfold RC.v
  simp only
  have hms : r.m.size ≤ maxLen := by have := hz.m; unfold maxLen; omega
  have hB := (Below.refl w.heap.size w).alloc (Nat.le_refl _) (.cells #[.int .i64 r.p, .string r.m, .int .i64 r.k, .slice a n c] 42)
  have HB := Lib.hid hB
  have HR := Lib.hid (hs.1.below hB)
  have HZ := Lib.hid hz.s
  clear hs hz hB
  rcases checkR_cases r width q hq with ⟨rfl, h⟩ | ⟨⟨h1, h2, h3, h4⟩, h⟩
  · clear hq
    rcases h with h | h | h | h
    all_goals
      go_enter Tryd.func9, Tryd.ntmps9
      go_wp2_with fail
      all_goals (go_ret; exact ⟨rfl, HB.out⟩)
  · clear hq
    rcases h with ⟨rfl, hc⟩ | ⟨hc, h⟩
    · have HC := Lib.hid (fun W => Check_bad r.m W hms hc)
      clear hc
      go_enter Tryd.func9, Tryd.ntmps9
      go_wp2_with fail
      refine (HC.out _).mono ?_
      rintro e w1 ⟨rfl, hb1⟩
      have HB1 := Lib.hid (HB.out.trans (hb1.mono (by simp)))
      clear hb1
      go_wp2_with fail
      go_ret
      exact ⟨rfl, HB1.out⟩
    · have HC := Lib.hid (fun W => Check_ok r.m W hms hc)
      clear hc
      rcases h with ⟨rfl, hw⟩ | ⟨hw, h⟩
      · have hw' : ¬ width = (r.m.size : Int) := fun h => hw h.symm
        go_enter Tryd.func9, Tryd.ntmps9
        go_wp2_with fail
        refine (HC.out _).mono ?_
        rintro e w1 ⟨rfl, hb1⟩
        have HB1 := Lib.hid (HB.out.trans (hb1.mono (by simp)))
        have hcl := fun p hp => Below.cell hb1 (p := p) hp
        clear hb1
        go_wp2_with fail
        go_ret
        exact ⟨rfl, HB1.out⟩
      · obtain ⟨qa, hqa, hqq⟩ : ∃ qa : Bool, Rp.actionB r.k r.ps = qa ∧ q = if qa = true then 0 else 51 := by
          rcases h with ⟨rfl, h⟩ | ⟨rfl, h⟩
          · exact ⟨false, h, rfl⟩
          · exact ⟨true, h, rfl⟩
        have HAc := Lib.hid (fun W hW => action_any r.k a n c r.ps W hW HZ.out qa hqa)
        have HQQ := Lib.hid hqq
        clear h hqa hqq
        go_enter Tryd.func9, Tryd.ntmps9
        go_wp2_with fail
        refine (HC.out _).mono ?_
        rintro e w1 ⟨rfl, hb1⟩
        have HB1 := Lib.hid (HB.out.trans (hb1.mono (by simp)))
        have HR1 := Lib.hid (HR.out.below hb1)
        have hcl := fun p hp => Below.cell hb1 (p := p) hp
        clear hb1
        go_wp2_with fail
        refine (HAc.out _ HR1.out).mono ?_
        rintro e w2 ⟨rfl, hb2⟩
        have HB2 := Lib.hid (HB1.out.trans (hb2.mono HB1.out.size))
        clear hb2
        cases qa with
        | true =>
          obtain rfl : q = 0 := HQQ.out
          go_wp2_with fail
          go_ret
          exact ⟨rfl, HB2.out⟩
        | false =>
          obtain rfl : q = 51 := HQQ.out
          go_wp2_with fail
          go_ret
          exact ⟨rfl, HB2.out⟩
end Go.Proofs.YtbjkbcbclgfmpaaDoor
/-
  Walks: which ports, actions and rules may be: the reference's.
-/
namespace Go.Proofs.YtbjkbcbclgfmpaaDoor
open Go.RowKit
set_option linter.unusedVariables false

theorem actionB_loop (k : Int) (ps : List ByteArray) (h12 : ¬ (k = 1 ∨ k = 2)) (h : (List.range ps.length).all (Rp.okAt ps) = true) :
    Rp.actionB k ps = ((decide (k = 3) || decide (k = 4)) && decide (1 ≤ ps.length) && decide (ps.length ≤ 64)) := by
  unfold Rp.actionB
  rw [if_neg h12]
  by_cases h34 : k = 3 ∨ k = 4
  · rw [if_pos h34]
    unfold Rp.portsB
    rw [h, Bool.true_and]
    have : (decide (k = 3) || decide (k = 4)) = true := by simpa using h34
    rw [this, Bool.true_and]
  · rw [if_neg h34]
    have : (decide (k = 3) || decide (k = 4)) = false := by simpa using h34
    rw [this]; rfl

theorem actionB_bad {k : Int} {ps : List ByteArray} (h12 : ¬ (k = 1 ∨ k = 2)) {i : Nat} (h : i < ps.length) (hf : Rp.okAt ps i = false) : Rp.actionB k ps = false := by
  unfold Rp.actionB
  rw [if_neg h12]
  split
  · exact ports_bad h hf
  · rfl

end Go.Proofs.YtbjkbcbclgfmpaaDoor
/-
  Walks: slices.SortStableFunc over rows of four cells: swapRangeCmpFunc, rotateCmpFunc.
-/
namespace Go.Proofs.YtbjkbcbclgfmpaaDoor
open Go.RowKit Go.Shelf Go.Lib Go.Sort
set_option linter.unusedVariables false
variable {P : Program} {k : Nat} {α : Type} [Inhabited α]

theorem row_get (p : List α) (x : α) (q : List α) : (p ++ x :: q).toArray[p.length]! = x := by simp

/-- One step of the exchange of two runs. -/
theorem swap_step (p y1 : List α) (u : α) (x2 m x1 : List α) (v : α) (y2 q : List α) (h : x1.length = y1.length) :
    swp (p ++ y1 ++ (u :: x2) ++ m ++ x1 ++ (v :: y2) ++ q).toArray (p.length + y1.length) (p.length + (y1.length + 1 + x2.length) + m.length + x1.length) = (p ++ (y1 ++ [v]) ++ x2 ++ m ++ (x1 ++ [u]) ++ y2 ++ q).toArray := by
  have e1 : p ++ y1 ++ (u :: x2) ++ m ++ x1 ++ (v :: y2) ++ q = (p ++ y1) ++ u :: ((x2 ++ m ++ x1) ++ v :: (y2 ++ q)) := by simp
  have e2 : p ++ (y1 ++ [v]) ++ x2 ++ m ++ (x1 ++ [u]) ++ y2 ++ q = (p ++ y1) ++ v :: ((x2 ++ m ++ x1) ++ u :: (y2 ++ q)) := by simp
  rw [e1, e2]
  have := St.swp_list (p ++ y1) u (x2 ++ m ++ x1) v (y2 ++ q)
  rw [show p.length + y1.length = (p ++ y1).length by simp, show p.length + (y1.length + 1 + x2.length) + m.length + x1.length = (p ++ y1).length + 1 + (x2 ++ m ++ x1).length by simp; omega]
  exact this

end Go.Proofs.YtbjkbcbclgfmpaaDoor
/-
  Walks: slices.SortStableFunc: rotateCmpFunc.
-/
namespace Go.Proofs.YtbjkbcbclgfmpaaDoor
open Go.RowKit Go.Shelf Go.Lib Go.Sort
set_option linter.unusedVariables false
set_option linter.unusedSectionVars false
variable {P : Program} {k : Nat} {α : Type} [Inhabited α]

theorem cat_cut (A X B : List α) (j : Nat) : A ++ X ++ B = A ++ X.take j ++ X.drop j ++ B := by
  rw [List.append_assoc A (X.take j), List.take_append_drop]

end Go.Proofs.YtbjkbcbclgfmpaaDoor
/-
  Walks: slices.SortStableFunc: symMergeCmpFunc where one of the two runs is a single element.
-/
namespace Go.Proofs.YtbjkbcbclgfmpaaDoor
open Go.RowKit Go.Shelf Go.Lib Go.Sort
set_option linter.unusedVariables false
set_option linter.unusedSectionVars false
variable {P : Program} {k : Nat} {α : Type} [Inhabited α]

theorem St.mrg_one_left {lt : α → α → Bool} (hO : SWO lt) {v1 v2 : List α} {x : α} (h1 : ∀ y ∈ v1, lt y x = true) (h2 : ∀ y ∈ v2, lt y x = false) (hv : St.Srd lt (v1 ++ v2)) : St.mrg lt [x] (v1 ++ v2) = v1 ++ [x] ++ v2 := by
  have a1 := List.pairwise_append.1 hv
  rw [St.mrg_append]
  have e1 : St.mrg lt [x] v1 = v1 ++ [x] := by
    have := St.mrg_left (lt := lt) (v := v1) (s := []) (t := [x]) (fun y hy z hz => by simp at hz; subst hz; exact h1 y hy)
    rw [List.nil_append] at this
    rw [this, St.mrg_nil_left hO a1.1]
  rw [e1]
  refine St.mrg_nil hO ?_
  rw [List.append_assoc]
  refine List.pairwise_append.2 ⟨a1.1, List.pairwise_cons.2 ⟨fun y hy => ?_, a1.2.1⟩, ?_⟩
  · simp at hy; exact h2 y hy
  · intro y hy z hz
    rcases List.mem_cons.1 hz with rfl | hz
    · exact St.asym hO (h1 y hy)
    · simp at hz; exact a1.2.2 y hy z hz

theorem St.insL_at {lt : α → α → Bool} {u1 u2 : List α} {x : α} (h1 : ∀ y ∈ u1, lt x y = false) (h2 : ∀ y ∈ u2, lt x y = true) : St.insL lt (u1 ++ u2) x = u1 ++ [x] ++ u2 := by
  rw [St.insL_right h1]
  have := St.insL_left (lt := lt) (s := []) (t := u2) (x := x) h2
  rw [List.nil_append] at this
  rw [this]
  simp [St.insL]

theorem mem_take_get {l : List α} {t : Nat} {y : α} (h : y ∈ l.take t) : ∃ i, ∃ hi : i < l.length, i < t ∧ l[i] = y := by
  obtain ⟨i, hi, rfl⟩ := List.mem_iff_getElem.1 h
  rw [List.length_take] at hi
  exact ⟨i, by omega, by omega, by simp⟩

theorem mem_drop_get {l : List α} {t : Nat} {y : α} (h : y ∈ l.drop t) : ∃ i, ∃ hi : i < l.length, t ≤ i ∧ l[i] = y := by
  obtain ⟨i, hi, rfl⟩ := List.mem_iff_getElem.1 h
  rw [List.length_drop] at hi
  exact ⟨t + i, by omega, by omega, by simp⟩

theorem srd_get {lt : α → α → Bool} {l : List α} (h : St.Srd lt l) {i j : Nat} (hi : i < l.length) (hj : j < l.length) (hij : i < j) : lt l[j] l[i] = false := (List.pairwise_iff_getElem.1 h) i j hi hj hij

theorem get_row (p l q : List α) (i : Nat) (h : i < l.length) : (p ++ l ++ q).toArray[p.length + i]! = l[i] := by
  rw [St.get_toArray]
  have hi : p.length + i < (p ++ l ++ q).length := by simp; omega
  rw [getElem!_pos (p ++ l ++ q) (p.length + i) hi, List.getElem_append_left (by simp; omega), List.getElem_append_right (by omega)]
  simp

theorem swap_up (p : List α) (x y : α) (q : List α) : swp (p ++ x :: y :: q).toArray p.length (p.length + 1) = (p ++ y :: x :: q).toArray := by
  have := St.swp_list p x [] y q
  simpa using this

end Go.Proofs.YtbjkbcbclgfmpaaDoor
/-
  Walks: slices.SortStableFunc: symMergeCmpFunc where the right run is a single element.
-/
namespace Go.Proofs.YtbjkbcbclgfmpaaDoor
open Go.RowKit Go.Shelf Go.Lib Go.Sort
set_option linter.unusedVariables false
set_option linter.unusedSectionVars false
variable {P : Program} {k : Nat} {α : Type} [Inhabited α]

end Go.Proofs.YtbjkbcbclgfmpaaDoor
