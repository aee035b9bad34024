/-
  Walks over the reference of layer 1: Texts, Meet, Inside, Has, Cut.
-/
import Derived.Test.YtlbelkjgaeaaeaaGreatCubeRC
namespace Go.Proofs.YtlbelkjgaeaaeaaGreat
open Go.RowKit

theorem Texts_empty (a1 a2 : Option Addr) (c1 c2 : Nat) (w : World) :
    Calls Tryz.prog 38 #[.slice a1 0 c1, .slice a2 0 c2] w fun e w' => e = .returned (.bool true) ∧ ∃ k, w' = w.drewN k := by
  go_enter Tryz.func38, Tryz.ntmps38
  go_wp2_with fail
  go_loop [5] (fun k => k = .int .i64 0) (fun k => 0)
  case atStart => rfl
  case round =>
    subst hrel
    go_wp2_with fail
    go_ret
    exact ⟨rfl, 0, rfl⟩

set_option maxHeartbeats 400000 in
set_option maxRecDepth 20000 in
theorem Texts_rows (ss : List ByteArray) (b1 o1 c1 b2 o2 c2 len : Nat) (w : World) (hl : Hid (len = ss.length)) (hlm : len ≤ 9223372036854775807)
    (hc1 : Hid (∀ i (h : i < ss.length), w.cell? ⟨b1, o1 + i, none⟩ = some (.string ss[i])))
    (hc2 : Hid (∀ i (h : i < ss.length), w.cell? ⟨b2, o2 + i, none⟩ = some (.string ss[i]))) :
    Calls Tryz.prog 38 #[.slice (some ⟨b1, o1, none⟩) len c1, .slice (some ⟨b2, o2, none⟩) len c2] w fun e w' => e = .returned (.bool true) ∧ ∃ k, w' = w.drewN k := by
  go_enter Tryz.func38, Tryz.ntmps38
  go_wp2_with fail
  go_loopw [5] (fun k wr => ∃ n : Nat, n ≤ len ∧ k = .int .i64 n ∧ ∃ q, wr = w.drewN q) (fun k _ => len - (intOf k).toNat)
  case atStart => exact ⟨0, Nat.zero_le _, rfl, 0, rfl⟩
  case round =>
    obtain ⟨n, hn, rfl, q, rfl⟩ := hrel
    by_cases hlt : n < len
    · have hn' : n < ss.length := by rw [← hl.out]; omega
      have hcell1 := hc1.out n hn'
      have hcell2 := hc2.out n hn'
      have hi0 : (0 : Int) ≤ (n : Int) := by omega
      have hi1 : (n : Int) < (len : Int) := by omega
      have he : (ss[n].toList != ss[n].toList) = false := by simp
      go_wp2_with fail
      go_quiet (fail)
      go_wp2_with fail
      go_roundw
      case rel => exact ⟨n + 1, by omega, by go_num, _, rfl⟩
      case measure => simp [intOf]; omega
    · go_wp2_with fail
      go_ret
      exact ⟨rfl, _, rfl⟩

theorem Texts_same {ss : List ByteArray} {v1 v2 : Value} {w : World} (h1 : RdsS w v1 ss) (h2 : RdsS w v2 ss) :
    Calls Tryz.prog 38 #[v1, v2] w fun e w' => e = .returned (.bool true) ∧ ∃ k, w' = w.drewN k := by
  rcases rdsS_cases h1 with ⟨_, _, rfl, rfl⟩ | ⟨b1, o1, l1, c1, rfl, hl1, hc1, hm1, hb1, hx1⟩
  · rcases rdsS_cases h2 with ⟨_, _, rfl, _⟩ | ⟨b2, o2, l2, c2, rfl, hl2, hc2, hm2, hb2, hx2⟩
    · exact Texts_empty _ _ _ _ w
    · have : l2 = 0 := by simpa using hl2
      subst this
      exact Texts_empty _ _ _ _ w
  · rcases rdsS_cases h2 with ⟨_, _, rfl, rfl⟩ | ⟨b2, o2, l2, c2, rfl, hl2, hc2, hm2, hb2, hx2⟩
    · have : l1 = 0 := by simpa using hl1
      subst this
      exact Texts_empty _ _ _ _ w
    · obtain rfl : l1 = l2 := by omega
      unfold maxLen at hm1
      exact Texts_rows ss b1 o1 c1 b2 o2 c2 l1 w hl1 (by omega) hx1 hx2

theorem wrong_two_any (a b : ByteArray) (w : World) (o : Nat) (ho : o = w.heap.size) (t : TypeId) (ha : a.size ≤ maxLen) (hb : b.size ≤ maxLen) (e : Int) (he : Cb.wrong [a.data.toList, b.data.toList] = e) :
    Calls Tryz.prog 92 #[.slice (some ⟨o, 0, none⟩) 2 2] (w.alloc (.cells #[.string a, .string b] t)) fun x w' => x = .returned (.int .i64 e) ∧ ∃ k, w' = (w.alloc (.cells #[.string a, .string b] t)).drewN k := by
  subst he
  exact wrong_any [a, b] _ _ (two_rds w a b o ho t) (two_le ha hb)

set_option maxHeartbeats 400000 in
set_option maxRecDepth 20000 in
theorem rMeet_bad (a b : ByteArray) (w : World) (ha : a.size ≤ maxLen) (hb : b.size ≤ maxLen) (hw : ¬ Cb.wrong [a.data.toList, b.data.toList] = 0) :
    Calls Tryz.prog 82 #[.string a, .string b] w fun e w' => e = .returned (.tuple #[.string ⟨#[]⟩, .bool false, .int .i64 (Cb.wrong [a.data.toList, b.data.toList])]) ∧ Below w.heap.size w w' := by
  generalize hc : Cb.wrong [a.data.toList, b.data.toList] = c at hw
  have HC := Lib.hid hc
  have hne : ((c : Int) != 0) = true := by simpa using hw
  clear hc hw
  go_enter Tryz.func82, Tryz.ntmps82
  go_wp2_with fail
  refine (wrong_two_any a b w _ (by simp) _ ha hb c HC.out).mono ?_
  rintro e w' ⟨rfl, k, rfl⟩
  go_wp2_with fail
  go_ret3
  exact ⟨rfl, below_dN ((Below.refl _ w).alloc (Nat.le_refl _) _) k⟩

set_option maxHeartbeats 400000 in
set_option maxRecDepth 20000 in
theorem rMeet_yes (a b m : ByteArray) (w : World) (ha : a.size ≤ maxLen) (hb : b.size ≤ maxLen) (hw : Cb.wrong [a.data.toList, b.data.toList] = 0) (hm : Cb.meet a.data.toList b.data.toList = some m.data.toList) :
    Calls Tryz.prog 82 #[.string a, .string b] w fun e w' => e = .returned (.tuple #[.string m, .bool true, .int .i64 0]) ∧ Below w.heap.size w w' := by
  have hsz : b.size = a.size := by simpa using (Cb.wrong_two hw).2.2
  have ha2 : a.size ≤ 128 := by have := (Cb.ofB_len (Cb.wrong_two hw).1).2; simpa using this
  have ha1 : 1 ≤ a.size := by have := (Cb.ofB_len (Cb.wrong_two hw).1).1; simpa using this
  have HW := Lib.hid hw
  have HM := Lib.hid hm
  have HS := Lib.hid hsz
  clear hw hm hsz
  go_enter Tryz.func82, Tryz.ntmps82
  go_wp2_with fail
  refine (wrong_two_any a b w _ (by simp) _ ha hb 0 HW.out).mono ?_
  rintro e w' ⟨rfl, k, rfl⟩
  go_wp2_with fail
  refine (both_yes _ HS.out ha2 ha1 HM.out).mono ?_
  rintro e w' ⟨rfl, hb1⟩
  have hB := Lib.hid ((below_dN ((Below.refl _ w).alloc (Nat.le_refl _) _) k).trans (hb1.mono (by simp)))
  clear hb1
  go_wp2_with fail
  go_ret3
  exact ⟨rfl, hB.out⟩

set_option maxHeartbeats 400000 in
set_option maxRecDepth 20000 in
theorem rMeet_no (a b : ByteArray) (w : World) (ha : a.size ≤ maxLen) (hb : b.size ≤ maxLen) (hw : Cb.wrong [a.data.toList, b.data.toList] = 0) (hm : Cb.meet a.data.toList b.data.toList = none) :
    Calls Tryz.prog 82 #[.string a, .string b] w fun e w' => e = .returned (.tuple #[.string ⟨#[]⟩, .bool false, .int .i64 0]) ∧ Below w.heap.size w w' := by
  have hsz : b.size = a.size := by simpa using (Cb.wrong_two hw).2.2
  have ha2 : a.size ≤ 128 := by have := (Cb.ofB_len (Cb.wrong_two hw).1).2; simpa using this
  have ha1 : 1 ≤ a.size := by have := (Cb.ofB_len (Cb.wrong_two hw).1).1; simpa using this
  have HW := Lib.hid hw
  have HM := Lib.hid hm
  have HS := Lib.hid hsz
  clear hw hm hsz
  go_enter Tryz.func82, Tryz.ntmps82
  go_wp2_with fail
  refine (wrong_two_any a b w _ (by simp) _ ha hb 0 HW.out).mono ?_
  rintro e w' ⟨rfl, k, rfl⟩
  go_wp2_with fail
  refine (both_no _ HS.out ha2 ha1 HM.out).mono ?_
  rintro e w' ⟨rfl, hb1⟩
  have hB := Lib.hid ((below_dN ((Below.refl _ w).alloc (Nat.le_refl _) _) k).trans (hb1.mono (by simp)))
  clear hb1
  go_wp2_with fail
  go_ret3
  exact ⟨rfl, hB.out⟩

set_option maxHeartbeats 400000 in
set_option maxRecDepth 20000 in
theorem rInside_bad (a b : ByteArray) (w : World) (ha : a.size ≤ maxLen) (hb : b.size ≤ maxLen) (hw : ¬ Cb.wrong [a.data.toList, b.data.toList] = 0) :
    Calls Tryz.prog 70 #[.string a, .string b] w fun e w' => e = .returned (.tuple #[.bool false, .int .i64 (Cb.wrong [a.data.toList, b.data.toList])]) ∧ Below w.heap.size w w' := by
  have HW := Lib.hid hw
  clear hw
  go_enter Tryz.func70, Tryz.ntmps70
  go_wp2_with fail
  refine (rMeet_bad a b w ha hb HW.out).mono ?_
  rintro e w' ⟨rfl, hb1⟩
  go_wp2_with fail
  go_ret2
  exact ⟨rfl, hb1⟩

set_option maxHeartbeats 400000 in
set_option maxRecDepth 20000 in
theorem rInside_yes (a b m : ByteArray) (w : World) (ha : a.size ≤ maxLen) (hb : b.size ≤ maxLen) (hw : Cb.wrong [a.data.toList, b.data.toList] = 0) (hm : Cb.meet a.data.toList b.data.toList = some m.data.toList) :
    Calls Tryz.prog 70 #[.string a, .string b] w fun e w' => e = .returned (.tuple #[.bool (m.data.toList == a.data.toList), .int .i64 0]) ∧ Below w.heap.size w w' := by
  have HW := Lib.hid hw
  have HM := Lib.hid hm
  clear hw hm
  go_enter Tryz.func70, Tryz.ntmps70
  go_wp2_with fail
  refine (rMeet_yes a b m w ha hb HW.out HM.out).mono ?_
  rintro e w' ⟨rfl, hb1⟩
  go_wp2_with fail
  go_ret2
  exact ⟨congrArg (fun b => Ending.returned (.tuple #[.bool b, .int .i64 0])) (str_beq m a), hb1⟩

set_option maxHeartbeats 400000 in
set_option maxRecDepth 20000 in
theorem rInside_no (a b : ByteArray) (w : World) (ha : a.size ≤ maxLen) (hb : b.size ≤ maxLen) (hw : Cb.wrong [a.data.toList, b.data.toList] = 0) (hm : Cb.meet a.data.toList b.data.toList = none) :
    Calls Tryz.prog 70 #[.string a, .string b] w fun e w' => e = .returned (.tuple #[.bool false, .int .i64 0]) ∧ Below w.heap.size w w' := by
  have HW := Lib.hid hw
  have HM := Lib.hid hm
  clear hw hm
  go_enter Tryz.func70, Tryz.ntmps70
  go_wp2_with fail
  refine (rMeet_no a b w ha hb HW.out HM.out).mono ?_
  rintro e w' ⟨rfl, hb1⟩
  go_wp2_with fail
  go_ret2
  exact ⟨rfl, hb1⟩
end Go.Proofs.YtlbelkjgaeaaeaaGreat
