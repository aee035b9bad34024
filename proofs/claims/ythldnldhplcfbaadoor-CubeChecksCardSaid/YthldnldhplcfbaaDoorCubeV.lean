/-
  Walks: Free, First and Every of the reference; the law CubeChecks.
-/
import Derived.Test.YthldnldhplcfbaaDoorCubeU
namespace Go.Proofs.YthldnldhplcfbaaDoor
open Go.RowKit

theorem count_take_succ (s : ByteArray) (n : Nat) (h : n < s.size) (c : UInt8) : (s.data.toList.take (n + 1)).count c = (s.data.toList.take n).count c + (if s[n] = c then 1 else 0) := by
  have hl : n < s.data.toList.length := by simpa using h
  rw [List.take_succ_eq_append_getElem hl, List.count_append]
  have e : s.data.toList[n] = s[n] := by simp; rfl
  rw [e]
  by_cases hc : s[n] = c <;> simp [hc]

theorem rFree_ok (a : ByteArray) (w : World) (ha : a.size ≤ maxLen) (hw : Cb.isCube a.data.toList = true) :
    Calls Tryd.prog 5 #[.string a] w fun e w' => e = .returned (.tuple #[.int .i64 (a.data.toList.count 120 : Nat), .int .i64 0]) ∧ w = w' := by
  have hsz : a.size ≤ 128 := by have := (Cb.ofB_len hw).2; simpa using this
  have HRi := Lib.hid (fun W => Right_true (s := a) W ha hw)
  obtain ⟨N, hN⟩ : ∃ N, N = a.data.toList.count 120 := ⟨_, rfl⟩
  have HN := Lib.hid hN
  rw [← hN]
  clear hN hw
  go_enter Tryd.func5, Tryd.ntmps5
  go_wp2_with fail
  refine (HRi.out _).mono ?_
  rintro e w' ⟨rfl, rfl⟩
  go_wp2_with fail
  go_loop [4, 5] (fun v k => ∃ n q : Nat, n ≤ a.size ∧ k = .int .i64 n ∧ v = .int .i64 q ∧ q ≤ n ∧ Hid ((a.data.toList.take n).count 120 = q)) (fun _ k => a.size - (intOf k).toNat)
  case atStart => exact ⟨0, 0, Nat.zero_le _, rfl, rfl, Nat.le_refl _, rfl⟩
  case round =>
    obtain ⟨n, q, hn, rfl, rfl, hq, HQ⟩ := hrel
    by_cases hlt : n < a.size
    · have hi0 : (0 : Int) ≤ (n : Int) := by omega
      have hi1 : (n : Int) < (a.size : Int) := by omega
      have HS := Lib.hid (count_take_succ a n hlt 120)
      by_cases h0 : a[n] = 120
      · obtain ⟨e1, e2⟩ := byte_eq 120 h0 120 rfl
        have HX : Hid ((a.data.toList.take (n + 1)).count 120 = q + 1) := by show _ = _; rw [HS.out, HQ.out, if_pos h0]
        clear h0
        go_wp2_with fail
        go_round
        case rel => exact ⟨n + 1, q + 1, by omega, by go_num, by go_num, by omega, HX⟩
        case measure => simp [intOf]; omega
      · obtain ⟨e1, e2⟩ := byte_ne 120 h0 120 rfl
        have HX : Hid ((a.data.toList.take (n + 1)).count 120 = q) := by show _ = _; rw [HS.out, HQ.out, if_neg h0]; rfl
        clear h0
        go_wp2_with fail
        go_round
        case rel => exact ⟨n + 1, q, by omega, by go_num, rfl, by omega, HX⟩
        case measure => simp [intOf]; omega
    · go_wp2_with fail
      first | go_ret2 | skip
      have : N = q := by rw [HN.out, ← HQ.out, List.take_of_length_le (by simp; omega)]
      subst this
      exact ⟨rfl, rfl⟩

theorem rFree_bad (a : ByteArray) (w : World) (ha : a.size ≤ maxLen) (hw : Cb.isCube a.data.toList = false) :
    Calls Tryd.prog 5 #[.string a] w fun e w' => e = .returned (.tuple #[.int .i64 0, .int .i64 10]) ∧ w = w' := by
  have HRi := Lib.hid (fun W => Right_false (s := a) W ha hw)
  clear hw
  go_enter Tryd.func5, Tryd.ntmps5
  go_wp2_with fail
  refine (HRi.out _).mono ?_
  rintro e w' ⟨rfl, rfl⟩
  go_wp2_with fail
  first | go_ret2 | skip
  exact ⟨rfl, rfl⟩

theorem rFirst_bad (a : ByteArray) (w : World) (ha : a.size ≤ maxLen) (hw : Cb.isCube a.data.toList = false) :
    Calls Tryd.prog 7 #[.string a] w fun e w' => e = .returned (.tuple #[.string ⟨#[]⟩, .int .i64 10]) ∧ w = w' := by
  have HRi := Lib.hid (fun W => Right_false (s := a) W ha hw)
  clear hw
  go_enter Tryd.func7, Tryd.ntmps7
  go_wp2_with fail
  refine (HRi.out _).mono ?_
  rintro e w' ⟨rfl, rfl⟩
  go_wp2_with fail
  first | go_ret2 | skip
  exact ⟨rfl, rfl⟩

/-- The reference's byte. -/
def leastC (b : UInt8) : UInt8 := if b = 49 then 49 else 48

theorem least_take (a : ByteArray) (n : Nat) (h : n < a.size) (c : UInt8) (hc : leastC a[n] = c) : (a.data.toList.map leastC).take (n + 1) = (a.data.toList.map leastC).take n ++ [c] := by
  have hl : n < (a.data.toList.map leastC).length := by simpa using h
  rw [List.take_succ_eq_append_getElem hl]
  congr 1
  simp only [List.getElem_map]
  rw [← hc]
  congr 2

set_option maxHeartbeats 1000000 in
theorem rFirst_ok (a : ByteArray) (w : World) (ha : a.size ≤ maxLen) (hw : Cb.isCube a.data.toList = true) :
    Calls Tryd.prog 7 #[.string a] w fun e w' => Below w.heap.size w w' ∧ e = .returned (.tuple #[.string (leastB a), .int .i64 0]) := by
  have hsz : a.size ≤ 128 := by have := (Cb.ofB_len hw).2; simpa using this
  have hs1 : 1 ≤ a.size := by have := (Cb.ofB_len hw).1; simpa using this
  have HRi := Lib.hid (fun W => Right_true (s := a) W ha hw)
  have HLe : Hid (leastB a = ⟨(a.data.toList.map leastC).toArray⟩) := by
    show leastB a = _
    unfold leastB
    rw [Cb.least_cube hw]
    rfl
  clear hw
  obtain ⟨i0, hf0, hf1, hf2, hf3⟩ := info_parts info_u8
  generalize hR : (fun (e : Ending) (w' : World) => _) = R
  have HR := Lib.hid hR
  clear hR
  go_enter Tryd.func7, Tryd.ntmps7
  go_wp2_with fail
  refine (HRi.out _).mono ?_
  rintro e w' ⟨rfl, rfl⟩
  go_wp2_with fail
  go_loopw [4, 5] (fun v k wr => ∃ n : Nat, n ≤ a.size ∧ k = .int .i64 n ∧ Hid (Below w.heap.size w wr) ∧
    Hid (wr.ownsRow w.heap.size 5 1 v n (bvs ((a.data.toList.map leastC).take n)))) (fun _ k _ => a.size - (intOf k).toNat)
  case atStart => exact ⟨0, Nat.zero_le _, rfl, Below.refl _ _, World.ownsRow_nil _ _ _ _⟩
  case round =>
    obtain ⟨n, hn, rfl, hbw, hown⟩ := hrel
    have hlw := hbw.out.size
    by_cases hlt : n < a.size
    · have hi0 : (0 : Int) ≤ (n : Int) := by omega
      have hi1 : (n : Int) < (a.size : Int) := by omega
      have hll : ((a.data.toList.map leastC).take n).length = n := by simp; omega
      have HLL := Lib.hid hll
      clear hll
      by_cases h0 : a[n] = 49
      · obtain ⟨e1, e2⟩ := byte_eq 49 h0 49 rfl
        have HT := Lib.hid (least_take a n hlt 49 (by unfold leastC; rw [if_pos h0]))
        clear h0
        go_wp2_with (at_builtin; refine wpList_append_lies _ rfl _ _ _ rfl w.heap.size 5 i0 _ 1 1 Tryd.underlying42 hf0 hf1 hf2 hf3 rfl (by omega) u4 n _ rfl (hown.out.alloc _) ⟨wr.heap.size, 0, none⟩ 1 1 [.int .u8 ((49 : UInt8).toNat : Int)] rfl rfl (World.news_of_block (cs := #[.int .u8 ((49 : UInt8).toNat : Int)]) (t := 5) (fr := (0, 0)) (heap_alloc_new _ _)) (by simp [Value.oneCell']) (by omega) (by unfold maxLen; omega) (by omega) (by simp; omega) (wr.heap.size + 1) (by simp) ?_; intro gg cap w1 hown1 hgrow hat hlt1)
        all_goals
          have hst := Lib.hid (byte_step (l' := (a.data.toList.map leastC).take (n + 1)) hbw.out hlw hown.out hown1 hgrow HT.out)
          clear hown1 hgrow hat hlt1
          go_wp2_with fail
          go_roundw
          case rel => exact ⟨n + 1, by omega, by go_num, hst.out.1, hst.out.2⟩
          case measure => simp [intOf]; omega
      · obtain ⟨e1, e2⟩ := byte_ne 49 h0 49 rfl
        have HT := Lib.hid (least_take a n hlt 48 (by unfold leastC; rw [if_neg h0]))
        clear h0
        go_wp2_with (at_builtin; refine wpList_append_lies _ rfl _ _ _ rfl w.heap.size 5 i0 _ 1 1 Tryd.underlying42 hf0 hf1 hf2 hf3 rfl (by omega) u4 n _ rfl (hown.out.alloc _) ⟨wr.heap.size, 0, none⟩ 1 1 [.int .u8 ((48 : UInt8).toNat : Int)] rfl rfl (World.news_of_block (cs := #[.int .u8 ((48 : UInt8).toNat : Int)]) (t := 5) (fr := (0, 0)) (heap_alloc_new _ _)) (by simp [Value.oneCell']) (by omega) (by unfold maxLen; omega) (by omega) (by simp; omega) (wr.heap.size + 1) (by simp) ?_; intro gg cap w1 hown1 hgrow hat hlt1)
        all_goals
          have hst := Lib.hid (byte_step (l' := (a.data.toList.map leastC).take (n + 1)) hbw.out hlw hown.out hown1 hgrow HT.out)
          clear hown1 hgrow hat hlt1
          go_wp2_with fail
          go_roundw
          case rel => exact ⟨n + 1, by omega, by go_num, hst.out.1, hst.out.2⟩
          case measure => simp [intOf]; omega
    · have hnm : Hid (n = a.size) := by unfold Hid; omega
      obtain ⟨h2, h3⟩ := hown.out
      have hn0 : ¬ n = 0 := by have := hnm.out; omega
      rcases h3 with ⟨_, h4⟩ | ⟨g, cap, cur, rfl, hg, hh, hnc, hcm, hcs, htk⟩
      · exact absurd h4 hn0
      · have hback := bytes_back wr g 0 n cap (a.data.toList.map leastC) (by have := hnm.out; simp; omega) (fun i hi => by
          have hi' : i < n := by have := hnm.out; simp at hi; omega
          have hc := hown.out.cellAt i (by omega)
          rw [Nat.zero_add, hc, List.getElem?_map, List.getElem?_take_of_lt hi', List.getElem?_eq_getElem hi]
          rfl)
        rw [← HLe.out] at hback
        clear h2 hh hnc hcm hcs htk
        go_wp2_with fail
        first | go_ret2 | skip
        rw [← HR.out]
        exact ⟨hbw.out, rfl⟩

set_option maxHeartbeats 1000000 in
theorem rEvery_ok (N : Nat) (w : World) (h1 : 1 ≤ N) (h2 : N ≤ 128) :
    Calls Tryd.prog 9 #[.int .i64 N] w fun e w' => Below w.heap.size w w' ∧ e = .returned (.tuple #[.string (everyB N), .int .i64 0]) := by
  have HLe : Hid (everyB N = ⟨(List.replicate N 120).toArray⟩) := rfl
  obtain ⟨i0, hf0, hf1, hf2, hf3⟩ := info_parts info_u8
  have h3 : ¬ ((N : Int) < 1) := by omega
  have h4 : ¬ (128 < (N : Int)) := by omega
  generalize hR : (fun (e : Ending) (w' : World) => _) = R
  have HR := Lib.hid hR
  clear hR
  go_enter Tryd.func9, Tryd.ntmps9
  go_wp2_with fail
  go_loopw [4, 5] (fun v k wr => ∃ n : Nat, n ≤ N ∧ k = .int .i64 n ∧ Hid (Below w.heap.size w wr) ∧
    Hid (wr.ownsRow w.heap.size 5 1 v n (bvs (List.replicate n 120)))) (fun _ k _ => N - (intOf k).toNat)
  case atStart => exact ⟨0, Nat.zero_le _, rfl, Below.refl _ _, World.ownsRow_nil _ _ _ _⟩
  case round =>
    obtain ⟨n, hn, rfl, hbw, hown⟩ := hrel
    have hlw := hbw.out.size
    by_cases hlt : n < N
    · have HT : Hid (List.replicate (n + 1) (120 : UInt8) = List.replicate n 120 ++ [120]) := List.replicate_succ'
      have hlti : (n : Int) < (N : Int) := by omega
      go_wp2_with (at_builtin; refine wpList_append_lies _ rfl _ _ _ rfl w.heap.size 5 i0 _ 1 1 Tryd.underlying42 hf0 hf1 hf2 hf3 rfl (by omega) u4 n _ rfl (hown.out.alloc _) ⟨wr.heap.size, 0, none⟩ 1 1 [.int .u8 ((120 : UInt8).toNat : Int)] rfl rfl (World.news_of_block (cs := #[.int .u8 ((120 : UInt8).toNat : Int)]) (t := 5) (fr := (0, 0)) (heap_alloc_new _ _)) (by simp [Value.oneCell']) (by omega) (by unfold maxLen; omega) (by omega) (by simp; omega) (wr.heap.size + 1) (by simp) ?_; intro gg cap w1 hown1 hgrow hat hlt1)
      all_goals
        have hst := Lib.hid (byte_step (l' := List.replicate (n + 1) 120) hbw.out hlw hown.out hown1 hgrow HT.out)
        clear hown1 hgrow hat hlt1
        go_wp2_with fail
        go_roundw
        case rel => exact ⟨n + 1, by omega, by go_num, hst.out.1, hst.out.2⟩
        case measure => simp [intOf]; omega
    · have hnm : Hid (n = N) := by unfold Hid; omega
      have hlti : ¬ (n : Int) < (N : Int) := by omega
      obtain ⟨h2, h3⟩ := hown.out
      have hn0 : ¬ n = 0 := by have := hnm.out; omega
      rcases h3 with ⟨_, h4⟩ | ⟨g, cap, cur, rfl, hg, hh, hnc, hcm, hcs, htk⟩
      · exact absurd h4 hn0
      · have hback := bytes_back wr g 0 n cap (List.replicate N 120) (by have := hnm.out; simp; omega) (fun i hi => by
          have hi' : i < n := by have := hnm.out; simp at hi; omega
          have hc := hown.out.cellAt i (by omega)
          rw [Nat.zero_add, hc, List.getElem?_map, hnm.out, List.getElem?_eq_getElem hi]
          rfl)
        rw [← HLe.out] at hback
        clear h2 hh hnc hcm hcs htk
        go_wp2_with fail
        first | go_ret2 | skip
        rw [← HR.out]
        exact ⟨hbw.out, rfl⟩
end Go.Proofs.YthldnldhplcfbaaDoor
