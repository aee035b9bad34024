/-
  Walks over the reference of layer 1: both.
-/
import Derived.Test.YtlbelkjgaeaaeaaGreatCubeRA
import Derived.Test.YtlbelkjgaeaaeaaGreatMore
namespace Go.Proofs.YtlbelkjgaeaaeaaGreat
open Go.RowKit

theorem info_u8 : (Tryz.prog.info? 5).map (fun i => (i.zero, i.size, i.bytes)) = some (some (.int .u8 0), 1, 1) := by kernel_rfl

/-- Bytes as values. -/
abbrev bvs (l : List UInt8) : List Value := l.map fun c => Value.int .u8 (c.toNat : Int)

theorem mbs_succ (a b : ByteArray) (n : Nat) (h : n < a.size) (hb : n < b.size) :
    (List.zipWith Cb.mb a.data.toList b.data.toList).take (n + 1) = (List.zipWith Cb.mb a.data.toList b.data.toList).take n ++ [Cb.mb a[n] b[n]] := by
  have hl : n < (List.zipWith Cb.mb a.data.toList b.data.toList).length := by simp; omega
  rw [List.take_succ_eq_append_getElem hl]
  simp
  rfl

theorem byte_step {B e : Nat} {W wr w1 : World} {v : Value} {l l' : List UInt8} {c : UInt8} {X : Obj} {n gg cap : Nat} (hbw : Below B W wr) (hB : B ≤ wr.heap.size) (hown : wr.ownsRow B e 1 v n (bvs l))
    (hown1 : w1.ownsRow B e 1 (.slice (some ⟨gg, 0, none⟩) (n + 1) cap) (n + 1) (bvs l ++ [.int .u8 (c.toNat : Int)]))
    (hgrow : (wr.alloc X).grownBy w1 v.ownBlock) (hL : l' = l ++ [c]) :
    Below B W w1 ∧ w1.ownsRow B e 1 (.slice (some ⟨gg, 0, none⟩) (n + 1) cap) (n + 1) (bvs l') := by
  refine ⟨(hbw.alloc hB X).grown hgrow (by simp; omega) (fun k hk => (hown.lt k hk).1), ?_⟩
  subst hL
  simpa [bvs] using hown1

set_option maxHeartbeats 1000000 in
set_option maxRecDepth 20000 in
theorem both_loop (a b : ByteArray) (w : World) (hb : Hid (b.size = a.size)) (ha : a.size ≤ 128) (h1 : 1 ≤ a.size) (m : Nat) (hm : m ≤ a.size)
    (H1 : Hid (∀ i (h : i < m), Cb.ok2 (a[i]'(by omega)) (b[i]'(by have := hb.out; omega)) = true))
    (H2 : Hid (∀ (h : m < a.size), Cb.ok2 a[m] (b[m]'(by have := hb.out; omega)) = false)) :
    Calls Tryz.prog 93 #[.string a, .string b] w fun e w' => Below w.heap.size w w' ∧
      e = .returned (if m < a.size then .tuple #[.string ⟨#[]⟩, .bool false] else .tuple #[.string ⟨(List.zipWith Cb.mb a.data.toList b.data.toList).toArray⟩, .bool true]) := by
  obtain ⟨i0, hf0, hf1, hf2, hf3⟩ := info_parts info_u8
  generalize hR : (fun (e : Ending) (w' : World) => _) = R
  have HR := Lib.hid hR
  clear hR
  go_enter Tryz.func93, Tryz.ntmps93
  go_wp2_with fail
  go_loopw [6, 7] (fun v k wr => ∃ n : Nat, n ≤ m ∧ k = .int .i64 n ∧ Hid (Below w.heap.size w wr) ∧
    Hid (wr.ownsRow w.heap.size 5 1 v n (bvs ((List.zipWith Cb.mb a.data.toList b.data.toList).take n)))) (fun _ k _ => a.size - (intOf k).toNat)
  case atStart => exact ⟨0, Nat.zero_le _, rfl, Below.refl _ _, World.ownsRow_nil _ _ _ _⟩
  case round =>
    obtain ⟨n, hn, rfl, hbw, hown⟩ := hrel
    have hlw := hbw.out.size
    by_cases hlt : n < a.size
    · have hltb : n < b.size := by have := hb.out; omega
      have hi0 : (0 : Int) ≤ (n : Int) := by omega
      have hi1 : (n : Int) < (a.size : Int) := by omega
      have hi2 : (n : Int) < (b.size : Int) := by omega
      have hll : ((List.zipWith Cb.mb a.data.toList b.data.toList).take n).length = n := by simp; omega
      have HLL := Lib.hid hll
      clear hll
      by_cases hab : a[n] = b[n]'hltb
      · have e1 : (((a[n].toNat : Nat) : Int) == ((b[n].toNat : Nat) : Int)) = true := by rw [u8_eq]; simpa using hab
        have hok : Hid (Cb.ok2 a[n] (b[n]'hltb) = true) := by unfold Hid Cb.ok2; rw [hab]; simp
        have hmb : Hid (Cb.mb a[n] (b[n]'hltb) = a[n]) := by unfold Hid Cb.mb; rw [hab]; simp
        have hnm : n < m := by
          rcases Nat.lt_or_ge n m with h | h
          · exact h
          · obtain rfl : n = m := by omega
            have := H2.out hlt; rw [hok.out] at this; cases this
        clear hab hok
        go_wp2_with fail
        go_quiet (fail)
        go_wp2_with (at_builtin; refine wpList_append_lies _ rfl _ _ _ rfl w.heap.size 5 i0 _ 1 1 Tryz.underlying141 hf0 hf1 hf2 hf3 rfl (by omega) u6 n _ rfl ((ownsRow_drewN hown.out _).alloc _) ⟨wr.heap.size, 0, none⟩ 1 1 [.int .u8 (a[n].toNat : Int)] rfl rfl (World.news_of_block (cs := #[.int .u8 (a[n].toNat : Int)]) (t := 5) (fr := (0, 0)) (heap_alloc_new _ _)) (by simp [Value.oneCell']) (by omega) (by unfold maxLen; omega) (by omega) (by simp; omega) (wr.heap.size + 1) (by simp) ?_; intro gg cap w1 hown1 hgrow hat hlt1)
        all_goals
          have hst := Lib.hid (byte_step (l' := (List.zipWith Cb.mb a.data.toList b.data.toList).take (n + 1)) (below_dN hbw.out _) (by simpa using hlw) (ownsRow_drewN hown.out _) hown1 hgrow (by rw [mbs_succ a b n hlt hltb, hmb.out]))
          clear hown1 hgrow hat hlt1 hmb
          go_wp2_with fail
          go_roundw
          case rel => exact ⟨n + 1, by omega, by go_num, hst.out.1, hst.out.2⟩
          case measure => simp [intOf]; omega
      · have e1 : (((a[n].toNat : Nat) : Int) == ((b[n].toNat : Nat) : Int)) = false := by rw [u8_eq]; simpa using hab
        by_cases hbx : b[n]'hltb = 120
        · obtain ⟨e3, e4⟩ := byte_eq 120 hbx 120 rfl
          have hok : Hid (Cb.ok2 a[n] (b[n]'hltb) = true) := by unfold Hid Cb.ok2; rw [hbx]; simp
          have hmb : Hid (Cb.mb a[n] (b[n]'hltb) = a[n]) := by
            unfold Hid Cb.mb; rw [if_neg]
            simp; intro h; exact hab (h.trans hbx.symm)
          have hnm : n < m := by
            rcases Nat.lt_or_ge n m with h | h
            · exact h
            · obtain rfl : n = m := by omega
              have := H2.out hlt; rw [hok.out] at this; cases this
          clear hab hok hbx
          go_wp2_with fail
          go_quiet (fail)
          go_wp2_with (at_builtin; refine wpList_append_lies _ rfl _ _ _ rfl w.heap.size 5 i0 _ 1 1 Tryz.underlying141 hf0 hf1 hf2 hf3 rfl (by omega) u6 n _ rfl ((ownsRow_drewN hown.out _).alloc _) ⟨wr.heap.size, 0, none⟩ 1 1 [.int .u8 (a[n].toNat : Int)] rfl rfl (World.news_of_block (cs := #[.int .u8 (a[n].toNat : Int)]) (t := 5) (fr := (0, 0)) (heap_alloc_new _ _)) (by simp [Value.oneCell']) (by omega) (by unfold maxLen; omega) (by omega) (by simp; omega) (wr.heap.size + 1) (by simp) ?_; intro gg cap w1 hown1 hgrow hat hlt1)
          all_goals
            have hst := Lib.hid (byte_step (l' := (List.zipWith Cb.mb a.data.toList b.data.toList).take (n + 1)) (below_dN hbw.out _) (by simpa using hlw) (ownsRow_drewN hown.out _) hown1 hgrow (by rw [mbs_succ a b n hlt hltb, hmb.out]))
            clear hown1 hgrow hat hlt1 hmb
            go_wp2_with fail
            go_roundw
            case rel => exact ⟨n + 1, by omega, by go_num, hst.out.1, hst.out.2⟩
            case measure => simp [intOf]; omega
        · obtain ⟨e3, e4⟩ := byte_ne 120 hbx 120 rfl
          by_cases hax : a[n] = 120
          · obtain ⟨e5, e6⟩ := byte_eq 120 hax 120 rfl
            have hok : Hid (Cb.ok2 a[n] (b[n]'hltb) = true) := by unfold Hid Cb.ok2; rw [hax]; simp
            have hmb : Hid (Cb.mb a[n] (b[n]'hltb) = b[n]'hltb) := by unfold Hid Cb.mb; rw [hax]; rfl
            have hnm : n < m := by
              rcases Nat.lt_or_ge n m with h | h
              · exact h
              · obtain rfl : n = m := by omega
                have := H2.out hlt; rw [hok.out] at this; cases this
            clear hab hok hbx hax
            go_wp2_with fail
            go_quiet (fail)
            go_wp2_with (at_builtin; refine wpList_append_lies _ rfl _ _ _ rfl w.heap.size 5 i0 _ 1 1 Tryz.underlying141 hf0 hf1 hf2 hf3 rfl (by omega) u6 n _ rfl ((ownsRow_drewN hown.out _).alloc _) ⟨wr.heap.size, 0, none⟩ 1 1 [.int .u8 (b[n].toNat : Int)] rfl rfl (World.news_of_block (cs := #[.int .u8 (b[n].toNat : Int)]) (t := 5) (fr := (0, 0)) (heap_alloc_new _ _)) (by simp [Value.oneCell']) (by omega) (by unfold maxLen; omega) (by omega) (by simp; omega) (wr.heap.size + 1) (by simp) ?_; intro gg cap w1 hown1 hgrow hat hlt1)
            all_goals
              have hst := Lib.hid (byte_step (l' := (List.zipWith Cb.mb a.data.toList b.data.toList).take (n + 1)) (below_dN hbw.out _) (by simpa using hlw) (ownsRow_drewN hown.out _) hown1 hgrow (by rw [mbs_succ a b n hlt hltb, hmb.out]))
              clear hown1 hgrow hat hlt1 hmb
              go_wp2_with fail
              go_roundw
              case rel => exact ⟨n + 1, by omega, by go_num, hst.out.1, hst.out.2⟩
              case measure => simp [intOf]; omega
          · obtain ⟨e5, e6⟩ := byte_ne 120 hax 120 rfl
            have hok : Hid (Cb.ok2 a[n] (b[n]'hltb) = false) := by
              unfold Hid Cb.ok2; simp; exact ⟨⟨hax, hbx⟩, fun h => hab h.symm⟩
            have hnm : Hid (n = m) := by
              unfold Hid
              rcases Nat.lt_or_ge n m with h | h
              · have := H1.out n h; rw [hok.out] at this; cases this
              · omega
            have hlm : m < a.size := by rw [← hnm.out]; exact hlt
            clear hab hok hbx hax
            go_wp2_with fail
            go_quiet (fail)
            go_wp2_with fail
            rw [← HR.out]
            refine ⟨below_dN hbw.out _, ?_⟩
            rw [if_pos hlm]
            rfl
    · have hnm : Hid (n = a.size) := by unfold Hid; omega
      have hmm : ¬ m < a.size := by have := hnm.out; omega
      obtain ⟨h2, h3⟩ := hown.out
      have hn0 : ¬ n = 0 := by have := hnm.out; omega
      rcases h3 with ⟨_, h4⟩ | ⟨g, cap, cur, rfl, hg, hh, hnc, hcm, hcs, htk⟩
      · exact absurd h4 hn0
      · have hback := bytes_back wr g 0 n cap (List.zipWith Cb.mb a.data.toList b.data.toList) (by have := hb.out; have := hnm.out; simp; omega) (fun i hi => by
          have hi' : i < n := by have := hnm.out; simp at hi; omega
          have hc := hown.out.cellAt i (by omega)
          rw [Nat.zero_add, hc, List.getElem?_map, List.getElem?_take_of_lt hi', List.getElem?_eq_getElem hi]
          rfl)
        clear h2 hh hnc hcm hcs htk
        go_wp2_with fail
        rw [← HR.out]
        refine ⟨hbw.out, ?_⟩
        rw [if_neg hmm]
        rfl

theorem both_yes {a b m : ByteArray} (w : World) (hb : b.size = a.size) (ha : a.size ≤ 128) (h1 : 1 ≤ a.size) (h : Cb.meet a.data.toList b.data.toList = some m.data.toList) :
    Calls Tryz.prog 93 #[.string a, .string b] w fun e w' => e = .returned (.tuple #[.string m, .bool true]) ∧ Below w.heap.size w w' := by
  unfold Cb.meet at h
  split at h
  · rename_i hall
    injection h with h
    refine (both_loop a b w hb ha h1 a.size (Nat.le_refl _) (fun i hi => ?_) (fun h => absurd h (Nat.lt_irrefl _))).mono fun e w' ⟨h1, h2⟩ => ⟨?_, h1⟩
    · have := Cb.all_get hall i (by simp; omega)
      simp at this
      exact this
    · rw [h2, if_neg (Nat.lt_irrefl _), h]
  · cases h

theorem both_no {a b : ByteArray} (w : World) (hb : b.size = a.size) (ha : a.size ≤ 128) (h1 : 1 ≤ a.size) (h : Cb.meet a.data.toList b.data.toList = none) :
    Calls Tryz.prog 93 #[.string a, .string b] w fun e w' => e = .returned (.tuple #[.string ⟨#[]⟩, .bool false]) ∧ Below w.heap.size w w' := by
  unfold Cb.meet at h
  split at h
  · cases h
  · rename_i hall
    obtain ⟨m, hm, h3, h4⟩ := Cb.first_false _ _ (by simpa using hall : (a.data.toList.zip b.data.toList).all (fun p => Cb.ok2 p.1 p.2) = false)
    have hm' : m < a.size := by simp at hm; omega
    refine (both_loop a b w hb ha h1 m (by omega) (fun i hi => ?_) (fun h => ?_)).mono fun e w' ⟨h1, h2⟩ => ⟨?_, h1⟩
    · have := h4 i hi
      simp at this
      exact this
    · simp at h3
      exact h3
    · rw [h2, if_pos hm']
end Go.Proofs.YtlbelkjgaeaaeaaGreat
