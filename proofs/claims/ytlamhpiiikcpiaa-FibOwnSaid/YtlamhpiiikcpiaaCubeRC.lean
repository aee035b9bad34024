/-
  Walks over the reference of layer 1: turned, cut.
-/
import Derived.Deep.RegionLaw
import Derived.Test.YtlamhpiiikcpiaaCubeRB
namespace Go.Proofs.Ytlamhpiiikcpiaa
open Go.RowKit

theorem turned_48 (w : World) : Calls Try.prog 70 #[.int .u8 48] w fun e w' => e = .returned (.int .u8 49) ∧ w = w' := by
  go_enter Try.func70, Try.ntmps70
  go_wp2_with fail
  go_ret
  exact ⟨rfl, rfl⟩
theorem turned_49 (w : World) : Calls Try.prog 70 #[.int .u8 49] w fun e w' => e = .returned (.int .u8 48) ∧ w = w' := by
  go_enter Try.func70, Try.ntmps70
  go_wp2_with fail
  go_ret
  exact ⟨rfl, rfl⟩

theorem conv_one (c : UInt8) (k : Int) (hk : k = (c.toNat : Int)) (g : Nat) (W : World) (h : W.cell? ⟨g, 0, none⟩ = some (.int .u8 k)) :
    (convert 106 9 (.slice (some ⟨g, 0, none⟩) 1 1)).run Try.prog W = .ok (.string ⟨#[c]⟩) W := by
  subst hk
  exact bytes_back W g 0 1 1 [c] rfl (fun i hi => by
    have : i = 0 := by simpa using hi
    subst this; exact h)

set_option maxHeartbeats 2000000 in
set_option maxRecDepth 20000 in
theorem rcut_yes (a b m : ByteArray) (w : World) (hb : Hid (b.size = a.size)) (hms : Hid (m.size = a.size)) (ha : a.size ≤ 128) (h1 : 1 ≤ a.size) (hcb : Cb.isCube b.data.toList = true) (hm : Cb.meet a.data.toList b.data.toList = some m.data.toList) :
    Calls Try.prog 57 #[.string a, .string b] w fun e w' => ∃ v, e = .returned v ∧ w'.ownsRow w.heap.size 9 1 v (Cb.cut a.data.toList b.data.toList).length (vs (Cb.cut a.data.toList b.data.toList)) ∧ Below w.heap.size w w' := by
  have HC : Hid (Cb.cut a.data.toList b.data.toList = Cb.cutTo a.data.toList b.data.toList m.data.toList a.size) := by unfold Hid Cb.cut; rw [hm]; simp
  have HM := Lib.hid hm
  have HCB := Lib.hid hcb
  clear hm hcb
  rw [HC.out]
  obtain ⟨i0, hf0, hf1, hf2, hf3⟩ := info_parts info_string
  generalize hR : (fun (e : Ending) (w' : World) => _) = R
  have HR := Lib.hid hR
  clear hR
  go_enter Try.func57, Try.ntmps57
  go_wp2_with fail
  refine (both_yes _ hb.out ha h1 HM.out).mono ?_
  rintro e w1 ⟨rfl, hb1⟩
  go_wp2_with fail
  go_loopw [7, 8] (fun v k wr => ∃ n : Nat, n ≤ a.size ∧ k = .int .i64 n ∧ Hid (Below w.heap.size w wr) ∧
    Hid (wr.ownsRow w.heap.size 9 1 v (Cb.cutTo a.data.toList b.data.toList m.data.toList n).length (vs (Cb.cutTo a.data.toList b.data.toList m.data.toList n)))) (fun _ k _ => a.size - (intOf k).toNat)
  case atStart => exact ⟨0, Nat.zero_le _, rfl, hb1, World.ownsRow_nil _ _ _ _⟩
  case round =>
    obtain ⟨n, hn, rfl, hbw, hown⟩ := hrel
    have hlw := hbw.out.size
    have hcl := Cb.cutTo_len a.data.toList b.data.toList m.data.toList n
    by_cases hlt : n < a.size
    · have hltb : n < b.size := by have := hb.out; omega
      have hltm : n ≤ m.size := by have := hms.out; omega
      by_cases hx : a[n] = 120
      · obtain ⟨hx1, hx2⟩ := byte_eq 120 hx 120 rfl
        by_cases hy : b[n]'hltb = 120
        · obtain ⟨hy1, hy2⟩ := byte_eq 120 hy 120 rfl
          have hno : Hid (Cb.cutTo a.data.toList b.data.toList m.data.toList (n + 1) = Cb.cutTo a.data.toList b.data.toList m.data.toList n) := by
            unfold Hid; rw [Cb.cutTo_succ, cutAt_no _ _ _ _ (by rw [getD_of b n hltb]; exact fun h => h.2 hy)]; simp
          clear hx hy
          go_wp2_with fail
          go_roundw
          case rel => exact ⟨n + 1, by omega, by go_num, hbw, by rw [hno.out]; exact hown⟩
          case measure => simp [intOf]; omega
        · obtain ⟨hy1, hy2⟩ := byte_ne 120 hy 120 rfl
          have HXY : Hid (a[n] = 120 ∧ b[n] ≠ 120) := ⟨hx, hy⟩
          by_cases hz : b[n]'hltb = 49
          · have hz1 : ((b[n].toNat : Nat) : Int) = 49 := by rw [hz]; rfl
            have HZ := Lib.hid hz
            have HZ1 := Lib.hid hz1
            clear hx hy hz
            have hs1 : min n m.size = n := by omega
            have hs3 : ¬ (9223372036854775807 < n + 1) := by omega
            have hs4 : ¬ (9223372036854775807 < n + 1 + (a.size - (n + 1))) := by omega
            have hi0 : (0 : Int) ≤ (n : Int) := by omega
            have hi1 : (n : Int) ≤ (m.size : Int) := by omega
            have hi2 : (n : Int) + 1 ≤ (a.size : Int) := by omega
            have hi3 : (0 : Int) ≤ (n : Int) + 1 := by omega
            have hi6 : (n : Int) < (b.size : Int) := by omega
            have hi4 : ((n : Int) + 1).toNat = n + 1 := by omega
            have hi5 : IntKind.i64.wrap ((n : Int) + 1) = (n : Int) + 1 := IntWalk.i64_in _ (by omega)
            have hcv := conv_one 48 48 rfl wr.heap.size
            go_wp2_with fail
            go_region_law (first | (go_simp; go_at_call 70; refine (turned_49 _).mono ?_; rintro e w' ⟨rfl, rfl⟩) | (refine step_append_lies _ (by rfl) (.tmp 35) (.tmp 51) _ (by rfl) w.heap.size 9 i0 _ 1 16 Try.underlying23 hf0 hf1 hf2 hf3 rfl (by omega) u7 _ _ (by rfl) (((hown.out.alloc _).alloc _).drew) ⟨wr.heap.size + 1, 0, none⟩ 1 1 [.string (m.extract 0 n ++ ⟨#[48]⟩ ++ a.extract (n + 1) a.size)] (by rfl) (by rfl) (news_at (by simp [go_sem])) (by simp [Value.oneCell']) (by omega) (by unfold maxLen; omega) (by omega) (by simp; omega) (wr.heap.size + 1 + 1) (by simp) ?_; intro gg cap w1 hown1 hgrow hat hlt1))
            have hst := Lib.hid (row_step (L' := Cb.cutTo a.data.toList b.data.toList m.data.toList (n + 1)) (hbw.out.alloc hlw _) (by simp; omega) (hown.out.alloc _) hown1 hgrow (by rw [Cb.cutTo_succ, cutAt_yes a b m n hlt hltb HXY.out.1 HXY.out.2 48 (by rw [HZ.out]; rfl)]; rfl))
            clear hown1 hgrow hat hlt1 hs3 hs4 hi4 hi5 hcv
            go_wp2_with fail
            go_roundw
            case rel => exact ⟨n + 1, by omega, by go_num, hst.out.1, hst.out.2⟩
            case measure => simp [intOf]; omega
          · have hz48 : b[n]'hltb = 48 := by
              have h := (List.all_eq_true.1 (show (b.data.toList).all (fun c => ([48, 49, 120] : List UInt8).contains c) = true from by
                have := HCB.out; unfold Cb.isCube Cb.ofB at this; simp only [Bool.and_eq_true] at this; exact this.2)) (b[n]'hltb) (by rw [Array.mem_toList_iff]; exact Array.getElem_mem (xs := b.data) (i := n) hltb)
              simp at h
              rcases h with h | h | h
              · exact h
              · exact absurd h hz
              · exact absurd h hy
            have hz1 : ((b[n].toNat : Nat) : Int) = 48 := by rw [hz48]; rfl
            have HZ := Lib.hid hz48
            have HZ1 := Lib.hid hz1
            clear hx hy hz hz48
            have hs1 : min n m.size = n := by omega
            have hs3 : ¬ (9223372036854775807 < n + 1) := by omega
            have hs4 : ¬ (9223372036854775807 < n + 1 + (a.size - (n + 1))) := by omega
            have hi0 : (0 : Int) ≤ (n : Int) := by omega
            have hi1 : (n : Int) ≤ (m.size : Int) := by omega
            have hi2 : (n : Int) + 1 ≤ (a.size : Int) := by omega
            have hi3 : (0 : Int) ≤ (n : Int) + 1 := by omega
            have hi6 : (n : Int) < (b.size : Int) := by omega
            have hi4 : ((n : Int) + 1).toNat = n + 1 := by omega
            have hi5 : IntKind.i64.wrap ((n : Int) + 1) = (n : Int) + 1 := IntWalk.i64_in _ (by omega)
            have hcv := conv_one 49 49 rfl wr.heap.size
            go_wp2_with fail
            go_region_law (first | (go_simp; go_at_call 70; refine (turned_48 _).mono ?_; rintro e w' ⟨rfl, rfl⟩) | (refine step_append_lies _ (by rfl) (.tmp 35) (.tmp 51) _ (by rfl) w.heap.size 9 i0 _ 1 16 Try.underlying23 hf0 hf1 hf2 hf3 rfl (by omega) u7 _ _ (by rfl) (((hown.out.alloc _).alloc _).drew) ⟨wr.heap.size + 1, 0, none⟩ 1 1 [.string (m.extract 0 n ++ ⟨#[49]⟩ ++ a.extract (n + 1) a.size)] (by rfl) (by rfl) (news_at (by simp [go_sem])) (by simp [Value.oneCell']) (by omega) (by unfold maxLen; omega) (by omega) (by simp; omega) (wr.heap.size + 1 + 1) (by simp) ?_; intro gg cap w1 hown1 hgrow hat hlt1))
            have hst := Lib.hid (row_step (L' := Cb.cutTo a.data.toList b.data.toList m.data.toList (n + 1)) (hbw.out.alloc hlw _) (by simp; omega) (hown.out.alloc _) hown1 hgrow (by rw [Cb.cutTo_succ, cutAt_yes a b m n hlt hltb HXY.out.1 HXY.out.2 49 (by rw [HZ.out]; rfl)]; rfl))
            clear hown1 hgrow hat hlt1 hs3 hs4 hi4 hi5 hcv
            go_wp2_with fail
            go_roundw
            case rel => exact ⟨n + 1, by omega, by go_num, hst.out.1, hst.out.2⟩
            case measure => simp [intOf]; omega
      · obtain ⟨hx1, hx2⟩ := byte_ne 120 hx 120 rfl
        have hno : Hid (Cb.cutTo a.data.toList b.data.toList m.data.toList (n + 1) = Cb.cutTo a.data.toList b.data.toList m.data.toList n) := by
          unfold Hid; rw [Cb.cutTo_succ, cutAt_no _ _ _ _ (by rw [getD_of a n hlt]; exact fun h => hx h.1)]; simp
        clear hx
        go_wp2_with fail
        go_roundw
        case rel => exact ⟨n + 1, by omega, by go_num, hbw, by rw [hno.out]; exact hown⟩
        case measure => simp [intOf]; omega
    · have hne : n = a.size := by omega
      have HE := Lib.hid hne
      clear hne
      go_wp2_with fail
      rw [← HR.out]
      have h := hown.out
      rw [HE.out] at h
      exact ⟨u7, rfl, h, hbw.out⟩

set_option maxHeartbeats 400000 in
set_option maxRecDepth 20000 in
theorem rcut_no (a b : ByteArray) (w : World) (hb : Hid (b.size = a.size)) (ha : a.size ≤ 128) (h1 : 1 ≤ a.size) (hm : Cb.meet a.data.toList b.data.toList = none) :
    Calls Try.prog 57 #[.string a, .string b] w fun e w' => ∃ v, e = .returned v ∧ w'.ownsRow w.heap.size 9 1 v (Cb.cut a.data.toList b.data.toList).length (vs (Cb.cut a.data.toList b.data.toList)) ∧ Below w.heap.size w w' := by
  have HC : Hid (Cb.cut a.data.toList b.data.toList = [a.data.toList]) := by unfold Hid Cb.cut; rw [hm]
  have HM := Lib.hid hm
  clear hm
  rw [HC.out]
  generalize hR : (fun (e : Ending) (w' : World) => _) = R
  have HR := Lib.hid hR
  clear hR
  go_enter Try.func57, Try.ntmps57
  go_wp2_with fail
  refine (both_no _ hb.out ha h1 HM.out).mono ?_
  rintro e w1 ⟨rfl, hb1⟩
  go_wp2_with fail
  rw [← HR.out]
  refine ⟨_, rfl, ?_, (hb1.alloc hb1.size _)⟩
  exact World.ownsRow_lit w1 #[.string a] 1 hb1.size (by unfold maxLen; omega) (by simp)

theorem rcut_any (a b : ByteArray) (w : World) (hb : b.size = a.size) (hcb : Cb.isCube b.data.toList = true) :
    Calls Try.prog 57 #[.string a, .string b] w fun e w' => ∃ v, e = .returned v ∧ w'.ownsRow w.heap.size 9 1 v (Cb.cut a.data.toList b.data.toList).length (vs (Cb.cut a.data.toList b.data.toList)) ∧ Below w.heap.size w w' := by
  have hl := Cb.ofB_len hcb
  have ha : a.size ≤ 128 := by have := hl.2; simp at this; omega
  have h1 : 1 ≤ a.size := by have := hl.1; simp at this; omega
  cases hm : Cb.meet a.data.toList b.data.toList with
  | none => exact rcut_no a b w hb ha h1 hm
  | some m =>
    have hl : m.length = a.size := by
      unfold Cb.meet at hm
      split at hm
      · injection hm with hm
        rw [← hm]; simp; omega
      · cases hm
    exact rcut_yes a b (bs m) w hb hl ha h1 hcb hm
end Go.Proofs.Ytlamhpiiikcpiaa
