/-
  Walks over the laws of words: few.
-/
import Derived.Test.YtfnfmkejkgiclaaDoorWdP
namespace Go.Proofs.YtfnfmkejkgiclaaDoor
open Go.RowKit Go.Shelf
set_option linter.unusedVariables false
set_option linter.unusedSimpArgs false

def fewB (ss : List ByteArray) : List ByteArray := (ss.take 60).map cutB
theorem fewB_len (ss : List ByteArray) : (fewB ss).length ≤ 60 := by unfold fewB; simp; omega
theorem fewB_size (ss : List ByteArray) : ∀ x ∈ fewB ss, x.size ≤ 4000 := by
  intro x hx
  obtain ⟨y, _, rfl⟩ := List.mem_map.1 hx
  exact cutB_size y
theorem fewB_step (ss : List ByteArray) (k : Nat) (h : k < ss.length) (h60 : k < 60) : (fewB ss).take (k + 1) = (fewB ss).take k ++ [cutB ss[k]] := by
  unfold fewB
  rw [List.take_succ_eq_append_getElem (by simp; omega), List.getElem_map, List.getElem_take]
theorem fewB_all (ss : List ByteArray) (k : Nat) (h : ¬ (k < ss.length ∧ k < 60)) : (fewB ss).take k = fewB ss := List.take_of_length_le (by unfold fewB; simp; omega)
theorem infoSt : (Tryd.prog.info? 9).map (fun i => (i.zero, i.size, i.bytes)) = some (some (.string ⟨#[]⟩), 1, 16) := by kernel_rfl

/-- What few tells. -/
def FewPost (ss : List ByteArray) (w : World) (e : Ending) (w' : World) : Prop :=
  ∃ ad c, e = .returned (.slice ad (fewB ss).length c) ∧ RdsS w' (.slice ad (fewB ss).length c) (fewB ss) ∧ Below w.heap.size w w'

set_option maxHeartbeats 3200000 in
set_option maxRecDepth 20000 in
theorem few_any (v : Value) (ss : List ByteArray) (w : World) (hr : RdsS w v ss) :
    Calls Tryd.prog 13 #[v] w (FewPost ss w) := by
  obtain ⟨ad, n, cp, rfl, hn, hnm, hcell⟩ := rdsS_form hr
  have HC := Lib.hid hcell
  have HN := Lib.hid hn
  obtain ⟨i0, hi, hz0, hz1, hz2⟩ := info_parts infoSt
  unfold maxLen at hnm
  clear hr hcell hn
  go_enter Tryd.func13, Tryd.ntmps13
  go_wp2_with fail
  go_loopw [3, 4] (fun o i wr => ∃ (k c : Nat) (ao : Option Addr), k ≤ n ∧ k ≤ 60 ∧ i = .int .i64 k ∧ o = .slice ao k c ∧ Hid (wr.ownsRow w.heap.size 9 1 (.slice ao k c) k (((fewB ss).take k).map Value.string)) ∧ Hid (Below w.heap.size w wr)) (fun _ i wr => n - (intOf i).toNat)
  case atStart => exact ⟨0, 0, none, Nat.zero_le _, Nat.zero_le _, rfl, rfl, World.ownsRow_nil _ _ _ _, Below.refl _ _⟩
  case round =>
    obtain ⟨k, c, ao, hk, hk60, rfl, rfl, ho, hb⟩ := hrel
    by_cases hlt : k < n ∧ k < 60
    · obtain ⟨hlt, h60⟩ := hlt
      have hkz : (k : Int) < (n : Int) := by omega
      have hk6 : (k : Int) < 60 := by omega
      have hks : k < ss.length := by rw [← HN.out]; exact hlt
      obtain ⟨b, off, rfl, hbl, x0⟩ := HC.out k hks
      obtain ⟨x, hx⟩ : ∃ x, ss[k] = x := ⟨_, rfl⟩
      rw [hx] at x0
      have x1 := (hb.out.cell (p := ⟨b, off + k, none⟩) hbl).trans x0
      have HS : Hid ((fewB ss).take (k + 1) = (fewB ss).take k ++ [cutB x]) := by rw [← hx]; exact fewB_step ss k hks h60
      have hbs : w.heap.size ≤ wr.heap.size := hb.out.size
      clear x0 hx
      go_wp2_with (first | ((with_reducible refine (cut_any _ _).mono ?_); rintro e w' ⟨rfl, rfl⟩) | (at_builtin; refine wpList_append_own _ rfl (.tmp 15) (.tmp 21) 32 rfl w.heap.size 9 i0 _ 1 16 Tryd.underlying32 hi hz0 hz1 hz2 rfl (by omega) (.slice ao k c) k (((fewB ss).take k).map Value.string) (by rfl) (ho.out.alloc _) ⟨wr.heap.size, 0, none⟩ 1 1 [.string (cutB x)] (by rfl) (by rfl) (World.news_of_block (cs := #[.string (cutB x)]) (t := 9) (fr := (0, 0)) (heap_alloc_new wr _)) (by simp [Value.oneCell']) (by unfold maxLen; omega) (by omega) (by simp; omega) ?_; intro v' w1 hown1 hgrow _; obtain ⟨ad', c', rfl, _⟩ := ownsRow_slice hown1; have HO1 := Lib.hid hown1; have HG1 := Lib.hid hgrow; clear hown1 hgrow))
      go_roundw
      case rel =>
        refine ⟨k + 1, c', ad', by omega, by omega, by go_num, rfl, ?_, ?_⟩
        · show World.ownsRow _ _ _ _ _ _ _
          rw [HS.out, List.map_append]
          exact HO1.out
        · exact own_step (hb.out.alloc hb.out.size _) (ho.out.alloc _) HG1.out
      case measure => simp [intOf]; omega
    · have HE := Lib.hid (fewB_all ss k (by rw [← HN.out]; exact hlt))
      have HL : Hid ((fewB ss).length = k) := by
        show _ = _
        have h1 := ho.out.1
        rw [HE.out, List.length_map] at h1
        omega
      have HP : Hid (FewPost ss w (.returned (.slice ao k c)) wr) := by
        refine ⟨ao, c, by rw [HL.out], ?_, hb.out⟩
        have h1 := ownsRow_rds ho.out
        rw [HE.out] at h1
        rw [HL.out]
        exact h1
      have hcase : (k : Int) < (n : Int) ∧ decide ((k : Int) < 60) = false ∨ decide ((k : Int) < (n : Int)) = false ∧ ¬ k < n := by
        by_cases h : k < n
        · exact .inl ⟨by omega, by simp; omega⟩
        · exact .inr ⟨by simp; omega, h⟩
      clear hlt
      rcases hcase with ⟨h1, h2⟩ | ⟨h1, h2⟩
      all_goals
        go_wp2_with fail
        go_ret
        exact HP.out
end Go.Proofs.YtfnfmkejkgiclaaDoor
