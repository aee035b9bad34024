/-
  The plain law of the least vector above two.
-/
import Derived.Test.YtlmpaeefhpahoaaDoorVecS
namespace Go.Proofs.YtlmpaeefhpahoaaDoor
open Go.RowKit

/-- The join of two. -/
def jn (a b : List Stp) : List Stp := (joinTo ([], true) [a, b].flatten).1

theorem flat_two (a b : List Stp) : [a, b].flatten = a ++ b := by simp

theorem okV_jn {a b : List Stp} (ha : chk a = true) (hb : chk b = true) : OkV (jn a b) := by
  have h : [a, b].all chk = true := by simp [ha, hb]
  refine OkV.joinTo ⟨List.Pairwise.nil, fun s hs => by simp at hs⟩ fun s hs => ?_
  obtain ⟨l, hl, hs⟩ := List.mem_flatten.1 hs
  exact (all_dev h).1 l hl s hs

theorem chk_jn {a b : List Stp} (ha : chk a = true) (hb : chk b = true) : chk (jn a b) = true := by
  have h := okV_jn ha hb
  unfold chk
  rw [Bool.and_eq_true]
  exact ⟨srt_rises _ h.1, List.all_eq_true.2 h.2⟩

theorem mem_jn (a b : List Stp) (d x : Int) : (d, x) ∈ jn a b ↔ Top (a ++ b) d x := by
  unfold jn
  rw [flat_two]
  exact joined_mem (a ++ b) d x

theorem top_of {f : List Stp} {d x : Int} (h : (d, x) ∈ f) : ∃ m, Top f d m ∧ x ≤ m := by
  have hj := joined_mem f
  have hs := srt_joinTo (p := ([], true)) f List.Pairwise.nil
  induction f generalizing x with
  | nil => simp at h
  | cons a r ih =>
    clear hj hs
    by_cases h3 : ∃ z, (d, z) ∈ r
    · obtain ⟨z, hz⟩ := h3
      obtain ⟨m, hm, _⟩ := ih hz (joined_mem r) (srt_joinTo (p := ([], true)) r List.Pairwise.nil)
      by_cases h4 : a.1 = d ∧ m < a.2
      · refine ⟨a.2, ⟨by rw [← h4.1]; simp, fun y hy => ?_⟩, ?_⟩
        · rcases List.mem_cons.1 hy with h6 | h6
          · rw [← h6]; exact Int.le_refl _
          · have := hm.2 y h6; omega
        · rcases List.mem_cons.1 h with h6 | h6
          · rw [← h6]; exact Int.le_refl _
          · have := hm.2 x h6; omega
      · have hle : ∀ y, (d, y) ∈ a :: r → y ≤ m := by
          intro y hy
          rcases List.mem_cons.1 hy with h6 | h6
          · rw [← h6] at h4
            simp only [true_and] at h4
            omega
          · exact hm.2 y h6
        exact ⟨m, ⟨List.mem_cons_of_mem _ hm.1, hle⟩, hle x h⟩
    · have hle : ∀ y, (d, y) ∈ a :: r → y ≤ x := by
        intro y hy
        rcases List.mem_cons.1 hy with h6 | h6
        · rcases List.mem_cons.1 h with h7 | h7
          · have := h6.trans h7.symm
            injection this with _ h8
            omega
          · exact absurd ⟨_, h7⟩ h3
        · exact absurd ⟨_, h6⟩ h3
      exact ⟨x, ⟨h, hle⟩, Int.le_refl _⟩

theorem below_jn_left {a b : List Stp} (ha : chk a = true) (hb : chk b = true) : belowB a (jn a b) = true :=
  (belowB_iff (okV_jn ha hb).1).2 fun d x hx => by
    obtain ⟨m, hm, hxm⟩ := top_of (f := a ++ b) (d := d) (x := x) (by simp [hx])
    exact ⟨m, (mem_jn a b d m).2 hm, hxm⟩

theorem below_jn_right {a b : List Stp} (ha : chk a = true) (hb : chk b = true) : belowB b (jn a b) = true :=
  (belowB_iff (okV_jn ha hb).1).2 fun d x hx => by
    obtain ⟨m, hm, hxm⟩ := top_of (f := a ++ b) (d := d) (x := x) (by simp [hx])
    exact ⟨m, (mem_jn a b d m).2 hm, hxm⟩

theorem jn_below {a b c : List Stp} (ha : chk a = true) (hb : chk b = true) (hc : Srt c) : belowB (jn a b) c = (belowB a c && belowB b c) := by
  rw [Bool.eq_iff_iff, Bool.and_eq_true]
  constructor
  · intro h
    exact ⟨belowB_trans (okV_jn ha hb).1 hc (below_jn_left ha hb) h, belowB_trans (okV_jn ha hb).1 hc (below_jn_right ha hb) h⟩
  · rintro ⟨h1, h2⟩
    refine (belowB_iff hc).2 fun d x hx => ?_
    have ht := (mem_jn a b d x).1 hx
    rcases List.mem_append.1 ht.1 with h3 | h3
    · exact (belowB_iff hc).1 h1 d x h3
    · exact (belowB_iff hc).1 h2 d x h3
end Go.Proofs.YtlmpaeefhpahoaaDoor
