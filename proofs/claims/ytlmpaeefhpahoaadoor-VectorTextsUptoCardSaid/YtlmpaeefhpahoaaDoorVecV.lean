/-
  The plain law of joins: neither order nor brackets nor what stands twice play a part.
-/
import Derived.Test.YtlmpaeefhpahoaaDoorVecU
namespace Go.Proofs.YtlmpaeefhpahoaaDoor
open Go.RowKit

theorem joined_perm (a b c : List Stp) : joinTo ([], true) [c, b, a, b].flatten = joinTo ([], true) [a, b, c].flatten := by
  refine joined_congr fun s => ?_
  simp only [List.mem_flatten, List.mem_cons, List.mem_nil_iff, or_false]
  constructor
  · rintro ⟨l, h1, h2⟩
    rcases h1 with rfl | rfl | rfl | rfl
    · exact ⟨_, .inr (.inr rfl), h2⟩
    · exact ⟨_, .inr (.inl rfl), h2⟩
    · exact ⟨_, .inl rfl, h2⟩
    · exact ⟨_, .inr (.inl rfl), h2⟩
  · rintro ⟨l, h1, h2⟩
    rcases h1 with rfl | rfl | rfl
    · exact ⟨_, .inr (.inr (.inl rfl)), h2⟩
    · exact ⟨_, .inr (.inl rfl), h2⟩
    · exact ⟨_, .inl rfl, h2⟩

theorem joined_perm2 (a b c : List Stp) : joinTo ([], true) [c, a, b, a].flatten = joinTo ([], true) [a, b, c].flatten := by
  refine joined_congr fun s => ?_
  simp only [List.mem_flatten, List.mem_cons, List.mem_nil_iff, or_false]
  constructor
  · rintro ⟨l, h1, h2⟩
    rcases h1 with rfl | rfl | rfl | rfl
    · exact ⟨_, .inr (.inr rfl), h2⟩
    · exact ⟨_, .inl rfl, h2⟩
    · exact ⟨_, .inr (.inl rfl), h2⟩
    · exact ⟨_, .inl rfl, h2⟩
  · rintro ⟨l, h1, h2⟩
    rcases h1 with rfl | rfl | rfl
    · exact ⟨_, .inr (.inl rfl), h2⟩
    · exact ⟨_, .inr (.inr (.inl rfl)), h2⟩
    · exact ⟨_, .inl rfl, h2⟩

theorem top_brackets (a b c : List Stp) (d x : Int) : Top (jn a b ++ c) d x ↔ Top ([a, b, c].flatten) d x := by
  have hf : ∀ s, s ∈ [a, b, c].flatten ↔ s ∈ a ++ b ∨ s ∈ c := fun s => by simp [or_assoc]
  constructor
  · rintro ⟨h1, h2⟩
    refine ⟨?_, fun y hy => ?_⟩
    · rcases List.mem_append.1 h1 with h | h
      · exact (hf _).2 (.inl ((mem_jn a b d x).1 h).1)
      · exact (hf _).2 (.inr h)
    · rcases (hf _).1 hy with h | h
      · obtain ⟨m, hm, hym⟩ := top_of h
        have := h2 m (List.mem_append.2 (.inl ((mem_jn a b d m).2 hm)))
        omega
      · exact h2 y (List.mem_append.2 (.inr h))
  · rintro ⟨h1, h2⟩
    refine ⟨?_, fun y hy => ?_⟩
    · rcases (hf _).1 h1 with h | h
      · exact List.mem_append.2 (.inl ((mem_jn a b d x).2 ⟨h, fun y hy => h2 y ((hf _).2 (.inl hy))⟩))
      · exact List.mem_append.2 (.inr h)
    · rcases List.mem_append.1 hy with h | h
      · exact h2 y ((hf _).2 (.inl ((mem_jn a b d y).1 h).1))
      · exact h2 y ((hf _).2 (.inr h))

theorem joined_brackets (a b c : List Stp) : (joinTo ([], true) [jn a b, c].flatten).1 = (joinTo ([], true) [a, b, c].flatten).1 := by
  rw [flat_two]
  refine srt_ext (srt_joinTo (p := ([], true)) _ List.Pairwise.nil) (srt_joinTo (p := ([], true)) _ List.Pairwise.nil) fun s => ?_
  rw [show s = (s.1, s.2) from rfl, joined_mem, joined_mem, top_brackets]

theorem agree_two {a b c : List Stp} (h : (joinTo ([], true) [a, b, c].flatten).2 = true) : (joinTo ([], true) [a, b].flatten).2 = true := by
  rw [joined_agree] at h ⊢
  have hf : ∀ s, s ∈ [a, b].flatten → s ∈ [a, b, c].flatten := fun s hs => by simp at hs ⊢; rcases hs with hs | hs <;> simp [hs]
  exact fun d x y hx hy => h d x y (hf _ hx) (hf _ hy)

theorem agree_brackets {a b c : List Stp} (h : (joinTo ([], true) [a, b, c].flatten).2 = true) : (joinTo ([], true) [jn a b, c].flatten).2 = true := by
  rw [joined_agree] at h ⊢
  have hf : ∀ d x, (d, x) ∈ [jn a b, c].flatten → (d, x) ∈ [a, b, c].flatten := fun d x hx => by
    rw [flat_two] at hx
    rcases List.mem_append.1 hx with h | h
    · have := ((mem_jn a b d x).1 h).1
      simp at this ⊢
      rcases this with h | h <;> simp [h]
    · simp [h]
  exact fun d x y hx hy => h d x y (hf _ _ hx) (hf _ _ hy)
end Go.Proofs.YtlmpaeefhpahoaaDoor
