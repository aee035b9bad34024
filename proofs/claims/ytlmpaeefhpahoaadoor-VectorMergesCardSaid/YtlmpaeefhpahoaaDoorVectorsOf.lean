/-
  A slice of vectors that came in reads as vectors.
-/
import Derived.Test.YtlmpaeefhpahoaaDoorStampsOf
namespace Go.Proofs.YtlmpaeefhpahoaaDoor
open Go.ChangeShapes Go.WideShapes Go.RowKit Go.Deep

theorem vector_of {H : Type} {enc : TypeId × Value → H} {W : World} {base : Nat} {spare : Nat → Bool} {held : Bool} {t : TypeId} {v : Value} {n : Nat} {d : DataW H} {ps : List MemPlace} (ht : Tryd.prog.underlying t = some (.slice 43))
    (h : DataW.trod enc Tryd.prog W base spare held n t [v] = some (d, ps)) : ∃ l : List Stp, RdsP W v l := by
  obtain ⟨a, len, cap, rfl⟩ : ∃ a len cap, v = .slice a len cap := by
    rcases open_slice ht h with ⟨hcs, _⟩ | ⟨a, len, cap, _, _, _, _, hcs, _⟩
    · exact ⟨none, 0, 0, by simpa using hcs⟩
    · exact ⟨some a, len, cap, by simpa using hcs⟩
  exact stamps_of (enc := enc) (d := d) (ps := ps) ht ⟨n, by simpa [Value.cells] using h⟩

theorem vectors_of {H : Type} {enc : TypeId × Value → H} {W : World} {base : Nat} {spare : Nat → Bool} {held : Bool} {t : TypeId} {a : Option Addr} {len cap : Nat} {d : DataW H} {ps : List MemPlace} (ht : Tryd.prog.underlying t = some (.slice 24))
    (h : DataW.Trod enc Tryd.prog W base spare held t (.slice a len cap) d ps) : ∃ L : List (List Stp), RdsL W (.slice a len cap) L := by
  obtain ⟨fuel, hf⟩ := h
  rcases open_slice1 ht (by kernel_rfl) hf with ⟨hcs, _⟩ | ⟨x, l, c, m, n, V, D, Pl, hcs, _, hl, hm, hmm, _, hx⟩
  · simp [Value.cells] at hcs
    obtain ⟨rfl, rfl, rfl⟩ := hcs
    exact ⟨[], _, _, _, rfl, rfl, Nat.zero_le _, fun _ hi => absurd hi (Nat.not_lt_zero _)⟩
  · simp [Value.cells] at hcs
    obtain ⟨rfl, rfl, rfl⟩ := hcs
    have hlm : len ≤ m := by rw [hmm]; split <;> omega
    have each : ∀ i, i < len → ∃ l : List Stp, RdsP W (V i) l := fun i hi => vector_of Tryd.underlying24 (hx i (by omega)).2
    obtain ⟨q, hq⟩ := choose_lt each
    refine ⟨(List.range len).map q, some x, len, cap, rfl, by simp, by omega, fun i hi => ?_⟩
    have hi' : i < len := by simpa using hi
    have e1 := (hx i (by omega)).1
    have hsp : x.spot = none := by
      have hc0 := (hx 0 (by omega)).1
      have hx0 : x.add 0 = x := by unfold Addr.add; rw [if_pos rfl]
      rw [hx0] at hc0
      cases hs : x.spot with
      | none => rfl
      | some n =>
        unfold World.cell? at hc0
        split at hc0
        · rw [hs] at hc0; simp at hc0
        · cases hc0
    obtain ⟨b, off, sp⟩ := x
    simp only at hsp
    subst hsp
    have hlt := World.block_lt_of_cell? W _ e1
    rw [addr_addV] at e1 hlt
    refine ⟨b, off, V i, rfl, hlt, e1, ?_⟩
    have h5 := hq i hi'
    simpa using h5
end Go.Proofs.YtlmpaeefhpahoaaDoor
