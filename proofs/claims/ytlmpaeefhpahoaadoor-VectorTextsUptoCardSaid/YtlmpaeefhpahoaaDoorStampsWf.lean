/-
  A slice of stamps that came in reads as stamps whose versions are uint64s.
-/
import Derived.Deep.SlicePairs
import Derived.ProofKit
import Derived.Test.YtlmpaeefhpahoaaDoorStampsOf
import Derived.Test.YtlmpaeefhpahoaaDoorVecTK
namespace Go.Proofs.YtlmpaeefhpahoaaDoor
open Go.ChangeShapes Go.WideShapes Go.RowKit Go.Deep

theorem stamps_of_wf {H : Type} {enc : TypeId × Value → H} {W : World} {base : Nat} {spare : Nat → Bool} {held : Bool} {t : TypeId} {a : Option Addr} {len cap : Nat} {d : DataW H} {ps : List MemPlace} (ht : Tryd.prog.underlying t = some (.slice 43))
    (h : DataW.Trod enc Tryd.prog W base spare held t (.slice a len cap) d ps) : ∃ l : List Stp, RdsP W (.slice a len cap) l ∧ WfP l := by
  obtain ⟨fuel, hf⟩ := h
  rcases open_slice_pairs ht Tryd.underlying43 (by kernel_rfl) rfl rfl (by kernel_rfl) (by kernel_rfl) hf with ⟨hcs, _⟩ | ⟨x, l, c, m, n, V0, V1, D0, D1, P0, P1, hcs, _, hl, hm, hmm, _, hx⟩
  · simp [Value.cells] at hcs
    obtain ⟨rfl, rfl, rfl⟩ := hcs
    exact ⟨[], rdsP_nil W, fun s hs => by cases hs⟩
  · simp [Value.cells] at hcs
    obtain ⟨rfl, rfl, rfl⟩ := hcs
    have hlm : len ≤ m := by rw [hmm]; split <;> omega
    have each : ∀ i, i < len → ∃ s : Stp, W.cell? (x.add (i * 2)) = some (.int .i64 s.1) ∧ W.cell? (x.add (i * 2 + 1)) = some (.int .u64 s.2) ∧ 0 ≤ s.2 ∧ s.2 < 18446744073709551616 := by
      intro i hi
      obtain ⟨h1, h2, h3, h4⟩ := hx i (by omega)
      obtain ⟨k, e1, _⟩ := DataW.trod_int Tryd.underlying3 h3
      obtain ⟨k', e2, _, hwf⟩ := DataW.trod_int Tryd.underlying41 h4
      refine ⟨(k, k'), ?_, ?_, ?_⟩
      · rw [h1]; simpa using e1
      · rw [h2]; simpa using e2
      · have m1 : IntKind.u64.min = 0 := by decide
        have m2 : IntKind.u64.max = 18446744073709551615 := by decide
        unfold Lit.wf at hwf
        rw [Bool.and_eq_true, decide_eq_true_iff, decide_eq_true_iff, m1, m2] at hwf
        show 0 ≤ k' ∧ k' < 18446744073709551616
        omega
    obtain ⟨q, hq⟩ := choose_lt each
    refine ⟨(List.range len).map q, ⟨some x, len, cap, rfl, by simp, by omega, fun i hi => ?_⟩, fun s hs => by obtain ⟨i, hi, rfl⟩ := List.mem_map.1 hs; exact (hq i (List.mem_range.1 hi)).2.2⟩
    have hi' : i < len := by simpa using hi
    obtain ⟨e1, e2, _⟩ := hq i hi'
    have hsp : x.spot = none := by
      have hc0 := (hq 0 (by omega)).1
      have hx0 : x.add (0 * 2) = x := by rw [Nat.zero_mul]; unfold Addr.add; rw [if_pos rfl]
      rw [hx0] at hc0
      cases hs : x.spot with
      | none => rfl
      | some n =>
        unfold World.cell? at hc0
        split at hc0
        · rw [hs] at hc0; simp at hc0
        · cases hc0
    obtain ⟨b, off, sp⟩ := x
    simp only at hsp
    subst hsp
    have hlt := World.block_lt_of_cell? W _ e1
    rw [addr_addV] at e1 e2 hlt
    refine ⟨b, off, rfl, hlt, ?_, ?_⟩
    · simpa using e1
    · simpa [Nat.add_assoc] using e2
end Go.Proofs.YtlmpaeefhpahoaaDoor
