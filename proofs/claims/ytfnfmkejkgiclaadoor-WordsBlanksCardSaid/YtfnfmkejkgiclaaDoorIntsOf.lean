/-
  A slice of integers that came in reads as integers of its kind.
-/
import Derived.SizedLaws
import Derived.ChangeSlices
import Derived.OpenShut
import Derived.ProofKit
import Derived.Test.YtfnfmkejkgiclaaDoorRds
namespace Go.Proofs.YtfnfmkejkgiclaaDoor
open Go.ChangeShapes Go.WideShapes Go.RowKit Go.ChangeMaps Go.ChangeAt

theorem ints_of {H : Type} {enc : TypeId × Value → H} {P : Program} {W : World} {base : Nat} {spare : Nat → Bool} {held : Bool} {t e : TypeId} {k : IntKind} {a : Option Addr} {len cap : Nat} {d : DataW H} {ps : List MemPlace}
    (hu : P.underlying t = some (.slice e)) (he : P.underlying e = some (.int k)) (hc : P.cellsOf e = 1)
    (h : DataW.Trod enc P W base spare held t (.slice a len cap) d ps) : ∃ zs : List Int, Rds W (.slice a len cap) (zs.map (Value.int k)) ∧ ∀ n ∈ zs, (Lit.int k n).wf = true := by
  obtain ⟨fuel, hf⟩ := h
  rcases open_ints hu he hc hf with ⟨hcs, _⟩ | ⟨x, l, c, zs, hcs, _, hl, hm, hz, hx, hcell, hws⟩
  · simp [Value.cells] at hcs
    obtain ⟨rfl, rfl, rfl⟩ := hcs
    exact ⟨[], .inl ⟨_, _, rfl, rfl, fun _ => rfl⟩, by simp⟩
  · simp [Value.cells] at hcs
    obtain ⟨rfl, rfl, rfl⟩ := hcs
    have hl2 : len ≤ zs.length := by
      rw [hz]
      split
      · exact hl
      · exact Nat.le_refl _
    have htl : ((zs.take len).map (Value.int k)).length = len := by simp; omega
    refine ⟨zs.take len, ?_, fun n hn => hws n (List.mem_of_mem_take hn)⟩
    rcases Nat.eq_zero_or_pos len with h0 | h0
    · subst h0
      exact .inl ⟨_, _, rfl, by simp, fun h => by cases h⟩
    · obtain ⟨b, off, rfl, hcl⟩ := ints_at hcell (by omega)
      have hlt := World.block_lt_of_cell? W _ (hcl 0 (by omega))
      refine .inr ⟨b, off, cap, by rw [htl], by rw [htl]; exact hl, hm, hlt, fun i hi => ?_⟩
      rw [htl] at hi
      rw [hcl i (by omega)]
      simp [List.getD_eq_getElem?_getD, List.getElem?_eq_getElem (show i < zs.length by omega)]
end Go.Proofs.YtfnfmkejkgiclaaDoor
