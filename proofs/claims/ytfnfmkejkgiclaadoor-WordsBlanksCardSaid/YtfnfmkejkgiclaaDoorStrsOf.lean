/-
  A slice of strings that came in reads as strings, and is no longer than its weight allows.
-/
import Derived.SizedLaws
import Derived.SliceStrings
import Derived.ProofKit
import Derived.Test.YtfnfmkejkgiclaaDoorRds
namespace Go.Proofs.YtfnfmkejkgiclaaDoor
open Go.ChangeShapes Go.WideShapes Go.RowKit

theorem addr_add (b off i : Nat) : (⟨b, off, none⟩ : Addr).add i = ⟨b, off + i, none⟩ := by unfold Addr.add; split <;> simp_all

theorem strs_of {H : Type} {enc : TypeId × Value → H} {P : Program} {W : World} {base : Nat} {spare : Nat → Bool} {held : Bool} {t e : TypeId} {a : Option Addr} {len cap : Nat} {d : DataW H} {ps : List MemPlace} {ts : List TypeId} {ds : List (DataW H)} {j : Nat}
    (hsz : (DataW.weightsEach P ts ds).all (· ≤ reachBytes) = true) (ht : ts[j]? = some t) (hd : ds[j]? = some d) (hu : P.underlying t = some (.slice e)) (he : P.underlying e = some .string) (hc : P.cellsOf e = 1) (hB : P.bytesOf e = 16)
    (h : DataW.Trod enc P W base spare held t (.slice a len cap) d ps) : ∃ ss : List ByteArray, RdsS W (.slice a len cap) ss ∧ (∀ s ∈ ss, s.size ≤ maxLen) ∧ ss.length * 16 ≤ 140737488351232 := by
  obtain ⟨fuel, hf⟩ := h
  rcases open_strings hu he hc hf with ⟨hcs, _⟩ | ⟨x, l, c, ss, hcs, _, hl, hm, hz, hx, hcell, hws⟩
  · simp [Value.cells] at hcs
    obtain ⟨rfl, rfl, rfl⟩ := hcs
    exact ⟨[], rdsS_nil W, by simp, by simp⟩
  · simp [Value.cells] at hcs
    obtain ⟨rfl, rfl, rfl⟩ := hcs
    obtain ⟨hx, _⟩ := Prod.mk.inj hx
    subst hx
    have z := sized_slice hsz ht hd hu
    rw [hB] at z
    have hl2 : len ≤ ss.length := by
      rw [hz]
      split
      · exact hl
      · exact Nat.le_refl _
    have h1 : (strs (H := H) (ss.take len)).length + (strs (H := H) (ss.drop len)).length = ss.length := by
      simp [strs]
      omega
    rw [h1] at z
    have hr : reachBytes = 140737488351232 := by decide
    rw [hr] at z
    have htl : (ss.take len).length = len := by simp; omega
    refine ⟨ss.take len, ?_, fun s hs => hws s (List.mem_of_mem_take hs), by rw [htl]; omega⟩
    rcases Nat.eq_zero_or_pos len with h0 | h0
    · subst h0
      simp only [List.take_zero]
      exact rdsS_empty W x cap
    · have hc0 := hcell 0 (by omega)
      have hx0 : x.add 0 = x := by unfold Addr.add; rw [if_pos rfl]
      rw [hx0] at hc0
      have hsp : x.spot = none := by
        cases hs : x.spot with
        | none => rfl
        | some n =>
          unfold World.cell? at hc0
          split at hc0
          · rw [hs] at hc0; simp at hc0
          · cases hc0
      obtain ⟨b, off, sp⟩ := x
      simp only at hsp
      subst hsp
      have hlt := World.block_lt_of_cell? W _ hc0
      have := rdsS_mk (w := W) (ss := ss.take len) (b := b) (off := off) (cap := cap) (by omega) hm hlt (fun i hi => by
        have hi' : i < len := by omega
        have := hcell i (by omega)
        rw [addr_add] at this
        rw [this, List.getD_eq_getElem?_getD, List.getElem?_eq_getElem (show i < ss.length by omega)]
        simp)
      rw [htl] at this
      exact this
end Go.Proofs.YtfnfmkejkgiclaaDoor
