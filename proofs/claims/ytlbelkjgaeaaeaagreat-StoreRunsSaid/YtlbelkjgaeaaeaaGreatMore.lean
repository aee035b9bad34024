/-
  Small laws on worlds behind draws.
-/
import Derived.Deep.Draws
import Derived.Test.YtlbelkjgaeaaeaaGreatRds
namespace Go.Proofs.YtlbelkjgaeaaeaaGreat
open Go.RowKit

theorem ownsRow_drewN {w : World} {b : Nat} {e : TypeId} {size : Nat} {v : Value} {n : Nat} {xs : List Value} (h : w.ownsRow b e size v n xs) (k : Nat) : (w.drewN k).ownsRow b e size v n xs := h
theorem below_dN {B : Nat} {a w : World} (h : Below B a w) (k : Nat) : Below B a (w.drewN k) := ⟨h.os, h.tape, h.output, h.size, h.block⟩
theorem rds_drewN {w : World} {v : Value} {xs : List Value} (h : Rds w v xs) (k : Nat) : Rds (w.drewN k) v xs := h

/-- One new cell, as append asks for it. -/
theorem news_at {W : World} {b : Nat} {v : Value} (h : W.cell? ⟨b, 0, none⟩ = some v) : ∀ j u, [v][j]? = some u → W.cell? ((⟨b, 0, none⟩ : Addr).add j) = some u := by
  intro j u hj
  cases j with
  | zero => simp at hj; subst hj; simpa [Addr.add] using h
  | succ j => simp at hj

/-- The slice v reads as strings: its form, an element at a time. -/
theorem rdsS_form {w : World} {v : Value} {ss : List ByteArray} (h : RdsS w v ss) :
    ∃ ad len cap, v = .slice ad len cap ∧ len = ss.length ∧ len ≤ maxLen ∧ ∀ i (hi : i < ss.length), ∃ b off, ad = some ⟨b, off, none⟩ ∧ b < w.heap.size ∧ w.cell? ⟨b, off + i, none⟩ = some (.string ss[i]) := by
  rcases rdsS_cases h with ⟨a, c, rfl, rfl⟩ | ⟨b, off, len, cap, rfl, h1, h2, h3, h4, h5⟩
  · exact ⟨a, 0, c, rfl, rfl, Nat.zero_le _, fun i hi => absurd hi (Nat.not_lt_zero _)⟩
  · exact ⟨_, len, cap, rfl, h1, Nat.le_trans h2 h3, fun i hi => ⟨b, off, rfl, h4, h5 i hi⟩⟩

theorem ownsRow_below {w w' : World} {b : Nat} {e : TypeId} {size : Nat} {v : Value} {n : Nat} {xs : List Value} (h : w.ownsRow b e size v n xs) (hb : Below w.heap.size w w') : w'.ownsRow b e size v n xs := by
  obtain ⟨h1, h2⟩ := h
  refine ⟨h1, ?_⟩
  rcases h2 with h2 | ⟨g, cap, cur, hv, hg, hh, r⟩
  · exact .inl h2
  · have hlt : g < w.heap.size := by
      rcases Nat.lt_or_ge g w.heap.size with h | h
      · exact h
      · simp [Array.getElem?_eq_none h] at hh
    exact .inr ⟨g, cap, cur, hv, hg, (hb.block g hlt).trans hh, r⟩

theorem grown_below {B : Nat} {a w w' : World} {row : Option Nat} (h : Below B a w) (hg : w.grownBy w' row) (hB : B ≤ w.heap.size) (hr : ∀ k, row = some k → B ≤ k) : Below B a w' := h.grown hg hB hr
end Go.Proofs.YtlbelkjgaeaaeaaGreat
