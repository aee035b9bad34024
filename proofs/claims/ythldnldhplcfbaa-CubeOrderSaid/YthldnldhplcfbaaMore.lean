/-
  Small laws on worlds behind draws.
-/
import Derived.Deep.Draws
import Derived.Test.YthldnldhplcfbaaRds
namespace Go.Proofs.Ythldnldhplcfbaa
open Go.RowKit

theorem ownsRow_drewN {w : World} {b : Nat} {e : TypeId} {size : Nat} {v : Value} {n : Nat} {xs : List Value} (h : w.ownsRow b e size v n xs) (k : Nat) : (w.drewN k).ownsRow b e size v n xs := h
theorem below_dN {B : Nat} {a w : World} (h : Below B a w) (k : Nat) : Below B a (w.drewN k) := ⟨h.os, h.tape, h.output, h.size, h.block⟩
theorem rds_drewN {w : World} {v : Value} {xs : List Value} (h : Rds w v xs) (k : Nat) : Rds (w.drewN k) v xs := h

/-- One new cell, as append asks for it. -/
theorem news_at {W : World} {b : Nat} {v : Value} (h : W.cell? ⟨b, 0, none⟩ = some v) : ∀ j u, [v][j]? = some u → W.cell? ((⟨b, 0, none⟩ : Addr).add j) = some u := by
  intro j u hj
  cases j with
  | zero => simp at hj; subst hj; simpa [Addr.add] using h
  | succ j => simp at hj
end Go.Proofs.Ythldnldhplcfbaa
