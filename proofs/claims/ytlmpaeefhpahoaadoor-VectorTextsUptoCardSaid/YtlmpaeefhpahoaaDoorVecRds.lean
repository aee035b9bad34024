/-
  A slice value that reads as stamps, two cells each; a slice of such slices.
-/
import Derived.WalkKit
import Derived.Deep.Draws
import Derived.Sort.Grow
import Derived.Test.YtlmpaeefhpahoaaDoorVecPure
import Derived.Test.YtlmpaeefhpahoaaDoorProg
namespace Go.Proofs.YtlmpaeefhpahoaaDoor
open Go.RowKit

def stv (s : Stp) : Value := .agg #[.int .i64 s.1, .int .u64 s.2]

/-- v reads as the stamps l. -/
def RdsP (w : World) (v : Value) (l : List Stp) : Prop :=
  ∃ ad n cap, v = .slice ad n cap ∧ n = l.length ∧ n ≤ maxLen ∧ ∀ i (h : i < l.length), ∃ b off, ad = some ⟨b, off, none⟩ ∧ b < w.heap.size ∧ w.cell? ⟨b, off + i * 2, none⟩ = some (.int .i64 l[i].1) ∧ w.cell? ⟨b, off + i * 2 + 1, none⟩ = some (.int .u64 l[i].2)

/-- v reads as the vectors L. -/
def RdsL (w : World) (v : Value) (L : List (List Stp)) : Prop :=
  ∃ ad n cap, v = .slice ad n cap ∧ n = L.length ∧ n ≤ maxLen ∧ ∀ i (h : i < L.length), ∃ b off x, ad = some ⟨b, off, none⟩ ∧ b < w.heap.size ∧ w.cell? ⟨b, off + i, none⟩ = some x ∧ RdsP w x L[i]

theorem RdsP.below {w w' : World} {v : Value} {l : List Stp} (h : RdsP w v l) (hb : Below w.heap.size w w') : RdsP w' v l := by
  obtain ⟨ad, n, cap, h1, h2, h3, h4⟩ := h
  refine ⟨ad, n, cap, h1, h2, h3, fun i hi => ?_⟩
  obtain ⟨b, off, h5, h6, h7, h8⟩ := h4 i hi
  exact ⟨b, off, h5, Nat.lt_of_lt_of_le h6 hb.size, (hb.cell (p := ⟨b, off + i * 2, none⟩) h6).trans h7, (hb.cell (p := ⟨b, off + i * 2 + 1, none⟩) h6).trans h8⟩

theorem RdsL.below {w w' : World} {v : Value} {L : List (List Stp)} (h : RdsL w v L) (hb : Below w.heap.size w w') : RdsL w' v L := by
  obtain ⟨ad, n, cap, h1, h2, h3, h4⟩ := h
  refine ⟨ad, n, cap, h1, h2, h3, fun i hi => ?_⟩
  obtain ⟨b, off, x, h5, h6, h7, h8⟩ := h4 i hi
  exact ⟨b, off, x, h5, Nat.lt_of_lt_of_le h6 hb.size, (hb.cell (p := ⟨b, off + i, none⟩) h6).trans h7, h8.below hb⟩

theorem below_grow (w : World) (n : Nat) (os : Array Obj) : Below w.heap.size w (Sort.grow (w.drewN n) os) := by
  have h1 : Below w.heap.size w (w.drewN n) := by
    have := Below.refl w.heap.size w
    exact ⟨this.os, this.tape, this.output, this.size, this.block⟩
  refine ⟨h1.os, h1.tape, h1.output, by simp, fun k hk => ?_⟩
  exact Sort.heap_grow_old (w.drewN n) os (by simpa using hk)

theorem rdsP_nil (w : World) : RdsP w (.slice none 0 0) [] := ⟨_, _, _, rfl, rfl, Nat.zero_le _, fun _ hi => absurd hi (Nat.not_lt_zero _)⟩
end Go.Proofs.YtlmpaeefhpahoaaDoor
