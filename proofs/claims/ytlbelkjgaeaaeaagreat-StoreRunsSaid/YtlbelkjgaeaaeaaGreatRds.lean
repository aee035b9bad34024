/-
  A slice value that reads as a list of one-cell values: nil, or a row of cells.
-/
import Derived.WalkKit
namespace Go.Proofs.YtlbelkjgaeaaeaaGreat
open Go.RowKit

theorem cell_set_same {w : World} {a : Addr} {u : Value} (v : Value) (h : w.cell? a = some u) : (w.setCell a v).cell? a = some v := by
  first | exact World.cell?_setCell_same _ _ _ h | exact World.cell?_setCell_same _ _ h | exact World.cell?_setCell_same _ h
theorem cell_set_other {w : World} {a b : Addr} (v : Value) (h : a ≠ b) : (w.setCell a v).cell? b = w.cell? b := by
  first | exact World.cell?_setCell_other _ _ _ _ h | exact World.cell?_setCell_other _ _ _ h | exact World.cell?_setCell_other _ _ h

/-- The slice v reads as xs. -/
def Rds (w : World) (v : Value) (xs : List Value) : Prop :=
  (∃ a c, v = .slice a 0 c ∧ xs = [] ∧ (a = none → c = 0)) ∨
  ∃ b off cap, v = .slice (some ⟨b, off, none⟩) xs.length cap ∧ xs.length ≤ cap ∧ cap ≤ maxLen ∧ b < w.heap.size ∧ ∀ i (h : i < xs.length), w.cell? ⟨b, off + i, none⟩ = some xs[i]

/-- The slice v reads as strings. -/
def RdsS (w : World) (v : Value) (ss : List ByteArray) : Prop := Rds w v (ss.map Value.string)

/-- The slice v reads as strings: nil, or a row. -/
theorem rdsS_cases {w : World} {v : Value} {ss : List ByteArray} (h : RdsS w v ss) :
    (∃ a c, v = .slice a 0 c ∧ ss = []) ∨
    ∃ b off len cap, v = .slice (some ⟨b, off, none⟩) len cap ∧ len = ss.length ∧ len ≤ cap ∧ cap ≤ maxLen ∧ b < w.heap.size ∧ ∀ i (h : i < ss.length), w.cell? ⟨b, off + i, none⟩ = some (.string ss[i]) := by
  rcases h with ⟨a, c, h1, h2, _⟩ | ⟨b, off, cap, h1, h2, h3, h4, h5⟩
  · exact .inl ⟨a, c, h1, by simpa using h2⟩
  · simp only [List.length_map] at h1 h2 h5
    exact .inr ⟨b, off, _, cap, h1, rfl, h2, h3, h4, fun i hi => by rw [h5 i hi]; simp⟩

theorem rdsS_mk {w : World} {ss : List ByteArray} {b off cap : Nat} (h2 : ss.length ≤ cap) (h3 : cap ≤ maxLen) (h4 : b < w.heap.size) (h5 : ∀ i (h : i < ss.length), w.cell? ⟨b, off + i, none⟩ = some (.string ss[i])) :
    RdsS w (.slice (some ⟨b, off, none⟩) ss.length cap) ss :=
  .inr ⟨b, off, cap, by simp, by simpa using h2, h3, h4, fun i hi => by simp only [List.length_map] at hi; rw [h5 i hi]; simp⟩

theorem rdsS_nil (w : World) : RdsS w (.slice none 0 0) [] := .inl ⟨_, _, rfl, rfl, fun _ => rfl⟩
theorem rdsS_empty (w : World) (a : Addr) (c : Nat) : RdsS w (.slice (some a) 0 c) [] := .inl ⟨_, _, rfl, rfl, fun h => by cases h⟩

theorem Rds.below {w w' : World} {v : Value} {xs : List Value} (h : Rds w v xs) (hb : Below w.heap.size w w') : Rds w' v xs := by
  rcases h with h | ⟨b, off, cap, h1, h2, h3, h4, h5⟩
  · exact .inl h
  · exact .inr ⟨b, off, cap, h1, h2, h3, Nat.lt_of_lt_of_le h4 hb.size, fun i hi => (hb.cell (p := ⟨b, off + i, none⟩) h4).trans (h5 i hi)⟩

theorem RdsS.below {w w' : World} {v : Value} {ss : List ByteArray} (h : RdsS w v ss) (hb : Below w.heap.size w w') : RdsS w' v ss := Rds.below h hb

theorem ownsRow_le {w : World} {b b' : Nat} {e : TypeId} {size : Nat} {v : Value} {n : Nat} {xs : List Value} (h : w.ownsRow b e size v n xs) (hb : b' ≤ b) : w.ownsRow b' e size v n xs := by
  obtain ⟨h1, h2⟩ := h
  refine ⟨h1, ?_⟩
  rcases h2 with h2 | ⟨g, cap, cur, hv, hg, r⟩
  · exact .inl h2
  · exact .inr ⟨g, cap, cur, hv, Nat.le_trans hb hg, r⟩

/-- What a row of the call's own, one cell an element, reads as. -/
theorem ownsRow_rds {w : World} {b : Nat} {e : TypeId} {v : Value} {n : Nat} {xs : List Value} (h : w.ownsRow b e 1 v n xs) : Rds w v xs := by
  obtain ⟨h1, h2⟩ := h
  simp only [Nat.mul_one] at h1 h2
  rcases h2 with ⟨h2, h3⟩ | ⟨g, cap, cur, hv, hg, hh, hn, hc, hs, ht⟩
  · subst h3
    exact .inl ⟨_, _, h2, List.length_eq_zero_iff.1 h1, fun _ => rfl⟩
  · subst h1
    refine .inr ⟨g, 0, cap, hv, hn, hc, ?_, fun i hi => ?_⟩
    · rcases Nat.lt_or_ge g w.heap.size with h | h
      · exact h
      · simp [Array.getElem?_eq_none h] at hh
    · have hi2 : i < cur.size := by omega
      have : cur[i]? = some xs[i] := by
        have h4 : cur.toList[i]? = some xs[i] := by
          have : (cur.toList.take xs.length)[i]? = xs[i]? := by rw [ht]
          rw [List.getElem?_take_of_lt hi, List.getElem?_eq_getElem hi] at this
          exact this
        simpa using h4
      simp [World.cell?, hh, this]
end Go.Proofs.YtlbelkjgaeaaeaaGreat
