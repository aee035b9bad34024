/-
  Walks over package cube: Apart, with its closure and slices.ContainsFunc.
-/
import Derived.Test.YtlamhpiiikcpiaaCubeH
namespace Go.Proofs.Ytlamhpiiikcpiaa
open Go.RowKit

/-- What holds of the world while a code's cell waits. -/
structure CodeInv (B : Nat) (w wr : World) : Prop where
  bel : Below B w wr
  size : B < wr.heap.size
  cell : wr.cell? ⟨B, 0, none⟩ = some (.int .i64 0)
  free : wr.frozen? ⟨B, 0, none⟩ = false

theorem CodeInv.start (w : World) : CodeInv w.heap.size w (w.alloc (.cells #[.int .i64 0] 34)) :=
  ⟨(Below.refl _ _).alloc (Nat.le_refl _) _, by simp, by simp [go_sem], by simp [go_sem]⟩

theorem CodeInv.below {B : Nat} {w wr w' : World} (h : CodeInv B w wr) (hb : Below wr.heap.size wr w') : CodeInv B w w' :=
  ⟨h.bel.trans (hb.mono (Nat.le_of_lt h.size)), Nat.lt_of_lt_of_le h.size hb.size, (hb.cell (p := ⟨B, 0, none⟩) h.size).trans h.cell, (hb.frozen (p := ⟨B, 0, none⟩) h.size).trans h.free⟩

theorem apartAt_lb (ss : List ByteArray) (n : Nat) (h : n < ss.length) : Cb.apartAt (lb ss) n = ((ss.take n).all fun s => (Cb.meet ss[n].data.toList s.data.toList).isNone) := by
  unfold Cb.apartAt
  have e : (lb ss).getD n [] = ss[n].data.toList := by
    rw [List.getD_eq_getElem?_getD, List.getElem?_eq_getElem (by simpa using h)]; simp
  rw [e, ← List.map_take, List.all_map]
  rfl

theorem rdsS_take {w : World} {v : Value} {ss : List ByteArray} (h : RdsS w v ss) (n : Nat) (hn : n < ss.length) :
    ∃ b off cap, v = .slice (some ⟨b, off, none⟩) ss.length cap ∧ ss.length ≤ cap ∧ cap ≤ maxLen ∧ b < w.heap.size ∧ w.cell? ⟨b, off + n, none⟩ = some (.string ss[n]) ∧ RdsS w (.slice (some ⟨b, off, none⟩) n cap) (ss.take n) := by
  rcases rdsS_cases h with ⟨a, c, rfl, rfl⟩ | ⟨b, off, len, cap, rfl, h1, h2, h3, h4, h5⟩
  · simp at hn
  · subst h1
    refine ⟨b, off, cap, rfl, h2, h3, h4, h5 n hn, ?_⟩
    have hl : (ss.take n).length = n := by simp; omega
    have := rdsS_mk (ss := ss.take n) (b := b) (off := off) (cap := cap) (w := w) (by omega) h3 h4 (fun i hi => by rw [h5 i (by omega)]; simp)
    rw [hl] at this
    exact this

/-- What Apart answers, program and reference alike. -/
def ApartPost (fnum : Nat) : Prop := ∀ (v : Value) (ss : List ByteArray) (w : World), RdsS w v ss → (∀ s ∈ ss, s.size ≤ maxLen) →
    Calls Try.prog fnum #[v] w fun e w' => e = .returned (.tuple #[.bool (Cb.ApartS (lb ss)).1, .int .i64 (Cb.ApartS (lb ss)).2]) ∧ Below w.heap.size w w'

theorem apart_first (ss : List ByteArray) : ∃ m, m ≤ ss.length ∧ (∀ i (_ : i < m), Cb.apartAt (lb ss) i = true) ∧ (m < ss.length → Cb.apartAt (lb ss) m = false) ∧ Cb.apartS (lb ss) = decide (m = ss.length) := by
  cases h : Cb.apartS (lb ss) with
  | true =>
    refine ⟨ss.length, Nat.le_refl _, fun i hi => ?_, fun h => absurd h (Nat.lt_irrefl _), by simp⟩
    unfold Cb.apartS at h
    exact List.all_eq_true.1 h i (List.mem_range.2 (by simpa using hi))
  | false =>
    unfold Cb.apartS at h
    obtain ⟨m, hm, h1, h2⟩ := Cb.first_false _ _ h
    have hm' : m < ss.length := by simpa using hm
    refine ⟨m, Nat.le_of_lt hm', fun i hi => by simpa using h2 i hi, fun _ => by simpa using h1, by simp; omega⟩

end Go.Proofs.Ytlamhpiiikcpiaa
