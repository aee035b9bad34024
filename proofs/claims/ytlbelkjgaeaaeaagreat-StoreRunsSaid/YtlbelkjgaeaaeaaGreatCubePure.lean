/-
  Plain laws on cubes as lists of bytes; no program here.
-/
import Derived.Lib.Bytealg
import Derived.Lib.IndexLaws
namespace Go.Proofs.YtlbelkjgaeaaeaaGreat.Cb

/-- All bytes among some, 1 to 128 of them. -/
def ofB (s kinds : List UInt8) : Bool := decide (1 ≤ s.length) && decide (s.length ≤ 128) && s.all (fun c => kinds.contains c)

theorem indexByte_lt (l : List UInt8) (c : UInt8) : (Lib.indexByte l c < 0) ↔ l.contains c = false := by
  induction l with
  | nil => simp [Lib.indexByte]
  | cons b l ih =>
    have hg := Lib.indexByte_ge l c
    unfold Lib.indexByte
    by_cases h : b = c
    · subst h; simp
    · have hb : (b == c) = false := by simpa using h
      have hc : (c == b) = false := by simpa using fun e => h e.symm
      simp only [hb, Bool.false_eq_true, if_false, List.contains_cons, hc, Bool.false_or]
      rw [← ih]
      by_cases h1 : Lib.indexByte l c = -1
      · simp [h1]
      · have h2 : (Lib.indexByte l c == -1) = false := by simpa using h1
        simp only [h2, Bool.false_eq_true, if_false]
        omega

/-- Is a text a cube? -/
def isCube (s : List UInt8) : Bool := ofB s [48, 49, 120]
/-- Is a text a header? -/
def isHead (s : List UInt8) : Bool := ofB s [48, 49]

/-- Why several texts are refused: 0: they are not. -/
def wrong (l : List (List UInt8)) : Int :=
  if l.all isCube then (if l.all (fun s => s.length == (l.headD []).length) then 0 else 11) else 10

/-- The first that a test refuses. -/
theorem first_false {α : Type} (p : α → Bool) : ∀ (l : List α), l.all p = false → ∃ m, ∃ h : m < l.length, p l[m] = false ∧ ∀ i (hi : i < m), p (l[i]'(by omega)) = true
  | [], h => by simp at h
  | a :: l, h => by
    by_cases ha : p a = true
    · have h' : l.all p = false := by simpa [ha] using h
      obtain ⟨m, hm, h1, h2⟩ := first_false p l h'
      refine ⟨m + 1, by simpa using hm, by simpa using h1, fun i hi => ?_⟩
      cases i with
      | zero => simpa using ha
      | succ i => simpa using h2 i (by omega)
    · exact ⟨0, by simp, by simpa using ha, fun i hi => by omega⟩

theorem all_get {α : Type} {p : α → Bool} {l : List α} (h : l.all p = true) (i : Nat) (hi : i < l.length) : p l[i] = true :=
  List.all_eq_true.1 h _ (List.getElem_mem hi)

theorem ofB_len {s k : List UInt8} (h : ofB s k = true) : 1 ≤ s.length ∧ s.length ≤ 128 := by
  unfold ofB at h; simp at h; omega

theorem wrong_cases (l : List (List UInt8)) : wrong l = 0 ∨ wrong l = 10 ∨ wrong l = 11 := by
  unfold wrong; split
  · split <;> simp
  · simp

theorem wrong_two {a b : List UInt8} (h : wrong [a, b] = 0) : isCube a = true ∧ isCube b = true ∧ b.length = a.length := by
  unfold wrong at h
  simp only [List.all_cons, List.all_nil, Bool.and_true, List.headD_cons, beq_self_eq_true, Bool.true_and, Bool.and_eq_true, beq_iff_eq] at h
  split at h
  · rename_i h1
    split at h
    · rename_i h2; exact ⟨h1.1, h1.2, h2⟩
    · cases h
  · cases h

/-- One byte of what two have in common. -/
def mb (x y : UInt8) : UInt8 := if x == 120 then y else x
/-- Do two bytes meet? -/
def ok2 (x y : UInt8) : Bool := x == 120 || y == 120 || y == x
/-- What two cubes, as wide as one another, have in common. -/
def meet (a b : List UInt8) : Option (List UInt8) := if (a.zip b).all (fun p => ok2 p.1 p.2) then some (List.zipWith mb a b) else none

/-- The other bit. -/
def other (y : UInt8) : UInt8 := if y == 49 then 48 else 49
/-- The part of a cut at one place, if there is one. -/
def cutAt (a b m : List UInt8) (i : Nat) : Option (List UInt8) :=
  if a.getD i 0 == 120 && b.getD i 0 != 120 then some (m.take i ++ [other (b.getD i 0)] ++ a.drop (i + 1)) else none
/-- The parts up to a place. -/
def cutTo (a b m : List UInt8) (n : Nat) : List (List UInt8) := (List.range n).filterMap (cutAt a b m)
/-- What is left of one cube without another one. -/
def cut (a b : List UInt8) : List (List UInt8) := match meet a b with | none => [a] | some m => cutTo a b m a.length

theorem cutTo_succ (a b m : List UInt8) (n : Nat) : cutTo a b m (n + 1) = cutTo a b m n ++ (cutAt a b m n).toList := by
  unfold cutTo
  rw [List.range_succ, List.filterMap_append]
  cases h : cutAt a b m n <;> simp [h]
theorem cutTo_len (a b m : List UInt8) (n : Nat) : (cutTo a b m n).length ≤ n := by
  have := List.length_filterMap_le (cutAt a b m) (List.range n)
  simpa [cutTo] using this
end Go.Proofs.YtlbelkjgaeaaeaaGreat.Cb
