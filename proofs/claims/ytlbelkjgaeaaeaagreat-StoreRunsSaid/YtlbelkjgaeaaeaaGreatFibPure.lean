/-
  A table of rules as plain data: the place of a key, what may be, what a change makes.
-/
import Derived.Test.YtlbelkjgaeaaeaaGreatRulJ
namespace Go.Proofs.YtlbelkjgaeaaeaaGreat
open Go.RowKit Go.Shelf Go.Lib Go.Sort
set_option linter.unusedVariables false
set_option linter.unusedSectionVars false

namespace Fb
/-- Have two rules one key? -/
def keyB (p : Int) (m : ByteArray) (r : Rl) : Bool := decide (r.p = p) && decide (r.m = m)

/-- The place of a key's rule; -1: there is none. -/
structure IsAt (L : List Rl) (p : Int) (m : ByteArray) (z : Int) : Prop where
  is : (z = -1 ∧ ∀ j (h : j < L.length), keyB p m L[j] = false) ∨ (∃ i, ∃ h : i < L.length, z = (i : Int) ∧ keyB p m L[i] = true ∧ ∀ j (h : j < L.length), j < i → keyB p m L[j] = false)

def keyI : List Rl → Int → ByteArray → Int
  | [], _, _ => -1
  | r :: L, p, m => if keyB p m r = true then 0 else if keyI L p m < 0 then -1 else keyI L p m + 1

theorem keyI_is : ∀ (L : List Rl) (p : Int) (m : ByteArray), IsAt L p m (keyI L p m)
  | [], p, m => ⟨.inl ⟨rfl, fun j h => absurd h (Nat.not_lt_zero _)⟩⟩
  | r :: L, p, m => by
    unfold keyI
    cases hk : keyB p m r with
    | true => rw [if_pos rfl]; exact ⟨.inr ⟨0, by simp, rfl, by simpa using hk, fun j _ h => absurd h (Nat.not_lt_zero _)⟩⟩
    | false =>
      rw [if_neg (by simp)]
      rcases (keyI_is L p m).is with ⟨h1, h2⟩ | ⟨i, hi, h1, h2, h3⟩
      · rw [h1, if_pos (by omega)]
        refine ⟨.inl ⟨rfl, fun j h => ?_⟩⟩
        cases j with
        | zero => simpa using hk
        | succ j => simpa using h2 j (by simpa using h)
      · rw [h1, if_neg (by omega)]
        refine ⟨.inr ⟨i + 1, by simpa using hi, by omega, by simpa using h2, fun j h hj => ?_⟩⟩
        cases j with
        | zero => simpa using hk
        | succ j => simpa using h3 j (by simpa using h) (by omega)

theorem keyB_str (p : Int) (m : ByteArray) (r : Rl) : keyB p m r = ((r.p == p) && (r.m.toList == m.toList)) := by
  unfold keyB
  have e1 : decide (r.p = p) = (r.p == p) := by rw [Bool.eq_iff_iff]; simp
  have e2 : decide (r.m = m) = (r.m.toList == m.toList) := by
    rw [Bool.eq_iff_iff]
    simp only [decide_eq_true_eq, beq_iff_eq]
    constructor
    · intro h; rw [h]
    · intro h
      rw [Lib.toList_data, Lib.toList_data, Array.toList_inj] at h
      cases hr : r.m; cases m
      rw [hr] at h
      simp only at h
      rw [h]
  rw [e1, e2]
end Fb
end Go.Proofs.YtlbelkjgaeaaeaaGreat
