/-
  Texts as lines and words, as plain data; no program here.
-/
import Derived.WalkKit
import Derived.Test.YtfnfmkejkgiclaaDoorRulPure
namespace Go.Proofs.YtfnfmkejkgiclaaDoor
set_option linter.unusedSimpArgs false

/-- A word: its text, its line, its column. -/
structure Wrd where
  t : ByteArray
  l : Nat
  c : Nat
deriving Inhabited

namespace Wd

def mkB (l : List UInt8) : ByteArray := ⟨l.toArray⟩
theorem mkB_list (l : List UInt8) : (mkB l).data.toList = l := by simp [mkB]
theorem mkB_of (s : ByteArray) : mkB s.data.toList = s := by simp [mkB]
theorem mkB_inj {a b : List UInt8} (h : mkB a = mkB b) : a = b := by have := congrArg (fun s => s.data.toList) h; simpa [mkB] using this
theorem mkB_size (l : List UInt8) : (mkB l).size = l.length := by simp [mkB, ByteArray.size]

def singles : List UInt8 := [40, 41, 44, 124, 42, 43, 63, 46, 36, 61, 60, 62]
def isSingle (c : UInt8) : Bool := singles.contains c
def isPair (l : List UInt8) : Bool := l == [61, 61] || l == [60, 61] || l == [62, 61] || l == [45, 62]
def arrow (l : List UInt8) : Bool := l.take 2 == [45, 62]

/-- How many letters stand ahead. -/
def lets : List UInt8 → Nat
  | [] => 0
  | c :: t => if Rp.isLetter c && !arrow (c :: t) then lets t + 1 else 0

/-- How many bytes the word has that begins here; 0: none does. -/
def size (l : List UInt8) : Nat := if isPair (l.take 2) then 2 else if isSingle (l.headD 0) then 1 else lets l

/-- A line's words, from a place on; or the place of the byte at fault. -/
def lineF (num : Nat) : Nat → List UInt8 → Nat → Except Nat (List Wrd)
  | 0, _, _ => .ok []
  | _ + 1, [], _ => .ok []
  | f + 1, c :: t, at_ =>
    if c = 35 then .ok []
    else if c = 32 ∨ c = 9 then lineF num f t (at_ + 1)
    else if size (c :: t) = 0 then .error at_
    else (lineF num f ((c :: t).drop (size (c :: t))) (at_ + size (c :: t))).map (⟨mkB ((c :: t).take (size (c :: t))), num, at_ + 1⟩ :: ·)

def line (num : Nat) (l : List UInt8) (at_ : Nat) : Except Nat (List Wrd) := lineF num l.length l at_

theorem lineF_fuel (num : Nat) : ∀ (f g : Nat) (l : List UInt8) (at_ : Nat), l.length ≤ f → l.length ≤ g → lineF num f l at_ = lineF num g l at_ := by
  intro f
  induction f with
  | zero =>
    intro g l at_ hf _
    have : l = [] := List.length_eq_zero_iff.1 (by omega)
    subst this
    cases g <;> rfl
  | succ f ih =>
    intro g l at_ hf hg
    cases l with
    | nil => cases g <;> rfl
    | cons c t =>
      cases g with
      | zero => simp at hg
      | succ g =>
        simp only [List.length_cons] at hf hg
        simp only [lineF]
        rw [ih g t (at_ + 1) (by omega) (by omega)]
        by_cases h0 : size (c :: t) = 0
        · simp [h0]
        · rw [ih g ((c :: t).drop (size (c :: t))) (at_ + size (c :: t)) (by simp; omega) (by simp; omega)]

theorem line_nil (num at_ : Nat) : line num [] at_ = .ok [] := rfl
theorem line_hash (num at_ : Nat) (t : List UInt8) : line num (35 :: t) at_ = .ok [] := by simp [line, lineF]
theorem line_blank (num at_ : Nat) (c : UInt8) (t : List UInt8) (h : c = 32 ∨ c = 9) : line num (c :: t) at_ = line num t (at_ + 1) := by
  have h35 : ¬ c = 35 := by rcases h with rfl | rfl <;> decide
  simp [line, lineF, h, h35]
theorem line_bad (num at_ : Nat) (c : UInt8) (t : List UInt8) (h35 : ¬ c = 35) (hb : ¬ (c = 32 ∨ c = 9)) (h0 : size (c :: t) = 0) : line num (c :: t) at_ = .error at_ := by
  simp only [line, List.length_cons, lineF, if_neg h35, if_neg hb, if_pos h0]
theorem line_word (num at_ : Nat) (c : UInt8) (t : List UInt8) (h35 : ¬ c = 35) (hb : ¬ (c = 32 ∨ c = 9)) (h0 : ¬ size (c :: t) = 0) :
    line num (c :: t) at_ = (line num ((c :: t).drop (size (c :: t))) (at_ + size (c :: t))).map (⟨mkB ((c :: t).take (size (c :: t))), num, at_ + 1⟩ :: ·) := by
  simp only [line, List.length_cons, lineF, if_neg h35, if_neg hb, if_neg h0]
  rw [lineF_fuel num t.length ((c :: t).drop (size (c :: t))).length _ _ (by simp; omega) (Nat.le_refl _)]

/-- The lines of a text. -/
def split : List UInt8 → List (List UInt8)
  | [] => [[]]
  | c :: t => if c = 10 then [] :: split t else (c :: (split t).headD []) :: (split t).tail

theorem split_ne (l : List UInt8) : split l ≠ [] := by
  cases l with
  | nil => simp [split]
  | cons c t => simp only [split]; split <;> simp

theorem split_none : ∀ (l : List UInt8), (10 : UInt8) ∉ l → split l = [l]
  | [], _ => rfl
  | c :: t, h => by
    have h1 : ¬ c = 10 := fun e => h (by simp [e])
    have h2 := split_none t (fun e => h (by simp [e]))
    simp [split, h1, h2]

theorem split_some : ∀ (a b : List UInt8), (10 : UInt8) ∉ a → split (a ++ 10 :: b) = a :: split b
  | [], b, _ => by simp [split]
  | c :: t, b, h => by
    have h1 : ¬ c = 10 := fun e => h (by simp [e])
    have h2 := split_some t b (fun e => h (by simp [e]))
    simp [split, h1, h2]

/-- The words of lines, from a line's number on; or the line and the place of the byte at fault. -/
def rows : List (List UInt8) → Nat → Except (Nat × Nat) (List (List Wrd))
  | [], _ => .ok []
  | h :: t, num =>
    match line num h 0 with
    | .error p => .error (num, p)
    | .ok ws => (rows t (num + 1)).map (fun r => if ws.isEmpty then r else ws :: r)

def lines (l : List UInt8) : Except (Nat × Nat) (List (List Wrd)) := rows (split l) 1

theorem lets_le : ∀ (l : List UInt8), lets l ≤ l.length
  | [] => Nat.le_refl _
  | c :: t => by
    have := lets_le t
    simp only [lets, List.length_cons]
    split <;> omega

theorem size_le (l : List UInt8) (hl : l ≠ []) : size l ≤ l.length := by
  unfold size
  split
  · rename_i h
    cases l with
    | nil => exact absurd rfl hl
    | cons c t =>
      cases t with
      | nil => simp [isPair] at h
      | cons d t => simp
  · split
    · cases l with
      | nil => exact absurd rfl hl
      | cons c t => simp
    · exact lets_le l

end Wd
end Go.Proofs.YtfnfmkejkgiclaaDoor
