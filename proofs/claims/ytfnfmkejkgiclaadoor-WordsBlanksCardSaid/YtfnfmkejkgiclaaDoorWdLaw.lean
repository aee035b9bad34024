/-
  Words said and read again: plain laws; no program here.
-/
import Derived.Test.YtfnfmkejkgiclaaDoorWdPure
namespace Go.Proofs.YtfnfmkejkgiclaaDoor
set_option linter.unusedSimpArgs false
set_option linter.unusedVariables false
namespace Wd

theorem lets_more : ∀ (x T : List UInt8), lets x < x.length → lets (x ++ T) = lets x
  | [], T, h => absurd h (Nat.not_lt_zero _)
  | c :: t, T, h => by
    by_cases hc : (Rp.isLetter c && !arrow (c :: t)) = true
    · simp only [lets, hc, if_true, List.length_cons] at h
      have ht : t ≠ [] := by intro e; subst e; simp [lets] at h
      have ha : arrow (c :: (t ++ T)) = arrow (c :: t) := by
        cases t with
        | nil => exact absurd rfl ht
        | cons d t => simp [arrow]
      simp only [List.cons_append, lets, ha, hc, if_true]
      rw [lets_more t T (by omega)]
    · by_cases hl : Rp.isLetter c = true
      · have har : arrow (c :: t) = true := by simp [hl] at hc; exact hc
        have ha : arrow (c :: (t ++ T)) = true := by
          cases t with
          | nil => simp [arrow] at har
          | cons d t => simpa [arrow] using har
        simp [lets, har, ha]
      · simp only [Bool.not_eq_true] at hl
        simp [lets, hl]

theorem lets_blank : ∀ (a T : List UInt8), lets a = a.length → lets (a ++ 32 :: T) = a.length
  | [], T, _ => by simp [lets, Rp.isLetter, Rp.isDigit]
  | c :: t, T, h => by
    by_cases hc : (Rp.isLetter c && !arrow (c :: t)) = true
    · simp only [lets, hc, if_true, List.length_cons] at h
      have ha : arrow (c :: (t ++ 32 :: T)) = arrow (c :: t) := by
        cases t with
        | nil => simp [arrow]
        | cons d t => simp [arrow]
      simp only [List.cons_append, lets, ha, hc, if_true, List.length_cons]
      rw [lets_blank t T (by omega)]
    · simp [lets, hc] at h

/-- Is a text one word? -/
def wordB (a : List UInt8) : Bool := !a.isEmpty && a.headD 0 != 35 && a.headD 0 != 32 && a.headD 0 != 9 && size a == a.length

/-- Would two words be read otherwise without a blank between? -/
def gluedB (a b : List UInt8) : Bool := size (a ++ b) != a.length

theorem wordB_iff {a : List UInt8} : wordB a = true ↔ ∃ c t, a = c :: t ∧ ¬ c = 35 ∧ ¬ (c = 32 ∨ c = 9) ∧ size a = a.length := by
  unfold wordB
  cases a with
  | nil => simp
  | cons c t =>
    simp only [List.isEmpty_cons, List.headD_cons, Bool.and_eq_true, bne_iff_ne, beq_iff_eq, Bool.not_false, ne_eq, true_and]
    constructor
    · rintro ⟨⟨⟨h1, h2⟩, h3⟩, h4⟩
      exact ⟨c, t, rfl, h1, fun h => h.elim h2 h3, h4⟩
    · rintro ⟨c', t', e, h1, h2, h4⟩
      injection e with e1 e2
      subst e1 e2
      exact ⟨⟨⟨h1, fun h => h2 (.inl h)⟩, fun h => h2 (.inr h)⟩, h4⟩

theorem size_more {a b : List UInt8} (hb : b ≠ []) (ha : a ≠ []) (h : size (a ++ b) = a.length) (T : List UInt8) : size (a ++ b ++ T) = a.length := by
  have hbl : 0 < b.length := List.length_pos_iff.2 hb
  have hal : 0 < a.length := List.length_pos_iff.2 ha
  have ht : (a ++ b ++ T).take 2 = (a ++ b).take 2 := List.take_append_of_le_length (by simp; omega)
  have hh : (a ++ b ++ T).headD 0 = (a ++ b).headD 0 := by
    cases a with
    | nil => exact absurd rfl ha
    | cons c t => rfl
  rw [← h]
  unfold size at h ⊢
  rw [ht, hh]
  split
  · rfl
  · split
    · rfl
    · rename_i h1 h2
      rw [if_neg h1, if_neg h2] at h
      exact lets_more _ _ (by rw [h]; simp; omega)

theorem size_pair {l : List UInt8} (h : isPair (l.take 2) = true) : size l = 2 := by unfold size; rw [if_pos h]
theorem size_single {l : List UInt8} (h : isPair (l.take 2) = false) (h2 : isSingle (l.headD 0) = true) : size l = 1 := by unfold size; rw [h, if_neg (by simp), if_pos h2]
theorem size_lets {l : List UInt8} (h : isPair (l.take 2) = false) (h2 : isSingle (l.headD 0) = false) : size l = lets l := by unfold size; rw [h, h2, if_neg (by simp), if_neg (by simp)]

theorem size_blank {a : List UInt8} (ha : a ≠ []) (h : size a = a.length) (T : List UInt8) : size (a ++ 32 :: T) = a.length := by
  rcases a with _ | ⟨c, _ | ⟨d, t⟩⟩
  · exact absurd rfl ha
  · have h1 : isPair (([c] ++ 32 :: T).take 2) = false := by simp [isPair]
    have h2 : isPair ([c].take 2) = false := by simp [isPair]
    cases h3 : isSingle c with
    | true => rw [size_single h1 h3]; rfl
    | false =>
      rw [size_lets h1 h3]
      rw [size_lets h2 h3] at h
      exact lets_blank [c] T h
  · have ht : (c :: d :: t ++ 32 :: T).take 2 = (c :: d :: t).take 2 := by simp
    cases h1 : isPair ((c :: d :: t).take 2) with
    | true =>
      rw [size_pair (by rw [ht]; exact h1)]
      rw [size_pair h1] at h
      exact h
    | false =>
      cases h3 : isSingle c with
      | true =>
        rw [size_single (l := c :: d :: t ++ 32 :: T) (by rw [ht]; exact h1) h3]
        rw [size_single (l := c :: d :: t) h1 h3] at h
        exact h
      | false =>
        rw [size_lets (l := c :: d :: t ++ 32 :: T) (by rw [ht]; exact h1) h3]
        rw [size_lets (l := c :: d :: t) h1 h3] at h
        exact lets_blank (c :: d :: t) T h

/-- One word, read off the front. -/
theorem line_front {a T : List UInt8} (ha : wordB a = true) (hs : size (a ++ T) = a.length) (num at_ : Nat) :
    line num (a ++ T) at_ = (line num T (at_ + a.length)).map (⟨mkB a, num, at_ + 1⟩ :: ·) := by
  obtain ⟨c, t, rfl, h1, h2, h3⟩ := wordB_iff.1 ha
  have h4 := line_word num at_ c (t ++ T) h1 h2 (by rw [List.cons_append] at hs; rw [hs]; simp)
  rw [List.cons_append] at hs ⊢
  rw [h4, hs]
  simp

theorem line_one {a : List UInt8} (ha : wordB a = true) (num at_ : Nat) : line num a at_ = .ok [⟨mkB a, num, at_ + 1⟩] := by
  obtain ⟨c, t, e, h1, h2, h3⟩ := wordB_iff.1 ha
  have := line_front (T := []) ha (by simpa using h3) num at_
  simpa [line_nil, Except.map] using this

/-- The text of words. -/
def jn : List (List UInt8) → List UInt8
  | [] => []
  | [a] => a
  | a :: b :: r => a ++ ((if gluedB a b then [32] else []) ++ jn (b :: r))

def wds (num : Nat) : List (List UInt8) → List Nat → List Wrd
  | a :: r, c :: q => ⟨mkB a, num, c⟩ :: wds num r q
  | _, _ => []

theorem jn_head (b : List UInt8) (r : List (List UInt8)) : ∃ T, jn (b :: r) = b ++ T := by
  cases r with
  | nil => exact ⟨[], by simp [jn]⟩
  | cons d r => exact ⟨_, rfl⟩

/-- What is said is read as the same words. -/
theorem line_jn : ∀ (l : List (List UInt8)), (∀ a ∈ l, wordB a = true) → ∀ (num at_ : Nat), ∃ ws, line num (jn l) at_ = .ok ws ∧ ws.map Wrd.t = l.map mkB
  | [], _, num, at_ => ⟨[], rfl, rfl⟩
  | [a], h, num, at_ => ⟨_, line_one (h a (by simp)) num at_, rfl⟩
  | a :: b :: r, h, num, at_ => by
    have ha := h a (by simp)
    have hb := h b (by simp)
    obtain ⟨ca, ta, ea, _⟩ := wordB_iff.1 ha
    obtain ⟨cb, tb, eb, _⟩ := wordB_iff.1 hb
    have hane : a ≠ [] := by rw [ea]; simp
    have hbne : b ≠ [] := by rw [eb]; simp
    have hasz : size a = a.length := by obtain ⟨c, t, e, h1, h2, h3⟩ := wordB_iff.1 ha; exact h3
    obtain ⟨ws, hw1, hw2⟩ := line_jn (b :: r) (fun x hx => h x (List.mem_cons_of_mem _ hx)) num (at_ + a.length + (if gluedB a b then 1 else 0))
    refine ⟨⟨mkB a, num, at_ + 1⟩ :: ws, ?_, by simp [hw2]⟩
    simp only [jn]
    by_cases hg : gluedB a b = true
    · simp only [hg, if_true, List.cons_append, List.nil_append] at hw1 ⊢
      rw [line_front ha (size_blank hane hasz _), line_blank num _ 32 _ (.inl rfl), hw1]
      rfl
    · simp only [hg, if_false, Bool.false_eq_true, List.nil_append, Nat.add_zero] at hw1 ⊢
      have hsz : size (a ++ b) = a.length := by simpa [gluedB] using hg
      obtain ⟨T, hT⟩ := jn_head b r
      rw [line_front ha (by rw [hT, ← List.append_assoc]; exact size_more hbne hane hsz T), hw1]
      rfl

end Wd
end Go.Proofs.YtfnfmkejkgiclaaDoor
