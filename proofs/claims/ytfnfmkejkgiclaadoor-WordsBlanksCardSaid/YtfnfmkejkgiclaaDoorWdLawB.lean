/-
  Which texts are one word, which are two; words between blanks: plain laws; no program here.
-/
import Derived.Test.YtfnfmkejkgiclaaDoorWdLaw
namespace Go.Proofs.YtfnfmkejkgiclaaDoor
set_option linter.unusedSimpArgs false
set_option linter.unusedVariables false
namespace Wd

theorem lets_no10 : ∀ (l : List UInt8), (10 : UInt8) ∉ l.take (lets l)
  | [] => by simp
  | c :: t => by
    by_cases hc : (Rp.isLetter c && !arrow (c :: t)) = true
    · simp only [lets, hc, if_true, List.take_succ_cons, List.mem_cons, not_or]
      refine ⟨fun e => ?_, lets_no10 t⟩
      subst e
      simp [Rp.isLetter, Rp.isDigit] at hc
    · simp [lets, hc]

theorem size_no10 (l : List UInt8) : (10 : UInt8) ∉ l.take (size l) := by
  unfold size
  split
  · rename_i h
    intro h10
    simp only [isPair, Bool.or_eq_true, beq_iff_eq] at h
    rcases h with ((h | h) | h) | h <;> (rw [h] at h10; revert h10; decide)
  · split
    · rename_i h
      cases l with
      | nil => simp
      | cons c t =>
        simp only [List.headD_cons] at h
        simp only [List.take_succ_cons, List.take_zero, List.mem_cons, List.not_mem_nil, or_false]
        intro e
        subst e
        revert h
        decide
    · exact lets_no10 l

/-- What is known of a line's words. -/
theorem line_all (num : Nat) : ∀ (k : Nat) (l : List UInt8) (at_ : Nat) (ws : List Wrd), l.length ≤ k → line num l at_ = .ok ws → ∀ w ∈ ws, w.l = num ∧ w.t.size ≤ l.length ∧ (10 : UInt8) ∉ w.t.data.toList := by
  intro k
  induction k with
  | zero =>
    intro l at_ ws hk h
    have : l = [] := List.length_eq_zero_iff.1 (by omega)
    subst this
    rw [line_nil] at h
    injection h with h
    subst h
    simp
  | succ k ih =>
    intro l at_ ws hk h w hw
    cases l with
    | nil =>
      rw [line_nil] at h
      injection h with h
      subst h
      simp at hw
    | cons c t =>
      simp only [List.length_cons] at hk ⊢
      by_cases h1 : c = 35
      · subst h1
        rw [line_hash] at h
        injection h with h
        subst h
        simp at hw
      · by_cases h2 : c = 32 ∨ c = 9
        · rw [line_blank _ _ _ _ h2] at h
          obtain ⟨a, b, d⟩ := ih t _ ws (by omega) h w hw
          exact ⟨a, by omega, d⟩
        · by_cases h0 : size (c :: t) = 0
          · rw [line_bad _ _ _ _ h1 h2 h0] at h
            cases h
          · rw [line_word _ _ _ _ h1 h2 h0] at h
            cases hr : line num ((c :: t).drop (size (c :: t))) (at_ + size (c :: t)) with
            | error e => rw [hr] at h; cases h
            | ok r =>
              rw [hr] at h
              simp only [Except.map] at h
              injection h with h
              subst h
              rcases List.mem_cons.1 hw with rfl | hw
              · refine ⟨rfl, ?_, ?_⟩
                · simp only [mkB_size]
                  have := List.length_take_le (size (c :: t)) (c :: t)
                  have h3 := size_le (c :: t) (by simp)
                  simp only [List.length_take, List.length_cons] at h3 ⊢
                  omega
                · simp only [mkB_list]
                  exact size_no10 _
              · obtain ⟨a, b, d⟩ := ih _ _ r (by simp; omega) hr w hw
                refine ⟨a, ?_, d⟩
                simp only [List.length_drop, List.length_cons] at b
                omega

theorem wordB_no10 {a : List UInt8} (h : wordB a = true) : (10 : UInt8) ∉ a := by
  obtain ⟨c, t, e, h1, h2, h3⟩ := wordB_iff.1 h
  have := size_no10 a
  rwa [h3, List.take_length] at this

/-- A line that reads as one word is that word. -/
theorem line_is_one {a : List UInt8} {num at_ : Nat} {ws : List Wrd} (h : line num a at_ = .ok ws) (hw : ws.map Wrd.t = [mkB a]) : wordB a = true := by
  cases a with
  | nil => rw [line_nil] at h; injection h with h; subst h; simp at hw
  | cons c t =>
    by_cases h1 : c = 35
    · subst h1; rw [line_hash] at h; injection h with h; subst h; simp at hw
    · by_cases h2 : c = 32 ∨ c = 9
      · rw [line_blank _ _ _ _ h2] at h
        rcases ws with _ | ⟨x, ws⟩
        · simp at hw
        · have := (line_all num _ t _ _ (Nat.le_refl _) h x (by simp)).2.1
          simp only [List.map_cons, List.cons.injEq] at hw
          rw [hw.1, mkB_size] at this
          simp at this
          omega
      · by_cases h0 : size (c :: t) = 0
        · rw [line_bad _ _ _ _ h1 h2 h0] at h; cases h
        · rw [line_word _ _ _ _ h1 h2 h0] at h
          cases hr : line num ((c :: t).drop (size (c :: t))) (at_ + size (c :: t)) with
          | error e => rw [hr] at h; cases h
          | ok r =>
            rw [hr] at h
            simp only [Except.map] at h
            injection h with h
            subst h
            simp only [List.map_cons, List.cons.injEq] at hw
            have h5 := congrArg List.length (mkB_inj hw.1)
            have h6 := size_le (c :: t) (by simp)
            refine wordB_iff.2 ⟨c, t, rfl, h1, h2, ?_⟩
            simp only [List.length_take, List.length_cons] at h5 h6 ⊢
            omega

/-- A line that reads as two words, the first of which is known. -/
theorem line_is_two {a b : List UInt8} {num at_ : Nat} {ws : List Wrd} (ha : wordB a = true) (h : line num (a ++ b) at_ = .ok ws) (hw : ws.map Wrd.t = [mkB a, mkB b]) : size (a ++ b) = a.length := by
  obtain ⟨c, t, rfl, h1, h2, h3⟩ := wordB_iff.1 ha
  rw [List.cons_append] at h ⊢
  by_cases h0 : size (c :: (t ++ b)) = 0
  · rw [line_bad _ _ _ _ h1 h2 h0] at h; cases h
  · rw [line_word _ _ _ _ h1 h2 h0] at h
    cases hr : line num ((c :: (t ++ b)).drop (size (c :: (t ++ b)))) (at_ + size (c :: (t ++ b))) with
    | error e => rw [hr] at h; cases h
    | ok r =>
      rw [hr] at h
      simp only [Except.map] at h
      injection h with h
      subst h
      simp only [List.map_cons, List.cons.injEq] at hw
      have h5 := congrArg List.length (mkB_inj hw.1)
      have h6 := size_le (c :: (t ++ b)) (by simp)
      simp only [List.length_take, List.length_cons, List.length_append] at h5 h6 ⊢
      omega

/-- Are these the words of a text of one line? -/
def aloneB (s : List UInt8) (want : List ByteArray) : Bool :=
  match lines s with
  | .error _ => false
  | .ok r => r.length == 1 && decide ((r.headD []).map Wrd.t = want)

theorem rows_mem : ∀ (hs : List (List UInt8)) (num : Nat) (r : List (List Wrd)), rows hs num = .ok r → ∀ ws ∈ r, ∃ h n, h ∈ hs ∧ line n h 0 = .ok ws
  | [], num, r, h, ws, hw => by simp only [rows] at h; injection h with h; subst h; simp at hw
  | x :: t, num, r, h, ws, hw => by
    simp only [rows] at h
    cases hl : line num x 0 with
    | error p => rw [hl] at h; cases h
    | ok us =>
      rw [hl] at h
      simp only at h
      cases hr : rows t (num + 1) with
      | error p => rw [hr] at h; cases h
      | ok q =>
        rw [hr] at h
        simp only [Except.map] at h
        injection h with h
        have ih := rows_mem t (num + 1) q hr ws
        by_cases he : us.isEmpty = true
        · rw [if_pos he] at h
          subst h
          obtain ⟨h', n, h1, h2⟩ := ih hw
          exact ⟨h', n, List.mem_cons_of_mem _ h1, h2⟩
        · rw [if_neg he] at h
          subst h
          rcases List.mem_cons.1 hw with rfl | hw
          · exact ⟨x, num, by simp, hl⟩
          · obtain ⟨h', n, h1, h2⟩ := ih hw
            exact ⟨h', n, List.mem_cons_of_mem _ h1, h2⟩

theorem lines_one {s : List UInt8} (h : (10 : UInt8) ∉ s) : lines s = match line 1 s 0 with
    | .error p => .error (1, p)
    | .ok ws => .ok (if ws.isEmpty then [] else [ws]) := by
  unfold lines
  rw [split_none s h]
  simp only [rows]
  cases line 1 s 0 <;> simp [Except.map]

theorem alone_one (a : List UInt8) : aloneB a [mkB a] = wordB a := by
  rw [Bool.eq_iff_iff]
  unfold aloneB
  constructor
  · intro h
    cases hl : lines a with
    | error p => rw [hl] at h; cases h
    | ok r =>
      rw [hl] at h
      simp only [Bool.and_eq_true, beq_iff_eq, decide_eq_true_eq] at h
      obtain ⟨h1, h2⟩ := h
      match r, h1 with
      | [ws], _ =>
        simp only [List.headD_cons] at h2
        obtain ⟨x, n, hx, hx2⟩ := rows_mem _ _ _ hl ws (by simp)
        rcases ws with _ | ⟨y, _ | ⟨z, ws⟩⟩
        · simp at h2
        · simp only [List.map_cons, List.map_nil, List.cons.injEq, and_true] at h2
          have h10 := (line_all n _ x _ _ (Nat.le_refl _) hx2 y (by simp)).2.2
          rw [h2, mkB_list] at h10
          rw [split_none a h10] at hx
          obtain rfl : x = a := by simpa using hx
          exact line_is_one hx2 (by simp [h2])
        · simp at h2
  · intro h
    rw [lines_one (wordB_no10 h), line_one h]
    simp

theorem alone_two {a b : List UInt8} (ha : wordB a = true) (hb : wordB b = true) : aloneB (a ++ b) [mkB a, mkB b] = !gluedB a b := by
  have h10 : (10 : UInt8) ∉ a ++ b := by simp [wordB_no10 ha, wordB_no10 hb]
  rw [Bool.eq_iff_iff]
  unfold aloneB
  rw [lines_one h10]
  constructor
  · intro h
    cases hl : line 1 (a ++ b) 0 with
    | error p => rw [hl] at h; cases h
    | ok ws =>
      rw [hl] at h
      simp only [Bool.and_eq_true, beq_iff_eq, decide_eq_true_eq] at h
      by_cases he : ws.isEmpty = true
      · rw [if_pos he] at h; simp at h
      · rw [if_neg he] at h
        have := line_is_two ha hl h.2
        simp [gluedB, this]
  · intro h
    have hs : size (a ++ b) = a.length := by simpa [gluedB] using h
    rw [line_front ha hs, line_one hb]
    simp [Except.map]

theorem sign_word {a : List UInt8} (h : isPair a = true ∨ (a.length = 1 ∧ isSingle (a.headD 0) = true)) : wordB a = true := by
  rcases h with h | ⟨h1, h2⟩
  · simp only [isPair, Bool.or_eq_true, beq_iff_eq] at h
    rcases h with ((rfl | rfl) | rfl) | rfl <;> decide
  · match a, h1 with
    | [c], _ =>
      simp only [List.headD_cons, isSingle, List.contains_iff_mem, singles, List.mem_cons, List.not_mem_nil, or_false] at h2
      rcases h2 with rfl | rfl | rfl | rfl | rfl | rfl | rfl | rfl | rfl | rfl | rfl | rfl <;> decide

/-- What the reference asks of a word. -/
def oneB (num : Nat) (a : List UInt8) : Bool :=
  match line num a 0 with
  | .error _ => false
  | .ok ws => decide (ws.map Wrd.t = [mkB a])

theorem oneB_eq (num : Nat) (a : List UInt8) : oneB num a = wordB a := by
  rw [Bool.eq_iff_iff]
  unfold oneB
  constructor
  · intro h
    cases hl : line num a 0 with
    | error p => rw [hl] at h; cases h
    | ok ws => rw [hl] at h; exact line_is_one hl (by simpa using h)
  · intro h
    rw [line_one h]
    simp

/-- What the reference asks of two words. -/
def twoB (num : Nat) (a b : List UInt8) : Bool :=
  match line num (a ++ b) 0 with
  | .error _ => false
  | .ok ws => decide (ws.map Wrd.t = [mkB a, mkB b])

theorem twoB_eq {a b : List UInt8} (num : Nat) (ha : wordB a = true) (hb : wordB b = true) : twoB num a b = !gluedB a b := by
  rw [Bool.eq_iff_iff]
  unfold twoB
  constructor
  · intro h
    cases hl : line num (a ++ b) 0 with
    | error p => rw [hl] at h; cases h
    | ok ws =>
      rw [hl] at h
      have := line_is_two ha hl (by simpa using h)
      simp [gluedB, this]
  · intro h
    have hs : size (a ++ b) = a.length := by simpa [gluedB] using h
    rw [line_front ha hs, line_one hb]
    simp [Except.map]

/-- The line of words, or none. -/
def say (l : List (List UInt8)) : Option (List UInt8) := if l.all wordB then some (jn l) else none

theorem line_tabs (num : Nat) (T : List UInt8) : ∀ (k at_ : Nat), line num (List.replicate k 9 ++ T) at_ = line num T (at_ + k)
  | 0, at_ => by simp
  | k + 1, at_ => by
    rw [List.replicate_succ, List.cons_append, line_blank _ _ _ _ (.inr rfl), line_tabs num T k]
    congr 1
    omega

/-- Words between blanks. -/
def bl (ps : List (Nat × List UInt8)) : List UInt8 := ps.flatMap fun p => 32 :: (List.replicate p.1 9 ++ p.2)

theorem line_bl (R : List UInt8) : ∀ (ps : List (Nat × List UInt8)), (∀ p ∈ ps, wordB p.2 = true) → ∀ (num at_ : Nat), ∃ ws, line num (bl ps ++ 32 :: 35 :: R) at_ = .ok ws ∧ ws.map Wrd.t = ps.map (fun p => mkB p.2) ∧ ∀ w ∈ ws, w.l = num
  | [], _, num, at_ => ⟨[], by rw [bl, List.flatMap_nil, List.nil_append, line_blank _ _ _ _ (.inl rfl), line_hash], rfl, by simp⟩
  | p :: ps, h, num, at_ => by
    have ha := h p (by simp)
    obtain ⟨c, t, e, h1, h2, h3⟩ := wordB_iff.1 ha
    have hne : p.2 ≠ [] := by rw [e]; simp
    obtain ⟨ws, w1, w2, w3⟩ := line_bl R ps (fun x hx => h x (List.mem_cons_of_mem _ hx)) num (at_ + 1 + p.1 + p.2.length)
    refine ⟨⟨mkB p.2, num, at_ + 1 + p.1 + 1⟩ :: ws, ?_, by simp [w2], fun w hw => ?_⟩
    · have hT : ∃ T, bl ps ++ 32 :: 35 :: R = 32 :: T := by
        cases ps with
        | nil => exact ⟨_, rfl⟩
        | cons q ps => exact ⟨_, rfl⟩
      obtain ⟨T, hT⟩ := hT
      have : bl (p :: ps) ++ 32 :: 35 :: R = 32 :: (List.replicate p.1 9 ++ (p.2 ++ (bl ps ++ 32 :: 35 :: R))) := by
        simp [bl]
      rw [this, line_blank _ _ _ _ (.inl rfl), line_tabs, line_front ha (by rw [hT]; exact size_blank hne h3 T), w1]
      rfl
    · rcases List.mem_cons.1 hw with rfl | hw
      · rfl
      · exact w3 w hw

theorem bl_no10 : ∀ (ps : List (Nat × List UInt8)), (∀ p ∈ ps, wordB p.2 = true) → (10 : UInt8) ∉ bl ps
  | [], _ => by simp [bl]
  | p :: ps, h => by
    have h1 := wordB_no10 (h p (by simp))
    have h2 := bl_no10 ps (fun x hx => h x (List.mem_cons_of_mem _ hx))
    simp only [bl, List.flatMap_cons, List.cons_append, List.append_assoc, List.mem_cons, List.mem_append, not_or, List.mem_replicate] at h2 ⊢
    exact ⟨by decide, (fun e => absurd e.2 (by decide)), h1, h2⟩

/-- More blanks and a remark change no word. -/
theorem lines_bl (ps : List (Nat × List UInt8)) (R : List UInt8) (hR : (10 : UInt8) ∉ R) (hne : ps ≠ []) (h : ∀ p ∈ ps, wordB p.2 = true) :
    ∃ ws, lines (bl ps ++ 32 :: 35 :: R ++ [10]) = .ok [ws] ∧ ws.map Wrd.t = ps.map (fun p => mkB p.2) ∧ ∀ w ∈ ws, w.l = 1 := by
  obtain ⟨ws, w1, w2, w3⟩ := line_bl R ps h 1 0
  refine ⟨ws, ?_, w2, w3⟩
  unfold lines
  rw [split_some _ [] (by simp [bl_no10 ps h, hR])]
  have he : ws.isEmpty = false := by
    cases ws with
    | nil => cases ps with
      | nil => exact absurd rfl hne
      | cons p ps => simp at w2
    | cons x ws => rfl
  simp [split, rows, w1, he, line_nil, Except.map]

/-- What is said is read as the same words. -/
theorem lines_jn (l : List (List UInt8)) (h : ∀ a ∈ l, wordB a = true) : ∃ ws, lines (jn l) = .ok (if l = [] then [] else [ws]) ∧ ws.map Wrd.t = l.map mkB := by
  obtain ⟨ws, h1, h2⟩ := line_jn l h 1 0
  have h10 : ∀ (l : List (List UInt8)), (∀ a ∈ l, wordB a = true) → (10 : UInt8) ∉ jn l := by
    intro l
    induction l with
    | nil => intro _; simp [jn]
    | cons a r ih =>
      intro h
      have ha := wordB_no10 (h a (by simp))
      cases r with
      | nil => exact ha
      | cons b r =>
        have := ih (fun x hx => h x (List.mem_cons_of_mem _ hx))
        simp only [jn, List.mem_append, not_or]
        refine ⟨ha, ?_, this⟩
        split <;> simp
  refine ⟨ws, ?_, h2⟩
  rw [lines_one (h10 l h), h1]
  simp only
  cases ws with
  | nil => cases l with
    | nil => rfl
    | cons a l => simp at h2
  | cons x ws => cases l with
    | nil => simp at h2
    | cons a l => simp

end Wd
end Go.Proofs.YtfnfmkejkgiclaaDoor
