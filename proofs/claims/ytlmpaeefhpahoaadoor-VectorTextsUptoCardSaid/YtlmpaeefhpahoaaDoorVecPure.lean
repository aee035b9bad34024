/-
  Vectors as lists of stamps (device, version): the plain law of their joins.
-/
namespace Go.Proofs.YtlmpaeefhpahoaaDoor

/-- A stamp: its device, its version. -/
abbrev Stp := Int × Int

def pos : List Stp → Int → Nat
  | [], _ => 0
  | t :: r, d => if t.1 < d then pos r d + 1 else 0

def lk : List Stp → Int → Option Int
  | [], _ => none
  | t :: r, d => if t.1 = d then some t.2 else lk r d

def put : List Stp → Stp → List Stp
  | [], s => [s]
  | t :: r, s => if t.1 < s.1 then t :: put r s else if t.1 = s.1 then s :: r else s :: t :: r

def Srt (l : List Stp) : Prop := l.Pairwise fun a b => a.1 < b.1

def rises : List Stp → Bool
  | a :: b :: r => decide (a.1 < b.1) && rises (b :: r)
  | _ => true

def dev (d : Int) : Bool := decide (0 ≤ d) && decide (d < 256)

def chk (l : List Stp) : Bool := rises l && l.all fun s => dev s.1

def step (p : List Stp × Bool) (s : Stp) : List Stp × Bool :=
  match lk p.1 s.1 with
  | none => (put p.1 s, p.2)
  | some x => if x = s.2 then p else (put p.1 (s.1, max x s.2), false)

def joinTo (p : List Stp × Bool) (l : List Stp) : List Stp × Bool := l.foldl step p

theorem rises_srt : ∀ (l : List Stp), rises l = true → Srt l
  | [], _ => List.Pairwise.nil
  | [a], _ => List.pairwise_singleton _ _
  | a :: b :: r, h => by
    simp only [rises, Bool.and_eq_true, decide_eq_true_eq] at h
    have ih := rises_srt (b :: r) h.2
    refine List.Pairwise.cons (fun c hc => ?_) ih
    rcases List.mem_cons.1 hc with rfl | hc
    · exact h.1
    · exact Int.lt_trans h.1 ((List.pairwise_cons.1 ih).1 c hc)

theorem srt_rises : ∀ (l : List Stp), Srt l → rises l = true
  | [], _ => rfl
  | [a], _ => rfl
  | a :: b :: r, h => by
    have h' := List.pairwise_cons.1 h
    simp only [rises, Bool.and_eq_true, decide_eq_true_eq]
    exact ⟨h'.1 b (by simp), srt_rises _ h'.2⟩

theorem Srt.tail {a : Stp} {l : List Stp} (h : Srt (a :: l)) : Srt l := (List.pairwise_cons.1 h).2
theorem Srt.head {a : Stp} {l : List Stp} (h : Srt (a :: l)) : ∀ b ∈ l, a.1 < b.1 := (List.pairwise_cons.1 h).1

theorem mem_put {l : List Stp} {s t : Stp} (h : t ∈ put l s) : t = s ∨ t ∈ l := by
  induction l with
  | nil => exact .inl (by simpa [put] using h)
  | cons a r ih =>
    unfold put at h
    split at h
    · rcases List.mem_cons.1 h with rfl | h
      · exact .inr (by simp)
      · rcases ih h with h | h
        · exact .inl h
        · exact .inr (List.mem_cons_of_mem _ h)
    · split at h
      · rcases List.mem_cons.1 h with rfl | h
        · exact .inl rfl
        · exact .inr (List.mem_cons_of_mem _ h)
      · rcases List.mem_cons.1 h with rfl | h
        · exact .inl rfl
        · exact .inr h

theorem srt_put {l : List Stp} (s : Stp) (h : Srt l) : Srt (put l s) := by
  induction l with
  | nil => exact List.pairwise_singleton _ _
  | cons a r ih =>
    unfold put
    split
    · refine List.Pairwise.cons (fun b hb => ?_) (ih h.tail)
      rcases mem_put hb with rfl | hb
      · assumption
      · exact h.head b hb
    · split
      · rename_i h1 h2
        refine List.Pairwise.cons (fun b hb => ?_) h.tail
        have := h.head b hb
        omega
      · rename_i h1 h2
        refine List.Pairwise.cons (fun b hb => ?_) h
        rcases List.mem_cons.1 hb with rfl | hb
        · omega
        · have := h.head b hb
          omega

theorem lk_none {l : List Stp} {d : Int} (h : ∀ s ∈ l, s.1 ≠ d) : lk l d = none := by
  induction l with
  | nil => rfl
  | cons a r ih =>
    unfold lk
    rw [if_neg (h a (by simp)), ih fun s hs => h s (by simp [hs])]

theorem lk_put {l : List Stp} (s : Stp) (h : Srt l) (d : Int) : lk (put l s) d = if s.1 = d then some s.2 else lk l d := by
  induction l with
  | nil => simp [put, lk]
  | cons a r ih =>
    unfold put
    split
    · rename_i h1
      rw [lk, ih h.tail]
      by_cases h2 : a.1 = d
      · have : s.1 ≠ d := by omega
        simp [lk, h2, this]
      · simp [lk, h2]
    · split
      · rename_i h1 h2
        by_cases h3 : s.1 = d
        · simp [lk, h3]
        · have : a.1 ≠ d := by omega
          simp [lk, h3, this]
      · simp [lk]

theorem lk_mem {l : List Stp} (h : Srt l) {d x : Int} : lk l d = some x ↔ (d, x) ∈ l := by
  induction l with
  | nil => simp [lk]
  | cons a r ih =>
    by_cases h1 : a.1 = d
    · simp only [lk, h1, if_pos, Option.some.injEq, List.mem_cons]
      constructor
      · rintro rfl
        exact .inl (by rw [← h1])
      · rintro (h2 | h2)
        · rw [← h2]
        · have := h.head _ h2
          simp only at this
          omega
    · simp only [lk, h1, if_false, ih h.tail, List.mem_cons]
      constructor
      · exact .inr
      · rintro (h2 | h2)
        · exact absurd (by rw [← h2]) h1
        · exact h2

/-- Two rising rows with the same stamps are one. -/
theorem srt_ext : ∀ {l m : List Stp}, Srt l → Srt m → (∀ s, s ∈ l ↔ s ∈ m) → l = m
  | [], [], _, _, _ => rfl
  | [], b :: m, _, _, h => absurd ((h b).2 (by simp)) (by simp)
  | a :: l, [], _, _, h => absurd ((h a).1 (by simp)) (by simp)
  | a :: l, b :: m, hl, hm, h => by
    have hab : a = b := by
      rcases List.mem_cons.1 ((h a).1 (by simp)) with h1 | h1
      · exact h1
      · rcases List.mem_cons.1 ((h b).2 (by simp)) with h2 | h2
        · exact h2.symm
        · have h3 := hm.head a h1
          have h4 := hl.head b h2
          omega
    subst hab
    congr 1
    refine srt_ext hl.tail hm.tail fun s => ⟨fun hs => ?_, fun hs => ?_⟩
    · rcases List.mem_cons.1 ((h s).1 (List.mem_cons_of_mem _ hs)) with rfl | h1
      · have := hl.head _ hs
        omega
      · exact h1
    · rcases List.mem_cons.1 ((h s).2 (List.mem_cons_of_mem _ hs)) with rfl | h1
      · have := hm.head _ hs
        omega
      · exact h1

theorem put_same {l : List Stp} {d x : Int} (h : Srt l) (hx : lk l d = some x) : put l (d, x) = l := by
  refine srt_ext (srt_put _ h) h fun s => ?_
  rw [show s = (s.1, s.2) from rfl, ← lk_mem (srt_put _ h), ← lk_mem h, lk_put _ h]
  by_cases h1 : d = s.1
  · simp [← h1, hx]
  · simp [h1]

theorem srt_step {p : List Stp × Bool} (s : Stp) (h : Srt p.1) : Srt (step p s).1 := by
  unfold step
  split
  · exact srt_put _ h
  · split
    · exact h
    · exact srt_put _ h

theorem srt_joinTo {p : List Stp × Bool} (l : List Stp) (h : Srt p.1) : Srt (joinTo p l).1 := by
  induction l generalizing p with
  | nil => exact h
  | cons a r ih => exact ih (srt_step a h)

theorem lk_step {p : List Stp × Bool} (s : Stp) (h : Srt p.1) (d : Int) :
    lk (step p s).1 d = if s.1 = d then (match lk p.1 d with | none => some s.2 | some x => some (max x s.2)) else lk p.1 d := by
  unfold step
  split
  · rename_i h1
    rw [lk_put _ h]
    by_cases h2 : s.1 = d
    · subst h2
      simp [h1]
    · simp [h2]
  · rename_i x h1
    split
    · rename_i h2
      by_cases h3 : s.1 = d
      · subst h3
        simp [h1, h2]
      · simp [h3]
    · rw [lk_put _ h]
      by_cases h3 : s.1 = d
      · subst h3
        simp [h1]
      · simp [h3]

/-- What a join holds at a device: its greatest version. -/
def Top (f : List Stp) (d x : Int) : Prop := (d, x) ∈ f ∧ ∀ y, (d, y) ∈ f → y ≤ x

theorem Top.eq {f : List Stp} {d x y : Int} (h : Top f d x) (h' : Top f d y) : x = y := by
  have := h.2 _ h'.1
  have := h'.2 _ h.1
  omega

theorem lk_joinTo (l : List Stp) : ∀ {p : List Stp × Bool} {f : List Stp}, Srt p.1 → (∀ d x, lk p.1 d = some x ↔ Top f d x) → ∀ d x, lk (joinTo p l).1 d = some x ↔ Top (f ++ l) d x := by
  induction l with
  | nil => intro p f _ h d x; simpa [joinTo] using h d x
  | cons s r ih =>
    intro p f hs h d x
    have := ih (p := step p s) (f := f ++ [s]) (srt_step s hs) (fun d x => ?_) d x
    · simpa [joinTo] using this
    rw [lk_step s hs]
    by_cases h1 : s.1 = d
    · subst h1
      rw [if_pos rfl]
      cases h2 : lk p.1 s.1 with
      | none =>
        have hno : ∀ y, (s.1, y) ∈ f → False := by
          intro y hy
          -- some greatest one is there
          have : ∃ m, Top f s.1 m := by
            clear h ih h2
            induction f generalizing y with
            | nil => simp at hy
            | cons a f ihf =>
              by_cases h3 : ∃ z, (s.1, z) ∈ f
              · obtain ⟨z, hz⟩ := h3
                obtain ⟨m, hm⟩ := ihf z hz
                by_cases h4 : a.1 = s.1
                · by_cases h5 : a.2 ≤ m
                  · exact ⟨m, List.mem_cons_of_mem _ hm.1, fun w hw => by
                      rcases List.mem_cons.1 hw with h6 | h6
                      · rw [← h6] at h5; exact h5
                      · exact hm.2 w h6⟩
                  · refine ⟨a.2, ?_, fun w hw => ?_⟩
                    · rw [← h4]; simp
                    · rcases List.mem_cons.1 hw with h6 | h6
                      · rw [← h6]; exact Int.le_refl _
                      · have := hm.2 w h6; omega
                · refine ⟨m, List.mem_cons_of_mem _ hm.1, fun w hw => ?_⟩
                  rcases List.mem_cons.1 hw with h6 | h6
                  · exact absurd (by rw [← h6]) h4
                  · exact hm.2 w h6
              · refine ⟨y, hy, fun w hw => ?_⟩
                rcases List.mem_cons.1 hw with h6 | h6
                · rcases List.mem_cons.1 hy with h7 | h7
                  · have := h6.trans h7.symm; injection this with _ h8; omega
                  · exact absurd ⟨_, h7⟩ h3
                · exact absurd ⟨_, h6⟩ h3
          obtain ⟨m, hm⟩ := this
          rw [(h s.1 m).2 hm] at h2
          cases h2
        simp only [Option.some.injEq]
        constructor
        · rintro rfl
          refine ⟨by simp, fun y hy => ?_⟩
          rcases List.mem_append.1 hy with h3 | h3
          · exact (hno y h3).elim
          · simp only [List.mem_singleton] at h3
            rw [← h3]; exact Int.le_refl _
        · intro h3
          rcases List.mem_append.1 h3.1 with h4 | h4
          · exact (hno _ h4).elim
          · simp only [List.mem_singleton] at h4
            rw [← h4]
      | some z =>
        have hz := (h s.1 z).1 h2
        have ht : Top (f ++ [s]) s.1 (max z s.2) := by
          refine ⟨?_, fun y hy => ?_⟩
          · by_cases h3 : z ≤ s.2
            · rw [Int.max_eq_right h3]; simp
            · rw [Int.max_eq_left (by omega)]; simp [hz.1]
          · rcases List.mem_append.1 hy with h3 | h3
            · have := hz.2 y h3; omega
            · simp only [List.mem_singleton] at h3
              rw [← h3]; simp only; omega
        simp only [Option.some.injEq]
        constructor
        · rintro rfl; exact ht
        · intro h3; exact ht.eq h3
    · rw [if_neg h1, h d x]
      constructor
      · intro h3
        refine ⟨by simp [h3.1], fun y hy => ?_⟩
        rcases List.mem_append.1 hy with h4 | h4
        · exact h3.2 y h4
        · simp only [List.mem_singleton] at h4
          exact absurd (by rw [← h4]) h1
      · intro h3
        refine ⟨?_, fun y hy => h3.2 y (by simp [hy])⟩
        rcases List.mem_append.1 h3.1 with h4 | h4
        · exact h4
        · simp only [List.mem_singleton] at h4
          exact absurd (by rw [← h4]) h1

theorem joined_mem (l : List Stp) (d x : Int) : (d, x) ∈ (joinTo ([], true) l).1 ↔ Top l d x := by
  have h := lk_joinTo l (p := ([], true)) (f := []) List.Pairwise.nil (fun d x => by simp [lk, Top]) d x
  rw [lk_mem (srt_joinTo (p := ([], true)) l List.Pairwise.nil)] at h
  simpa using h

/-- Do all agree? -/
def Agree (f : List Stp) : Prop := ∀ d x y, (d, x) ∈ f → (d, y) ∈ f → x = y

theorem step_false {p : List Stp × Bool} (s : Stp) (h : p.2 = false) : (step p s).2 = false := by
  unfold step
  split
  · exact h
  · split
    · exact h
    · rfl

theorem joinTo_false (l : List Stp) : ∀ {p : List Stp × Bool}, p.2 = false → (joinTo p l).2 = false := by
  induction l with
  | nil => intro p h; exact h
  | cons a r ih => intro p h; exact ih (step_false a h)

theorem agree_joinTo (l : List Stp) : ∀ {p : List Stp × Bool} {f : List Stp}, Srt p.1 → p.2 = true → (∀ s, s ∈ p.1 ↔ s ∈ f) → ((joinTo p l).2 = true ↔ Agree (f ++ l)) := by
  induction l with
  | nil =>
    intro p f hs hp h
    simp only [joinTo, List.foldl_nil, hp, List.append_nil, true_iff]
    intro d x y hx hy
    have h1 := (lk_mem hs).2 ((h _).2 hx)
    have h2 := (lk_mem hs).2 ((h _).2 hy)
    rw [h1] at h2
    injection h2
  | cons s r ih =>
    intro p f hs hp h
    cases h1 : lk p.1 s.1 with
    | none =>
      have hst : step p s = (put p.1 s, p.2) := by unfold step; rw [h1]
      have := ih (p := step p s) (f := f ++ [s]) (srt_step s hs) (by rw [hst]; exact hp) (fun t => ?_)
      · simpa [joinTo] using this
      rw [hst]
      rw [show t = (t.1, t.2) from rfl, ← lk_mem (srt_put _ hs), lk_put _ hs]
      by_cases h2 : s.1 = t.1
      · rw [if_pos h2]
        constructor
        · intro h3
          injection h3 with h3
          have : s = (t.1, t.2) := Prod.ext h2 h3
          simp [← this]
        · intro h3
          rcases List.mem_append.1 h3 with h4 | h4
          · have := (lk_mem hs).2 ((h _).2 h4)
            rw [← h2, h1] at this
            cases this
          · simp only [List.mem_singleton] at h4
            rw [← h4]
      · rw [if_neg h2, lk_mem hs, h]
        constructor
        · intro h3; simp [h3]
        · intro h3
          rcases List.mem_append.1 h3 with h4 | h4
          · exact h4
          · simp only [List.mem_singleton] at h4
            exact absurd (by rw [← h4]) h2
    | some x =>
      by_cases h2 : x = s.2
      · have hst : step p s = p := by unfold step; rw [h1]; simp [h2]
        have := ih (p := step p s) (f := f ++ [s]) (srt_step s hs) (by rw [hst]; exact hp) (fun t => ?_)
        · simpa [joinTo] using this
        rw [hst, h]
        constructor
        · intro h3; simp [h3]
        · intro h3
          rcases List.mem_append.1 h3 with h4 | h4
          · exact h4
          · simp only [List.mem_singleton] at h4
            subst h4
            subst h2
            exact (h _).1 ((lk_mem hs).1 h1)
      · have hst : (step p s).2 = false := by unfold step; rw [h1]; simp [h2]
        have h3 : (joinTo p (s :: r)).2 = false := joinTo_false r hst
        rw [h3]
        simp only [Bool.false_eq_true, false_iff]
        intro h4
        exact h2 (h4 s.1 x s.2 (by simp [(h _).1 ((lk_mem hs).1 h1)]) (by simp))

theorem joined_agree (l : List Stp) : (joinTo ([], true) l).2 = true ↔ Agree l := by
  have := agree_joinTo l (p := ([], true)) (f := []) List.Pairwise.nil rfl (fun s => by simp)
  simpa using this

theorem joined_congr {l m : List Stp} (h : ∀ s, s ∈ l ↔ s ∈ m) : joinTo ([], true) l = joinTo ([], true) m := by
  have h1 : (joinTo ([], true) l).1 = (joinTo ([], true) m).1 := by
    refine srt_ext (srt_joinTo (p := ([], true)) l List.Pairwise.nil) (srt_joinTo (p := ([], true)) m List.Pairwise.nil) fun s => ?_
    rw [show s = (s.1, s.2) from rfl, joined_mem, joined_mem]
    simp only [Top, h]
  have h2 : (joinTo ([], true) l).2 = (joinTo ([], true) m).2 := by
    rw [Bool.eq_iff_iff, joined_agree, joined_agree]
    simp only [Agree, h]
  exact Prod.ext h1 h2

theorem pos_le : ∀ (l : List Stp) (d : Int), pos l d ≤ l.length
  | [], _ => Nat.zero_le _
  | a :: r, d => by
    unfold pos
    split
    · simpa using pos_le r d
    · exact Nat.zero_le _

theorem pos_lt : ∀ (l : List Stp) (d : Int) (i : Nat) (h : i < l.length), i < pos l d → l[i].1 < d
  | [], _, i, h, _ => absurd h (Nat.not_lt_zero i)
  | a :: r, d, i, h, hi => by
    unfold pos at hi
    split at hi
    · cases i with
      | zero => simpa
      | succ i => exact pos_lt r d i (by simpa using h) (by omega)
    · omega

theorem pos_ge : ∀ (l : List Stp) (d : Int), Srt l → ∀ (i : Nat) (h : i < l.length), pos l d ≤ i → d ≤ l[i].1
  | [], _, _, i, h, _ => absurd h (Nat.not_lt_zero i)
  | a :: r, d, hs, i, h, hi => by
    unfold pos at hi
    split at hi
    · cases i with
      | zero => omega
      | succ i => exact pos_ge r d hs.tail i (by simpa using h) (by omega)
    · cases i with
      | zero => simp; omega
      | succ i =>
        have := hs.head (r[i]'(by simpa using h)) (List.getElem_mem _)
        simp only [List.getElem_cons_succ]
        omega

/-- Where a halving search ends. -/
theorem pos_eq {l : List Stp} {d : Int} {n : Nat} (hs : Srt l) (hn : n ≤ l.length) (h1 : ∀ i (h : i < l.length), i < n → l[i].1 < d) (h2 : ∀ i (h : i < l.length), n ≤ i → d ≤ l[i].1) : n = pos l d := by
  have := pos_le l d
  rcases Nat.lt_trichotomy n (pos l d) with h | h | h
  · have h3 := pos_lt l d n (by omega) h
    have h4 := h2 n (by omega) (Nat.le_refl _)
    omega
  · exact h
  · have h3 := pos_ge l d hs (pos l d) (by omega) (Nat.le_refl _)
    have h4 := h1 (pos l d) (by omega) h
    omega

theorem lk_pos : ∀ (l : List Stp) (d : Int), Srt l → lk l d = if h : pos l d < l.length then (if l[pos l d].1 = d then some l[pos l d].2 else none) else none
  | [], _, _ => rfl
  | a :: r, d, hs => by
    by_cases h1 : a.1 < d
    · have h2 : a.1 ≠ d := by omega
      have ih := lk_pos r d hs.tail
      simp only [lk, h2, if_false, ih, pos, h1, if_true, List.length_cons, Nat.add_lt_add_iff_right, List.getElem_cons_succ]
    · by_cases h2 : a.1 = d
      · simp [lk, pos, h2]
      · have h3 : lk r d = none := lk_none fun s hs' => by have := hs.head s hs'; omega
        simp [lk, pos, h1, h2, h3]

theorem put_pos : ∀ (l : List Stp) (s : Stp), Srt l → lk l s.1 = none → l.take (pos l s.1) ++ s :: l.drop (pos l s.1) = put l s
  | [], _, _, _ => rfl
  | a :: r, s, hs, h => by
    by_cases h1 : a.1 < s.1
    · have h2 : a.1 ≠ s.1 := by omega
      simp only [lk, h2, if_false] at h
      simp [pos, put, h1, put_pos r s hs.tail h]
    · have h2 : a.1 ≠ s.1 := by
        intro e
        simp [lk, e] at h
      simp [pos, put, h1, h2]

theorem set_pos : ∀ (l : List Stp) (s : Stp) (x : Int), Srt l → lk l s.1 = some x → l.set (pos l s.1) s = put l s
  | [], _, _, _, h => by simp [lk] at h
  | a :: r, s, x, hs, h => by
    by_cases h1 : a.1 < s.1
    · have h2 : a.1 ≠ s.1 := by omega
      simp only [lk, h2, if_false] at h
      simp [pos, put, h1, set_pos r s x hs.tail h]
    · by_cases h2 : a.1 = s.1
      · simp [pos, put, h2]
      · have h3 : lk r s.1 = none := lk_none fun t ht => by have := hs.head t ht; omega
        simp only [lk, h2, if_false, h3] at h
        cases h

/-- The reference's way to put a stamp in. -/
def putR : List Stp → Stp → Bool → List Stp
  | [], s, d => if d then [] else [s]
  | t :: r, s, d => (if !d && decide (s.1 ≤ t.1) then [s] else []) ++ (if t.1 = s.1 then [] else [t]) ++ putR r s (d || decide (s.1 ≤ t.1))

theorem putR_done : ∀ (l : List Stp) (s : Stp), (∀ t ∈ l, s.1 < t.1) → putR l s true = l
  | [], _, _ => rfl
  | a :: r, s, h => by
    have := h a (by simp)
    have h2 : a.1 ≠ s.1 := by omega
    simp [putR, h2, putR_done r s fun t ht => h t (by simp [ht])]

theorem putR_put : ∀ (l : List Stp) (s : Stp), Srt l → putR l s false = put l s
  | [], _, _ => rfl
  | a :: r, s, hs => by
    by_cases h1 : a.1 < s.1
    · have h2 : ¬ s.1 ≤ a.1 := by omega
      have h3 : a.1 ≠ s.1 := by omega
      simp [putR, put, h1, h2, h3, putR_put r s hs.tail]
    · have h2 : s.1 ≤ a.1 := by omega
      by_cases h3 : a.1 = s.1
      · have := putR_done r s fun t ht => by have := hs.head t ht; omega
        simp [putR, put, h3, this]
      · have := putR_done r s fun t ht => by have := hs.head t ht; omega
        simp [putR, put, h1, h2, h3, this]

/-- The reference's join. -/
def stepR (out : List Stp) (s : Stp) : List Stp :=
  match lk out s.1 with
  | none => put out s
  | some n => if n < s.2 then put out s else out

theorem stepR_eq {p : List Stp × Bool} (s : Stp) (h : Srt p.1) : stepR p.1 s = (step p s).1 := by
  unfold stepR step
  cases h1 : lk p.1 s.1 with
  | none => rfl
  | some x =>
    simp only
    by_cases h2 : x = s.2
    · rw [if_neg (by omega), if_pos h2]
    · rw [if_neg h2]
      by_cases h3 : x < s.2
      · rw [if_pos h3]
        simp only
        rw [Int.max_eq_right (by omega)]
      · rw [if_neg h3]
        simp only
        rw [Int.max_eq_left (by omega)]
        exact (put_same h h1).symm

theorem joinR_eq (l : List Stp) : ∀ {p : List Stp × Bool}, Srt p.1 → l.foldl stepR p.1 = (joinTo p l).1 := by
  induction l with
  | nil => intro p _; rfl
  | cons s r ih =>
    intro p h
    rw [List.foldl_cons, stepR_eq s h, ih (srt_step s h)]
    rfl

/-- The reference's merge. -/
def mrgR : List Stp → List Stp → Option (List Stp)
  | out, [] => some out
  | out, s :: r =>
    match lk out s.1 with
    | some n => if n = s.2 then mrgR (put out s) r else none
    | none => mrgR (put out s) r

theorem mrgR_eq (l : List Stp) : ∀ {p : List Stp × Bool}, Srt p.1 → p.2 = true → mrgR p.1 l = if (joinTo p l).2 then some (joinTo p l).1 else none := by
  induction l with
  | nil => intro p _ h; simp [mrgR, joinTo, h]
  | cons s r ih =>
    intro p h hp
    unfold mrgR
    cases h1 : lk p.1 s.1 with
    | none =>
      have hst : step p s = (put p.1 s, p.2) := by unfold step; rw [h1]
      have := ih (p := step p s) (srt_step s h) (by rw [hst]; exact hp)
      rw [hst] at this
      simp only
      rw [this, show joinTo p (s :: r) = joinTo (step p s) r from rfl, hst]
    | some x =>
      simp only
      by_cases h2 : x = s.2
      · have hst : step p s = p := by unfold step; rw [h1]; simp [h2]
        have hput : put p.1 s = p.1 := by
          have := put_same h h1
          rwa [h2] at this
        have := ih (p := p) h hp
        rw [if_pos h2, hput, this, show joinTo p (s :: r) = joinTo (step p s) r from rfl, hst]
      · have hst : (step p s).2 = false := by unfold step; rw [h1]; simp [h2]
        have h3 : (joinTo p (s :: r)).2 = false := joinTo_false r hst
        rw [if_neg h2, h3]
        rfl
end Go.Proofs.YtlmpaeefhpahoaaDoor
