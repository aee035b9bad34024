/-
  Plain laws of a stable sort: insertion from the left, blocks, merges.
-/
import Derived.Sort.WalkA
import Derived.Sort.Lot0
import Derived.Test.YtlbelkjgaeaaeaaGreatProg
namespace Go.Proofs.YtlbelkjgaeaaeaaGreat
open Go.Sort
set_option linter.unusedVariables false
set_option linter.unusedSectionVars false
set_option linter.unusedSimpArgs false

namespace St
variable {α : Type} (lt : α → α → Bool)

/-- An element into a row, behind all that are not greater. -/
def insL : List α → α → List α
  | [], x => [x]
  | y :: s, x => if lt x y = true then x :: y :: s else y :: insL s x

/-- A row into a row. -/
def mrg (s t : List α) : List α := t.foldl (insL lt) s

/-- The stable order. -/
def isort (l : List α) : List α := mrg lt [] l

/-- Nothing stands behind a greater one. -/
def Srd (l : List α) : Prop := l.Pairwise fun a b => lt b a = false

theorem length_insL : ∀ (s : List α) (x : α), (insL lt s x).length = s.length + 1
  | [], _ => rfl
  | y :: s, x => by
    unfold insL
    split
    · rfl
    · simp [length_insL s x]

theorem length_mrg : ∀ (t s : List α), (mrg lt s t).length = s.length + t.length
  | [], s => rfl
  | x :: t, s => by
    show (mrg lt (insL lt s x) t).length = _
    rw [length_mrg t, length_insL, List.length_cons]
    omega

theorem length_isort (l : List α) : (isort lt l).length = l.length := by
  unfold isort
  rw [length_mrg]
  simp

theorem mem_insL : ∀ {s : List α} {x y : α}, y ∈ insL lt s x ↔ y = x ∨ y ∈ s
  | [], x, y => by simp [insL]
  | z :: s, x, y => by
    unfold insL
    split
    · simp
    · rw [List.mem_cons, mem_insL, List.mem_cons]
      constructor
      · rintro (h | h | h)
        · exact .inr (.inl h)
        · exact .inl h
        · exact .inr (.inr h)
      · rintro (h | h | h)
        · exact .inr (.inl h)
        · exact .inl h
        · exact .inr (.inr h)

theorem mem_mrg : ∀ {t s : List α} {y : α}, y ∈ mrg lt s t ↔ y ∈ s ∨ y ∈ t
  | [], s, y => by show y ∈ s ↔ _; simp
  | x :: t, s, y => by
    show y ∈ mrg lt (insL lt s x) t ↔ _
    rw [mem_mrg, mem_insL, List.mem_cons]
    constructor
    · rintro ((h | h) | h)
      · exact .inr (.inl h)
      · exact .inl h
      · exact .inr (.inr h)
    · rintro (h | h | h)
      · exact .inl (.inr h)
      · exact .inl (.inl h)
      · exact .inr h

theorem mem_isort {l : List α} {y : α} : y ∈ isort lt l ↔ y ∈ l := by
  unfold isort
  rw [mem_mrg]
  simp

variable {lt}
variable (hO : SWO lt)
include hO

theorem asym {x y : α} (h : lt x y = true) : lt y x = false := by
  cases h2 : lt y x with
  | false => rfl
  | true =>
    have := hO.trans _ _ _ h h2
    rw [hO.irrefl] at this
    cases this

theorem srd_insL : ∀ {s : List α} {x : α}, Srd lt s → Srd lt (insL lt s x)
  | [], x, _ => List.pairwise_singleton _ _
  | y :: s, x, h => by
    have hy := List.pairwise_cons.1 h
    unfold insL
    split
    · rename_i hxy
      refine List.pairwise_cons.2 ⟨fun z hz => ?_, h⟩
      rcases List.mem_cons.1 hz with rfl | hz
      · exact asym hO hxy
      · cases hzx : lt z x with
        | false => rfl
        | true =>
          have h1 := hO.trans _ _ _ hzx hxy
          rw [hy.1 z hz] at h1
          cases h1
    · rename_i hxy
      refine List.pairwise_cons.2 ⟨fun z hz => ?_, srd_insL hy.2⟩
      rcases (mem_insL lt).1 hz with rfl | hz
      · simpa using hxy
      · exact hy.1 z hz

theorem srd_mrg : ∀ {t s : List α}, Srd lt s → Srd lt (mrg lt s t)
  | [], _, h => h
  | x :: t, s, h => srd_mrg (t := t) (srd_insL hO h)

theorem srd_isort (l : List α) : Srd lt (isort lt l) := srd_mrg hO List.Pairwise.nil

omit hO in
/-- Ahead of all that are greater. -/
theorem insL_left : ∀ {s t : List α} {x : α}, (∀ y ∈ t, lt x y = true) → insL lt (s ++ t) x = insL lt s x ++ t
  | [], [], x, _ => rfl
  | [], y :: t, x, h => by
    show insL lt (y :: t) x = x :: y :: t
    rw [insL, if_pos (h y (by simp))]
  | z :: s, t, x, h => by
    rw [List.cons_append, insL, insL]
    split
    · rfl
    · rw [insL_left h]; rfl

omit hO in
/-- Behind all that are not greater. -/
theorem insL_right : ∀ {s t : List α} {x : α}, (∀ y ∈ s, lt x y = false) → insL lt (s ++ t) x = s ++ insL lt t x
  | [], t, x, _ => rfl
  | z :: s, t, x, h => by
    rw [List.cons_append, insL, if_neg (by rw [h z (by simp)]; simp), insL_right (fun y hy => h y (by simp [hy]))]
    rfl

omit hO in
theorem insL_end {s : List α} {x : α} (h : ∀ y ∈ s, lt x y = false) : insL lt s x = s ++ [x] := by
  have := insL_right (t := []) h
  simpa [insL] using this

omit hO in
theorem mrg_left : ∀ {v s t : List α}, (∀ x ∈ v, ∀ y ∈ t, lt x y = true) → mrg lt (s ++ t) v = mrg lt s v ++ t
  | [], _, _, _ => rfl
  | x :: v, s, t, h => by
    show mrg lt (insL lt (s ++ t) x) v = mrg lt (insL lt s x) v ++ t
    rw [insL_left (h x (by simp)), mrg_left (fun z hz => h z (by simp [hz]))]

omit hO in
theorem mrg_right : ∀ {v s t : List α}, (∀ x ∈ v, ∀ y ∈ s, lt x y = false) → mrg lt (s ++ t) v = s ++ mrg lt t v
  | [], _, _, _ => rfl
  | x :: v, s, t, h => by
    show mrg lt (insL lt (s ++ t) x) v = s ++ mrg lt (insL lt t x) v
    rw [insL_right (h x (by simp)), mrg_right (fun z hz => h z (by simp [hz]))]

/-- What is in order stays. -/
theorem mrg_nil : ∀ {v s : List α}, Srd lt (s ++ v) → mrg lt s v = s ++ v
  | [], s, _ => by show s = _; simp
  | x :: v, s, h => by
    show mrg lt (insL lt s x) v = _
    rw [insL_end (fun y hy => (List.pairwise_append.1 h).2.2 y hy x (by simp)), mrg_nil (s := s ++ [x]) (by simpa using h)]
    simp

theorem isort_srd {l : List α} (h : Srd lt l) : isort lt l = l := mrg_nil hO (s := []) h

theorem mrg_nil_left {v : List α} (h : Srd lt v) : mrg lt [] v = v := isort_srd hO h

omit hO in
theorem mrg_append (s t v : List α) : mrg lt s (t ++ v) = mrg lt (mrg lt s t) v := by
  unfold mrg
  rw [List.foldl_append]

/-- A greater one may go in ahead or behind. -/
theorem insL_comm {x y : α} (h : lt x y = true) : ∀ (s : List α), insL lt (insL lt s x) y = insL lt (insL lt s y) x
  | [] => by
    have h2 := asym hO h
    simp [insL, h, h2]
  | z :: s => by
    have h2 := asym hO h
    have ih := insL_comm h s
    by_cases hxz : lt x z = true
    · have e1 : insL lt (z :: s) x = x :: z :: s := by rw [insL, if_pos hxz]
      rw [e1, insL, if_neg (by rw [h2]; simp)]
      by_cases hyz : lt y z = true
      · rw [insL, if_pos hyz, insL, if_pos h]
      · rw [insL, if_neg hyz, insL, if_pos hxz]
    · have e1 : insL lt (z :: s) x = z :: insL lt s x := by rw [insL, if_neg hxz]
      have hyz : ¬ lt y z = true := fun h3 => hxz (hO.trans _ _ _ h h3)
      rw [e1, insL, if_neg hyz, ih]
      conv => rhs; rw [insL, if_neg hyz]
      rw [insL, if_neg hxz]

theorem mrg_insL {x : α} : ∀ {t s : List α}, (∀ y ∈ t, lt x y = true) → mrg lt (insL lt s x) t = insL lt (mrg lt s t) x
  | [], _, _ => rfl
  | y :: t, s, h => by
    show mrg lt (insL lt (insL lt s x) y) t = insL lt (mrg lt (insL lt s y) t) x
    rw [insL_comm hO (h y (by simp)), mrg_insL (fun z hz => h z (by simp [hz]))]

omit hO in
theorem insL_cut : ∀ (t : List α) (x : α), ∃ a b, t = a ++ b ∧ insL lt t x = a ++ x :: b ∧ (∀ y ∈ a, lt x y = false) ∧ (b = [] ∨ ∃ z r, b = z :: r ∧ lt x z = true)
  | [], x => ⟨[], [], rfl, rfl, by simp, .inl rfl⟩
  | y :: t, x => by
    by_cases h : lt x y = true
    · exact ⟨[], y :: t, rfl, by rw [insL, if_pos h]; rfl, by simp, .inr ⟨y, t, rfl, h⟩⟩
    · obtain ⟨a, b, rfl, h2, h3, h4⟩ := insL_cut t x
      refine ⟨y :: a, b, rfl, by rw [insL, if_neg h, h2]; rfl, ?_, h4⟩
      intro z hz
      rcases List.mem_cons.1 hz with rfl | hz
      · simpa using h
      · exact h3 z hz

theorem mrg_insL_row {t s : List α} {x : α} (ht : Srd lt t) : mrg lt s (insL lt t x) = insL lt (mrg lt s t) x := by
  obtain ⟨a, b, rfl, h2, h3, h4⟩ := insL_cut (lt := lt) t x
  have hb : ∀ y ∈ b, lt x y = true := by
    rcases h4 with rfl | ⟨z, r, rfl, hz⟩
    · simp
    · intro y hy
      rcases List.mem_cons.1 hy with rfl | hy
      · exact hz
      · have h5 := (List.pairwise_append.1 ht).2.1
        have h6 := (List.pairwise_cons.1 h5).1 y hy
        cases hc : lt x y with
        | true => rfl
        | false =>
          have := hO.ntrans _ _ _ hc h6
          rw [hz] at this
          cases this
  rw [h2, mrg_append, mrg_append]
  show mrg lt (insL lt (mrg lt s a) x) b = _
  exact mrg_insL hO hb

/-- To merge what is sorted is to sort. -/
theorem mrg_isort (s l : List α) : mrg lt s (isort lt l) = mrg lt s l := by
  have key : ∀ (l t : List α), Srd lt t → mrg lt s (mrg lt t l) = mrg lt (mrg lt s t) l := by
    intro l
    induction l with
    | nil => intro t _; rfl
    | cons x l ih =>
      intro t ht
      show mrg lt s (mrg lt (insL lt t x) l) = mrg lt (insL lt (mrg lt s t) x) l
      rw [ih _ (srd_insL hO ht), mrg_insL_row hO ht]
  exact key l [] List.Pairwise.nil

theorem isort_append (a b : List α) : mrg lt (isort lt a) (isort lt b) = isort lt (a ++ b) := by
  rw [mrg_isort hO]
  unfold isort
  rw [mrg_append]

/-! ### Blocks -/

omit hO in
/-- Blocks of one length, each in order. -/
def blocks (lt : α → α → Bool) (bs : Nat) (l : List α) : List α :=
  if h : bs = 0 ∨ l.length ≤ bs then isort lt l else isort lt (l.take bs) ++ blocks lt bs (l.drop bs)
termination_by l.length
decreasing_by simp; omega

omit hO in
theorem blocks_short {bs : Nat} {l : List α} (h : l.length ≤ bs) : blocks lt bs l = isort lt l := by
  unfold blocks
  rw [dif_pos (.inr h)]

omit hO in
theorem blocks_cut {bs : Nat} {a b : List α} (h0 : 0 < bs) (h : a.length = bs) (hb : b ≠ []) : blocks lt bs (a ++ b) = isort lt a ++ blocks lt bs b := by
  have hl := List.length_pos_iff.2 hb
  conv => lhs; unfold blocks
  rw [dif_neg (by simp; omega)]
  rw [List.take_left' h, List.drop_left' h]

omit hO in
theorem isort_nil : isort lt [] = [] := rfl

omit hO in
theorem blocks_nil {bs : Nat} : blocks lt bs [] = [] := by
  rw [blocks_short (by simp)]
  rfl

omit hO in
theorem blocks_cut' {bs : Nat} {a b : List α} (h0 : 0 < bs) (h : a.length = bs) : blocks lt bs (a ++ b) = isort lt a ++ blocks lt bs b := by
  by_cases hb : b = []
  · subst hb
    rw [List.append_nil, blocks_short (by omega), blocks_nil, List.append_nil]
  · exact blocks_cut h0 h hb

omit hO in
theorem length_blocks (bs : Nat) : ∀ (l : List α), (blocks lt bs l).length = l.length := by
  intro l
  induction hn : l.length using Nat.strongRecOn generalizing l with
  | _ n ih =>
    unfold blocks
    split
    · rw [length_isort]; exact hn
    · rename_i h
      rw [List.length_append, length_isort, ih (l.drop bs).length (by simp; omega) _ rfl]
      simp
      omega

/-! ### What a merge in place does -/

/-- The two halves of a merge. -/
theorem mrg_halves {u1 u2 v1 v2 : List α} (hl : Srd lt (u1 ++ u2)) (hr : Srd lt (v1 ++ v2)) (h1 : ∀ x ∈ v1, ∀ y ∈ u2, lt x y = true) (h2 : ∀ x ∈ v2, ∀ y ∈ u1, lt x y = false) :
    mrg lt (u1 ++ u2) (v1 ++ v2) = mrg lt u1 v1 ++ mrg lt u2 v2 := by
  rw [mrg_append, mrg_left h1]
  refine mrg_right fun x hx y hy => ?_
  rcases (mem_mrg lt).1 hy with hy | hy
  · exact h2 x hx y hy
  · exact (List.pairwise_append.1 hr).2.2 y hy x hx

/-! ### Insertion, as the program does it -/

section ins
variable [Inhabited α]

omit hO in
theorem get_toArray (l : List α) (i : Nat) : l.toArray[i]! = l[i]! := by simp

omit hO in
theorem swp_list (p : List α) (x : α) (m : List α) (y : α) (q : List α) : swp (p ++ x :: (m ++ y :: q)).toArray p.length (p.length + 1 + m.length) = (p ++ y :: (m ++ x :: q)).toArray := by
  unfold swp
  have e1 : (p ++ x :: (m ++ y :: q)).toArray[p.length]! = x := by simp
  have e2 : (p ++ x :: (m ++ y :: q)).toArray[p.length + 1 + m.length]! = y := by
    simp [List.getElem?_append_right, Nat.add_assoc, Nat.add_comm 1]
  rw [e1, e2]
  apply Array.ext'
  simp only [Array.toList_setIfInBounds]
  rw [List.set_append_right _ _ (by omega), Nat.sub_self, List.set_cons_zero, List.set_append_right _ _ (by omega), show p.length + 1 + m.length - p.length = m.length + 1 by omega, List.set_cons_succ, List.set_append_right _ _ (by omega), Nat.sub_self, List.set_cons_zero]

omit hO in
theorem swp_pair (p : List α) (y x : α) (q : List α) : swp (p ++ y :: x :: q).toArray (p.length + 1) p.length = (p ++ x :: y :: q).toArray := by
  unfold swp
  have e1 : (p ++ y :: x :: q).toArray[p.length]! = y := by simp
  have e2 : (p ++ y :: x :: q).toArray[p.length + 1]! = x := by simp [List.getElem?_append_right]
  rw [e1, e2]
  apply Array.ext'
  simp only [Array.toList_setIfInBounds]
  rw [List.set_append_right _ _ (by omega), show p.length + 1 - p.length = 1 by omega, List.set_cons_succ, List.set_cons_zero, List.set_append_right _ _ (by omega), Nat.sub_self, List.set_cons_zero]

theorem insL_snoc {s : List α} {x y : α} (hs : Srd lt (s ++ [y])) : insL lt (s ++ [y]) x = if lt x y = true then insL lt s x ++ [y] else s ++ [y, x] := by
  split
  · rename_i h
    exact insL_left (by intro z hz; simp at hz; subst hz; exact h)
  · rename_i h
    rw [insL_end]
    · simp
    · intro z hz
      rcases List.mem_append.1 hz with hz | hz
      · refine hO.ntrans _ y _ (by simpa using h) ?_
        exact (List.pairwise_append.1 hs).2.2 z hz y (by simp)
      · simp at hz; subst hz; simpa using h

theorem insInner_list (p : List α) : ∀ (n : Nat) (s : List α) (x : α) (q : List α), s.length = n → Srd lt s → insInner lt p.length (p.length + n) (p ++ s ++ x :: q).toArray = (p ++ insL lt s x ++ q).toArray := by
  intro n
  induction n with
  | zero =>
    intro s x q hn _
    obtain rfl := List.length_eq_zero_iff.1 hn
    rw [Nat.add_zero, insInner_stop _ _ _ _ (.inl (Nat.le_refl _))]
    simp [insL]
  | succ n ih =>
    intro s x q hn hs
    rcases List.eq_nil_or_concat s with rfl | ⟨s', y, rfl⟩
    · simp at hn
    · rw [List.concat_eq_append] at hn hs ⊢
      have hn' : s'.length = n := by simpa using hn
      have e1 : (p ++ (s' ++ [y]) ++ x :: q).toArray[p.length + (n + 1)]! = x := by
        rw [get_toArray]
        have : p ++ (s' ++ [y]) ++ x :: q = (p ++ (s' ++ [y])) ++ x :: q := rfl
        simp [List.getElem?_append_right, hn']
      have e2 : (p ++ (s' ++ [y]) ++ x :: q).toArray[p.length + (n + 1) - 1]! = y := by
        rw [get_toArray]
        simp [List.getElem?_append_right, hn', Nat.add_sub_cancel]
      rw [insL_snoc hO hs]
      by_cases h : lt x y = true
      · rw [insInner_go _ _ _ _ (by omega) (by rw [e1, e2]; exact h), if_pos h]
        have e3 : (p ++ (s' ++ [y]) ++ x :: q) = (p ++ s') ++ y :: x :: q := by simp
        have e4 : p.length + (n + 1) = (p ++ s').length + 1 := by simp; omega
        rw [e3, e4, Nat.add_sub_cancel, swp_pair (p ++ s') y x q]
        have := ih s' x (y :: q) hn' (List.pairwise_append.1 hs).1
        rw [show (p ++ s').length = p.length + n by simp; omega, show (p ++ s') ++ x :: y :: q = p ++ s' ++ x :: (y :: q) by simp, this]
        simp
      · rw [insInner_stop _ _ _ _ (.inr (by rw [e1, e2]; simpa using h)), if_neg h]
        simp

theorem insOuter_list (p : List α) (b : Nat) : ∀ (l s : List α) (q : List α), Srd lt s → b = p.length + s.length + l.length → insOuter lt p.length b (p.length + s.length) (p ++ s ++ (l ++ q)).toArray = (p ++ mrg lt s l ++ q).toArray
  | [], s, q, _, hb => by
    rw [insOuter_stop _ _ _ _ _ (by simp at hb; omega)]
    rfl
  | x :: l, s, q, hs, hb => by
    rw [insOuter_go _ _ _ _ _ (by simp at hb; omega)]
    have := insInner_list hO p s.length s x (l ++ q) rfl hs
    rw [show (x :: l) ++ q = x :: (l ++ q) from rfl, this]
    have ih := insOuter_list p b l (insL lt s x) q (srd_insL hO hs) (by rw [length_insL]; simp at hb; omega)
    rw [length_insL] at ih
    exact ih

/-- The insertion sort of a block. -/
theorem insertionSort_list (p l q : List α) : insertionSort lt (p ++ l ++ q).toArray p.length (p.length + l.length) = (p ++ isort lt l ++ q).toArray := by
  unfold insertionSort
  cases l with
  | nil =>
    rw [insOuter_stop _ _ _ _ _ (by simp)]
    rfl
  | cons x l =>
    have := insOuter_list hO p (p.length + (l.length + 1)) l [x] q (List.pairwise_singleton _ _) (by simp; omega)
    simp only [List.length_cons, List.length_nil, Nat.zero_add] at this ⊢
    rw [show p ++ x :: l ++ q = p ++ [x] ++ (l ++ q) by simp, this]
    rfl
end ins
end St
end Go.Proofs.YtlbelkjgaeaaeaaGreat
