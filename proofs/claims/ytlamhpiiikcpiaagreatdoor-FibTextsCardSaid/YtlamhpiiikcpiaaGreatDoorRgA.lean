/-
  Plain laws on cubes as lists of bytes; no program here.
-/
import Derived.Lib.Bytealg
import Derived.Lib.IndexLaws
import Derived.WalkKit
import Derived.Lib.SlicesCompact
import Derived.Sort.WalkA
import Derived.Sort.Lot0
import Derived.Test.YtlamhpiiikcpiaaGreatDoorProg
namespace Go.Proofs.YtlamhpiiikcpiaaGreatDoor.Cb
/-- All bytes among some, 1 to 128 of them. -/
def ofB (s kinds : List UInt8) : Bool := decide (1 ≤ s.length) && decide (s.length ≤ 128) && s.all (fun c => kinds.contains c)
theorem indexByte_lt (l : List UInt8) (c : UInt8) : (Lib.indexByte l c < 0) ↔ l.contains c = false := by
  induction l with
  | nil => simp [Lib.indexByte]
  | cons b l ih =>
    have hg := Lib.indexByte_ge l c
    unfold Lib.indexByte
    by_cases h : b = c
    · subst h; simp
    · have hb : (b == c) = false := by simpa using h
      have hc : (c == b) = false := by simpa using fun e => h e.symm
      simp only [hb, Bool.false_eq_true, if_false, List.contains_cons, hc, Bool.false_or]
      rw [← ih]
      by_cases h1 : Lib.indexByte l c = -1
      · simp [h1]
      · have h2 : (Lib.indexByte l c == -1) = false := by simpa using h1
        simp only [h2, Bool.false_eq_true, if_false]
        omega
/-- Is a text a cube? -/
def isCube (s : List UInt8) : Bool := ofB s [48, 49, 120]
/-- Is a text a header? -/
def isHead (s : List UInt8) : Bool := ofB s [48, 49]
/-- Why several texts are refused: 0: they are not. -/
def wrong (l : List (List UInt8)) : Int :=
  if l.all isCube then (if l.all (fun s => s.length == (l.headD []).length) then 0 else 11) else 10
/-- The first that a test refuses. -/
theorem first_false {α : Type} (p : α → Bool) : ∀ (l : List α), l.all p = false → ∃ m, ∃ h : m < l.length, p l[m] = false ∧ ∀ i (hi : i < m), p (l[i]'(by omega)) = true
  | [], h => by simp at h
  | a :: l, h => by
    by_cases ha : p a = true
    · have h' : l.all p = false := by simpa [ha] using h
      obtain ⟨m, hm, h1, h2⟩ := first_false p l h'
      refine ⟨m + 1, by simpa using hm, by simpa using h1, fun i hi => ?_⟩
      cases i with
      | zero => simpa using ha
      | succ i => simpa using h2 i (by omega)
    · exact ⟨0, by simp, by simpa using ha, fun i hi => by omega⟩
theorem all_get {α : Type} {p : α → Bool} {l : List α} (h : l.all p = true) (i : Nat) (hi : i < l.length) : p l[i] = true :=
  List.all_eq_true.1 h _ (List.getElem_mem hi)
theorem wrong_two {a b : List UInt8} (h : wrong [a, b] = 0) : isCube a = true ∧ isCube b = true ∧ b.length = a.length := by
  unfold wrong at h
  simp only [List.all_cons, List.all_nil, Bool.and_true, List.headD_cons, beq_self_eq_true, Bool.true_and, Bool.and_eq_true, beq_iff_eq] at h
  split at h
  · rename_i h1
    split at h
    · rename_i h2; exact ⟨h1.1, h1.2, h2⟩
    · cases h
  · cases h
/-- One byte of what two have in common. -/
def mb (x y : UInt8) : UInt8 := if x == 120 then y else x
/-- Do two bytes meet? -/
def ok2 (x y : UInt8) : Bool := x == 120 || y == 120 || y == x
/-- What two cubes, as wide as one another, have in common. -/
def meet (a b : List UInt8) : Option (List UInt8) := if (a.zip b).all (fun p => ok2 p.1 p.2) then some (List.zipWith mb a b) else none
/-- The other bit. -/
def other (y : UInt8) : UInt8 := if y == 49 then 48 else 49
/-- The part of a cut at one place, if there is one. -/
def cutAt (a b m : List UInt8) (i : Nat) : Option (List UInt8) :=
  if a.getD i 0 == 120 && b.getD i 0 != 120 then some (m.take i ++ [other (b.getD i 0)] ++ a.drop (i + 1)) else none
/-- The parts up to a place. -/
def cutTo (a b m : List UInt8) (n : Nat) : List (List UInt8) := (List.range n).filterMap (cutAt a b m)
/-- What is left of one cube without another one. -/
def cut (a b : List UInt8) : List (List UInt8) := match meet a b with | none => [a] | some m => cutTo a b m a.length
end Go.Proofs.YtlamhpiiikcpiaaGreatDoor.Cb
/-
  Rules as plain data: names, ports, actions, what may be; no program here.
-/
namespace Go.Proofs.YtlamhpiiikcpiaaGreatDoor
/-- A rule: its priority, its match, its action's kind and ports. -/
structure Rl where
  p : Int
  m : ByteArray
  k : Int
  ps : List ByteArray
deriving Inhabited
namespace Rp
def isDigit (c : UInt8) : Bool := decide (48 ≤ c.toNat) && decide (c.toNat ≤ 57)
def isLetter (c : UInt8) : Bool := (decide (97 ≤ c.toNat) && decide (c.toNat ≤ 122)) || (decide (65 ≤ c.toNat) && decide (c.toNat ≤ 90)) || isDigit c || c == 95 || c == 45
/-- Is a text a name? -/
def nameB (s : List UInt8) : Bool := decide (1 ≤ s.length) && decide (s.length ≤ 64) && !isDigit (s.headD 0) && s.headD 0 != 45 && s.all isLetter
/-- Does one text stand ahead of another one? -/
def lessB (a b : ByteArray) : Bool := Op.bytesLess a.toList b.toList
/-- Is the port at a place a name, and behind the one ahead of it? -/
def okAt (ps : List ByteArray) (i : Nat) : Bool := nameB (ps.getD i ⟨#[]⟩).data.toList && (i == 0 || lessB (ps.getD (i - 1) ⟨#[]⟩) (ps.getD i ⟨#[]⟩))
def portsB (ps : List ByteArray) : Bool := (List.range ps.length).all (okAt ps) && decide (1 ≤ ps.length) && decide (ps.length ≤ 64)
/-- May an action be? -/
def actionB (k : Int) (ps : List ByteArray) : Bool := if k = 1 ∨ k = 2 then decide (ps.length = 0) else if k = 3 ∨ k = 4 then portsB ps else false
/-- Why a rule is refused; 0: it is not. -/
def checkR (r : Rl) (width : Int) : Int :=
  if width < 1 ∨ width > 128 ∨ r.p < 0 ∨ r.p > 2147483647 then 1
  else if Cb.isCube r.m.data.toList = false then 10
  else if ¬ ((r.m.size : Int) = width) then 11
  else if actionB r.k r.ps = false then 51 else 0
theorem range_all_succ (n : Nat) (f : Nat → Bool) : (List.range (n + 1)).all f = ((List.range n).all f && f n) := by
  rw [List.range_succ]; simp
theorem range_all_false {n i : Nat} {f : Nat → Bool} (h : i < n) (hf : f i = false) : (List.range n).all f = false := by
  rw [List.all_eq_false]
  exact ⟨i, List.mem_range.2 h, by simp [hf]⟩
/-- What is known of a rule's sizes. -/
structure Sz (r : Rl) : Prop where
  m : r.m.size ≤ 140737488351232
  n : r.ps.length * 16 ≤ 140737488351232
  s : ∀ x ∈ r.ps, x.size ≤ 140737488351232
end Rp
end Go.Proofs.YtlamhpiiikcpiaaGreatDoor
/-
  Texts as lines and words, as plain data; no program here.
-/
namespace Go.Proofs.YtlamhpiiikcpiaaGreatDoor
set_option linter.unusedSimpArgs false
/-- A word: its text, its line, its column. -/
structure Wrd where
  t : ByteArray
  l : Nat
  c : Nat
deriving Inhabited
namespace Wd
def mkB (l : List UInt8) : ByteArray := ⟨l.toArray⟩
theorem mkB_list (l : List UInt8) : (mkB l).data.toList = l := by simp [mkB]
theorem mkB_of (s : ByteArray) : mkB s.data.toList = s := by simp [mkB]
theorem mkB_inj {a b : List UInt8} (h : mkB a = mkB b) : a = b := by have := congrArg (fun s => s.data.toList) h; simpa [mkB] using this
theorem mkB_size (l : List UInt8) : (mkB l).size = l.length := by simp [mkB, ByteArray.size]
def singles : List UInt8 := [40, 41, 44, 124, 42, 43, 63, 46, 36, 61, 60, 62]
def isSingle (c : UInt8) : Bool := singles.contains c
def isPair (l : List UInt8) : Bool := l == [61, 61] || l == [60, 61] || l == [62, 61] || l == [45, 62]
def arrow (l : List UInt8) : Bool := l.take 2 == [45, 62]
/-- How many letters stand ahead. -/
def lets : List UInt8 → Nat
  | [] => 0
  | c :: t => if Rp.isLetter c && !arrow (c :: t) then lets t + 1 else 0
/-- How many bytes the word has that begins here; 0: none does. -/
def size (l : List UInt8) : Nat := if isPair (l.take 2) then 2 else if isSingle (l.headD 0) then 1 else lets l
/-- A line's words, from a place on; or the place of the byte at fault. -/
def lineF (num : Nat) : Nat → List UInt8 → Nat → Except Nat (List Wrd)
  | 0, _, _ => .ok []
  | _ + 1, [], _ => .ok []
  | f + 1, c :: t, at_ =>
    if c = 35 then .ok []
    else if c = 32 ∨ c = 9 then lineF num f t (at_ + 1)
    else if size (c :: t) = 0 then .error at_
    else (lineF num f ((c :: t).drop (size (c :: t))) (at_ + size (c :: t))).map (⟨mkB ((c :: t).take (size (c :: t))), num, at_ + 1⟩ :: ·)
def line (num : Nat) (l : List UInt8) (at_ : Nat) : Except Nat (List Wrd) := lineF num l.length l at_
theorem lineF_fuel (num : Nat) : ∀ (f g : Nat) (l : List UInt8) (at_ : Nat), l.length ≤ f → l.length ≤ g → lineF num f l at_ = lineF num g l at_ := by
  intro f
  induction f with
  | zero =>
    intro g l at_ hf _
    have : l = [] := List.length_eq_zero_iff.1 (by omega)
    subst this
    cases g <;> rfl
  | succ f ih =>
    intro g l at_ hf hg
    cases l with
    | nil => cases g <;> rfl
    | cons c t =>
      cases g with
      | zero => simp at hg
      | succ g =>
        simp only [List.length_cons] at hf hg
        simp only [lineF]
        rw [ih g t (at_ + 1) (by omega) (by omega)]
        by_cases h0 : size (c :: t) = 0
        · simp [h0]
        · rw [ih g ((c :: t).drop (size (c :: t))) (at_ + size (c :: t)) (by simp; omega) (by simp; omega)]
theorem line_nil (num at_ : Nat) : line num [] at_ = .ok [] := rfl
theorem line_hash (num at_ : Nat) (t : List UInt8) : line num (35 :: t) at_ = .ok [] := by simp [line, lineF]
theorem line_blank (num at_ : Nat) (c : UInt8) (t : List UInt8) (h : c = 32 ∨ c = 9) : line num (c :: t) at_ = line num t (at_ + 1) := by
  have h35 : ¬ c = 35 := by rcases h with rfl | rfl <;> decide
  simp [line, lineF, h, h35]
theorem line_bad (num at_ : Nat) (c : UInt8) (t : List UInt8) (h35 : ¬ c = 35) (hb : ¬ (c = 32 ∨ c = 9)) (h0 : size (c :: t) = 0) : line num (c :: t) at_ = .error at_ := by
  simp only [line, List.length_cons, lineF, if_neg h35, if_neg hb, if_pos h0]
theorem line_word (num at_ : Nat) (c : UInt8) (t : List UInt8) (h35 : ¬ c = 35) (hb : ¬ (c = 32 ∨ c = 9)) (h0 : ¬ size (c :: t) = 0) :
    line num (c :: t) at_ = (line num ((c :: t).drop (size (c :: t))) (at_ + size (c :: t))).map (⟨mkB ((c :: t).take (size (c :: t))), num, at_ + 1⟩ :: ·) := by
  simp only [line, List.length_cons, lineF, if_neg h35, if_neg hb, if_neg h0]
  rw [lineF_fuel num t.length ((c :: t).drop (size (c :: t))).length _ _ (by simp; omega) (Nat.le_refl _)]
/-- The lines of a text. -/
def split : List UInt8 → List (List UInt8)
  | [] => [[]]
  | c :: t => if c = 10 then [] :: split t else (c :: (split t).headD []) :: (split t).tail
theorem split_ne (l : List UInt8) : split l ≠ [] := by
  cases l with
  | nil => simp [split]
  | cons c t => simp only [split]; split <;> simp
theorem split_none : ∀ (l : List UInt8), (10 : UInt8) ∉ l → split l = [l]
  | [], _ => rfl
  | c :: t, h => by
    have h1 : ¬ c = 10 := fun e => h (by simp [e])
    have h2 := split_none t (fun e => h (by simp [e]))
    simp [split, h1, h2]
theorem split_some : ∀ (a b : List UInt8), (10 : UInt8) ∉ a → split (a ++ 10 :: b) = a :: split b
  | [], b, _ => by simp [split]
  | c :: t, b, h => by
    have h1 : ¬ c = 10 := fun e => h (by simp [e])
    have h2 := split_some t b (fun e => h (by simp [e]))
    simp [split, h1, h2]
/-- The words of lines, from a line's number on; or the line and the place of the byte at fault. -/
def rows : List (List UInt8) → Nat → Except (Nat × Nat) (List (List Wrd))
  | [], _ => .ok []
  | h :: t, num =>
    match line num h 0 with
    | .error p => .error (num, p)
    | .ok ws => (rows t (num + 1)).map (fun r => if ws.isEmpty then r else ws :: r)
def lines (l : List UInt8) : Except (Nat × Nat) (List (List Wrd)) := rows (split l) 1
theorem lets_le : ∀ (l : List UInt8), lets l ≤ l.length
  | [] => Nat.le_refl _
  | c :: t => by
    have := lets_le t
    simp only [lets, List.length_cons]
    split <;> omega
theorem size_le (l : List UInt8) (hl : l ≠ []) : size l ≤ l.length := by
  unfold size
  split
  · rename_i h
    cases l with
    | nil => exact absurd rfl hl
    | cons c t =>
      cases t with
      | nil => simp [isPair] at h
      | cons d t => simp
  · split
    · cases l with
      | nil => exact absurd rfl hl
      | cons c t => simp
    · exact lets_le l
end Wd
end Go.Proofs.YtlamhpiiikcpiaaGreatDoor
/-
  Rules' texts as plain data: a line's words as a rule, ports in order, no program here.
-/
namespace Go.Proofs.YtlamhpiiikcpiaaGreatDoor
set_option linter.unusedVariables false
set_option linter.unusedSimpArgs false
namespace Pr
open Go.Lib
theorem ll_ne {a b : List UInt8} (h : a ≤ b) (hne : a ≠ b) : a < b := by
  by_cases k : a < b
  · exact k
  · exact absurd (List.le_antisymm h (List.not_lt.1 k)) hne
theorem strict_eq {α : Type} {lt : α → α → Prop} (irr : ∀ a, ¬ lt a a) (tr : ∀ a b c, lt a b → lt b c → lt a c) : ∀ {l m : List α}, l.Pairwise lt → m.Pairwise lt → (∀ x, x ∈ l ↔ x ∈ m) → l = m
  | [], [], _, _, _ => rfl
  | [], b :: m, _, _, h => absurd ((h b).2 (by simp)) (by simp)
  | a :: l, [], _, _, h => absurd ((h a).1 (by simp)) (by simp)
  | a :: l, b :: m, h1, h2, h => by
    obtain ⟨p1, q1⟩ := List.pairwise_cons.1 h1
    obtain ⟨p2, q2⟩ := List.pairwise_cons.1 h2
    have hab : a = b := by
      rcases List.mem_cons.1 ((h a).1 (by simp)) with e | e
      · exact e
      · rcases List.mem_cons.1 ((h b).2 (by simp)) with e' | e'
        · exact e'.symm
        · exact absurd (tr _ _ _ (p1 b e') (p2 a e)) (irr a)
    subst hab
    rw [strict_eq irr tr q1 q2 (fun x => ?_)]
    constructor
    · intro hx
      rcases List.mem_cons.1 ((h x).1 (List.mem_cons_of_mem _ hx)) with e | e
      · subst e; exact absurd (p1 x hx) (irr x)
      · exact e
    · intro hx
      rcases List.mem_cons.1 ((h x).2 (List.mem_cons_of_mem _ hx)) with e | e
      · subst e; exact absurd (p2 x hx) (irr x)
      · exact e
/-- Compact of a rising row: strictly rising, the same members. -/
theorem compactUpTo_spec (d : Array (List UInt8)) (hd : ∀ i j, i < j → j < d.size → d[i]! ≤ d[j]!) : ∀ m, m ≤ d.size → (compactUpTo d m).Pairwise (fun x y => x < y) ∧ (∀ x, x ∈ compactUpTo d m ↔ ∃ j, j < m ∧ d[j]! = x)
  | 0, _ => by simp [compactUpTo]
  | m + 1, hm => by
    obtain ⟨h1, h2⟩ := compactUpTo_spec d hd m (by omega)
    rw [compactUpTo_succ]
    by_cases hk : keeps d m = true
    · rw [if_pos hk]
      have hk' : m = 0 ∨ d[m]! ≠ d[m - 1]! := by simpa [keeps] using hk
      refine ⟨List.pairwise_append.2 ⟨h1, by simp, fun x hx y hy => ?_⟩, fun x => ?_⟩
      · simp only [List.mem_singleton] at hy
        subst hy
        obtain ⟨j, hj, rfl⟩ := (h2 x).1 hx
        have hm0 : 0 < m := by omega
        have hle : d[j]! ≤ d[m - 1]! := by
          by_cases e : j = m - 1
          · rw [e]; exact List.le_refl _
          · exact hd _ _ (by omega) (by omega)
        have hlt : d[m - 1]! < d[m]! := by
          have h3 := hd (m - 1) m (by omega) (by omega)
          rcases hk' with e | e
          · omega
          · exact ll_ne h3 (fun e' => e e'.symm)
        exact List.lt_of_le_of_lt hle hlt
      · rw [List.mem_append, h2]
        simp only [List.mem_singleton]
        constructor
        · rintro (⟨j, hj, e⟩ | rfl)
          · exact ⟨j, by omega, e⟩
          · exact ⟨m, by omega, rfl⟩
        · rintro ⟨j, hj, e⟩
          by_cases hjm : j = m
          · subst hjm; exact .inr e.symm
          · exact .inl ⟨j, by omega, e⟩
    · rw [if_neg hk, List.append_nil]
      have hk' : ¬ m = 0 ∧ d[m]! = d[m - 1]! := by simpa [keeps] using hk
      refine ⟨h1, fun x => ?_⟩
      rw [h2]
      constructor
      · rintro ⟨j, hj, e⟩; exact ⟨j, by omega, e⟩
      · rintro ⟨j, hj, e⟩
        by_cases hjm : j = m
        · subst hjm; exact ⟨j - 1, by omega, by rw [← hk'.2]; exact e⟩
        · exact ⟨j, by omega, e⟩
/-- One port more, in its place. -/
def putL (l : List (List UInt8)) (s : List UInt8) : List (List UInt8) := if s ∈ l then l else l.filter (fun x => decide (x < s)) ++ s :: l.filter (fun x => decide (s < x))
theorem putL_spec {l : List (List UInt8)} (h : l.Pairwise (fun x y => x < y)) (s : List UInt8) : (putL l s).Pairwise (fun x y => x < y) ∧ ∀ x, x ∈ putL l s ↔ x ∈ l ∨ x = s := by
  unfold putL
  by_cases hs : s ∈ l
  · rw [if_pos hs]
    exact ⟨h, fun x => ⟨.inl, fun h => h.elim id (fun e => e ▸ hs)⟩⟩
  · rw [if_neg hs]
    refine ⟨List.pairwise_append.2 ⟨h.filter _, List.pairwise_cons.2 ⟨fun y hy => by simpa using (List.mem_filter.1 hy).2, h.filter _⟩, fun x hx y hy => ?_⟩, fun x => ?_⟩
    · have hx2 : x < s := by simpa using (List.mem_filter.1 hx).2
      rcases List.mem_cons.1 hy with rfl | hy
      · exact hx2
      · exact List.lt_trans hx2 (by simpa using (List.mem_filter.1 hy).2)
    · rw [List.mem_append, List.mem_cons, List.mem_filter, List.mem_filter]
      constructor
      · rintro (⟨h1, _⟩ | rfl | ⟨h1, _⟩)
        · exact .inl h1
        · exact .inr rfl
        · exact .inl h1
      · rintro (h1 | rfl)
        · by_cases hlt : x < s
          · exact .inl ⟨h1, by simpa using hlt⟩
          · refine .inr (.inr ⟨h1, ?_⟩)
            have hne : s ≠ x := fun e => hs (e ▸ h1)
            simpa using ll_ne (List.not_lt.1 hlt) hne
        · exact .inr (.inl rfl)
theorem foldl_put_spec : ∀ (T l : List (List UInt8)), l.Pairwise (fun x y => x < y) → (T.foldl putL l).Pairwise (fun x y => x < y) ∧ ∀ x, x ∈ T.foldl putL l ↔ x ∈ l ∨ x ∈ T
  | [], l, h => ⟨h, fun x => by simp⟩
  | s :: T, l, h => by
    obtain ⟨h1, h2⟩ := putL_spec h s
    obtain ⟨h3, h4⟩ := foldl_put_spec T (putL l s) h1
    refine ⟨h3, fun x => ?_⟩
    show x ∈ T.foldl putL (putL l s) ↔ _
    rw [h4, h2, List.mem_cons, or_assoc]
theorem sort_compact (T : List (List UInt8)) : compact (T.mergeSort fun x y => decide (x ≤ y)) = T.foldl putL [] := by
  obtain ⟨S, hS⟩ : ∃ S, S = T.mergeSort fun x y => decide (x ≤ y) := ⟨_, rfl⟩
  have hp : S.Perm T := by rw [hS]; exact List.mergeSort_perm _ _
  have hs : S.Pairwise (fun x y => x ≤ y) := by
    have h := List.pairwise_mergeSort (le := fun x y : List UInt8 => decide (x ≤ y)) (fun a b c h1 h2 => by simp only [decide_eq_true_eq] at *; exact List.le_trans h1 h2) (fun a b => by have := List.le_total a b; simpa using this) T
    rw [← hS] at h
    exact h.imp (fun h => by simpa using h)
  rw [← hS]
  have hd : ∀ i j, i < j → j < S.toArray.size → S.toArray[i]! ≤ S.toArray[j]! := fun i j hij hj => by
    have hj' : j < S.length := by simpa using hj
    have h := List.pairwise_iff_getElem.1 hs i j (by omega) hj' hij
    simpa [hj', show i < S.length by omega] using h
  obtain ⟨h1, h2⟩ := compactUpTo_spec S.toArray hd S.length (by simp)
  obtain ⟨h3, h4⟩ := foldl_put_spec T [] List.Pairwise.nil
  refine strict_eq (fun a => List.lt_irrefl a) (fun a b c h k => List.lt_trans h k) h1 h3 (fun x => ?_)
  show x ∈ compactUpTo S.toArray S.length ↔ _
  rw [h2, h4, ← hp.mem_iff]
  simp only [List.not_mem_nil, false_or]
  constructor
  · rintro ⟨j, hj, rfl⟩
    simp [hj]
  · intro hx
    obtain ⟨j, hj, rfl⟩ := List.getElem_of_mem hx
    exact ⟨j, hj, by simp [hj]⟩
end Pr
end Go.Proofs.YtlamhpiiikcpiaaGreatDoor
/-
  Words said and read again: plain laws; no program here.
-/
namespace Go.Proofs.YtlamhpiiikcpiaaGreatDoor
set_option linter.unusedSimpArgs false
set_option linter.unusedVariables false
namespace Wd
theorem lets_more : ∀ (x T : List UInt8), lets x < x.length → lets (x ++ T) = lets x
  | [], T, h => absurd h (Nat.not_lt_zero _)
  | c :: t, T, h => by
    by_cases hc : (Rp.isLetter c && !arrow (c :: t)) = true
    · simp only [lets, hc, if_true, List.length_cons] at h
      have ht : t ≠ [] := by intro e; subst e; simp [lets] at h
      have ha : arrow (c :: (t ++ T)) = arrow (c :: t) := by
        cases t with
        | nil => exact absurd rfl ht
        | cons d t => simp [arrow]
      simp only [List.cons_append, lets, ha, hc, if_true]
      rw [lets_more t T (by omega)]
    · by_cases hl : Rp.isLetter c = true
      · have har : arrow (c :: t) = true := by simp [hl] at hc; exact hc
        have ha : arrow (c :: (t ++ T)) = true := by
          cases t with
          | nil => simp [arrow] at har
          | cons d t => simpa [arrow] using har
        simp [lets, har, ha]
      · simp only [Bool.not_eq_true] at hl
        simp [lets, hl]
theorem lets_blank : ∀ (a T : List UInt8), lets a = a.length → lets (a ++ 32 :: T) = a.length
  | [], T, _ => by simp [lets, Rp.isLetter, Rp.isDigit]
  | c :: t, T, h => by
    by_cases hc : (Rp.isLetter c && !arrow (c :: t)) = true
    · simp only [lets, hc, if_true, List.length_cons] at h
      have ha : arrow (c :: (t ++ 32 :: T)) = arrow (c :: t) := by
        cases t with
        | nil => simp [arrow]
        | cons d t => simp [arrow]
      simp only [List.cons_append, lets, ha, hc, if_true, List.length_cons]
      rw [lets_blank t T (by omega)]
    · simp [lets, hc] at h
/-- Is a text one word? -/
def wordB (a : List UInt8) : Bool := !a.isEmpty && a.headD 0 != 35 && a.headD 0 != 32 && a.headD 0 != 9 && size a == a.length
/-- Would two words be read otherwise without a blank between? -/
def gluedB (a b : List UInt8) : Bool := size (a ++ b) != a.length
theorem wordB_iff {a : List UInt8} : wordB a = true ↔ ∃ c t, a = c :: t ∧ ¬ c = 35 ∧ ¬ (c = 32 ∨ c = 9) ∧ size a = a.length := by
  unfold wordB
  cases a with
  | nil => simp
  | cons c t =>
    simp only [List.isEmpty_cons, List.headD_cons, Bool.and_eq_true, bne_iff_ne, beq_iff_eq, Bool.not_false, ne_eq, true_and]
    constructor
    · rintro ⟨⟨⟨h1, h2⟩, h3⟩, h4⟩
      exact ⟨c, t, rfl, h1, fun h => h.elim h2 h3, h4⟩
    · rintro ⟨c', t', e, h1, h2, h4⟩
      injection e with e1 e2
      subst e1 e2
      exact ⟨⟨⟨h1, fun h => h2 (.inl h)⟩, fun h => h2 (.inr h)⟩, h4⟩
theorem size_more {a b : List UInt8} (hb : b ≠ []) (ha : a ≠ []) (h : size (a ++ b) = a.length) (T : List UInt8) : size (a ++ b ++ T) = a.length := by
  have hbl : 0 < b.length := List.length_pos_iff.2 hb
  have hal : 0 < a.length := List.length_pos_iff.2 ha
  have ht : (a ++ b ++ T).take 2 = (a ++ b).take 2 := List.take_append_of_le_length (by simp; omega)
  have hh : (a ++ b ++ T).headD 0 = (a ++ b).headD 0 := by
    cases a with
    | nil => exact absurd rfl ha
    | cons c t => rfl
  rw [← h]
  unfold size at h ⊢
  rw [ht, hh]
  split
  · rfl
  · split
    · rfl
    · rename_i h1 h2
      rw [if_neg h1, if_neg h2] at h
      exact lets_more _ _ (by rw [h]; simp; omega)
theorem size_pair {l : List UInt8} (h : isPair (l.take 2) = true) : size l = 2 := by unfold size; rw [if_pos h]
theorem size_single {l : List UInt8} (h : isPair (l.take 2) = false) (h2 : isSingle (l.headD 0) = true) : size l = 1 := by unfold size; rw [h, if_neg (by simp), if_pos h2]
theorem size_lets {l : List UInt8} (h : isPair (l.take 2) = false) (h2 : isSingle (l.headD 0) = false) : size l = lets l := by unfold size; rw [h, h2, if_neg (by simp), if_neg (by simp)]
theorem size_blank {a : List UInt8} (ha : a ≠ []) (h : size a = a.length) (T : List UInt8) : size (a ++ 32 :: T) = a.length := by
  rcases a with _ | ⟨c, _ | ⟨d, t⟩⟩
  · exact absurd rfl ha
  · have h1 : isPair (([c] ++ 32 :: T).take 2) = false := by simp [isPair]
    have h2 : isPair ([c].take 2) = false := by simp [isPair]
    cases h3 : isSingle c with
    | true => rw [size_single h1 h3]; rfl
    | false =>
      rw [size_lets h1 h3]
      rw [size_lets h2 h3] at h
      exact lets_blank [c] T h
  · have ht : (c :: d :: t ++ 32 :: T).take 2 = (c :: d :: t).take 2 := by simp
    cases h1 : isPair ((c :: d :: t).take 2) with
    | true =>
      rw [size_pair (by rw [ht]; exact h1)]
      rw [size_pair h1] at h
      exact h
    | false =>
      cases h3 : isSingle c with
      | true =>
        rw [size_single (l := c :: d :: t ++ 32 :: T) (by rw [ht]; exact h1) h3]
        rw [size_single (l := c :: d :: t) h1 h3] at h
        exact h
      | false =>
        rw [size_lets (l := c :: d :: t ++ 32 :: T) (by rw [ht]; exact h1) h3]
        rw [size_lets (l := c :: d :: t) h1 h3] at h
        exact lets_blank (c :: d :: t) T h
/-- One word, read off the front. -/
theorem line_front {a T : List UInt8} (ha : wordB a = true) (hs : size (a ++ T) = a.length) (num at_ : Nat) :
    line num (a ++ T) at_ = (line num T (at_ + a.length)).map (⟨mkB a, num, at_ + 1⟩ :: ·) := by
  obtain ⟨c, t, rfl, h1, h2, h3⟩ := wordB_iff.1 ha
  have h4 := line_word num at_ c (t ++ T) h1 h2 (by rw [List.cons_append] at hs; rw [hs]; simp)
  rw [List.cons_append] at hs ⊢
  rw [h4, hs]
  simp
theorem line_one {a : List UInt8} (ha : wordB a = true) (num at_ : Nat) : line num a at_ = .ok [⟨mkB a, num, at_ + 1⟩] := by
  obtain ⟨c, t, e, h1, h2, h3⟩ := wordB_iff.1 ha
  have := line_front (T := []) ha (by simpa using h3) num at_
  simpa [line_nil, Except.map] using this
/-- The text of words. -/
def jn : List (List UInt8) → List UInt8
  | [] => []
  | [a] => a
  | a :: b :: r => a ++ ((if gluedB a b then [32] else []) ++ jn (b :: r))
def wds (num : Nat) : List (List UInt8) → List Nat → List Wrd
  | a :: r, c :: q => ⟨mkB a, num, c⟩ :: wds num r q
  | _, _ => []
theorem jn_head (b : List UInt8) (r : List (List UInt8)) : ∃ T, jn (b :: r) = b ++ T := by
  cases r with
  | nil => exact ⟨[], by simp [jn]⟩
  | cons d r => exact ⟨_, rfl⟩
/-- What is said is read as the same words. -/
theorem line_jn : ∀ (l : List (List UInt8)), (∀ a ∈ l, wordB a = true) → ∀ (num at_ : Nat), ∃ ws, line num (jn l) at_ = .ok ws ∧ ws.map Wrd.t = l.map mkB
  | [], _, num, at_ => ⟨[], rfl, rfl⟩
  | [a], h, num, at_ => ⟨_, line_one (h a (by simp)) num at_, rfl⟩
  | a :: b :: r, h, num, at_ => by
    have ha := h a (by simp)
    have hb := h b (by simp)
    obtain ⟨ca, ta, ea, _⟩ := wordB_iff.1 ha
    obtain ⟨cb, tb, eb, _⟩ := wordB_iff.1 hb
    have hane : a ≠ [] := by rw [ea]; simp
    have hbne : b ≠ [] := by rw [eb]; simp
    have hasz : size a = a.length := by obtain ⟨c, t, e, h1, h2, h3⟩ := wordB_iff.1 ha; exact h3
    obtain ⟨ws, hw1, hw2⟩ := line_jn (b :: r) (fun x hx => h x (List.mem_cons_of_mem _ hx)) num (at_ + a.length + (if gluedB a b then 1 else 0))
    refine ⟨⟨mkB a, num, at_ + 1⟩ :: ws, ?_, by simp [hw2]⟩
    simp only [jn]
    by_cases hg : gluedB a b = true
    · simp only [hg, if_true, List.cons_append, List.nil_append] at hw1 ⊢
      rw [line_front ha (size_blank hane hasz _), line_blank num _ 32 _ (.inl rfl), hw1]
      rfl
    · simp only [hg, if_false, Bool.false_eq_true, List.nil_append, Nat.add_zero] at hw1 ⊢
      have hsz : size (a ++ b) = a.length := by simpa [gluedB] using hg
      obtain ⟨T, hT⟩ := jn_head b r
      rw [line_front ha (by rw [hT, ← List.append_assoc]; exact size_more hbne hane hsz T), hw1]
      rfl
end Wd
end Go.Proofs.YtlamhpiiikcpiaaGreatDoor
/-
  Plain laws of a stable sort: insertion from the left, blocks, merges.
-/
namespace Go.Proofs.YtlamhpiiikcpiaaGreatDoor
open Go.Sort
set_option linter.unusedVariables false
set_option linter.unusedSectionVars false
set_option linter.unusedSimpArgs false
namespace St
variable {α : Type} (lt : α → α → Bool)
/-- An element into a row, behind all that are not greater. -/
def insL : List α → α → List α
  | [], x => [x]
  | y :: s, x => if lt x y = true then x :: y :: s else y :: insL s x
/-- A row into a row. -/
def mrg (s t : List α) : List α := t.foldl (insL lt) s
/-- The stable order. -/
def isort (l : List α) : List α := mrg lt [] l
/-- Nothing stands behind a greater one. -/
def Srd (l : List α) : Prop := l.Pairwise fun a b => lt b a = false
theorem length_insL : ∀ (s : List α) (x : α), (insL lt s x).length = s.length + 1
  | [], _ => rfl
  | y :: s, x => by
    unfold insL
    split
    · rfl
    · simp [length_insL s x]
theorem length_mrg : ∀ (t s : List α), (mrg lt s t).length = s.length + t.length
  | [], s => rfl
  | x :: t, s => by
    show (mrg lt (insL lt s x) t).length = _
    rw [length_mrg t, length_insL, List.length_cons]
    omega
theorem length_isort (l : List α) : (isort lt l).length = l.length := by
  unfold isort
  rw [length_mrg]
  simp
theorem mem_insL : ∀ {s : List α} {x y : α}, y ∈ insL lt s x ↔ y = x ∨ y ∈ s
  | [], x, y => by simp [insL]
  | z :: s, x, y => by
    unfold insL
    split
    · simp
    · rw [List.mem_cons, mem_insL, List.mem_cons]
      constructor
      · rintro (h | h | h)
        · exact .inr (.inl h)
        · exact .inl h
        · exact .inr (.inr h)
      · rintro (h | h | h)
        · exact .inr (.inl h)
        · exact .inl h
        · exact .inr (.inr h)
theorem mem_mrg : ∀ {t s : List α} {y : α}, y ∈ mrg lt s t ↔ y ∈ s ∨ y ∈ t
  | [], s, y => by show y ∈ s ↔ _; simp
  | x :: t, s, y => by
    show y ∈ mrg lt (insL lt s x) t ↔ _
    rw [mem_mrg, mem_insL, List.mem_cons]
    constructor
    · rintro ((h | h) | h)
      · exact .inr (.inl h)
      · exact .inl h
      · exact .inr (.inr h)
    · rintro (h | h | h)
      · exact .inl (.inr h)
      · exact .inl (.inl h)
      · exact .inr h
theorem mem_isort {l : List α} {y : α} : y ∈ isort lt l ↔ y ∈ l := by
  unfold isort
  rw [mem_mrg]
  simp
variable {lt}
variable (hO : SWO lt)
include hO
theorem asym {x y : α} (h : lt x y = true) : lt y x = false := by
  cases h2 : lt y x with
  | false => rfl
  | true =>
    have := hO.trans _ _ _ h h2
    rw [hO.irrefl] at this
    cases this
theorem srd_insL : ∀ {s : List α} {x : α}, Srd lt s → Srd lt (insL lt s x)
  | [], x, _ => List.pairwise_singleton _ _
  | y :: s, x, h => by
    have hy := List.pairwise_cons.1 h
    unfold insL
    split
    · rename_i hxy
      refine List.pairwise_cons.2 ⟨fun z hz => ?_, h⟩
      rcases List.mem_cons.1 hz with rfl | hz
      · exact asym hO hxy
      · cases hzx : lt z x with
        | false => rfl
        | true =>
          have h1 := hO.trans _ _ _ hzx hxy
          rw [hy.1 z hz] at h1
          cases h1
    · rename_i hxy
      refine List.pairwise_cons.2 ⟨fun z hz => ?_, srd_insL hy.2⟩
      rcases (mem_insL lt).1 hz with rfl | hz
      · simpa using hxy
      · exact hy.1 z hz
theorem srd_mrg : ∀ {t s : List α}, Srd lt s → Srd lt (mrg lt s t)
  | [], _, h => h
  | x :: t, s, h => srd_mrg (t := t) (srd_insL hO h)
theorem srd_isort (l : List α) : Srd lt (isort lt l) := srd_mrg hO List.Pairwise.nil
omit hO in
/-- Ahead of all that are greater. -/
theorem insL_left : ∀ {s t : List α} {x : α}, (∀ y ∈ t, lt x y = true) → insL lt (s ++ t) x = insL lt s x ++ t
  | [], [], x, _ => rfl
  | [], y :: t, x, h => by
    show insL lt (y :: t) x = x :: y :: t
    rw [insL, if_pos (h y (by simp))]
  | z :: s, t, x, h => by
    rw [List.cons_append, insL, insL]
    split
    · rfl
    · rw [insL_left h]; rfl
omit hO in
/-- Behind all that are not greater. -/
theorem insL_right : ∀ {s t : List α} {x : α}, (∀ y ∈ s, lt x y = false) → insL lt (s ++ t) x = s ++ insL lt t x
  | [], t, x, _ => rfl
  | z :: s, t, x, h => by
    rw [List.cons_append, insL, if_neg (by rw [h z (by simp)]; simp), insL_right (fun y hy => h y (by simp [hy]))]
    rfl
omit hO in
theorem insL_end {s : List α} {x : α} (h : ∀ y ∈ s, lt x y = false) : insL lt s x = s ++ [x] := by
  have := insL_right (t := []) h
  simpa [insL] using this
omit hO in
theorem mrg_left : ∀ {v s t : List α}, (∀ x ∈ v, ∀ y ∈ t, lt x y = true) → mrg lt (s ++ t) v = mrg lt s v ++ t
  | [], _, _, _ => rfl
  | x :: v, s, t, h => by
    show mrg lt (insL lt (s ++ t) x) v = mrg lt (insL lt s x) v ++ t
    rw [insL_left (h x (by simp)), mrg_left (fun z hz => h z (by simp [hz]))]
omit hO in
theorem mrg_right : ∀ {v s t : List α}, (∀ x ∈ v, ∀ y ∈ s, lt x y = false) → mrg lt (s ++ t) v = s ++ mrg lt t v
  | [], _, _, _ => rfl
  | x :: v, s, t, h => by
    show mrg lt (insL lt (s ++ t) x) v = s ++ mrg lt (insL lt t x) v
    rw [insL_right (h x (by simp)), mrg_right (fun z hz => h z (by simp [hz]))]
/-- What is in order stays. -/
theorem mrg_nil : ∀ {v s : List α}, Srd lt (s ++ v) → mrg lt s v = s ++ v
  | [], s, _ => by show s = _; simp
  | x :: v, s, h => by
    show mrg lt (insL lt s x) v = _
    rw [insL_end (fun y hy => (List.pairwise_append.1 h).2.2 y hy x (by simp)), mrg_nil (s := s ++ [x]) (by simpa using h)]
    simp
theorem isort_srd {l : List α} (h : Srd lt l) : isort lt l = l := mrg_nil hO (s := []) h
theorem mrg_nil_left {v : List α} (h : Srd lt v) : mrg lt [] v = v := isort_srd hO h
omit hO in
theorem mrg_append (s t v : List α) : mrg lt s (t ++ v) = mrg lt (mrg lt s t) v := by
  unfold mrg
  rw [List.foldl_append]
/-- A greater one may go in ahead or behind. -/
theorem insL_comm {x y : α} (h : lt x y = true) : ∀ (s : List α), insL lt (insL lt s x) y = insL lt (insL lt s y) x
  | [] => by
    have h2 := asym hO h
    simp [insL, h, h2]
  | z :: s => by
    have h2 := asym hO h
    have ih := insL_comm h s
    by_cases hxz : lt x z = true
    · have e1 : insL lt (z :: s) x = x :: z :: s := by rw [insL, if_pos hxz]
      rw [e1, insL, if_neg (by rw [h2]; simp)]
      by_cases hyz : lt y z = true
      · rw [insL, if_pos hyz, insL, if_pos h]
      · rw [insL, if_neg hyz, insL, if_pos hxz]
    · have e1 : insL lt (z :: s) x = z :: insL lt s x := by rw [insL, if_neg hxz]
      have hyz : ¬ lt y z = true := fun h3 => hxz (hO.trans _ _ _ h h3)
      rw [e1, insL, if_neg hyz, ih]
      conv => rhs; rw [insL, if_neg hyz]
      rw [insL, if_neg hxz]
theorem mrg_insL {x : α} : ∀ {t s : List α}, (∀ y ∈ t, lt x y = true) → mrg lt (insL lt s x) t = insL lt (mrg lt s t) x
  | [], _, _ => rfl
  | y :: t, s, h => by
    show mrg lt (insL lt (insL lt s x) y) t = insL lt (mrg lt (insL lt s y) t) x
    rw [insL_comm hO (h y (by simp)), mrg_insL (fun z hz => h z (by simp [hz]))]
omit hO in
theorem insL_cut : ∀ (t : List α) (x : α), ∃ a b, t = a ++ b ∧ insL lt t x = a ++ x :: b ∧ (∀ y ∈ a, lt x y = false) ∧ (b = [] ∨ ∃ z r, b = z :: r ∧ lt x z = true)
  | [], x => ⟨[], [], rfl, rfl, by simp, .inl rfl⟩
  | y :: t, x => by
    by_cases h : lt x y = true
    · exact ⟨[], y :: t, rfl, by rw [insL, if_pos h]; rfl, by simp, .inr ⟨y, t, rfl, h⟩⟩
    · obtain ⟨a, b, rfl, h2, h3, h4⟩ := insL_cut t x
      refine ⟨y :: a, b, rfl, by rw [insL, if_neg h, h2]; rfl, ?_, h4⟩
      intro z hz
      rcases List.mem_cons.1 hz with rfl | hz
      · simpa using h
      · exact h3 z hz
theorem mrg_insL_row {t s : List α} {x : α} (ht : Srd lt t) : mrg lt s (insL lt t x) = insL lt (mrg lt s t) x := by
  obtain ⟨a, b, rfl, h2, h3, h4⟩ := insL_cut (lt := lt) t x
  have hb : ∀ y ∈ b, lt x y = true := by
    rcases h4 with rfl | ⟨z, r, rfl, hz⟩
    · simp
    · intro y hy
      rcases List.mem_cons.1 hy with rfl | hy
      · exact hz
      · have h5 := (List.pairwise_append.1 ht).2.1
        have h6 := (List.pairwise_cons.1 h5).1 y hy
        cases hc : lt x y with
        | true => rfl
        | false =>
          have := hO.ntrans _ _ _ hc h6
          rw [hz] at this
          cases this
  rw [h2, mrg_append, mrg_append]
  show mrg lt (insL lt (mrg lt s a) x) b = _
  exact mrg_insL hO hb
/-- To merge what is sorted is to sort. -/
theorem mrg_isort (s l : List α) : mrg lt s (isort lt l) = mrg lt s l := by
  have key : ∀ (l t : List α), Srd lt t → mrg lt s (mrg lt t l) = mrg lt (mrg lt s t) l := by
    intro l
    induction l with
    | nil => intro t _; rfl
    | cons x l ih =>
      intro t ht
      show mrg lt s (mrg lt (insL lt t x) l) = mrg lt (insL lt (mrg lt s t) x) l
      rw [ih _ (srd_insL hO ht), mrg_insL_row hO ht]
  exact key l [] List.Pairwise.nil
theorem isort_append (a b : List α) : mrg lt (isort lt a) (isort lt b) = isort lt (a ++ b) := by
  rw [mrg_isort hO]
  unfold isort
  rw [mrg_append]
/-! ### Blocks -/
omit hO in
/-- Blocks of one length, each in order. -/
def blocks (lt : α → α → Bool) (bs : Nat) (l : List α) : List α :=
  if h : bs = 0 ∨ l.length ≤ bs then isort lt l else isort lt (l.take bs) ++ blocks lt bs (l.drop bs)
termination_by l.length
decreasing_by simp; omega
omit hO in
theorem blocks_short {bs : Nat} {l : List α} (h : l.length ≤ bs) : blocks lt bs l = isort lt l := by
  unfold blocks
  rw [dif_pos (.inr h)]
omit hO in
theorem blocks_cut {bs : Nat} {a b : List α} (h0 : 0 < bs) (h : a.length = bs) (hb : b ≠ []) : blocks lt bs (a ++ b) = isort lt a ++ blocks lt bs b := by
  have hl := List.length_pos_iff.2 hb
  conv => lhs; unfold blocks
  rw [dif_neg (by simp; omega)]
  rw [List.take_left' h, List.drop_left' h]
omit hO in
omit hO in
theorem blocks_nil {bs : Nat} : blocks lt bs [] = [] := by
  rw [blocks_short (by simp)]
  rfl
omit hO in
theorem blocks_cut' {bs : Nat} {a b : List α} (h0 : 0 < bs) (h : a.length = bs) : blocks lt bs (a ++ b) = isort lt a ++ blocks lt bs b := by
  by_cases hb : b = []
  · subst hb
    rw [List.append_nil, blocks_short (by omega), blocks_nil, List.append_nil]
  · exact blocks_cut h0 h hb
omit hO in
theorem length_blocks (bs : Nat) : ∀ (l : List α), (blocks lt bs l).length = l.length := by
  intro l
  induction hn : l.length using Nat.strongRecOn generalizing l with
  | _ n ih =>
    unfold blocks
    split
    · rw [length_isort]; exact hn
    · rename_i h
      rw [List.length_append, length_isort, ih (l.drop bs).length (by simp; omega) _ rfl]
      simp
      omega
/-! ### What a merge in place does -/
/-- The two halves of a merge. -/
theorem mrg_halves {u1 u2 v1 v2 : List α} (hl : Srd lt (u1 ++ u2)) (hr : Srd lt (v1 ++ v2)) (h1 : ∀ x ∈ v1, ∀ y ∈ u2, lt x y = true) (h2 : ∀ x ∈ v2, ∀ y ∈ u1, lt x y = false) :
    mrg lt (u1 ++ u2) (v1 ++ v2) = mrg lt u1 v1 ++ mrg lt u2 v2 := by
  rw [mrg_append, mrg_left h1]
  refine mrg_right fun x hx y hy => ?_
  rcases (mem_mrg lt).1 hy with hy | hy
  · exact h2 x hx y hy
  · exact (List.pairwise_append.1 hr).2.2 y hy x hx
/-! ### Insertion, as the program does it -/
section ins
variable [Inhabited α]
omit hO in
theorem get_toArray (l : List α) (i : Nat) : l.toArray[i]! = l[i]! := by simp
omit hO in
theorem swp_list (p : List α) (x : α) (m : List α) (y : α) (q : List α) : swp (p ++ x :: (m ++ y :: q)).toArray p.length (p.length + 1 + m.length) = (p ++ y :: (m ++ x :: q)).toArray := by
  unfold swp
  have e1 : (p ++ x :: (m ++ y :: q)).toArray[p.length]! = x := by simp
  have e2 : (p ++ x :: (m ++ y :: q)).toArray[p.length + 1 + m.length]! = y := by
    simp [List.getElem?_append_right, Nat.add_assoc, Nat.add_comm 1]
  rw [e1, e2]
  apply Array.ext'
  simp only [Array.toList_setIfInBounds]
  rw [List.set_append_right _ _ (by omega), Nat.sub_self, List.set_cons_zero, List.set_append_right _ _ (by omega), show p.length + 1 + m.length - p.length = m.length + 1 by omega, List.set_cons_succ, List.set_append_right _ _ (by omega), Nat.sub_self, List.set_cons_zero]
omit hO in
theorem swp_pair (p : List α) (y x : α) (q : List α) : swp (p ++ y :: x :: q).toArray (p.length + 1) p.length = (p ++ x :: y :: q).toArray := by
  unfold swp
  have e1 : (p ++ y :: x :: q).toArray[p.length]! = y := by simp
  have e2 : (p ++ y :: x :: q).toArray[p.length + 1]! = x := by simp [List.getElem?_append_right]
  rw [e1, e2]
  apply Array.ext'
  simp only [Array.toList_setIfInBounds]
  rw [List.set_append_right _ _ (by omega), show p.length + 1 - p.length = 1 by omega, List.set_cons_succ, List.set_cons_zero, List.set_append_right _ _ (by omega), Nat.sub_self, List.set_cons_zero]
theorem insL_snoc {s : List α} {x y : α} (hs : Srd lt (s ++ [y])) : insL lt (s ++ [y]) x = if lt x y = true then insL lt s x ++ [y] else s ++ [y, x] := by
  split
  · rename_i h
    exact insL_left (by intro z hz; simp at hz; subst hz; exact h)
  · rename_i h
    rw [insL_end]
    · simp
    · intro z hz
      rcases List.mem_append.1 hz with hz | hz
      · refine hO.ntrans _ y _ (by simpa using h) ?_
        exact (List.pairwise_append.1 hs).2.2 z hz y (by simp)
      · simp at hz; subst hz; simpa using h
theorem insInner_list (p : List α) : ∀ (n : Nat) (s : List α) (x : α) (q : List α), s.length = n → Srd lt s → insInner lt p.length (p.length + n) (p ++ s ++ x :: q).toArray = (p ++ insL lt s x ++ q).toArray := by
  intro n
  induction n with
  | zero =>
    intro s x q hn _
    obtain rfl := List.length_eq_zero_iff.1 hn
    rw [Nat.add_zero, insInner_stop _ _ _ _ (.inl (Nat.le_refl _))]
    simp [insL]
  | succ n ih =>
    intro s x q hn hs
    rcases List.eq_nil_or_concat s with rfl | ⟨s', y, rfl⟩
    · simp at hn
    · rw [List.concat_eq_append] at hn hs ⊢
      have hn' : s'.length = n := by simpa using hn
      have e1 : (p ++ (s' ++ [y]) ++ x :: q).toArray[p.length + (n + 1)]! = x := by
        rw [get_toArray]
        have : p ++ (s' ++ [y]) ++ x :: q = (p ++ (s' ++ [y])) ++ x :: q := rfl
        simp [List.getElem?_append_right, hn']
      have e2 : (p ++ (s' ++ [y]) ++ x :: q).toArray[p.length + (n + 1) - 1]! = y := by
        rw [get_toArray]
        simp [List.getElem?_append_right, hn', Nat.add_sub_cancel]
      rw [insL_snoc hO hs]
      by_cases h : lt x y = true
      · rw [insInner_go _ _ _ _ (by omega) (by rw [e1, e2]; exact h), if_pos h]
        have e3 : (p ++ (s' ++ [y]) ++ x :: q) = (p ++ s') ++ y :: x :: q := by simp
        have e4 : p.length + (n + 1) = (p ++ s').length + 1 := by simp; omega
        rw [e3, e4, Nat.add_sub_cancel, swp_pair (p ++ s') y x q]
        have := ih s' x (y :: q) hn' (List.pairwise_append.1 hs).1
        rw [show (p ++ s').length = p.length + n by simp; omega, show (p ++ s') ++ x :: y :: q = p ++ s' ++ x :: (y :: q) by simp, this]
        simp
      · rw [insInner_stop _ _ _ _ (.inr (by rw [e1, e2]; simpa using h)), if_neg h]
        simp
theorem insOuter_list (p : List α) (b : Nat) : ∀ (l s : List α) (q : List α), Srd lt s → b = p.length + s.length + l.length → insOuter lt p.length b (p.length + s.length) (p ++ s ++ (l ++ q)).toArray = (p ++ mrg lt s l ++ q).toArray
  | [], s, q, _, hb => by
    rw [insOuter_stop _ _ _ _ _ (by simp at hb; omega)]
    rfl
  | x :: l, s, q, hs, hb => by
    rw [insOuter_go _ _ _ _ _ (by simp at hb; omega)]
    have := insInner_list hO p s.length s x (l ++ q) rfl hs
    rw [show (x :: l) ++ q = x :: (l ++ q) from rfl, this]
    have ih := insOuter_list p b l (insL lt s x) q (srd_insL hO hs) (by rw [length_insL]; simp at hb; omega)
    rw [length_insL] at ih
    exact ih
/-- The insertion sort of a block. -/
theorem insertionSort_list (p l q : List α) : insertionSort lt (p ++ l ++ q).toArray p.length (p.length + l.length) = (p ++ isort lt l ++ q).toArray := by
  unfold insertionSort
  cases l with
  | nil =>
    rw [insOuter_stop _ _ _ _ _ (by simp)]
    rfl
  | cons x l =>
    have := insOuter_list hO p (p.length + (l.length + 1)) l [x] q (List.pairwise_singleton _ _) (by simp; omega)
    simp only [List.length_cons, List.length_nil, Nat.zero_add] at this ⊢
    rw [show p ++ x :: l ++ q = p ++ [x] ++ (l ++ q) by simp, this]
    rfl
end ins
end St
end Go.Proofs.YtlamhpiiikcpiaaGreatDoor
