/-
  Plain laws of the texts of vectors: digits, the parts of a text, what is read.
-/
import Derived.Lib.SplitLaws
import Derived.Lib.IndexBytes
import Derived.Lib.ParseIntBCases
import Derived.Lib.ItoaMem
import Derived.Lib.Join
import Derived.Test.YtlmpaeefhpahoaaDoorVecPure
namespace Go.Proofs.YtlmpaeefhpahoaaDoor
open Go.Lib (decDigits)

namespace Tx

theorem digit_toNat (k : Nat) (h : k < 10) : (UInt8.ofNat (48 + k)).toNat = 48 + k := by
  rw [UInt8.toNat_ofNat']
  omega

theorem digits_range (u : Nat) : ∀ c ∈ decDigits u, 48 ≤ c.toNat ∧ c.toNat ≤ 57 := by
  induction u using Nat.strongRecOn with
  | _ u ih =>
    intro c hc
    rw [decDigits] at hc
    split at hc
    · rename_i h
      have : c = UInt8.ofNat (48 + u) := by simpa using hc
      rw [this, digit_toNat u h]
      omega
    · rename_i h
      rcases List.mem_append.1 hc with hc | hc
      · exact ih (u / 10) (by omega) c hc
      · have : c = UInt8.ofNat (48 + u % 10) := by simpa using hc
        rw [this, digit_toNat _ (by omega)]
        omega

theorem digits_ne (u : Nat) : decDigits u ≠ [] := by
  rw [decDigits]
  split <;> simp

theorem parse_append : ∀ (l r : List UInt8) (acc : Nat), Lib.parseUint10 acc (l ++ r) = match Lib.parseUint10 acc l with | .ok v => Lib.parseUint10 v r | .syntax => .syntax | .range => .range
  | [], r, acc => rfl
  | c :: l, r, acc => by
    rw [List.cons_append, Lib.parseUint10, Lib.parseUint10]
    split
    · split
      · rfl
      · split
        · rfl
        · exact parse_append l r _
    · rfl

theorem parse_digits (u : Nat) (hu : u < 18446744073709551616) : Lib.parseUint10 0 (decDigits u) = .ok u := by
  induction u using Nat.strongRecOn with
  | _ u ih =>
    rw [decDigits]
    split
    · rename_i h
      rw [Lib.parseUint10, digit_toNat u h, if_pos (by omega), if_neg (by omega), if_neg (by omega), Lib.parseUint10]
      congr 1
      omega
    · rename_i h
      rw [parse_append, ih (u / 10) (by omega) (by omega)]
      show Lib.parseUint10 (u / 10) [UInt8.ofNat (48 + u % 10)] = _
      rw [Lib.parseUint10, digit_toNat _ (by omega), if_pos (by omega), if_neg (by omega), if_neg (by omega), Lib.parseUint10]
      congr 1
      omega

theorem atoi_digits (u : Nat) (hu : u < 9223372036854775808) : Lib.atoiAll (decDigits u) = .ok (u : Int) := by
  cases hl : decDigits u with
  | nil => exact absurd hl (digits_ne u)
  | cons c r =>
    have hc := digits_range u c (by rw [hl]; simp)
    have hp := parse_digits u (by omega)
    rw [hl] at hp
    have hm : Lib.parseMag (if c.toNat = 43 ∨ c.toNat = 45 then r else c :: r) = .ok u := by
      rw [if_neg (by omega)]
      unfold Lib.parseMag
      rw [if_neg (by simp), hp]
    unfold Lib.atoiAll
    simp only [hm]
    rw [if_neg (by omega), if_neg (by omega), if_neg (by omega)]

theorem parseB_digits (u : Nat) (hu : u < 18446744073709551616) : Lib.parseUintB 64 (decDigits u) = .ok u := by
  unfold Lib.parseUintB
  rw [if_neg (digits_ne u), show (2 : Nat) ^ 64 - 1 = 18446744073709551615 from rfl, Lib.parseUintM_64]
  exact parse_digits u hu

theorem index_byte (c : UInt8) : ∀ (a b : List UInt8), c ∉ a → Lib.index (a ++ c :: b) [c] = ((a.length : Nat) : Int)
  | [], b, _ => by
    rw [List.nil_append, Lib.index]
    simp
  | x :: a, b, h => by
    have hx : ¬ c = x := fun e => h (by simp [e])
    have ih := index_byte c a b (fun m => h (by simp [m]))
    rw [List.cons_append, Lib.index]
    have e1 : ([c].isPrefixOf (x :: (a ++ c :: b))) = false := by simp [List.isPrefixOf]; exact hx
    rw [e1, ih, if_neg (by simp)]
    have e2 : (((a.length : Nat) : Int) == -1) = false := by simp
    rw [e2, if_neg (by simp)]
    simp

theorem index_absent (c : UInt8) : ∀ (a : List UInt8), c ∉ a → Lib.index a [c] = -1
  | [], _ => by rw [Lib.index]; rfl
  | x :: a, h => by
    have hx : ¬ c = x := fun e => h (by simp [e])
    have ih := index_absent c a (fun m => h (by simp [m]))
    rw [Lib.index]
    have e1 : ([c].isPrefixOf (x :: a)) = false := by simp [List.isPrefixOf]; exact hx
    rw [e1, ih, if_neg (by simp)]
    rfl

theorem cut_at (a b : List UInt8) (c : UInt8) (h : c ∉ a) : Lib.cut (a ++ c :: b) [c] = (a, b, true) := by
  unfold Lib.cut
  rw [index_byte c a b h, if_pos (by omega)]
  simp

theorem cut_absent (a : List UInt8) (c : UInt8) (h : c ∉ a) : Lib.cut a [c] = (a, [], false) := by
  unfold Lib.cut
  rw [index_absent c a h, if_neg (by decide)]

/-- Where a byte stands first. -/
theorem first_at (c : UInt8) : ∀ (s : List UInt8), c ∈ s → ∃ a b, s = a ++ c :: b ∧ c ∉ a
  | [], h => absurd h (by simp)
  | x :: s, h => by
    by_cases hx : x = c
    · exact ⟨[], s, by rw [hx]; rfl, by simp⟩
    · obtain ⟨a, b, h1, h2⟩ := first_at c s (by rcases List.mem_cons.1 h with h | h; exact absurd h.symm hx; exact h)
      exact ⟨x :: a, b, by rw [h1]; rfl, by simp; exact ⟨fun e => hx e.symm, h2⟩⟩

/-! ### A stamp's text -/

/-- A stamp's text. -/
def stB (s : Nat × Nat) : List UInt8 := decDigits s.1 ++ 58 :: decDigits s.2

theorem no_colon (u : Nat) : (58 : UInt8) ∉ decDigits u := fun h => by
  have := digits_range u _ h
  have e : (58 : UInt8).toNat = 58 := rfl
  omega

theorem cut_stB (s : Nat × Nat) : Lib.cut (stB s) [58] = (decDigits s.1, decDigits s.2, true) := cut_at _ _ _ (no_colon _)

/-- One byte more, as the reference reckons. -/
def numStep (n : Nat) (c : UInt8) : Nat := (n * 10 + (c - 48).toNat % 10) % 18446744073709551616

/-- The reference's number of a text. -/
def numR (l : List UInt8) : Nat := (l.take 20).foldl numStep 0

theorem numStep_digit (n k : Nat) (h : k < 10) (hn : n * 10 + k < 18446744073709551616) : numStep n (UInt8.ofNat (48 + k)) = n * 10 + k := by
  unfold numStep
  have e : (UInt8.ofNat (48 + k) - 48).toNat = k := by
    rw [UInt8.toNat_sub_of_le]
    · rw [digit_toNat k h]
      have : (48 : UInt8).toNat = 48 := rfl
      omega
    · rw [UInt8.le_iff_toNat_le, digit_toNat k h]
      have : (48 : UInt8).toNat = 48 := rfl
      omega
  rw [e]
  omega

theorem fold_digits (u : Nat) (hu : u < 18446744073709551616) : (decDigits u).foldl numStep 0 = u := by
  induction u using Nat.strongRecOn with
  | _ u ih =>
    rw [decDigits]
    split
    · rename_i h
      rw [List.foldl_cons, List.foldl_nil, numStep_digit 0 u h (by omega)]
      omega
    · rename_i h
      rw [List.foldl_append, ih (u / 10) (by omega) (by omega), List.foldl_cons, List.foldl_nil, numStep_digit _ _ (by omega) (by omega)]
      omega

theorem digits_len (u : Nat) (hu : u < 18446744073709551616) : (decDigits u).length ≤ 20 := by
  rw [Lib.decDigits_length]
  by_cases h : 1 ≤ u
  · have := Lib.numDigits_eq u h hu; split at this <;> omega
  · have : u = 0 := by omega
    subst this
    decide +kernel

theorem numR_digits (u : Nat) (hu : u < 18446744073709551616) : numR (decDigits u) = u := by
  unfold numR
  rw [List.take_of_length_le (digits_len u hu)]
  exact fold_digits u hu

theorem fold_lt : ∀ (l : List UInt8) (n : Nat), n < 18446744073709551616 → l.foldl numStep n < 18446744073709551616
  | [], n, h => h
  | c :: l, n, _ => fold_lt l _ (by unfold numStep; omega)

theorem numR_lt (l : List UInt8) : numR l < 18446744073709551616 := fold_lt _ 0 (by omega)

/-- A part's stamp, if it is one: as the reference reckons. -/
def stOf (p : List UInt8) : Option (Nat × Nat) :=
  if (Lib.cut p [58]).2.2 = true ∧ numR (Lib.cut p [58]).1 % 1000 < 256 ∧ stB (numR (Lib.cut p [58]).1 % 1000, numR (Lib.cut p [58]).2.1) = p then some (numR (Lib.cut p [58]).1 % 1000, numR (Lib.cut p [58]).2.1) else none

theorem stOf_iff (p : List UInt8) (x : Nat × Nat) : stOf p = some x ↔ x.1 < 256 ∧ x.2 < 18446744073709551616 ∧ stB x = p := by
  constructor
  · intro h
    unfold stOf at h
    split at h
    · rename_i hc
      injection h with h
      subst h
      exact ⟨hc.2.1, numR_lt _, hc.2.2⟩
    · cases h
  · rintro ⟨h1, h2, rfl⟩
    unfold stOf
    rw [cut_stB]
    have e1 : numR (decDigits x.1) % 1000 = x.1 := by rw [numR_digits _ (by omega)]; omega
    have e2 := numR_digits x.2 h2
    simp only [e1, e2]
    rw [if_pos (by simp [h1])]

theorem stOf_stB {x : Nat × Nat} (h1 : x.1 < 256) (h2 : x.2 < 18446744073709551616) : stOf (stB x) = some x := (stOf_iff _ _).2 ⟨h1, h2, rfl⟩

/-- What the code reckons of a part. -/
theorem code_part (p : List UInt8) : (∃ x, stOf p = some x ∧ Lib.atoiAll (Lib.cut p [58]).1 = .ok (x.1 : Int) ∧ Lib.parseUintB 64 (Lib.cut p [58]).2.1 = .ok x.2 ∧ x.1 < 256 ∧ x.2 < 18446744073709551616 ∧ stB x = p) ∨
    (stOf p = none ∧ ∀ (a : Int) (b : Nat), Lib.atoiAll (Lib.cut p [58]).1 = .ok a → Lib.parseUintB 64 (Lib.cut p [58]).2.1 = .ok b → 0 ≤ a → a < 256 → b < 18446744073709551616 ∧ stB (a.toNat, b) ≠ p) := by
  cases h : stOf p with
  | some x =>
    obtain ⟨h1, h2, rfl⟩ := (stOf_iff _ _).1 h
    refine .inl ⟨x, rfl, ?_, ?_, h1, h2, rfl⟩
    · rw [cut_stB]; exact atoi_digits _ (by omega)
    · rw [cut_stB]; exact parseB_digits _ h2
  | none =>
    refine .inr ⟨rfl, fun a b ha hb h0 h1 => ?_⟩
    have hlt : b < 18446744073709551616 := by
      unfold Lib.parseUintB at hb
      split at hb
      · cases hb
      · have := Lib.parseUintM_le _ _ _ _ (Nat.zero_le _) hb
        omega
    refine ⟨hlt, fun e => ?_⟩
    have := (stOf_iff p (a.toNat, b)).2 ⟨by show a.toNat < 256; omega, hlt, e⟩
    rw [h] at this
    cases this

/-! ### The parts of a text -/

def pieces : List UInt8 → List (List UInt8)
  | [] => [[]]
  | c :: r => if c = 32 then [] :: pieces r else match pieces r with | [] => [[c]] | p :: ps => (c :: p) :: ps

theorem pieces_ne : ∀ (s : List UInt8), pieces s ≠ []
  | [] => by simp [pieces]
  | c :: r => by
    unfold pieces
    split
    · simp
    · split <;> simp

theorem pieces_plain : ∀ (a : List UInt8), (32 : UInt8) ∉ a → pieces a = [a]
  | [], _ => rfl
  | c :: r, h => by
    have hc : ¬ c = 32 := fun e => h (by simp [e])
    rw [pieces, if_neg hc, pieces_plain r (fun m => h (by simp [m]))]

theorem pieces_at : ∀ (a b : List UInt8), (32 : UInt8) ∉ a → pieces (a ++ 32 :: b) = a :: pieces b
  | [], b, _ => by rw [List.nil_append, pieces, if_pos rfl]
  | c :: r, b, h => by
    have hc : ¬ c = 32 := fun e => h (by simp [e])
    rw [List.cons_append, pieces, if_neg hc, pieces_at r b (fun m => h (by simp [m]))]

theorem split_pieces : ∀ (s : List UInt8), Lib.splitK [32] 0 (s.count 32) s = pieces s := by
  intro s
  induction hn : s.length using Nat.strongRecOn generalizing s with
  | _ n ih =>
    by_cases h : (32 : UInt8) ∈ s
    · obtain ⟨a, b, rfl, ha⟩ := first_at 32 s h
      have hca : a.count 32 = 0 := List.count_eq_zero.2 ha
      have hc : (a ++ 32 :: b).count 32 = b.count 32 + 1 := by rw [List.count_append, hca, List.count_cons_self]; omega
      rw [pieces_at a b ha, hc, Lib.splitK, index_byte 32 a b ha]
      have e2 : (((a.length : Nat) : Int) == -1) = false := by simp
      rw [e2, if_neg (by simp)]
      have e3 : (a ++ 32 :: b).take (((a.length : Nat) : Int).toNat + 0) = a := by simp
      have e4 : (a ++ 32 :: b).drop (((a.length : Nat) : Int).toNat + [(32 : UInt8)].length) = b := by simp
      rw [e3, e4, ih b.length (by subst hn; simp; omega) b rfl]
    · rw [pieces_plain s h, List.count_eq_zero.2 h]
      rfl

theorem pieces_join : ∀ (r : List (List UInt8)) (x : List UInt8), (32 : UInt8) ∉ x → (∀ y ∈ r, (32 : UInt8) ∉ y) → pieces (x ++ Lib.joinTail [32] r) = x :: r
  | [], x, hx, _ => by simp [Lib.joinTail]; exact pieces_plain x hx
  | y :: r, x, hx, hr => by
    have e : x ++ Lib.joinTail [32] (y :: r) = x ++ 32 :: (y ++ Lib.joinTail [32] r) := by simp [Lib.joinTail]
    rw [e, pieces_at x _ hx, pieces_join r y (hr y (by simp)) (fun z hz => hr z (by simp [hz]))]

/-! ### What is read -/

/-- What is read out of parts: the stamps, the place, the code's number. -/
def readP : List (List UInt8) → List (Nat × Nat) → Nat → List (Nat × Nat) × Nat × Int
  | [], out, _ => (out, 0, 0)
  | p :: ps, out, at_ =>
    match stOf p with
    | none => ([], at_, 21)
    | some x => if out.getLast?.any (fun y => decide (x.1 ≤ y.1)) = true then ([], at_, 21) else readP ps (out ++ [x]) (at_ + p.length + 1)

/-- What is read out of a text. -/
def readT (s : List UInt8) : List (Nat × Nat) × Nat × Int := if s = [45] then ([], 0, 0) else readP (pieces s) [] 0

/-- A rising row's own texts are read back. -/
theorem readP_back : ∀ (l out : List (Nat × Nat)) (at_ : Nat), (∀ x ∈ l, x.1 < 256 ∧ x.2 < 18446744073709551616) → (out ++ l).Pairwise (fun a b => a.1 < b.1) → readP (l.map stB) out at_ = (out ++ l, 0, 0)
  | [], out, at_, _, _ => by simp [readP]
  | x :: l, out, at_, h, hp => by
    obtain ⟨h1, h2⟩ := h x (by simp)
    have hl : out.getLast?.any (fun y => decide (x.1 ≤ y.1)) = false := by
      cases hg : out.getLast? with
      | none => rfl
      | some y =>
        have hy : y ∈ out := List.mem_of_getLast? hg
        have := (List.pairwise_append.1 hp).2.2 y hy x (by simp)
        simp
        omega
    rw [List.map_cons, readP, stOf_stB h1 h2]
    simp only [hl]
    rw [if_neg (by simp), readP_back l (out ++ [x]) _ (fun z hz => h z (by simp [hz])) (by simpa using hp)]
    simp

theorem no_blank (x : Nat × Nat) : (32 : UInt8) ∉ stB x := fun h => by
  have e : (32 : UInt8).toNat = 32 := rfl
  rcases List.mem_append.1 h with h | h
  · have := digits_range _ _ h; omega
  · rcases List.mem_cons.1 h with h | h
    · exact absurd h (by decide)
    · have := digits_range _ _ h; omega

/-- A vector's text. -/
def textOf (l : List (Nat × Nat)) : List UInt8 := if l = [] then [45] else Lib.join (l.map stB) [32]

theorem readT_back (l : List (Nat × Nat)) (h : ∀ x ∈ l, x.1 < 256 ∧ x.2 < 18446744073709551616) (hp : l.Pairwise (fun a b => a.1 < b.1)) : readT (textOf l) = (l, 0, 0) := by
  cases l with
  | nil => rfl
  | cons x r =>
    have e1 : textOf (x :: r) = stB x ++ Lib.joinTail [32] (r.map stB) := by
      unfold textOf
      rw [if_neg (by simp), List.map_cons, Lib.join_cons]
    have e2 : ¬ textOf (x :: r) = [45] := by
      rw [e1]
      cases hd : decDigits x.1 with
      | nil => exact absurd hd (digits_ne _)
      | cons c q =>
        have hc := digits_range x.1 c (by rw [hd]; simp)
        intro e
        unfold stB at e
        rw [hd] at e
        simp only [List.cons_append, List.cons.injEq] at e
        have e3 := e.1
        subst e3
        have : (45 : UInt8).toNat = 45 := rfl
        omega
    unfold readT
    rw [if_neg e2, e1, pieces_join _ _ (no_blank x) (fun y hy => by obtain ⟨z, _, rfl⟩ := List.mem_map.1 hy; exact no_blank z)]
    have := readP_back (x :: r) [] 0 h (by simpa using hp)
    rw [List.map_cons, List.nil_append] at this
    exact this
end Tx
end Go.Proofs.YtlmpaeefhpahoaaDoor
