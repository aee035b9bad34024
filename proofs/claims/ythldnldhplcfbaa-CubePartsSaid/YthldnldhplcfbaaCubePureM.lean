/-
  Plain laws: in which parts of a cut a header lies; that the parts of a cut are apart; no program here.
-/
import Derived.Test.YthldnldhplcfbaaCubeLB
import Derived.Test.YthldnldhplcfbaaCubePureL
namespace Go.Proofs.Ythldnldhplcfbaa.Cb

/-- Does a header's byte lie in a cube's? -/
def mB (x h : UInt8) : Bool := x == 120 || h == x
/-- Does a header lie in a cube as wide? -/
def memC : List UInt8 → List UInt8 → Bool
  | x :: c, y :: h => mB x y && memC c h
  | _, _ => true

theorem memC_meet : ∀ (c h : List UInt8), c.length = h.length → (∀ x ∈ h, x ≠ 120) → (meet c h).isSome = memC c h
  | [], [], _, _ => by simp [meet, memC]
  | x :: c, y :: h, hl, hx => by
    have ih := memC_meet c h (by simpa using hl) (fun z hz => hx z (List.mem_cons_of_mem _ hz))
    have hy : y ≠ 120 := hx y (List.mem_cons_self ..)
    have e : ok2 x y = mB x y := by
      unfold ok2 mB
      have : (y == 120) = false := by simpa using hy
      rw [this, Bool.or_false]
    rw [meet_cons, e]
    unfold memC
    cases mB x y with
    | true => rw [if_pos rfl]; rw [← ih]; cases meet c h <;> simp
    | false => simp
  | [], _ :: _, h, _ => by simp at h
  | _ :: _, [], h, _ => by simp at h

/-- The parts of a cut, a byte at a time. -/
def parts : List UInt8 → List UInt8 → List (List UInt8)
  | x :: a, y :: b => (if x == 120 && y != 120 then [other y :: a] else []) ++ (parts a b).map (mb x y :: ·)
  | _, _ => []

theorem parts_cons (x y : UInt8) (a b : List UInt8) : parts (x :: a) (y :: b) = (if x == 120 && y != 120 then [other y :: a] else []) ++ (parts a b).map (mb x y :: ·) := rfl

theorem cutAt_succ (x y z : UInt8) (a b m : List UInt8) (i : Nat) : cutAt (x :: a) (y :: b) (z :: m) (i + 1) = (cutAt a b m i).map (z :: ·) := by
  unfold cutAt
  simp only [List.getD_cons_succ, List.take_succ_cons, List.drop_succ_cons, List.cons_append]
  split <;> simp

theorem cutTo_parts : ∀ (a b : List UInt8), a.length = b.length → cutTo a b (List.zipWith mb a b) a.length = parts a b
  | [], [], _ => rfl
  | x :: a, y :: b, hl => by
    have ih := cutTo_parts a b (by simpa using hl)
    unfold cutTo at ih ⊢
    rw [List.length_cons, List.range_succ_eq_map, List.filterMap_cons, List.zipWith_cons_cons]
    have e : (List.map Nat.succ (List.range a.length)).filterMap (cutAt (x :: a) (y :: b) (mb x y :: List.zipWith mb a b)) = (parts a b).map (mb x y :: ·) := by
      rw [List.filterMap_map, ← ih, List.map_filterMap]
      congr 1
      funext i
      exact cutAt_succ x y (mb x y) a b _ i
    rw [e, parts_cons]
    unfold cutAt
    simp only [List.getD_cons_zero, List.take_zero, List.nil_append, List.drop_succ_cons, List.drop_zero, List.cons_append]
    by_cases h : (x == 120 && y != 120) = true
    · simp [h]
    · simp only [h, if_false, Bool.false_eq_true, List.nil_append]
  | [], _ :: _, h => by simp at h
  | _ :: _, [], h => by simp at h

theorem cut_parts {a b : List UInt8} (hl : a.length = b.length) : cut a b = if (meet a b).isSome then parts a b else [a] := by
  unfold cut
  cases hm : meet a b with
  | none => simp
  | some m =>
    have : m = List.zipWith mb a b := by
      unfold meet at hm
      split at hm
      · injection hm with hm; exact hm.symm
      · cases hm
    simp only [Option.isSome_some, if_true, this]
    exact cutTo_parts a b hl

/-- Bits alone. -/
def bits (h : List UInt8) : Prop := ∀ x ∈ h, x = 48 ∨ x = 49
/-- Bits and free ones. -/
def trits (c : List UInt8) : Prop := ∀ x ∈ c, x = 48 ∨ x = 49 ∨ x = 120

theorem other_ne {y h : UInt8} (hy : y = 48 ∨ y = 49) (hh : h = 48 ∨ h = 49) : (h == other y) = !(h == y) := by
  rcases hy with rfl | rfl <;> rcases hh with rfl | rfl <;> rfl

theorem any_parts : ∀ (a b h : List UInt8), a.length = b.length → a.length = h.length → trits b → bits h → (meet a b).isSome = true → (parts a b).any (memC · h) = (memC a h && !memC b h)
  | [], [], [], _, _, _, _, _ => by simp [parts, memC]
  | x :: a, y :: b, z :: h, h1, h2, hb, hh, hm => by
    have hz : z = 48 ∨ z = 49 := hh z (List.mem_cons_self ..)
    have hy := hb y (List.mem_cons_self ..)
    rw [meet_cons] at hm
    have hok : ok2 x y = true := by
      cases h : ok2 x y with
      | true => rfl
      | false => rw [h] at hm; simp at hm
    rw [if_pos hok] at hm
    have hm2 : (meet a b).isSome = true := by cases h : meet a b with
      | none => rw [h] at hm; simp at hm
      | some m => rfl
    have ih := any_parts a b h (by simpa using h1) (by simpa using h2) (fun w hw => hb w (List.mem_cons_of_mem _ hw)) (fun w hw => hh w (List.mem_cons_of_mem _ hw)) hm2
    have e : ((parts a b).map (mb x y :: ·)).any (memC · (z :: h)) = (mB (mb x y) z && (memC a h && !memC b h)) := by
      rw [List.any_map, ← ih]
      have : ((fun x => memC x (z :: h)) ∘ fun x_1 => mb x y :: x_1) = fun p => (mB (mb x y) z && memC p h) := rfl
      rw [this]
      cases mB (mb x y) z <;> simp
    unfold parts
    rw [List.any_append, e]
    by_cases hx : x = 120
    · subst hx
      by_cases hy2 : y = 120
      · subst hy2
        simp [mb, mB, memC]
      · have hy3 : y = 48 ∨ y = 49 := by rcases hy with h | h | h <;> first | exact .inl h | exact .inr h | exact absurd h hy2
        have e1 : (y != 120) = true := by simpa using hy2
        have e2 : (y == 120) = false := by simpa using hy2
        have e4 : mB (other y) z = (z == other y) := by
          unfold mB
          have : (other y == 120) = false := by rcases hy3 with rfl | rfl <;> rfl
          rw [this, Bool.false_or]
        simp only [e1, beq_self_eq_true, Bool.and_self, if_true, List.any_cons, List.any_nil, Bool.or_false, memC, mb, mB, e2, Bool.true_or, Bool.true_and, Bool.false_or]
        have e5 : (other y == 120) = false := by rcases hy3 with rfl | rfl <;> rfl
        rw [e5, Bool.false_or, other_ne hy3 hz]
        cases (z == y) <;> cases memC a h <;> cases memC b h <;> rfl
    · have hx2 : (x == 120) = false := by simpa using hx
      have e1 : mb x y = x := by unfold mb; rw [hx2]; rfl
      simp only [hx2, Bool.false_and, Bool.false_eq_true, if_false, List.any_nil, Bool.false_or, e1, memC]
      have hyx : y = 120 ∨ y = x := by
        unfold ok2 at hok
        simp [hx] at hok
        exact hok
      rcases hyx with rfl | rfl
      · simp [mB, hx2]; cases (z == x) <;> simp
      · cases mB y z <;> simp
  | [], [], _ :: _, _, h, _, _, _ => by simp at h
  | [], _ :: _, _, h, _, _, _, _ => by simp at h
  | _ :: _, [], _, h, _, _, _, _ => by simp at h
  | _ :: _, _ :: _, [], _, h, _, _, _ => by simp at h

/-- A header in both: they meet. -/
theorem meet_of_mem : ∀ (a b h : List UInt8), a.length = b.length → a.length = h.length → memC a h = true → memC b h = true → (meet a b).isSome = true
  | [], [], [], _, _, _, _ => by simp [meet]
  | x :: a, y :: b, z :: h, h1, h2, h3, h4 => by
    unfold memC at h3 h4
    simp only [Bool.and_eq_true] at h3 h4
    have ih := meet_of_mem a b h (by simpa using h1) (by simpa using h2) h3.2 h4.2
    have hok : ok2 x y = true := by
      have a1 := h3.1
      have a2 := h4.1
      unfold mB at a1 a2
      unfold ok2
      simp only [Bool.or_eq_true, beq_iff_eq] at a1 a2 ⊢
      rcases a1 with a1 | a1
      · exact .inl (.inl a1)
      · rcases a2 with a2 | a2
        · exact .inl (.inr a2)
        · exact .inr (a2.symm.trans a1)
    rw [meet_cons, if_pos hok]
    cases hm : meet a b with
    | none => rw [hm] at ih; cases ih
    | some m => rfl
  | [], [], _ :: _, _, h, _, _ => by simp at h
  | [], _ :: _, _, h, _, _, _ => by simp at h
  | _ :: _, [], _, h, _, _, _ => by simp at h
  | _ :: _, _ :: _, [], _, h, _, _ => by simp at h

theorem any_cut {a b h : List UInt8} (h1 : a.length = b.length) (h2 : a.length = h.length) (hb : trits b) (hh : bits h) : (cut a b).any (memC · h) = (memC a h && !memC b h) := by
  rw [cut_parts h1]
  cases hm : (meet a b).isSome with
  | true => rw [if_pos rfl]; exact any_parts a b h h1 h2 hb hh hm
  | false =>
    rw [if_neg (by simp)]
    simp only [List.any_cons, List.any_nil, Bool.or_false]
    cases ha : memC a h with
    | false => rfl
    | true =>
      cases hb2 : memC b h with
      | false => rfl
      | true => have := meet_of_mem a b h h1 h2 ha hb2; rw [this] at hm; cases hm

theorem any_foldC {b h : List UInt8} {n : Nat} (hbl : b.length = n) (hhl : h.length = n) (hb : trits b) (hh : bits h) : ∀ (l R R' : List (List UInt8)), wide n l → l.foldlM (nextC b) R = some R' → R'.any (memC · h) = (R.any (memC · h) || (l.any (memC · h) && !memC b h))
  | [], R, R', _, h2 => by simp at h2; subst h2; simp
  | a :: l, R, R', hw, h2 => by
    rw [List.foldlM_cons] at h2
    cases h3 : nextC b R a with
    | none => rw [h3] at h2; cases h2
    | some R1 =>
      rw [h3] at h2
      have ih := any_foldC hbl hhl hb hh l R1 R' (fun r hr => hw r (List.mem_cons_of_mem _ hr)) h2
      have ha := hw a (List.mem_cons_self ..)
      unfold nextC at h3
      split at h3
      · cases h3
      · injection h3 with h3
        rw [ih, ← h3, List.any_append, any_cut (by omega) (by omega) hb hh, List.any_cons]
        cases R.any (memC · h) <;> cases memC a h <;> cases memC b h <;> cases l.any (memC · h) <;> rfl

theorem any_next {b h : List UInt8} {R R' : List (List UInt8)} {n : Nat} (hbl : b.length = n) (hhl : h.length = n) (hb : trits b) (hh : bits h) (hw : wide n R) (h2 : nextS b R = some R') : R'.any (memC · h) = (R.any (memC · h) && !memC b h) := by
  rw [any_foldC hbl hhl hb hh R [] R' hw h2]
  simp

theorem any_left {h : List UInt8} {n : Nat} (hhl : h.length = n) (hh : bits h) : ∀ (ls R R' : List (List UInt8)), wide n ls → (∀ b ∈ ls, trits b) → wide n R → R.length ≤ 16384 → ls.foldlM (fun rest b => nextS b rest) R = some R' → R'.any (memC · h) = (R.any (memC · h) && !ls.any (memC · h))
  | [], R, R', _, _, _, _, h2 => by simp at h2; subst h2; simp
  | b :: ls, R, R', hw, ht, hR, hl, h2 => by
    rw [List.foldlM_cons] at h2
    cases h3 : nextS b R with
    | none => rw [h3] at h2; cases h2
    | some R1 =>
      rw [h3] at h2
      obtain ⟨w1, l1⟩ := nextS_wide (hw b (List.mem_cons_self ..)) hR h3
      have ih := any_left hhl hh ls R1 R' (fun r hr => hw r (List.mem_cons_of_mem _ hr)) (fun r hr => ht r (List.mem_cons_of_mem _ hr)) w1 l1 h2
      rw [ih, any_next (hw b (List.mem_cons_self ..)) hhl (ht b (List.mem_cons_self ..)) hh hR h3, List.any_cons]
      cases R.any (memC · h) <;> cases memC b h <;> cases ls.any (memC · h) <;> rfl

theorem cube_trits {c : List UInt8} (h : isCube c = true) : trits c := by
  intro x hx
  unfold isCube ofB at h
  simp only [Bool.and_eq_true, List.all_eq_true] at h
  have := h.2 x hx
  simpa using this

theorem head_bits {c : List UInt8} (h : isHead c = true) : bits c := by
  intro x hx
  unfold isHead ofB at h
  simp only [Bool.and_eq_true, List.all_eq_true] at h
  have := h.2 x hx
  simpa using this

theorem cube_mk {c : List UInt8} (h1 : 1 ≤ c.length) (h2 : c.length ≤ 128) (h : trits c) : isCube c = true := by
  unfold isCube ofB
  simp only [Bool.and_eq_true, decide_eq_true_eq, List.all_eq_true]
  refine ⟨⟨h1, h2⟩, fun x hx => ?_⟩
  rcases h x hx with rfl | rfl | rfl <;> rfl

theorem parts_trits : ∀ (a b : List UInt8), trits a → trits b → ∀ p ∈ parts a b, trits p
  | x :: a, y :: b, ha, hb, p, hp => by
    have ih := parts_trits a b (fun w hw => ha w (List.mem_cons_of_mem _ hw)) (fun w hw => hb w (List.mem_cons_of_mem _ hw))
    unfold parts at hp
    rcases List.mem_append.1 hp with h | h
    · split at h
      · simp at h
        subst h
        intro w hw
        rcases List.mem_cons.1 hw with rfl | hw
        · unfold other; split <;> simp
        · exact ha w (List.mem_cons_of_mem _ hw)
      · simp at h
    · obtain ⟨q, hq, rfl⟩ := List.mem_map.1 h
      intro w hw
      rcases List.mem_cons.1 hw with rfl | hw
      · unfold mb; split
        · exact hb y (List.mem_cons_self ..)
        · exact ha x (List.mem_cons_self ..)
      · exact ih q hq w hw
  | [], _, _, _, p, hp => by simp [parts] at hp
  | _ :: _, [], _, _, p, hp => by simp [parts] at hp

theorem cut_cube {a b : List UInt8} (ha : isCube a = true) (hb : isCube b = true) (hl : a.length = b.length) : ∀ p ∈ cut a b, isCube p = true := by
  intro p hp
  have hpl := cut_len hl.symm p hp
  have h := ofB_len ha
  refine cube_mk (by omega) (by omega) ?_
  rw [cut_parts hl] at hp
  split at hp
  · exact parts_trits a b (cube_trits ha) (cube_trits hb) p hp
  · simp at hp; subst hp; exact cube_trits ha

theorem foldC_cube {b : List UInt8} (hb : isCube b = true) : ∀ (l R R' : List (List UInt8)), (∀ r ∈ l, isCube r = true ∧ r.length = b.length) → (∀ r ∈ R, isCube r = true) → l.foldlM (nextC b) R = some R' → ∀ r ∈ R', isCube r = true
  | [], R, R', _, hR, h => by simp at h; subst h; exact hR
  | a :: l, R, R', hw, hR, h => by
    rw [List.foldlM_cons] at h
    cases h3 : nextC b R a with
    | none => rw [h3] at h; cases h
    | some R1 =>
      rw [h3] at h
      unfold nextC at h3
      split at h3
      · cases h3
      · injection h3 with h3
        refine foldC_cube hb l R1 R' (fun r hr => hw r (List.mem_cons_of_mem _ hr)) ?_ h
        rw [← h3]
        intro r hr
        rcases List.mem_append.1 hr with hr | hr
        · exact hR r hr
        · have ha := hw a (List.mem_cons_self ..)
          exact cut_cube ha.1 hb ha.2 r hr

theorem left_cube {n : Nat} : ∀ (ls R R' : List (List UInt8)), wide n ls → (∀ b ∈ ls, isCube b = true) → wide n R → R.length ≤ 16384 → (∀ r ∈ R, isCube r = true) → ls.foldlM (fun rest b => nextS b rest) R = some R' → ∀ r ∈ R', isCube r = true
  | [], R, R', _, _, _, _, hc, h2 => by simp at h2; subst h2; exact hc
  | b :: ls, R, R', hw, ht, hR, hl, hc, h2 => by
    rw [List.foldlM_cons] at h2
    cases h3 : nextS b R with
    | none => rw [h3] at h2; cases h2
    | some R1 =>
      rw [h3] at h2
      have hbn := hw b (List.mem_cons_self ..)
      obtain ⟨w1, l1⟩ := nextS_wide hbn hR h3
      exact left_cube ls R1 R' (fun r hr => hw r (List.mem_cons_of_mem _ hr)) (fun r hr => ht r (List.mem_cons_of_mem _ hr)) w1 l1
        (foldC_cube (ht b (List.mem_cons_self ..)) R [] R1 (fun r hr => ⟨hc r hr, by rw [hR r hr, hbn]⟩) (fun r hr => by simp at hr) h3) h2

/-- What the program's Has says, where all is as wide. -/
theorem HasS_mem {c h : List UInt8} (hc : isCube c = true) (hh : isHead h = true) (hl : c.length = h.length) : HasS c h = (memC c h, 0) := by
  unfold HasS
  rw [hc, hh, wrong_pair hc (isHead_cube hh), if_pos (by simp), if_pos hl.symm, if_pos rfl, memC_meet c h hl (head_no_x hh)]

theorem HasS_zero {c h : List UInt8} (h0 : (HasS c h).2 = 0) : isCube c = true ∧ isHead h = true ∧ c.length = h.length := by
  unfold HasS at h0
  by_cases hc : (isCube c && isHead h) = true
  · rw [if_pos hc] at h0
    simp only [Bool.and_eq_true] at hc
    refine ⟨hc.1, hc.2, ?_⟩
    rw [wrong_pair hc.1 (isHead_cube hc.2)] at h0
    by_cases hl : h.length = c.length
    · exact hl.symm
    · rw [if_neg hl] at h0; simp at h0
  · rw [if_neg hc] at h0; simp at h0

theorem HasS_true {c h : List UInt8} (h1 : (HasS c h).1 = true) : (HasS c h).2 = 0 := by
  unfold HasS at h1 ⊢
  split
  · rename_i hc
    rw [if_pos hc] at h1
    split
    · rfl
    · rename_i hw; rw [if_neg hw] at h1; simp at h1
  · rename_i hc; rw [if_neg hc] at h1; simp at h1

/-- Does a header lie in one of several? -/
def inS (ls : List (List UInt8)) (h : List UInt8) : Bool := ls.any fun c => (HasS c h).1

theorem inS_mem {ls : List (List UInt8)} {h : List UInt8} (hc : ∀ c ∈ ls, isCube c = true) (hh : isHead h = true) (hl : wide h.length ls) : inS ls h = ls.any (memC · h) := by
  unfold inS
  rw [Bool.eq_iff_iff, List.any_eq_true, List.any_eq_true]
  constructor
  · rintro ⟨c, hm, h1⟩
    exact ⟨c, hm, by rw [HasS_mem (hc c hm) hh (hl c hm)] at h1; exact h1⟩
  · rintro ⟨c, hm, h1⟩
    exact ⟨c, hm, by rw [HasS_mem (hc c hm) hh (hl c hm)]; exact h1⟩

/-- All that CubeAllOrLeft asks. -/
theorem allOrLeft_law {c h : List UInt8} {ls : List (List UInt8)} (h1 : (LeftS c ls).2 = 0) (h2 : (HasS c h).2 = 0) : inS (LeftS c ls).1 h = ((HasS c h).1 && !inS ls h) := by
  obtain ⟨hc, hh, hl⟩ := HasS_zero h2
  unfold LeftS at h1 ⊢
  by_cases hw : wrong (c :: ls) = 0
  · rw [if_pos hw] at h1 ⊢
    obtain ⟨hcu, hwi⟩ := wrong_zero hw
    have hwide : wide c.length ls := fun r hr => hwi r (List.mem_cons_of_mem _ hr)
    have hcs : ∀ r ∈ ls, isCube r = true := fun r hr => hcu r (List.mem_cons_of_mem _ hr)
    have hwide1 : wide c.length [c] := fun r hr => by simp at hr; rw [hr]
    cases hL : leftS c ls with
    | none => rw [hL] at h1; unfold resL at h1; simp at h1
    | some R =>
      unfold resL
      have hR := foldL_wide ls [c] R hwide hwide1 (by simp) hL
      have hRc := left_cube ls [c] R hwide hcs hwide1 (by simp) (fun r hr => by simp at hr; rw [hr]; exact hc) hL
      show inS R h = _
      rw [inS_mem hRc hh (by rw [← hl]; exact hR.1), inS_mem hcs hh (by rw [← hl]; exact hwide), HasS_mem hc hh hl,
        any_left hl.symm (head_bits hh) ls [c] R hwide (fun b hb => cube_trits (hcs b hb)) hwide1 (by simp) hL]
      simp
  · rw [if_neg hw] at h1; exact absurd h1 hw

theorem inS_cut {a b h : List UInt8} (hw : wrong [a, b] = 0) (h1 : (HasS a h).2 = 0) : inS (cut a b) h = ((HasS a h).1 && !(HasS b h).1) := by
  obtain ⟨ha, hb, hl⟩ := wrong_two hw
  obtain ⟨_, hh, hlh⟩ := HasS_zero h1
  rw [inS_mem (cut_cube ha hb hl.symm) hh (fun r hr => by rw [cut_len hl r hr, hlh]), HasS_mem ha hh hlh, HasS_mem hb hh (by omega), any_cut hl.symm hlh (cube_trits hb) (head_bits hh)]

/-! ### the parts of a cut are apart -/
theorem ok2_other {y : UInt8} (hy : y ≠ 120) (hy2 : y = 48 ∨ y = 49 ∨ y = 120) : ok2 (other y) y = false ∧ ok2 y (other y) = false := by
  rcases hy2 with rfl | rfl | rfl
  · exact ⟨rfl, rfl⟩
  · exact ⟨rfl, rfl⟩
  · exact absurd rfl hy

theorem parts_b : ∀ (a b : List UInt8), a.length = b.length → trits b → ∀ p ∈ parts a b, meet b p = none
  | x :: a, y :: b, hl, hb, p, hp => by
    have ih := parts_b a b (by simpa using hl) (fun w hw => hb w (List.mem_cons_of_mem _ hw))
    unfold parts at hp
    rcases List.mem_append.1 hp with h | h
    · split at h
      · rename_i hxy
        simp only [Bool.and_eq_true, beq_iff_eq, bne_iff_ne] at hxy
        simp at h
        subst h
        rw [meet_cons, (ok2_other hxy.2 (hb y (List.mem_cons_self ..))).2]
        simp
      · simp at h
    · obtain ⟨q, hq, rfl⟩ := List.mem_map.1 h
      rw [meet_cons, ih q hq]
      simp
  | [], _, _, _, p, hp => by simp [parts] at hp
  | _ :: _, [], _, _, p, hp => by simp [parts] at hp

theorem parts_apart : ∀ (a b : List UInt8), a.length = b.length → trits b → (parts a b).Pairwise fun p q => meet q p = none
  | x :: a, y :: b, hl, hb => by
    have ih := parts_apart a b (by simpa using hl) (fun w hw => hb w (List.mem_cons_of_mem _ hw))
    unfold parts
    rw [List.pairwise_append]
    refine ⟨?_, ?_, ?_⟩
    · split <;> simp
    · rw [List.pairwise_map]
      exact ih.imp (fun {p q} h => by rw [meet_cons, h]; simp)
    · intro p hp q hq
      split at hp
      · rename_i hxy
        simp only [Bool.and_eq_true, beq_iff_eq, bne_iff_ne] at hxy
        simp at hp
        subst hp
        obtain ⟨q', _, rfl⟩ := List.mem_map.1 hq
        have : mb x y = y := by unfold mb; rw [hxy.1]; rfl
        rw [this, meet_cons, (ok2_other hxy.2 (hb y (List.mem_cons_self ..))).2]
        simp
      · simp at hp
  | [], _, _, _ => by simp [parts]
  | _ :: _, [], _, _ => by simp [parts]

theorem apartS_pairwise (ls : List (List UInt8)) (h : ls.Pairwise fun p q => meet q p = none) : apartS ls = true := by
  unfold apartS
  rw [List.all_eq_true]
  intro i hi
  have hi' : i < ls.length := List.mem_range.1 hi
  unfold apartAt
  rw [List.all_eq_true]
  intro b hb
  obtain ⟨k, hk, rfl⟩ := List.getElem_of_mem hb
  have hk' : k < i := by simp at hk; omega
  have e : ls.getD i [] = ls[i] := by rw [List.getD_eq_getElem?_getD, List.getElem?_eq_getElem hi']; rfl
  rw [e]
  have := List.pairwise_iff_getElem.1 h k i (by omega) hi' hk'
  simp [this]

/-- The parts of a cut, and what was cut off, are apart. -/
theorem cut_apart {a b : List UInt8} (hw : wrong [a, b] = 0) : ApartS (cut a b ++ [b]) = (true, 0) := by
  obtain ⟨ha, hb, hl⟩ := wrong_two hw
  have hlen : ∀ r ∈ cut a b ++ [b], r.length = a.length := fun r hr => by
    rcases List.mem_append.1 hr with h | h
    · exact cut_len hl r h
    · simp at h; rw [h]; exact hl
  have hcu : ∀ r ∈ cut a b ++ [b], isCube r = true := fun r hr => by
    rcases List.mem_append.1 hr with h | h
    · exact cut_cube ha hb hl.symm r h
    · simp at h; rw [h]; exact hb
  have hw0 : wrong (cut a b ++ [b]) = 0 := by
    unfold wrong
    rw [if_pos (List.all_eq_true.2 hcu), if_pos]
    rw [List.all_eq_true]
    intro r hr
    have hne : cut a b ++ [b] ≠ [] := by simp
    obtain ⟨r0, t, ht⟩ := List.exists_cons_of_ne_nil hne
    have h0 : r0.length = a.length := hlen r0 (by rw [ht]; simp)
    rw [ht]
    simp [hlen r hr, h0]
  unfold ApartS
  rw [if_pos hw0]
  congr 1
  apply apartS_pairwise
  rw [List.pairwise_append]
  refine ⟨?_, by simp, fun p hp q hq => ?_⟩
  · rw [cut_parts hl.symm]
    split
    · exact parts_apart a b hl.symm (cube_trits hb)
    · simp
  · simp at hq
    subst hq
    rw [cut_parts hl.symm] at hp
    split at hp
    · exact parts_b a q hl.symm (cube_trits hb) p hp
    · rename_i hn
      simp at hp
      subst hp
      rw [meet_comm]
      cases h : meet p q with
      | none => rfl
      | some m => rw [h] at hn; simp at hn
end Go.Proofs.Ythldnldhplcfbaa.Cb
