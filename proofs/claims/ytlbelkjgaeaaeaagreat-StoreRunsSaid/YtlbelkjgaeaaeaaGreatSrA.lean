/-
  The laws CubeCuts, CubeMeets and CubeOrder of layer 1, walked.
-/
import Derived.Test.YtlbelkjgaeaaeaaGreatCubeS
import Derived.Test.YtlbelkjgaeaaeaaGreatCubePureL
import Derived.Test.YtlbelkjgaeaaeaaGreatFibF
import Derived.Test.YtlbelkjgaeaaeaaGreatFibD
import Derived.Test.YtlbelkjgaeaaeaaGreatCubeD
namespace Go.Proofs.YtlbelkjgaeaaeaaGreat
open Go.RowKit

theorem reach_max {n : Nat} (h : n ≤ 140737488351232) : n ≤ maxLen := by unfold maxLen; omega

theorem Cb.ok2_comm (x y : UInt8) : Cb.ok2 x y = Cb.ok2 y x := by
  unfold Cb.ok2
  rw [Bool.eq_iff_iff]
  simp only [Bool.or_eq_true, beq_iff_eq]
  constructor <;> (intro h; rcases h with (h | h) | h <;> simp [h])

theorem Cb.mb_comm {x y : UInt8} (h : Cb.ok2 x y = true) : Cb.mb x y = Cb.mb y x := by
  unfold Cb.ok2 at h
  unfold Cb.mb
  simp only [Bool.or_eq_true, beq_iff_eq] at h
  by_cases hx : x = 120
  · by_cases hy : y = 120
    · simp [hx, hy]
    · simp [hx, hy]
  · by_cases hy : y = 120
    · simp [hx, hy]
    · rcases h with (h | h) | h
      · exact absurd h hx
      · exact absurd h hy
      · simp [h]

theorem Cb.meet_comm : ∀ (a b : List UInt8), Cb.meet a b = Cb.meet b a
  | [], [] => rfl
  | [], _ :: _ => by simp [Cb.meet]
  | _ :: _, [] => by simp [Cb.meet]
  | x :: a, y :: b => by
    rw [Cb.meet_cons, Cb.meet_cons, Cb.meet_comm a b, Cb.ok2_comm x y]
    by_cases h : Cb.ok2 y x = true
    · rw [if_pos h, if_pos h, Cb.mb_comm (by rw [Cb.ok2_comm]; exact h)]
    · rw [if_neg h, if_neg h]

theorem Cb.wrong_comm (a b : List UInt8) : Cb.wrong [a, b] = Cb.wrong [b, a] := by
  unfold Cb.wrong
  by_cases ha : Cb.isCube a = true <;> by_cases hb : Cb.isCube b = true <;> simp [ha, hb]
  by_cases h : b.length = a.length
  · simp [h]
  · rw [if_neg h, if_neg (fun e => h e.symm)]

theorem Cb.MeetS_comm (a b : List UInt8) : Cb.MeetS a b = Cb.MeetS b a := by
  unfold Cb.MeetS
  rw [Cb.wrong_comm, Cb.meet_comm]

/-- What lies inside both lies inside what they have in common. -/
theorem Cb.inside_both : ∀ (a b c m : List UInt8), a.length = c.length → b.length = c.length → Cb.meet c a = some c → Cb.meet c b = some c → Cb.meet a b = some m → Cb.meet c m = some c
  | [], [], [], m, _, _, _, _, h => by simp [Cb.meet]
  | x :: a, y :: b, z :: c, m, h1, h2, h3, h4, h5 => by
    rw [Cb.meet_cons] at h3 h4 h5
    by_cases k3 : Cb.ok2 z x = true
    · rw [if_pos k3] at h3
      by_cases k4 : Cb.ok2 z y = true
      · rw [if_pos k4] at h4
        by_cases k5 : Cb.ok2 x y = true
        · rw [if_pos k5] at h5
          obtain ⟨c1, e1, f1⟩ := Option.map_eq_some_iff.1 h3
          obtain ⟨c2, e2, f2⟩ := Option.map_eq_some_iff.1 h4
          obtain ⟨m2, e3, f3⟩ := Option.map_eq_some_iff.1 h5
          injection f1 with g1 g2
          injection f2 with g3 g4
          subst g2 g4 f3
          have ih := Cb.inside_both a b c2 m2 (by simpa using h1) (by simpa using h2) e1 e2 e3
          rw [Cb.meet_cons, ih]
          have hz : Cb.ok2 z (Cb.mb x y) = true ∧ Cb.mb z (Cb.mb x y) = z := by
            unfold Cb.mb at g1 g3 ⊢
            unfold Cb.ok2 at k3 k4 k5 ⊢
            by_cases hz : z = 120
            · subst hz
              simp at g1 g3
              simp [g1, g3]
            · by_cases hx : x = 120
              · simp [hx, hz] at k4 ⊢
                exact k4
              · simp [hx, hz] at k3 ⊢
                exact k3
          rw [if_pos hz.1, hz.2]
          rfl
        · rw [if_neg k5] at h5; cases h5
      · rw [if_neg k4] at h4; cases h4
    · rw [if_neg k3] at h3; cases h3
  | [], _ :: _, [], _, _, h, _, _, _ => by simp at h
  | [], _, _ :: _, _, h, _, _, _, _ => by simp at h
  | _ :: _, _, [], _, h, _, _, _, _ => by simp at h
  | _ :: _, [], _ :: _, _, _, h, _, _, _ => by simp at h

end Go.Proofs.YtlbelkjgaeaaeaaGreat
/-
  The law CubeOrder of layer 1, walked.
-/
namespace Go.Proofs.YtlbelkjgaeaaeaaGreat
open Go.RowKit

theorem InsideS_true {a b : List UInt8} (h : Cb.InsideS a b = (true, 0)) : Cb.wrong [a, b] = 0 ∧ Cb.meet a b = some a := by
  unfold Cb.InsideS at h
  by_cases hw : Cb.wrong [a, b] = 0
  · rw [if_pos hw] at h
    refine ⟨hw, ?_⟩
    cases hm : Cb.meet a b with
    | none => rw [hm] at h; simp at h
    | some m => rw [hm] at h; simp at h; rw [h]
  · rw [if_neg hw] at h; simp at h

theorem InsideS_mk {a b : List UInt8} (h1 : Cb.wrong [a, b] = 0) (h2 : Cb.meet a b = some a) : Cb.InsideS a b = (true, 0) := by
  unfold Cb.InsideS
  rw [if_pos h1, h2]
  simp

theorem both_meet : ∀ (a b c : List UInt8), a.length = c.length → b.length = c.length → Cb.meet c a = some c → Cb.meet c b = some c → ∃ m, Cb.meet a b = some m
  | [], [], [], _, _, _, _ => ⟨[], by simp [Cb.meet]⟩
  | x :: a, y :: b, z :: c, h1, h2, h3, h4 => by
    rw [Cb.meet_cons] at h3 h4 ⊢
    by_cases k3 : Cb.ok2 z x = true
    · rw [if_pos k3] at h3
      by_cases k4 : Cb.ok2 z y = true
      · rw [if_pos k4] at h4
        obtain ⟨c1, e1, f1⟩ := Option.map_eq_some_iff.1 h3
        obtain ⟨c2, e2, f2⟩ := Option.map_eq_some_iff.1 h4
        injection f1 with g1 g2
        injection f2 with g3 g4
        subst g2 g4
        obtain ⟨m, hm⟩ := both_meet a b c2 (by simpa using h1) (by simpa using h2) e1 e2
        have k5 : Cb.ok2 x y = true := by
          unfold Cb.mb at g1 g3
          unfold Cb.ok2 at k3 k4 ⊢
          by_cases hz : z = 120
          · subst hz
            simp at g1
            simp [g1]
          · simp [hz] at k3 k4
            rcases k3 with k3 | k3 <;> rcases k4 with k4 | k4 <;> simp [k3, k4]
        rw [if_pos k5, hm]
        exact ⟨_, rfl⟩
      · rw [if_neg k4] at h4; cases h4
    · rw [if_neg k3] at h3; cases h3
  | [], _ :: _, [], _, h, _, _ => by simp at h
  | [], _, _ :: _, h, _, _, _ => by simp at h
  | _ :: _, _, [], h, _, _, _ => by simp at h
  | _ :: _, [], _ :: _, _, h, _, _ => by simp at h

theorem meet_mem : ∀ (a b m : List UInt8), a.length = b.length → Cb.meet a b = some m → m.length = a.length ∧ ∀ c ∈ m, c ∈ a ∨ c ∈ b
  | [], [], m, _, h => by simp [Cb.meet] at h; subst h; simp
  | x :: a, y :: b, m, hl, h => by
    rw [Cb.meet_cons] at h
    split at h
    · obtain ⟨m2, e, f⟩ := Option.map_eq_some_iff.1 h
      subst f
      obtain ⟨h1, h2⟩ := meet_mem a b m2 (by simpa using hl) e
      refine ⟨by simpa using h1, fun c hc => ?_⟩
      rcases List.mem_cons.1 hc with rfl | hc
      · unfold Cb.mb; split <;> simp
      · rcases h2 c hc with h | h
        · exact .inl (List.mem_cons_of_mem _ h)
        · exact .inr (List.mem_cons_of_mem _ h)
    · cases h
  | [], _ :: _, _, h, _ => by simp at h
  | _ :: _, [], _, h, _ => by simp at h

theorem meet_cube {a b m : List UInt8} (ha : Cb.isCube a = true) (hb : Cb.isCube b = true) (hl : a.length = b.length) (h : Cb.meet a b = some m) : Cb.isCube m = true ∧ m.length = a.length := by
  obtain ⟨h1, h2⟩ := meet_mem a b m hl h
  refine ⟨?_, h1⟩
  unfold Cb.isCube Cb.ofB at ha hb ⊢
  simp only [Bool.and_eq_true, decide_eq_true_eq, List.all_eq_true] at ha hb ⊢
  rw [h1]
  refine ⟨ha.1, fun c hc => ?_⟩
  rcases h2 c hc with h | h
  · exact ha.2 c h
  · exact hb.2 c h

/-- All that CubeOrder asks, in plain words. -/
theorem order_law {a b c x : List UInt8} {ok : Bool} (hM : Cb.MeetS a b = (x, ok, 0)) (h1 : Cb.InsideS c a = (true, 0)) (h2 : Cb.InsideS c b = (true, 0)) : ok = true ∧ Cb.InsideS c x = (true, 0) ∧ x.length ≤ 128 := by
  obtain ⟨w1, m1⟩ := InsideS_true h1
  obtain ⟨w2, m2⟩ := InsideS_true h2
  obtain ⟨ca, cb, hl⟩ := Cb.wrong_two w1
  obtain ⟨_, cc, hl2⟩ := Cb.wrong_two w2
  have hw : Cb.wrong [a, b] = 0 := by rw [Cb.wrong_pair cb cc, if_pos (by omega)]
  unfold Cb.MeetS at hM
  rw [if_pos hw] at hM
  obtain ⟨m, hm⟩ := both_meet a b c hl (by omega) m1 m2
  rw [hm] at hM
  simp only [Prod.mk.injEq] at hM
  obtain ⟨rfl, rfl, _⟩ := hM
  obtain ⟨hx, hxl⟩ := meet_cube cb cc (by omega) hm
  refine ⟨rfl, InsideS_mk ?_ (Cb.inside_both a b c m hl (by omega) m1 m2 hm), (Cb.ofB_len hx).2⟩
  rw [Cb.wrong_pair ca hx, if_pos (by omega)]

end Go.Proofs.YtlbelkjgaeaaeaaGreat
/-
  Plain laws: in which parts of a cut a header lies; that the parts of a cut are apart; no program here.
-/
namespace Go.Proofs.YtlbelkjgaeaaeaaGreat.Cb

/-- Does a header's byte lie in a cube's? -/
def mB (x h : UInt8) : Bool := x == 120 || h == x
/-- Does a header lie in a cube as wide? -/
def memC : List UInt8 → List UInt8 → Bool
  | x :: c, y :: h => mB x y && memC c h
  | _, _ => true

theorem memC_meet : ∀ (c h : List UInt8), c.length = h.length → (∀ x ∈ h, x ≠ 120) → (meet c h).isSome = memC c h
  | [], [], _, _ => by simp [meet, memC]
  | x :: c, y :: h, hl, hx => by
    have ih := memC_meet c h (by simpa using hl) (fun z hz => hx z (List.mem_cons_of_mem _ hz))
    have hy : y ≠ 120 := hx y (List.mem_cons_self ..)
    have e : ok2 x y = mB x y := by
      unfold ok2 mB
      have : (y == 120) = false := by simpa using hy
      rw [this, Bool.or_false]
    rw [meet_cons, e]
    unfold memC
    cases mB x y with
    | true => rw [if_pos rfl]; rw [← ih]; cases meet c h <;> simp
    | false => simp
  | [], _ :: _, h, _ => by simp at h
  | _ :: _, [], h, _ => by simp at h

/-- The parts of a cut, a byte at a time. -/
def parts : List UInt8 → List UInt8 → List (List UInt8)
  | x :: a, y :: b => (if x == 120 && y != 120 then [other y :: a] else []) ++ (parts a b).map (mb x y :: ·)
  | _, _ => []

theorem parts_cons (x y : UInt8) (a b : List UInt8) : parts (x :: a) (y :: b) = (if x == 120 && y != 120 then [other y :: a] else []) ++ (parts a b).map (mb x y :: ·) := rfl

theorem cutAt_succ (x y z : UInt8) (a b m : List UInt8) (i : Nat) : cutAt (x :: a) (y :: b) (z :: m) (i + 1) = (cutAt a b m i).map (z :: ·) := by
  unfold cutAt
  simp only [List.getD_cons_succ, List.take_succ_cons, List.drop_succ_cons, List.cons_append]
  split <;> simp

theorem cutTo_parts : ∀ (a b : List UInt8), a.length = b.length → cutTo a b (List.zipWith mb a b) a.length = parts a b
  | [], [], _ => rfl
  | x :: a, y :: b, hl => by
    have ih := cutTo_parts a b (by simpa using hl)
    unfold cutTo at ih ⊢
    rw [List.length_cons, List.range_succ_eq_map, List.filterMap_cons, List.zipWith_cons_cons]
    have e : (List.map Nat.succ (List.range a.length)).filterMap (cutAt (x :: a) (y :: b) (mb x y :: List.zipWith mb a b)) = (parts a b).map (mb x y :: ·) := by
      rw [List.filterMap_map, ← ih, List.map_filterMap]
      congr 1
      funext i
      exact cutAt_succ x y (mb x y) a b _ i
    rw [e, parts_cons]
    unfold cutAt
    simp only [List.getD_cons_zero, List.take_zero, List.nil_append, List.drop_succ_cons, List.drop_zero, List.cons_append]
    by_cases h : (x == 120 && y != 120) = true
    · simp [h]
    · simp only [h, if_false, Bool.false_eq_true, List.nil_append]
  | [], _ :: _, h => by simp at h
  | _ :: _, [], h => by simp at h

theorem cut_parts {a b : List UInt8} (hl : a.length = b.length) : cut a b = if (meet a b).isSome then parts a b else [a] := by
  unfold cut
  cases hm : meet a b with
  | none => simp
  | some m =>
    have : m = List.zipWith mb a b := by
      unfold meet at hm
      split at hm
      · injection hm with hm; exact hm.symm
      · cases hm
    simp only [Option.isSome_some, if_true, this]
    exact cutTo_parts a b hl

/-- Bits alone. -/
def bits (h : List UInt8) : Prop := ∀ x ∈ h, x = 48 ∨ x = 49
/-- Bits and free ones. -/
def trits (c : List UInt8) : Prop := ∀ x ∈ c, x = 48 ∨ x = 49 ∨ x = 120

theorem other_ne {y h : UInt8} (hy : y = 48 ∨ y = 49) (hh : h = 48 ∨ h = 49) : (h == other y) = !(h == y) := by
  rcases hy with rfl | rfl <;> rcases hh with rfl | rfl <;> rfl

theorem any_parts : ∀ (a b h : List UInt8), a.length = b.length → a.length = h.length → trits b → bits h → (meet a b).isSome = true → (parts a b).any (memC · h) = (memC a h && !memC b h)
  | [], [], [], _, _, _, _, _ => by simp [parts, memC]
  | x :: a, y :: b, z :: h, h1, h2, hb, hh, hm => by
    have hz : z = 48 ∨ z = 49 := hh z (List.mem_cons_self ..)
    have hy := hb y (List.mem_cons_self ..)
    rw [meet_cons] at hm
    have hok : ok2 x y = true := by
      cases h : ok2 x y with
      | true => rfl
      | false => rw [h] at hm; simp at hm
    rw [if_pos hok] at hm
    have hm2 : (meet a b).isSome = true := by cases h : meet a b with
      | none => rw [h] at hm; simp at hm
      | some m => rfl
    have ih := any_parts a b h (by simpa using h1) (by simpa using h2) (fun w hw => hb w (List.mem_cons_of_mem _ hw)) (fun w hw => hh w (List.mem_cons_of_mem _ hw)) hm2
    have e : ((parts a b).map (mb x y :: ·)).any (memC · (z :: h)) = (mB (mb x y) z && (memC a h && !memC b h)) := by
      rw [List.any_map, ← ih]
      have : ((fun x => memC x (z :: h)) ∘ fun x_1 => mb x y :: x_1) = fun p => (mB (mb x y) z && memC p h) := rfl
      rw [this]
      cases mB (mb x y) z <;> simp
    unfold parts
    rw [List.any_append, e]
    by_cases hx : x = 120
    · subst hx
      by_cases hy2 : y = 120
      · subst hy2
        simp [mb, mB, memC]
      · have hy3 : y = 48 ∨ y = 49 := by rcases hy with h | h | h <;> first | exact .inl h | exact .inr h | exact absurd h hy2
        have e1 : (y != 120) = true := by simpa using hy2
        have e2 : (y == 120) = false := by simpa using hy2
        have e4 : mB (other y) z = (z == other y) := by
          unfold mB
          have : (other y == 120) = false := by rcases hy3 with rfl | rfl <;> rfl
          rw [this, Bool.false_or]
        simp only [e1, beq_self_eq_true, Bool.and_self, if_true, List.any_cons, List.any_nil, Bool.or_false, memC, mb, mB, e2, Bool.true_or, Bool.true_and, Bool.false_or]
        have e5 : (other y == 120) = false := by rcases hy3 with rfl | rfl <;> rfl
        rw [e5, Bool.false_or, other_ne hy3 hz]
        cases (z == y) <;> cases memC a h <;> cases memC b h <;> rfl
    · have hx2 : (x == 120) = false := by simpa using hx
      have e1 : mb x y = x := by unfold mb; rw [hx2]; rfl
      simp only [hx2, Bool.false_and, Bool.false_eq_true, if_false, List.any_nil, Bool.false_or, e1, memC]
      have hyx : y = 120 ∨ y = x := by
        unfold ok2 at hok
        simp [hx] at hok
        exact hok
      rcases hyx with rfl | rfl
      · simp [mB, hx2]; cases (z == x) <;> simp
      · cases mB y z <;> simp
  | [], [], _ :: _, _, h, _, _, _ => by simp at h
  | [], _ :: _, _, h, _, _, _, _ => by simp at h
  | _ :: _, [], _, h, _, _, _, _ => by simp at h
  | _ :: _, _ :: _, [], _, h, _, _, _ => by simp at h

/-- A header in both: they meet. -/
theorem meet_of_mem : ∀ (a b h : List UInt8), a.length = b.length → a.length = h.length → memC a h = true → memC b h = true → (meet a b).isSome = true
  | [], [], [], _, _, _, _ => by simp [meet]
  | x :: a, y :: b, z :: h, h1, h2, h3, h4 => by
    unfold memC at h3 h4
    simp only [Bool.and_eq_true] at h3 h4
    have ih := meet_of_mem a b h (by simpa using h1) (by simpa using h2) h3.2 h4.2
    have hok : ok2 x y = true := by
      have a1 := h3.1
      have a2 := h4.1
      unfold mB at a1 a2
      unfold ok2
      simp only [Bool.or_eq_true, beq_iff_eq] at a1 a2 ⊢
      rcases a1 with a1 | a1
      · exact .inl (.inl a1)
      · rcases a2 with a2 | a2
        · exact .inl (.inr a2)
        · exact .inr (a2.symm.trans a1)
    rw [meet_cons, if_pos hok]
    cases hm : meet a b with
    | none => rw [hm] at ih; cases ih
    | some m => rfl
  | [], [], _ :: _, _, h, _, _ => by simp at h
  | [], _ :: _, _, h, _, _, _ => by simp at h
  | _ :: _, [], _, h, _, _, _ => by simp at h
  | _ :: _, _ :: _, [], _, h, _, _ => by simp at h

theorem any_cut {a b h : List UInt8} (h1 : a.length = b.length) (h2 : a.length = h.length) (hb : trits b) (hh : bits h) : (cut a b).any (memC · h) = (memC a h && !memC b h) := by
  rw [cut_parts h1]
  cases hm : (meet a b).isSome with
  | true => rw [if_pos rfl]; exact any_parts a b h h1 h2 hb hh hm
  | false =>
    rw [if_neg (by simp)]
    simp only [List.any_cons, List.any_nil, Bool.or_false]
    cases ha : memC a h with
    | false => rfl
    | true =>
      cases hb2 : memC b h with
      | false => rfl
      | true => have := meet_of_mem a b h h1 h2 ha hb2; rw [this] at hm; cases hm

theorem any_foldC {b h : List UInt8} {n : Nat} (hbl : b.length = n) (hhl : h.length = n) (hb : trits b) (hh : bits h) : ∀ (l R R' : List (List UInt8)), wide n l → l.foldlM (nextC b) R = some R' → R'.any (memC · h) = (R.any (memC · h) || (l.any (memC · h) && !memC b h))
  | [], R, R', _, h2 => by simp at h2; subst h2; simp
  | a :: l, R, R', hw, h2 => by
    rw [List.foldlM_cons] at h2
    cases h3 : nextC b R a with
    | none => rw [h3] at h2; cases h2
    | some R1 =>
      rw [h3] at h2
      have ih := any_foldC hbl hhl hb hh l R1 R' (fun r hr => hw r (List.mem_cons_of_mem _ hr)) h2
      have ha := hw a (List.mem_cons_self ..)
      unfold nextC at h3
      split at h3
      · cases h3
      · injection h3 with h3
        rw [ih, ← h3, List.any_append, any_cut (by omega) (by omega) hb hh, List.any_cons]
        cases R.any (memC · h) <;> cases memC a h <;> cases memC b h <;> cases l.any (memC · h) <;> rfl

theorem any_next {b h : List UInt8} {R R' : List (List UInt8)} {n : Nat} (hbl : b.length = n) (hhl : h.length = n) (hb : trits b) (hh : bits h) (hw : wide n R) (h2 : nextS b R = some R') : R'.any (memC · h) = (R.any (memC · h) && !memC b h) := by
  rw [any_foldC hbl hhl hb hh R [] R' hw h2]
  simp

theorem any_left {h : List UInt8} {n : Nat} (hhl : h.length = n) (hh : bits h) : ∀ (ls R R' : List (List UInt8)), wide n ls → (∀ b ∈ ls, trits b) → wide n R → R.length ≤ 16384 → ls.foldlM (fun rest b => nextS b rest) R = some R' → R'.any (memC · h) = (R.any (memC · h) && !ls.any (memC · h))
  | [], R, R', _, _, _, _, h2 => by simp at h2; subst h2; simp
  | b :: ls, R, R', hw, ht, hR, hl, h2 => by
    rw [List.foldlM_cons] at h2
    cases h3 : nextS b R with
    | none => rw [h3] at h2; cases h2
    | some R1 =>
      rw [h3] at h2
      obtain ⟨w1, l1⟩ := nextS_wide (hw b (List.mem_cons_self ..)) hR h3
      have ih := any_left hhl hh ls R1 R' (fun r hr => hw r (List.mem_cons_of_mem _ hr)) (fun r hr => ht r (List.mem_cons_of_mem _ hr)) w1 l1 h2
      rw [ih, any_next (hw b (List.mem_cons_self ..)) hhl (ht b (List.mem_cons_self ..)) hh hR h3, List.any_cons]
      cases R.any (memC · h) <;> cases memC b h <;> cases ls.any (memC · h) <;> rfl

theorem cube_trits {c : List UInt8} (h : isCube c = true) : trits c := by
  intro x hx
  unfold isCube ofB at h
  simp only [Bool.and_eq_true, List.all_eq_true] at h
  have := h.2 x hx
  simpa using this

theorem head_bits {c : List UInt8} (h : isHead c = true) : bits c := by
  intro x hx
  unfold isHead ofB at h
  simp only [Bool.and_eq_true, List.all_eq_true] at h
  have := h.2 x hx
  simpa using this

theorem cube_mk {c : List UInt8} (h1 : 1 ≤ c.length) (h2 : c.length ≤ 128) (h : trits c) : isCube c = true := by
  unfold isCube ofB
  simp only [Bool.and_eq_true, decide_eq_true_eq, List.all_eq_true]
  refine ⟨⟨h1, h2⟩, fun x hx => ?_⟩
  rcases h x hx with rfl | rfl | rfl <;> rfl

theorem parts_trits : ∀ (a b : List UInt8), trits a → trits b → ∀ p ∈ parts a b, trits p
  | x :: a, y :: b, ha, hb, p, hp => by
    have ih := parts_trits a b (fun w hw => ha w (List.mem_cons_of_mem _ hw)) (fun w hw => hb w (List.mem_cons_of_mem _ hw))
    unfold parts at hp
    rcases List.mem_append.1 hp with h | h
    · split at h
      · simp at h
        subst h
        intro w hw
        rcases List.mem_cons.1 hw with rfl | hw
        · unfold other; split <;> simp
        · exact ha w (List.mem_cons_of_mem _ hw)
      · simp at h
    · obtain ⟨q, hq, rfl⟩ := List.mem_map.1 h
      intro w hw
      rcases List.mem_cons.1 hw with rfl | hw
      · unfold mb; split
        · exact hb y (List.mem_cons_self ..)
        · exact ha x (List.mem_cons_self ..)
      · exact ih q hq w hw
  | [], _, _, _, p, hp => by simp [parts] at hp
  | _ :: _, [], _, _, p, hp => by simp [parts] at hp

theorem cut_cube {a b : List UInt8} (ha : isCube a = true) (hb : isCube b = true) (hl : a.length = b.length) : ∀ p ∈ cut a b, isCube p = true := by
  intro p hp
  have hpl := cut_len hl.symm p hp
  have h := ofB_len ha
  refine cube_mk (by omega) (by omega) ?_
  rw [cut_parts hl] at hp
  split at hp
  · exact parts_trits a b (cube_trits ha) (cube_trits hb) p hp
  · simp at hp; subst hp; exact cube_trits ha

theorem foldC_cube {b : List UInt8} (hb : isCube b = true) : ∀ (l R R' : List (List UInt8)), (∀ r ∈ l, isCube r = true ∧ r.length = b.length) → (∀ r ∈ R, isCube r = true) → l.foldlM (nextC b) R = some R' → ∀ r ∈ R', isCube r = true
  | [], R, R', _, hR, h => by simp at h; subst h; exact hR
  | a :: l, R, R', hw, hR, h => by
    rw [List.foldlM_cons] at h
    cases h3 : nextC b R a with
    | none => rw [h3] at h; cases h
    | some R1 =>
      rw [h3] at h
      unfold nextC at h3
      split at h3
      · cases h3
      · injection h3 with h3
        refine foldC_cube hb l R1 R' (fun r hr => hw r (List.mem_cons_of_mem _ hr)) ?_ h
        rw [← h3]
        intro r hr
        rcases List.mem_append.1 hr with hr | hr
        · exact hR r hr
        · have ha := hw a (List.mem_cons_self ..)
          exact cut_cube ha.1 hb ha.2 r hr

theorem left_cube {n : Nat} : ∀ (ls R R' : List (List UInt8)), wide n ls → (∀ b ∈ ls, isCube b = true) → wide n R → R.length ≤ 16384 → (∀ r ∈ R, isCube r = true) → ls.foldlM (fun rest b => nextS b rest) R = some R' → ∀ r ∈ R', isCube r = true
  | [], R, R', _, _, _, _, hc, h2 => by simp at h2; subst h2; exact hc
  | b :: ls, R, R', hw, ht, hR, hl, hc, h2 => by
    rw [List.foldlM_cons] at h2
    cases h3 : nextS b R with
    | none => rw [h3] at h2; cases h2
    | some R1 =>
      rw [h3] at h2
      have hbn := hw b (List.mem_cons_self ..)
      obtain ⟨w1, l1⟩ := nextS_wide hbn hR h3
      exact left_cube ls R1 R' (fun r hr => hw r (List.mem_cons_of_mem _ hr)) (fun r hr => ht r (List.mem_cons_of_mem _ hr)) w1 l1
        (foldC_cube (ht b (List.mem_cons_self ..)) R [] R1 (fun r hr => ⟨hc r hr, by rw [hR r hr, hbn]⟩) (fun r hr => by simp at hr) h3) h2

/-- What the program's Has says, where all is as wide. -/
theorem HasS_mem {c h : List UInt8} (hc : isCube c = true) (hh : isHead h = true) (hl : c.length = h.length) : HasS c h = (memC c h, 0) := by
  unfold HasS
  rw [hc, hh, wrong_pair hc (isHead_cube hh), if_pos (by simp), if_pos hl.symm, if_pos rfl, memC_meet c h hl (head_no_x hh)]

theorem HasS_zero {c h : List UInt8} (h0 : (HasS c h).2 = 0) : isCube c = true ∧ isHead h = true ∧ c.length = h.length := by
  unfold HasS at h0
  by_cases hc : (isCube c && isHead h) = true
  · rw [if_pos hc] at h0
    simp only [Bool.and_eq_true] at hc
    refine ⟨hc.1, hc.2, ?_⟩
    rw [wrong_pair hc.1 (isHead_cube hc.2)] at h0
    by_cases hl : h.length = c.length
    · exact hl.symm
    · rw [if_neg hl] at h0; simp at h0
  · rw [if_neg hc] at h0; simp at h0

theorem HasS_true {c h : List UInt8} (h1 : (HasS c h).1 = true) : (HasS c h).2 = 0 := by
  unfold HasS at h1 ⊢
  split
  · rename_i hc
    rw [if_pos hc] at h1
    split
    · rfl
    · rename_i hw; rw [if_neg hw] at h1; simp at h1
  · rename_i hc; rw [if_neg hc] at h1; simp at h1

/-- Does a header lie in one of several? -/
def inS (ls : List (List UInt8)) (h : List UInt8) : Bool := ls.any fun c => (HasS c h).1

theorem inS_mem {ls : List (List UInt8)} {h : List UInt8} (hc : ∀ c ∈ ls, isCube c = true) (hh : isHead h = true) (hl : wide h.length ls) : inS ls h = ls.any (memC · h) := by
  unfold inS
  rw [Bool.eq_iff_iff, List.any_eq_true, List.any_eq_true]
  constructor
  · rintro ⟨c, hm, h1⟩
    exact ⟨c, hm, by rw [HasS_mem (hc c hm) hh (hl c hm)] at h1; exact h1⟩
  · rintro ⟨c, hm, h1⟩
    exact ⟨c, hm, by rw [HasS_mem (hc c hm) hh (hl c hm)]; exact h1⟩

/-- All that CubeAllOrLeft asks. -/
theorem allOrLeft_law {c h : List UInt8} {ls : List (List UInt8)} (h1 : (LeftS c ls).2 = 0) (h2 : (HasS c h).2 = 0) : inS (LeftS c ls).1 h = ((HasS c h).1 && !inS ls h) := by
  obtain ⟨hc, hh, hl⟩ := HasS_zero h2
  unfold LeftS at h1 ⊢
  by_cases hw : wrong (c :: ls) = 0
  · rw [if_pos hw] at h1 ⊢
    obtain ⟨hcu, hwi⟩ := wrong_zero hw
    have hwide : wide c.length ls := fun r hr => hwi r (List.mem_cons_of_mem _ hr)
    have hcs : ∀ r ∈ ls, isCube r = true := fun r hr => hcu r (List.mem_cons_of_mem _ hr)
    have hwide1 : wide c.length [c] := fun r hr => by simp at hr; rw [hr]
    cases hL : leftS c ls with
    | none => rw [hL] at h1; unfold resL at h1; simp at h1
    | some R =>
      unfold resL
      have hR := foldL_wide ls [c] R hwide hwide1 (by simp) hL
      have hRc := left_cube ls [c] R hwide hcs hwide1 (by simp) (fun r hr => by simp at hr; rw [hr]; exact hc) hL
      show inS R h = _
      rw [inS_mem hRc hh (by rw [← hl]; exact hR.1), inS_mem hcs hh (by rw [← hl]; exact hwide), HasS_mem hc hh hl,
        any_left hl.symm (head_bits hh) ls [c] R hwide (fun b hb => cube_trits (hcs b hb)) hwide1 (by simp) hL]
      simp
  · rw [if_neg hw] at h1; exact absurd h1 hw

theorem inS_cut {a b h : List UInt8} (hw : wrong [a, b] = 0) (h1 : (HasS a h).2 = 0) : inS (cut a b) h = ((HasS a h).1 && !(HasS b h).1) := by
  obtain ⟨ha, hb, hl⟩ := wrong_two hw
  obtain ⟨_, hh, hlh⟩ := HasS_zero h1
  rw [inS_mem (cut_cube ha hb hl.symm) hh (fun r hr => by rw [cut_len hl r hr, hlh]), HasS_mem ha hh hlh, HasS_mem hb hh (by omega), any_cut hl.symm hlh (cube_trits hb) (head_bits hh)]

/-! ### the parts of a cut are apart -/
theorem ok2_other {y : UInt8} (hy : y ≠ 120) (hy2 : y = 48 ∨ y = 49 ∨ y = 120) : ok2 (other y) y = false ∧ ok2 y (other y) = false := by
  rcases hy2 with rfl | rfl | rfl
  · exact ⟨rfl, rfl⟩
  · exact ⟨rfl, rfl⟩
  · exact absurd rfl hy

theorem parts_b : ∀ (a b : List UInt8), a.length = b.length → trits b → ∀ p ∈ parts a b, meet b p = none
  | x :: a, y :: b, hl, hb, p, hp => by
    have ih := parts_b a b (by simpa using hl) (fun w hw => hb w (List.mem_cons_of_mem _ hw))
    unfold parts at hp
    rcases List.mem_append.1 hp with h | h
    · split at h
      · rename_i hxy
        simp only [Bool.and_eq_true, beq_iff_eq, bne_iff_ne] at hxy
        simp at h
        subst h
        rw [meet_cons, (ok2_other hxy.2 (hb y (List.mem_cons_self ..))).2]
        simp
      · simp at h
    · obtain ⟨q, hq, rfl⟩ := List.mem_map.1 h
      rw [meet_cons, ih q hq]
      simp
  | [], _, _, _, p, hp => by simp [parts] at hp
  | _ :: _, [], _, _, p, hp => by simp [parts] at hp

theorem parts_apart : ∀ (a b : List UInt8), a.length = b.length → trits b → (parts a b).Pairwise fun p q => meet q p = none
  | x :: a, y :: b, hl, hb => by
    have ih := parts_apart a b (by simpa using hl) (fun w hw => hb w (List.mem_cons_of_mem _ hw))
    unfold parts
    rw [List.pairwise_append]
    refine ⟨?_, ?_, ?_⟩
    · split <;> simp
    · rw [List.pairwise_map]
      exact ih.imp (fun {p q} h => by rw [meet_cons, h]; simp)
    · intro p hp q hq
      split at hp
      · rename_i hxy
        simp only [Bool.and_eq_true, beq_iff_eq, bne_iff_ne] at hxy
        simp at hp
        subst hp
        obtain ⟨q', _, rfl⟩ := List.mem_map.1 hq
        have : mb x y = y := by unfold mb; rw [hxy.1]; rfl
        rw [this, meet_cons, (ok2_other hxy.2 (hb y (List.mem_cons_self ..))).2]
        simp
      · simp at hp
  | [], _, _, _ => by simp [parts]
  | _ :: _, [], _, _ => by simp [parts]

theorem apartS_pairwise (ls : List (List UInt8)) (h : ls.Pairwise fun p q => meet q p = none) : apartS ls = true := by
  unfold apartS
  rw [List.all_eq_true]
  intro i hi
  have hi' : i < ls.length := List.mem_range.1 hi
  unfold apartAt
  rw [List.all_eq_true]
  intro b hb
  obtain ⟨k, hk, rfl⟩ := List.getElem_of_mem hb
  have hk' : k < i := by simp at hk; omega
  have e : ls.getD i [] = ls[i] := by rw [List.getD_eq_getElem?_getD, List.getElem?_eq_getElem hi']; rfl
  rw [e]
  have := List.pairwise_iff_getElem.1 h k i (by omega) hi' hk'
  simp [this]

/-- The parts of a cut, and what was cut off, are apart. -/
theorem cut_apart {a b : List UInt8} (hw : wrong [a, b] = 0) : ApartS (cut a b ++ [b]) = (true, 0) := by
  obtain ⟨ha, hb, hl⟩ := wrong_two hw
  have hlen : ∀ r ∈ cut a b ++ [b], r.length = a.length := fun r hr => by
    rcases List.mem_append.1 hr with h | h
    · exact cut_len hl r h
    · simp at h; rw [h]; exact hl
  have hcu : ∀ r ∈ cut a b ++ [b], isCube r = true := fun r hr => by
    rcases List.mem_append.1 hr with h | h
    · exact cut_cube ha hb hl.symm r h
    · simp at h; rw [h]; exact hb
  have hw0 : wrong (cut a b ++ [b]) = 0 := by
    unfold wrong
    rw [if_pos (List.all_eq_true.2 hcu), if_pos]
    rw [List.all_eq_true]
    intro r hr
    have hne : cut a b ++ [b] ≠ [] := by simp
    obtain ⟨r0, t, ht⟩ := List.exists_cons_of_ne_nil hne
    have h0 : r0.length = a.length := hlen r0 (by rw [ht]; simp)
    rw [ht]
    simp [hlen r hr, h0]
  unfold ApartS
  rw [if_pos hw0]
  congr 1
  apply apartS_pairwise
  rw [List.pairwise_append]
  refine ⟨?_, by simp, fun p hp q hq => ?_⟩
  · rw [cut_parts hl.symm]
    split
    · exact parts_apart a b hl.symm (cube_trits hb)
    · simp
  · simp at hq
    subst hq
    rw [cut_parts hl.symm] at hp
    split at hp
    · exact parts_b a q hl.symm (cube_trits hb) p hp
    · rename_i hn
      simp at hp
      subst hp
      rw [meet_comm]
      cases h : meet p q with
      | none => rfl
      | some m => rw [h] at hn; simp at hn
end Go.Proofs.YtlbelkjgaeaaeaaGreat.Cb
/-
  A table of rules as plain data: changes, all or none; a table's order; changes of unlike keys in any order; no program here.
-/
namespace Go.Proofs.YtlbelkjgaeaaeaaGreat
open Go.RowKit Go.Shelf Go.Lib Go.Sort
set_option linter.unusedVariables false
set_option linter.unusedSectionVars false

namespace Rp
theorem aheadK_total {p q : Int} {m n : ByteArray} (h : ¬ (p = q ∧ m = n)) : aheadK p m q n = true ∨ aheadK q n p m = true := by
  unfold aheadK
  by_cases h1 : p = q
  · subst h1
    rw [if_pos rfl, if_pos rfl]
    cases h2 : lessB m n with
    | true => exact .inl rfl
    | false =>
      cases h3 : lessB n m with
      | true => exact .inr rfl
      | false => exact absurd ⟨rfl, lessB_tri h2 h3⟩ h
  · rw [if_neg h1, if_neg (fun e => h1 e.symm)]
    rcases Int.lt_or_gt_of_ne h1 with h2 | h2
    · exact .inr (decide_eq_true h2)
    · exact .inl (decide_eq_true h2)
end Rp

namespace Fb
theorem keyB_true {p : Int} {m : ByteArray} {r : Rl} : keyB p m r = true ↔ r.p = p ∧ r.m = m := by unfold keyB; simp
theorem keyB_false {p : Int} {m : ByteArray} {r : Rl} : keyB p m r = false ↔ ¬ (r.p = p ∧ r.m = m) := by
  rw [← keyB_true]; simp

theorem keyI_neg {L : List Rl} {p : Int} {m : ByteArray} (h : ¬ 0 ≤ keyI L p m) : ∀ x ∈ L, keyB p m x = false := by
  rcases (keyI_is L p m).is with ⟨_, h2⟩ | ⟨i, hi, h1, _⟩
  · intro x hx
    obtain ⟨j, hj, rfl⟩ := List.getElem_of_mem hx
    exact h2 j hj
  · omega
theorem keyI_pos {L : List Rl} {p : Int} {m : ByteArray} (h : 0 ≤ keyI L p m) : ∃ i, ∃ hi : i < L.length, keyI L p m = (i : Int) ∧ keyB p m L[i] = true := by
  rcases (keyI_is L p m).is with ⟨h1, _⟩ | ⟨i, hi, h1, h2, _⟩
  · omega
  · exact ⟨i, hi, h1, h2⟩
theorem keyI_none {L : List Rl} {p : Int} {m : ByteArray} (h : ∀ x ∈ L, keyB p m x = false) : ¬ 0 ≤ keyI L p m := by
  intro h0
  obtain ⟨i, hi, _, h2⟩ := keyI_pos h0
  rw [h _ (List.getElem_mem hi)] at h2
  cases h2
theorem keyI_some {L : List Rl} {p : Int} {m : ByteArray} (h : ∃ x ∈ L, keyB p m x = true) : 0 ≤ keyI L p m := by
  rcases Int.lt_or_le (keyI L p m) 0 with h1 | h1
  · obtain ⟨x, hx, h2⟩ := h
    rw [keyI_neg (by omega) x hx] at h2
    cases h2
  · exact h1

/-- May a change be, but for a table's greatest length? -/
structure Good (W : Int) (L : List Rl) (c : Int × Rl) : Prop where
  k1 : 1 ≤ c.1
  k3 : c.1 ≤ 3
  chk : Rp.checkR (ruleOf c.1 c.2) W = 0
  ins : c.1 = 1 → ∀ x ∈ L, keyB c.2.p c.2.m x = false
  oth : c.1 ≠ 1 → ∃ x ∈ L, keyB c.2.p c.2.m x = true

theorem mayI_good {W : Int} {L : List Rl} {k : Int} {r : Rl} : mayI L W k r = 0 ↔ Good W L (k, r) ∧ (k = 1 → L.length < 4096) := by
  unfold mayI
  by_cases h1 : k < 1 ∨ k > 3
  · rw [if_pos h1]
    constructor
    · intro h; omega
    · rintro ⟨⟨a, b, _⟩, _⟩
      simp only at a b
      omega
  rw [if_neg h1]
  by_cases h2 : Rp.checkR (ruleOf k r) W = 0
  · rw [if_neg (by simpa using h2)]
    by_cases h3 : k = 1
    · rw [if_pos h3]
      by_cases h4 : 0 ≤ keyI L r.p r.m
      · rw [if_pos h4]
        constructor
        · intro h; omega
        · rintro ⟨g, _⟩
          exact absurd h4 (keyI_none (g.ins h3))
      · rw [if_neg h4]
        by_cases h5 : 4096 ≤ L.length
        · rw [if_pos h5]
          constructor
          · intro h; omega
          · rintro ⟨_, h⟩
            have := h h3
            omega
        · rw [if_neg h5]
          exact ⟨fun _ => ⟨⟨by show 1 ≤ k; omega, by show k ≤ 3; omega, h2, fun _ => keyI_neg h4, fun h => absurd h3 h⟩, fun _ => by omega⟩, fun _ => rfl⟩
    · rw [if_neg h3]
      by_cases h4 : 0 ≤ keyI L r.p r.m
      · rw [if_pos h4]
        refine ⟨fun _ => ⟨⟨by show 1 ≤ k; omega, by show k ≤ 3; omega, h2, fun h => absurd h h3, fun _ => ?_⟩, fun h => absurd h h3⟩, fun _ => rfl⟩
        obtain ⟨i, hi, _, h5⟩ := keyI_pos h4
        exact ⟨_, List.getElem_mem hi, h5⟩
      · rw [if_neg h4]
        constructor
        · intro h; omega
        · rintro ⟨g, _⟩
          exact absurd (keyI_some (g.oth h3)) h4
  · rw [if_pos h2]
    constructor
    · intro h; exact absurd h h2
    · rintro ⟨g, _⟩; exact absurd g.chk h2

/-- The keys of rules. -/
def kk (r : Rl) : Int × ByteArray := (r.p, r.m)
def ltK (a b : Int × ByteArray) : Bool := Rp.aheadK a.1 a.2 b.1 b.2

/-- A table of a width. -/
structure Ok (W : Int) (L : List Rl) : Prop where
  few : L.length ≤ 4096
  srt : (L.map kk).Pairwise fun a b => ltK a b = true
  chk : ∀ r ∈ L, Rp.checkR r W = 0

theorem ok_nil (W : Int) : Ok W [] := ⟨Nat.zero_le _, List.Pairwise.nil, fun _ h => by cases h⟩

theorem Ok.strict {W : Int} {L : List Rl} (h : Ok W L) : L.Pairwise fun a b => Rp.aheadR a b = true := (List.pairwise_map.1 h.srt)

theorem strict_srd {L : List Rl} (h : L.Pairwise fun a b => Rp.aheadR a b = true) : St.Srd Rp.aheadR L := h.imp fun h => St.asym swoR h

theorem strict_insL : ∀ {L : List Rl} {r : Rl}, (L.Pairwise fun a b => Rp.aheadR a b = true) → (∀ x ∈ L, keyB r.p r.m x = false) → (St.insL Rp.aheadR L r).Pairwise fun a b => Rp.aheadR a b = true
  | [], r, _, _ => List.pairwise_singleton _ _
  | y :: L, r, h, hk => by
    have hy := List.pairwise_cons.1 h
    unfold St.insL
    split
    · rename_i hry
      refine List.pairwise_cons.2 ⟨fun z hz => ?_, h⟩
      rcases List.mem_cons.1 hz with rfl | hz
      · exact hry
      · exact swoR.trans _ _ _ hry (hy.1 z hz)
    · rename_i hry
      refine List.pairwise_cons.2 ⟨fun z hz => ?_, strict_insL hy.2 fun x hx => hk x (List.mem_cons_of_mem _ hx)⟩
      rcases (St.mem_insL _).1 hz with rfl | hz
      · have h1 := keyB_false.1 (hk y (List.mem_cons_self ..))
        rcases Rp.aheadK_total h1 with h2 | h2
        · exact h2
        · exact absurd h2 hry
      · exact hy.1 z hz

theorem isort_snoc {L : List Rl} {r : Rl} (h : St.Srd Rp.aheadR L) : St.isort Rp.aheadR (L ++ [r]) = St.insL Rp.aheadR L r := by
  unfold St.isort
  rw [St.mrg_append, St.mrg_nil_left swoR h]
  rfl

/-- A pairwise relation gives distinct keys. -/
theorem strict_key {L : List Rl} (h : L.Pairwise fun a b => Rp.aheadR a b = true) {i j : Nat} (hi : i < L.length) (hj : j < L.length) (p : Int) (m : ByteArray) (h1 : keyB p m L[i] = true) (h2 : keyB p m L[j] = true) : i = j := by
  have key : ∀ {i j : Nat} (hi : i < L.length) (hj : j < L.length), i < j → keyB p m L[i] = true → keyB p m L[j] = true → False := by
    intro i j hi hj hij h1 h2
    have h3 := List.pairwise_iff_getElem.1 h i j hi hj hij
    have e1 := keyB_true.1 h1
    have e2 := keyB_true.1 h2
    unfold Rp.aheadR at h3
    rw [e1.1, e1.2, e2.1, e2.2, Rp.aheadK_swo_irrefl] at h3
    cases h3
  rcases Nat.lt_trichotomy i j with h3 | h3 | h3
  · exact (key hi hj h3 h1 h2).elim
  · exact h3
  · exact (key hj hi h3 h2 h1).elim

theorem aft_length {W : Int} {L : List Rl} {k : Int} {r : Rl} (h : mayI L W k r = 0) (hL : L.length ≤ 4096) : (aft L k r).length ≤ 4096 ∧ (aft L k r).length ≤ L.length + 1 := by
  have hg := mayI_good.1 h
  unfold aft
  by_cases h1 : k = 1
  · rw [if_pos h1, St.length_isort, List.length_append, List.length_singleton]
    have := hg.2 h1
    omega
  · rw [if_neg h1]
    by_cases h2 : k = 2
    · rw [if_pos h2, List.length_append, List.length_take, List.length_drop]
      omega
    · rw [if_neg h2, List.length_set]
      omega

theorem mem_aft {W : Int} {L : List Rl} {k : Int} {r : Rl} (hs : L.Pairwise fun a b => Rp.aheadR a b = true) (h : mayI L W k r = 0) (x : Rl) : x ∈ aft L k r ↔ (x ∈ L ∧ keyB r.p r.m x = false) ∨ (k ≠ 2 ∧ x = r) := by
  have hg := (mayI_good.1 h).1
  unfold aft
  by_cases h1 : k = 1
  · rw [if_pos h1, St.mem_isort, List.mem_append, List.mem_singleton]
    have h2 := hg.ins h1
    constructor
    · rintro (h3 | h3)
      · exact .inl ⟨h3, h2 x h3⟩
      · exact .inr ⟨by omega, h3⟩
    · rintro (h3 | h3)
      · exact .inl h3.1
      · exact .inr h3.2
  · rw [if_neg h1]
    obtain ⟨i, hi, hz, hk⟩ := keyI_pos (keyI_some (hg.oth h1))
    simp only at hz hk
    rw [hz, Int.toNat_natCast]
    by_cases h2 : k = 2
    · rw [if_pos h2, List.mem_append]
      constructor
      · intro h3
        refine .inl ?_
        rcases h3 with h3 | h3
        · obtain ⟨j, hj, rfl⟩ := List.getElem_of_mem h3
          rw [List.length_take] at hj
          rw [List.getElem_take]
          refine ⟨List.getElem_mem _, ?_⟩
          cases h4 : keyB r.p r.m (L[j]'(by omega)) with
          | false => rfl
          | true => have := strict_key hs (by omega) hi _ _ h4 hk; omega
        · obtain ⟨j, hj, rfl⟩ := List.getElem_of_mem h3
          rw [List.length_drop] at hj
          rw [List.getElem_drop]
          refine ⟨List.getElem_mem _, ?_⟩
          cases h4 : keyB r.p r.m (L[i + 1 + j]'(by omega)) with
          | false => rfl
          | true => have := strict_key hs (by omega) hi _ _ h4 hk; omega
      · rintro (⟨h3, h4⟩ | ⟨h3, _⟩)
        · obtain ⟨j, hj, rfl⟩ := List.getElem_of_mem h3
          have hne : j ≠ i := fun e => by subst e; rw [hk] at h4; cases h4
          rcases Nat.lt_or_gt_of_ne hne with h5 | h5
          · refine .inl (List.mem_iff_getElem.2 ⟨j, by rw [List.length_take]; omega, ?_⟩)
            rw [List.getElem_take]
          · refine .inr (List.mem_iff_getElem.2 ⟨j - (i + 1), by rw [List.length_drop]; omega, ?_⟩)
            rw [List.getElem_drop]
            simp only [show i + 1 + (j - (i + 1)) = j by omega]
        · exact absurd h2 h3
    · rw [if_neg h2]
      constructor
      · intro h3
        obtain ⟨j, hj, rfl⟩ := List.getElem_of_mem h3
        rw [List.length_set] at hj
        rw [List.getElem_set]
        split
        · exact .inr ⟨h2, rfl⟩
        · rename_i hne
          refine .inl ⟨List.getElem_mem _, ?_⟩
          cases h4 : keyB r.p r.m L[j] with
          | false => rfl
          | true => exact absurd (strict_key hs hj hi _ _ h4 hk).symm hne
      · rintro (⟨h3, h4⟩ | ⟨_, h3⟩)
        · obtain ⟨j, hj, rfl⟩ := List.getElem_of_mem h3
          have hne : ¬ i = j := fun e => by subst e; rw [hk] at h4; cases h4
          refine List.mem_iff_getElem.2 ⟨j, by rw [List.length_set]; exact hj, ?_⟩
          rw [List.getElem_set, if_neg hne]
        · refine List.mem_iff_getElem.2 ⟨i, by rw [List.length_set]; exact hi, ?_⟩
          rw [List.getElem_set, if_pos rfl, h3]

theorem ruleOf_key (k : Int) (r : Rl) : (ruleOf k r).p = r.p ∧ (ruleOf k r).m = r.m := by
  unfold ruleOf
  split <;> exact ⟨rfl, rfl⟩

theorem Ok.aft {W : Int} {L : List Rl} (h : Ok W L) {k : Int} {r : Rl} (hm : mayI L W k r = 0) : Ok W (aft L k r) := by
  refine ⟨(aft_length hm h.few).1, ?_, ?_⟩
  · have hg := (mayI_good.1 hm).1
    unfold Fb.aft
    by_cases h1 : k = 1
    · rw [if_pos h1, isort_snoc (strict_srd h.strict)]
      exact List.pairwise_map.2 (strict_insL h.strict (hg.ins h1))
    · rw [if_neg h1]
      obtain ⟨i, hi, hz, hk⟩ := keyI_pos (keyI_some (hg.oth h1))
      simp only at hz hk
      rw [hz, Int.toNat_natCast]
      by_cases h2 : k = 2
      · rw [if_pos h2, ← List.eraseIdx_eq_take_drop_succ]
        exact h.srt.sublist ((List.eraseIdx_sublist L i).map kk)
      · rw [if_neg h2]
        have e : (L.set i r).map kk = L.map kk := by
          apply List.ext_getElem
          · simp
          · intro j h3 h4
            rw [List.getElem_map, List.getElem_map, List.getElem_set]
            split
            · rename_i e
              subst e
              have := keyB_true.1 hk
              unfold kk
              rw [this.1, this.2]
            · rfl
        rw [e]
        exact h.srt
  · intro x hx
    rcases (mem_aft h.strict hm x).1 hx with ⟨h1, _⟩ | ⟨h1, rfl⟩
    · exact h.chk x h1
    · have := (mayI_good.1 hm).1.chk
      simp only [ruleOf, if_neg h1] at this
      exact this

/-- Changes one behind the other, from a number on: the rules behind them, or the first that may not be. -/
def doL (W : Int) : List Rl → List (Int × Rl) → Nat → Option (List Rl) × Nat × Int
  | L, [], _ => (some L, 0, 0)
  | L, c :: m, i => if mayI L W c.1 c.2 = 0 then doL W (aft L c.1 c.2) m (i + 1) else (none, i, mayI L W c.1 c.2)

/-- What a table holds behind changes, all or none. -/
def endL (W : Int) (L : List Rl) (m : List (Int × Rl)) : List Rl := (doL W L m 0).1.getD L
/-- Behind changes, one by one. -/
def mkL (W : Int) (m : List (Int × Rl)) : List Rl := m.foldl (fun L c => endL W L [c]) []

theorem doL_ok {W : Int} : ∀ {m : List (Int × Rl)} {L L' : List Rl} {i : Nat}, Ok W L → (doL W L m i).1 = some L' → Ok W L'
  | [], L, L', i, h, e => by injection e with e; rw [← e]; exact h
  | c :: m, L, L', i, h, e => by
    unfold doL at e
    split at e
    · rename_i h1; exact doL_ok (h.aft h1) e
    · cases e

theorem Ok.end_ {W : Int} {L : List Rl} (h : Ok W L) (m : List (Int × Rl)) : Ok W (endL W L m) := by
  unfold endL
  cases e : (doL W L m 0).1 with
  | none => exact h
  | some L' => exact doL_ok h e

theorem foldl_ok {W : Int} : ∀ (m : List (Int × Rl)) (L : List Rl), Ok W L → Ok W (m.foldl (fun L c => endL W L [c]) L)
  | [], L, h => h
  | c :: m, L, h => foldl_ok m _ (h.end_ [c])
theorem mkL_ok (W : Int) (m : List (Int × Rl)) : Ok W (mkL W m) := foldl_ok m [] (ok_nil W)
theorem mkL_succ (W : Int) (l : List (Int × Rl)) (i : Nat) (h : i < l.length) : mkL W (l.take (i + 1)) = endL W (mkL W (l.take i)) [l[i]] := by
  unfold mkL
  rw [List.take_succ_eq_append_getElem h, List.foldl_append]
  rfl

theorem doL_one (W : Int) (L : List Rl) (c : Int × Rl) : doL W L [c] 0 = if mayI L W c.1 c.2 = 0 then (some (aft L c.1 c.2), 0, 0) else (none, 0, mayI L W c.1 c.2) := rfl
theorem endL_one {W : Int} {L : List Rl} {c : Int × Rl} (h : mayI L W c.1 c.2 = 0) : endL W L [c] = aft L c.1 c.2 := by
  unfold endL; rw [doL_one, if_pos h]; rfl

/-- mayI tells one of the document's numbers, never below 0. -/
theorem doL_err {W : Int} : ∀ {m : List (Int × Rl)} {L : List Rl} {i : Nat}, (doL W L m i).2.2 = 0 ↔ (doL W L m i).1.isSome = true
  | [], L, i => by simp [doL]
  | c :: m, L, i => by
    unfold doL
    split
    · exact doL_err
    · rename_i h; simp [h]

/-! ### Changes of unlike keys -/
/-- M is what S makes of L. -/
structure Made (W : Int) (L : List Rl) (S : List (Int × Rl)) (M : List Rl) : Prop where
  ok : Ok W M
  mem : ∀ x, x ∈ M ↔ (x ∈ L ∧ ∀ c ∈ S, keyB c.2.p c.2.m x = false) ∨ ∃ c ∈ S, c.1 ≠ 2 ∧ x = c.2
  len : M.length ≤ L.length + S.length

theorem made_nil {W : Int} {L : List Rl} (h : Ok W L) : Made W L [] L := ⟨h, fun x => by simp, by simp⟩

/-- Unlike keys. -/
def unl (c d : Int × Rl) : Prop := ¬ (c.2.p = d.2.p ∧ c.2.m = d.2.m)

theorem Made.key {W : Int} {L M : List Rl} {S : List (Int × Rl)} (h : Made W L S M) {c : Int × Rl} (hc : ∀ d ∈ S, unl c d) : (∃ x ∈ M, keyB c.2.p c.2.m x = true) ↔ ∃ x ∈ L, keyB c.2.p c.2.m x = true := by
  constructor
  · rintro ⟨x, hx, hk⟩
    rcases (h.mem x).1 hx with ⟨h1, _⟩ | ⟨d, hd, _, rfl⟩
    · exact ⟨x, h1, hk⟩
    · have := keyB_true.1 hk
      exact absurd ⟨this.1.symm, this.2.symm⟩ (hc d hd)
  · rintro ⟨x, hx, hk⟩
    refine ⟨x, (h.mem x).2 (.inl ⟨hx, fun d hd => keyB_false.2 fun e => ?_⟩), hk⟩
    have := keyB_true.1 hk
    exact hc d hd ⟨this.1.symm.trans e.1, this.2.symm.trans e.2⟩

theorem Made.good {W : Int} {L M : List Rl} {S : List (Int × Rl)} (h : Made W L S M) {c : Int × Rl} (hc : ∀ d ∈ S, unl c d) : Good W M c ↔ Good W L c := by
  have hk := h.key hc
  have flip : ∀ {A B : List Rl}, ((∃ x ∈ A, keyB c.2.p c.2.m x = true) ↔ ∃ x ∈ B, keyB c.2.p c.2.m x = true) → Good W A c → Good W B c := by
    intro A B hk g
    refine ⟨g.k1, g.k3, g.chk, fun h1 x hx => ?_, fun h1 => hk.1 (g.oth h1)⟩
    cases h2 : keyB c.2.p c.2.m x with
    | false => rfl
    | true =>
      obtain ⟨y, hy, h3⟩ := hk.2 ⟨x, hx, h2⟩
      rw [g.ins h1 y hy] at h3
      cases h3
  exact ⟨flip hk, flip hk.symm⟩

theorem Made.step {W : Int} {L M : List Rl} {S : List (Int × Rl)} (h : Made W L S M) {c : Int × Rl} (hc : ∀ d ∈ S, unl c d) (hm : mayI M W c.1 c.2 = 0) : Made W L (c :: S) (aft M c.1 c.2) := by
  refine ⟨h.ok.aft hm, fun x => ?_, ?_⟩
  · rw [mem_aft h.ok.strict hm, h.mem]
    constructor
    · rintro (⟨h1 | ⟨d, hd, h1, rfl⟩, h2⟩ | ⟨h1, h2⟩)
      · refine .inl ⟨h1.1, fun d hd => ?_⟩
        rcases List.mem_cons.1 hd with rfl | hd
        · exact h2
        · exact h1.2 d hd
      · exact .inr ⟨d, List.mem_cons_of_mem _ hd, h1, rfl⟩
      · exact .inr ⟨c, List.mem_cons_self .., h1, h2⟩
    · rintro (⟨h1, h2⟩ | ⟨d, hd, h1, rfl⟩)
      · exact .inl ⟨.inl ⟨h1, fun d hd => h2 d (List.mem_cons_of_mem _ hd)⟩, h2 c (List.mem_cons_self ..)⟩
      · rcases List.mem_cons.1 hd with rfl | hd
        · exact .inr ⟨h1, rfl⟩
        · exact .inl ⟨.inr ⟨d, hd, h1, rfl⟩, keyB_false.2 fun e => hc d hd ⟨e.1.symm, e.2.symm⟩⟩
  · have := (aft_length hm h.ok.few).2
    rw [List.length_cons]
    have := h.len
    omega

/-- Two strict rows of the same rules are one. -/
theorem strict_ext : ∀ {L M : List Rl}, (L.Pairwise fun a b => Rp.aheadR a b = true) → (M.Pairwise fun a b => Rp.aheadR a b = true) → (∀ x, x ∈ L ↔ x ∈ M) → L = M
  | [], [], _, _, _ => rfl
  | [], b :: M, _, _, h => by have := (h b).2 (List.mem_cons_self ..); cases this
  | a :: L, [], _, _, h => by have := (h a).1 (List.mem_cons_self ..); cases this
  | a :: L, b :: M, hL, hM, h => by
    have h1 := List.pairwise_cons.1 hL
    have h2 := List.pairwise_cons.1 hM
    have irr : ∀ x : Rl, Rp.aheadR x x = true → False := fun x hx => by rw [swoR.irrefl] at hx; cases hx
    have e : a = b := by
      rcases List.mem_cons.1 ((h a).1 (List.mem_cons_self ..)) with h3 | h3
      · exact h3
      · rcases List.mem_cons.1 ((h b).2 (List.mem_cons_self ..)) with h4 | h4
        · exact h4.symm
        · exact (irr _ (swoR.trans _ _ _ (h1.1 b h4) (h2.1 a h3))).elim
    subst e
    rw [strict_ext h1.2 h2.2 fun x => ?_]
    constructor
    · intro hx
      rcases List.mem_cons.1 ((h x).1 (List.mem_cons_of_mem _ hx)) with rfl | h3
      · exact (irr _ (h1.1 _ hx)).elim
      · exact h3
    · intro hx
      rcases List.mem_cons.1 ((h x).2 (List.mem_cons_of_mem _ hx)) with rfl | h3
      · exact (irr _ (h2.1 _ hx)).elim
      · exact h3

/-- What the same changes make of a table is one, in whatever order. -/
theorem Made.ext {W : Int} {L M N : List Rl} {S T : List (Int × Rl)} (h : Made W L S M) (k : Made W L T N) (hs : ∀ c, c ∈ S ↔ c ∈ T) : M = N := by
  refine strict_ext h.ok.strict k.ok.strict fun x => ?_
  rw [h.mem, k.mem]
  simp only [hs]

/-- All at once, of unlike keys: each is good, and they make what they make. -/
theorem doL_made {W : Int} {L : List Rl} : ∀ {m : List (Int × Rl)} {S : List (Int × Rl)} {M N : List Rl} {i : Nat}, Made W L S M → (doL W M m i).1 = some N → (∀ c ∈ m, ∀ d ∈ S, unl c d) → m.Pairwise (fun c d => unl c d ∧ unl d c) → Made W L (m.reverse ++ S) N ∧ ∀ c ∈ m, Good W L c
  | [], S, M, N, i, h, e, _, _ => by injection e with e; rw [← e]; exact ⟨h, fun _ h => by cases h⟩
  | c :: m, S, M, N, i, h, e, hu, hp => by
    unfold doL at e
    have hp := List.pairwise_cons.1 hp
    have hc := hu c (List.mem_cons_self ..)
    split at e
    · rename_i h1
      have h2 := doL_made (h.step hc h1) e (fun d hd f hf => by
        rcases List.mem_cons.1 hf with rfl | hf
        · exact (hp.1 d hd).2
        · exact hu d (List.mem_cons_of_mem _ hd) f hf) hp.2
      refine ⟨?_, fun d hd => ?_⟩
      · rw [List.reverse_cons, List.append_assoc]
        exact h2.1
      · rcases List.mem_cons.1 hd with rfl | hd
        · exact (h.good hc).1 (mayI_good.1 h1).1
        · exact h2.2 d hd
    · cases e
end Fb
end Go.Proofs.YtlbelkjgaeaaeaaGreat
/-
  A slice value that reads as changes, five cells each.
-/
namespace Go.Proofs.YtlbelkjgaeaaeaaGreat
open Go.RowKit Go.Shelf Go.Lib Go.Sort
set_option linter.unusedVariables false
set_option linter.unusedSectionVars false

def encC (x : Int × RC) : List Value := [.int .i64 x.1, .int .i64 x.2.p, .string x.2.m, .int .i64 x.2.k, .slice x.2.a x.2.n x.2.c]
def cellsC (l : List (Int × RC)) : List Value := l.flatMap encC

/-- v reads as the changes L, their ports in blocks that are ok. -/
def RdsC (ok : Nat → Prop) (w : World) (v : Value) (L : List (Int × Rl)) : Prop :=
  ∃ (xs : List (Int × RC)) (ad : Option Addr) (n cap : Nat), v = .slice ad n cap ∧ n = L.length ∧ xs.length = n ∧ (n ≤ cap ∧ (ad = none → cap = 0)) ∧ cap ≤ maxLen ∧ okV ok v ∧
    (∀ i (h : i < xs.length), ∃ b off, ad = some ⟨b, off, none⟩ ∧ b < w.heap.size ∧
      w.cell? ⟨b, off + i * 5, none⟩ = some (.int .i64 xs[i].1) ∧ w.cell? ⟨b, off + i * 5 + 1, none⟩ = some (.int .i64 xs[i].2.p) ∧ w.cell? ⟨b, off + i * 5 + 2, none⟩ = some (.string xs[i].2.m) ∧ w.cell? ⟨b, off + i * 5 + 3, none⟩ = some (.int .i64 xs[i].2.k) ∧ w.cell? ⟨b, off + i * 5 + 4, none⟩ = some (.slice xs[i].2.a xs[i].2.n xs[i].2.c)) ∧
    ∀ i (h : i < xs.length) (h' : i < L.length), xs[i].1 = L[i].1 ∧ RdC ok w xs[i].2 L[i].2

theorem RdsC.but {ok S : Nat → Prop} {w w' : World} {v : Value} {L : List (Int × Rl)} (h : RdsC ok w v L) (hb : But S w w') (hs : ∀ b, ok b → ¬ S b) : RdsC ok w' v L := by
  obtain ⟨xs, ad, n, cap, rfl, h2, h3, h4, h5, h6, h7, h8⟩ := h
  refine ⟨xs, ad, n, cap, rfl, h2, h3, h4, h5, h6, fun i hi => ?_, fun i hi hi' => ⟨(h8 i hi hi').1, (h8 i hi hi').2.but hb hs⟩⟩
  obtain ⟨b, off, rfl, hlt, c0, c1, c2, c3, c4⟩ := h7 i hi
  have hS : ¬ S b := hs b (h6 _ _ _ rfl (by omega))
  exact ⟨b, off, rfl, Nat.lt_of_lt_of_le hlt hb.size, (hb.cell (p := ⟨b, off + i * 5, none⟩) hlt hS).trans c0, (hb.cell (p := ⟨b, off + i * 5 + 1, none⟩) hlt hS).trans c1, (hb.cell (p := ⟨b, off + i * 5 + 2, none⟩) hlt hS).trans c2, (hb.cell (p := ⟨b, off + i * 5 + 3, none⟩) hlt hS).trans c3, (hb.cell (p := ⟨b, off + i * 5 + 4, none⟩) hlt hS).trans c4⟩

theorem RdsC.below {ok : Nat → Prop} {w w' : World} {v : Value} {L : List (Int × Rl)} (h : RdsC ok w v L) (hb : Below w.heap.size w w') : RdsC ok w' v L := h.but (S := fun _ => False) (But.below hb) (fun _ _ h => h)

theorem RdsC.mono {ok ok' : Nat → Prop} {w : World} {v : Value} {L : List (Int × Rl)} (h : RdsC ok w v L) (hk : ∀ b, ok b → ok' b) : RdsC ok' w v L := by
  obtain ⟨xs, ad, n, cap, h1, h2, h3, h4, h5, h6, h7, h8⟩ := h
  exact ⟨xs, ad, n, cap, h1, h2, h3, h4, h5, okV_mono h6 hk, h7, fun i hi hi' => ⟨(h8 i hi hi').1, (h8 i hi hi').2.mono hk⟩⟩

theorem RdsC.lt {ok : Nat → Prop} {w : World} {v : Value} {L : List (Int × Rl)} (h : RdsC ok w v L) : RdsC (fun b => ok b ∧ b < w.heap.size) w v L := by
  obtain ⟨xs, ad, n, cap, h1, h2, h3, h4, h5, h6, h7, h8⟩ := h
  refine ⟨xs, ad, n, cap, h1, h2, h3, h4, h5, fun a m c hv hn => ⟨h6 a m c hv hn, ?_⟩, h7, fun i hi hi' => ⟨(h8 i hi hi').1, (h8 i hi hi').2.lt⟩⟩
  rw [h1] at hv
  injection hv with e1 e2 _
  obtain ⟨b, off, h9, h10, _⟩ := h7 0 (by omega)
  rw [e1] at h9
  injection h9 with h9
  rw [h9]; exact h10

theorem rdsC_nil (ok : Nat → Prop) (w : World) : RdsC ok w (.slice none 0 0) [] := ⟨[], none, 0, 0, rfl, rfl, rfl, ⟨Nat.le_refl _, fun _ => rfl⟩, Nat.zero_le _, okV_nil _ _ _, fun i h => absurd h (Nat.not_lt_zero _), fun i h => absurd h (Nat.not_lt_zero _)⟩

/-- One element. -/
theorem RdsC.get {ok : Nat → Prop} {w : World} {ad : Option Addr} {n cap : Nat} {L : List (Int × Rl)} (h : RdsC ok w (.slice ad n cap) L) (i : Nat) (hi : i < L.length) : ∃ (b off : Nat) (k : Int) (x : RC), ad = some ⟨b, off, none⟩ ∧ b < w.heap.size ∧ ok b ∧ k = L[i].1 ∧
    w.cell? ⟨b, off + i * 5, none⟩ = some (.int .i64 k) ∧ w.cell? ⟨b, off + i * 5 + 1, none⟩ = some (.int .i64 x.p) ∧ w.cell? ⟨b, off + i * 5 + 2, none⟩ = some (.string x.m) ∧ w.cell? ⟨b, off + i * 5 + 3, none⟩ = some (.int .i64 x.k) ∧ w.cell? ⟨b, off + i * 5 + 4, none⟩ = some (.slice x.a x.n x.c) ∧ RdC ok w x L[i].2 := by
  obtain ⟨xs, ad', n', cap', h1, h2, h3, h4, h5, h6, h7, h8⟩ := h
  injection h1 with e1 e2 e3
  subst e1 e2 e3
  obtain ⟨b, off, rfl, hlt, c0, c1, c2, c3, c4⟩ := h7 i (by omega)
  obtain ⟨hk, hx⟩ := h8 i (by omega) hi
  exact ⟨b, off, (xs[i]'(by omega)).1, (xs[i]'(by omega)).2, rfl, hlt, h6 _ _ _ rfl (by omega), hk, c0, c1, c2, c3, c4, hx⟩

theorem RdsC.form {ok : Nat → Prop} {w : World} {v : Value} {L : List (Int × Rl)} (h : RdsC ok w v L) : ∃ ad cap, v = .slice ad L.length cap ∧ L.length ≤ cap ∧ cap ≤ maxLen := by
  obtain ⟨xs, ad, n, cap, rfl, rfl, h3, h4, h5, _⟩ := h
  exact ⟨ad, cap, rfl, h4.1, h5⟩

/-- One change of its own row. -/
theorem one_rdsC {ok : Nat → Prop} {W : World} {g : Nat} {k : Int} {x : RC} {r : Rl} {e : TypeId} (h : W.heap[g]? = some (.cells #[.int .i64 k, .int .i64 x.p, .string x.m, .int .i64 x.k, .slice x.a x.n x.c] e (0, 0))) (hx : RdC ok W x r) (hg : ok g) : RdsC ok W (.slice (some ⟨g, 0, none⟩) 1 1) [(k, r)] := by
  have hlt : g < W.heap.size := by
    rcases Nat.lt_or_ge g W.heap.size with h' | h'
    · exact h'
    · rw [Array.getElem?_eq_none h'] at h; cases h
  refine ⟨[(k, x)], some ⟨g, 0, none⟩, 1, 1, rfl, rfl, rfl, ⟨Nat.le_refl _, fun e => by cases e⟩, by unfold maxLen; omega, okV_some hg, ?_, ?_⟩
  · intro i hi
    obtain rfl : i = 0 := by simpa using hi
    exact ⟨g, 0, rfl, hlt, by simp [World.cell?, h], by simp [World.cell?, h], by simp [World.cell?, h], by simp [World.cell?, h], by simp [World.cell?, h]⟩
  · intro i h1 h2
    obtain rfl : i = 0 := by simpa using h1
    exact ⟨rfl, hx⟩

/-- Two changes of their own row. -/
theorem two_rdsC {ok : Nat → Prop} {W : World} {g : Nat} {k k2 : Int} {x y : RC} {r s : Rl} {e : TypeId} (h : W.heap[g]? = some (.cells #[.int .i64 k, .int .i64 x.p, .string x.m, .int .i64 x.k, .slice x.a x.n x.c, .int .i64 k2, .int .i64 y.p, .string y.m, .int .i64 y.k, .slice y.a y.n y.c] e (0, 0))) (hx : RdC ok W x r) (hy : RdC ok W y s) (hg : ok g) : RdsC ok W (.slice (some ⟨g, 0, none⟩) 2 2) [(k, r), (k2, s)] := by
  have hlt : g < W.heap.size := by
    rcases Nat.lt_or_ge g W.heap.size with h' | h'
    · exact h'
    · rw [Array.getElem?_eq_none h'] at h; cases h
  refine ⟨[(k, x), (k2, y)], some ⟨g, 0, none⟩, 2, 2, rfl, rfl, rfl, ⟨Nat.le_refl _, fun e => by cases e⟩, by unfold maxLen; omega, okV_some hg, ?_, ?_⟩
  · intro i hi
    have hi' : i = 0 ∨ i = 1 := by simp at hi; omega
    rcases hi' with rfl | rfl
    · exact ⟨g, 0, rfl, hlt, by simp [World.cell?, h], by simp [World.cell?, h], by simp [World.cell?, h], by simp [World.cell?, h], by simp [World.cell?, h]⟩
    · exact ⟨g, 0, rfl, hlt, by simp [World.cell?, h], by simp [World.cell?, h], by simp [World.cell?, h], by simp [World.cell?, h], by simp [World.cell?, h]⟩
  · intro i h1 h2
    have hi' : i = 0 ∨ i = 1 := by simp at h1; omega
    rcases hi' with rfl | rfl
    · exact ⟨rfl, hx⟩
    · exact ⟨rfl, hy⟩

theorem RdsC.part {ok : Nat → Prop} {w : World} {ad : Option Addr} {n cap : Nat} {L : List (Int × Rl)} (h : RdsC ok w (.slice ad n cap) L) (l k : Nat) (hl : l ≤ k) (hk : k ≤ n) :
    RdsC ok w (.slice (if cap = l then ad else ad.map (·.add (l * 5))) (k - l) (cap - l)) ((L.take k).drop l) := by
  obtain ⟨xs, ad', n', cap', h1, h2, h3, h4, h5, h6, h7, h8⟩ := h
  injection h1 with e1 e2 e3
  subst e1 e2 e3
  have hlen : ((L.take k).drop l).length = k - l := by rw [List.length_drop, List.length_take]; omega
  refine ⟨(xs.take k).drop l, _, k - l, cap - l, rfl, hlen.symm, by rw [List.length_drop, List.length_take]; omega, ⟨by omega, ?_⟩, by omega, ?_, ?_, ?_⟩
  · intro hn
    split at hn
    · omega
    · cases ad with
      | none => have := h4.2 rfl; omega
      | some a => cases hn
  · intro a m c hv hm
    injection hv with e1 e2 _
    have hne : ¬ cap = l := by omega
    rw [if_neg hne] at e1
    cases ad with
    | none => cases e1
    | some a0 =>
      injection e1 with e1
      rw [← e1]
      have : (a0.add (l * 5)).block = a0.block := by unfold Addr.add; split <;> rfl
      rw [this]
      exact h6 a0 n cap rfl (by omega)
  · intro i hi
    rw [List.length_drop, List.length_take] at hi
    obtain ⟨b, off, rfl, hb, c0, c1, c2, c3, c4⟩ := h7 (l + i) (by omega)
    have hne : ¬ cap = l := by omega
    have hadd : (⟨b, off, none⟩ : Addr).add (l * 5) = ⟨b, off + l * 5, none⟩ := by unfold Addr.add; split <;> simp_all
    refine ⟨b, off + l * 5, ?_, hb, ?_, ?_, ?_, ?_, ?_⟩
    · rw [if_neg hne, Option.map_some, hadd]
    · simpa [List.getElem_drop, List.getElem_take, Nat.add_mul, Nat.add_assoc] using c0
    · simpa [List.getElem_drop, List.getElem_take, Nat.add_mul, Nat.add_assoc] using c1
    · simpa [List.getElem_drop, List.getElem_take, Nat.add_mul, Nat.add_assoc] using c2
    · simpa [List.getElem_drop, List.getElem_take, Nat.add_mul, Nat.add_assoc] using c3
    · simpa [List.getElem_drop, List.getElem_take, Nat.add_mul, Nat.add_assoc] using c4
  · intro i h1 h2
    rw [List.length_drop, List.length_take] at h1
    have := h8 (l + i) (by omega) (by omega)
    simpa [List.getElem_drop, List.getElem_take] using this
end Go.Proofs.YtlbelkjgaeaaeaaGreat
/-
  Rules that no header meets, as plain data: without them every header meets the rule that it met; no program here.
-/
namespace Go.Proofs.YtlbelkjgaeaaeaaGreat
open Go.RowKit Go.Shelf Go.Lib Go.Sort
set_option linter.unusedVariables false
set_option linter.unusedSectionVars false

namespace Fb
/-- Does a header lie in a rule's match? -/
def has (r : Rl) (h : List UInt8) : Bool := (Cb.HasS r.m.data.toList h).1
/-- The rule that a header meets. -/
def meetL (L : List Rl) (h : List UInt8) : Option Rl := L.find? fun r => has r h
/-- What is left of a rule's match without others. -/
def leftR (ahead : List ByteArray) (r : Rl) : List (List UInt8) × Int := Cb.LeftS r.m.data.toList (lb ahead)
/-- The rules that no header meets, behind some matches; none: too many parts. -/
def deadL : List ByteArray → List Rl → Option (List Rl)
  | _, [] => some []
  | ahead, r :: L => if (leftR ahead r).2 = 0 then (deadL (ahead ++ [r.m]) L).map fun t => if (leftR ahead r).1.length = 0 then r :: t else t else none

theorem lb_map (L : List Rl) : lb (L.map (·.m)) = L.map fun r => r.m.data.toList := by unfold lb; rw [List.map_map]; rfl

theorem chk_cube {W : Int} {r : Rl} (h : Rp.checkR r W = 0) : Cb.isCube r.m.data.toList = true ∧ (r.m.size : Int) = W ∧ 1 ≤ W ∧ W ≤ 128 ∧ 0 ≤ r.p ∧ r.p ≤ 2147483647 ∧ Rp.actionB r.k r.ps = true := by
  unfold Rp.checkR at h
  split at h
  · cases h
  · split at h
    · cases h
    · split at h
      · cases h
      · split at h
        · cases h
        · rename_i h1 h2 h3 h4
          refine ⟨by simpa using h2, by omega, by omega, by omega, by omega, by omega, by simpa using h4⟩

theorem wrong_ok {W : Int} {r : Rl} {L : List Rl} (hr : Rp.checkR r W = 0) (hL : ∀ x ∈ L, Rp.checkR x W = 0) : Cb.wrong (r.m.data.toList :: lb (L.map (·.m))) = 0 := by
  have hc := chk_cube hr
  unfold Cb.wrong
  rw [if_pos, if_pos]
  · rw [List.all_eq_true]
    intro s hs
    rcases List.mem_cons.1 hs with rfl | hs
    · simp
    · rw [lb_map] at hs
      obtain ⟨x, hx, rfl⟩ := List.mem_map.1 hs
      have h2 := (chk_cube (hL x hx)).2.1
      have : x.m.size = r.m.size := by have := hc.2.1; omega
      simpa using this
  · rw [List.all_eq_true]
    intro s hs
    rcases List.mem_cons.1 hs with rfl | hs
    · exact hc.1
    · rw [lb_map] at hs
      obtain ⟨x, hx, rfl⟩ := List.mem_map.1 hs
      exact (chk_cube (hL x hx)).1

/-- Left refuses for one reason alone. -/
theorem leftR_err {W : Int} {r : Rl} {L : List Rl} (hr : Rp.checkR r W = 0) (hL : ∀ x ∈ L, Rp.checkR x W = 0) : (leftR (L.map (·.m)) r).2 = 0 ∨ (leftR (L.map (·.m)) r).2 = 3 := by
  unfold leftR Cb.LeftS
  rw [if_pos (wrong_ok hr hL)]
  unfold Cb.resL
  split
  · exact .inl rfl
  · exact .inr rfl

theorem deadL_sub : ∀ (M : List Rl) (ahead : List ByteArray) (D : List Rl), deadL ahead M = some D → D.Sublist M
  | [], ahead, D, h => by injection h with h; rw [← h]; exact List.nil_sublist _
  | r :: M, ahead, D, h => by
    unfold deadL at h
    split at h
    · cases h1 : deadL (ahead ++ [r.m]) M with
      | none => rw [h1] at h; cases h
      | some t =>
        rw [h1] at h
        have ih := deadL_sub M _ t h1
        injection h with h
        subst h
        split
        · exact ih.cons_cons r
        · exact ih.cons r
    · cases h

theorem deadL_mem : ∀ (M P : List Rl) (D : List Rl), deadL (P.map (·.m)) M = some D → ∀ r ∈ D, ∃ A B, P ++ M = A ++ r :: B ∧ (leftR (A.map (·.m)) r).2 = 0 ∧ (leftR (A.map (·.m)) r).1 = []
  | [], P, D, h, r, hr => by injection h with h; subst h; cases hr
  | x :: M, P, D, h, r, hr => by
    unfold deadL at h
    split at h
    · rename_i h0
      cases h1 : deadL (P.map (·.m) ++ [x.m]) M with
      | none => rw [h1] at h; cases h
      | some t =>
        rw [h1] at h
        have ih := deadL_mem M (P ++ [x]) t (by rw [List.map_append]; exact h1)
        rw [List.append_assoc, List.singleton_append] at ih
        injection h with h
        subst h
        split at hr
        · rename_i h2
          rcases List.mem_cons.1 hr with rfl | hr
          · exact ⟨P, M, rfl, h0, List.length_eq_zero_iff.1 h2⟩
          · exact ih r hr
        · exact ih r hr
    · cases h

theorem meetL_first {W : Int} {L : List Rl} (hL : Ok W L) (h : List UInt8) (x : Rl) : meetL L h = some x ↔ x ∈ L ∧ has x h = true ∧ ∀ y ∈ L, has y h = true → y = x ∨ Rp.aheadR x y = true := by
  unfold meetL
  rw [List.find?_eq_some_iff_append]
  constructor
  · rintro ⟨h1, l1, l2, rfl, h2⟩
    refine ⟨by simp, h1, fun y hy h3 => ?_⟩
    have hs := List.pairwise_append.1 hL.strict
    rcases List.mem_append.1 hy with hy | hy
    · have := h2 y hy; rw [h3] at this; cases this
    · rcases List.mem_cons.1 hy with rfl | hy
      · exact .inl rfl
      · exact .inr ((List.pairwise_cons.1 hs.2.1).1 y hy)
  · rintro ⟨h1, h2, h3⟩
    obtain ⟨l1, l2, rfl⟩ := List.append_of_mem h1
    refine ⟨h2, l1, l2, rfl, fun a ha => ?_⟩
    have hs := List.pairwise_append.1 hL.strict
    cases h4 : has a h with
    | false => rfl
    | true =>
      have h5 := hs.2.2 a ha x (List.mem_cons_self ..)
      rcases h3 a (by simp [ha]) h4 with rfl | h6
      · rw [swoR.irrefl] at h5; cases h5
      · have := swoR.trans _ _ _ h5 h6; rw [swoR.irrefl] at this; cases this

/-- A rule that no header meets stands behind one that has the header, wherever it has it. -/
theorem dead_behind {W : Int} {L D : List Rl} (hL : Ok W L) (hD : deadL [] L = some D) {r : Rl} (hr : r ∈ D) {h : List UInt8} (hh : has r h = true) : ∃ y ∈ L, has y h = true ∧ Rp.aheadR y r = true := by
  obtain ⟨A, B, e, h1, h2⟩ := deadL_mem L [] D hD r hr
  rw [List.nil_append] at e
  subst e
  have hs := List.pairwise_append.1 hL.strict
  have hz := Cb.HasS_true hh
  have h1' : (Cb.LeftS r.m.data.toList (lb (A.map (·.m)))).2 = 0 := h1
  have hlaw := Cb.allOrLeft_law h1' hz
  have e1 : Cb.inS (Cb.LeftS r.m.data.toList (lb (A.map (·.m)))).1 h = false := by
    have : (Cb.LeftS r.m.data.toList (lb (A.map (·.m)))).1 = [] := h2
    rw [this]; rfl
  rw [e1, show (Cb.HasS r.m.data.toList h).1 = true from hh, Bool.true_and] at hlaw
  have hin : Cb.inS (lb (A.map (·.m))) h = true := by
    cases hc : Cb.inS (lb (A.map (·.m))) h with
    | true => rfl
    | false => rw [hc] at hlaw; cases hlaw
  unfold Cb.inS at hin
  rw [lb_map, List.any_map, List.any_eq_true] at hin
  obtain ⟨y, hy, hyh⟩ := hin
  exact ⟨y, by simp [hy], hyh, hs.2.2 y hy r (List.mem_cons_self ..)⟩

/-- Without some of the rules that no header meets, every header meets what it met. -/
theorem meetL_dead {W : Int} {L M D : List Rl} (hL : Ok W L) (hM : Ok W M) (hD : deadL [] L = some D) {S : List Rl} (hS : ∀ r ∈ S, r ∈ D) (hm : ∀ x, x ∈ M ↔ x ∈ L ∧ x ∉ S) (h : List UInt8) : meetL M h = meetL L h := by
  cases e : meetL L h with
  | none =>
    unfold meetL at e ⊢
    rw [List.find?_eq_none] at e ⊢
    exact fun x hx => e x ((hm x).1 hx).1
  | some x =>
    obtain ⟨h1, h2, h3⟩ := (meetL_first hL h x).1 e
    refine (meetL_first hM h x).2 ⟨(hm x).2 ⟨h1, fun hx => ?_⟩, h2, fun y hy => h3 y ((hm y).1 hy).1⟩
    obtain ⟨y, hy, hyh, hyx⟩ := dead_behind hL hD (hS x hx) h2
    rcases h3 y hy hyh with rfl | h4
    · rw [swoR.irrefl] at hyx; cases hyx
    · have := swoR.trans _ _ _ hyx h4; rw [swoR.irrefl] at this; cases this

theorem actionB_one : Rp.actionB 1 [] = true := by unfold Rp.actionB; rw [if_pos (.inl rfl)]; rfl

theorem chk_delete {W : Int} {r : Rl} (h : Rp.checkR r W = 0) : Rp.checkR (ruleOf 2 r) W = 0 := by
  have hc := chk_cube h
  unfold ruleOf
  rw [if_pos rfl]
  unfold Rp.checkR
  rw [if_neg (by simp only; omega), if_neg (by simp only; rw [hc.1]; simp), if_neg (by simp only; omega), if_neg (by simp only; rw [actionB_one]; simp)]

/-- One of the rules that no header meets is taken out. -/
theorem dead_step {W : Int} {L M D : List Rl} (hL : Ok W L) (hM : Ok W M) (hD : deadL [] L = some D) {i : Nat} (hi : i < D.length) (hm : ∀ x, x ∈ M ↔ x ∈ L ∧ x ∉ D.take i) : mayI M W 2 D[i] = 0 ∧ ∀ x, x ∈ aft M 2 D[i] ↔ x ∈ L ∧ x ∉ D.take (i + 1) := by
  have hsub := deadL_sub L [] D hD
  have hDL : D[i] ∈ L := hsub.subset (List.getElem_mem hi)
  have hDs := hL.strict.sublist hsub
  have hnot : D[i] ∉ D.take i := fun h => by
    obtain ⟨j, hj, hje⟩ := List.getElem_of_mem h
    rw [List.length_take] at hj
    rw [List.getElem_take] at hje
    have := List.pairwise_iff_getElem.1 hDs j i (by omega) hi (by omega)
    rw [hje, swoR.irrefl] at this
    cases this
  have hmay : mayI M W 2 D[i] = 0 := mayI_good.2 ⟨⟨show (1 : Int) ≤ 2 by decide, show (2 : Int) ≤ 3 by decide, chk_delete (hL.chk _ hDL), (fun h => absurd h (show ¬ (2 : Int) = 1 by decide)), fun _ => ⟨D[i], (hm _).2 ⟨hDL, hnot⟩, keyB_true.2 ⟨rfl, rfl⟩⟩⟩, fun h => absurd h (by decide)⟩
  refine ⟨hmay, fun x => ?_⟩
  rw [mem_aft hM.strict hmay, hm, List.take_succ_eq_append_getElem hi]
  have hkey : x ∈ L → (keyB D[i].p D[i].m x = false ↔ x ≠ D[i]) := fun hx => by
    constructor
    · rintro h rfl
      rw [keyB_true.2 ⟨rfl, rfl⟩] at h; cases h
    · intro h
      cases hk : keyB D[i].p D[i].m x with
      | false => rfl
      | true =>
        obtain ⟨a, ha, rfl⟩ := List.getElem_of_mem hx
        obtain ⟨b, hb, hbe⟩ := List.getElem_of_mem hDL
        have := strict_key hL.strict ha hb D[i].p D[i].m hk (by rw [hbe]; exact keyB_true.2 ⟨rfl, rfl⟩)
        subst this
        exact absurd hbe h
  constructor
  · rintro (⟨⟨h1, h2⟩, h3⟩ | ⟨h1, _⟩)
    · refine ⟨h1, fun h => ?_⟩
      rcases List.mem_append.1 h with h | h
      · exact h2 h
      · exact (hkey h1).1 h3 (List.mem_singleton.1 h)
    · exact absurd rfl h1
  · rintro ⟨h1, h2⟩
    exact .inl ⟨⟨h1, fun h => h2 (List.mem_append.2 (.inl h))⟩, (hkey h1).2 fun h => h2 (List.mem_append.2 (.inr (List.mem_singleton.2 h)))⟩
end Fb
end Go.Proofs.YtlbelkjgaeaaeaaGreat
/-
  Walks: what a table holds; New, is, Len, Width, Rules of code and reference.
-/
namespace Go.Proofs.YtlbelkjgaeaaeaaGreat
open Go.RowKit Go.Shelf Go.Lib Go.Sort
set_option linter.unusedVariables false
set_option linter.unusedSectionVars false
set_option linter.unusedSimpArgs false

/-- A table in block tb: its rules' slice v at one cell, its width at another one. -/
structure Tab (vo wo : Nat) (ok : Nat → Prop) (w : World) (tb : Nat) (v : Value) (L : List Rl) (W : Int) : Prop where
  c0 : w.cell? ⟨tb, vo, none⟩ = some v
  c1 : w.cell? ⟨tb, wo, none⟩ = some (.int .i64 W)
  f0 : w.frozen? ⟨tb, vo, none⟩ = false
  rd : RdsR ok w v L
  no : ∀ b, ok b → b ≠ tb
  lo : 1 ≤ W
  hi : W ≤ 128

theorem Tab.lt {vo wo : Nat} {ok : Nat → Prop} {w : World} {tb : Nat} {v : Value} {L : List Rl} {W : Int} (h : Tab vo wo ok w tb v L W) : tb < w.heap.size := by
  have hc := h.c0
  rcases Nat.lt_or_ge tb w.heap.size with h1 | h1
  · exact h1
  · unfold World.cell? at hc
    rw [Array.getElem?_eq_none h1] at hc
    cases hc

theorem Tab.but {vo wo : Nat} {ok S : Nat → Prop} {w w' : World} {tb : Nat} {v : Value} {L : List Rl} {W : Int} (h : Tab vo wo ok w tb v L W) (hb : But S w w') (hn : ¬ S tb) (hs : ∀ b, ok b → ¬ S b) : Tab vo wo ok w' tb v L W :=
  ⟨(hb.cell (p := ⟨tb, vo, none⟩) h.lt hn).trans h.c0, (hb.cell (p := ⟨tb, wo, none⟩) h.lt hn).trans h.c1, (hb.frozen (p := ⟨tb, vo, none⟩) h.lt hn).trans h.f0, h.rd.but hb hs, h.no, h.lo, h.hi⟩
theorem Tab.below {vo wo : Nat} {ok : Nat → Prop} {w w' : World} {tb : Nat} {v : Value} {L : List Rl} {W : Int} (h : Tab vo wo ok w tb v L W) (hb : Below w.heap.size w w') : Tab vo wo ok w' tb v L W :=
  h.but (S := fun _ => False) (But.below hb) (fun h => h) (fun _ _ h => h)
theorem Tab.mono {vo wo : Nat} {ok ok' : Nat → Prop} {w : World} {tb : Nat} {v : Value} {L : List Rl} {W : Int} (h : Tab vo wo ok w tb v L W) (hk : ∀ b, ok b → ok' b) (hn : ∀ b, ok' b → b ≠ tb) : Tab vo wo ok' w tb v L W :=
  ⟨h.c0, h.c1, h.f0, h.rd.mono hk, hn, h.lo, h.hi⟩

set_option maxHeartbeats 800000 in
set_option maxRecDepth 20000 in
theorem new_ok (W : Int) (w : World) (h1 : 1 ≤ W) (h2 : W ≤ 128) :
    Calls Tryz.prog 13 #[.int .i64 W] w fun e w' => e = .returned (.tuple #[.pointer (some ⟨w.heap.size, 0, none⟩), .int .i64 0]) ∧ w' = w.alloc (.cells #[.slice none 0 0, .int .i64 W] 89) := by
  go_enter Tryz.func13, Tryz.ntmps13
  go_wp2_with fail
  go_ret2
  exact ⟨rfl, rfl⟩

set_option maxHeartbeats 800000 in
set_option maxRecDepth 20000 in
theorem new_bad (W : Int) (w : World) (h : W < 1 ∨ W > 128) :
    Calls Tryz.prog 13 #[.int .i64 W] w fun e w' => e = .returned (.tuple #[.pointer none, .int .i64 1]) ∧ w' = w := by
  rcases h with h | h
  · go_enter Tryz.func13, Tryz.ntmps13
    go_wp2_with fail
    go_ret2
    exact ⟨rfl, rfl⟩
  · have h1 : ¬ W < 1 := by omega
    go_enter Tryz.func13, Tryz.ntmps13
    go_wp2_with fail
    go_ret2
    exact ⟨rfl, rfl⟩

set_option maxHeartbeats 800000 in
set_option maxRecDepth 20000 in
theorem rNew_ok (W : Int) (w : World) (h1 : 1 ≤ W) (h2 : W ≤ 128) :
    Calls Tryz.prog 14 #[.int .i64 W] w fun e w' => e = .returned (.tuple #[.pointer (some ⟨w.heap.size, 0, none⟩), .int .i64 0]) ∧ w' = w.alloc (.cells #[.int .i64 W, .slice none 0 0] 85) := by
  go_enter Tryz.func14, Tryz.ntmps14
  go_wp2_with fail
  go_ret2
  exact ⟨rfl, rfl⟩

set_option maxHeartbeats 800000 in
set_option maxRecDepth 20000 in
theorem rNew_bad (W : Int) (w : World) (h : W < 1 ∨ W > 128) :
    Calls Tryz.prog 14 #[.int .i64 W] w fun e w' => e = .returned (.tuple #[.pointer none, .int .i64 1]) ∧ w' = w := by
  rcases h with h | h
  · go_enter Tryz.func14, Tryz.ntmps14
    go_wp2_with fail
    go_ret2
    exact ⟨rfl, rfl⟩
  · have h1 : ¬ W < 1 := by omega
    go_enter Tryz.func14, Tryz.ntmps14
    go_wp2_with fail
    go_ret2
    exact ⟨rfl, rfl⟩

theorem tab_new (w : World) (W : Int) (h1 : 1 ≤ W) (h2 : W ≤ 128) : Tab 0 1 (fun _ => False) (w.alloc (.cells #[.slice none 0 0, .int .i64 W] 89)) w.heap.size (.slice none 0 0) [] W :=
  ⟨by simp [go_sem], by simp [go_sem], by simp [go_sem], rdsR_nil _ _, fun _ h => h.elim, h1, h2⟩
theorem rtab_new (w : World) (W : Int) (h1 : 1 ≤ W) (h2 : W ≤ 128) : Tab 1 0 (fun _ => False) (w.alloc (.cells #[.int .i64 W, .slice none 0 0] 85)) w.heap.size (.slice none 0 0) [] W :=
  ⟨by simp [go_sem], by simp [go_sem], by simp [go_sem], rdsR_nil _ _, fun _ h => h.elim, h1, h2⟩

set_option maxHeartbeats 800000 in
set_option maxRecDepth 20000 in
theorem is_tab {ok : Nat → Prop} {w : World} {tb : Nat} {v : Value} {L : List Rl} {W : Int} (h : Tab 0 1 ok w tb v L W) :
    Calls Tryz.prog 39 #[.pointer (some ⟨tb, 0, none⟩)] w fun e w' => e = .returned (.bool true) ∧ w = w' := by
  have c1 := h.c1
  have hW : W > 0 := by have := h.lo; omega
  clear h
  go_enter Tryz.func39, Tryz.ntmps39
  go_wp2_with fail
  go_ret
  exact ⟨rfl, rfl⟩

set_option maxHeartbeats 800000 in
set_option maxRecDepth 20000 in
theorem width_tab {ok : Nat → Prop} {w : World} {tb : Nat} {v : Value} {L : List Rl} {W : Int} (h : Tab 0 1 ok w tb v L W) :
    Calls Tryz.prog 35 #[.pointer (some ⟨tb, 0, none⟩)] w fun e w' => e = .returned (.int .i64 W) ∧ w = w' := by
  have HI := Lib.hid (is_tab h)
  have c1 := h.c1
  clear h
  go_enter Tryz.func35, Tryz.ntmps35
  go_wp2_with fail
  refine HI.out.mono ?_
  rintro e w1 ⟨rfl, rfl⟩
  go_wp2_with fail
  go_ret
  exact ⟨rfl, rfl⟩

set_option maxHeartbeats 800000 in
set_option maxRecDepth 20000 in
theorem rules_tab {ok : Nat → Prop} {w : World} {tb : Nat} {v : Value} {L : List Rl} {W : Int} (h : Tab 0 1 ok w tb v L W) (hL : L.length ≤ 4096) :
    Calls Tryz.prog 27 #[.pointer (some ⟨tb, 0, none⟩)] w fun e w' => ∃ ad c, e = .returned (.slice ad L.length c) ∧ RdsR (fun b => w.heap.size ≤ b) w' (.slice ad L.length c) L ∧ Below w.heap.size w w' := by
  have HI := Lib.hid (is_tab h)
  have HC := Lib.hid (copied_any ok v L w h.rd (by omega))
  have c0 := h.c0
  clear h
  go_enter Tryz.func27, Tryz.ntmps27
  go_wp2_with fail
  refine HI.out.mono ?_
  rintro e w1 ⟨rfl, rfl⟩
  go_wp2_with fail
  refine HC.out.mono ?_
  rintro e w2 ⟨ad, c, rfl, hr, hb⟩
  have HR := Lib.hid hr
  have HB := Lib.hid hb
  clear hr hb
  go_wp2_with fail
  go_ret
  exact ⟨ad, c, rfl, HR.out, HB.out⟩
end Go.Proofs.YtlbelkjgaeaaeaaGreat
/-
  Walks: rows.all: changes on a copy; its deferred call.
-/
namespace Go.Proofs.YtlbelkjgaeaaeaaGreat
open Go.RowKit Go.Shelf Go.Lib Go.Sort
set_option linter.unusedVariables false
set_option linter.unusedSectionVars false
set_option linter.unusedSimpArgs false

set_option maxHeartbeats 400000 in
set_option maxRecDepth 20000 in
theorem all1_idle (a b c : Addr) (w : World) :
    CallsD Tryz.prog 49 #[.pointer (some a), .pointer (some b), .pointer (some c)] .returning w fun e u' w' => e = .returned (.tuple #[]) ∧ u' = .returning ∧ w = w' := by
  refine callsD_of_wpS Tryz.func49 rfl fun c₀ cs hu => ?_
  simp only [Tryz.ntmps49, List.size_toArray, List.length_cons, List.length_nil, Nat.reduceAdd, Nat.reduceSub, Array.replicate_succ,
     Array.replicate_zero, List.push_toArray, List.append_toArray, List.nil_append, List.cons_append]
  apply wpS_seq
  apply wpS_region
  simp [wpOpsS, go_sem, recoverD, hu, Exit.thenS]
  have HU := Lib.hid hu
  clear hu
  apply wpS_of_wp
  generalize hQ : (fun e a' w' => bodyPostS _ _ _ _ _ e a' _ w') = Q
  have HQ := Lib.hid hQ
  clear hQ
  go_wp2_with fail
  rw [← HQ.out]
  exact ⟨rfl, _, by rw [← HU.out], .tuple #[], results_none rfl _ _ _, rfl, rfl, rfl⟩

theorem run_assert_errno (x : Int) (w : World) :
    (Instr.typeAssert (.iface 24 (.int .i64 x)) 20 24 true).run Tryz.prog w = .ok (.tuple #[.int .i64 x, .bool true]) w := by
  kernel_rfl

set_option maxHeartbeats 400000 in
set_option maxRecDepth 20000 in
theorem all1_catches (A B C : Nat) (w : World) (code : Int) (xa xb : Value) (xc : Int) (hAB : A < B) (hBC : B < C) (hCw : C < w.heap.size) (older : List PanicEntry) (a0 : w.cell? ⟨A, 0, none⟩ = some xa) (b0 : w.cell? ⟨B, 0, none⟩ = some xb) (c0 : w.cell? ⟨C, 0, none⟩ = some (.int .i64 xc)) (af : w.frozen? ⟨A, 0, none⟩ = false) (bf : w.frozen? ⟨B, 0, none⟩ = false) (cf : w.frozen? ⟨C, 0, none⟩ = false)
    (fa : ∃ p, xa = .pointer p) (fb : ∃ p n c, xb = .slice p n c) :
    CallsD Tryz.prog 49 #[.pointer (some ⟨A, 0, none⟩), .pointer (some ⟨B, 0, none⟩), .pointer (some ⟨C, 0, none⟩)] (.panicking ({ v := .iface 24 (.int .i64 code), recovered := false } :: older)) w fun e u' w' =>
      e = .returned (.tuple #[]) ∧ u' = .panicking ({ v := .iface 24 (.int .i64 code), recovered := true } :: older) ∧ Below A w w' ∧ w'.cell? ⟨A, 0, none⟩ = some (.pointer none) ∧ w'.cell? ⟨B, 0, none⟩ = some (.slice none 0 0) ∧ w'.cell? ⟨C, 0, none⟩ = some (.int .i64 code) := by
  obtain ⟨pa, rfl⟩ := fa
  obtain ⟨pb, nb, cb, rfl⟩ := fb
  have hta := run_assert_errno code w
  have h1 : ¬ A = B := by omega
  have h2 : ¬ A = C := by omega
  have h3 : ¬ B = C := by omega
  have h1' : ¬ B = A := by omega
  have h2' : ¬ C = A := by omega
  have h3' : ¬ C = B := by omega
  have HB : Hid (Below A w (((w.setCell ⟨A, 0, none⟩ (.pointer none)).setCell ⟨B, 0, none⟩ (.slice none 0 0)).setCell ⟨C, 0, none⟩ (.int .i64 code))) :=
    (((Below.refl A w).setCell (p := ⟨A, 0, none⟩) (Nat.le_refl _) _).setCell (p := ⟨B, 0, none⟩) (Nat.le_of_lt hAB) _).setCell (p := ⟨C, 0, none⟩) (by show A ≤ C; omega) _
  have n1 : (⟨B, 0, none⟩ : Addr) ≠ ⟨A, 0, none⟩ := fun e => h1' (congrArg Addr.block e)
  have n2 : (⟨C, 0, none⟩ : Addr) ≠ ⟨A, 0, none⟩ := fun e => h2' (congrArg Addr.block e)
  have n3 : (⟨C, 0, none⟩ : Addr) ≠ ⟨B, 0, none⟩ := fun e => h3' (congrArg Addr.block e)
  have n4 : (⟨A, 0, none⟩ : Addr) ≠ ⟨B, 0, none⟩ := fun e => h1 (congrArg Addr.block e)
  have n5 : (⟨A, 0, none⟩ : Addr) ≠ ⟨C, 0, none⟩ := fun e => h2 (congrArg Addr.block e)
  have n6 : (⟨B, 0, none⟩ : Addr) ≠ ⟨C, 0, none⟩ := fun e => h3 (congrArg Addr.block e)
  have HE : Hid ((((w.setCell ⟨A, 0, none⟩ (.pointer none)).setCell ⟨B, 0, none⟩ (.slice none 0 0)).setCell ⟨C, 0, none⟩ (.int .i64 code)).cell? ⟨A, 0, none⟩ = some (.pointer none) ∧ (((w.setCell ⟨A, 0, none⟩ (.pointer none)).setCell ⟨B, 0, none⟩ (.slice none 0 0)).setCell ⟨C, 0, none⟩ (.int .i64 code)).cell? ⟨B, 0, none⟩ = some (.slice none 0 0) ∧ (((w.setCell ⟨A, 0, none⟩ (.pointer none)).setCell ⟨B, 0, none⟩ (.slice none 0 0)).setCell ⟨C, 0, none⟩ (.int .i64 code)).cell? ⟨C, 0, none⟩ = some (.int .i64 code)) :=
    ⟨(cell_set_other _ n2).trans ((cell_set_other _ n1).trans (cell_set_same _ a0)), (cell_set_other _ n3).trans (cell_set_same _ ((cell_set_other _ n4).trans b0)), cell_set_same _ ((cell_set_other _ n6).trans ((cell_set_other _ n5).trans c0))⟩
  clear n1 n2 n3 n4 n5 n6
  refine callsD_of_wpS Tryz.func49 rfl fun c₀ cs hu => ?_
  simp only [Tryz.ntmps49, List.size_toArray, List.length_cons, List.length_nil, Nat.reduceAdd, Nat.reduceSub, Array.replicate_succ,
     Array.replicate_zero, List.push_toArray, List.append_toArray, List.nil_append, List.cons_append]
  apply wpS_seq
  apply wpS_region
  simp [wpOpsS, go_sem, recoverD, hu, Exit.thenS]
  have HU := Lib.hid hu
  clear hu
  apply wpS_of_wp
  generalize hQ : (fun e a' w' => bodyPostS _ _ _ _ _ e a' _ w') = Q
  have HQ := Lib.hid hQ
  clear hQ
  go_wp2_with fail
  rw [← HQ.out]
  exact ⟨rfl, _, rfl, .tuple #[], results_none rfl _ _ _, rfl, rfl, HB.out, HE.out⟩

/-- Behind a body that returned: nothing is recovered. -/
theorem all_ret {fn : Func} {tmps : Array Value} {R : Ending → World → Prop} {a b c : Addr} {W : World} (h : ∃ v, (results fn tmps).run Tryz.prog W = .ok v W ∧ R (.returned v) W) :
    Leaves Tryz.prog fn tmps R [{ target := .fn (.func 49) #[.pointer (some a), .pointer (some b), .pointer (some c)], args := #[] }] .returning W := by
  refine leaves_cons (f := 49) (args := #[.pointer (some a), .pointer (some b), .pointer (some c)]) (by simp) (by simp [go_sem]) ?_
  refine (all1_idle _ _ _ _).mono ?_
  rintro e u' w'' ⟨rfl, rfl, rfl⟩
  exact h

/-- Behind a body that gave up with a number: it is laid, the others are nothing. -/
theorem all_fault {fn : Func} {tmps : Array Value} {R : Ending → World → Prop} {A B C : Nat} {W : World} (code : Int) (xa xb : Value) (xc : Int) (hAB : A < B) (hBC : B < C) (hCw : C < W.heap.size) (a0 : W.cell? ⟨A, 0, none⟩ = some xa) (b0 : W.cell? ⟨B, 0, none⟩ = some xb) (c0 : W.cell? ⟨C, 0, none⟩ = some (.int .i64 xc)) (af : W.frozen? ⟨A, 0, none⟩ = false) (bf : W.frozen? ⟨B, 0, none⟩ = false) (cf : W.frozen? ⟨C, 0, none⟩ = false)
    (fa : ∃ p, xa = .pointer p) (fb : ∃ p n c, xb = .slice p n c)
    (h : ∀ W', Below A W W' → W'.cell? ⟨A, 0, none⟩ = some (.pointer none) → W'.cell? ⟨B, 0, none⟩ = some (.slice none 0 0) → W'.cell? ⟨C, 0, none⟩ = some (.int .i64 code) → ∃ v, (results fn tmps).run Tryz.prog W' = .ok v W' ∧ R (.returned v) W') :
    Leaves Tryz.prog fn tmps R [{ target := .fn (.func 49) #[.pointer (some ⟨A, 0, none⟩), .pointer (some ⟨B, 0, none⟩), .pointer (some ⟨C, 0, none⟩)], args := #[] }] (.panicking [{ v := .iface 24 (.int .i64 code), recovered := false }]) W := by
  refine leaves_cons (f := 49) (args := #[.pointer (some ⟨A, 0, none⟩), .pointer (some ⟨B, 0, none⟩), .pointer (some ⟨C, 0, none⟩)]) (by simp) (by simp [go_sem]) ?_
  refine (all1_catches A B C W code xa xb xc hAB hBC hCw [] a0 b0 c0 af bf cf fa fb).mono ?_
  rintro e u' w'' ⟨rfl, rfl, hB, h1, h2, h3⟩
  exact h w'' hB h1 h2 h3

theorem Fb.doL_step {W : Int} {L : List Rl} {m : List (Int × Rl)} {i : Nat} (h : i < m.length) : Fb.doL W L (m.drop i) i = if Fb.mayI L W m[i].1 m[i].2 = 0 then Fb.doL W (Fb.aft L m[i].1 m[i].2) (m.drop (i + 1)) (i + 1) else (none, i, Fb.mayI L W m[i].1 m[i].2) := by
  rw [List.drop_eq_getElem_cons h]
  rfl
theorem Fb.doL_end {W : Int} {L : List Rl} {m : List (Int × Rl)} : Fb.doL W L (m.drop m.length) m.length = (some L, 0, 0) := by
  rw [List.drop_length]
  rfl

theorem infoC : (Tryz.prog.info? 64).map (fun i => (i.zero, i.size, i.bytes)) = some (some (.agg #[.int .i64 0, .int .i64 0, .string ⟨#[]⟩, .int .i64 0, .slice none 0 0]), 5, 64) := by kernel_rfl
end Go.Proofs.YtlbelkjgaeaaeaaGreat
