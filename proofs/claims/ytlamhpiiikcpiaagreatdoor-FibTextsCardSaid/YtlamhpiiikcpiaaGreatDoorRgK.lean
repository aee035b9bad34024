/-
  Walks over package rules: the map of keys.
-/
import Derived.Test.YtlamhpiiikcpiaaGreatDoorRgH
import Derived.Test.YtlamhpiiikcpiaaGreatDoorRgJ
import Derived.Laws.StructEq
import Derived.DeepKeys3
import Derived.Test.YtlamhpiiikcpiaaGreatDoorRgE
import Derived.Test.YtlamhpiiikcpiaaGreatDoorRgC
namespace Go.Proofs.YtlamhpiiikcpiaaGreatDoor
open Go.RowKit Go.Shelf Go.Lib Go.Sort
set_option linter.unusedVariables false
set_option linter.unusedSimpArgs false
abbrev keyV (p : Int) (m : ByteArray) : Value := .agg #[.int .i64 p, .string m]
theorem run_checkKey (em : Bool) (p : Int) (m : ByteArray) (w : World) : (Instr.checkKey em 10000 97 (keyV p m)).run Tryz.prog w = .ok () w := by kernel_rfl
theorem run_equalKey (p q : Int) (m n : ByteArray) (w : World) : (Op.equal 97 (keyV p m) (keyV q n)).run Tryz.prog w = .ok (p == q && decide (m = n)) w := by
  have u3 := Tryz.underlying3
  have u4 := Tryz.underlying9
  have hS : Tryz.prog.underlying 97 = some (.struct (Tryz.prog.fieldsOf 97)) := by kernel_rfl
  have hp : Tryz.prog.stoodInHeld 97 = false := by kernel_rfl
  show (Op.equalIn 10000 97 (.agg #[.int .i64 p, .string m]) (.agg #[.int .i64 q, .string n])).run Tryz.prog w = _
  rw [show (10000 : Nat) = 9999 + 1 from rfl, run_equalIn_agg w 9999 97 _ _ hS hp]
  simp only [Program.fieldsOf, Tryz.underlying97]
  go_simp
  have e := is_eq m n
  have e2 : m.toList = n.toList ↔ m = n := ⟨fun h => by rw [h] at e; simpa using e, fun h => by rw [h]⟩
  by_cases h1 : p = q <;> by_cases h2 : m = n <;> simp [h1, h2, e, e2]
/-- A map's entries: the keys of the rules so far, each with a one. -/
def KeysAt (es : List MapEntry) (L : List Rl) : Prop := All2 (fun (e : MapEntry) (r : Rl) => e.key = keyV r.p r.m ∧ e.val = .int .i64 1) es L
theorem find_none : ∀ (es : List MapEntry) (L : List Rl) (p : Int) (m : ByteArray) (i : Nat) (w : World), KeysAt es L → (∀ r ∈ L, ¬ (p = r.p ∧ m = r.m)) → (Instr.findAsking 97 (keyV p m) es i).run Tryz.prog w = .ok none w
  | [], _, p, m, i, w, h, hn => by simp [Instr.findAsking]
  | e :: es, [], p, m, i, w, h, hn => by cases h
  | e :: es, r :: L, p, m, i, w, h, hn => by
    cases h with
    | cons h1 h2 =>
      have he : (p == r.p && decide (m = r.m)) = false := by
        have := hn r (by simp)
        rw [Bool.and_eq_false_iff]
        by_cases hp : p = r.p
        · exact .inr (by simpa using fun e => this ⟨hp, e⟩)
        · exact .inl (by simpa using hp)
      unfold Instr.findAsking
      rw [Sem.run_bind, h1.1, run_equalKey, he]
      simp only [Result.andThen_ok]
      exact find_none es L p m (i + 1) w h2 (fun r' hr => hn r' (List.mem_cons_of_mem _ hr))
theorem find_some : ∀ (es : List MapEntry) (L : List Rl) (p : Int) (m : ByteArray) (i : Nat) (w : World), KeysAt es L → (∃ r ∈ L, p = r.p ∧ m = r.m) → ∃ j, (Instr.findAsking 97 (keyV p m) es i).run Tryz.prog w = .ok (some (j, .int .i64 1)) w
  | [], [], p, m, i, w, h, hn => by obtain ⟨r, hr, _⟩ := hn; cases hr
  | [], _ :: _, p, m, i, w, h, hn => by cases h
  | e :: es, [], p, m, i, w, h, hn => by cases h
  | e :: es, r :: L, p, m, i, w, h, hn => by
    cases h with
    | cons h1 h2 =>
      unfold Instr.findAsking
      rw [Sem.run_bind, h1.1, run_equalKey]
      by_cases hc : p = r.p ∧ m = r.m
      · rw [show (p == r.p && decide (m = r.m)) = true by simp [hc.1, hc.2]]
        exact ⟨i, by simp [h1.2]⟩
      · have he : (p == r.p && decide (m = r.m)) = false := by
          rw [Bool.and_eq_false_iff]
          by_cases hp : p = r.p
          · exact .inr (by simpa using fun e => hc ⟨hp, e⟩)
          · exact .inl (by simpa using hp)
        rw [he]
        simp only [Result.andThen_ok]
        refine find_some es L p m (i + 1) w h2 ?_
        obtain ⟨r', hr, hh⟩ := hn
        rcases List.mem_cons.1 hr with e' | e'
        · subst e'; exact absurd hh hc
        · exact ⟨r', e', hh⟩
theorem run_findKey (es : List MapEntry) (p : Int) (m : ByteArray) (w : World) : (Instr.findKey 97 (keyV p m) es).run Tryz.prog w = (Instr.findAsking 97 (keyV p m) es).run Tryz.prog w := by
  have hu := Tryz.underlying97
  cases es with
  | nil => simp [Instr.findKey, Instr.findNow, Instr.findAsking, run_underlying hu]
  | cons e es => simp [Instr.findKey, Instr.findNow, Instr.sameNow, run_underlying hu]
/-- The keys of the rules so far lie in block b. -/
def MapSt (w : World) (b : Nat) (L : List Rl) : Prop := ∃ es clock, w.heap[b]? = some (.map es clock) ∧ KeysAt es.toList L
/-- Is there a rule with that key? -/
def knownB (L : List Rl) (p : Int) (m : ByteArray) : Bool := L.any fun r => p == r.p && decide (m = r.m)
theorem known_iff (L : List Rl) (p : Int) (m : ByteArray) : knownB L p m = true ↔ ∃ r ∈ L, p = r.p ∧ m = r.m := by
  simp [knownB, List.any_eq_true]
theorem lookup_map {w : World} {b : Nat} {L : List Rl} (h : MapSt w b L) (p : Int) (m : ByteArray) (q : Bool) (hq : knownB L p m = q) :
    (Instr.lookup 90 (.map (some b)) (keyV p m) false).run Tryz.prog w = .ok (.int .i64 (if q = true then 1 else 0)) w := by
  obtain ⟨es, clock, hb, hk⟩ := h
  have hu := Tryz.underlying90
  have hz : (zeroValue 3).run Tryz.prog w = .ok (.int .i64 0) w := by kernel_rfl
  have hg := Go.MapKept.run_getObj_map (P := Tryz.prog) hb
  have hc := fun em => run_checkKey em p m w
  have hf := run_findKey es.toList p m w
  cases q with
  | true =>
    obtain ⟨j, hj⟩ := find_some es.toList L p m 0 w hk ((known_iff L p m).1 hq)
    rw [hj] at hf
    simp [Instr.lookup, run_underlying hu, hg, hc, hf]
  | false =>
    have hn := find_none es.toList L p m 0 w hk (fun r hr hh => by
      have := (known_iff L p m).2 ⟨r, hr, hh⟩
      rw [hq] at this
      cases this)
    rw [hn] at hf
    simp [Instr.lookup, run_underlying hu, hg, hc, hf, hz]
theorem All2.snoc {α β : Type} {Q : α → β → Prop} {xs : List α} {L : List β} {x : α} {r : β} (h : All2 Q xs L) (hx : Q x r) : All2 Q (xs ++ [x]) (L ++ [r]) := h.append (.cons hx .nil)
theorem update_map {w : World} {b : Nat} {L : List Rl} (h : MapSt w b L) (r : Rl) (hq : knownB L r.p r.m = false) :
    ∃ w', (Instr.mapUpdate 90 (.map (some b)) (keyV r.p r.m) (.int .i64 1)).run Tryz.prog w = .ok () w' ∧ MapSt w' b (L ++ [r]) ∧ But (fun k => k = b) w w' := by
  obtain ⟨es, clock, hb, hk⟩ := h
  have hu := Tryz.underlying90
  have hg := Go.MapKept.run_getObj_map (P := Tryz.prog) hb
  have hc := run_checkKey false r.p r.m w
  have hn := find_none es.toList L r.p r.m 0 w hk (fun r' hr hh => by
    have := (known_iff L r.p r.m).2 ⟨r', hr, hh⟩
    rw [hq] at this
    cases this)
  have hf := run_findKey es.toList r.p r.m w
  rw [hn] at hf
  have hs := Go.MapKept.run_setObj_map (P := Tryz.prog) (.map (es.push ⟨keyV r.p r.m, .int .i64 1, clock⟩) (clock + 1)) hb
  refine ⟨_, by simp [Instr.mapUpdate, run_underlying hu, hg, hc, hf, hs]; rfl, ⟨es.push ⟨keyV r.p r.m, .int .i64 1, clock⟩, clock + 1, ?_, ?_⟩, ?_⟩
  · show (w.heap.setIfInBounds b _)[b]? = _
    rw [Array.getElem?_setIfInBounds_self_of_lt (Array.getElem?_eq_some_iff.1 hb).1]
  · rw [Array.toList_push]
    exact All2.snoc hk ⟨rfl, rfl⟩
  · refine ⟨rfl, rfl, rfl, by show w.heap.size ≤ (w.heap.setIfInBounds b _).size; simp, fun k hk hn => ?_⟩
    show (w.heap.setIfInBounds b _)[k]? = _
    rw [Array.getElem?_setIfInBounds_ne (fun e => hn e.symm)]
end Go.Proofs.YtlamhpiiikcpiaaGreatDoor
/-
  Rules of a text as plain data; sizes of a text's lines.
-/
namespace Go.Proofs.YtlamhpiiikcpiaaGreatDoor
set_option linter.unusedVariables false
set_option linter.unusedSimpArgs false
namespace Wd
theorem line_cols (num : Nat) : ∀ (k : Nat) (l : List UInt8) (at_ : Nat) (ws : List Wrd), l.length ≤ k → line num l at_ = .ok ws → ws.length ≤ l.length ∧ ∀ w ∈ ws, w.c + w.t.size ≤ at_ + l.length + 1 := by
  intro k
  induction k with
  | zero =>
    intro l at_ ws hk h
    have : l = [] := List.length_eq_zero_iff.1 (by omega)
    subst this
    rw [line_nil] at h
    injection h with h
    subst h
    simp
  | succ k ih =>
    intro l at_ ws hk h
    cases l with
    | nil =>
      rw [line_nil] at h
      injection h with h
      subst h
      simp
    | cons c t =>
      simp only [List.length_cons] at hk ⊢
      by_cases h1 : c = 35
      · subst h1
        rw [line_hash] at h
        injection h with h
        subst h
        simp
      · by_cases h2 : c = 32 ∨ c = 9
        · rw [line_blank _ _ _ _ h2] at h
          obtain ⟨a, b⟩ := ih t _ ws (by omega) h
          exact ⟨by omega, fun w hw => by have := b w hw; omega⟩
        · by_cases h0 : size (c :: t) = 0
          · rw [line_bad _ _ _ _ h1 h2 h0] at h
            cases h
          · rw [line_word _ _ _ _ h1 h2 h0] at h
            cases hr : line num ((c :: t).drop (size (c :: t))) (at_ + size (c :: t)) with
            | error e => rw [hr] at h; cases h
            | ok r =>
              rw [hr] at h
              simp only [Except.map] at h
              injection h with h
              subst h
              have h3 := size_le (c :: t) (by simp)
              simp only [List.length_cons] at h3
              obtain ⟨a, b⟩ := ih _ _ r (by simp; omega) hr
              simp only [List.length_drop, List.length_cons] at a b
              refine ⟨by simp only [List.length_cons]; omega, fun w hw => ?_⟩
              rcases List.mem_cons.1 hw with rfl | hw
              · simp only [mkB_size, List.length_take, List.length_cons]
                omega
              · have := b w hw
                omega
theorem rows_ne : ∀ (hs : List (List UInt8)) (num : Nat) (r : List (List Wrd)), rows hs num = .ok r → (∀ ws ∈ r, 0 < ws.length) ∧ r.length ≤ hs.length
  | [], num, r, h => by simp only [rows] at h; injection h with h; subst h; simp
  | x :: t, num, r, h => by
    simp only [rows] at h
    cases hl : line num x 0 with
    | error p => rw [hl] at h; cases h
    | ok us =>
      rw [hl] at h
      simp only at h
      cases hr : rows t (num + 1) with
      | error p => rw [hr] at h; cases h
      | ok q =>
        rw [hr] at h
        simp only [Except.map] at h
        injection h with h
        obtain ⟨i1, i2⟩ := rows_ne t (num + 1) q hr
        by_cases he : us.isEmpty = true
        · rw [if_pos he] at h
          subst h
          exact ⟨i1, by simp; omega⟩
        · rw [if_neg he] at h
          subst h
          refine ⟨fun ws hw => ?_, by simp; omega⟩
          rcases List.mem_cons.1 hw with rfl | hw
          · cases ws with
            | nil => simp at he
            | cons a l => simp
          · exact i1 ws hw
theorem lines_small {s : List UInt8} {acc : List (List Wrd)} (h : lines s = .ok acc) : acc.length ≤ s.length + 1 ∧ ∀ ws ∈ acc, 0 < ws.length ∧ ws.length ≤ s.length ∧ ∀ x ∈ ws, x.t.size ≤ s.length ∧ x.c + x.t.size ≤ s.length + 1 := by
  obtain ⟨h1, h2⟩ := rows_ne _ _ _ h
  have h3 := split_len s
  refine ⟨by omega, fun ws hw => ⟨h1 ws hw, ?_⟩⟩
  obtain ⟨g, n, hg, hl⟩ := rows_mem _ _ _ h ws hw
  have hgl := h3.2 g hg
  obtain ⟨c1, c2⟩ := line_cols n _ g 0 ws (Nat.le_refl _) hl
  refine ⟨by omega, fun x hx => ⟨?_, ?_⟩⟩
  · have := (line_all n _ g 0 ws (Nat.le_refl _) hl x hx).2.1
    omega
  · have := c2 x hx
    omega
end Wd
namespace Pr
/-- The rules of lines, behind others. -/
def parseF (width : Int) : List (List Wrd) → List Rl → Except (Int × Nat × Nat) (List Rl)
  | [], out => .ok out
  | ws :: rest, out =>
    match rule ws width with
    | .error (c, j) => .error (c, (wd ws j).l, (wd ws j).c)
    | .ok r =>
      if knownB out r.p r.m = true then .error (52, (wd ws 0).l, (wd ws 0).c)
      else if ¬ out.length < 4096 then .error (3, (wd ws 0).l, (wd ws 0).c)
      else parseF width rest (out ++ [r])
/-- The rules of a text. -/
def parse (s : ByteArray) (width : Int) : Except (Int × Nat × Nat) (List Rl) :=
  if width < 1 ∨ 128 < width then .error (1, 0, 0)
  else match Wd.lines s.data.toList with
    | .error (num, p) => .error (30, num, p + 1)
    | .ok acc => parseF width acc []
end Pr
end Go.Proofs.YtlamhpiiikcpiaaGreatDoor
