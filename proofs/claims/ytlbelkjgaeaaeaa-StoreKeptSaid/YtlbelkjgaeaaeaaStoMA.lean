/-
  A table of rules as plain data: changes, all or none; a table's order; changes of unlike keys in any order; no program here.
-/
import Derived.Test.YtlbelkjgaeaaeaaFibF
import Derived.Test.YtlbelkjgaeaaeaaFibD
import Derived.Test.YtlbelkjgaeaaeaaCubeD
namespace Go.Proofs.Ytlbelkjgaeaaeaa
open Go.RowKit Go.Shelf Go.Lib Go.Sort
set_option linter.unusedVariables false
set_option linter.unusedSectionVars false

namespace Rp
theorem aheadK_total {p q : Int} {m n : ByteArray} (h : ¬ (p = q ∧ m = n)) : aheadK p m q n = true ∨ aheadK q n p m = true := by
  unfold aheadK
  by_cases h1 : p = q
  · subst h1
    rw [if_pos rfl, if_pos rfl]
    cases h2 : lessB m n with
    | true => exact .inl rfl
    | false =>
      cases h3 : lessB n m with
      | true => exact .inr rfl
      | false => exact absurd ⟨rfl, lessB_tri h2 h3⟩ h
  · rw [if_neg h1, if_neg (fun e => h1 e.symm)]
    rcases Int.lt_or_gt_of_ne h1 with h2 | h2
    · exact .inr (decide_eq_true h2)
    · exact .inl (decide_eq_true h2)
end Rp

namespace Fb
theorem keyB_true {p : Int} {m : ByteArray} {r : Rl} : keyB p m r = true ↔ r.p = p ∧ r.m = m := by unfold keyB; simp
theorem keyB_false {p : Int} {m : ByteArray} {r : Rl} : keyB p m r = false ↔ ¬ (r.p = p ∧ r.m = m) := by
  rw [← keyB_true]; simp

theorem keyI_neg {L : List Rl} {p : Int} {m : ByteArray} (h : ¬ 0 ≤ keyI L p m) : ∀ x ∈ L, keyB p m x = false := by
  rcases (keyI_is L p m).is with ⟨_, h2⟩ | ⟨i, hi, h1, _⟩
  · intro x hx
    obtain ⟨j, hj, rfl⟩ := List.getElem_of_mem hx
    exact h2 j hj
  · omega
theorem keyI_pos {L : List Rl} {p : Int} {m : ByteArray} (h : 0 ≤ keyI L p m) : ∃ i, ∃ hi : i < L.length, keyI L p m = (i : Int) ∧ keyB p m L[i] = true := by
  rcases (keyI_is L p m).is with ⟨h1, _⟩ | ⟨i, hi, h1, h2, _⟩
  · omega
  · exact ⟨i, hi, h1, h2⟩
theorem keyI_none {L : List Rl} {p : Int} {m : ByteArray} (h : ∀ x ∈ L, keyB p m x = false) : ¬ 0 ≤ keyI L p m := by
  intro h0
  obtain ⟨i, hi, _, h2⟩ := keyI_pos h0
  rw [h _ (List.getElem_mem hi)] at h2
  cases h2
theorem keyI_some {L : List Rl} {p : Int} {m : ByteArray} (h : ∃ x ∈ L, keyB p m x = true) : 0 ≤ keyI L p m := by
  rcases Int.lt_or_le (keyI L p m) 0 with h1 | h1
  · obtain ⟨x, hx, h2⟩ := h
    rw [keyI_neg (by omega) x hx] at h2
    cases h2
  · exact h1

/-- May a change be, but for a table's greatest length? -/
structure Good (W : Int) (L : List Rl) (c : Int × Rl) : Prop where
  k1 : 1 ≤ c.1
  k3 : c.1 ≤ 3
  chk : Rp.checkR (ruleOf c.1 c.2) W = 0
  ins : c.1 = 1 → ∀ x ∈ L, keyB c.2.p c.2.m x = false
  oth : c.1 ≠ 1 → ∃ x ∈ L, keyB c.2.p c.2.m x = true

theorem mayI_good {W : Int} {L : List Rl} {k : Int} {r : Rl} : mayI L W k r = 0 ↔ Good W L (k, r) ∧ (k = 1 → L.length < 4096) := by
  unfold mayI
  by_cases h1 : k < 1 ∨ k > 3
  · rw [if_pos h1]
    constructor
    · intro h; omega
    · rintro ⟨⟨a, b, _⟩, _⟩
      simp only at a b
      omega
  rw [if_neg h1]
  by_cases h2 : Rp.checkR (ruleOf k r) W = 0
  · rw [if_neg (by simpa using h2)]
    by_cases h3 : k = 1
    · rw [if_pos h3]
      by_cases h4 : 0 ≤ keyI L r.p r.m
      · rw [if_pos h4]
        constructor
        · intro h; omega
        · rintro ⟨g, _⟩
          exact absurd h4 (keyI_none (g.ins h3))
      · rw [if_neg h4]
        by_cases h5 : 4096 ≤ L.length
        · rw [if_pos h5]
          constructor
          · intro h; omega
          · rintro ⟨_, h⟩
            have := h h3
            omega
        · rw [if_neg h5]
          exact ⟨fun _ => ⟨⟨by show 1 ≤ k; omega, by show k ≤ 3; omega, h2, fun _ => keyI_neg h4, fun h => absurd h3 h⟩, fun _ => by omega⟩, fun _ => rfl⟩
    · rw [if_neg h3]
      by_cases h4 : 0 ≤ keyI L r.p r.m
      · rw [if_pos h4]
        refine ⟨fun _ => ⟨⟨by show 1 ≤ k; omega, by show k ≤ 3; omega, h2, fun h => absurd h h3, fun _ => ?_⟩, fun h => absurd h h3⟩, fun _ => rfl⟩
        obtain ⟨i, hi, _, h5⟩ := keyI_pos h4
        exact ⟨_, List.getElem_mem hi, h5⟩
      · rw [if_neg h4]
        constructor
        · intro h; omega
        · rintro ⟨g, _⟩
          exact absurd (keyI_some (g.oth h3)) h4
  · rw [if_pos h2]
    constructor
    · intro h; exact absurd h h2
    · rintro ⟨g, _⟩; exact absurd g.chk h2

/-- The keys of rules. -/
def kk (r : Rl) : Int × ByteArray := (r.p, r.m)
def ltK (a b : Int × ByteArray) : Bool := Rp.aheadK a.1 a.2 b.1 b.2

/-- A table of a width. -/
structure Ok (W : Int) (L : List Rl) : Prop where
  few : L.length ≤ 4096
  srt : (L.map kk).Pairwise fun a b => ltK a b = true
  chk : ∀ r ∈ L, Rp.checkR r W = 0

theorem ok_nil (W : Int) : Ok W [] := ⟨Nat.zero_le _, List.Pairwise.nil, fun _ h => by cases h⟩

theorem Ok.strict {W : Int} {L : List Rl} (h : Ok W L) : L.Pairwise fun a b => Rp.aheadR a b = true := (List.pairwise_map.1 h.srt)

theorem strict_srd {L : List Rl} (h : L.Pairwise fun a b => Rp.aheadR a b = true) : St.Srd Rp.aheadR L := h.imp fun h => St.asym swoR h

theorem strict_insL : ∀ {L : List Rl} {r : Rl}, (L.Pairwise fun a b => Rp.aheadR a b = true) → (∀ x ∈ L, keyB r.p r.m x = false) → (St.insL Rp.aheadR L r).Pairwise fun a b => Rp.aheadR a b = true
  | [], r, _, _ => List.pairwise_singleton _ _
  | y :: L, r, h, hk => by
    have hy := List.pairwise_cons.1 h
    unfold St.insL
    split
    · rename_i hry
      refine List.pairwise_cons.2 ⟨fun z hz => ?_, h⟩
      rcases List.mem_cons.1 hz with rfl | hz
      · exact hry
      · exact swoR.trans _ _ _ hry (hy.1 z hz)
    · rename_i hry
      refine List.pairwise_cons.2 ⟨fun z hz => ?_, strict_insL hy.2 fun x hx => hk x (List.mem_cons_of_mem _ hx)⟩
      rcases (St.mem_insL _).1 hz with rfl | hz
      · have h1 := keyB_false.1 (hk y (List.mem_cons_self ..))
        rcases Rp.aheadK_total h1 with h2 | h2
        · exact h2
        · exact absurd h2 hry
      · exact hy.1 z hz

theorem isort_snoc {L : List Rl} {r : Rl} (h : St.Srd Rp.aheadR L) : St.isort Rp.aheadR (L ++ [r]) = St.insL Rp.aheadR L r := by
  unfold St.isort
  rw [St.mrg_append, St.mrg_nil_left swoR h]
  rfl

/-- A pairwise relation gives distinct keys. -/
theorem strict_key {L : List Rl} (h : L.Pairwise fun a b => Rp.aheadR a b = true) {i j : Nat} (hi : i < L.length) (hj : j < L.length) (p : Int) (m : ByteArray) (h1 : keyB p m L[i] = true) (h2 : keyB p m L[j] = true) : i = j := by
  have key : ∀ {i j : Nat} (hi : i < L.length) (hj : j < L.length), i < j → keyB p m L[i] = true → keyB p m L[j] = true → False := by
    intro i j hi hj hij h1 h2
    have h3 := List.pairwise_iff_getElem.1 h i j hi hj hij
    have e1 := keyB_true.1 h1
    have e2 := keyB_true.1 h2
    unfold Rp.aheadR at h3
    rw [e1.1, e1.2, e2.1, e2.2, Rp.aheadK_swo_irrefl] at h3
    cases h3
  rcases Nat.lt_trichotomy i j with h3 | h3 | h3
  · exact (key hi hj h3 h1 h2).elim
  · exact h3
  · exact (key hj hi h3 h2 h1).elim

theorem aft_length {W : Int} {L : List Rl} {k : Int} {r : Rl} (h : mayI L W k r = 0) (hL : L.length ≤ 4096) : (aft L k r).length ≤ 4096 ∧ (aft L k r).length ≤ L.length + 1 := by
  have hg := mayI_good.1 h
  unfold aft
  by_cases h1 : k = 1
  · rw [if_pos h1, St.length_isort, List.length_append, List.length_singleton]
    have := hg.2 h1
    omega
  · rw [if_neg h1]
    by_cases h2 : k = 2
    · rw [if_pos h2, List.length_append, List.length_take, List.length_drop]
      omega
    · rw [if_neg h2, List.length_set]
      omega

theorem mem_aft {W : Int} {L : List Rl} {k : Int} {r : Rl} (hs : L.Pairwise fun a b => Rp.aheadR a b = true) (h : mayI L W k r = 0) (x : Rl) : x ∈ aft L k r ↔ (x ∈ L ∧ keyB r.p r.m x = false) ∨ (k ≠ 2 ∧ x = r) := by
  have hg := (mayI_good.1 h).1
  unfold aft
  by_cases h1 : k = 1
  · rw [if_pos h1, St.mem_isort, List.mem_append, List.mem_singleton]
    have h2 := hg.ins h1
    constructor
    · rintro (h3 | h3)
      · exact .inl ⟨h3, h2 x h3⟩
      · exact .inr ⟨by omega, h3⟩
    · rintro (h3 | h3)
      · exact .inl h3.1
      · exact .inr h3.2
  · rw [if_neg h1]
    obtain ⟨i, hi, hz, hk⟩ := keyI_pos (keyI_some (hg.oth h1))
    simp only at hz hk
    rw [hz, Int.toNat_natCast]
    by_cases h2 : k = 2
    · rw [if_pos h2, List.mem_append]
      constructor
      · intro h3
        refine .inl ?_
        rcases h3 with h3 | h3
        · obtain ⟨j, hj, rfl⟩ := List.getElem_of_mem h3
          rw [List.length_take] at hj
          rw [List.getElem_take]
          refine ⟨List.getElem_mem _, ?_⟩
          cases h4 : keyB r.p r.m (L[j]'(by omega)) with
          | false => rfl
          | true => have := strict_key hs (by omega) hi _ _ h4 hk; omega
        · obtain ⟨j, hj, rfl⟩ := List.getElem_of_mem h3
          rw [List.length_drop] at hj
          rw [List.getElem_drop]
          refine ⟨List.getElem_mem _, ?_⟩
          cases h4 : keyB r.p r.m (L[i + 1 + j]'(by omega)) with
          | false => rfl
          | true => have := strict_key hs (by omega) hi _ _ h4 hk; omega
      · rintro (⟨h3, h4⟩ | ⟨h3, _⟩)
        · obtain ⟨j, hj, rfl⟩ := List.getElem_of_mem h3
          have hne : j ≠ i := fun e => by subst e; rw [hk] at h4; cases h4
          rcases Nat.lt_or_gt_of_ne hne with h5 | h5
          · refine .inl (List.mem_iff_getElem.2 ⟨j, by rw [List.length_take]; omega, ?_⟩)
            rw [List.getElem_take]
          · refine .inr (List.mem_iff_getElem.2 ⟨j - (i + 1), by rw [List.length_drop]; omega, ?_⟩)
            rw [List.getElem_drop]
            simp only [show i + 1 + (j - (i + 1)) = j by omega]
        · exact absurd h2 h3
    · rw [if_neg h2]
      constructor
      · intro h3
        obtain ⟨j, hj, rfl⟩ := List.getElem_of_mem h3
        rw [List.length_set] at hj
        rw [List.getElem_set]
        split
        · exact .inr ⟨h2, rfl⟩
        · rename_i hne
          refine .inl ⟨List.getElem_mem _, ?_⟩
          cases h4 : keyB r.p r.m L[j] with
          | false => rfl
          | true => exact absurd (strict_key hs hj hi _ _ h4 hk).symm hne
      · rintro (⟨h3, h4⟩ | ⟨_, h3⟩)
        · obtain ⟨j, hj, rfl⟩ := List.getElem_of_mem h3
          have hne : ¬ i = j := fun e => by subst e; rw [hk] at h4; cases h4
          refine List.mem_iff_getElem.2 ⟨j, by rw [List.length_set]; exact hj, ?_⟩
          rw [List.getElem_set, if_neg hne]
        · refine List.mem_iff_getElem.2 ⟨i, by rw [List.length_set]; exact hi, ?_⟩
          rw [List.getElem_set, if_pos rfl, h3]

theorem ruleOf_key (k : Int) (r : Rl) : (ruleOf k r).p = r.p ∧ (ruleOf k r).m = r.m := by
  unfold ruleOf
  split <;> exact ⟨rfl, rfl⟩

theorem Ok.aft {W : Int} {L : List Rl} (h : Ok W L) {k : Int} {r : Rl} (hm : mayI L W k r = 0) : Ok W (aft L k r) := by
  refine ⟨(aft_length hm h.few).1, ?_, ?_⟩
  · have hg := (mayI_good.1 hm).1
    unfold Fb.aft
    by_cases h1 : k = 1
    · rw [if_pos h1, isort_snoc (strict_srd h.strict)]
      exact List.pairwise_map.2 (strict_insL h.strict (hg.ins h1))
    · rw [if_neg h1]
      obtain ⟨i, hi, hz, hk⟩ := keyI_pos (keyI_some (hg.oth h1))
      simp only at hz hk
      rw [hz, Int.toNat_natCast]
      by_cases h2 : k = 2
      · rw [if_pos h2, ← List.eraseIdx_eq_take_drop_succ]
        exact h.srt.sublist ((List.eraseIdx_sublist L i).map kk)
      · rw [if_neg h2]
        have e : (L.set i r).map kk = L.map kk := by
          apply List.ext_getElem
          · simp
          · intro j h3 h4
            rw [List.getElem_map, List.getElem_map, List.getElem_set]
            split
            · rename_i e
              subst e
              have := keyB_true.1 hk
              unfold kk
              rw [this.1, this.2]
            · rfl
        rw [e]
        exact h.srt
  · intro x hx
    rcases (mem_aft h.strict hm x).1 hx with ⟨h1, _⟩ | ⟨h1, rfl⟩
    · exact h.chk x h1
    · have := (mayI_good.1 hm).1.chk
      simp only [ruleOf, if_neg h1] at this
      exact this

/-- Changes one behind the other, from a number on: the rules behind them, or the first that may not be. -/
def doL (W : Int) : List Rl → List (Int × Rl) → Nat → Option (List Rl) × Nat × Int
  | L, [], _ => (some L, 0, 0)
  | L, c :: m, i => if mayI L W c.1 c.2 = 0 then doL W (aft L c.1 c.2) m (i + 1) else (none, i, mayI L W c.1 c.2)

/-- What a table holds behind changes, all or none. -/
def endL (W : Int) (L : List Rl) (m : List (Int × Rl)) : List Rl := (doL W L m 0).1.getD L
/-- Behind changes, one by one. -/
def mkL (W : Int) (m : List (Int × Rl)) : List Rl := m.foldl (fun L c => endL W L [c]) []

theorem doL_ok {W : Int} : ∀ {m : List (Int × Rl)} {L L' : List Rl} {i : Nat}, Ok W L → (doL W L m i).1 = some L' → Ok W L'
  | [], L, L', i, h, e => by injection e with e; rw [← e]; exact h
  | c :: m, L, L', i, h, e => by
    unfold doL at e
    split at e
    · rename_i h1; exact doL_ok (h.aft h1) e
    · cases e

theorem Ok.end_ {W : Int} {L : List Rl} (h : Ok W L) (m : List (Int × Rl)) : Ok W (endL W L m) := by
  unfold endL
  cases e : (doL W L m 0).1 with
  | none => exact h
  | some L' => exact doL_ok h e

theorem foldl_ok {W : Int} : ∀ (m : List (Int × Rl)) (L : List Rl), Ok W L → Ok W (m.foldl (fun L c => endL W L [c]) L)
  | [], L, h => h
  | c :: m, L, h => foldl_ok m _ (h.end_ [c])
theorem mkL_ok (W : Int) (m : List (Int × Rl)) : Ok W (mkL W m) := foldl_ok m [] (ok_nil W)
theorem mkL_succ (W : Int) (l : List (Int × Rl)) (i : Nat) (h : i < l.length) : mkL W (l.take (i + 1)) = endL W (mkL W (l.take i)) [l[i]] := by
  unfold mkL
  rw [List.take_succ_eq_append_getElem h, List.foldl_append]
  rfl

theorem doL_one (W : Int) (L : List Rl) (c : Int × Rl) : doL W L [c] 0 = if mayI L W c.1 c.2 = 0 then (some (aft L c.1 c.2), 0, 0) else (none, 0, mayI L W c.1 c.2) := rfl
theorem endL_one {W : Int} {L : List Rl} {c : Int × Rl} (h : mayI L W c.1 c.2 = 0) : endL W L [c] = aft L c.1 c.2 := by
  unfold endL; rw [doL_one, if_pos h]; rfl

/-- mayI tells one of the document's numbers, never below 0. -/
theorem doL_err {W : Int} : ∀ {m : List (Int × Rl)} {L : List Rl} {i : Nat}, (doL W L m i).2.2 = 0 ↔ (doL W L m i).1.isSome = true
  | [], L, i => by simp [doL]
  | c :: m, L, i => by
    unfold doL
    split
    · exact doL_err
    · rename_i h; simp [h]

/-! ### Changes of unlike keys -/
/-- M is what S makes of L. -/
structure Made (W : Int) (L : List Rl) (S : List (Int × Rl)) (M : List Rl) : Prop where
  ok : Ok W M
  mem : ∀ x, x ∈ M ↔ (x ∈ L ∧ ∀ c ∈ S, keyB c.2.p c.2.m x = false) ∨ ∃ c ∈ S, c.1 ≠ 2 ∧ x = c.2
  len : M.length ≤ L.length + S.length

theorem made_nil {W : Int} {L : List Rl} (h : Ok W L) : Made W L [] L := ⟨h, fun x => by simp, by simp⟩

/-- Unlike keys. -/
def unl (c d : Int × Rl) : Prop := ¬ (c.2.p = d.2.p ∧ c.2.m = d.2.m)

theorem Made.key {W : Int} {L M : List Rl} {S : List (Int × Rl)} (h : Made W L S M) {c : Int × Rl} (hc : ∀ d ∈ S, unl c d) : (∃ x ∈ M, keyB c.2.p c.2.m x = true) ↔ ∃ x ∈ L, keyB c.2.p c.2.m x = true := by
  constructor
  · rintro ⟨x, hx, hk⟩
    rcases (h.mem x).1 hx with ⟨h1, _⟩ | ⟨d, hd, _, rfl⟩
    · exact ⟨x, h1, hk⟩
    · have := keyB_true.1 hk
      exact absurd ⟨this.1.symm, this.2.symm⟩ (hc d hd)
  · rintro ⟨x, hx, hk⟩
    refine ⟨x, (h.mem x).2 (.inl ⟨hx, fun d hd => keyB_false.2 fun e => ?_⟩), hk⟩
    have := keyB_true.1 hk
    exact hc d hd ⟨this.1.symm.trans e.1, this.2.symm.trans e.2⟩

theorem Made.good {W : Int} {L M : List Rl} {S : List (Int × Rl)} (h : Made W L S M) {c : Int × Rl} (hc : ∀ d ∈ S, unl c d) : Good W M c ↔ Good W L c := by
  have hk := h.key hc
  have flip : ∀ {A B : List Rl}, ((∃ x ∈ A, keyB c.2.p c.2.m x = true) ↔ ∃ x ∈ B, keyB c.2.p c.2.m x = true) → Good W A c → Good W B c := by
    intro A B hk g
    refine ⟨g.k1, g.k3, g.chk, fun h1 x hx => ?_, fun h1 => hk.1 (g.oth h1)⟩
    cases h2 : keyB c.2.p c.2.m x with
    | false => rfl
    | true =>
      obtain ⟨y, hy, h3⟩ := hk.2 ⟨x, hx, h2⟩
      rw [g.ins h1 y hy] at h3
      cases h3
  exact ⟨flip hk, flip hk.symm⟩

theorem Made.step {W : Int} {L M : List Rl} {S : List (Int × Rl)} (h : Made W L S M) {c : Int × Rl} (hc : ∀ d ∈ S, unl c d) (hm : mayI M W c.1 c.2 = 0) : Made W L (c :: S) (aft M c.1 c.2) := by
  refine ⟨h.ok.aft hm, fun x => ?_, ?_⟩
  · rw [mem_aft h.ok.strict hm, h.mem]
    constructor
    · rintro (⟨h1 | ⟨d, hd, h1, rfl⟩, h2⟩ | ⟨h1, h2⟩)
      · refine .inl ⟨h1.1, fun d hd => ?_⟩
        rcases List.mem_cons.1 hd with rfl | hd
        · exact h2
        · exact h1.2 d hd
      · exact .inr ⟨d, List.mem_cons_of_mem _ hd, h1, rfl⟩
      · exact .inr ⟨c, List.mem_cons_self .., h1, h2⟩
    · rintro (⟨h1, h2⟩ | ⟨d, hd, h1, rfl⟩)
      · exact .inl ⟨.inl ⟨h1, fun d hd => h2 d (List.mem_cons_of_mem _ hd)⟩, h2 c (List.mem_cons_self ..)⟩
      · rcases List.mem_cons.1 hd with rfl | hd
        · exact .inr ⟨h1, rfl⟩
        · exact .inl ⟨.inr ⟨d, hd, h1, rfl⟩, keyB_false.2 fun e => hc d hd ⟨e.1.symm, e.2.symm⟩⟩
  · have := (aft_length hm h.ok.few).2
    rw [List.length_cons]
    have := h.len
    omega

/-- Two strict rows of the same rules are one. -/
theorem strict_ext : ∀ {L M : List Rl}, (L.Pairwise fun a b => Rp.aheadR a b = true) → (M.Pairwise fun a b => Rp.aheadR a b = true) → (∀ x, x ∈ L ↔ x ∈ M) → L = M
  | [], [], _, _, _ => rfl
  | [], b :: M, _, _, h => by have := (h b).2 (List.mem_cons_self ..); cases this
  | a :: L, [], _, _, h => by have := (h a).1 (List.mem_cons_self ..); cases this
  | a :: L, b :: M, hL, hM, h => by
    have h1 := List.pairwise_cons.1 hL
    have h2 := List.pairwise_cons.1 hM
    have irr : ∀ x : Rl, Rp.aheadR x x = true → False := fun x hx => by rw [swoR.irrefl] at hx; cases hx
    have e : a = b := by
      rcases List.mem_cons.1 ((h a).1 (List.mem_cons_self ..)) with h3 | h3
      · exact h3
      · rcases List.mem_cons.1 ((h b).2 (List.mem_cons_self ..)) with h4 | h4
        · exact h4.symm
        · exact (irr _ (swoR.trans _ _ _ (h1.1 b h4) (h2.1 a h3))).elim
    subst e
    rw [strict_ext h1.2 h2.2 fun x => ?_]
    constructor
    · intro hx
      rcases List.mem_cons.1 ((h x).1 (List.mem_cons_of_mem _ hx)) with rfl | h3
      · exact (irr _ (h1.1 _ hx)).elim
      · exact h3
    · intro hx
      rcases List.mem_cons.1 ((h x).2 (List.mem_cons_of_mem _ hx)) with rfl | h3
      · exact (irr _ (h2.1 _ hx)).elim
      · exact h3

/-- What the same changes make of a table is one, in whatever order. -/
theorem Made.ext {W : Int} {L M N : List Rl} {S T : List (Int × Rl)} (h : Made W L S M) (k : Made W L T N) (hs : ∀ c, c ∈ S ↔ c ∈ T) : M = N := by
  refine strict_ext h.ok.strict k.ok.strict fun x => ?_
  rw [h.mem, k.mem]
  simp only [hs]

/-- All at once, of unlike keys: each is good, and they make what they make. -/
theorem doL_made {W : Int} {L : List Rl} : ∀ {m : List (Int × Rl)} {S : List (Int × Rl)} {M N : List Rl} {i : Nat}, Made W L S M → (doL W M m i).1 = some N → (∀ c ∈ m, ∀ d ∈ S, unl c d) → m.Pairwise (fun c d => unl c d ∧ unl d c) → Made W L (m.reverse ++ S) N ∧ ∀ c ∈ m, Good W L c
  | [], S, M, N, i, h, e, _, _ => by injection e with e; rw [← e]; exact ⟨h, fun _ h => by cases h⟩
  | c :: m, S, M, N, i, h, e, hu, hp => by
    unfold doL at e
    have hp := List.pairwise_cons.1 hp
    have hc := hu c (List.mem_cons_self ..)
    split at e
    · rename_i h1
      have h2 := doL_made (h.step hc h1) e (fun d hd f hf => by
        rcases List.mem_cons.1 hf with rfl | hf
        · exact (hp.1 d hd).2
        · exact hu d (List.mem_cons_of_mem _ hd) f hf) hp.2
      refine ⟨?_, fun d hd => ?_⟩
      · rw [List.reverse_cons, List.append_assoc]
        exact h2.1
      · rcases List.mem_cons.1 hd with rfl | hd
        · exact (h.good hc).1 (mayI_good.1 h1).1
        · exact h2.2 d hd
    · cases e
end Fb
end Go.Proofs.Ytlbelkjgaeaaeaa
/-
  A slice value that reads as changes, five cells each.
-/
namespace Go.Proofs.Ytlbelkjgaeaaeaa
open Go.RowKit Go.Shelf Go.Lib Go.Sort
set_option linter.unusedVariables false
set_option linter.unusedSectionVars false

def encC (x : Int × RC) : List Value := [.int .i64 x.1, .int .i64 x.2.p, .string x.2.m, .int .i64 x.2.k, .slice x.2.a x.2.n x.2.c]
def cellsC (l : List (Int × RC)) : List Value := l.flatMap encC

/-- v reads as the changes L, their ports in blocks that are ok. -/
def RdsC (ok : Nat → Prop) (w : World) (v : Value) (L : List (Int × Rl)) : Prop :=
  ∃ (xs : List (Int × RC)) (ad : Option Addr) (n cap : Nat), v = .slice ad n cap ∧ n = L.length ∧ xs.length = n ∧ (n ≤ cap ∧ (ad = none → cap = 0)) ∧ cap ≤ maxLen ∧ okV ok v ∧
    (∀ i (h : i < xs.length), ∃ b off, ad = some ⟨b, off, none⟩ ∧ b < w.heap.size ∧
      w.cell? ⟨b, off + i * 5, none⟩ = some (.int .i64 xs[i].1) ∧ w.cell? ⟨b, off + i * 5 + 1, none⟩ = some (.int .i64 xs[i].2.p) ∧ w.cell? ⟨b, off + i * 5 + 2, none⟩ = some (.string xs[i].2.m) ∧ w.cell? ⟨b, off + i * 5 + 3, none⟩ = some (.int .i64 xs[i].2.k) ∧ w.cell? ⟨b, off + i * 5 + 4, none⟩ = some (.slice xs[i].2.a xs[i].2.n xs[i].2.c)) ∧
    ∀ i (h : i < xs.length) (h' : i < L.length), xs[i].1 = L[i].1 ∧ RdC ok w xs[i].2 L[i].2

theorem RdsC.but {ok S : Nat → Prop} {w w' : World} {v : Value} {L : List (Int × Rl)} (h : RdsC ok w v L) (hb : But S w w') (hs : ∀ b, ok b → ¬ S b) : RdsC ok w' v L := by
  obtain ⟨xs, ad, n, cap, rfl, h2, h3, h4, h5, h6, h7, h8⟩ := h
  refine ⟨xs, ad, n, cap, rfl, h2, h3, h4, h5, h6, fun i hi => ?_, fun i hi hi' => ⟨(h8 i hi hi').1, (h8 i hi hi').2.but hb hs⟩⟩
  obtain ⟨b, off, rfl, hlt, c0, c1, c2, c3, c4⟩ := h7 i hi
  have hS : ¬ S b := hs b (h6 _ _ _ rfl (by omega))
  exact ⟨b, off, rfl, Nat.lt_of_lt_of_le hlt hb.size, (hb.cell (p := ⟨b, off + i * 5, none⟩) hlt hS).trans c0, (hb.cell (p := ⟨b, off + i * 5 + 1, none⟩) hlt hS).trans c1, (hb.cell (p := ⟨b, off + i * 5 + 2, none⟩) hlt hS).trans c2, (hb.cell (p := ⟨b, off + i * 5 + 3, none⟩) hlt hS).trans c3, (hb.cell (p := ⟨b, off + i * 5 + 4, none⟩) hlt hS).trans c4⟩

theorem RdsC.below {ok : Nat → Prop} {w w' : World} {v : Value} {L : List (Int × Rl)} (h : RdsC ok w v L) (hb : Below w.heap.size w w') : RdsC ok w' v L := h.but (S := fun _ => False) (But.below hb) (fun _ _ h => h)

theorem RdsC.mono {ok ok' : Nat → Prop} {w : World} {v : Value} {L : List (Int × Rl)} (h : RdsC ok w v L) (hk : ∀ b, ok b → ok' b) : RdsC ok' w v L := by
  obtain ⟨xs, ad, n, cap, h1, h2, h3, h4, h5, h6, h7, h8⟩ := h
  exact ⟨xs, ad, n, cap, h1, h2, h3, h4, h5, okV_mono h6 hk, h7, fun i hi hi' => ⟨(h8 i hi hi').1, (h8 i hi hi').2.mono hk⟩⟩

theorem RdsC.lt {ok : Nat → Prop} {w : World} {v : Value} {L : List (Int × Rl)} (h : RdsC ok w v L) : RdsC (fun b => ok b ∧ b < w.heap.size) w v L := by
  obtain ⟨xs, ad, n, cap, h1, h2, h3, h4, h5, h6, h7, h8⟩ := h
  refine ⟨xs, ad, n, cap, h1, h2, h3, h4, h5, fun a m c hv hn => ⟨h6 a m c hv hn, ?_⟩, h7, fun i hi hi' => ⟨(h8 i hi hi').1, (h8 i hi hi').2.lt⟩⟩
  rw [h1] at hv
  injection hv with e1 e2 _
  obtain ⟨b, off, h9, h10, _⟩ := h7 0 (by omega)
  rw [e1] at h9
  injection h9 with h9
  rw [h9]; exact h10

theorem rdsC_nil (ok : Nat → Prop) (w : World) : RdsC ok w (.slice none 0 0) [] := ⟨[], none, 0, 0, rfl, rfl, rfl, ⟨Nat.le_refl _, fun _ => rfl⟩, Nat.zero_le _, okV_nil _ _ _, fun i h => absurd h (Nat.not_lt_zero _), fun i h => absurd h (Nat.not_lt_zero _)⟩

/-- One element. -/
theorem RdsC.get {ok : Nat → Prop} {w : World} {ad : Option Addr} {n cap : Nat} {L : List (Int × Rl)} (h : RdsC ok w (.slice ad n cap) L) (i : Nat) (hi : i < L.length) : ∃ (b off : Nat) (k : Int) (x : RC), ad = some ⟨b, off, none⟩ ∧ b < w.heap.size ∧ ok b ∧ k = L[i].1 ∧
    w.cell? ⟨b, off + i * 5, none⟩ = some (.int .i64 k) ∧ w.cell? ⟨b, off + i * 5 + 1, none⟩ = some (.int .i64 x.p) ∧ w.cell? ⟨b, off + i * 5 + 2, none⟩ = some (.string x.m) ∧ w.cell? ⟨b, off + i * 5 + 3, none⟩ = some (.int .i64 x.k) ∧ w.cell? ⟨b, off + i * 5 + 4, none⟩ = some (.slice x.a x.n x.c) ∧ RdC ok w x L[i].2 := by
  obtain ⟨xs, ad', n', cap', h1, h2, h3, h4, h5, h6, h7, h8⟩ := h
  injection h1 with e1 e2 e3
  subst e1 e2 e3
  obtain ⟨b, off, rfl, hlt, c0, c1, c2, c3, c4⟩ := h7 i (by omega)
  obtain ⟨hk, hx⟩ := h8 i (by omega) hi
  exact ⟨b, off, (xs[i]'(by omega)).1, (xs[i]'(by omega)).2, rfl, hlt, h6 _ _ _ rfl (by omega), hk, c0, c1, c2, c3, c4, hx⟩

theorem RdsC.form {ok : Nat → Prop} {w : World} {v : Value} {L : List (Int × Rl)} (h : RdsC ok w v L) : ∃ ad cap, v = .slice ad L.length cap ∧ L.length ≤ cap ∧ cap ≤ maxLen := by
  obtain ⟨xs, ad, n, cap, rfl, rfl, h3, h4, h5, _⟩ := h
  exact ⟨ad, cap, rfl, h4.1, h5⟩

/-- One change of its own row. -/
theorem one_rdsC {ok : Nat → Prop} {W : World} {g : Nat} {k : Int} {x : RC} {r : Rl} {e : TypeId} (h : W.heap[g]? = some (.cells #[.int .i64 k, .int .i64 x.p, .string x.m, .int .i64 x.k, .slice x.a x.n x.c] e (0, 0))) (hx : RdC ok W x r) (hg : ok g) : RdsC ok W (.slice (some ⟨g, 0, none⟩) 1 1) [(k, r)] := by
  have hlt : g < W.heap.size := by
    rcases Nat.lt_or_ge g W.heap.size with h' | h'
    · exact h'
    · rw [Array.getElem?_eq_none h'] at h; cases h
  refine ⟨[(k, x)], some ⟨g, 0, none⟩, 1, 1, rfl, rfl, rfl, ⟨Nat.le_refl _, fun e => by cases e⟩, by unfold maxLen; omega, okV_some hg, ?_, ?_⟩
  · intro i hi
    obtain rfl : i = 0 := by simpa using hi
    exact ⟨g, 0, rfl, hlt, by simp [World.cell?, h], by simp [World.cell?, h], by simp [World.cell?, h], by simp [World.cell?, h], by simp [World.cell?, h]⟩
  · intro i h1 h2
    obtain rfl : i = 0 := by simpa using h1
    exact ⟨rfl, hx⟩

/-- Two changes of their own row. -/
theorem two_rdsC {ok : Nat → Prop} {W : World} {g : Nat} {k k2 : Int} {x y : RC} {r s : Rl} {e : TypeId} (h : W.heap[g]? = some (.cells #[.int .i64 k, .int .i64 x.p, .string x.m, .int .i64 x.k, .slice x.a x.n x.c, .int .i64 k2, .int .i64 y.p, .string y.m, .int .i64 y.k, .slice y.a y.n y.c] e (0, 0))) (hx : RdC ok W x r) (hy : RdC ok W y s) (hg : ok g) : RdsC ok W (.slice (some ⟨g, 0, none⟩) 2 2) [(k, r), (k2, s)] := by
  have hlt : g < W.heap.size := by
    rcases Nat.lt_or_ge g W.heap.size with h' | h'
    · exact h'
    · rw [Array.getElem?_eq_none h'] at h; cases h
  refine ⟨[(k, x), (k2, y)], some ⟨g, 0, none⟩, 2, 2, rfl, rfl, rfl, ⟨Nat.le_refl _, fun e => by cases e⟩, by unfold maxLen; omega, okV_some hg, ?_, ?_⟩
  · intro i hi
    have hi' : i = 0 ∨ i = 1 := by simp at hi; omega
    rcases hi' with rfl | rfl
    · exact ⟨g, 0, rfl, hlt, by simp [World.cell?, h], by simp [World.cell?, h], by simp [World.cell?, h], by simp [World.cell?, h], by simp [World.cell?, h]⟩
    · exact ⟨g, 0, rfl, hlt, by simp [World.cell?, h], by simp [World.cell?, h], by simp [World.cell?, h], by simp [World.cell?, h], by simp [World.cell?, h]⟩
  · intro i h1 h2
    have hi' : i = 0 ∨ i = 1 := by simp at h1; omega
    rcases hi' with rfl | rfl
    · exact ⟨rfl, hx⟩
    · exact ⟨rfl, hy⟩

theorem RdsC.part {ok : Nat → Prop} {w : World} {ad : Option Addr} {n cap : Nat} {L : List (Int × Rl)} (h : RdsC ok w (.slice ad n cap) L) (l k : Nat) (hl : l ≤ k) (hk : k ≤ n) :
    RdsC ok w (.slice (if cap = l then ad else ad.map (·.add (l * 5))) (k - l) (cap - l)) ((L.take k).drop l) := by
  obtain ⟨xs, ad', n', cap', h1, h2, h3, h4, h5, h6, h7, h8⟩ := h
  injection h1 with e1 e2 e3
  subst e1 e2 e3
  have hlen : ((L.take k).drop l).length = k - l := by rw [List.length_drop, List.length_take]; omega
  refine ⟨(xs.take k).drop l, _, k - l, cap - l, rfl, hlen.symm, by rw [List.length_drop, List.length_take]; omega, ⟨by omega, ?_⟩, by omega, ?_, ?_, ?_⟩
  · intro hn
    split at hn
    · omega
    · cases ad with
      | none => have := h4.2 rfl; omega
      | some a => cases hn
  · intro a m c hv hm
    injection hv with e1 e2 _
    have hne : ¬ cap = l := by omega
    rw [if_neg hne] at e1
    cases ad with
    | none => cases e1
    | some a0 =>
      injection e1 with e1
      rw [← e1]
      have : (a0.add (l * 5)).block = a0.block := by unfold Addr.add; split <;> rfl
      rw [this]
      exact h6 a0 n cap rfl (by omega)
  · intro i hi
    rw [List.length_drop, List.length_take] at hi
    obtain ⟨b, off, rfl, hb, c0, c1, c2, c3, c4⟩ := h7 (l + i) (by omega)
    have hne : ¬ cap = l := by omega
    have hadd : (⟨b, off, none⟩ : Addr).add (l * 5) = ⟨b, off + l * 5, none⟩ := by unfold Addr.add; split <;> simp_all
    refine ⟨b, off + l * 5, ?_, hb, ?_, ?_, ?_, ?_, ?_⟩
    · rw [if_neg hne, Option.map_some, hadd]
    · simpa [List.getElem_drop, List.getElem_take, Nat.add_mul, Nat.add_assoc] using c0
    · simpa [List.getElem_drop, List.getElem_take, Nat.add_mul, Nat.add_assoc] using c1
    · simpa [List.getElem_drop, List.getElem_take, Nat.add_mul, Nat.add_assoc] using c2
    · simpa [List.getElem_drop, List.getElem_take, Nat.add_mul, Nat.add_assoc] using c3
    · simpa [List.getElem_drop, List.getElem_take, Nat.add_mul, Nat.add_assoc] using c4
  · intro i h1 h2
    rw [List.length_drop, List.length_take] at h1
    have := h8 (l + i) (by omega) (by omega)
    simpa [List.getElem_drop, List.getElem_take] using this
end Go.Proofs.Ytlbelkjgaeaaeaa
/-
  Walks: what a table holds; New, is, Len, Width, Rules of code and reference.
-/
namespace Go.Proofs.Ytlbelkjgaeaaeaa
open Go.RowKit Go.Shelf Go.Lib Go.Sort
set_option linter.unusedVariables false
set_option linter.unusedSectionVars false
set_option linter.unusedSimpArgs false

/-- A table in block tb: its rules' slice v at one cell, its width at another one. -/
structure Tab (vo wo : Nat) (ok : Nat → Prop) (w : World) (tb : Nat) (v : Value) (L : List Rl) (W : Int) : Prop where
  c0 : w.cell? ⟨tb, vo, none⟩ = some v
  c1 : w.cell? ⟨tb, wo, none⟩ = some (.int .i64 W)
  f0 : w.frozen? ⟨tb, vo, none⟩ = false
  rd : RdsR ok w v L
  no : ∀ b, ok b → b ≠ tb
  lo : 1 ≤ W
  hi : W ≤ 128

theorem Tab.lt {vo wo : Nat} {ok : Nat → Prop} {w : World} {tb : Nat} {v : Value} {L : List Rl} {W : Int} (h : Tab vo wo ok w tb v L W) : tb < w.heap.size := by
  have hc := h.c0
  rcases Nat.lt_or_ge tb w.heap.size with h1 | h1
  · exact h1
  · unfold World.cell? at hc
    rw [Array.getElem?_eq_none h1] at hc
    cases hc

theorem Tab.but {vo wo : Nat} {ok S : Nat → Prop} {w w' : World} {tb : Nat} {v : Value} {L : List Rl} {W : Int} (h : Tab vo wo ok w tb v L W) (hb : But S w w') (hn : ¬ S tb) (hs : ∀ b, ok b → ¬ S b) : Tab vo wo ok w' tb v L W :=
  ⟨(hb.cell (p := ⟨tb, vo, none⟩) h.lt hn).trans h.c0, (hb.cell (p := ⟨tb, wo, none⟩) h.lt hn).trans h.c1, (hb.frozen (p := ⟨tb, vo, none⟩) h.lt hn).trans h.f0, h.rd.but hb hs, h.no, h.lo, h.hi⟩
theorem Tab.below {vo wo : Nat} {ok : Nat → Prop} {w w' : World} {tb : Nat} {v : Value} {L : List Rl} {W : Int} (h : Tab vo wo ok w tb v L W) (hb : Below w.heap.size w w') : Tab vo wo ok w' tb v L W :=
  h.but (S := fun _ => False) (But.below hb) (fun h => h) (fun _ _ h => h)
theorem Tab.mono {vo wo : Nat} {ok ok' : Nat → Prop} {w : World} {tb : Nat} {v : Value} {L : List Rl} {W : Int} (h : Tab vo wo ok w tb v L W) (hk : ∀ b, ok b → ok' b) (hn : ∀ b, ok' b → b ≠ tb) : Tab vo wo ok' w tb v L W :=
  ⟨h.c0, h.c1, h.f0, h.rd.mono hk, hn, h.lo, h.hi⟩

set_option maxHeartbeats 800000 in
set_option maxRecDepth 20000 in
theorem new_ok (W : Int) (w : World) (h1 : 1 ≤ W) (h2 : W ≤ 128) :
    Calls Try.prog 19 #[.int .i64 W] w fun e w' => e = .returned (.tuple #[.pointer (some ⟨w.heap.size, 0, none⟩), .int .i64 0]) ∧ w' = w.alloc (.cells #[.slice none 0 0, .int .i64 W] 93) := by
  go_enter Try.func19, Try.ntmps19
  go_wp2_with fail
  go_ret2
  exact ⟨rfl, rfl⟩

set_option maxHeartbeats 800000 in
set_option maxRecDepth 20000 in
theorem new_bad (W : Int) (w : World) (h : W < 1 ∨ W > 128) :
    Calls Try.prog 19 #[.int .i64 W] w fun e w' => e = .returned (.tuple #[.pointer none, .int .i64 1]) ∧ w' = w := by
  rcases h with h | h
  · go_enter Try.func19, Try.ntmps19
    go_wp2_with fail
    go_ret2
    exact ⟨rfl, rfl⟩
  · have h1 : ¬ W < 1 := by omega
    go_enter Try.func19, Try.ntmps19
    go_wp2_with fail
    go_ret2
    exact ⟨rfl, rfl⟩

set_option maxHeartbeats 800000 in
set_option maxRecDepth 20000 in
theorem rNew_ok (W : Int) (w : World) (h1 : 1 ≤ W) (h2 : W ≤ 128) :
    Calls Try.prog 27 #[.int .i64 W] w fun e w' => e = .returned (.tuple #[.pointer (some ⟨w.heap.size, 0, none⟩), .int .i64 0]) ∧ w' = w.alloc (.cells #[.int .i64 W, .slice none 0 0] 84) := by
  go_enter Try.func27, Try.ntmps27
  go_wp2_with fail
  go_ret2
  exact ⟨rfl, rfl⟩

set_option maxHeartbeats 800000 in
set_option maxRecDepth 20000 in
theorem rNew_bad (W : Int) (w : World) (h : W < 1 ∨ W > 128) :
    Calls Try.prog 27 #[.int .i64 W] w fun e w' => e = .returned (.tuple #[.pointer none, .int .i64 1]) ∧ w' = w := by
  rcases h with h | h
  · go_enter Try.func27, Try.ntmps27
    go_wp2_with fail
    go_ret2
    exact ⟨rfl, rfl⟩
  · have h1 : ¬ W < 1 := by omega
    go_enter Try.func27, Try.ntmps27
    go_wp2_with fail
    go_ret2
    exact ⟨rfl, rfl⟩

theorem tab_new (w : World) (W : Int) (h1 : 1 ≤ W) (h2 : W ≤ 128) : Tab 0 1 (fun _ => False) (w.alloc (.cells #[.slice none 0 0, .int .i64 W] 93)) w.heap.size (.slice none 0 0) [] W :=
  ⟨by simp [go_sem], by simp [go_sem], by simp [go_sem], rdsR_nil _ _, fun _ h => h.elim, h1, h2⟩
theorem rtab_new (w : World) (W : Int) (h1 : 1 ≤ W) (h2 : W ≤ 128) : Tab 1 0 (fun _ => False) (w.alloc (.cells #[.int .i64 W, .slice none 0 0] 84)) w.heap.size (.slice none 0 0) [] W :=
  ⟨by simp [go_sem], by simp [go_sem], by simp [go_sem], rdsR_nil _ _, fun _ h => h.elim, h1, h2⟩

set_option maxHeartbeats 800000 in
set_option maxRecDepth 20000 in
theorem is_tab {ok : Nat → Prop} {w : World} {tb : Nat} {v : Value} {L : List Rl} {W : Int} (h : Tab 0 1 ok w tb v L W) :
    Calls Try.prog 34 #[.pointer (some ⟨tb, 0, none⟩)] w fun e w' => e = .returned (.bool true) ∧ w = w' := by
  have c1 := h.c1
  have hW : W > 0 := by have := h.lo; omega
  clear h
  go_enter Try.func34, Try.ntmps34
  go_wp2_with fail
  go_ret
  exact ⟨rfl, rfl⟩

set_option maxHeartbeats 800000 in
set_option maxRecDepth 20000 in
theorem width_tab {ok : Nat → Prop} {w : World} {tb : Nat} {v : Value} {L : List Rl} {W : Int} (h : Tab 0 1 ok w tb v L W) :
    Calls Try.prog 32 #[.pointer (some ⟨tb, 0, none⟩)] w fun e w' => e = .returned (.int .i64 W) ∧ w = w' := by
  have HI := Lib.hid (is_tab h)
  have c1 := h.c1
  clear h
  go_enter Try.func32, Try.ntmps32
  go_wp2_with fail
  refine HI.out.mono ?_
  rintro e w1 ⟨rfl, rfl⟩
  go_wp2_with fail
  go_ret
  exact ⟨rfl, rfl⟩

set_option maxHeartbeats 800000 in
set_option maxRecDepth 20000 in
theorem rules_tab {ok : Nat → Prop} {w : World} {tb : Nat} {v : Value} {L : List Rl} {W : Int} (h : Tab 0 1 ok w tb v L W) (hL : L.length ≤ 4096) :
    Calls Try.prog 22 #[.pointer (some ⟨tb, 0, none⟩)] w fun e w' => ∃ ad c, e = .returned (.slice ad L.length c) ∧ RdsR (fun b => w.heap.size ≤ b) w' (.slice ad L.length c) L ∧ Below w.heap.size w w' := by
  have HI := Lib.hid (is_tab h)
  have HC := Lib.hid (copied_any ok v L w h.rd (by omega))
  have c0 := h.c0
  clear h
  go_enter Try.func22, Try.ntmps22
  go_wp2_with fail
  refine HI.out.mono ?_
  rintro e w1 ⟨rfl, rfl⟩
  go_wp2_with fail
  refine HC.out.mono ?_
  rintro e w2 ⟨ad, c, rfl, hr, hb⟩
  have HR := Lib.hid hr
  have HB := Lib.hid hb
  clear hr hb
  go_wp2_with fail
  go_ret
  exact ⟨ad, c, rfl, HR.out, HB.out⟩
end Go.Proofs.Ytlbelkjgaeaaeaa
/-
  Walks: rows.all: changes on a copy; its deferred call.
-/
namespace Go.Proofs.Ytlbelkjgaeaaeaa
open Go.RowKit Go.Shelf Go.Lib Go.Sort
set_option linter.unusedVariables false
set_option linter.unusedSectionVars false
set_option linter.unusedSimpArgs false

set_option maxHeartbeats 400000 in
set_option maxRecDepth 20000 in
theorem all1_idle (a b c : Addr) (w : World) :
    CallsD Try.prog 44 #[.pointer (some a), .pointer (some b), .pointer (some c)] .returning w fun e u' w' => e = .returned (.tuple #[]) ∧ u' = .returning ∧ w = w' := by
  refine callsD_of_wpS Try.func44 rfl fun c₀ cs hu => ?_
  simp only [Try.ntmps44, List.size_toArray, List.length_cons, List.length_nil, Nat.reduceAdd, Nat.reduceSub, Array.replicate_succ,
     Array.replicate_zero, List.push_toArray, List.append_toArray, List.nil_append, List.cons_append]
  apply wpS_seq
  apply wpS_region
  simp [wpOpsS, go_sem, recoverD, hu, Exit.thenS]
  have HU := Lib.hid hu
  clear hu
  apply wpS_of_wp
  generalize hQ : (fun e a' w' => bodyPostS _ _ _ _ _ e a' _ w') = Q
  have HQ := Lib.hid hQ
  clear hQ
  go_wp2_with fail
  rw [← HQ.out]
  exact ⟨rfl, _, by rw [← HU.out], .tuple #[], results_none rfl _ _ _, rfl, rfl, rfl⟩

theorem run_assert_errno (x : Int) (w : World) :
    (Instr.typeAssert (.iface 24 (.int .i64 x)) 20 24 true).run Try.prog w = .ok (.tuple #[.int .i64 x, .bool true]) w := by
  kernel_rfl

set_option maxHeartbeats 400000 in
set_option maxRecDepth 20000 in
theorem all1_catches (A B C : Nat) (w : World) (code : Int) (xa xb : Value) (xc : Int) (hAB : A < B) (hBC : B < C) (hCw : C < w.heap.size) (older : List PanicEntry) (a0 : w.cell? ⟨A, 0, none⟩ = some xa) (b0 : w.cell? ⟨B, 0, none⟩ = some xb) (c0 : w.cell? ⟨C, 0, none⟩ = some (.int .i64 xc)) (af : w.frozen? ⟨A, 0, none⟩ = false) (bf : w.frozen? ⟨B, 0, none⟩ = false) (cf : w.frozen? ⟨C, 0, none⟩ = false)
    (fa : ∃ p, xa = .pointer p) (fb : ∃ p n c, xb = .slice p n c) :
    CallsD Try.prog 44 #[.pointer (some ⟨A, 0, none⟩), .pointer (some ⟨B, 0, none⟩), .pointer (some ⟨C, 0, none⟩)] (.panicking ({ v := .iface 24 (.int .i64 code), recovered := false } :: older)) w fun e u' w' =>
      e = .returned (.tuple #[]) ∧ u' = .panicking ({ v := .iface 24 (.int .i64 code), recovered := true } :: older) ∧ Below A w w' ∧ w'.cell? ⟨A, 0, none⟩ = some (.pointer none) ∧ w'.cell? ⟨B, 0, none⟩ = some (.slice none 0 0) ∧ w'.cell? ⟨C, 0, none⟩ = some (.int .i64 code) := by
  obtain ⟨pa, rfl⟩ := fa
  obtain ⟨pb, nb, cb, rfl⟩ := fb
  have hta := run_assert_errno code w
  have h1 : ¬ A = B := by omega
  have h2 : ¬ A = C := by omega
  have h3 : ¬ B = C := by omega
  have h1' : ¬ B = A := by omega
  have h2' : ¬ C = A := by omega
  have h3' : ¬ C = B := by omega
  have HB : Hid (Below A w (((w.setCell ⟨A, 0, none⟩ (.pointer none)).setCell ⟨B, 0, none⟩ (.slice none 0 0)).setCell ⟨C, 0, none⟩ (.int .i64 code))) :=
    (((Below.refl A w).setCell (p := ⟨A, 0, none⟩) (Nat.le_refl _) _).setCell (p := ⟨B, 0, none⟩) (Nat.le_of_lt hAB) _).setCell (p := ⟨C, 0, none⟩) (by show A ≤ C; omega) _
  have n1 : (⟨B, 0, none⟩ : Addr) ≠ ⟨A, 0, none⟩ := fun e => h1' (congrArg Addr.block e)
  have n2 : (⟨C, 0, none⟩ : Addr) ≠ ⟨A, 0, none⟩ := fun e => h2' (congrArg Addr.block e)
  have n3 : (⟨C, 0, none⟩ : Addr) ≠ ⟨B, 0, none⟩ := fun e => h3' (congrArg Addr.block e)
  have n4 : (⟨A, 0, none⟩ : Addr) ≠ ⟨B, 0, none⟩ := fun e => h1 (congrArg Addr.block e)
  have n5 : (⟨A, 0, none⟩ : Addr) ≠ ⟨C, 0, none⟩ := fun e => h2 (congrArg Addr.block e)
  have n6 : (⟨B, 0, none⟩ : Addr) ≠ ⟨C, 0, none⟩ := fun e => h3 (congrArg Addr.block e)
  have HE : Hid ((((w.setCell ⟨A, 0, none⟩ (.pointer none)).setCell ⟨B, 0, none⟩ (.slice none 0 0)).setCell ⟨C, 0, none⟩ (.int .i64 code)).cell? ⟨A, 0, none⟩ = some (.pointer none) ∧ (((w.setCell ⟨A, 0, none⟩ (.pointer none)).setCell ⟨B, 0, none⟩ (.slice none 0 0)).setCell ⟨C, 0, none⟩ (.int .i64 code)).cell? ⟨B, 0, none⟩ = some (.slice none 0 0) ∧ (((w.setCell ⟨A, 0, none⟩ (.pointer none)).setCell ⟨B, 0, none⟩ (.slice none 0 0)).setCell ⟨C, 0, none⟩ (.int .i64 code)).cell? ⟨C, 0, none⟩ = some (.int .i64 code)) :=
    ⟨(cell_set_other _ n2).trans ((cell_set_other _ n1).trans (cell_set_same _ a0)), (cell_set_other _ n3).trans (cell_set_same _ ((cell_set_other _ n4).trans b0)), cell_set_same _ ((cell_set_other _ n6).trans ((cell_set_other _ n5).trans c0))⟩
  clear n1 n2 n3 n4 n5 n6
  refine callsD_of_wpS Try.func44 rfl fun c₀ cs hu => ?_
  simp only [Try.ntmps44, List.size_toArray, List.length_cons, List.length_nil, Nat.reduceAdd, Nat.reduceSub, Array.replicate_succ,
     Array.replicate_zero, List.push_toArray, List.append_toArray, List.nil_append, List.cons_append]
  apply wpS_seq
  apply wpS_region
  simp [wpOpsS, go_sem, recoverD, hu, Exit.thenS]
  have HU := Lib.hid hu
  clear hu
  apply wpS_of_wp
  generalize hQ : (fun e a' w' => bodyPostS _ _ _ _ _ e a' _ w') = Q
  have HQ := Lib.hid hQ
  clear hQ
  go_wp2_with fail
  rw [← HQ.out]
  exact ⟨rfl, _, rfl, .tuple #[], results_none rfl _ _ _, rfl, rfl, HB.out, HE.out⟩

/-- Behind a body that returned: nothing is recovered. -/
theorem all_ret {fn : Func} {tmps : Array Value} {R : Ending → World → Prop} {a b c : Addr} {W : World} (h : ∃ v, (results fn tmps).run Try.prog W = .ok v W ∧ R (.returned v) W) :
    Leaves Try.prog fn tmps R [{ target := .fn (.func 44) #[.pointer (some a), .pointer (some b), .pointer (some c)], args := #[] }] .returning W := by
  refine leaves_cons (f := 44) (args := #[.pointer (some a), .pointer (some b), .pointer (some c)]) (by simp) (by simp [go_sem]) ?_
  refine (all1_idle _ _ _ _).mono ?_
  rintro e u' w'' ⟨rfl, rfl, rfl⟩
  exact h

/-- Behind a body that gave up with a number: it is laid, the others are nothing. -/
theorem all_fault {fn : Func} {tmps : Array Value} {R : Ending → World → Prop} {A B C : Nat} {W : World} (code : Int) (xa xb : Value) (xc : Int) (hAB : A < B) (hBC : B < C) (hCw : C < W.heap.size) (a0 : W.cell? ⟨A, 0, none⟩ = some xa) (b0 : W.cell? ⟨B, 0, none⟩ = some xb) (c0 : W.cell? ⟨C, 0, none⟩ = some (.int .i64 xc)) (af : W.frozen? ⟨A, 0, none⟩ = false) (bf : W.frozen? ⟨B, 0, none⟩ = false) (cf : W.frozen? ⟨C, 0, none⟩ = false)
    (fa : ∃ p, xa = .pointer p) (fb : ∃ p n c, xb = .slice p n c)
    (h : ∀ W', Below A W W' → W'.cell? ⟨A, 0, none⟩ = some (.pointer none) → W'.cell? ⟨B, 0, none⟩ = some (.slice none 0 0) → W'.cell? ⟨C, 0, none⟩ = some (.int .i64 code) → ∃ v, (results fn tmps).run Try.prog W' = .ok v W' ∧ R (.returned v) W') :
    Leaves Try.prog fn tmps R [{ target := .fn (.func 44) #[.pointer (some ⟨A, 0, none⟩), .pointer (some ⟨B, 0, none⟩), .pointer (some ⟨C, 0, none⟩)], args := #[] }] (.panicking [{ v := .iface 24 (.int .i64 code), recovered := false }]) W := by
  refine leaves_cons (f := 44) (args := #[.pointer (some ⟨A, 0, none⟩), .pointer (some ⟨B, 0, none⟩), .pointer (some ⟨C, 0, none⟩)]) (by simp) (by simp [go_sem]) ?_
  refine (all1_catches A B C W code xa xb xc hAB hBC hCw [] a0 b0 c0 af bf cf fa fb).mono ?_
  rintro e u' w'' ⟨rfl, rfl, hB, h1, h2, h3⟩
  exact h w'' hB h1 h2 h3

theorem Fb.doL_step {W : Int} {L : List Rl} {m : List (Int × Rl)} {i : Nat} (h : i < m.length) : Fb.doL W L (m.drop i) i = if Fb.mayI L W m[i].1 m[i].2 = 0 then Fb.doL W (Fb.aft L m[i].1 m[i].2) (m.drop (i + 1)) (i + 1) else (none, i, Fb.mayI L W m[i].1 m[i].2) := by
  rw [List.drop_eq_getElem_cons h]
  rfl
theorem Fb.doL_end {W : Int} {L : List Rl} {m : List (Int × Rl)} : Fb.doL W L (m.drop m.length) m.length = (some L, 0, 0) := by
  rw [List.drop_length]
  rfl

theorem infoC : (Try.prog.info? 53).map (fun i => (i.zero, i.size, i.bytes)) = some (some (.agg #[.int .i64 0, .int .i64 0, .string ⟨#[]⟩, .int .i64 0, .slice none 0 0]), 5, 64) := by kernel_rfl
end Go.Proofs.Ytlbelkjgaeaaeaa
