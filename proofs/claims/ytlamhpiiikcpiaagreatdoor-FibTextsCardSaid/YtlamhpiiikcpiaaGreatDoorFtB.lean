/-
  The laws CubeCuts, CubeMeets and CubeOrder of layer 1, walked.
-/
import Derived.Test.YtlamhpiiikcpiaaGreatDoorRgG
import Derived.Test.YtlamhpiiikcpiaaGreatDoorRgA
import Derived.Test.YtlamhpiiikcpiaaGreatDoorFtA
import Derived.Test.YtlamhpiiikcpiaaGreatDoorRgB
namespace Go.Proofs.YtlamhpiiikcpiaaGreatDoor
open Go.RowKit
end Go.Proofs.YtlamhpiiikcpiaaGreatDoor
/-
  Plain laws on what is left of a cube without several, and on cubes that are apart; no program here.
-/
namespace Go.Proofs.YtlamhpiiikcpiaaGreatDoor.Cb
/-- One part more without b; none: too many. -/
def nextC (b : List UInt8) (acc : List (List UInt8)) (a : List UInt8) : Option (List (List UInt8)) :=
  if 16384 < (acc ++ cut a b).length then none else some (acc ++ cut a b)
/-- All parts without b. -/
def nextS (b : List UInt8) (rest : List (List UInt8)) : Option (List (List UInt8)) := rest.foldlM (nextC b) []
/-- What is left of a cube without several. -/
def leftS (c : List UInt8) (ls : List (List UInt8)) : Option (List (List UInt8)) := ls.foldlM (fun rest b => nextS b rest) [c]
/-- All as wide as n. -/
def wide (n : Nat) (R : List (List UInt8)) : Prop := ∀ r ∈ R, r.length = n
/-- Left's answer, where nothing is refused. -/
def resL (o : Option (List (List UInt8))) : List (List UInt8) × Int := match o with | some R => (R, 0) | none => ([], 3)
/-- Left's answer. -/
def LeftS (c : List UInt8) (ls : List (List UInt8)) : List (List UInt8) × Int :=
  if wrong (c :: ls) = 0 then resL (leftS c ls) else ([], wrong (c :: ls))
/-- Does no two of several meet? Up to a place. -/
def apartAt (ls : List (List UInt8)) (i : Nat) : Bool := (ls.take i).all fun b => (meet (ls.getD i []) b).isNone
def apartS (ls : List (List UInt8)) : Bool := (List.range ls.length).all (apartAt ls)
/-- Apart's answer. -/
def ApartS (ls : List (List UInt8)) : Bool × Int := if wrong ls = 0 then (apartS ls, 0) else (false, wrong ls)
end Go.Proofs.YtlamhpiiikcpiaaGreatDoor.Cb
/-
  Plain laws: in which parts of a cut a header lies; that the parts of a cut are apart; no program here.
-/
namespace Go.Proofs.YtlamhpiiikcpiaaGreatDoor.Cb
/-- Does a header's byte lie in a cube's? -/
def mB (x h : UInt8) : Bool := x == 120 || h == x
/-- Does a header lie in a cube as wide? -/
def memC : List UInt8 → List UInt8 → Bool
  | x :: c, y :: h => mB x y && memC c h
  | _, _ => true
/-- The parts of a cut, a byte at a time. -/
def parts : List UInt8 → List UInt8 → List (List UInt8)
  | x :: a, y :: b => (if x == 120 && y != 120 then [other y :: a] else []) ++ (parts a b).map (mb x y :: ·)
  | _, _ => []
/-- Bits alone. -/
def bits (h : List UInt8) : Prop := ∀ x ∈ h, x = 48 ∨ x = 49
/-- Bits and free ones. -/
def trits (c : List UInt8) : Prop := ∀ x ∈ c, x = 48 ∨ x = 49 ∨ x = 120
/-- Does a header lie in one of several? -/
def inS (ls : List (List UInt8)) (h : List UInt8) : Bool := ls.any fun c => (HasS c h).1
end Go.Proofs.YtlamhpiiikcpiaaGreatDoor.Cb
/-
  A table of rules as plain data: changes, all or none; a table's order; changes of unlike keys in any order; no program here.
-/
namespace Go.Proofs.YtlamhpiiikcpiaaGreatDoor
open Go.RowKit Go.Shelf Go.Lib Go.Sort
set_option linter.unusedVariables false
set_option linter.unusedSectionVars false
namespace Rp
theorem aheadK_total {p q : Int} {m n : ByteArray} (h : ¬ (p = q ∧ m = n)) : aheadK p m q n = true ∨ aheadK q n p m = true := by
  unfold aheadK
  by_cases h1 : p = q
  · subst h1
    rw [if_pos rfl, if_pos rfl]
    cases h2 : lessB m n with
    | true => exact .inl rfl
    | false =>
      cases h3 : lessB n m with
      | true => exact .inr rfl
      | false => exact absurd ⟨rfl, lessB_tri h2 h3⟩ h
  · rw [if_neg h1, if_neg (fun e => h1 e.symm)]
    rcases Int.lt_or_gt_of_ne h1 with h2 | h2
    · exact .inr (decide_eq_true h2)
    · exact .inl (decide_eq_true h2)
end Rp
namespace Fb
theorem keyB_true {p : Int} {m : ByteArray} {r : Rl} : keyB p m r = true ↔ r.p = p ∧ r.m = m := by unfold keyB; simp
theorem keyB_false {p : Int} {m : ByteArray} {r : Rl} : keyB p m r = false ↔ ¬ (r.p = p ∧ r.m = m) := by
  rw [← keyB_true]; simp
theorem keyI_neg {L : List Rl} {p : Int} {m : ByteArray} (h : ¬ 0 ≤ keyI L p m) : ∀ x ∈ L, keyB p m x = false := by
  rcases (keyI_is L p m).is with ⟨_, h2⟩ | ⟨i, hi, h1, _⟩
  · intro x hx
    obtain ⟨j, hj, rfl⟩ := List.getElem_of_mem hx
    exact h2 j hj
  · omega
theorem keyI_pos {L : List Rl} {p : Int} {m : ByteArray} (h : 0 ≤ keyI L p m) : ∃ i, ∃ hi : i < L.length, keyI L p m = (i : Int) ∧ keyB p m L[i] = true := by
  rcases (keyI_is L p m).is with ⟨h1, _⟩ | ⟨i, hi, h1, h2, _⟩
  · omega
  · exact ⟨i, hi, h1, h2⟩
theorem keyI_none {L : List Rl} {p : Int} {m : ByteArray} (h : ∀ x ∈ L, keyB p m x = false) : ¬ 0 ≤ keyI L p m := by
  intro h0
  obtain ⟨i, hi, _, h2⟩ := keyI_pos h0
  rw [h _ (List.getElem_mem hi)] at h2
  cases h2
theorem keyI_some {L : List Rl} {p : Int} {m : ByteArray} (h : ∃ x ∈ L, keyB p m x = true) : 0 ≤ keyI L p m := by
  rcases Int.lt_or_le (keyI L p m) 0 with h1 | h1
  · obtain ⟨x, hx, h2⟩ := h
    rw [keyI_neg (by omega) x hx] at h2
    cases h2
  · exact h1
/-- May a change be, but for a table's greatest length? -/
structure Good (W : Int) (L : List Rl) (c : Int × Rl) : Prop where
  k1 : 1 ≤ c.1
  k3 : c.1 ≤ 3
  chk : Rp.checkR (ruleOf c.1 c.2) W = 0
  ins : c.1 = 1 → ∀ x ∈ L, keyB c.2.p c.2.m x = false
  oth : c.1 ≠ 1 → ∃ x ∈ L, keyB c.2.p c.2.m x = true
theorem mayI_good {W : Int} {L : List Rl} {k : Int} {r : Rl} : mayI L W k r = 0 ↔ Good W L (k, r) ∧ (k = 1 → L.length < 4096) := by
  unfold mayI
  by_cases h1 : k < 1 ∨ k > 3
  · rw [if_pos h1]
    constructor
    · intro h; omega
    · rintro ⟨⟨a, b, _⟩, _⟩
      simp only at a b
      omega
  rw [if_neg h1]
  by_cases h2 : Rp.checkR (ruleOf k r) W = 0
  · rw [if_neg (by simpa using h2)]
    by_cases h3 : k = 1
    · rw [if_pos h3]
      by_cases h4 : 0 ≤ keyI L r.p r.m
      · rw [if_pos h4]
        constructor
        · intro h; omega
        · rintro ⟨g, _⟩
          exact absurd h4 (keyI_none (g.ins h3))
      · rw [if_neg h4]
        by_cases h5 : 4096 ≤ L.length
        · rw [if_pos h5]
          constructor
          · intro h; omega
          · rintro ⟨_, h⟩
            have := h h3
            omega
        · rw [if_neg h5]
          exact ⟨fun _ => ⟨⟨by show 1 ≤ k; omega, by show k ≤ 3; omega, h2, fun _ => keyI_neg h4, fun h => absurd h3 h⟩, fun _ => by omega⟩, fun _ => rfl⟩
    · rw [if_neg h3]
      by_cases h4 : 0 ≤ keyI L r.p r.m
      · rw [if_pos h4]
        refine ⟨fun _ => ⟨⟨by show 1 ≤ k; omega, by show k ≤ 3; omega, h2, fun h => absurd h h3, fun _ => ?_⟩, fun h => absurd h h3⟩, fun _ => rfl⟩
        obtain ⟨i, hi, _, h5⟩ := keyI_pos h4
        exact ⟨_, List.getElem_mem hi, h5⟩
      · rw [if_neg h4]
        constructor
        · intro h; omega
        · rintro ⟨g, _⟩
          exact absurd (keyI_some (g.oth h3)) h4
  · rw [if_pos h2]
    constructor
    · intro h; exact absurd h h2
    · rintro ⟨g, _⟩; exact absurd g.chk h2
/-- The keys of rules. -/
def kk (r : Rl) : Int × ByteArray := (r.p, r.m)
def ltK (a b : Int × ByteArray) : Bool := Rp.aheadK a.1 a.2 b.1 b.2
/-- A table of a width. -/
structure Ok (W : Int) (L : List Rl) : Prop where
  few : L.length ≤ 4096
  srt : (L.map kk).Pairwise fun a b => ltK a b = true
  chk : ∀ r ∈ L, Rp.checkR r W = 0
theorem ok_nil (W : Int) : Ok W [] := ⟨Nat.zero_le _, List.Pairwise.nil, fun _ h => by cases h⟩
theorem Ok.strict {W : Int} {L : List Rl} (h : Ok W L) : L.Pairwise fun a b => Rp.aheadR a b = true := (List.pairwise_map.1 h.srt)
theorem strict_srd {L : List Rl} (h : L.Pairwise fun a b => Rp.aheadR a b = true) : St.Srd Rp.aheadR L := h.imp fun h => St.asym swoR h
theorem strict_insL : ∀ {L : List Rl} {r : Rl}, (L.Pairwise fun a b => Rp.aheadR a b = true) → (∀ x ∈ L, keyB r.p r.m x = false) → (St.insL Rp.aheadR L r).Pairwise fun a b => Rp.aheadR a b = true
  | [], r, _, _ => List.pairwise_singleton _ _
  | y :: L, r, h, hk => by
    have hy := List.pairwise_cons.1 h
    unfold St.insL
    split
    · rename_i hry
      refine List.pairwise_cons.2 ⟨fun z hz => ?_, h⟩
      rcases List.mem_cons.1 hz with rfl | hz
      · exact hry
      · exact swoR.trans _ _ _ hry (hy.1 z hz)
    · rename_i hry
      refine List.pairwise_cons.2 ⟨fun z hz => ?_, strict_insL hy.2 fun x hx => hk x (List.mem_cons_of_mem _ hx)⟩
      rcases (St.mem_insL _).1 hz with rfl | hz
      · have h1 := keyB_false.1 (hk y (List.mem_cons_self ..))
        rcases Rp.aheadK_total h1 with h2 | h2
        · exact h2
        · exact absurd h2 hry
      · exact hy.1 z hz
theorem isort_snoc {L : List Rl} {r : Rl} (h : St.Srd Rp.aheadR L) : St.isort Rp.aheadR (L ++ [r]) = St.insL Rp.aheadR L r := by
  unfold St.isort
  rw [St.mrg_append, St.mrg_nil_left swoR h]
  rfl
/-- A pairwise relation gives distinct keys. -/
theorem strict_key {L : List Rl} (h : L.Pairwise fun a b => Rp.aheadR a b = true) {i j : Nat} (hi : i < L.length) (hj : j < L.length) (p : Int) (m : ByteArray) (h1 : keyB p m L[i] = true) (h2 : keyB p m L[j] = true) : i = j := by
  have key : ∀ {i j : Nat} (hi : i < L.length) (hj : j < L.length), i < j → keyB p m L[i] = true → keyB p m L[j] = true → False := by
    intro i j hi hj hij h1 h2
    have h3 := List.pairwise_iff_getElem.1 h i j hi hj hij
    have e1 := keyB_true.1 h1
    have e2 := keyB_true.1 h2
    unfold Rp.aheadR at h3
    rw [e1.1, e1.2, e2.1, e2.2, Rp.aheadK_swo_irrefl] at h3
    cases h3
  rcases Nat.lt_trichotomy i j with h3 | h3 | h3
  · exact (key hi hj h3 h1 h2).elim
  · exact h3
  · exact (key hj hi h3 h2 h1).elim
theorem aft_length {W : Int} {L : List Rl} {k : Int} {r : Rl} (h : mayI L W k r = 0) (hL : L.length ≤ 4096) : (aft L k r).length ≤ 4096 ∧ (aft L k r).length ≤ L.length + 1 := by
  have hg := mayI_good.1 h
  unfold aft
  by_cases h1 : k = 1
  · rw [if_pos h1, St.length_isort, List.length_append, List.length_singleton]
    have := hg.2 h1
    omega
  · rw [if_neg h1]
    by_cases h2 : k = 2
    · rw [if_pos h2, List.length_append, List.length_take, List.length_drop]
      omega
    · rw [if_neg h2, List.length_set]
      omega
theorem mem_aft {W : Int} {L : List Rl} {k : Int} {r : Rl} (hs : L.Pairwise fun a b => Rp.aheadR a b = true) (h : mayI L W k r = 0) (x : Rl) : x ∈ aft L k r ↔ (x ∈ L ∧ keyB r.p r.m x = false) ∨ (k ≠ 2 ∧ x = r) := by
  have hg := (mayI_good.1 h).1
  unfold aft
  by_cases h1 : k = 1
  · rw [if_pos h1, St.mem_isort, List.mem_append, List.mem_singleton]
    have h2 := hg.ins h1
    constructor
    · rintro (h3 | h3)
      · exact .inl ⟨h3, h2 x h3⟩
      · exact .inr ⟨by omega, h3⟩
    · rintro (h3 | h3)
      · exact .inl h3.1
      · exact .inr h3.2
  · rw [if_neg h1]
    obtain ⟨i, hi, hz, hk⟩ := keyI_pos (keyI_some (hg.oth h1))
    simp only at hz hk
    rw [hz, Int.toNat_natCast]
    by_cases h2 : k = 2
    · rw [if_pos h2, List.mem_append]
      constructor
      · intro h3
        refine .inl ?_
        rcases h3 with h3 | h3
        · obtain ⟨j, hj, rfl⟩ := List.getElem_of_mem h3
          rw [List.length_take] at hj
          rw [List.getElem_take]
          refine ⟨List.getElem_mem _, ?_⟩
          cases h4 : keyB r.p r.m (L[j]'(by omega)) with
          | false => rfl
          | true => have := strict_key hs (by omega) hi _ _ h4 hk; omega
        · obtain ⟨j, hj, rfl⟩ := List.getElem_of_mem h3
          rw [List.length_drop] at hj
          rw [List.getElem_drop]
          refine ⟨List.getElem_mem _, ?_⟩
          cases h4 : keyB r.p r.m (L[i + 1 + j]'(by omega)) with
          | false => rfl
          | true => have := strict_key hs (by omega) hi _ _ h4 hk; omega
      · rintro (⟨h3, h4⟩ | ⟨h3, _⟩)
        · obtain ⟨j, hj, rfl⟩ := List.getElem_of_mem h3
          have hne : j ≠ i := fun e => by subst e; rw [hk] at h4; cases h4
          rcases Nat.lt_or_gt_of_ne hne with h5 | h5
          · refine .inl (List.mem_iff_getElem.2 ⟨j, by rw [List.length_take]; omega, ?_⟩)
            rw [List.getElem_take]
          · refine .inr (List.mem_iff_getElem.2 ⟨j - (i + 1), by rw [List.length_drop]; omega, ?_⟩)
            rw [List.getElem_drop]
            simp only [show i + 1 + (j - (i + 1)) = j by omega]
        · exact absurd h2 h3
    · rw [if_neg h2]
      constructor
      · intro h3
        obtain ⟨j, hj, rfl⟩ := List.getElem_of_mem h3
        rw [List.length_set] at hj
        rw [List.getElem_set]
        split
        · exact .inr ⟨h2, rfl⟩
        · rename_i hne
          refine .inl ⟨List.getElem_mem _, ?_⟩
          cases h4 : keyB r.p r.m L[j] with
          | false => rfl
          | true => exact absurd (strict_key hs hj hi _ _ h4 hk).symm hne
      · rintro (⟨h3, h4⟩ | ⟨_, h3⟩)
        · obtain ⟨j, hj, rfl⟩ := List.getElem_of_mem h3
          have hne : ¬ i = j := fun e => by subst e; rw [hk] at h4; cases h4
          refine List.mem_iff_getElem.2 ⟨j, by rw [List.length_set]; exact hj, ?_⟩
          rw [List.getElem_set, if_neg hne]
        · refine List.mem_iff_getElem.2 ⟨i, by rw [List.length_set]; exact hi, ?_⟩
          rw [List.getElem_set, if_pos rfl, h3]
theorem Ok.aft {W : Int} {L : List Rl} (h : Ok W L) {k : Int} {r : Rl} (hm : mayI L W k r = 0) : Ok W (aft L k r) := by
  refine ⟨(aft_length hm h.few).1, ?_, ?_⟩
  · have hg := (mayI_good.1 hm).1
    unfold Fb.aft
    by_cases h1 : k = 1
    · rw [if_pos h1, isort_snoc (strict_srd h.strict)]
      exact List.pairwise_map.2 (strict_insL h.strict (hg.ins h1))
    · rw [if_neg h1]
      obtain ⟨i, hi, hz, hk⟩ := keyI_pos (keyI_some (hg.oth h1))
      simp only at hz hk
      rw [hz, Int.toNat_natCast]
      by_cases h2 : k = 2
      · rw [if_pos h2, ← List.eraseIdx_eq_take_drop_succ]
        exact h.srt.sublist ((List.eraseIdx_sublist L i).map kk)
      · rw [if_neg h2]
        have e : (L.set i r).map kk = L.map kk := by
          apply List.ext_getElem
          · simp
          · intro j h3 h4
            rw [List.getElem_map, List.getElem_map, List.getElem_set]
            split
            · rename_i e
              subst e
              have := keyB_true.1 hk
              unfold kk
              rw [this.1, this.2]
            · rfl
        rw [e]
        exact h.srt
  · intro x hx
    rcases (mem_aft h.strict hm x).1 hx with ⟨h1, _⟩ | ⟨h1, rfl⟩
    · exact h.chk x h1
    · have := (mayI_good.1 hm).1.chk
      simp only [ruleOf, if_neg h1] at this
      exact this
/-- Changes one behind the other, from a number on: the rules behind them, or the first that may not be. -/
def doL (W : Int) : List Rl → List (Int × Rl) → Nat → Option (List Rl) × Nat × Int
  | L, [], _ => (some L, 0, 0)
  | L, c :: m, i => if mayI L W c.1 c.2 = 0 then doL W (aft L c.1 c.2) m (i + 1) else (none, i, mayI L W c.1 c.2)
/-- What a table holds behind changes, all or none. -/
def endL (W : Int) (L : List Rl) (m : List (Int × Rl)) : List Rl := (doL W L m 0).1.getD L
/-- Behind changes, one by one. -/
def mkL (W : Int) (m : List (Int × Rl)) : List Rl := m.foldl (fun L c => endL W L [c]) []
theorem doL_ok {W : Int} : ∀ {m : List (Int × Rl)} {L L' : List Rl} {i : Nat}, Ok W L → (doL W L m i).1 = some L' → Ok W L'
  | [], L, L', i, h, e => by injection e with e; rw [← e]; exact h
  | c :: m, L, L', i, h, e => by
    unfold doL at e
    split at e
    · rename_i h1; exact doL_ok (h.aft h1) e
    · cases e
theorem Ok.end_ {W : Int} {L : List Rl} (h : Ok W L) (m : List (Int × Rl)) : Ok W (endL W L m) := by
  unfold endL
  cases e : (doL W L m 0).1 with
  | none => exact h
  | some L' => exact doL_ok h e
theorem foldl_ok {W : Int} : ∀ (m : List (Int × Rl)) (L : List Rl), Ok W L → Ok W (m.foldl (fun L c => endL W L [c]) L)
  | [], L, h => h
  | c :: m, L, h => foldl_ok m _ (h.end_ [c])
theorem mkL_ok (W : Int) (m : List (Int × Rl)) : Ok W (mkL W m) := foldl_ok m [] (ok_nil W)
theorem mkL_succ (W : Int) (l : List (Int × Rl)) (i : Nat) (h : i < l.length) : mkL W (l.take (i + 1)) = endL W (mkL W (l.take i)) [l[i]] := by
  unfold mkL
  rw [List.take_succ_eq_append_getElem h, List.foldl_append]
  rfl
/-- M is what S makes of L. -/
structure Made (W : Int) (L : List Rl) (S : List (Int × Rl)) (M : List Rl) : Prop where
  ok : Ok W M
  mem : ∀ x, x ∈ M ↔ (x ∈ L ∧ ∀ c ∈ S, keyB c.2.p c.2.m x = false) ∨ ∃ c ∈ S, c.1 ≠ 2 ∧ x = c.2
  len : M.length ≤ L.length + S.length
/-- Unlike keys. -/
def unl (c d : Int × Rl) : Prop := ¬ (c.2.p = d.2.p ∧ c.2.m = d.2.m)
theorem Made.key {W : Int} {L M : List Rl} {S : List (Int × Rl)} (h : Made W L S M) {c : Int × Rl} (hc : ∀ d ∈ S, unl c d) : (∃ x ∈ M, keyB c.2.p c.2.m x = true) ↔ ∃ x ∈ L, keyB c.2.p c.2.m x = true := by
  constructor
  · rintro ⟨x, hx, hk⟩
    rcases (h.mem x).1 hx with ⟨h1, _⟩ | ⟨d, hd, _, rfl⟩
    · exact ⟨x, h1, hk⟩
    · have := keyB_true.1 hk
      exact absurd ⟨this.1.symm, this.2.symm⟩ (hc d hd)
  · rintro ⟨x, hx, hk⟩
    refine ⟨x, (h.mem x).2 (.inl ⟨hx, fun d hd => keyB_false.2 fun e => ?_⟩), hk⟩
    have := keyB_true.1 hk
    exact hc d hd ⟨this.1.symm.trans e.1, this.2.symm.trans e.2⟩
theorem Made.step {W : Int} {L M : List Rl} {S : List (Int × Rl)} (h : Made W L S M) {c : Int × Rl} (hc : ∀ d ∈ S, unl c d) (hm : mayI M W c.1 c.2 = 0) : Made W L (c :: S) (aft M c.1 c.2) := by
  refine ⟨h.ok.aft hm, fun x => ?_, ?_⟩
  · rw [mem_aft h.ok.strict hm, h.mem]
    constructor
    · rintro (⟨h1 | ⟨d, hd, h1, rfl⟩, h2⟩ | ⟨h1, h2⟩)
      · refine .inl ⟨h1.1, fun d hd => ?_⟩
        rcases List.mem_cons.1 hd with rfl | hd
        · exact h2
        · exact h1.2 d hd
      · exact .inr ⟨d, List.mem_cons_of_mem _ hd, h1, rfl⟩
      · exact .inr ⟨c, List.mem_cons_self .., h1, h2⟩
    · rintro (⟨h1, h2⟩ | ⟨d, hd, h1, rfl⟩)
      · exact .inl ⟨.inl ⟨h1, fun d hd => h2 d (List.mem_cons_of_mem _ hd)⟩, h2 c (List.mem_cons_self ..)⟩
      · rcases List.mem_cons.1 hd with rfl | hd
        · exact .inr ⟨h1, rfl⟩
        · exact .inl ⟨.inr ⟨d, hd, h1, rfl⟩, keyB_false.2 fun e => hc d hd ⟨e.1.symm, e.2.symm⟩⟩
  · have := (aft_length hm h.ok.few).2
    rw [List.length_cons]
    have := h.len
    omega
end Fb
def encC (x : Int × RC) : List Value := [.int .i64 x.1, .int .i64 x.2.p, .string x.2.m, .int .i64 x.2.k, .slice x.2.a x.2.n x.2.c]
def cellsC (l : List (Int × RC)) : List Value := l.flatMap encC
/-- v reads as the changes L, their ports in blocks that are ok. -/
def RdsC (ok : Nat → Prop) (w : World) (v : Value) (L : List (Int × Rl)) : Prop :=
  ∃ (xs : List (Int × RC)) (ad : Option Addr) (n cap : Nat), v = .slice ad n cap ∧ n = L.length ∧ xs.length = n ∧ (n ≤ cap ∧ (ad = none → cap = 0)) ∧ cap ≤ maxLen ∧ okV ok v ∧
    (∀ i (h : i < xs.length), ∃ b off, ad = some ⟨b, off, none⟩ ∧ b < w.heap.size ∧
      w.cell? ⟨b, off + i * 5, none⟩ = some (.int .i64 xs[i].1) ∧ w.cell? ⟨b, off + i * 5 + 1, none⟩ = some (.int .i64 xs[i].2.p) ∧ w.cell? ⟨b, off + i * 5 + 2, none⟩ = some (.string xs[i].2.m) ∧ w.cell? ⟨b, off + i * 5 + 3, none⟩ = some (.int .i64 xs[i].2.k) ∧ w.cell? ⟨b, off + i * 5 + 4, none⟩ = some (.slice xs[i].2.a xs[i].2.n xs[i].2.c)) ∧
    ∀ i (h : i < xs.length) (h' : i < L.length), xs[i].1 = L[i].1 ∧ RdC ok w xs[i].2 L[i].2
theorem RdsC.but {ok S : Nat → Prop} {w w' : World} {v : Value} {L : List (Int × Rl)} (h : RdsC ok w v L) (hb : But S w w') (hs : ∀ b, ok b → ¬ S b) : RdsC ok w' v L := by
  obtain ⟨xs, ad, n, cap, rfl, h2, h3, h4, h5, h6, h7, h8⟩ := h
  refine ⟨xs, ad, n, cap, rfl, h2, h3, h4, h5, h6, fun i hi => ?_, fun i hi hi' => ⟨(h8 i hi hi').1, (h8 i hi hi').2.but hb hs⟩⟩
  obtain ⟨b, off, rfl, hlt, c0, c1, c2, c3, c4⟩ := h7 i hi
  have hS : ¬ S b := hs b (h6 _ _ _ rfl (by omega))
  exact ⟨b, off, rfl, Nat.lt_of_lt_of_le hlt hb.size, (hb.cell (p := ⟨b, off + i * 5, none⟩) hlt hS).trans c0, (hb.cell (p := ⟨b, off + i * 5 + 1, none⟩) hlt hS).trans c1, (hb.cell (p := ⟨b, off + i * 5 + 2, none⟩) hlt hS).trans c2, (hb.cell (p := ⟨b, off + i * 5 + 3, none⟩) hlt hS).trans c3, (hb.cell (p := ⟨b, off + i * 5 + 4, none⟩) hlt hS).trans c4⟩
theorem RdsC.below {ok : Nat → Prop} {w w' : World} {v : Value} {L : List (Int × Rl)} (h : RdsC ok w v L) (hb : Below w.heap.size w w') : RdsC ok w' v L := h.but (S := fun _ => False) (But.below hb) (fun _ _ h => h)
theorem RdsC.mono {ok ok' : Nat → Prop} {w : World} {v : Value} {L : List (Int × Rl)} (h : RdsC ok w v L) (hk : ∀ b, ok b → ok' b) : RdsC ok' w v L := by
  obtain ⟨xs, ad, n, cap, h1, h2, h3, h4, h5, h6, h7, h8⟩ := h
  exact ⟨xs, ad, n, cap, h1, h2, h3, h4, h5, okV_mono h6 hk, h7, fun i hi hi' => ⟨(h8 i hi hi').1, (h8 i hi hi').2.mono hk⟩⟩
theorem RdsC.lt {ok : Nat → Prop} {w : World} {v : Value} {L : List (Int × Rl)} (h : RdsC ok w v L) : RdsC (fun b => ok b ∧ b < w.heap.size) w v L := by
  obtain ⟨xs, ad, n, cap, h1, h2, h3, h4, h5, h6, h7, h8⟩ := h
  refine ⟨xs, ad, n, cap, h1, h2, h3, h4, h5, fun a m c hv hn => ⟨h6 a m c hv hn, ?_⟩, h7, fun i hi hi' => ⟨(h8 i hi hi').1, (h8 i hi hi').2.lt⟩⟩
  rw [h1] at hv
  injection hv with e1 e2 _
  obtain ⟨b, off, h9, h10, _⟩ := h7 0 (by omega)
  rw [e1] at h9
  injection h9 with h9
  rw [h9]; exact h10
theorem rdsC_nil (ok : Nat → Prop) (w : World) : RdsC ok w (.slice none 0 0) [] := ⟨[], none, 0, 0, rfl, rfl, rfl, ⟨Nat.le_refl _, fun _ => rfl⟩, Nat.zero_le _, okV_nil _ _ _, fun i h => absurd h (Nat.not_lt_zero _), fun i h => absurd h (Nat.not_lt_zero _)⟩
/-- One element. -/
theorem RdsC.get {ok : Nat → Prop} {w : World} {ad : Option Addr} {n cap : Nat} {L : List (Int × Rl)} (h : RdsC ok w (.slice ad n cap) L) (i : Nat) (hi : i < L.length) : ∃ (b off : Nat) (k : Int) (x : RC), ad = some ⟨b, off, none⟩ ∧ b < w.heap.size ∧ ok b ∧ k = L[i].1 ∧
    w.cell? ⟨b, off + i * 5, none⟩ = some (.int .i64 k) ∧ w.cell? ⟨b, off + i * 5 + 1, none⟩ = some (.int .i64 x.p) ∧ w.cell? ⟨b, off + i * 5 + 2, none⟩ = some (.string x.m) ∧ w.cell? ⟨b, off + i * 5 + 3, none⟩ = some (.int .i64 x.k) ∧ w.cell? ⟨b, off + i * 5 + 4, none⟩ = some (.slice x.a x.n x.c) ∧ RdC ok w x L[i].2 := by
  obtain ⟨xs, ad', n', cap', h1, h2, h3, h4, h5, h6, h7, h8⟩ := h
  injection h1 with e1 e2 e3
  subst e1 e2 e3
  obtain ⟨b, off, rfl, hlt, c0, c1, c2, c3, c4⟩ := h7 i (by omega)
  obtain ⟨hk, hx⟩ := h8 i (by omega) hi
  exact ⟨b, off, (xs[i]'(by omega)).1, (xs[i]'(by omega)).2, rfl, hlt, h6 _ _ _ rfl (by omega), hk, c0, c1, c2, c3, c4, hx⟩
theorem RdsC.form {ok : Nat → Prop} {w : World} {v : Value} {L : List (Int × Rl)} (h : RdsC ok w v L) : ∃ ad cap, v = .slice ad L.length cap ∧ L.length ≤ cap ∧ cap ≤ maxLen := by
  obtain ⟨xs, ad, n, cap, rfl, rfl, h3, h4, h5, _⟩ := h
  exact ⟨ad, cap, rfl, h4.1, h5⟩
/-- One change of its own row. -/
theorem one_rdsC {ok : Nat → Prop} {W : World} {g : Nat} {k : Int} {x : RC} {r : Rl} {e : TypeId} (h : W.heap[g]? = some (.cells #[.int .i64 k, .int .i64 x.p, .string x.m, .int .i64 x.k, .slice x.a x.n x.c] e (0, 0))) (hx : RdC ok W x r) (hg : ok g) : RdsC ok W (.slice (some ⟨g, 0, none⟩) 1 1) [(k, r)] := by
  have hlt : g < W.heap.size := by
    rcases Nat.lt_or_ge g W.heap.size with h' | h'
    · exact h'
    · rw [Array.getElem?_eq_none h'] at h; cases h
  refine ⟨[(k, x)], some ⟨g, 0, none⟩, 1, 1, rfl, rfl, rfl, ⟨Nat.le_refl _, fun e => by cases e⟩, by unfold maxLen; omega, okV_some hg, ?_, ?_⟩
  · intro i hi
    obtain rfl : i = 0 := by simpa using hi
    exact ⟨g, 0, rfl, hlt, by simp [World.cell?, h], by simp [World.cell?, h], by simp [World.cell?, h], by simp [World.cell?, h], by simp [World.cell?, h]⟩
  · intro i h1 h2
    obtain rfl : i = 0 := by simpa using h1
    exact ⟨rfl, hx⟩
/-- Two changes of their own row. -/
theorem two_rdsC {ok : Nat → Prop} {W : World} {g : Nat} {k k2 : Int} {x y : RC} {r s : Rl} {e : TypeId} (h : W.heap[g]? = some (.cells #[.int .i64 k, .int .i64 x.p, .string x.m, .int .i64 x.k, .slice x.a x.n x.c, .int .i64 k2, .int .i64 y.p, .string y.m, .int .i64 y.k, .slice y.a y.n y.c] e (0, 0))) (hx : RdC ok W x r) (hy : RdC ok W y s) (hg : ok g) : RdsC ok W (.slice (some ⟨g, 0, none⟩) 2 2) [(k, r), (k2, s)] := by
  have hlt : g < W.heap.size := by
    rcases Nat.lt_or_ge g W.heap.size with h' | h'
    · exact h'
    · rw [Array.getElem?_eq_none h'] at h; cases h
  refine ⟨[(k, x), (k2, y)], some ⟨g, 0, none⟩, 2, 2, rfl, rfl, rfl, ⟨Nat.le_refl _, fun e => by cases e⟩, by unfold maxLen; omega, okV_some hg, ?_, ?_⟩
  · intro i hi
    have hi' : i = 0 ∨ i = 1 := by simp at hi; omega
    rcases hi' with rfl | rfl
    · exact ⟨g, 0, rfl, hlt, by simp [World.cell?, h], by simp [World.cell?, h], by simp [World.cell?, h], by simp [World.cell?, h], by simp [World.cell?, h]⟩
    · exact ⟨g, 0, rfl, hlt, by simp [World.cell?, h], by simp [World.cell?, h], by simp [World.cell?, h], by simp [World.cell?, h], by simp [World.cell?, h]⟩
  · intro i h1 h2
    have hi' : i = 0 ∨ i = 1 := by simp at h1; omega
    rcases hi' with rfl | rfl
    · exact ⟨rfl, hx⟩
    · exact ⟨rfl, hy⟩
theorem RdsC.part {ok : Nat → Prop} {w : World} {ad : Option Addr} {n cap : Nat} {L : List (Int × Rl)} (h : RdsC ok w (.slice ad n cap) L) (l k : Nat) (hl : l ≤ k) (hk : k ≤ n) :
    RdsC ok w (.slice (if cap = l then ad else ad.map (·.add (l * 5))) (k - l) (cap - l)) ((L.take k).drop l) := by
  obtain ⟨xs, ad', n', cap', h1, h2, h3, h4, h5, h6, h7, h8⟩ := h
  injection h1 with e1 e2 e3
  subst e1 e2 e3
  have hlen : ((L.take k).drop l).length = k - l := by rw [List.length_drop, List.length_take]; omega
  refine ⟨(xs.take k).drop l, _, k - l, cap - l, rfl, hlen.symm, by rw [List.length_drop, List.length_take]; omega, ⟨by omega, ?_⟩, by omega, ?_, ?_, ?_⟩
  · intro hn
    split at hn
    · omega
    · cases ad with
      | none => have := h4.2 rfl; omega
      | some a => cases hn
  · intro a m c hv hm
    injection hv with e1 e2 _
    have hne : ¬ cap = l := by omega
    rw [if_neg hne] at e1
    cases ad with
    | none => cases e1
    | some a0 =>
      injection e1 with e1
      rw [← e1]
      have : (a0.add (l * 5)).block = a0.block := by unfold Addr.add; split <;> rfl
      rw [this]
      exact h6 a0 n cap rfl (by omega)
  · intro i hi
    rw [List.length_drop, List.length_take] at hi
    obtain ⟨b, off, rfl, hb, c0, c1, c2, c3, c4⟩ := h7 (l + i) (by omega)
    have hne : ¬ cap = l := by omega
    have hadd : (⟨b, off, none⟩ : Addr).add (l * 5) = ⟨b, off + l * 5, none⟩ := by unfold Addr.add; split <;> simp_all
    refine ⟨b, off + l * 5, ?_, hb, ?_, ?_, ?_, ?_, ?_⟩
    · rw [if_neg hne, Option.map_some, hadd]
    · simpa [List.getElem_drop, List.getElem_take, Nat.add_mul, Nat.add_assoc] using c0
    · simpa [List.getElem_drop, List.getElem_take, Nat.add_mul, Nat.add_assoc] using c1
    · simpa [List.getElem_drop, List.getElem_take, Nat.add_mul, Nat.add_assoc] using c2
    · simpa [List.getElem_drop, List.getElem_take, Nat.add_mul, Nat.add_assoc] using c3
    · simpa [List.getElem_drop, List.getElem_take, Nat.add_mul, Nat.add_assoc] using c4
  · intro i h1 h2
    rw [List.length_drop, List.length_take] at h1
    have := h8 (l + i) (by omega) (by omega)
    simpa [List.getElem_drop, List.getElem_take] using this
namespace Fb
/-- Does a header lie in a rule's match? -/
def has (r : Rl) (h : List UInt8) : Bool := (Cb.HasS r.m.data.toList h).1
/-- The rule that a header meets. -/
def meetL (L : List Rl) (h : List UInt8) : Option Rl := L.find? fun r => has r h
/-- What is left of a rule's match without others. -/
def leftR (ahead : List ByteArray) (r : Rl) : List (List UInt8) × Int := Cb.LeftS r.m.data.toList (lb ahead)
/-- The rules that no header meets, behind some matches; none: too many parts. -/
def deadL : List ByteArray → List Rl → Option (List Rl)
  | _, [] => some []
  | ahead, r :: L => if (leftR ahead r).2 = 0 then (deadL (ahead ++ [r.m]) L).map fun t => if (leftR ahead r).1.length = 0 then r :: t else t else none
end Fb
end Go.Proofs.YtlamhpiiikcpiaaGreatDoor
/-
  Walks: the reference's Copy of a rule.
-/
namespace Go.Proofs.YtlamhpiiikcpiaaGreatDoor
open Go.RowKit Go.Shelf Go.Lib Go.Sort
set_option linter.unusedVariables false
set_option linter.unusedSectionVars false
set_option linter.unusedSimpArgs false
theorem res_copy (w : World) (b : Nat) (tmps : Array Value) (p k : Int) (m : ByteArray) (a : Option Addr) (n c : Nat) (h2 : tmps.getD 2 undef = .pointer (some ⟨b, 0, none⟩)) (h0 : w.cell? ⟨b, 0, none⟩ = some (.int .i64 p)) (h1 : w.cell? ⟨b, 1, none⟩ = some (.string m)) (h3 : w.cell? ⟨b, 2, none⟩ = some (.int .i64 k)) (h5 : w.cell? ⟨b, 3, none⟩ = some (.slice a n c)) :
    (results Tryz.f70 tmps).run Tryz.prog w = .ok (.agg #[.int .i64 p, .string m, .int .i64 k, .slice a n c]) w := by
  rw [Array.getD_eq_getD_getElem?] at h2
  simp [results, h2, loadVar, asAddr, go_sem, Tryz.isAgg47, Tryz.sizeOf47, h0, h1, h3, h5]
set_option maxHeartbeats 1600000 in
set_option maxRecDepth 20000 in
theorem rCopy_any (ok : Nat → Prop) (x : RC) (r : Rl) (w : World) (hx : RdC ok w x r) :
    Calls Tryz.prog 70 #[.agg #[.int .i64 x.p, .string x.m, .int .i64 x.k, .slice x.a x.n x.c]] w fun e w' => ∃ y : RC, e = .returned (.agg #[.int .i64 y.p, .string y.m, .int .i64 y.k, .slice y.a y.n y.c]) ∧ RdC (fun b => w.heap.size ≤ b) w' y r ∧ Below w.heap.size w w' := by
  obtain ⟨i0, hi, hz0, hz1, hz2⟩ := info_parts infoS
  obtain ⟨W0, hW0⟩ : ∃ W0, W0 = (w.alloc (.cells #[.int .i64 x.p, .string x.m, .int .i64 x.k, .slice x.a x.n x.c] 47)).alloc (.cells #[.int .i64 0, .string ⟨#[]⟩, .int .i64 0, .slice none 0 0] 47) := ⟨_, rfl⟩
  obtain ⟨W1, hW1⟩ : ∃ W1, W1 = W0.alloc (.cells #[] 9) := ⟨_, rfl⟩
  have hg : Grn w W1 := by rw [hW1, hW0]; exact (((Grn.refl w).alloc _).alloc _).alloc _
  have hs0 : W0.heap.size = w.heap.size + 2 := by rw [hW0]; simp
  have hsz : W1.heap.size = w.heap.size + 3 := by rw [hW1]; simp [hs0]
  have h0 : W1.heap[w.heap.size]? = some (.cells #[.int .i64 x.p, .string x.m, .int .i64 x.k, .slice x.a x.n x.c] 47 (0, 0)) := by
    rw [hW1, hW0]; simp only [al_heap, Array.getElem?_push, Array.size_push]; simp <;> omega
  have h1 : W1.heap[w.heap.size + 1]? = some (.cells #[.int .i64 0, .string ⟨#[]⟩, .int .i64 0, .slice none 0 0] 47 (0, 0)) := by
    rw [hW1, hW0]; simp only [al_heap, Array.getElem?_push, Array.size_push]; simp <;> omega
  have hown : W1.ownsRow (w.heap.size + 2) 9 1 (.slice (some ⟨w.heap.size + 2, 0, none⟩) 0 0) 0 [] := by
    rw [hW1]; exact lit0_rowE hs0.symm (Nat.le_refl _)
  have HOW := Lib.hid hown
  have HR := Lib.hid (hx.s.1.below hg.below)
  have HG := Lib.hid hg.below
  have H0 := Lib.hid h0
  have H1 := Lib.hid h1
  have HX := Lib.hid hx
  have HZ := Lib.hid hx.z.n
  have hxn : x.n = r.ps.length := by
    obtain ⟨ad, len, cap, e, hl, _, _⟩ := rdsS_form hx.s.1
    injection e with _ e2 _
    rw [e2, hl]
  have HN := Lib.hid hxn
  rw [hW0] at hW1
  have HSz := Lib.hid hsz
  have HW1 := Lib.hid hW1
  have a3 : W1.cell? ⟨w.heap.size, 2 + 1, none⟩ = some (.slice x.a x.n x.c) := by simp [World.cell?, h0]
  clear hown hg h0 h1 hx hxn hW0 hW1 hs0 hsz
  go_enter Tryz.func70, Tryz.ntmps70
  go_upto_region 1 with fail
  obtain ⟨nn, hnn⟩ : ∃ nn, nn = r.ps.length := ⟨_, rfl⟩
  have HNN := Lib.hid hnn
  clear hnn
  go_wp2_with (at_builtin; rw [← HW1.out]; go_loud (refine wpList_append_rds rfl (.tmp 3) (.tmp 6) _ rfl (w.heap.size + 2) 9 i0 _ 16 Tryz.underlying43 hi hz0 hz1 hz2 rfl (.slice (some ⟨w.heap.size + 2, 0, none⟩) 0 0) 0 [] rfl HOW.out _ (r.ps.map Value.string) rfl HR.out str_one nn (by rw [List.length_map, HNN.out]; omega) (by have := HZ.out; have := HNN.out; unfold maxLen; omega) (by have := HZ.out; have := HNN.out; omega) (by rw [HSz.out]; omega) ?_); intro ad2 cap2 w2 h2 hg; have HO := Lib.hid h2; have HG2 := Lib.hid hg; have b0 := (hg.block w.heap.size (by rw [HSz.out]; omega) (by simp [Value.ownBlock])).trans H0.out; have b1 := (hg.block (w.heap.size + 1) (by rw [HSz.out]; omega) (by simp [Value.ownBlock])).trans H1.out; have z0 : w2.cell? ⟨w.heap.size, 0, none⟩ = some (.int .i64 x.p) := (by simp [World.cell?, b0]); have z1 : w2.cell? ⟨w.heap.size, 1, none⟩ = some (.string x.m) := (by simp [World.cell?, b0]); have z2 : w2.cell? ⟨w.heap.size, 2, none⟩ = some (.int .i64 x.k) := (by simp [World.cell?, b0]); have z3 : w2.cell? ⟨w.heap.size, 3, none⟩ = some (.slice x.a x.n x.c) := (by simp [World.cell?, b0]); have f3 : w2.frozen? ⟨w.heap.size, 3, none⟩ = false := (by simp [World.frozen?, b0]); have r0 : w2.cell? ⟨w.heap.size + 1, 0, none⟩ = some (.int .i64 0) := (by simp [World.cell?, b1]); have r1 : w2.cell? ⟨w.heap.size + 1, 1, none⟩ = some (.string ⟨#[]⟩) := (by simp [World.cell?, b1]); have r2 : w2.cell? ⟨w.heap.size + 1, 2, none⟩ = some (.int .i64 0) := (by simp [World.cell?, b1]); have r3 : w2.cell? ⟨w.heap.size + 1, 3, none⟩ = some (.slice none 0 0) := (by simp [World.cell?, b1]); have rf0 : w2.frozen? ⟨w.heap.size + 1, 0, none⟩ = false := (by simp [World.frozen?, b1]); have rf1 : w2.frozen? ⟨w.heap.size + 1, 1, none⟩ = false := (by simp [World.frozen?, b1]); have rf2 : w2.frozen? ⟨w.heap.size + 1, 2, none⟩ = false := (by simp [World.frozen?, b1]); have rf3 : w2.frozen? ⟨w.heap.size + 1, 3, none⟩ = false := (by simp [World.frozen?, b1]); clear h2 hg b0 b1)
  refine bodyPost_ret (res_copy _ (w.heap.size + 1) _ x.p x.k x.m ad2 nn cap2 rfl ?_ ?_ ?_ ?_) rfl ?_
  · simp [go_sem, r0]
  · simp [go_sem, r1]
  · simp [go_sem, r2]
  · simp [go_sem, r3]
  have hb2 : Below w.heap.size w w2 := HG.out.grown HG2.out (by rw [HSz.out]; omega) (fun k hk => by have e := Option.some.inj (show some (w.heap.size + 2) = some k from hk); omega)
  have hset : ∀ (W : World) (g o : Nat) (c : Value), w.heap.size ≤ g → Below w.heap.size w W → Below w.heap.size w (W.setCell ⟨g, o, none⟩ c) := fun W g o c hg hb => hb.setCell hg c
  have hrow := ownsRow_rds HO.out
  rw [List.nil_append] at hrow
  have hblk : ∀ a' n' c', Value.slice ad2 nn cap2 = .slice (some a') n' c' → w.heap.size + 2 ≤ a'.block := fun a' n' c' hv => by
    injection hv with e1 _ _
    exact (HO.out.lt a'.block (by rw [e1]; rfl)).1
  have hro : RdsO (fun b => w.heap.size + 2 ≤ b) w2 (.slice ad2 nn cap2) r.ps := ⟨hrow, fun a' n' c' hv _ => hblk a' n' c' hv⟩
  have hbut : ∀ (W : World) (g o : Nat) (c : Value), g < w.heap.size + 2 → But (fun b => b < w.heap.size + 2) W (W.setCell ⟨g, o, none⟩ c) := fun W g o c hg => But.set (S := fun b => b < w.heap.size + 2) (a := ⟨g, o, none⟩) hg c
  refine ⟨⟨x.p, x.m, x.k, ad2, nn, cap2⟩, rfl, ⟨HX.out.p, HX.out.m, HX.out.k, ?_, HX.out.z⟩, ?_⟩
  · refine (RdsO.but hro (S := fun b => b < w.heap.size + 2) ?_ (fun b hb h => by omega)).mono fun b hb => by omega
    exact ((((hbut _ _ _ _ (by omega)).trans (hbut _ _ _ _ (by omega))).trans (hbut _ _ _ _ (by omega))).trans (hbut _ _ _ _ (by omega))).trans (hbut _ _ _ _ (by omega))
  · exact hset _ _ _ _ (by omega) (hset _ _ _ _ (by omega) (hset _ _ _ _ (by omega) (hset _ _ _ _ (by omega) (hset _ _ _ _ (by omega) hb2))))
/-- Blocks that a test allows, but for the row itself. -/
def okP (P : Nat → Prop) (v : Value) : Nat → Prop := fun b => P b ∧ v.ownBlock ≠ some b
/-- append of one rule, told by its cells, onto a row of the call's own whose ports lie in blocks that are allowed. -/
theorem wp_app_oneK {w : World} {o : Oper} {a : Act} {K : Act → World → Prop} {Q : Exit → Act → World → Prop} (P : Nat → Prop) (s x : Operand)
    (ho : o.op = .call { callee := .builtin .append, args := #[s, x], argTypes := #[36, 36] })
    (base : Nat) (v : Value) (xs : List RC) (L : List Rl) (hs : a.eval s = v) (h1 : OwnR (okP P v) w base v xs L)
    (g0 c : Nat) (y : RC) (r : Rl) (hx : a.eval x = .slice (some ⟨g0, 0, none⟩) 1 c) (hyc : w.heap[g0]? = some (.cells #[.int .i64 y.p, .string y.m, .int .i64 y.k, .slice y.a y.n y.c] 47 (0, 0)))
    (hyr : RdC (okP P v) w y r) (tot : Nat) (htot : L.length + 1 = tot) (hbytes : tot * 56 ≤ 140737488355328) (hbase : base ≤ w.heap.size)
    (h : ∀ ad cap w', OwnR (okP P (.slice ad tot cap)) w' base (.slice ad tot cap) (xs ++ [y]) (L ++ [r]) → w.grownBy w' v.ownBlock → K (a.put o.dst (.slice ad tot cap)) w') : o.wp Tryz.prog a w K Q := by
  subst htot
  obtain ⟨i0, hi, hz0, hz1, hz2⟩ := info_parts infoR
  refine wp_append_lies w s x 36 ho base 47 i0 _ 4 56 Tryz.underlying36 hi hz0 hz1 hz2 rfl (by decide) v L.length (cellsR xs) hs h1.row ⟨g0, 0, none⟩ 1 c (cellsR [y]) hx rfl (one_cells hyc _ rfl) (cellsR_one _)
    (by omega) (by unfold maxLen; omega) hbytes hbase w.heap.size rfl fun g cap w' hown hg hgg hlt => h _ cap w' ?_ hg
  have hbut : But (fun b => v.ownBlock = some b) w w' := ⟨hg.os, hg.tape, hg.output, hg.size, fun k hk hn => hg.block k hk (fun e => hn e.symm)⟩
  have key : ∀ {y' : RC} {r' : Rl}, RdC (okP P v) w y' r' → RdC (okP P (.slice (some ⟨g, 0, none⟩) (L.length + 1) cap)) w' y' r' := fun hy => by
    refine (hy.lt.but hbut (fun b hb e => hb.1.2 e)).mono (fun b hb => ⟨hb.1.1, fun e => ?_⟩)
    have e2 : g = b := Option.some.inj e
    rcases hgg with h3 | h3
    · exact hb.1.2 (by rw [h3, e2])
    · have := hb.2; omega
  refine ⟨?_, ?_, ?_⟩
  · rw [cellsR_append, List.length_append]; exact hown
  · rw [List.length_append, List.length_append, h1.len]; rfl
  · intro i h3 h4
    by_cases hlt2 : i < xs.length
    · rw [List.getElem_append_left hlt2, List.getElem_append_left (by rw [← h1.len]; exact hlt2)]
      exact key (h1.rd i hlt2 (by rw [← h1.len]; exact hlt2))
    · have e1 : i = xs.length := by simp at h3; omega
      subst e1
      have e2 : (xs ++ [y])[xs.length]'h3 = y := by simp
      have e3 : (L ++ [r])[xs.length]'h4 = r := by simp only [h1.len]; simp
      rw [e2, e3]
      exact key hyr
theorem OwnR.okRds {P : Nat → Prop} {w : World} {base : Nat} {v : Value} {xs : List RC} {L : List Rl} (h : OwnR (okP P v) w base v xs L) (hb : ∀ b, base ≤ b → P b) : RdsR P w v L :=
  (h.mono (ok' := P) fun b hb => hb.1).toRds hb
/-! ### without one -/
theorem erase_step (L : List Rl) (z i : Nat) (hi : i < L.length) (h : i ≠ z) : (L.take (i + 1)).eraseIdx z = (L.take i).eraseIdx z ++ [L[i]] := by
  have hl : (L.take i).length = i := by rw [List.length_take]; omega
  rw [List.take_succ_eq_append_getElem hi]
  rcases Nat.lt_or_ge z i with h1 | h1
  · rw [List.eraseIdx_append_of_lt_length (by omega)]
  · rw [List.eraseIdx_append_of_length_le (by omega), hl, List.eraseIdx_of_length_le (l := L.take i) (by omega), List.eraseIdx_of_length_le (l := [L[i]]) (by simp; omega)]
theorem erase_skip (L : List Rl) (z : Nat) (hi : z < L.length) : (L.take (z + 1)).eraseIdx z = (L.take z).eraseIdx z := by
  have hl : (L.take z).length = z := by rw [List.length_take]; omega
  rw [List.take_succ_eq_append_getElem hi, List.eraseIdx_append_of_length_le (by omega), hl, List.eraseIdx_of_length_le (l := L.take z) (by omega), Nat.sub_self]
  simp
theorem set_step (L : List Rl) (z i : Nat) (r : Rl) (hi : i < L.length) : (L.set z r).take (i + 1) = (L.set z r).take i ++ [if i = z then r else L[i]] := by
  rw [List.take_succ_eq_append_getElem (by rw [List.length_set]; exact hi), List.getElem_set]
  by_cases h : z = i
  · subst h; simp
  · rw [if_neg h, if_neg (fun e => h e.symm)]
theorem run_field_action (p k : Int) (m : ByteArray) (a : Option Addr) (n c : Nat) (w : World) : (Instr.field 47 (.agg #[.int .i64 p, .string m, .int .i64 k, .slice a n c]) 2).run Tryz.prog w = .ok (.agg #[.int .i64 k, .slice a n c]) w := by kernel_rfl
set_option maxHeartbeats 1600000 in
set_option maxRecDepth 20000 in
theorem rAfter2_any (ok ok2 : Nat → Prop) (v : Value) (L : List Rl) (x : RC) (r : Rl) (w : World) (hr : RdsR ok w v L) (hx : RdC ok2 w x r) (hL : L.length ≤ 4096) (hk : 0 ≤ Fb.keyI L r.p r.m) :
    Calls Tryz.prog 37 #[v, .agg #[.int .i64 2, .int .i64 x.p, .string x.m, .int .i64 x.k, .slice x.a x.n x.c]] w fun e w' => ∃ ad n c, e = .returned (.slice ad n c) ∧ RdsR (fun b => ok b ∨ w.heap.size ≤ b) w' (.slice ad n c) (Fb.aft L 2 r) ∧ Below w.heap.size w w' := by
  obtain ⟨z, hz⟩ : ∃ z, Fb.keyI L r.p r.m = z := ⟨_, rfl⟩
  have HZ := Lib.hid hz
  have HIs := Fb.keyI_is L r.p r.m
  rw [hz] at HIs hk
  have hxp := hx.p
  have hxm := hx.m
  rw [← hxp, ← hxm] at HIs
  obtain ⟨W1, hW1⟩ : ∃ W1, W1 = w.alloc (.cells #[.int .i64 2, .int .i64 x.p, .string x.m, .int .i64 x.k, .slice x.a x.n x.c] 49) := ⟨_, rfl⟩
  have hg1 : Grn w W1 := by rw [hW1]; exact (Grn.refl w).alloc _
  have hs1 : W1.heap.size = w.heap.size + 1 := by rw [hW1]; simp
  have hh1 : W1.heap[w.heap.size]? = some (.cells #[.int .i64 2, .int .i64 x.p, .string x.m, .int .i64 x.k, .slice x.a x.n x.c] 49 (0, 0)) := by rw [hW1]; exact heap_alloc_new _ _
  have hr1 := hr.lt.below hg1.below
  have HAt := Lib.hid (at_any _ v L x W1 hr1 z HIs)
  obtain ⟨i0, hi0, hzi⟩ : ∃ i, ∃ h : i < L.length, z = (i : Int) := by
    rcases HIs.is with ⟨h1, _⟩ | ⟨i, h1, h2, _⟩
    · omega
    · exact ⟨i, h1, h2⟩
  subst hzi
  have HR1 := Lib.hid hr1
  have HH1 := Lib.hid hh1
  have HG1 := Lib.hid hg1
  obtain ⟨n, hn⟩ : ∃ n, n = L.length := ⟨_, rfl⟩
  have HN := Lib.hid hn
  rw [← hn] at hL hi0
  obtain ⟨adv, capv, rfl, hvc, hvm⟩ := hr.form
  rw [← hn] at HR1 hvc HAt ⊢
  unfold maxLen at hvm
  have c0 : W1.cell? ⟨w.heap.size, 0, none⟩ = some (.int .i64 2) := by simp [World.cell?, hh1]
  have c1 : W1.cell? ⟨w.heap.size, 1, none⟩ = some (.int .i64 x.p) := by simp [World.cell?, hh1]
  have c2 : W1.cell? ⟨w.heap.size, 2, none⟩ = some (.string x.m) := by simp [World.cell?, hh1]
  have c3 : W1.cell? ⟨w.heap.size, 3, none⟩ = some (.int .i64 x.k) := by simp [World.cell?, hh1]
  have c4 : W1.cell? ⟨w.heap.size, 4, none⟩ = some (.slice x.a x.n x.c) := by simp [World.cell?, hh1]
  have HS1 := Lib.hid hs1
  have HW1 := Lib.hid hW1
  have HKz := Lib.hid hk
  clear hr hx hn hz hg1 hh1 hr1 HIs hs1 hxp hxm hW1
  go_enter Tryz.func37, Tryz.ntmps37
  go_upto_region 1 with fail
  rw [← HW1.out]
  clear HW1
  go_wp2_with fail
  refine HAt.out.mono ?_
  rintro e W2 ⟨rfl, hg2⟩
  have d0 := (hg2.below.cell (p := ⟨w.heap.size, 0, none⟩) (cell_lt c0)).trans c0
  have HD0 := Lib.hid d0
  have HR2 := Lib.hid (HR1.out.below hg2.below)
  have HG2 := Lib.hid hg2
  have hs2 : w.heap.size < W2.heap.size := by have := hg2.below.size; have := HS1.out; omega
  clear hg2 c0 c1 c2 c3 c4 HAt
  go_wp2_with fail
  go_loopw [5, 7] (fun s5 s7 wr => ∃ (i m : Nat) (ad : Option Addr) (c : Nat) (xs : List RC), s7 = .int .i64 i ∧ s5 = .slice ad m c ∧ i ≤ n ∧ Hid (m = ((L.take i).eraseIdx i0).length) ∧ Hid (m ≤ i) ∧
    Hid (OwnR (okP (fun b => (ok b ∧ b < w.heap.size) ∨ w.heap.size ≤ b) (.slice ad m c)) wr W2.heap.size (.slice ad m c) xs ((L.take i).eraseIdx i0)) ∧ Hid (Below W2.heap.size W2 wr)) (fun _ s7 _ => n - (intOf s7).toNat)
  case atStart => exact ⟨0, 0, none, 0, [], rfl, rfl, Nat.zero_le _, by show _ = _; simp, by show _ ≤ _; omega, by show OwnR _ _ _ _ _ _; simp only [List.take_zero, List.eraseIdx_nil]; exact ownR_nil _ _ _, Below.refl _ _⟩
  case round =>
    obtain ⟨wo, rfl⟩ : ∃ wo : World, wo = wr := ⟨wr, rfl⟩
    obtain ⟨i, m, ad, c, xs, rfl, rfl, hin, HM, HMi, HO, HB⟩ := hrel
    by_cases hlt : i < n
    · have hiL : i < L.length := by rw [← HN.out]; exact hlt
      obtain ⟨b, off, u, rfl, hb, _, x0, x1, x2, x3, hu⟩ := HR2.out.get i hiL
      have X0 := (HB.out.cell (p := ⟨b, off + i * 4, none⟩) hb).trans x0
      have X1 := (HB.out.cell (p := ⟨b, off + i * 4 + 1, none⟩) hb).trans x1
      have X2 := (HB.out.cell (p := ⟨b, off + i * 4 + 2, none⟩) hb).trans x2
      have X3 := (HB.out.cell (p := ⟨b, off + i * 4 + 3, none⟩) hb).trans x3
      have D0 := (HB.out.cell (p := ⟨w.heap.size, 0, none⟩) hs2).trans HD0.out
      obtain ⟨W3, hW3⟩ : ∃ W3, W3 = wo.alloc (.cells #[.int .i64 u.p, .string u.m, .int .i64 u.k, .slice u.a u.n u.c] 47) := ⟨_, rfl⟩
      have hb3 : Below wo.heap.size wo W3 := by rw [hW3]; exact (Below.refl _ _).alloc (Nat.le_refl _) _
      have hs3 : W3.heap.size = wo.heap.size + 1 := by rw [hW3]; simp
      have hh3 : W3.heap[wo.heap.size]? = some (.cells #[.int .i64 u.p, .string u.m, .int .i64 u.k, .slice u.a u.n u.c] 47 (0, 0)) := by rw [hW3]; exact heap_alloc_new _ _
      have D3 := (hb3.cell (p := ⟨w.heap.size, 0, none⟩) (cell_lt D0)).trans D0
      have q0 : W3.cell? ⟨wo.heap.size, 0, none⟩ = some (.int .i64 u.p) := by simp [World.cell?, hh3]
      have q1 : W3.cell? ⟨wo.heap.size, 1, none⟩ = some (.string u.m) := by simp [World.cell?, hh3]
      have q2 : W3.cell? ⟨wo.heap.size, 2, none⟩ = some (.int .i64 u.k) := by simp [World.cell?, hh3]
      have q3 : W3.cell? ⟨wo.heap.size, 3, none⟩ = some (.slice u.a u.n u.c) := by simp [World.cell?, hh3]
      have hB4 : Below wo.heap.size wo (W3.alloc (.cells #[.int .i64 u.p, .string u.m, .int .i64 u.k, .slice u.a u.n u.c] 47)) := hb3.alloc hb3.size _
      have HOw := Lib.hid (HO.out.below hB4)
      have HB4 := Lib.hid hB4
      have hBsz := HB.out.size
      have HYr : Hid (RdC (okP (fun b => (ok b ∧ b < w.heap.size) ∨ w.heap.size ≤ b) (.slice ad m c)) (W3.alloc (.cells #[.int .i64 u.p, .string u.m, .int .i64 u.k, .slice u.a u.n u.c] 47)) u L[i]) := by
        refine ((hu.below HB.out).below (hB4.mono (by omega))).mono fun b hb => ⟨.inl hb, fun e => ?_⟩
        have := (HO.out.row.lt b e).1
        have := hb.2
        omega
      have HS3 := Lib.hid hs3
      have HW3 := Lib.hid hW3
      have HB3 := Lib.hid hb3
      clear x0 x1 x2 x3 hu hW3 hb3 hh3 hB4 hs3
      go_upto_region 10 with fail
      rw [← HW3.out]
      clear HW3 X0 X1 X2 X3 D0
      by_cases hii : i = i0
      · subst hii
        have HE := Lib.hid (erase_skip L i hiL)
        have e1 : (((i : Nat) : Int) == (i : Int)) = true := by simp
        go_wp2_with fail
        go_roundw
        case rel => exact ⟨i + 1, m, ad, c, xs, by first | rfl | go_num, rfl, by omega, by show _ = _; rw [HE.out]; exact HM.out, by show _ ≤ _; have := HMi.out; omega, by show OwnR _ _ _ _ _ _; rw [HE.out]; exact HO.out.below HB3.out, HB.out.trans (HB3.out.mono hBsz)⟩
        case measure => simp [intOf]; omega
      · have HE := Lib.hid (erase_step L i0 i hiL hii)
        have e1 : (((i : Nat) : Int) == (i0 : Int)) = false := by simp; omega
        have HOl : Hid (((L.take i).eraseIdx i0).length = m) := HM.out.symm
        have HMi' := HMi.out
        go_wp2_with (at_builtin; go_loud (refine wpList_plain rfl (fun _ hK => wp_app_oneK (fun b => (ok b ∧ b < w.heap.size) ∨ w.heap.size ≤ b) (.tmp 52) (.tmp 54) rfl W2.heap.size _ xs _ (by rfl) HOw.out W3.heap.size 1 u L[i] (by rfl) (heap_alloc_new _ _) HYr.out (m + 1) (by rw [HOl.out]) (by omega) (by have := HB4.out.size; omega) (fun ad4 c4 w4 ho4 hg4 => hK _ _ ?_))); have HO4 := Lib.hid ho4; have HG4 := Lib.hid hg4; clear ho4 hg4)
        have HBw4 : Hid (Below W2.heap.size W2 w4) := (HB.out.trans (HB4.out.mono hBsz)).grown HG4.out (by have := HB4.out.size; omega) (fun k hk => by have := (HO.out.row.lt k hk).1; omega)
        rw [← HE.out] at HO4
        go_roundw
        case rel => exact ⟨i + 1, m + 1, ad4, c4, _, by first | rfl | go_num, rfl, by omega, by show _ = _; rw [HE.out, List.length_append, ← HM.out]; rfl, by show _ ≤ _; omega, HO4, HBw4⟩
        case measure => simp [intOf]; omega
    · have hin' : i = n := by omega
      have HF : Hid ((L.take i).eraseIdx i0 = Fb.aft L 2 r) := by
        show _ = _
        rw [hin', HN.out, List.take_length]
        unfold Fb.aft
        rw [if_neg (by decide), if_pos rfl, HZ.out, Int.toNat_natCast, List.eraseIdx_eq_take_drop_succ]
      subst hin'
      go_wp2_with fail
      go_ret
      refine ⟨ad, m, c, rfl, ?_, HG1.out.below.trans ((HG2.out.below.trans (HB.out.mono (HG2.out.below.size))).mono (HG1.out.below.size))⟩
      have := HO.out.okRds (fun b hb => .inr (by have := HG1.out.below.size; have := HG2.out.below.size; omega))
      rw [HF.out] at this
      exact this.mono fun b hb => hb.imp (fun h => h.1) id
set_option maxHeartbeats 1600000 in
set_option maxRecDepth 20000 in
theorem rAfter3_any (ok ok2 : Nat → Prop) (v : Value) (L : List Rl) (x : RC) (r : Rl) (w : World) (hr : RdsR ok w v L) (hx : RdC ok2 w x r) (hL : L.length ≤ 4096) (hk : 0 ≤ Fb.keyI L r.p r.m) :
    Calls Tryz.prog 37 #[v, .agg #[.int .i64 3, .int .i64 x.p, .string x.m, .int .i64 x.k, .slice x.a x.n x.c]] w fun e w' => ∃ ad n c, e = .returned (.slice ad n c) ∧ RdsR (fun b => ok b ∨ w.heap.size ≤ b) w' (.slice ad n c) (Fb.aft L 3 r) ∧ Below w.heap.size w w' := by
  obtain ⟨z, hz⟩ : ∃ z, Fb.keyI L r.p r.m = z := ⟨_, rfl⟩
  have HZ := Lib.hid hz
  have HIs := Fb.keyI_is L r.p r.m
  rw [hz] at HIs hk
  have hxp := hx.p
  have hxm := hx.m
  rw [← hxp, ← hxm] at HIs
  obtain ⟨W1, hW1⟩ : ∃ W1, W1 = w.alloc (.cells #[.int .i64 3, .int .i64 x.p, .string x.m, .int .i64 x.k, .slice x.a x.n x.c] 49) := ⟨_, rfl⟩
  have hg1 : Grn w W1 := by rw [hW1]; exact (Grn.refl w).alloc _
  have hs1 : W1.heap.size = w.heap.size + 1 := by rw [hW1]; simp
  have hh1 : W1.heap[w.heap.size]? = some (.cells #[.int .i64 3, .int .i64 x.p, .string x.m, .int .i64 x.k, .slice x.a x.n x.c] 49 (0, 0)) := by rw [hW1]; exact heap_alloc_new _ _
  have hr1 := hr.lt.below hg1.below
  have HAt := Lib.hid (at_any _ v L x W1 hr1 z HIs)
  obtain ⟨i0, hi0, hzi⟩ : ∃ i, ∃ h : i < L.length, z = (i : Int) := by
    rcases HIs.is with ⟨h1, _⟩ | ⟨i, h1, h2, _⟩
    · omega
    · exact ⟨i, h1, h2⟩
  subst hzi
  have HR1 := Lib.hid hr1
  have HH1 := Lib.hid hh1
  have HG1 := Lib.hid hg1
  obtain ⟨n, hn⟩ : ∃ n, n = L.length := ⟨_, rfl⟩
  have HN := Lib.hid hn
  rw [← hn] at hL hi0
  obtain ⟨adv, capv, rfl, hvc, hvm⟩ := hr.form
  rw [← hn] at HR1 hvc HAt ⊢
  unfold maxLen at hvm
  have c0 : W1.cell? ⟨w.heap.size, 0, none⟩ = some (.int .i64 3) := by simp [World.cell?, hh1]
  have c1 : W1.cell? ⟨w.heap.size, 1, none⟩ = some (.int .i64 x.p) := by simp [World.cell?, hh1]
  have c2 : W1.cell? ⟨w.heap.size, 2, none⟩ = some (.string x.m) := by simp [World.cell?, hh1]
  have c3 : W1.cell? ⟨w.heap.size, 3, none⟩ = some (.int .i64 x.k) := by simp [World.cell?, hh1]
  have c4 : W1.cell? ⟨w.heap.size, 4, none⟩ = some (.slice x.a x.n x.c) := by simp [World.cell?, hh1]
  have HS1 := Lib.hid hs1
  have HW1 := Lib.hid hW1
  have HKz := Lib.hid hk
  have HX := Lib.hid (hx.below hg1.below)
  have HKey : Hid (∀ h : i0 < L.length, L[i0].p = x.p ∧ L[i0].m = x.m) := fun h => by
    rcases HIs.is with ⟨h1, _⟩ | ⟨j, h1, h2, h3, _⟩
    · omega
    · have : i0 = j := by omega
      subst this
      exact Fb.keyB_true.1 h3
  clear hr hx hn hz hg1 hh1 hr1 HIs hs1 hxp hxm hW1
  go_enter Tryz.func37, Tryz.ntmps37
  go_upto_region 1 with fail
  rw [← HW1.out]
  clear HW1
  go_wp2_with fail
  refine HAt.out.mono ?_
  rintro e W2 ⟨rfl, hg2⟩
  have d0 := (hg2.below.cell (p := ⟨w.heap.size, 0, none⟩) (cell_lt c0)).trans c0
  have HD0 := Lib.hid d0
  have HHd := Lib.hid ((hg2.below.block _ (by have := HS1.out; omega)).trans HH1.out)
  have HR2 := Lib.hid (HR1.out.below hg2.below)
  have HG2 := Lib.hid hg2
  have hs2 : w.heap.size < W2.heap.size := by have := hg2.below.size; have := HS1.out; omega
  clear hg2 c0 c1 c2 c3 c4 HAt
  go_wp2_with fail
  go_loopw [5, 7] (fun s5 s7 wr => ∃ (i m : Nat) (ad : Option Addr) (c : Nat) (xs : List RC), s7 = .int .i64 i ∧ s5 = .slice ad m c ∧ i ≤ n ∧ Hid (m = ((L.set i0 r).take i).length) ∧ Hid (m ≤ i) ∧
    Hid (OwnR (okP (fun b => (ok b ∧ b < w.heap.size) ∨ w.heap.size ≤ b) (.slice ad m c)) wr W2.heap.size (.slice ad m c) xs ((L.set i0 r).take i)) ∧ Hid (Below W2.heap.size W2 wr)) (fun _ s7 _ => n - (intOf s7).toNat)
  case atStart => exact ⟨0, 0, none, 0, [], rfl, rfl, Nat.zero_le _, by show _ = _; simp, by show _ ≤ _; omega, by show OwnR _ _ _ _ _ _; simp only [List.take_zero]; exact ownR_nil _ _ _, Below.refl _ _⟩
  case round =>
    obtain ⟨wo, rfl⟩ : ∃ wo : World, wo = wr := ⟨wr, rfl⟩
    obtain ⟨i, m, ad, c, xs, rfl, rfl, hin, HM, HMi, HO, HB⟩ := hrel
    by_cases hlt : i < n
    · have hiL : i < L.length := by rw [← HN.out]; exact hlt
      obtain ⟨b, off, u, rfl, hb, _, x0, x1, x2, x3, hu⟩ := HR2.out.get i hiL
      have X0 := (HB.out.cell (p := ⟨b, off + i * 4, none⟩) hb).trans x0
      have X1 := (HB.out.cell (p := ⟨b, off + i * 4 + 1, none⟩) hb).trans x1
      have X2 := (HB.out.cell (p := ⟨b, off + i * 4 + 2, none⟩) hb).trans x2
      have X3 := (HB.out.cell (p := ⟨b, off + i * 4 + 3, none⟩) hb).trans x3
      have D0 := (HB.out.cell (p := ⟨w.heap.size, 0, none⟩) hs2).trans HD0.out
      obtain ⟨W3, hW3⟩ : ∃ W3, W3 = wo.alloc (.cells #[.int .i64 u.p, .string u.m, .int .i64 u.k, .slice u.a u.n u.c] 47) := ⟨_, rfl⟩
      have hb3 : Below wo.heap.size wo W3 := by rw [hW3]; exact (Below.refl _ _).alloc (Nat.le_refl _) _
      have hs3 : W3.heap.size = wo.heap.size + 1 := by rw [hW3]; simp
      have hh3 : W3.heap[wo.heap.size]? = some (.cells #[.int .i64 u.p, .string u.m, .int .i64 u.k, .slice u.a u.n u.c] 47 (0, 0)) := by rw [hW3]; exact heap_alloc_new _ _
      have D3 := (hb3.cell (p := ⟨w.heap.size, 0, none⟩) (cell_lt D0)).trans D0
      have q0 : W3.cell? ⟨wo.heap.size, 0, none⟩ = some (.int .i64 u.p) := by simp [World.cell?, hh3]
      have q1 : W3.cell? ⟨wo.heap.size, 1, none⟩ = some (.string u.m) := by simp [World.cell?, hh3]
      have q2 : W3.cell? ⟨wo.heap.size, 2, none⟩ = some (.int .i64 u.k) := by simp [World.cell?, hh3]
      have q3 : W3.cell? ⟨wo.heap.size, 3, none⟩ = some (.slice u.a u.n u.c) := by simp [World.cell?, hh3]
      have hB4 : Below wo.heap.size wo (W3.alloc (.cells #[.int .i64 u.p, .string u.m, .int .i64 u.k, .slice u.a u.n u.c] 47)) := hb3.alloc hb3.size _
      have HOw := Lib.hid (HO.out.below hB4)
      have HB4 := Lib.hid hB4
      have hBsz := HB.out.size
      have HYr : Hid (RdC (okP (fun b => (ok b ∧ b < w.heap.size) ∨ w.heap.size ≤ b) (.slice ad m c)) (W3.alloc (.cells #[.int .i64 u.p, .string u.m, .int .i64 u.k, .slice u.a u.n u.c] 47)) u L[i]) := by
        refine ((hu.below HB.out).below (hB4.mono (by omega))).mono fun b hb => ⟨.inl hb, fun e => ?_⟩
        have := (HO.out.row.lt b e).1
        have := hb.2
        omega
      have HS3 := Lib.hid hs3
      have HU : Hid (u.p = L[i].p ∧ u.m = L[i].m) := ⟨hu.p, hu.m⟩
      have HW3 := Lib.hid hW3
      have HB3 := Lib.hid hb3
      have HH3 := Lib.hid hh3
      clear x0 x1 x2 x3 hu hW3 hb3 hh3 hB4 hs3
      go_upto_region 10 with fail
      rw [← HW3.out]
      clear HW3 X0 X1 X2 X3 D0
      by_cases hii : i = i0
      · subst hii
        have HE := set_step L i i r hiL
        rw [if_pos rfl] at HE
        have HE := Lib.hid HE
        have e1 : (((i : Nat) : Int) == (i : Int)) = true := by simp
        have hxb : Below W1.heap.size W1 W3 := HG2.out.below.trans ((HB.out.trans (HB3.out.mono hBsz)).mono HG2.out.below.size)
        have hh0 := (HB3.out.block _ (by omega)).trans ((HB.out.block _ hs2).trans HHd.out)
        have D1 : W3.cell? ⟨w.heap.size, 1, none⟩ = some (.int .i64 x.p) := by simp [World.cell?, hh0]
        have D2 : W3.cell? ⟨w.heap.size, 2, none⟩ = some (.string x.m) := by simp [World.cell?, hh0]
        have D4 : W3.cell? ⟨w.heap.size, 3, none⟩ = some (.int .i64 x.k) := by simp [World.cell?, hh0]
        have D5 : W3.cell? ⟨w.heap.size, 4, none⟩ = some (.slice x.a x.n x.c) := by simp [World.cell?, hh0]
        have HCp := Lib.hid (rCopy_any ok2 x r W3 (HX.out.below hxb))
        clear hxb hh0
        have hsz3 := HS3.out
        go_wp2_with fail
        refine HCp.out.mono ?_
        rintro e W5 ⟨y, rfl, hy, hb5⟩
        have hs5 := hb5.size
        have hh5 := (hb5.block wo.heap.size (by omega)).trans HH3.out
        have hfd := fun W => run_field_action y.p y.k y.m y.a y.n y.c W
        have p0 : W5.cell? ⟨wo.heap.size, 0, none⟩ = some (.int .i64 u.p) := by simp [World.cell?, hh5]
        have p1 : W5.cell? ⟨wo.heap.size, 1, none⟩ = some (.string u.m) := by simp [World.cell?, hh5]
        have p2 : W5.cell? ⟨wo.heap.size, 2, none⟩ = some (.int .i64 u.k) := by simp [World.cell?, hh5]
        have p3 : W5.cell? ⟨wo.heap.size, 3, none⟩ = some (.slice u.a u.n u.c) := by simp [World.cell?, hh5]
        have f2 : W5.frozen? ⟨wo.heap.size, 2, none⟩ = false := by simp [World.frozen?, hh5]
        have f3 : W5.frozen? ⟨wo.heap.size, 3, none⟩ = false := by simp [World.frozen?, hh5]
        obtain ⟨W6, hW6⟩ : ∃ W6, W6 = (W5.setCell ⟨wo.heap.size, 2, none⟩ (.int .i64 y.k)).setCell ⟨wo.heap.size, 3, none⟩ (.slice y.a y.n y.c) := ⟨_, rfl⟩
        have hb6 : Below wo.heap.size wo W6 := by
          rw [hW6]
          exact ((HB3.out.trans (hb5.mono (by omega))).setCell (p := ⟨wo.heap.size, 2, none⟩) (Nat.le_refl _) _).setCell (p := ⟨wo.heap.size, 3, none⟩) (Nat.le_refl _) _
        have hbt6 : But (fun b => b = wo.heap.size) W5 W6 := by
          rw [hW6]
          exact (But.set (S := fun b => b = wo.heap.size) (a := ⟨wo.heap.size, 2, none⟩) rfl _).trans (But.set (S := fun b => b = wo.heap.size) (a := ⟨wo.heap.size, 3, none⟩) rfl _)
        have g0 : W6.cell? ⟨wo.heap.size, 0, none⟩ = some (.int .i64 u.p) := by rw [hW6]; exact (cell_set_other _ (by simp)).trans ((cell_set_other _ (by simp)).trans p0)
        have g1 : W6.cell? ⟨wo.heap.size, 1, none⟩ = some (.string u.m) := by rw [hW6]; exact (cell_set_other _ (by simp)).trans ((cell_set_other _ (by simp)).trans p1)
        have g2 : W6.cell? ⟨wo.heap.size, 2, none⟩ = some (.int .i64 y.k) := by rw [hW6]; exact (cell_set_other _ (by simp)).trans (cell_set_same _ p2)
        have g3 : W6.cell? ⟨wo.heap.size, 3, none⟩ = some (.slice y.a y.n y.c) := by rw [hW6]; exact cell_set_same _ ((cell_set_other _ (by simp)).trans p3)
        have hB7 : Below wo.heap.size wo (W6.alloc (.cells #[.int .i64 u.p, .string u.m, .int .i64 y.k, .slice y.a y.n y.c] 47)) := hb6.alloc hb6.size _
        have HOw6 := Lib.hid (HO.out.below hB7)
        have HB7 := Lib.hid hB7
        have HY : Hid (RdC (okP (fun b => (ok b ∧ b < w.heap.size) ∨ w.heap.size ≤ b) (.slice ad m c)) (W6.alloc (.cells #[.int .i64 u.p, .string u.m, .int .i64 y.k, .slice y.a y.n y.c] 47)) ⟨u.p, u.m, y.k, y.a, y.n, y.c⟩ r) := by
          have hkey := HKey.out hiL
          refine ⟨?_, ?_, hy.k, ?_, hy.z⟩
          · show u.p = r.p; rw [HU.out.1, hkey.1]; exact HX.out.p
          · show u.m = r.m; rw [HU.out.2, hkey.2]; exact HX.out.m
          · refine ((hy.s.but hbt6 (fun b hb e => by omega)).below ((Below.refl _ _).alloc (Nat.le_refl _) _)).mono fun b hb => ⟨.inr (by omega), fun e => ?_⟩
            have := (HO.out.row.lt b e).2
            omega
        have HOl : Hid (((L.set i r).take i).length = m) := HM.out.symm
        have HMi' := HMi.out
        have HW6 := Lib.hid hW6
        clear hW6 hb6 hbt6 hy hh5 hB7 hb5 D1 D2 D4 D5
        go_upto_region 13 with fail
        rw [← HW6.out]
        clear p0 p1 p2 p3 f2 f3 HW6
        go_wp2_with (at_builtin; go_loud (refine wpList_plain rfl (fun _ hK => wp_app_oneK (fun b => (ok b ∧ b < w.heap.size) ∨ w.heap.size ≤ b) (.tmp 52) (.tmp 54) rfl W2.heap.size _ xs _ (by rfl) HOw6.out W6.heap.size 1 ⟨u.p, u.m, y.k, y.a, y.n, y.c⟩ r (by rfl) (heap_alloc_new _ _) HY.out (m + 1) (by rw [HOl.out]) (by omega) (by have := HB7.out.size; omega) (fun ad4 c4 w4 ho4 hg4 => hK _ _ ?_))); have HO4 := Lib.hid ho4; have HG4 := Lib.hid hg4; clear ho4 hg4)
        have HBw4 : Hid (Below W2.heap.size W2 w4) := (HB.out.trans (HB7.out.mono hBsz)).grown HG4.out (by have := HB7.out.size; omega) (fun k hk => by have := (HO.out.row.lt k hk).1; omega)
        rw [← HE.out] at HO4
        go_roundw
        case rel => exact ⟨i + 1, m + 1, ad4, c4, _, by first | rfl | go_num, rfl, by omega, by show _ = _; rw [HE.out, List.length_append, ← HM.out]; rfl, by show _ ≤ _; omega, HO4, HBw4⟩
        case measure => simp [intOf]; omega
      · have HE := set_step L i0 i r hiL
        rw [if_neg hii] at HE
        have HE := Lib.hid HE
        have e1 : (((i : Nat) : Int) == (i0 : Int)) = false := by simp; omega
        have HOl : Hid (((L.set i0 r).take i).length = m) := HM.out.symm
        have HMi' := HMi.out
        go_wp2_with (at_builtin; go_loud (refine wpList_plain rfl (fun _ hK => wp_app_oneK (fun b => (ok b ∧ b < w.heap.size) ∨ w.heap.size ≤ b) (.tmp 52) (.tmp 54) rfl W2.heap.size _ xs _ (by rfl) HOw.out W3.heap.size 1 u L[i] (by rfl) (heap_alloc_new _ _) HYr.out (m + 1) (by rw [HOl.out]) (by omega) (by have := HB4.out.size; omega) (fun ad4 c4 w4 ho4 hg4 => hK _ _ ?_))); have HO4 := Lib.hid ho4; have HG4 := Lib.hid hg4; clear ho4 hg4)
        have HBw4 : Hid (Below W2.heap.size W2 w4) := (HB.out.trans (HB4.out.mono hBsz)).grown HG4.out (by have := HB4.out.size; omega) (fun k hk => by have := (HO.out.row.lt k hk).1; omega)
        rw [← HE.out] at HO4
        go_roundw
        case rel => exact ⟨i + 1, m + 1, ad4, c4, _, by first | rfl | go_num, rfl, by omega, by show _ = _; rw [HE.out, List.length_append, ← HM.out]; rfl, by show _ ≤ _; omega, HO4, HBw4⟩
        case measure => simp [intOf]; omega
    · have hin' : i = n := by omega
      have HF : Hid ((L.set i0 r).take i = Fb.aft L 3 r) := by
        show _ = _
        rw [List.take_of_length_le (by rw [List.length_set, hin', HN.out]; exact Nat.le_refl _)]
        unfold Fb.aft
        rw [if_neg (by decide), if_neg (by decide), HZ.out, Int.toNat_natCast]
      subst hin'
      go_wp2_with fail
      go_ret
      refine ⟨ad, m, c, rfl, ?_, HG1.out.below.trans ((HG2.out.below.trans (HB.out.mono (HG2.out.below.size))).mono (HG1.out.below.size))⟩
      have := HO.out.okRds (fun b hb => .inr (by have := HG1.out.below.size; have := HG2.out.below.size; omega))
      rw [HF.out] at this
      exact this.mono fun b hb => hb.imp (fun h => h.1) id
set_option maxHeartbeats 1600000 in
set_option maxRecDepth 20000 in
theorem rAfter1_any (ok ok2 : Nat → Prop) (v : Value) (L : List Rl) (x : RC) (r : Rl) (w : World) (hr : RdsR ok w v L) (hx : RdC ok2 w x r) (hL : L.length ≤ 4096) :
    Calls Tryz.prog 37 #[v, .agg #[.int .i64 1, .int .i64 x.p, .string x.m, .int .i64 x.k, .slice x.a x.n x.c]] w fun e w' => ∃ ad n c, e = .returned (.slice ad n c) ∧ RdsR (fun b => ok b ∨ w.heap.size ≤ b) w' (.slice ad n c) (Fb.aft L 1 r) ∧ Below w.heap.size w w' := by
  obtain ⟨W1, hW1⟩ : ∃ W1, W1 = w.alloc (.cells #[.int .i64 1, .int .i64 x.p, .string x.m, .int .i64 x.k, .slice x.a x.n x.c] 49) := ⟨_, rfl⟩
  have hg1 : Grn w W1 := by rw [hW1]; exact (Grn.refl w).alloc _
  have hs1 : W1.heap.size = w.heap.size + 1 := by rw [hW1]; simp
  have hh1 : W1.heap[w.heap.size]? = some (.cells #[.int .i64 1, .int .i64 x.p, .string x.m, .int .i64 x.k, .slice x.a x.n x.c] 49 (0, 0)) := by rw [hW1]; exact heap_alloc_new _ _
  have HR1 := Lib.hid (hr.lt.below hg1.below)
  have HX1 := Lib.hid (hx.below hg1.below)
  have HH1 := Lib.hid hh1
  have HG1 := Lib.hid hg1
  have HS1 := Lib.hid hs1
  have HW1 := Lib.hid hW1
  obtain ⟨n, hn⟩ : ∃ n, n = L.length := ⟨_, rfl⟩
  have HN := Lib.hid hn
  rw [← hn] at hL
  obtain ⟨adv, capv, rfl, hvc, hvm⟩ := hr.form
  rw [← hn] at HR1 hvc ⊢
  unfold maxLen at hvm
  have c0 : W1.cell? ⟨w.heap.size, 0, none⟩ = some (.int .i64 1) := by simp [World.cell?, hh1]
  clear hr hx hn hg1 hh1 hs1 hW1
  go_enter Tryz.func37, Tryz.ntmps37
  go_upto_region 1 with fail
  rw [← HW1.out]
  clear HW1
  go_upto_region 3 with fail
  clear c0
  go_upto_region 4 with (at_builtin; go_loud (refine wpList_plain rfl (fun _ hK => wp_app_rules (.tmp 12) (.tmp 13) rfl w.heap.size (fun b => ok b ∧ b < w.heap.size) (fun b => ok b ∧ b < w.heap.size) _ [] [] (by rfl) (ownR_nil _ _ _) _ L (by rfl) HR1.out (fun b h => h) (fun b _ h => by simp [Value.ownBlock] at h) n (by rw [HN.out]; simp) (by omega) (by rw [HS1.out]; omega) (fun ad2 c2 w2 ys ho2 hg2 => hK _ _ ?_))); have HO2 := Lib.hid ho2; have HG2 := Lib.hid hg2; clear ho2 hg2)
  have hb2 : Below W1.heap.size W1 w2 := (Below.refl _ W1).grown HG2.out (Nat.le_refl _) (fun k hk => by simp [Value.ownBlock] at hk)
  have hh2 := (hb2.block _ (by have := HS1.out; omega)).trans HH1.out
  have d1 : w2.cell? ⟨w.heap.size, 1, none⟩ = some (.int .i64 x.p) := by simp [World.cell?, hh2]
  have d2 : w2.cell? ⟨w.heap.size, 2, none⟩ = some (.string x.m) := by simp [World.cell?, hh2]
  have d3 : w2.cell? ⟨w.heap.size, 3, none⟩ = some (.int .i64 x.k) := by simp [World.cell?, hh2]
  have d4 : w2.cell? ⟨w.heap.size, 4, none⟩ = some (.slice x.a x.n x.c) := by simp [World.cell?, hh2]
  have HCp := Lib.hid (rCopy_any ok2 x r w2 (HX1.out.below hb2))
  have HB2 := Lib.hid hb2
  clear hb2 hh2
  go_wp2_with fail
  refine HCp.out.mono ?_
  rintro e W5 ⟨y, rfl, hy, hb5⟩
  have hs5 := hb5.size
  have hs2 := HB2.out.size
  have hsz1 := HS1.out
  have hB6 : Below w2.heap.size w2 (W5.alloc (.cells #[.int .i64 y.p, .string y.m, .int .i64 y.k, .slice y.a y.n y.c] 47)) := hb5.alloc hs5 _
  have HOw := Lib.hid (((HO2.out.below hB6).mono (ok' := okP (fun b => (ok b ∧ b < w.heap.size) ∨ w.heap.size ≤ b) (.slice ad2 n c2)) fun b hb => ⟨.inl hb, fun e => by have := (HO2.out.row.lt b e).1; omega⟩))
  have HY : Hid (RdC (okP (fun b => (ok b ∧ b < w.heap.size) ∨ w.heap.size ≤ b) (.slice ad2 n c2)) (W5.alloc (.cells #[.int .i64 y.p, .string y.m, .int .i64 y.k, .slice y.a y.n y.c] 47)) y r) := by
    refine (hy.below ((Below.refl _ _).alloc (Nat.le_refl _) _)).mono fun b hb => ⟨.inr (by omega), fun e => ?_⟩
    have := (HO2.out.row.lt b e).2
    omega
  have HB6 := Lib.hid hB6
  have HLl : Hid (([] ++ L : List Rl).length + 1 = n + 1) := by show _ = _; rw [HN.out]; simp
  clear hy hb5 hB6 d1 d2 d3 d4
  go_wp2_with (at_builtin; go_loud (refine wpList_plain rfl (fun _ hK => wp_app_oneK (fun b => (ok b ∧ b < w.heap.size) ∨ w.heap.size ≤ b) (.tmp 15) (.tmp 19) rfl w.heap.size _ ([] ++ ys) ([] ++ L) (by rfl) HOw.out W5.heap.size 1 y r (by rfl) (heap_alloc_new _ _) HY.out (n + 1) HLl.out (by omega) (by have := HB6.out.size; omega) (fun ad7 c7 w7 ho7 hg7 => hK _ _ ?_))); have HO7 := Lib.hid ho7; have HG7 := Lib.hid hg7; clear ho7 hg7)
  have hb7 : Below w.heap.size w w7 := (HG1.out.below.trans (((HB2.out.trans (HB6.out.mono hs2))).mono HG1.out.below.size)).grown HG7.out (by have := HB6.out.size; omega) (fun k hk => (HO2.out.row.lt k hk).1)
  have HB7 := Lib.hid hb7
  have hrd := HO7.out.okRds (fun b hb => .inr hb)
  rw [List.nil_append] at hrd
  refine (rOrder_rules _ _ (L ++ [r]) w7 hrd (by rw [List.length_append, ← HN.out]; simp; omega)).mono ?_
  rintro e w8 ⟨v8, rfl, hr8, hb8⟩
  obtain ⟨ad8, c8, rfl, _⟩ := hr8.form
  have HR8 := Lib.hid hr8
  have HB8 := Lib.hid hb8
  clear hr8 hb8 hb7 hrd
  go_wp2_with fail
  go_ret
  refine ⟨ad8, _, c8, rfl, ?_, HB7.out.trans (HB8.out.mono HB7.out.size)⟩
  refine HR8.out.mono fun b hb => ?_
  rcases hb with h | ⟨h | h, _⟩
  · exact .inr (Nat.le_trans HB7.out.size h)
  · exact .inl h.1
  · exact .inr h
/-- After, at every change that may be. -/
theorem rAfter_any (ok ok2 : Nat → Prop) (v : Value) (L : List Rl) (width kind : Int) (x : RC) (r : Rl) (w : World) (hr : RdsR ok w v L) (hx : RdC ok2 w x r) (hL : L.length ≤ 4096) (hq : Fb.mayI L width kind r = 0) :
    Calls Tryz.prog 37 #[v, .agg #[.int .i64 kind, .int .i64 x.p, .string x.m, .int .i64 x.k, .slice x.a x.n x.c]] w fun e w' => ∃ ad n c, e = .returned (.slice ad n c) ∧ RdsR (fun b => ok b ∨ w.heap.size ≤ b) w' (.slice ad n c) (Fb.aft L kind r) ∧ Below w.heap.size w w' := by
  have hg := (Fb.mayI_good.1 hq).1
  have h1 := hg.k1
  have h3 := hg.k3
  simp only at h1 h3
  rcases (show kind = 1 ∨ kind = 2 ∨ kind = 3 by omega) with rfl | rfl | rfl
  · exact rAfter1_any ok ok2 v L x r w hr hx hL
  · exact rAfter2_any ok ok2 v L x r w hr hx hL (Fb.keyI_some (hg.oth (show ¬ (2 : Int) = 1 by decide)))
  · exact rAfter3_any ok ok2 v L x r w hr hx hL (Fb.keyI_some (hg.oth (show ¬ (3 : Int) = 1 by decide)))
/-- A table in block tb: its rules' slice v at one cell, its width at another one. -/
structure Tab (vo wo : Nat) (ok : Nat → Prop) (w : World) (tb : Nat) (v : Value) (L : List Rl) (W : Int) : Prop where
  c0 : w.cell? ⟨tb, vo, none⟩ = some v
  c1 : w.cell? ⟨tb, wo, none⟩ = some (.int .i64 W)
  f0 : w.frozen? ⟨tb, vo, none⟩ = false
  rd : RdsR ok w v L
  no : ∀ b, ok b → b ≠ tb
  lo : 1 ≤ W
  hi : W ≤ 128
theorem Tab.lt {vo wo : Nat} {ok : Nat → Prop} {w : World} {tb : Nat} {v : Value} {L : List Rl} {W : Int} (h : Tab vo wo ok w tb v L W) : tb < w.heap.size := by
  have hc := h.c0
  rcases Nat.lt_or_ge tb w.heap.size with h1 | h1
  · exact h1
  · unfold World.cell? at hc
    rw [Array.getElem?_eq_none h1] at hc
    cases hc
theorem Tab.but {vo wo : Nat} {ok S : Nat → Prop} {w w' : World} {tb : Nat} {v : Value} {L : List Rl} {W : Int} (h : Tab vo wo ok w tb v L W) (hb : But S w w') (hn : ¬ S tb) (hs : ∀ b, ok b → ¬ S b) : Tab vo wo ok w' tb v L W :=
  ⟨(hb.cell (p := ⟨tb, vo, none⟩) h.lt hn).trans h.c0, (hb.cell (p := ⟨tb, wo, none⟩) h.lt hn).trans h.c1, (hb.frozen (p := ⟨tb, vo, none⟩) h.lt hn).trans h.f0, h.rd.but hb hs, h.no, h.lo, h.hi⟩
theorem Tab.below {vo wo : Nat} {ok : Nat → Prop} {w w' : World} {tb : Nat} {v : Value} {L : List Rl} {W : Int} (h : Tab vo wo ok w tb v L W) (hb : Below w.heap.size w w') : Tab vo wo ok w' tb v L W :=
  h.but (S := fun _ => False) (But.below hb) (fun h => h) (fun _ _ h => h)
theorem Tab.mono {vo wo : Nat} {ok ok' : Nat → Prop} {w : World} {tb : Nat} {v : Value} {L : List Rl} {W : Int} (h : Tab vo wo ok w tb v L W) (hk : ∀ b, ok b → ok' b) (hn : ∀ b, ok' b → b ≠ tb) : Tab vo wo ok' w tb v L W :=
  ⟨h.c0, h.c1, h.f0, h.rd.mono hk, hn, h.lo, h.hi⟩
set_option maxHeartbeats 800000 in
set_option maxRecDepth 20000 in
theorem new_ok (W : Int) (w : World) (h1 : 1 ≤ W) (h2 : W ≤ 128) :
    Calls Tryz.prog 9 #[.int .i64 W] w fun e w' => e = .returned (.tuple #[.pointer (some ⟨w.heap.size, 0, none⟩), .int .i64 0]) ∧ w' = w.alloc (.cells #[.slice none 0 0, .int .i64 W] 53) := by
  go_enter Tryz.func9, Tryz.ntmps9
  go_wp2_with fail
  go_ret2
  exact ⟨rfl, rfl⟩
set_option maxHeartbeats 800000 in
set_option maxRecDepth 20000 in
theorem new_bad (W : Int) (w : World) (h : W < 1 ∨ W > 128) :
    Calls Tryz.prog 9 #[.int .i64 W] w fun e w' => e = .returned (.tuple #[.pointer none, .int .i64 1]) ∧ w' = w := by
  rcases h with h | h
  · go_enter Tryz.func9, Tryz.ntmps9
    go_wp2_with fail
    go_ret2
    exact ⟨rfl, rfl⟩
  · have h1 : ¬ W < 1 := by omega
    go_enter Tryz.func9, Tryz.ntmps9
    go_wp2_with fail
    go_ret2
    exact ⟨rfl, rfl⟩
set_option maxHeartbeats 800000 in
set_option maxRecDepth 20000 in
theorem rNew_ok (W : Int) (w : World) (h1 : 1 ≤ W) (h2 : W ≤ 128) :
    Calls Tryz.prog 21 #[.int .i64 W] w fun e w' => e = .returned (.tuple #[.pointer (some ⟨w.heap.size, 0, none⟩), .int .i64 0]) ∧ w' = w.alloc (.cells #[.int .i64 W, .slice none 0 0] 39) := by
  go_enter Tryz.func21, Tryz.ntmps21
  go_wp2_with fail
  go_ret2
  exact ⟨rfl, rfl⟩
set_option maxHeartbeats 800000 in
set_option maxRecDepth 20000 in
theorem rNew_bad (W : Int) (w : World) (h : W < 1 ∨ W > 128) :
    Calls Tryz.prog 21 #[.int .i64 W] w fun e w' => e = .returned (.tuple #[.pointer none, .int .i64 1]) ∧ w' = w := by
  rcases h with h | h
  · go_enter Tryz.func21, Tryz.ntmps21
    go_wp2_with fail
    go_ret2
    exact ⟨rfl, rfl⟩
  · have h1 : ¬ W < 1 := by omega
    go_enter Tryz.func21, Tryz.ntmps21
    go_wp2_with fail
    go_ret2
    exact ⟨rfl, rfl⟩
theorem tab_new (w : World) (W : Int) (h1 : 1 ≤ W) (h2 : W ≤ 128) : Tab 0 1 (fun _ => False) (w.alloc (.cells #[.slice none 0 0, .int .i64 W] 53)) w.heap.size (.slice none 0 0) [] W :=
  ⟨by simp [go_sem], by simp [go_sem], by simp [go_sem], rdsR_nil _ _, fun _ h => h.elim, h1, h2⟩
theorem rtab_new (w : World) (W : Int) (h1 : 1 ≤ W) (h2 : W ≤ 128) : Tab 1 0 (fun _ => False) (w.alloc (.cells #[.int .i64 W, .slice none 0 0] 39)) w.heap.size (.slice none 0 0) [] W :=
  ⟨by simp [go_sem], by simp [go_sem], by simp [go_sem], rdsR_nil _ _, fun _ h => h.elim, h1, h2⟩
set_option maxHeartbeats 800000 in
set_option maxRecDepth 20000 in
theorem is_tab {ok : Nat → Prop} {w : World} {tb : Nat} {v : Value} {L : List Rl} {W : Int} (h : Tab 0 1 ok w tb v L W) :
    Calls Tryz.prog 23 #[.pointer (some ⟨tb, 0, none⟩)] w fun e w' => e = .returned (.bool true) ∧ w = w' := by
  have c1 := h.c1
  have hW : W > 0 := by have := h.lo; omega
  clear h
  go_enter Tryz.func23, Tryz.ntmps23
  go_wp2_with fail
  go_ret
  exact ⟨rfl, rfl⟩
set_option maxHeartbeats 800000 in
set_option maxRecDepth 20000 in
theorem len_tab {ok : Nat → Prop} {w : World} {tb : Nat} {v : Value} {L : List Rl} {W : Int} (h : Tab 0 1 ok w tb v L W) :
    Calls Tryz.prog 20 #[.pointer (some ⟨tb, 0, none⟩)] w fun e w' => e = .returned (.int .i64 L.length) ∧ w = w' := by
  have HI := Lib.hid (is_tab h)
  obtain ⟨ad, cap, rfl, _, _⟩ := h.rd.form
  have c0 := h.c0
  clear h
  go_enter Tryz.func20, Tryz.ntmps20
  go_wp2_with fail
  refine HI.out.mono ?_
  rintro e w1 ⟨rfl, rfl⟩
  go_wp2_with fail
  go_ret
  exact ⟨rfl, rfl⟩
set_option maxHeartbeats 800000 in
set_option maxRecDepth 20000 in
theorem rules_tab {ok : Nat → Prop} {w : World} {tb : Nat} {v : Value} {L : List Rl} {W : Int} (h : Tab 0 1 ok w tb v L W) (hL : L.length ≤ 4096) :
    Calls Tryz.prog 12 #[.pointer (some ⟨tb, 0, none⟩)] w fun e w' => ∃ ad c, e = .returned (.slice ad L.length c) ∧ RdsR (fun b => w.heap.size ≤ b) w' (.slice ad L.length c) L ∧ Below w.heap.size w w' := by
  have HI := Lib.hid (is_tab h)
  have HC := Lib.hid (copied_any ok v L w h.rd (by omega))
  have c0 := h.c0
  clear h
  go_enter Tryz.func12, Tryz.ntmps12
  go_wp2_with fail
  refine HI.out.mono ?_
  rintro e w1 ⟨rfl, rfl⟩
  go_wp2_with fail
  refine HC.out.mono ?_
  rintro e w2 ⟨ad, c, rfl, hr, hb⟩
  have HR := Lib.hid hr
  have HB := Lib.hid hb
  clear hr hb
  go_wp2_with fail
  go_ret
  exact ⟨ad, c, rfl, HR.out, HB.out⟩
set_option maxHeartbeats 400000 in
set_option maxRecDepth 20000 in
theorem all1_idle (a b c : Addr) (w : World) :
    CallsD Tryz.prog 60 #[.pointer (some a), .pointer (some b), .pointer (some c)] .returning w fun e u' w' => e = .returned (.tuple #[]) ∧ u' = .returning ∧ w = w' := by
  refine callsD_of_wpS Tryz.func60 rfl fun c₀ cs hu => ?_
  simp only [Tryz.ntmps60, List.size_toArray, List.length_cons, List.length_nil, Nat.reduceAdd, Nat.reduceSub, Array.replicate_succ,
     Array.replicate_zero, List.push_toArray, List.append_toArray, List.nil_append, List.cons_append]
  apply wpS_seq
  apply wpS_region
  simp [wpOpsS, go_sem, recoverD, hu, Exit.thenS]
  have HU := Lib.hid hu
  clear hu
  apply wpS_of_wp
  generalize hQ : (fun e a' w' => bodyPostS _ _ _ _ _ e a' _ w') = Q
  have HQ := Lib.hid hQ
  clear hQ
  go_wp2_with fail
  rw [← HQ.out]
  exact ⟨rfl, _, by rw [← HU.out], .tuple #[], results_none rfl _ _ _, rfl, rfl, rfl⟩
theorem run_assert_errno (x : Int) (w : World) :
    (Instr.typeAssert (.iface 28 (.int .i64 x)) 20 28 true).run Tryz.prog w = .ok (.tuple #[.int .i64 x, .bool true]) w := by
  kernel_rfl
set_option maxHeartbeats 400000 in
set_option maxRecDepth 20000 in
theorem all1_catches (A B C : Nat) (w : World) (code : Int) (xa xb : Value) (xc : Int) (hAB : A < B) (hBC : B < C) (hCw : C < w.heap.size) (older : List PanicEntry) (a0 : w.cell? ⟨A, 0, none⟩ = some xa) (b0 : w.cell? ⟨B, 0, none⟩ = some xb) (c0 : w.cell? ⟨C, 0, none⟩ = some (.int .i64 xc)) (af : w.frozen? ⟨A, 0, none⟩ = false) (bf : w.frozen? ⟨B, 0, none⟩ = false) (cf : w.frozen? ⟨C, 0, none⟩ = false)
    (fa : ∃ p, xa = .pointer p) (fb : ∃ p n c, xb = .slice p n c) :
    CallsD Tryz.prog 60 #[.pointer (some ⟨A, 0, none⟩), .pointer (some ⟨B, 0, none⟩), .pointer (some ⟨C, 0, none⟩)] (.panicking ({ v := .iface 28 (.int .i64 code), recovered := false } :: older)) w fun e u' w' =>
      e = .returned (.tuple #[]) ∧ u' = .panicking ({ v := .iface 28 (.int .i64 code), recovered := true } :: older) ∧ Below A w w' ∧ w'.cell? ⟨A, 0, none⟩ = some (.pointer none) ∧ w'.cell? ⟨B, 0, none⟩ = some (.slice none 0 0) ∧ w'.cell? ⟨C, 0, none⟩ = some (.int .i64 code) := by
  obtain ⟨pa, rfl⟩ := fa
  obtain ⟨pb, nb, cb, rfl⟩ := fb
  have hta := run_assert_errno code w
  have h1 : ¬ A = B := by omega
  have h2 : ¬ A = C := by omega
  have h3 : ¬ B = C := by omega
  have h1' : ¬ B = A := by omega
  have h2' : ¬ C = A := by omega
  have h3' : ¬ C = B := by omega
  have HB : Hid (Below A w (((w.setCell ⟨A, 0, none⟩ (.pointer none)).setCell ⟨B, 0, none⟩ (.slice none 0 0)).setCell ⟨C, 0, none⟩ (.int .i64 code))) :=
    (((Below.refl A w).setCell (p := ⟨A, 0, none⟩) (Nat.le_refl _) _).setCell (p := ⟨B, 0, none⟩) (Nat.le_of_lt hAB) _).setCell (p := ⟨C, 0, none⟩) (by show A ≤ C; omega) _
  have n1 : (⟨B, 0, none⟩ : Addr) ≠ ⟨A, 0, none⟩ := fun e => h1' (congrArg Addr.block e)
  have n2 : (⟨C, 0, none⟩ : Addr) ≠ ⟨A, 0, none⟩ := fun e => h2' (congrArg Addr.block e)
  have n3 : (⟨C, 0, none⟩ : Addr) ≠ ⟨B, 0, none⟩ := fun e => h3' (congrArg Addr.block e)
  have n4 : (⟨A, 0, none⟩ : Addr) ≠ ⟨B, 0, none⟩ := fun e => h1 (congrArg Addr.block e)
  have n5 : (⟨A, 0, none⟩ : Addr) ≠ ⟨C, 0, none⟩ := fun e => h2 (congrArg Addr.block e)
  have n6 : (⟨B, 0, none⟩ : Addr) ≠ ⟨C, 0, none⟩ := fun e => h3 (congrArg Addr.block e)
  have HE : Hid ((((w.setCell ⟨A, 0, none⟩ (.pointer none)).setCell ⟨B, 0, none⟩ (.slice none 0 0)).setCell ⟨C, 0, none⟩ (.int .i64 code)).cell? ⟨A, 0, none⟩ = some (.pointer none) ∧ (((w.setCell ⟨A, 0, none⟩ (.pointer none)).setCell ⟨B, 0, none⟩ (.slice none 0 0)).setCell ⟨C, 0, none⟩ (.int .i64 code)).cell? ⟨B, 0, none⟩ = some (.slice none 0 0) ∧ (((w.setCell ⟨A, 0, none⟩ (.pointer none)).setCell ⟨B, 0, none⟩ (.slice none 0 0)).setCell ⟨C, 0, none⟩ (.int .i64 code)).cell? ⟨C, 0, none⟩ = some (.int .i64 code)) :=
    ⟨(cell_set_other _ n2).trans ((cell_set_other _ n1).trans (cell_set_same _ a0)), (cell_set_other _ n3).trans (cell_set_same _ ((cell_set_other _ n4).trans b0)), cell_set_same _ ((cell_set_other _ n6).trans ((cell_set_other _ n5).trans c0))⟩
  clear n1 n2 n3 n4 n5 n6
  refine callsD_of_wpS Tryz.func60 rfl fun c₀ cs hu => ?_
  simp only [Tryz.ntmps60, List.size_toArray, List.length_cons, List.length_nil, Nat.reduceAdd, Nat.reduceSub, Array.replicate_succ,
     Array.replicate_zero, List.push_toArray, List.append_toArray, List.nil_append, List.cons_append]
  apply wpS_seq
  apply wpS_region
  simp [wpOpsS, go_sem, recoverD, hu, Exit.thenS]
  have HU := Lib.hid hu
  clear hu
  apply wpS_of_wp
  generalize hQ : (fun e a' w' => bodyPostS _ _ _ _ _ e a' _ w') = Q
  have HQ := Lib.hid hQ
  clear hQ
  go_wp2_with fail
  rw [← HQ.out]
  exact ⟨rfl, _, rfl, .tuple #[], results_none rfl _ _ _, rfl, rfl, HB.out, HE.out⟩
/-- Behind a body that returned: nothing is recovered. -/
theorem all_ret {fn : Func} {tmps : Array Value} {R : Ending → World → Prop} {a b c : Addr} {W : World} (h : ∃ v, (results fn tmps).run Tryz.prog W = .ok v W ∧ R (.returned v) W) :
    Leaves Tryz.prog fn tmps R [{ target := .fn (.func 60) #[.pointer (some a), .pointer (some b), .pointer (some c)], args := #[] }] .returning W := by
  refine leaves_cons (f := 60) (args := #[.pointer (some a), .pointer (some b), .pointer (some c)]) (by simp) (by simp [go_sem]) ?_
  refine (all1_idle _ _ _ _).mono ?_
  rintro e u' w'' ⟨rfl, rfl, rfl⟩
  exact h
/-- Behind a body that gave up with a number: it is laid, the others are nothing. -/
theorem all_fault {fn : Func} {tmps : Array Value} {R : Ending → World → Prop} {A B C : Nat} {W : World} (code : Int) (xa xb : Value) (xc : Int) (hAB : A < B) (hBC : B < C) (hCw : C < W.heap.size) (a0 : W.cell? ⟨A, 0, none⟩ = some xa) (b0 : W.cell? ⟨B, 0, none⟩ = some xb) (c0 : W.cell? ⟨C, 0, none⟩ = some (.int .i64 xc)) (af : W.frozen? ⟨A, 0, none⟩ = false) (bf : W.frozen? ⟨B, 0, none⟩ = false) (cf : W.frozen? ⟨C, 0, none⟩ = false)
    (fa : ∃ p, xa = .pointer p) (fb : ∃ p n c, xb = .slice p n c)
    (h : ∀ W', Below A W W' → W'.cell? ⟨A, 0, none⟩ = some (.pointer none) → W'.cell? ⟨B, 0, none⟩ = some (.slice none 0 0) → W'.cell? ⟨C, 0, none⟩ = some (.int .i64 code) → ∃ v, (results fn tmps).run Tryz.prog W' = .ok v W' ∧ R (.returned v) W') :
    Leaves Tryz.prog fn tmps R [{ target := .fn (.func 60) #[.pointer (some ⟨A, 0, none⟩), .pointer (some ⟨B, 0, none⟩), .pointer (some ⟨C, 0, none⟩)], args := #[] }] (.panicking [{ v := .iface 28 (.int .i64 code), recovered := false }]) W := by
  refine leaves_cons (f := 60) (args := #[.pointer (some ⟨A, 0, none⟩), .pointer (some ⟨B, 0, none⟩), .pointer (some ⟨C, 0, none⟩)]) (by simp) (by simp [go_sem]) ?_
  refine (all1_catches A B C W code xa xb xc hAB hBC hCw [] a0 b0 c0 af bf cf fa fb).mono ?_
  rintro e u' w'' ⟨rfl, rfl, hB, h1, h2, h3⟩
  exact h w'' hB h1 h2 h3
theorem Fb.doL_step {W : Int} {L : List Rl} {m : List (Int × Rl)} {i : Nat} (h : i < m.length) : Fb.doL W L (m.drop i) i = if Fb.mayI L W m[i].1 m[i].2 = 0 then Fb.doL W (Fb.aft L m[i].1 m[i].2) (m.drop (i + 1)) (i + 1) else (none, i, Fb.mayI L W m[i].1 m[i].2) := by
  rw [List.drop_eq_getElem_cons h]
  rfl
theorem Fb.doL_end {W : Int} {L : List Rl} {m : List (Int × Rl)} : Fb.doL W L (m.drop m.length) m.length = (some L, 0, 0) := by
  rw [List.drop_length]
  rfl
theorem infoC : (Tryz.prog.info? 49).map (fun i => (i.zero, i.size, i.bytes)) = some (some (.agg #[.int .i64 0, .int .i64 0, .string ⟨#[]⟩, .int .i64 0, .slice none 0 0]), 5, 64) := by kernel_rfl
end Go.Proofs.YtlamhpiiikcpiaaGreatDoor
