/-
  Walks: the reference's Order.
-/
import Derived.Test.YtbjkbcbclgfmpaaDoorRgJ
import Derived.Deep.CutBlock
namespace Go.Proofs.YtbjkbcbclgfmpaaDoor
open Go.RowKit Go.Shelf Go.Lib Go.Sort
set_option linter.unusedVariables false
set_option linter.unusedSectionVars false

/-- A part of a slice of rules. -/
theorem RdsR.part {ok : Nat → Prop} {w : World} {ad : Option Addr} {n cap : Nat} {L : List Rl} (h : RdsR ok w (.slice ad n cap) L) (l k : Nat) (hl : l ≤ k) (hk : k ≤ n) :
    RdsR ok w (.slice (if cap = l then ad else ad.map (·.add (l * 4))) (k - l) (cap - l)) ((L.take k).drop l) := by
  obtain ⟨xs, ad', n', cap', h1, h2, h3, h4, h5, h6, h7, h8⟩ := h
  injection h1 with e1 e2 e3
  subst e1 e2 e3
  have hlen : ((L.take k).drop l).length = k - l := by rw [List.length_drop, List.length_take]; omega
  refine ⟨(xs.take k).drop l, _, k - l, cap - l, rfl, hlen.symm, by rw [List.length_drop, List.length_take]; omega, ⟨by omega, ?_⟩, by omega, ?_, ?_, ?_⟩
  · intro hn
    split at hn
    · omega
    · cases ad with
      | none => have := h4.2 rfl; omega
      | some a => cases hn
  · intro a m c hv hm
    injection hv with e1 e2 _
    have hne : ¬ cap = l := by omega
    rw [if_neg hne] at e1
    cases ad with
    | none => cases e1
    | some a0 =>
      injection e1 with e1
      rw [← e1]
      have : (a0.add (l * 4)).block = a0.block := by unfold Addr.add; split <;> rfl
      rw [this]
      exact h6 a0 n cap rfl (by omega)
  · intro i hi
    rw [List.length_drop, List.length_take] at hi
    obtain ⟨b, off, rfl, hb, c0, c1, c2, c3⟩ := h7 (l + i) (by omega)
    have hne : ¬ cap = l := by omega
    have hx : ((xs.take k).drop l)[i]'(by rw [List.length_drop, List.length_take]; omega) = xs[l + i]'(by omega) := by simp
    rw [hx, if_neg hne]
    refine ⟨b, off + l * 4, ?_, hb, ?_, ?_, ?_, ?_⟩
    · show some ((⟨b, off, none⟩ : Addr).add (l * 4)) = _
      rw [Addr.add_lit]
    · rw [show off + l * 4 + i * 4 = off + (l + i) * 4 by omega]; exact c0
    · rw [show off + l * 4 + i * 4 + 1 = off + (l + i) * 4 + 1 by omega]; exact c1
    · rw [show off + l * 4 + i * 4 + 2 = off + (l + i) * 4 + 2 by omega]; exact c2
    · rw [show off + l * 4 + i * 4 + 3 = off + (l + i) * 4 + 3 by omega]; exact c3
  · intro i hi hi'
    rw [List.length_drop, List.length_take] at hi
    have hx : ((xs.take k).drop l)[i]'(by rw [List.length_drop, List.length_take]; omega) = xs[l + i]'(by omega) := by simp
    have hL : ((L.take k).drop l)[i]'hi' = L[l + i]'(by omega) := by simp
    rw [hx, hL]
    exact h8 (l + i) (by omega) (by omega)

theorem OwnR.below {ok : Nat → Prop} {w w' : World} {base : Nat} {v : Value} {xs : List RC} {L : List Rl} (h : OwnR ok w base v xs L) (hb : Below w.heap.size w w') : OwnR ok w' base v xs L :=
  ⟨ownsRow_below h.row hb, h.len, fun i h1 h2 => (h.rd i h1 h2).below hb⟩
theorem OwnR.toRds' {ok : Nat → Prop} {w : World} {base : Nat} {v : Value} {xs : List RC} {L : List Rl} (h : OwnR ok w base v xs L) : RdsR (fun b => base ≤ b ∨ ok b) w v L :=
  (⟨h.row, h.len, fun i h1 h2 => (h.rd i h1 h2).mono fun b hb => .inr hb⟩ : OwnR (fun b => base ≤ b ∨ ok b) w base v xs L).toRds fun b hb => .inl hb
theorem OwnR.le {ok : Nat → Prop} {w : World} {base base' : Nat} {v : Value} {xs : List RC} {L : List Rl} (h : OwnR ok w base v xs L) (hb : base' ≤ base) : OwnR ok w base' v xs L := ⟨ownsRow_le h.row hb, h.len, h.rd⟩
theorem OwnR.mono {ok ok' : Nat → Prop} {w : World} {base : Nat} {v : Value} {xs : List RC} {L : List Rl} (h : OwnR ok w base v xs L) (hk : ∀ b, ok b → ok' b) : OwnR ok' w base v xs L := ⟨h.row, h.len, fun i h1 h2 => (h.rd i h1 h2).mono hk⟩

theorem St.isort_snoc {α : Type} {lt : α → α → Bool} (l : List α) (x : α) : St.isort lt (l ++ [x]) = St.insL lt (St.isort lt l) x := by
  unfold St.isort
  rw [St.mrg_append]
  rfl

/-- A place from which all stand behind x, none ahead of it does: where it goes in. -/
theorem insert_at {lt : Rl → Rl → Bool} (hO : SWO lt) {S : List Rl} {x : Rl} (hs : St.Srd lt S) (k : Nat) (hk : k ≤ S.length) (h1 : ∀ j (h : j < S.length), k ≤ j → lt x S[j] = true) (h2 : ∀ j (h : j < S.length), j + 1 = k → lt x S[j] = false) :
    St.insL lt S x = S.take k ++ [x] ++ S.drop k := by
  have := St.insL_at (lt := lt) (u1 := S.take k) (u2 := S.drop k) (x := x) ?_ ?_
  · rw [List.take_append_drop] at this; exact this
  · intro y hy
    obtain ⟨j, hj, hjk, rfl⟩ := mem_take_get hy
    have hk1 : k - 1 < S.length := by omega
    have h3 := h2 (k - 1) hk1 (by omega)
    by_cases e : j = k - 1
    · subst e; exact h3
    · exact hO.ntrans _ _ _ h3 (srd_get hs hj hk1 (by omega))
  · intro y hy
    obtain ⟨j, hj, hjk, rfl⟩ := mem_drop_get hy
    exact h1 j hj hjk

theorem cellsR_drop : ∀ (xs : List RC) (l : Nat), cellsR (xs.drop l) = (cellsR xs).drop (l * 4)
  | [], l => by simp [cellsR]
  | x :: xs, 0 => by simp
  | x :: xs, l + 1 => by
    rw [List.drop_succ_cons, cellsR_drop xs l, cellsR_cons, show (l + 1) * 4 = 4 + l * 4 by omega, ← List.drop_drop, List.drop_left' (encR_len x)]
theorem cellsR_take : ∀ (xs : List RC) (l : Nat), cellsR (xs.take l) = (cellsR xs).take (l * 4)
  | [], l => by simp [cellsR]
  | x :: xs, 0 => by simp [cellsR]
  | x :: xs, l + 1 => by
    rw [List.take_succ_cons, cellsR_cons, cellsR_take xs l, cellsR_cons, show (l + 1) * 4 = (encR x).length + l * 4 by rw [encR_len]; omega, List.take_length_add_append]

/-- A part of a row of the call's own, told by its cells. -/
theorem OwnR.part {okp : Nat → Prop} {w : World} {base n c : Nat} {ad : Option Addr} {xs : List RC} {S : List Rl} (h : OwnR okp w base (.slice ad n c) xs S) (hn : S.length = n) (l k : Nat) (hl : l ≤ k) (hk : k ≤ n) :
    ((xs.take k).drop l).length = ((S.take k).drop l).length ∧ (∀ p, (if c = l then ad else ad.map (·.add (l * 4))) = some p → ∀ j u, (cellsR ((xs.take k).drop l))[j]? = some u → w.cell? (p.add j) = some u) ∧
      ((if c = l then ad else ad.map (·.add (l * 4))) = none → k - l = 0 ∧ c - l = 0) ∧ (∀ i (h1 : i < ((xs.take k).drop l).length) (h2 : i < ((S.take k).drop l).length), RdC okp w ((xs.take k).drop l)[i] ((S.take k).drop l)[i]) ∧ n ≤ c := by
  obtain ⟨⟨h1, h2⟩, h3, h4⟩ := h
  have hlen : xs.length = n := h3.trans hn
  refine ⟨by simp only [List.length_drop, List.length_take, h3], ?_, ?_, ?_, ?_⟩
  · intro p hp j u hj
    have hj4 := (List.getElem?_eq_some_iff.1 hj).1
    rw [cellsR_length, List.length_drop, List.length_take] at hj4
    rcases h2 with ⟨e, e2⟩ | ⟨g, cap, cur, hv, hg, hh, hnn, hc, hs, ht⟩
    · omega
    · injection hv with e1 e2 e3
      subst e1 e3
      have hne : ¬ c = l := by omega
      rw [if_neg hne] at hp
      have hp' : (⟨g, 0, none⟩ : Addr).add (l * 4) = p := Option.some.inj hp
      rw [← hp', Addr.add_lit, Addr.add_lit, Nat.zero_add]
      rw [cellsR_drop, cellsR_take, List.getElem?_drop, List.getElem?_take_of_lt (by omega)] at hj
      rw [← ht, List.getElem?_take_of_lt (by rw [hn]; omega)] at hj
      simp only [World.cell?, hh]
      simpa using hj
  · intro hn0
    rcases h2 with ⟨e, e2⟩ | ⟨g, cap, cur, hv, _⟩
    · injection e with e1 _ e3
      omega
    · injection hv with e1 _ _
      subst e1
      split at hn0 <;> cases hn0
  · intro i hi hi'
    rw [List.length_drop, List.length_take] at hi
    have hx : ((xs.take k).drop l)[i]'(by rw [List.length_drop, List.length_take]; omega) = xs[l + i]'(by omega) := by simp
    have hL : ((S.take k).drop l)[i]'hi' = S[l + i]'(by omega) := by simp
    rw [hx, hL]
    exact h4 (l + i) (by omega) (by omega)
  · rcases h2 with ⟨e, e2⟩ | ⟨g, cap, cur, hv, hg, hh, hnn, hc, hs, ht⟩
    · injection e with _ _ e3; omega
    · injection hv with _ _ e3; omega

theorem dr_heap (w : World) : w.drew.heap = w.heap := rfl
theorem al_heap (w : World) (o : Obj) : (w.alloc o).heap = w.heap.push o := rfl

theorem ownsSt_formR {w : World} {b : Nat} {e : TypeId} {k : Nat} {ad : Option Addr} {n m c : Nat} {xs : List Value} (h : w.ownsRow b e k (.slice ad n c) m xs) : n ≤ c ∧ c ≤ 9223372036854775807 := by
  rcases h.2 with ⟨h1, h2⟩ | ⟨g, cap, cur, hv, _, _, h3, h4, _⟩
  · injection h1 with _ e2 e3; omega
  · injection hv with _ e2 e3; unfold maxLen at h4; omega

theorem cell_lt {w : World} {p : Addr} {u : Value} (h : w.cell? p = some u) : p.block < w.heap.size := by
  rcases Nat.lt_or_ge p.block w.heap.size with h2 | h2
  · exact h2
  · simp [World.cell?, Array.getElem?_eq_none h2] at h

theorem own0 {ok : Nat → Prop} {W : World} {g base : Nat} (h : W.heap[g]? = some (.cells #[] 42 (0, 0))) (hg : base ≤ g) : OwnR ok W base (.slice (some ⟨g, 0, none⟩) 0 0) [] [] :=
  ⟨⟨rfl, .inr ⟨g, 0, #[], rfl, hg, h, Nat.le_refl _, Nat.zero_le _, rfl, rfl⟩⟩, rfl, fun i h => absurd h (Nat.not_lt_zero _)⟩

theorem grown_heap {w w' : World} {row : Option Nat} (hg : w.grownBy w' row) {k : Nat} {o : Obj} (h : w.heap[k]? = some o) (hr : row ≠ some k) : w'.heap[k]? = some o := by
  rw [hg.block k ?_ (fun e => hr e.symm)]
  · exact h
  · rcases Nat.lt_or_ge k w.heap.size with h2 | h2
    · exact h2
    · simp [Array.getElem?_eq_none h2] at h

theorem ahead_rd2 {ok ok' : Nat → Prop} {w w' : World} {x y : RC} {r s : Rl} (h1 : RdC ok w x r) (h2 : RdC ok' w' y s) : aheadC x y = Rp.aheadR r s := by
  unfold aheadC Rp.aheadR
  rw [h1.p, h1.m, h2.p, h2.m]

theorem cell_grn {w W : World} (hG : Below w.heap.size w W) {p : Addr} {u : Value} (hp : p.block < w.heap.size) (hc : w.cell? p = some u) : ∀ (nn : Nat) (os : Array Obj), (grow (W.drewN nn) os).cell? p = some u := by
  intro nn os
  rw [cell?_grow (W.drewN nn) os p (Nat.lt_of_lt_of_le hp hG.size)]
  exact (hG.cell hp).trans hc

end Go.Proofs.YtbjkbcbclgfmpaaDoor
