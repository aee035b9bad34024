/-
  Walks: slices.SortStableFunc: stableCmpFunc, SortStableFunc.
-/
import Derived.Test.YtbjkbcbclgfmpaaDoorStE
import Derived.Test.YtbjkbcbclgfmpaaDoorShelfB
import Derived.Test.YtbjkbcbclgfmpaaDoorRgI
import Derived.Deep.RegionWith
import Derived.Deep.RegionHeld3
import Derived.Sort.Walk0
import Derived.Laws.OwnMore
import Derived.Lib.SliceRun
import Derived.Deep.AppendLies
namespace Go.Proofs.YtbjkbcbclgfmpaaDoor
open Go.RowKit Go.Shelf Go.Lib Go.Sort
set_option linter.unusedVariables false
set_option linter.unusedSectionVars false
variable {k : Nat} {α : Type} [Inhabited α]

theorem St.isort_ne {lt : α → α → Bool} {x : List α} (h : x ≠ []) : St.isort lt x ≠ [] := List.length_pos_iff.1 (by rw [St.length_isort]; exact List.length_pos_iff.2 h)

theorem St.len_eq {lt : α → α → Bool} {l d2 l2 : List α} {bs B a : Nat} (h : St.blocks lt bs l = d2 ++ St.blocks lt B l2) (ha : d2.length = a) : a + l2.length = l.length := by
  have := congrArg List.length h
  rw [List.length_append, St.length_blocks, St.length_blocks] at this
  omega

end Go.Proofs.YtbjkbcbclgfmpaaDoor
/-
  The order of rules: plain laws; cmp.Compare at strings, cmp.Or, rules.order.
-/
namespace Go.Proofs.YtbjkbcbclgfmpaaDoor
open Go.RowKit Go.Shelf Go.Lib Go.Sort
set_option linter.unusedVariables false
set_option linter.unusedSectionVars false

namespace Rp
/-- Does one key stand ahead of another one? -/
def aheadK (p : Int) (m : ByteArray) (q : Int) (n : ByteArray) : Bool := if p = q then lessB m n else decide (q < p)
def aheadR (a b : Rl) : Bool := aheadK a.p a.m b.p b.m
def cmpS (a b : ByteArray) : Int := if lessB a b = true then -1 else if lessB b a = true then 1 else 0
def cmpK (p : Int) (m : ByteArray) (q : Int) (n : ByteArray) : Int := if Lib.compareInt q p = 0 then cmpS m n else Lib.compareInt q p

theorem lessB_eq (a b : ByteArray) : lessB a b = decide (a.toList < b.toList) := bytesLess_eq _ _
theorem lessB_irrefl (a : ByteArray) : lessB a a = false := by rw [lessB_eq]; exact decide_eq_false (List.lt_irrefl _)
theorem lessB_trans {a b c : ByteArray} (h : lessB a b = true) (h2 : lessB b c = true) : lessB a c = true := by
  rw [lessB_eq] at *
  exact decide_eq_true (List.lt_trans (of_decide_eq_true h) (of_decide_eq_true h2))
theorem lessB_ntrans {a b c : ByteArray} (h : lessB a b = false) (h2 : lessB b c = false) : lessB a c = false := by
  rw [lessB_eq] at *
  have h := of_decide_eq_false h
  have h2 := of_decide_eq_false h2
  refine decide_eq_false fun h3 => ?_
  rw [List.not_lt] at h h2
  exact (List.not_lt.2 (List.le_trans h2 h)) h3
theorem lessB_tri {a b : ByteArray} (h : lessB a b = false) (h2 : lessB b a = false) : a = b := by
  rw [lessB_eq] at *
  have h := of_decide_eq_false h
  have h2 := of_decide_eq_false h2
  rw [List.not_lt] at h h2
  have := List.le_antisymm h2 h
  have e : a.data.toList = b.data.toList := by rw [← Lib.toList_data, ← Lib.toList_data]; exact this
  cases a; cases b
  simp only at e
  rw [Array.toList_inj] at e
  rw [e]

theorem compareInt_zero (x y : Int) : Lib.compareInt x y = 0 ↔ x = y := by
  unfold Lib.compareInt
  by_cases h : x < y
  · simp [h]; omega
  · by_cases h2 : y < x
    · simp [h, h2]; omega
    · simp [h, h2]; omega

theorem cmpK_lt (p : Int) (m : ByteArray) (q : Int) (n : ByteArray) : decide (cmpK p m q n < 0) = aheadK p m q n := by
  unfold cmpK aheadK
  by_cases h : p = q
  · subst h
    rw [if_pos ((compareInt_zero _ _).2 rfl), if_pos rfl]
    unfold cmpS
    cases h1 : lessB m n
    · cases h2 : lessB n m <;> simp
    · simp
  · rw [if_neg (fun h2 => h ((compareInt_zero _ _).1 h2).symm), if_neg h, decide_eq_decide]
    unfold Lib.compareInt
    by_cases h1 : q < p
    · simp [h1]
    · by_cases h2 : p < q
      · simp [h1, h2]
      · omega

theorem aheadK_swo_irrefl (p : Int) (m : ByteArray) : aheadK p m p m = false := by unfold aheadK; rw [if_pos rfl]; exact lessB_irrefl m
theorem aheadK_trans {p q r : Int} {a b c : ByteArray} (h : aheadK p a q b = true) (h2 : aheadK q b r c = true) : aheadK p a r c = true := by
  unfold aheadK at *
  by_cases h3 : p = q
  · subst h3
    rw [if_pos rfl] at h
    by_cases h4 : p = r
    · subst h4
      rw [if_pos rfl] at h2
      rw [if_pos rfl]
      exact lessB_trans h h2
    · rw [if_neg h4] at h2 ⊢
      exact h2
  · rw [if_neg h3] at h
    have h := of_decide_eq_true h
    by_cases h4 : q = r
    · subst h4
      rw [if_neg h3]
      exact decide_eq_true h
    · rw [if_neg h4] at h2
      have h2 := of_decide_eq_true h2
      rw [if_neg (by omega)]
      exact decide_eq_true (by omega)
theorem aheadK_ntrans {p q r : Int} {a b c : ByteArray} (h : aheadK p a q b = false) (h2 : aheadK q b r c = false) : aheadK p a r c = false := by
  unfold aheadK at *
  by_cases h3 : p = q
  · subst h3
    rw [if_pos rfl] at h
    by_cases h4 : p = r
    · subst h4
      rw [if_pos rfl] at h2
      rw [if_pos rfl]
      exact lessB_ntrans h h2
    · rw [if_neg h4] at h2 ⊢
      exact h2
  · rw [if_neg h3] at h
    have h := of_decide_eq_false h
    by_cases h4 : q = r
    · subst h4
      rw [if_neg h3]
      exact decide_eq_false h
    · rw [if_neg h4] at h2
      have h2 := of_decide_eq_false h2
      rw [if_neg (by omega)]
      exact decide_eq_false (by omega)
end Rp

def cfC (x y : RC) : Int := Rp.cmpK x.p x.m y.p y.m
def aheadC (x y : RC) : Bool := Rp.aheadK x.p x.m y.p y.m
theorem ltOf_cfC : ltOf cfC = aheadC := by
  funext x y
  show decide (cfC x y < 0) = _
  exact Rp.cmpK_lt _ _ _ _
theorem swoC : SWO aheadC := ⟨fun x => Rp.aheadK_swo_irrefl _ _, fun _ _ _ => Rp.aheadK_trans, fun _ _ _ => Rp.aheadK_ntrans⟩
theorem swoR : SWO Rp.aheadR := ⟨fun x => Rp.aheadK_swo_irrefl _ _, fun _ _ _ => Rp.aheadK_trans, fun _ _ _ => Rp.aheadK_ntrans⟩

theorem isNaNS_any (s : ByteArray) (w : World) : Calls Tryd.prog 92 #[.string s] w fun e w' => e = .returned (.bool false) ∧ w = w' := by
  have h : (s.toList != s.toList) = false := by simp
  go_enter Tryd.func92, Tryd.ntmps92
  go_wp2_with fail
  go_ret
  exact ⟨by first | rfl | simp, rfl⟩

/-- w' is w with some draws and some new blocks. -/
def Grn (w w' : World) : Prop := ∃ q os, w' = grow (w.drewN q) os
theorem Grn.refl (w : World) : Grn w w := ⟨0, #[], by simp [World.drewN]⟩
theorem Grn.alloc {w w' : World} (h : Grn w w') (o : Obj) : Grn w (w'.alloc o) := by
  obtain ⟨q, os, rfl⟩ := h
  exact ⟨q, os ++ #[o], by rw [alloc_eq_grow, grow_grow]⟩
theorem Grn.drew {w w' : World} (h : Grn w w') : Grn w w'.drew := by
  obtain ⟨q, os, rfl⟩ := h
  exact ⟨q + 1, os, rfl⟩
theorem Grn.drewN {w w' : World} (h : Grn w w') (n : Nat) : Grn w (w'.drewN n) := by
  obtain ⟨q, os, rfl⟩ := h
  exact ⟨q + n, os, by rw [show (grow (w.drewN q) os).drewN n = grow ((w.drewN q).drewN n) os from rfl, World.drewN_drewN]⟩
theorem Grn.grow {w w' : World} (h : Grn w w') (n : Nat) (os : Array Obj) : Grn w (Sort.grow (w'.drewN n) os) := by
  obtain ⟨q, os', h2⟩ := h.drewN n
  exact ⟨q, os' ++ os, by rw [h2, grow_grow]⟩
theorem Grn.trans {a b c : World} (h : Grn a b) (k : Grn b c) : Grn a c := by
  obtain ⟨q, os, rfl⟩ := k
  exact h.grow q os
theorem Grn.below {w w' : World} (h : Grn w w') : Below w.heap.size w w' := by
  obtain ⟨q, os, rfl⟩ := h
  exact ⟨rfl, rfl, rfl, by rw [size_grow]; exact Nat.le_add_right _ _, fun k hk => heap_grow_old (w.drewN q) os hk⟩

end Go.Proofs.YtbjkbcbclgfmpaaDoor
/-
  Walks: slices.Clone at strings and at rules; the sort of a row of rules; rules.Order.
-/
namespace Go.Proofs.YtbjkbcbclgfmpaaDoor
open Go.RowKit Go.Shelf Go.Lib Go.Sort
set_option linter.unusedVariables false
set_option linter.unusedSectionVars false

/-! ### Two lists, an element at a time -/
inductive All2 {α β : Type} (Q : α → β → Prop) : List α → List β → Prop
  | nil : All2 Q [] []
  | cons {x : α} {r : β} {xs : List α} {L : List β} : Q x r → All2 Q xs L → All2 Q (x :: xs) (r :: L)

section
variable {α β : Type} {Q Q' : α → β → Prop}
theorem All2.length {xs : List α} {L : List β} (h : All2 Q xs L) : xs.length = L.length := by
  induction h with
  | nil => rfl
  | cons _ _ ih => simp [ih]
theorem All2.get {xs : List α} {L : List β} (h : All2 Q xs L) : ∀ i (h1 : i < xs.length) (h2 : i < L.length), Q xs[i] L[i] := by
  induction h with
  | nil => intro i h1; exact absurd h1 (Nat.not_lt_zero _)
  | cons hq _ ih =>
    intro i h1 h2
    cases i with
    | zero => exact hq
    | succ i => exact ih i (by simpa using h1) (by simpa using h2)
theorem All2.of_get : ∀ {xs : List α} {L : List β}, xs.length = L.length → (∀ i (h1 : i < xs.length) (h2 : i < L.length), Q xs[i] L[i]) → All2 Q xs L
  | [], [], _, _ => .nil
  | [], _ :: _, h, _ => by simp at h
  | _ :: _, [], h, _ => by simp at h
  | x :: xs, r :: L, h, hq => .cons (hq 0 (by simp) (by simp)) (All2.of_get (by simpa using h) fun i h1 h2 => hq (i + 1) (by simpa using h1) (by simpa using h2))
theorem All2.imp {xs : List α} {L : List β} (h : All2 Q xs L) (hq : ∀ x r, Q x r → Q' x r) : All2 Q' xs L := by
  induction h with
  | nil => exact .nil
  | cons h _ ih => exact .cons (hq _ _ h) ih
theorem All2.append {xs ys : List α} {L M : List β} (h : All2 Q xs L) (h2 : All2 Q ys M) : All2 Q (xs ++ ys) (L ++ M) := by
  induction h with
  | nil => exact h2
  | cons h _ ih => exact .cons h ih
theorem All2.insL {lt : α → α → Bool} {lt' : β → β → Bool} (hl : ∀ x r y s, Q x r → Q y s → lt x y = lt' r s) {xs : List α} {L : List β} (h : All2 Q xs L) {x : α} {r : β} (hx : Q x r) : All2 Q (St.insL lt xs x) (St.insL lt' L r) := by
  induction h with
  | nil => exact .cons hx .nil
  | cons hq ht ih =>
    unfold St.insL
    rw [hl _ _ _ _ hx hq]
    split
    · exact .cons hx (.cons hq ht)
    · exact .cons hq ih
theorem All2.mrg {lt : α → α → Bool} {lt' : β → β → Bool} (hl : ∀ x r y s, Q x r → Q y s → lt x y = lt' r s) {ys : List α} {M : List β} (h : All2 Q ys M) : ∀ {xs : List α} {L : List β}, All2 Q xs L → All2 Q (St.mrg lt xs ys) (St.mrg lt' L M) := by
  induction h with
  | nil => intro xs L h; exact h
  | cons hq _ ih => intro xs L h; exact ih (All2.insL hl h hq)
theorem All2.isort {lt : α → α → Bool} {lt' : β → β → Bool} (hl : ∀ x r y s, Q x r → Q y s → lt x y = lt' r s) {xs : List α} {L : List β} (h : All2 Q xs L) : All2 Q (St.isort lt xs) (St.isort lt' L) := All2.mrg hl h .nil
end

theorem ahead_rdC {ok : Nat → Prop} {w : World} (x : RC) (r : Rl) (y : RC) (s : Rl) (h1 : RdC ok w x r) (h2 : RdC ok w y s) : aheadC x y = Rp.aheadR r s := by
  unfold aheadC Rp.aheadR
  rw [h1.p, h1.m, h2.p, h2.m]

/-! ### Clone -/
theorem rdsR_cells {ok : Nat → Prop} {w : World} {ad : Option Addr} {n cap : Nat} {L : List Rl} (h : RdsR ok w (.slice ad n cap) L) : ∃ xs : List RC, xs.length = L.length ∧ (∀ a, ad = some a → ∀ j u, (cellsR xs)[j]? = some u → w.cell? (a.add j) = some u) ∧ ∀ i (h : i < xs.length) (h' : i < L.length), RdC ok w xs[i] L[i] := by
  obtain ⟨xs, ad', n', cap', h1, h2, h3, h4, h5, h6, h7, h8⟩ := h
  injection h1 with e1 e2 e3
  subst e1 e2 e3
  refine ⟨xs, by omega, ?_, h8⟩
  intro a ha j u hj
  have hj4 : j < xs.length * 4 := by rw [← cellsR_length]; exact (List.getElem?_eq_some_iff.1 hj).1
  have hi : j / 4 < xs.length := by omega
  obtain ⟨b, off, hab, hb, c0, c1, c2, c3⟩ := h7 (j / 4) hi
  obtain ⟨g0, g1, g2, g3⟩ := cellsR_get xs (j / 4) hi
  rw [ha] at hab
  injection hab with hab
  subst hab
  have hplain : (⟨b, off, none⟩ : Addr).add j = ⟨b, off + j, none⟩ := by unfold Addr.add; split <;> simp_all
  rw [hplain]
  have hm : j % 4 = 0 ∨ j % 4 = 1 ∨ j % 4 = 2 ∨ j % 4 = 3 := by omega
  rcases hm with hm | hm | hm | hm
  · have e : j = j / 4 * 4 := by omega
    rw [e] at hj ⊢; rw [← e] at hj ⊢
    rw [show j = j / 4 * 4 from e] at hj
    rw [g0] at hj; injection hj with hj; rw [← hj, show off + j = off + j / 4 * 4 by omega]; exact c0
  · rw [show j = j / 4 * 4 + 1 by omega] at hj
    rw [g1] at hj; injection hj with hj; rw [← hj, show off + j = off + j / 4 * 4 + 1 by omega]; exact c1
  · rw [show j = j / 4 * 4 + 2 by omega] at hj
    rw [g2] at hj; injection hj with hj; rw [← hj, show off + j = off + j / 4 * 4 + 2 by omega]; exact c2
  · rw [show j = j / 4 * 4 + 3 by omega] at hj
    rw [g3] at hj; injection hj with hj; rw [← hj, show off + j = off + j / 4 * 4 + 3 by omega]; exact c3

theorem ownsRow_formk {w : World} {b : Nat} {e : TypeId} {k : Nat} {v : Value} {n : Nat} {xs : List Value} (h : w.ownsRow b e k v n xs) : ∃ ad cap, v = .slice ad n cap := by
  rcases h.2 with ⟨h1, h2⟩ | ⟨g, cap, cur, hv, _⟩
  · exact ⟨none, 0, by rw [h1, h2]⟩
  · exact ⟨_, cap, hv⟩

section
variable {P : Program} {w : World}
/-- append of whatever a slice reads as, elements of more cells than one. -/
theorem wp_append_k {o : Oper} {a : Act} {K : Act → World → Prop} {Q : Exit → Act → World → Prop} (s x : Operand) (t : TypeId)
    (ho : o.op = .call { callee := .builtin .append, args := #[s, x], argTypes := #[t, t] })
    (base : Nat) (e : TypeId) (i : TypeInfo) (z : Value) (size bytes : Nat) (ht : P.underlying t = some (.slice e)) (hi : P.info? e = some i) (hz : i.zero = some z)
    (hsize : i.size = size) (hby : i.bytes = bytes) (hzs : z.cells.size = size) (hsz : 0 < size)
    (v : Value) (n : Nat) (xs : List Value) (hs : a.eval s = v) (hown : w.ownsRow base e size v n xs)
    (ad : Option Addr) (m c : Nat) (ys : List Value) (hx : a.eval x = .slice ad m c) (hl : ys.length = m * size) (hcells : ∀ p, ad = some p → ∀ j u, ys[j]? = some u → w.cell? (p.add j) = some u) (hnil : ad = none → m = 0 ∧ c = 0) (h1 : ∀ u ∈ ys, u.oneCell' = true)
    (tot : Nat) (hm : n + m = tot) (h63 : tot ≤ maxLen) (hbytes : tot * bytes ≤ 140737488355328) (hbase : base ≤ w.heap.size)
    (h : ∀ ad' cap w', w'.ownsRow base e size (.slice ad' tot cap) tot (xs ++ ys) → w.grownBy w' v.ownBlock → K (a.put o.dst (.slice ad' tot cap)) w') : o.wp P a w K Q := by
  have h' : ∀ v' w', w'.ownsRow base e size v' (n + m) (xs ++ ys) → w.grownBy w' v.ownBlock → K (a.put o.dst v') w' := by
    intro v' w' h2 h3
    obtain ⟨ad', cap, rfl⟩ := ownsRow_formk h2
    rw [hm] at h2 ⊢
    exact h ad' cap w' h2 h3
  clear h
  subst hm
  cases ad with
  | none =>
    obtain ⟨rfl, rfl⟩ := hnil rfl
    have hy : ys = [] := List.length_eq_zero_iff.1 (by rw [hl]; simp)
    subst hy
    have hrun := run_append_owned_none (P := P) (w := w) base t o.type e i size ht hi v n xs hown
    unfold Oper.wp
    simp [execOp, ho, resolve, invoke, builtin, hs, hx, hrun, Result.andThen]
    exact h' v w (by simpa using hown) ⟨rfl, rfl, rfl, Nat.le_refl _, fun _ _ _ => rfl⟩
  | some p =>
    exact wp_append_own w s x t ho base e i z size bytes ht hi hz hsize hby hzs hsz v n xs hs hown p m c ys hx hl (hcells p rfl) h1 h63 hbytes hbase (fun v' w' h2 h3 _ => h' v' w' h2 h3)
end

/-- append of rules onto a row of the call's own. -/
theorem wp_app_rules {w : World} {o : Oper} {a : Act} {K : Act → World → Prop} {Q : Exit → Act → World → Prop} (s x : Operand)
    (ho : o.op = .call { callee := .builtin .append, args := #[s, x], argTypes := #[22, 22] })
    (base : Nat) (okp ok2 : Nat → Prop) (v : Value) (xs : List RC) (L : List Rl) (hs : a.eval s = v) (h1 : OwnR okp w base v xs L)
    (sv : Value) (M : List Rl) (hx : a.eval x = sv) (h2 : RdsR ok2 w sv M) (hk : ∀ b, ok2 b → okp b) (hp : ∀ b, okp b → v.ownBlock ≠ some b) (tot : Nat) (htot : L.length + M.length = tot)
    (hbytes : tot * 56 ≤ 140737488355328) (hbase : base ≤ w.heap.size)
    (h : ∀ ad cap w' ys, OwnR okp w' base (.slice ad tot cap) (xs ++ ys) (L ++ M) → w.grownBy w' v.ownBlock → K (a.put o.dst (.slice ad tot cap)) w') : o.wp Tryd.prog a w K Q := by
  obtain ⟨i0, hi, hz0, hz1, hz2⟩ := info_parts infoR
  obtain ⟨ad, cap, rfl, _, _⟩ := h2.form
  obtain ⟨ys, hyl, hyc, hyr⟩ := rdsR_cells h2
  refine wp_append_k s x 22 ho base 42 i0 _ 4 56 Tryd.underlying22 hi hz0 hz1 hz2 rfl (by decide) v L.length (cellsR xs) hs h1.row ad M.length cap (cellsR ys) hx (by rw [cellsR_length, hyl]) hyc
    (fun e => by subst e; obtain ⟨e1, e2, e3⟩ := h2.nilcap; exact ⟨e2, e3⟩) (cellsR_one _) tot htot (by unfold maxLen; omega) hbytes hbase fun ad' cap' w' hown hg => h ad' cap' w' ys ⟨?_, ?_, ?_⟩ hg
  · rw [cellsR_append, List.length_append, htot]; exact hown
  · rw [List.length_append, List.length_append, h1.len, hyl]
  · have hbut : But (fun b => v.ownBlock = some b) w w' := ⟨hg.os, hg.tape, hg.output, hg.size, fun k hk hn => hg.block k hk (fun e => hn e.symm)⟩
    intro i h3 h4
    by_cases hlt : i < xs.length
    · rw [List.getElem_append_left hlt, List.getElem_append_left (by rw [← h1.len]; exact hlt)]
      exact (h1.rd i hlt (by rw [← h1.len]; exact hlt)).but hbut hp
    · have e1 : i - xs.length < ys.length := by simp at h3; omega
      rw [List.getElem_append_right (by omega), List.getElem_append_right (by rw [← h1.len]; omega)]
      have := (hyr (i - xs.length) e1 (by omega)).mono hk
      simp only [h1.len] at this ⊢
      exact this.but hbut hp
end Go.Proofs.YtbjkbcbclgfmpaaDoor
/-
  Walks: slices.Clone at rules; the sort of a row of rules.
-/
namespace Go.Proofs.YtbjkbcbclgfmpaaDoor
open Go.RowKit Go.Shelf Go.Lib Go.Sort
set_option linter.unusedVariables false
set_option linter.unusedSectionVars false

theorem OwnR.form {ok : Nat → Prop} {w : World} {base : Nat} {v : Value} {xs : List RC} {L : List Rl} (h : OwnR ok w base v xs L) : ∃ ad cap, v = .slice ad L.length cap := ownsRow_formk h.row

/-! ### The sort -/
theorem heap_putRow_other {α : Type} [Inhabited α] (enc : α → Value) (w : World) (blk off : Nat) (d : Array α) (k : Nat) (hk : k ≠ blk) : (putRow enc w blk off d).heap[k]? = w.heap[k]? := by
  unfold putRow mapBlock
  simp only [Array.getElem?_modify]
  rw [if_neg (by omega)]

theorem swk_but {enc : RC → List Value} {k : Nat} {w0 W : World} {blk off : Nat} {dk : Array RC} (h : SWK enc k w0 blk off dk W) : But (fun b => b = blk) w0 W := by
  obtain ⟨n, os, rfl⟩ := h
  unfold sortWorldK
  have hs : (putRowK enc k (Sort.ahead w0 n) blk off dk).heap.size = w0.heap.size := by rw [size_putRowK]; rfl
  refine ⟨rfl, rfl, rfl, ?_, fun j hj hn => ?_⟩
  · rw [size_grow, hs]; exact Nat.le_add_right _ _
  · rw [heap_grow_old _ _ (by rw [hs]; exact hj)]
    unfold putRowK
    rw [heap_putRow_other _ _ _ _ _ _ hn]
    rfl

theorem ahead_fields {w : World} {n : Nat} : (Sort.ahead w n).heap = w.heap := rfl

theorem get_list (l : List RC) (i : Nat) (h : i < l.length) : l.toArray[i]! = l[i] := by
  rw [getElem!_pos l.toArray i (by simpa using h)]; simp

theorem flatK_get (l : List RC) (j : Nat) (h : j < l.length * 4) : (flatK encR 4 l.toArray)[j]! = (cellsR l)[j]'(by rw [cellsR_length]; exact h) := by
  rw [get_flatK encR 4 _ _ (by simpa using h), get_list l (j / 4) (by omega)]
  have hi : j / 4 < l.length := by omega
  obtain ⟨g0, g1, g2, g3⟩ := cellsR_get l (j / 4) hi
  have key : ∀ u, (cellsR l)[j]? = some u → (cellsR l)[j]'(by rw [cellsR_length]; exact h) = u := fun u hu => by
    rw [List.getElem?_eq_getElem (by rw [cellsR_length]; exact h)] at hu; exact Option.some.inj hu
  have hm : j % 4 = 0 ∨ j % 4 = 1 ∨ j % 4 = 2 ∨ j % 4 = 3 := by omega
  rcases hm with hm | hm | hm | hm
  · rw [key _ (by rw [← g0]; congr 1; omega), hm]; rfl
  · rw [key _ (by rw [← g1]; congr 1; omega), hm]; rfl
  · rw [key _ (by rw [← g2]; congr 1; omega), hm]; rfl
  · rw [key _ (by rw [← g3]; congr 1; omega), hm]; rfl

theorem OwnR.holds {ok : Nat → Prop} {w : World} {base g cap : Nat} {xs : List RC} {L : List Rl} (h : OwnR ok w base (.slice (some ⟨g, 0, none⟩) L.length cap) xs L) : HoldsK encR 4 w g 0 xs.toArray := by
  intro j hj
  have hj4 : j < xs.length * 4 := by simpa using hj
  have hjL : j < L.length * 4 := by rw [← h.len]; exact hj4
  rw [Nat.zero_add]
  refine ⟨?_, h.row.frozenAt j⟩
  rw [h.row.cellAt j hjL, flatK_get xs j hj4, List.getElem?_eq_getElem]
  rfl

end Go.Proofs.YtbjkbcbclgfmpaaDoor
/-
  Walks: rules.Order.
-/
namespace Go.Proofs.YtbjkbcbclgfmpaaDoor
open Go.RowKit Go.Shelf Go.Lib Go.Sort
set_option linter.unusedVariables false
set_option linter.unusedSectionVars false

theorem cellsR_set {l : List RC} {i : Nat} (h : i < l.length) (a : Option Addr) (n c : Nat) : (cellsR l).set (i * 4 + 3) (.slice a n c) = cellsR (l.set i { l[i] with a := a, n := n, c := c }) := by
  induction l generalizing i with
  | nil => exact absurd h (Nat.not_lt_zero _)
  | cons x l ih =>
    cases i with
    | zero => simp [cellsR_cons, encR]
    | succ i =>
      have h' : i < l.length := by simpa using h
      have := ih h'
      rw [cellsR_cons, List.set_append_right _ _ (by rw [encR_len]; omega), encR_len, show (i + 1) * 4 + 3 - 4 = i * 4 + 3 by omega, this]
      simp [cellsR_cons]

end Go.Proofs.YtbjkbcbclgfmpaaDoor
/-
  Walks: the reference's Ahead; laws for its Order.
-/
namespace Go.Proofs.YtbjkbcbclgfmpaaDoor
open Go.RowKit Go.Shelf Go.Lib Go.Sort
set_option linter.unusedVariables false
set_option linter.unusedSectionVars false

/-- append of rules, told by their cells, onto a row of the call's own. -/
theorem wp_app_cells {w : World} {o : Oper} {a : Act} {K : Act → World → Prop} {Q : Exit → Act → World → Prop} (s x : Operand)
    (ho : o.op = .call { callee := .builtin .append, args := #[s, x], argTypes := #[22, 22] })
    (base : Nat) (okp : Nat → Prop) (v : Value) (xs : List RC) (L : List Rl) (hs : a.eval s = v) (h1 : OwnR okp w base v xs L)
    (ad : Option Addr) (m c : Nat) (ys : List RC) (M : List Rl) (hx : a.eval x = .slice ad m c) (hm : m = M.length) (hyl : ys.length = M.length) (hyc : ∀ p, ad = some p → ∀ j u, (cellsR ys)[j]? = some u → w.cell? (p.add j) = some u)
    (hnil : ad = none → m = 0 ∧ c = 0) (hyr : ∀ i (h : i < ys.length) (h' : i < M.length), RdC okp w ys[i] M[i]) (hp : ∀ b, okp b → v.ownBlock ≠ some b) (tot : Nat) (htot : L.length + M.length = tot)
    (hbytes : tot * 56 ≤ 140737488355328) (hbase : base ≤ w.heap.size)
    (h : ∀ ad cap w', OwnR okp w' base (.slice ad tot cap) (xs ++ ys) (L ++ M) → w.grownBy w' v.ownBlock → K (a.put o.dst (.slice ad tot cap)) w') : o.wp Tryd.prog a w K Q := by
  subst hm
  obtain ⟨i0, hi, hz0, hz1, hz2⟩ := info_parts infoR
  refine wp_append_k s x 22 ho base 42 i0 _ 4 56 Tryd.underlying22 hi hz0 hz1 hz2 rfl (by decide) v L.length (cellsR xs) hs h1.row ad M.length c (cellsR ys) hx (by rw [cellsR_length, hyl]) hyc
    hnil (cellsR_one _) tot htot (by unfold maxLen; omega) hbytes hbase fun ad' cap' w' hown hg => h ad' cap' w' ⟨?_, ?_, ?_⟩ hg
  · rw [cellsR_append, List.length_append, htot]; exact hown
  · rw [List.length_append, List.length_append, h1.len, hyl]
  · have hbut : But (fun b => v.ownBlock = some b) w w' := ⟨hg.os, hg.tape, hg.output, hg.size, fun k hk hn => hg.block k hk (fun e => hn e.symm)⟩
    intro i h3 h4
    by_cases hlt : i < xs.length
    · rw [List.getElem_append_left hlt, List.getElem_append_left (by rw [← h1.len]; exact hlt)]
      exact (h1.rd i hlt (by rw [← h1.len]; exact hlt)).but hbut hp
    · have e1 : i - xs.length < ys.length := by simp at h3; omega
      rw [List.getElem_append_right (by omega), List.getElem_append_right (by rw [← h1.len]; omega)]
      have := hyr (i - xs.length) e1 (by omega)
      simp only [h1.len] at this ⊢
      exact this.but hbut hp

/-- At a step of a region that draws its order. -/
theorem step_app_cells {w : World} {ops : Array Oper} {o : Oper} {a : Act} {K : Act → World → Prop} {Q : Exit → Act → World → Prop} {E : Prop} (hgd : o.guard = none) (s x : Operand)
    (ho : o.op = .call { callee := .builtin .append, args := #[s, x], argTypes := #[22, 22] })
    (base : Nat) (okp : Nat → Prop) (v : Value) (xs : List RC) (L : List Rl) (hs : a.eval s = v) (h1 : OwnR okp w base v xs L)
    (ad : Option Addr) (m c : Nat) (ys : List RC) (M : List Rl) (hx : a.eval x = .slice ad m c) (hm : m = M.length) (hyl : ys.length = M.length) (hyc : ∀ p, ad = some p → ∀ j u, (cellsR ys)[j]? = some u → w.cell? (p.add j) = some u)
    (hnil : ad = none → m = 0 ∧ c = 0) (hyr : ∀ i (h : i < ys.length) (h' : i < M.length), RdC okp w ys[i] M[i]) (hp : ∀ b, okp b → v.ownBlock ≠ some b) (tot : Nat) (htot : L.length + M.length = tot)
    (hbytes : tot * 56 ≤ 140737488355328) (hbase : base ≤ w.heap.size)
    (h : ∀ ad cap w', OwnR okp w' base (.slice ad tot cap) (xs ++ ys) (L ++ M) → w.grownBy w' v.ownBlock → K (a.put o.dst (.slice ad tot cap)) w') :
    if Region.wanted o (yielded ops a.tmps) = true then Oper.wp Tryd.prog o a w K Q else E := by
  have hw : Region.wanted o (yielded ops a.tmps) = true := by simp [Region.wanted, hgd]
  rw [if_pos hw]
  exact wp_app_cells s x ho base okp v xs L hs h1 ad m c ys M hx hm hyl hyc hnil hyr hp tot htot hbytes hbase h

/-- The cells of a new row of one rule. -/
theorem one_cells {W : World} {g : Nat} {x : RC} {e : TypeId} (h : W.heap[g]? = some (.cells #[.int .i64 x.p, .string x.m, .int .i64 x.k, .slice x.a x.n x.c] e (0, 0))) : ∀ p, some (⟨g, 0, none⟩ : Addr) = some p → ∀ j u, (cellsR [x])[j]? = some u → W.cell? (p.add j) = some u := by
  intro p hp j u hj
  injection hp with hp
  subst hp
  have hc : W.cell? ⟨g, j, none⟩ = (#[Value.int .i64 x.p, .string x.m, .int .i64 x.k, .slice x.a x.n x.c] : Array Value)[j]? := by simp [World.cell?, h]
  rw [Addr.add_lit, Nat.zero_add, hc]
  simpa [cellsR, encR] using hj

theorem one_rdC {ok : Nat → Prop} {W : World} {x : RC} {r : Rl} (h : RdC ok W x r) : ∀ i (h : i < [x].length) (h' : i < [r].length), RdC ok W [x][i] [r][i] := by
  intro i h1 h2
  have : i = 0 := by simp at h1; omega
  subst this
  exact h

end Go.Proofs.YtbjkbcbclgfmpaaDoor
