/-
  Walks: slices.Clone at strings and at rules; the sort of a row of rules; rules.Order.
-/
import Derived.Test.YtlbelkjgaeaaeaaGreatRulD
import Derived.Laws.OwnMore
import Derived.Lib.SliceRun
namespace Go.Proofs.YtlbelkjgaeaaeaaGreat
open Go.RowKit Go.Shelf Go.Lib Go.Sort
set_option linter.unusedVariables false
set_option linter.unusedSectionVars false

/-! ### Two lists, an element at a time -/
inductive All2 {α β : Type} (Q : α → β → Prop) : List α → List β → Prop
  | nil : All2 Q [] []
  | cons {x : α} {r : β} {xs : List α} {L : List β} : Q x r → All2 Q xs L → All2 Q (x :: xs) (r :: L)

section
variable {α β : Type} {Q Q' : α → β → Prop}
theorem All2.length {xs : List α} {L : List β} (h : All2 Q xs L) : xs.length = L.length := by
  induction h with
  | nil => rfl
  | cons _ _ ih => simp [ih]
theorem All2.get {xs : List α} {L : List β} (h : All2 Q xs L) : ∀ i (h1 : i < xs.length) (h2 : i < L.length), Q xs[i] L[i] := by
  induction h with
  | nil => intro i h1; exact absurd h1 (Nat.not_lt_zero _)
  | cons hq _ ih =>
    intro i h1 h2
    cases i with
    | zero => exact hq
    | succ i => exact ih i (by simpa using h1) (by simpa using h2)
theorem All2.of_get : ∀ {xs : List α} {L : List β}, xs.length = L.length → (∀ i (h1 : i < xs.length) (h2 : i < L.length), Q xs[i] L[i]) → All2 Q xs L
  | [], [], _, _ => .nil
  | [], _ :: _, h, _ => by simp at h
  | _ :: _, [], h, _ => by simp at h
  | x :: xs, r :: L, h, hq => .cons (hq 0 (by simp) (by simp)) (All2.of_get (by simpa using h) fun i h1 h2 => hq (i + 1) (by simpa using h1) (by simpa using h2))
theorem All2.imp {xs : List α} {L : List β} (h : All2 Q xs L) (hq : ∀ x r, Q x r → Q' x r) : All2 Q' xs L := by
  induction h with
  | nil => exact .nil
  | cons h _ ih => exact .cons (hq _ _ h) ih
theorem All2.append {xs ys : List α} {L M : List β} (h : All2 Q xs L) (h2 : All2 Q ys M) : All2 Q (xs ++ ys) (L ++ M) := by
  induction h with
  | nil => exact h2
  | cons h _ ih => exact .cons h ih
theorem All2.insL {lt : α → α → Bool} {lt' : β → β → Bool} (hl : ∀ x r y s, Q x r → Q y s → lt x y = lt' r s) {xs : List α} {L : List β} (h : All2 Q xs L) {x : α} {r : β} (hx : Q x r) : All2 Q (St.insL lt xs x) (St.insL lt' L r) := by
  induction h with
  | nil => exact .cons hx .nil
  | cons hq ht ih =>
    unfold St.insL
    rw [hl _ _ _ _ hx hq]
    split
    · exact .cons hx (.cons hq ht)
    · exact .cons hq ih
theorem All2.mrg {lt : α → α → Bool} {lt' : β → β → Bool} (hl : ∀ x r y s, Q x r → Q y s → lt x y = lt' r s) {ys : List α} {M : List β} (h : All2 Q ys M) : ∀ {xs : List α} {L : List β}, All2 Q xs L → All2 Q (St.mrg lt xs ys) (St.mrg lt' L M) := by
  induction h with
  | nil => intro xs L h; exact h
  | cons hq _ ih => intro xs L h; exact ih (All2.insL hl h hq)
theorem All2.isort {lt : α → α → Bool} {lt' : β → β → Bool} (hl : ∀ x r y s, Q x r → Q y s → lt x y = lt' r s) {xs : List α} {L : List β} (h : All2 Q xs L) : All2 Q (St.isort lt xs) (St.isort lt' L) := All2.mrg hl h .nil
end

theorem ahead_rdC {ok : Nat → Prop} {w : World} (x : RC) (r : Rl) (y : RC) (s : Rl) (h1 : RdC ok w x r) (h2 : RdC ok w y s) : aheadC x y = Rp.aheadR r s := by
  unfold aheadC Rp.aheadR
  rw [h1.p, h1.m, h2.p, h2.m]

/-! ### Clone -/
set_option maxHeartbeats 800000 in
set_option maxRecDepth 20000 in
theorem cloneS_any (v : Value) (ps : List ByteArray) (w : World) (hr : RdsS w v ps) (hn : ps.length * 16 ≤ 140737488351232) :
    Calls Tryz.prog 46 #[v] w fun e w' => ∃ ad c, e = .returned (.slice ad ps.length c) ∧ RdsO (fun b => w.heap.size ≤ b) w' (.slice ad ps.length c) ps ∧ Below w.heap.size w w' := by
  obtain ⟨i0, hi, hz0, hz1, hz2⟩ := info_parts infoS
  have HR := Lib.hid hr
  obtain ⟨ad, len, cap, rfl, hl, hlm, hel⟩ := rdsS_form hr
  clear hel hr
  unfold maxLen at hlm
  cases ad with
  | none =>
    obtain ⟨e1, e2, e3⟩ := rdsS_nilcap HR.out
    subst e2 e3
    have hp := Lib.hid e1
    clear hl e1
    have hnn : ∀ W : World, (binOp .eql 58 (.slice none 0 0) (.slice none 0 0)).run Tryz.prog W = .ok (.bool true) W := fun W => Lib.run_eql_slice_nil W _ _ _ _ _ _ _ Tryz.underlying58
    go_enter Tryz.func46, Tryz.ntmps46
    go_wp2_with fail
    go_ret
    refine ⟨none, 0, by rw [hp.out]; rfl, ?_, Below.refl _ _⟩
    rw [hp.out]
    exact ⟨rdsS_nil _, okV_nil _ _ _⟩
  | some a =>
    have HL := Lib.hid hl
    have HN := Lib.hid hn
    have hown := lit0_rowE (w := w) (e := 9) (k := 1) (g := w.heap.size) (b := w.heap.size) rfl (Nat.le_refl _)
    have HOW := Lib.hid hown
    have hb := (Below.refl w.heap.size w).alloc (Nat.le_refl _) (.cells #[] 9)
    have HR2 := Lib.hid (HR.out.below hb)
    have HB := Lib.hid hb
    clear hl hn hb hown
    have hnn : ∀ W : World, (binOp .eql 58 (.slice (some a) len cap) (.slice none 0 0)).run Tryz.prog W = .ok (.bool false) W := fun W => Lib.run_eql_slice_nil W _ _ _ _ _ _ _ Tryz.underlying58
    go_enter Tryz.func46, Tryz.ntmps46
    go_wp2_with (at_builtin; go_loud (refine wpList_append_rds rfl (.tmp 5) (.tmp 6) _ rfl w.heap.size 9 i0 _ 16 Tryz.underlying58 hi hz0 hz1 hz2 rfl _ 0 [] rfl HOW.out _ (ps.map Value.string) rfl HR2.out str_one len (by rw [List.length_map]; have := HL.out; omega) (by unfold maxLen; omega) (by have := HL.out; have := HN.out; omega) (by simp) ?_); intro ad2 cap2 w2 h2 hg; have HO := Lib.hid h2; have HG := Lib.hid hg; clear h2 hg)
    go_ret
    have HG2 : Below w.heap.size w w2 := HB.out.grown HG.out (by simp) (fun k hk => by injection hk with hk; subst hk; exact Nat.le_refl _)
    refine ⟨ad2, cap2, by rw [← HL.out]; rfl, ?_, HG2⟩
    rw [← HL.out]
    refine ⟨?_, ?_⟩
    · have := ownsRow_rds HO.out
      show Rds _ _ _
      simpa using this
    · intro a' n' c' hv hn'
      injection hv with e1 _ _
      have := (HO.out.lt a'.block (by rw [e1]; rfl)).1
      exact this

theorem rdsR_cells {ok : Nat → Prop} {w : World} {ad : Option Addr} {n cap : Nat} {L : List Rl} (h : RdsR ok w (.slice ad n cap) L) : ∃ xs : List RC, xs.length = L.length ∧ (∀ a, ad = some a → ∀ j u, (cellsR xs)[j]? = some u → w.cell? (a.add j) = some u) ∧ ∀ i (h : i < xs.length) (h' : i < L.length), RdC ok w xs[i] L[i] := by
  obtain ⟨xs, ad', n', cap', h1, h2, h3, h4, h5, h6, h7, h8⟩ := h
  injection h1 with e1 e2 e3
  subst e1 e2 e3
  refine ⟨xs, by omega, ?_, h8⟩
  intro a ha j u hj
  have hj4 : j < xs.length * 4 := by rw [← cellsR_length]; exact (List.getElem?_eq_some_iff.1 hj).1
  have hi : j / 4 < xs.length := by omega
  obtain ⟨b, off, hab, hb, c0, c1, c2, c3⟩ := h7 (j / 4) hi
  obtain ⟨g0, g1, g2, g3⟩ := cellsR_get xs (j / 4) hi
  rw [ha] at hab
  injection hab with hab
  subst hab
  have hplain : (⟨b, off, none⟩ : Addr).add j = ⟨b, off + j, none⟩ := by unfold Addr.add; split <;> simp_all
  rw [hplain]
  have hm : j % 4 = 0 ∨ j % 4 = 1 ∨ j % 4 = 2 ∨ j % 4 = 3 := by omega
  rcases hm with hm | hm | hm | hm
  · have e : j = j / 4 * 4 := by omega
    rw [e] at hj ⊢; rw [← e] at hj ⊢
    rw [show j = j / 4 * 4 from e] at hj
    rw [g0] at hj; injection hj with hj; rw [← hj, show off + j = off + j / 4 * 4 by omega]; exact c0
  · rw [show j = j / 4 * 4 + 1 by omega] at hj
    rw [g1] at hj; injection hj with hj; rw [← hj, show off + j = off + j / 4 * 4 + 1 by omega]; exact c1
  · rw [show j = j / 4 * 4 + 2 by omega] at hj
    rw [g2] at hj; injection hj with hj; rw [← hj, show off + j = off + j / 4 * 4 + 2 by omega]; exact c2
  · rw [show j = j / 4 * 4 + 3 by omega] at hj
    rw [g3] at hj; injection hj with hj; rw [← hj, show off + j = off + j / 4 * 4 + 3 by omega]; exact c3

theorem ownsRow_formk {w : World} {b : Nat} {e : TypeId} {k : Nat} {v : Value} {n : Nat} {xs : List Value} (h : w.ownsRow b e k v n xs) : ∃ ad cap, v = .slice ad n cap := by
  rcases h.2 with ⟨h1, h2⟩ | ⟨g, cap, cur, hv, _⟩
  · exact ⟨none, 0, by rw [h1, h2]⟩
  · exact ⟨_, cap, hv⟩

section
variable {P : Program} {w : World}
/-- append of whatever a slice reads as, elements of more cells than one. -/
theorem wp_append_k {o : Oper} {a : Act} {K : Act → World → Prop} {Q : Exit → Act → World → Prop} (s x : Operand) (t : TypeId)
    (ho : o.op = .call { callee := .builtin .append, args := #[s, x], argTypes := #[t, t] })
    (base : Nat) (e : TypeId) (i : TypeInfo) (z : Value) (size bytes : Nat) (ht : P.underlying t = some (.slice e)) (hi : P.info? e = some i) (hz : i.zero = some z)
    (hsize : i.size = size) (hby : i.bytes = bytes) (hzs : z.cells.size = size) (hsz : 0 < size)
    (v : Value) (n : Nat) (xs : List Value) (hs : a.eval s = v) (hown : w.ownsRow base e size v n xs)
    (ad : Option Addr) (m c : Nat) (ys : List Value) (hx : a.eval x = .slice ad m c) (hl : ys.length = m * size) (hcells : ∀ p, ad = some p → ∀ j u, ys[j]? = some u → w.cell? (p.add j) = some u) (hnil : ad = none → m = 0 ∧ c = 0) (h1 : ∀ u ∈ ys, u.oneCell' = true)
    (tot : Nat) (hm : n + m = tot) (h63 : tot ≤ maxLen) (hbytes : tot * bytes ≤ 140737488355328) (hbase : base ≤ w.heap.size)
    (h : ∀ ad' cap w', w'.ownsRow base e size (.slice ad' tot cap) tot (xs ++ ys) → w.grownBy w' v.ownBlock → K (a.put o.dst (.slice ad' tot cap)) w') : o.wp P a w K Q := by
  have h' : ∀ v' w', w'.ownsRow base e size v' (n + m) (xs ++ ys) → w.grownBy w' v.ownBlock → K (a.put o.dst v') w' := by
    intro v' w' h2 h3
    obtain ⟨ad', cap, rfl⟩ := ownsRow_formk h2
    rw [hm] at h2 ⊢
    exact h ad' cap w' h2 h3
  clear h
  subst hm
  cases ad with
  | none =>
    obtain ⟨rfl, rfl⟩ := hnil rfl
    have hy : ys = [] := List.length_eq_zero_iff.1 (by rw [hl]; simp)
    subst hy
    have hrun := run_append_owned_none (P := P) (w := w) base t o.type e i size ht hi v n xs hown
    unfold Oper.wp
    simp [execOp, ho, resolve, invoke, builtin, hs, hx, hrun, Result.andThen]
    exact h' v w (by simpa using hown) ⟨rfl, rfl, rfl, Nat.le_refl _, fun _ _ _ => rfl⟩
  | some p =>
    exact wp_append_own w s x t ho base e i z size bytes ht hi hz hsize hby hzs hsz v n xs hs hown p m c ys hx hl (hcells p rfl) h1 h63 hbytes hbase (fun v' w' h2 h3 _ => h' v' w' h2 h3)
end

/-- append of rules onto a row of the call's own. -/
theorem wp_app_rules {w : World} {o : Oper} {a : Act} {K : Act → World → Prop} {Q : Exit → Act → World → Prop} (s x : Operand)
    (ho : o.op = .call { callee := .builtin .append, args := #[s, x], argTypes := #[44, 44] })
    (base : Nat) (okp ok2 : Nat → Prop) (v : Value) (xs : List RC) (L : List Rl) (hs : a.eval s = v) (h1 : OwnR okp w base v xs L)
    (sv : Value) (M : List Rl) (hx : a.eval x = sv) (h2 : RdsR ok2 w sv M) (hk : ∀ b, ok2 b → okp b) (hp : ∀ b, okp b → v.ownBlock ≠ some b) (tot : Nat) (htot : L.length + M.length = tot)
    (hbytes : tot * 56 ≤ 140737488355328) (hbase : base ≤ w.heap.size)
    (h : ∀ ad cap w' ys, OwnR okp w' base (.slice ad tot cap) (xs ++ ys) (L ++ M) → w.grownBy w' v.ownBlock → K (a.put o.dst (.slice ad tot cap)) w') : o.wp Tryz.prog a w K Q := by
  obtain ⟨i0, hi, hz0, hz1, hz2⟩ := info_parts infoR
  obtain ⟨ad, cap, rfl, _, _⟩ := h2.form
  obtain ⟨ys, hyl, hyc, hyr⟩ := rdsR_cells h2
  refine wp_append_k s x 44 ho base 62 i0 _ 4 56 Tryz.underlying44 hi hz0 hz1 hz2 rfl (by decide) v L.length (cellsR xs) hs h1.row ad M.length cap (cellsR ys) hx (by rw [cellsR_length, hyl]) hyc
    (fun e => by subst e; obtain ⟨e1, e2, e3⟩ := h2.nilcap; exact ⟨e2, e3⟩) (cellsR_one _) tot htot (by unfold maxLen; omega) hbytes hbase fun ad' cap' w' hown hg => h ad' cap' w' ys ⟨?_, ?_, ?_⟩ hg
  · rw [cellsR_append, List.length_append, htot]; exact hown
  · rw [List.length_append, List.length_append, h1.len, hyl]
  · have hbut : But (fun b => v.ownBlock = some b) w w' := ⟨hg.os, hg.tape, hg.output, hg.size, fun k hk hn => hg.block k hk (fun e => hn e.symm)⟩
    intro i h3 h4
    by_cases hlt : i < xs.length
    · rw [List.getElem_append_left hlt, List.getElem_append_left (by rw [← h1.len]; exact hlt)]
      exact (h1.rd i hlt (by rw [← h1.len]; exact hlt)).but hbut hp
    · have e1 : i - xs.length < ys.length := by simp at h3; omega
      rw [List.getElem_append_right (by omega), List.getElem_append_right (by rw [← h1.len]; omega)]
      have := (hyr (i - xs.length) e1 (by omega)).mono hk
      simp only [h1.len] at this ⊢
      exact this.but hbut hp
end Go.Proofs.YtlbelkjgaeaaeaaGreat
