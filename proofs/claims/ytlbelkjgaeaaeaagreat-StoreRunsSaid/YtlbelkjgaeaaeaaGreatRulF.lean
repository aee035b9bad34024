/-
  Walks: slices.Clone at rules; the sort of a row of rules.
-/
import Derived.Test.YtlbelkjgaeaaeaaGreatRulE
namespace Go.Proofs.YtlbelkjgaeaaeaaGreat
open Go.RowKit Go.Shelf Go.Lib Go.Sort
set_option linter.unusedVariables false
set_option linter.unusedSectionVars false

theorem OwnR.form {ok : Nat → Prop} {w : World} {base : Nat} {v : Value} {xs : List RC} {L : List Rl} (h : OwnR ok w base v xs L) : ∃ ad cap, v = .slice ad L.length cap := ownsRow_formk h.row

set_option maxHeartbeats 800000 in
set_option maxRecDepth 20000 in
theorem cloneR_any (ok : Nat → Prop) (v : Value) (L : List Rl) (w : World) (hr : RdsR ok w v L) (hn : L.length * 56 ≤ 140737488355328) :
    Calls Tryz.prog 45 #[v] w fun e w' => ∃ ad c xs, e = .returned (.slice ad L.length c) ∧ OwnR (fun b => ok b ∧ b < w.heap.size) w' w.heap.size (.slice ad L.length c) xs L ∧ Below w.heap.size w w' := by
  have HR := Lib.hid hr.lt
  obtain ⟨ad, cap, rfl, _, hcm⟩ := hr.form
  obtain ⟨len, hlen⟩ : ∃ len, len = L.length := ⟨_, rfl⟩
  rw [← hlen] at HR ⊢
  have HL := Lib.hid hlen
  have HN := Lib.hid hn
  clear hr hn hlen
  unfold maxLen at hcm
  cases ad with
  | none =>
    obtain ⟨e1, e2, e3⟩ := HR.out.nilcap
    subst e2 e3
    have hp := Lib.hid e1
    clear e1
    have hnn : ∀ W : World, (binOp .eql 44 (.slice none 0 0) (.slice none 0 0)).run Tryz.prog W = .ok (.bool true) W := fun W => Lib.run_eql_slice_nil W _ _ _ _ _ _ _ Tryz.underlying44
    go_enter Tryz.func45, Tryz.ntmps45
    go_wp2_with fail
    go_ret
    refine ⟨none, 0, [], rfl, ?_, Below.refl _ _⟩
    rw [hp.out]
    exact ownR_nil _ _ _
  | some a =>
    have hown : OwnR (fun b => ok b ∧ b < w.heap.size) (w.alloc (.cells #[] 62)) w.heap.size (.slice (some ⟨w.heap.size, 0, none⟩) 0 0) [] [] := ⟨lit0_rowE rfl (Nat.le_refl _), rfl, fun i h => absurd h (Nat.not_lt_zero _)⟩
    have HOW := Lib.hid hown
    have hb := (Below.refl w.heap.size w).alloc (Nat.le_refl _) (.cells #[] 62)
    have HR2 := Lib.hid (HR.out.below hb)
    have HB := Lib.hid hb
    clear hb hown
    have hnn : ∀ W : World, (binOp .eql 44 (.slice (some a) len cap) (.slice none 0 0)).run Tryz.prog W = .ok (.bool false) W := fun W => Lib.run_eql_slice_nil W _ _ _ _ _ _ _ Tryz.underlying44
    go_enter Tryz.func45, Tryz.ntmps45
    go_wp2_with (at_builtin; go_loud (refine wpList_plain rfl (fun _ hK => wp_app_rules (.tmp 5) (.tmp 6) rfl w.heap.size (fun b => ok b ∧ b < w.heap.size) _ _ [] [] rfl HOW.out _ L rfl HR2.out (fun _ h => h) (fun b hb e => by have h2 := hb.2; have e2 : w.heap.size = b := Option.some.inj e; omega) len (by have := HL.out; simp; omega) (by have := HL.out; have := HN.out; omega) (by simp) (fun ad2 cap2 w2 ys h2 hg => hK _ _ ?_))); have HO := Lib.hid h2; have HG := Lib.hid hg; clear h2 hg)
    go_ret
    have HG2 : Below w.heap.size w w2 := HB.out.grown HG.out (by simp) (fun k hk => by injection hk with hk; subst hk; exact Nat.le_refl _)
    exact ⟨ad2, cap2, _, rfl, HO.out, HG2⟩

/-! ### The sort -/
theorem heap_putRow_other {α : Type} [Inhabited α] (enc : α → Value) (w : World) (blk off : Nat) (d : Array α) (k : Nat) (hk : k ≠ blk) : (putRow enc w blk off d).heap[k]? = w.heap[k]? := by
  unfold putRow mapBlock
  simp only [Array.getElem?_modify]
  rw [if_neg (by omega)]

theorem swk_but {enc : RC → List Value} {k : Nat} {w0 W : World} {blk off : Nat} {dk : Array RC} (h : SWK enc k w0 blk off dk W) : But (fun b => b = blk) w0 W := by
  obtain ⟨n, os, rfl⟩ := h
  unfold sortWorldK
  have hs : (putRowK enc k (Sort.ahead w0 n) blk off dk).heap.size = w0.heap.size := by rw [size_putRowK]; rfl
  refine ⟨rfl, rfl, rfl, ?_, fun j hj hn => ?_⟩
  · rw [size_grow, hs]; exact Nat.le_add_right _ _
  · rw [heap_grow_old _ _ (by rw [hs]; exact hj)]
    unfold putRowK
    rw [heap_putRow_other _ _ _ _ _ _ hn]
    rfl

theorem ahead_fields {w : World} {n : Nat} : (Sort.ahead w n).heap = w.heap := rfl

theorem rowProg : RowProg Tryz.prog 4 where
  mixed := by kernel_rfl
  t0 := Tryz.underlying0
  a0 := Tryz.isAgg0
  z0 := Tryz.sizeOf0
  v0 := Tryz.zeroValue0
  t3 := Tryz.underlying3
  a3 := Tryz.isAgg3
  z3 := Tryz.sizeOf3
  v3 := Tryz.zeroValue3
  t4 := Tryz.underlying4
  a4 := Tryz.isAgg4
  z4 := Tryz.sizeOf4
  v4 := Tryz.zeroValue4
  ts := Tryz.underlying44
  asl := Tryz.isAgg44
  zs := Tryz.sizeOf44
  vs := Tryz.zeroValue44
  tf := Tryz.underlying137
  af := Tryz.isAgg137
  zf := Tryz.sizeOf137
  vf := Tryz.zeroValue137
  tu := Tryz.underlying155
  au := Tryz.isAgg155
  zu := Tryz.sizeOf155
  vu := Tryz.zeroValue155
  aE := Tryz.isAgg62
  zE := Tryz.sizeOf62
  fSwap := Tryz.func107
  fRot := Tryz.func105
  fSym := Tryz.func96
  fStb := Tryz.func84
  fSort := Tryz.func75

theorem get_list (l : List RC) (i : Nat) (h : i < l.length) : l.toArray[i]! = l[i] := by
  rw [getElem!_pos l.toArray i (by simpa using h)]; simp

theorem flatK_get (l : List RC) (j : Nat) (h : j < l.length * 4) : (flatK encR 4 l.toArray)[j]! = (cellsR l)[j]'(by rw [cellsR_length]; exact h) := by
  rw [get_flatK encR 4 _ _ (by simpa using h), get_list l (j / 4) (by omega)]
  have hi : j / 4 < l.length := by omega
  obtain ⟨g0, g1, g2, g3⟩ := cellsR_get l (j / 4) hi
  have key : ∀ u, (cellsR l)[j]? = some u → (cellsR l)[j]'(by rw [cellsR_length]; exact h) = u := fun u hu => by
    rw [List.getElem?_eq_getElem (by rw [cellsR_length]; exact h)] at hu; exact Option.some.inj hu
  have hm : j % 4 = 0 ∨ j % 4 = 1 ∨ j % 4 = 2 ∨ j % 4 = 3 := by omega
  rcases hm with hm | hm | hm | hm
  · rw [key _ (by rw [← g0]; congr 1; omega), hm]; rfl
  · rw [key _ (by rw [← g1]; congr 1; omega), hm]; rfl
  · rw [key _ (by rw [← g2]; congr 1; omega), hm]; rfl
  · rw [key _ (by rw [← g3]; congr 1; omega), hm]; rfl

theorem OwnR.holds {ok : Nat → Prop} {w : World} {base g cap : Nat} {xs : List RC} {L : List Rl} (h : OwnR ok w base (.slice (some ⟨g, 0, none⟩) L.length cap) xs L) : HoldsK encR 4 w g 0 xs.toArray := by
  intro j hj
  have hj4 : j < xs.length * 4 := by simpa using hj
  have hjL : j < L.length * 4 := by rw [← h.len]; exact hj4
  rw [Nat.zero_add]
  refine ⟨?_, h.row.frozenAt j⟩
  rw [h.row.cellAt j hjL, flatK_get xs j hj4, List.getElem?_eq_getElem]
  rfl

theorem order_enters : ∀ args w, (callFunc 76 args).run Tryz.prog w = .ok (.enter 76 args) w := enters_of Tryz.func76 (by kernel_rfl) rfl

theorem order_lays (blk off size : Nat) (w : World) : CmpLays Tryz.prog 76 #[] encR 4 cfC blk off size w := by
  intro m os dk _ x y
  have := order_any x y (sortWorldK encR 4 w blk off m dk os) (cfC x y) rfl
  exact this

/-- The stable order of a row of rules of the call's own. -/
theorem sortRules {ok : Nat → Prop} {w : World} {base g cap : Nat} {xs : List RC} {L : List Rl} (h : OwnR ok w base (.slice (some ⟨g, 0, none⟩) L.length cap) xs L) (hok : ∀ b, ok b → b ≠ g) (hL : L.length < 2305843009213693952) :
    Calls Tryz.prog 75 #[.slice (some ⟨g, 0, none⟩) L.length cap, .func (.func 76) #[] #[]] w fun e w' => e = .returned (.tuple #[]) ∧ RdsR (fun b => b = g ∨ ok b) w' (.slice (some ⟨g, 0, none⟩) L.length cap) (St.isort Rp.aheadR L) ∧ But (fun b => b = g) w w' := by
  have hlt := (h.row.lt g rfl).2
  have R : RowK encR 4 w g 0 xs.toArray := ⟨encR_len, encR_one, h.holds, hlt⟩
  have hs := sortStable_w rowProg encR cfC 76 #[] g 0 cap L.length w xs h.len order_enters (order_lays _ _ _ _) R (by rw [ltOf_cfC]; exact swoC) hL
  rw [ltOf_cfC] at hs
  refine hs.mono ?_
  rintro e w' ⟨rfl, S⟩
  refine ⟨rfl, ?_, swk_but S⟩
  have hA : All2 (RdC ok w) xs L := All2.of_get h.len h.rd
  have hA2 := hA.isort (lt := aheadC) (lt' := Rp.aheadR) ahead_rdC
  have hlen : (St.isort aheadC xs).length = L.length := by rw [St.length_isort, h.len]
  have HH := S.holds hlt R.hH (by simp [St.length_isort])
  obtain ⟨⟨h1, h2⟩, h3, h4⟩ := h
  have hcap : L.length ≤ cap ∧ cap ≤ maxLen := by
    rcases h2 with ⟨h2, _⟩ | ⟨g', cap', cur, hv, _, _, hn, hc, _⟩
    · cases h2
    · injection hv with _ _ e3; subst e3; exact ⟨hn, hc⟩
  refine ⟨St.isort aheadC xs, some ⟨g, 0, none⟩, L.length, cap, rfl, by rw [St.length_isort], hlen, ⟨hcap.1, fun e => by cases e⟩, hcap.2, okV_some (.inl rfl), ?_, ?_⟩
  · intro i hi
    have hk : ∀ j, j < 4 → w'.cell? ⟨g, 0 + (i * 4 + j), none⟩ = some ((encR (St.isort aheadC xs)[i])[j]!) := fun j hj => by
      have := (HH (i * 4 + j) (by simp; omega)).1
      rw [this, get_flatK encR 4 _ _ (by simp; omega), show (i * 4 + j) / 4 = i by omega, show (i * 4 + j) % 4 = j by omega, get_list _ i hi]
      rfl
    exact ⟨g, 0, rfl, Nat.lt_of_lt_of_le hlt S.le, hk 0 (by omega), hk 1 (by omega), hk 2 (by omega), hk 3 (by omega)⟩
  · intro i hi hi'
    exact ((hA2.get i hi hi').but (swk_but S) hok).mono fun b hb => .inr hb
end Go.Proofs.YtlbelkjgaeaaeaaGreat
