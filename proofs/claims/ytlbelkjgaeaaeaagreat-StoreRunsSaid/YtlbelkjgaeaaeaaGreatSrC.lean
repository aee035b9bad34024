/-
  Walks over package store: what a store holds; New, made, Version, Boot, Restart, Rules.
-/
import Derived.Test.YtlbelkjgaeaaeaaGreatSrB
import Derived.OrdersHeld
import Derived.StillTail
import Derived.Deep.RegionHeld
import Derived.Deep.AppendLies
import Derived.StillTailTactics
import Derived.Test.YtlbelkjgaeaaeaaGreatSrA
import Derived.Test.YtlbelkjgaeaaeaaGreatSrE
namespace Go.Proofs.YtlbelkjgaeaaeaaGreat
open Go.RowKit Go.Shelf Go.Lib Go.Sort
set_option linter.unusedVariables false
set_option linter.unusedSectionVars false
set_option linter.unusedSimpArgs false

theorem Tab.toQ {vo wo t : Nat} {ok : Nat → Prop} {w : World} {v : Value} {L : List Rl} {W : Int} (h : Tab vo wo ok w t v L W) (P : Nat → Prop) (hP : ∀ k, ok k → k < w.heap.size → P k) (ht : ∀ k, P k → k ≠ t) : Tab vo wo P w t v L W :=
  ⟨h.c0, h.c1, h.f0, h.rd.lt.mono fun k hk => hP k hk.1 hk.2, ht, h.lo, h.hi⟩

/-- A store in block sb, its table in block tb: its four cells, and what they read as. -/
structure Sto (ok : Nat → Prop) (base : Nat) (w : World) (sb tb : Nat) (v vo : Value) (us : List Value) (L : List Rl) (W : Int) (ver boot : Nat) (olds : List (List Rl)) : Prop where
  c0 : w.cell? ⟨sb, 0, none⟩ = some (.pointer (some ⟨tb, 0, none⟩))
  c1 : w.cell? ⟨sb, 1, none⟩ = some (.int .u64 ver)
  c2 : w.cell? ⟨sb, 2, none⟩ = some (.int .u32 boot)
  c3 : w.cell? ⟨sb, 3, none⟩ = some vo
  f1 : w.frozen? ⟨sb, 1, none⟩ = false
  f2 : w.frozen? ⟨sb, 2, none⟩ = false
  f3 : w.frozen? ⟨sb, 3, none⟩ = false
  tab : Tab 0 1 ok w tb v L W
  own : w.ownsRow base 44 1 vo us.length us
  len : us.length = olds.length
  rd : ∀ i (h : i < us.length) (h' : i < olds.length), RdsR ok w us[i] olds[i]
  ns : ∀ b, ok b → b ≠ sb
  ne : sb ≠ tb
  nv : ∀ b, vo.ownBlock = some b → ¬ ok b ∧ b ≠ sb ∧ b ≠ tb

theorem Sto.slt {ok : Nat → Prop} {base : Nat} {w : World} {sb tb : Nat} {v vo : Value} {us : List Value} {L : List Rl} {W : Int} {ver boot : Nat} {olds : List (List Rl)} (h : Sto ok base w sb tb v vo us L W ver boot olds) : sb < w.heap.size := cell_lt h.c0

theorem ownsRow_butS {S : Nat → Prop} {w w' : World} {base : Nat} {e : TypeId} {k n : Nat} {v : Value} {xs : List Value} (h : w.ownsRow base e k v n xs) (hb : But S w w') (hs : ∀ b, v.ownBlock = some b → ¬ S b) : w'.ownsRow base e k v n xs := by
  obtain ⟨h1, h2⟩ := h
  refine ⟨h1, h2.imp id ?_⟩
  rintro ⟨g, cap, cur, hv, hg, hh, r⟩
  exact ⟨g, cap, cur, hv, hg, (hb.block g ((Array.getElem?_eq_some_iff.1 hh).1) (hs g (by rw [hv]; rfl))).trans hh, r⟩

theorem Sto.but {ok S : Nat → Prop} {base : Nat} {w w' : World} {sb tb : Nat} {v vo : Value} {us : List Value} {L : List Rl} {W : Int} {ver boot : Nat} {olds : List (List Rl)} (h : Sto ok base w sb tb v vo us L W ver boot olds) (hb : But S w w') (h1 : ¬ S sb) (h2 : ¬ S tb) (h3 : ∀ b, ok b → ¬ S b) (h4 : ∀ b, vo.ownBlock = some b → ¬ S b) : Sto ok base w' sb tb v vo us L W ver boot olds := by
  have hl := h.slt
  exact ⟨(hb.cell (p := ⟨sb, 0, none⟩) hl h1).trans h.c0, (hb.cell (p := ⟨sb, 1, none⟩) hl h1).trans h.c1, (hb.cell (p := ⟨sb, 2, none⟩) hl h1).trans h.c2, (hb.cell (p := ⟨sb, 3, none⟩) hl h1).trans h.c3, (hb.frozen (p := ⟨sb, 1, none⟩) hl h1).trans h.f1, (hb.frozen (p := ⟨sb, 2, none⟩) hl h1).trans h.f2, (hb.frozen (p := ⟨sb, 3, none⟩) hl h1).trans h.f3,
    h.tab.but hb h2 h3, ownsRow_butS h.own hb h4, h.len, fun i a b => (h.rd i a b).but hb h3, h.ns, h.ne, h.nv⟩
theorem Sto.below {ok : Nat → Prop} {base : Nat} {w w' : World} {sb tb : Nat} {v vo : Value} {us : List Value} {L : List Rl} {W : Int} {ver boot : Nat} {olds : List (List Rl)} (h : Sto ok base w sb tb v vo us L W ver boot olds) (hb : Below w.heap.size w w') : Sto ok base w' sb tb v vo us L W ver boot olds :=
  h.but (S := fun _ => False) (But.below hb) (fun h => h) (fun h => h) (fun _ _ h => h) (fun _ _ h => h)

set_option maxHeartbeats 800000 in
set_option maxRecDepth 20000 in
theorem made_sto {ok : Nat → Prop} {base : Nat} {w : World} {sb tb : Nat} {v vo : Value} {us : List Value} {L : List Rl} {W : Int} {ver boot : Nat} {olds : List (List Rl)} (h : Sto ok base w sb tb v vo us L W ver boot olds) :
    Calls Tryz.prog 25 #[.pointer (some ⟨sb, 0, none⟩)] w fun e w' => e = .returned (.bool true) ∧ w = w' := by
  have c0 := h.c0
  clear h
  go_enter Tryz.func25, Tryz.ntmps25
  go_wp2_with fail
  go_ret
  exact ⟨rfl, rfl⟩

set_option maxHeartbeats 800000 in
set_option maxRecDepth 20000 in
theorem version_sto {ok : Nat → Prop} {base : Nat} {w : World} {sb tb : Nat} {v vo : Value} {us : List Value} {L : List Rl} {W : Int} {ver boot : Nat} {olds : List (List Rl)} (h : Sto ok base w sb tb v vo us L W ver boot olds) :
    Calls Tryz.prog 8 #[.pointer (some ⟨sb, 0, none⟩)] w fun e w' => e = .returned (.int .u64 ver) ∧ w = w' := by
  have HM := Lib.hid (made_sto h)
  have c1 := h.c1
  clear h
  go_enter Tryz.func8, Tryz.ntmps8
  go_wp2_with fail
  refine HM.out.mono ?_
  rintro e w1 ⟨rfl, rfl⟩
  go_wp2_with fail
  go_ret
  exact ⟨rfl, rfl⟩

set_option maxHeartbeats 800000 in
set_option maxRecDepth 20000 in
theorem rules_sto {ok : Nat → Prop} {base : Nat} {w : World} {sb tb : Nat} {v vo : Value} {us : List Value} {L : List Rl} {W : Int} {ver boot : Nat} {olds : List (List Rl)} (h : Sto ok base w sb tb v vo us L W ver boot olds) (hL : L.length ≤ 4096) :
    Calls Tryz.prog 11 #[.pointer (some ⟨sb, 0, none⟩)] w fun e w' => ∃ ad c, e = .returned (.slice ad L.length c) ∧ RdsR (fun b => w.heap.size ≤ b) w' (.slice ad L.length c) L ∧ Below w.heap.size w w' := by
  have HM := Lib.hid (made_sto h)
  have HR := Lib.hid (rules_tab h.tab hL)
  have c0 := h.c0
  clear h
  go_enter Tryz.func11, Tryz.ntmps11
  go_wp2_with fail
  refine HM.out.mono ?_
  rintro e w1 ⟨rfl, rfl⟩
  go_wp2_with fail
  refine HR.out.mono ?_
  rintro e w2 ⟨ad, c, rfl, hr, hb⟩
  have HRd := Lib.hid hr
  have HB := Lib.hid hb
  clear hr hb
  go_wp2_with fail
  go_ret
  exact ⟨ad, c, rfl, HRd.out, HB.out⟩

set_option maxHeartbeats 800000 in
set_option maxRecDepth 20000 in
theorem boot_sto {ok : Nat → Prop} {base : Nat} {w : World} {sb tb : Nat} {v vo : Value} {us : List Value} {L : List Rl} {W : Int} {ver boot : Nat} {olds : List (List Rl)} (h : Sto ok base w sb tb v vo us L W ver boot olds) :
    Calls Tryz.prog 9 #[.pointer (some ⟨sb, 0, none⟩)] w fun e w' => e = .returned (.int .u32 boot) ∧ w = w' := by
  have HM := Lib.hid (made_sto h)
  have c2 := h.c2
  clear h
  go_enter Tryz.func9, Tryz.ntmps9
  go_wp2_with fail
  refine HM.out.mono ?_
  rintro e w1 ⟨rfl, rfl⟩
  go_wp2_with fail
  go_ret
  exact ⟨rfl, rfl⟩

set_option maxHeartbeats 1600000 in
set_option maxRecDepth 20000 in
theorem restart_sto {ok : Nat → Prop} {base : Nat} {w : World} {sb tb : Nat} {v vo : Value} {us : List Value} {L : List Rl} {W : Int} {ver boot : Nat} {olds : List (List Rl)} (h : Sto ok base w sb tb v vo us L W ver boot olds) (hb : boot < 4294967295) :
    Calls Tryz.prog 17 #[.pointer (some ⟨sb, 0, none⟩)] w fun e w' => e = .returned (.tuple #[.int .u32 ((boot : Int) + 1), .int .i64 0]) ∧ Sto ok base w' sb tb v vo us L W ver (boot + 1) olds ∧ But (fun b => b = sb) w w' := by
  have HM := Lib.hid (made_sto h)
  have c2 := h.c2
  have f2 := h.f2
  have H := Lib.hid h
  have hz : ((boot : Int) == 4294967295) = false := by simp; omega
  have hw1 : IntKind.u32.wrap ((boot : Int) + 1) = (boot : Int) + 1 := by
    unfold IntKind.wrap
    simp [IntKind.signed, IntKind.bits]
    omega
  clear h
  go_enter Tryz.func17, Tryz.ntmps17
  go_wp2_with fail
  refine HM.out.mono ?_
  rintro e w1 ⟨rfl, rfl⟩
  go_wp2_with fail
  go_ret2
  have ho : ∀ i, i ≠ 2 → (⟨sb, 2, none⟩ : Addr) ≠ ⟨sb, i, none⟩ := fun i hi e => hi (by injection e with _ e _; exact e.symm)
  have hbt : But (fun b => b = sb) w (w.setCell ⟨sb, 2, none⟩ (.int .u32 ((boot : Int) + 1))) := But.set (S := fun b => b = sb) (a := ⟨sb, 2, none⟩) rfl _
  have h0 := H.out
  refine ⟨rfl, ⟨(cell_set_other _ (ho 0 (by omega))).trans h0.c0, (cell_set_other _ (ho 1 (by omega))).trans h0.c1, cell_set_same _ h0.c2, (cell_set_other _ (ho 3 (by omega))).trans h0.c3, ?_, ?_, ?_, h0.tab.but hbt (fun e => h0.ne e.symm) (fun b hb e => h0.ns b hb e), ownsRow_butS h0.own hbt (fun b hb e => (h0.nv b hb).2.1 e), h0.len, fun i a b => (h0.rd i a b).but hbt (fun b hb e => h0.ns b hb e), h0.ns, h0.ne, h0.nv⟩, hbt⟩
  · rw [World.frozen?_setCell]; exact h0.f1
  · rw [World.frozen?_setCell]; exact h0.f2
  · rw [World.frozen?_setCell]; exact h0.f3

set_option maxHeartbeats 800000 in
set_option maxRecDepth 20000 in
theorem snew_bad (W : Int) (w : World) (h : W < 1 ∨ W > 128) :
    Calls Tryz.prog 4 #[.int .i64 W] w fun e w' => e = .returned (.tuple #[.pointer none, .int .i64 1]) ∧ w = w' := by
  have HN := Lib.hid (fun w => new_bad W w h)
  clear h
  go_enter Tryz.func4, Tryz.ntmps4
  go_wp2_with fail
  refine (HN.out _).mono ?_
  rintro e w1 ⟨rfl, rfl⟩
  go_wp2_with fail
  go_ret2
  exact ⟨rfl, rfl⟩

set_option maxHeartbeats 1600000 in
set_option maxRecDepth 20000 in
theorem snew_ok (W : Int) (w : World) (base : Nat) (hbase : base ≤ w.heap.size) (h1 : 1 ≤ W) (h2 : W ≤ 128) :
    Calls Tryz.prog 4 #[.int .i64 W] w fun e w' => e = .returned (.tuple #[.pointer (some ⟨w.heap.size + 2, 0, none⟩), .int .i64 0]) ∧
      Sto (fun _ => False) base w' (w.heap.size + 2) w.heap.size (.slice none 0 0) (.slice (some ⟨w.heap.size + 1, 0, none⟩) 1 1) [.slice none 0 0] [] W 0 1 [[]] ∧ Below w.heap.size w w' ∧ w'.heap.size = w.heap.size + 3 := by
  have HN := Lib.hid (fun w => new_ok W w h1 h2)
  have H1 := Lib.hid h1
  have H2 := Lib.hid h2
  clear h1 h2
  go_enter Tryz.func4, Tryz.ntmps4
  go_wp2_with fail
  refine (HN.out _).mono ?_
  rintro e w1 ⟨rfl, rfl⟩
  go_wp2_with fail
  go_ret2
  have hb1 : Below w.heap.size w (w.alloc (.cells #[.slice none 0 0, .int .i64 W] 89)) := (Below.refl _ _).alloc (Nat.le_refl _) _
  refine ⟨by simp, ⟨?_, ?_, ?_, ?_, ?_, ?_, ?_, ?_, ?_, rfl, ?_, fun b h => h.elim, by omega, ?_⟩, (hb1.alloc (by simp) _).alloc (by simp; omega) _, by simp⟩
  · simp [go_sem]
  · simp [go_sem]
  · simp [go_sem]
  · simp [go_sem]
  · simp [go_sem]
  · simp [go_sem]
  · simp [go_sem]
  · exact (((tab_new w W H1.out H2.out).below ((Below.refl _ _).alloc (Nat.le_refl _) _)).below ((Below.refl _ _).alloc (Nat.le_refl _) _)).mono (fun _ h => h.elim) (fun _ h => h.elim)
  · refine ⟨rfl, .inr ⟨w.heap.size + 1, 1, #[.slice none 0 0], rfl, by omega, ?_, Nat.le_refl _, by unfold maxLen; omega, rfl, rfl⟩⟩
    have h3 : (w.alloc (.cells #[.slice none 0 0, .int .i64 W] 89)).heap.size = w.heap.size + 1 := by simp
    have h4 := heap_alloc_new (w.alloc (.cells #[.slice none 0 0, .int .i64 W] 89)) (.cells #[.slice none 0 0] 44)
    rw [h3] at h4
    exact (Below.heap_alloc _ _ _ (by simp)).trans h4
  · intro i h h'
    have : i = 0 := by simpa using h
    subst this
    exact ⟨[], none, 0, 0, rfl, rfl, rfl, ⟨Nat.le_refl _, fun _ => rfl⟩, Nat.zero_le _, okV_nil _ _ _, fun i h => absurd h (Nat.not_lt_zero _), fun i h => absurd h (Nat.not_lt_zero _)⟩
  · intro b hb
    injection hb with hb
    have hb : w.heap.size + 1 = b := hb
    subst hb
    exact ⟨fun h => h, by omega, by omega⟩
end Go.Proofs.YtlbelkjgaeaaeaaGreat
/-
  A region that draws its order, whose last store writes a cell that the region loads: what it loads is held till that store.
-/
namespace Go

section
variable {P : Program} {ops : Array Oper} {Q : Exit → Act → World → Prop} {md : Region.Mode} {S : World → Prop} {z : Nat}

/-- Whatever order is picked from here on, and S holds behind every operation as long as number z has not come up. -/
def wpAnyG (P : Program) (md : Region.Mode) (ops : Array Oper) (Q : Exit → Act → World → Prop) (S : World → Prop) (z : Nat) : Nat → Array Bool → Act → World → Prop
  | 0, listed, a, w => Region.ready md ops listed = [] ∧ Q .normal a w
  | fuel + 1, listed, a, w =>
    (Region.ready md ops listed = [] → Q .normal a w) ∧
    ∀ i ∈ Region.ready md ops listed, wpOp P ops Q i (fun a' w' => ((listed.setIfInBounds i true).getD z false = false → S w') ∧ wpAnyG P md ops Q S z fuel (listed.setIfInBounds i true) a' w') a w

theorem wpAny_of_heldG : ∀ (fuel : Nat) (listed : Array Bool) (a : Act) (w : World), wpAnyG P md ops Q S z fuel listed a w → wpAny P md ops Q fuel listed a w
  | 0, _, _, _, h => h
  | fuel + 1, _, _, _, h => ⟨h.1, fun i hi => wpOp_mono (fun a' w' h' => wpAny_of_heldG fuel _ a' w' h'.2) (h.2 i hi)⟩

theorem not_ready_of {i : Nat} {oj : Oper} {listed : Array Bool} (hun : listed.getD i true = false) (hall : ∀ e ∈ oj.after, Region.binds md e = true → listed.getD e.on false = true) : ∀ e ∈ oj.after, Region.binds md e = true → e.on ≠ i := by
  intro e he hb heq
  have h1 := hall e he hb
  rw [heq, getD_both hun] at h1
  cases h1

/-- An operation that yields its value in whatever world. -/
theorem wpAnyG_firstP {i : Nat} {oi : Oper} {v : Value} (hi : ops[i]? = some oi) (hiz : i ≠ z) (hsel : ∀ (j : Nat) (o : Oper) cs b, ops[j]? = some o → o.op ≠ .select cs b)
    (hQ : ∀ c a w, Q (.panic c) (a.put oi.dst v) w → Q (.panic c) a w) :
    ∀ (fuel : Nat) (listed : Array Bool) (a : Act) (w : World),
      (∀ j oj, ops[j]? = some oj → j ≠ i → listed.getD j true = false → (∀ e ∈ oj.after, Region.binds md e = true → e.on ≠ i) → oi.apart ops oj = true) →
      i ∈ Region.ready md ops listed → YieldsIf P ops (fun _ => True) oi v a → (listed.getD z false = false → S w) →
      wpAnyG P md ops Q S z fuel (listed.setIfInBounds i true) (a.put oi.dst v) w → wpAnyG P md ops Q S z (fuel + 1) listed a w := by
  intro fuel
  induction fuel with
  | zero =>
    intro listed a w _ hr hy hS H
    refine ⟨fun h => (by rw [h] at hr; cases hr), fun j hj => ?_⟩
    by_cases hji : j = i
    · subst hji; exact hy.wpOp hi trivial ⟨fun h => hS (by rwa [getD_set_ne false hiz] at h), H⟩
    · have := ready_mono hj hji
      rw [H.1] at this
      cases this
  | succ fuel ih =>
    intro listed a w hfree hr hy hS H
    refine ⟨fun h => (by rw [h] at hr; cases hr), fun j hj => ?_⟩
    by_cases hji : j = i
    · subst hji; exact hy.wpOp hi trivial ⟨fun h => hS (by rwa [getD_set_ne false hiz] at h), H⟩
    · have h1 := H.2 j (ready_mono hj hji)
      obtain ⟨hjun, oj, hoj, hall⟩ := mem_ready.1 hj
      have hnot := not_ready_of (mem_ready.1 hr).1 hall
      have h2 := wpOp_putIf hoj (hfree j oj hoj hji hjun hnot) (fun cs b => hsel i oi cs b hi) (fun cs b => hsel j oj cs b hoj) hQ hy h1
      have hfree' : ∀ k ok, ops[k]? = some ok → k ≠ i → (listed.setIfInBounds j true).getD k true = false →
          (∀ e ∈ ok.after, Region.binds md e = true → e.on ≠ i) → oi.apart ops ok = true := fun k ok hk hki hun hno => by
        refine hfree k ok hk hki ?_ hno
        by_cases hjk : j = k
        · subst hjk; exact hjun
        · rw [getD_set_ne true hjk] at hun; exact hun
      have hc : (listed.setIfInBounds j true).setIfInBounds i true = (listed.setIfInBounds i true).setIfInBounds j true := Array.setIfInBounds_comm _ _ hji
      have hSz : ∀ w', (((listed.setIfInBounds i true).setIfInBounds j true).getD z false = false → S w') → ((listed.setIfInBounds j true).getD z false = false → S w') := fun w' h h0 => h (by rw [← hc, getD_set_ne false hiz]; exact h0)
      refine wpOp_mono (fun a' w' h3 => ⟨hSz w' h3.2.1, ih (listed.setIfInBounds j true) a' w' hfree' (ready_mono hr (Ne.symm hji)) h3.1 (hSz w' h3.2.1) ?_⟩) h2
      rw [hc]
      exact h3.2.2

/-- An operation that yields its value in every world that meets S, and for which number z waits. -/
theorem wpAnyG_firstL {i : Nat} {oi : Oper} {v : Value} (hi : ops[i]? = some oi) (hiz : i ≠ z) (hwait : Region.waitsFor md ops z i = true) (hsel : ∀ (j : Nat) (o : Oper) cs b, ops[j]? = some o → o.op ≠ .select cs b)
    (hQ : ∀ c a w, Q (.panic c) (a.put oi.dst v) w → Q (.panic c) a w) :
    ∀ (fuel : Nat) (listed : Array Bool) (a : Act) (w : World), listed.getD z false = false →
      (∀ j oj, ops[j]? = some oj → j ≠ i → listed.getD j true = false → (∀ e ∈ oj.after, Region.binds md e = true → e.on ≠ i) → oi.apart ops oj = true) →
      i ∈ Region.ready md ops listed → YieldsIf P ops S oi v a → S w →
      wpAnyG P md ops Q S z fuel (listed.setIfInBounds i true) (a.put oi.dst v) w → wpAnyG P md ops Q S z (fuel + 1) listed a w := by
  intro fuel
  induction fuel with
  | zero =>
    intro listed a w _ _ hr hy hS H
    refine ⟨fun h => (by rw [h] at hr; cases hr), fun j hj => ?_⟩
    by_cases hji : j = i
    · subst hji; exact hy.wpOp hi hS ⟨fun _ => hS, H⟩
    · have := ready_mono hj hji
      rw [H.1] at this
      cases this
  | succ fuel ih =>
    intro listed a w hz hfree hr hy hS H
    refine ⟨fun h => (by rw [h] at hr; cases hr), fun j hj => ?_⟩
    by_cases hji : j = i
    · subst hji; exact hy.wpOp hi hS ⟨fun _ => hS, H⟩
    · have h1 := H.2 j (ready_mono hj hji)
      obtain ⟨hjun, oj, hoj, hall⟩ := mem_ready.1 hj
      have hnot := not_ready_of (mem_ready.1 hr).1 hall
      have hjz : j ≠ z := by
        intro e
        subst e
        obtain ⟨o', ho', e, he, hb, hon⟩ := Region.waitsFor_spec hwait
        have : o' = oj := Option.some.inj (ho'.symm.trans hoj)
        subst this
        exact hnot e he hb hon
      have h2 := wpOp_putIf hoj (hfree j oj hoj hji hjun hnot) (fun cs b => hsel i oi cs b hi) (fun cs b => hsel j oj cs b hoj) hQ hy h1
      have hfree' : ∀ k ok, ops[k]? = some ok → k ≠ i → (listed.setIfInBounds j true).getD k true = false →
          (∀ e ∈ ok.after, Region.binds md e = true → e.on ≠ i) → oi.apart ops ok = true := fun k ok hk hki hun hno => by
        refine hfree k ok hk hki ?_ hno
        by_cases hjk : j = k
        · subst hjk; exact hjun
        · rw [getD_set_ne true hjk] at hun; exact hun
      have hc : (listed.setIfInBounds j true).setIfInBounds i true = (listed.setIfInBounds i true).setIfInBounds j true := Array.setIfInBounds_comm _ _ hji
      have hzj : (listed.setIfInBounds j true).getD z false = false := by rw [getD_set_ne false hjz]; exact hz
      have hzij : ((listed.setIfInBounds i true).setIfInBounds j true).getD z false = false := by rw [← hc, getD_set_ne false hiz]; exact hzj
      refine wpOp_mono (fun a' w' h3 => ⟨fun _ => h3.2.1 hzij, ih (listed.setIfInBounds j true) a' w' hzj hfree' (ready_mono hr (Ne.symm hji)) h3.1 (h3.2.1 hzij) ?_⟩) h2
      rw [hc]
      exact h3.2.2

def Region.okP (md : Region.Mode) (ops : Array Oper) (z : Nat) (listed : Array Bool) (i : Nat) : Bool :=
  Region.noSelect ops && Region.free md ops listed i && (Region.ready md ops listed).contains i && i != z
def Region.okL (md : Region.Mode) (ops : Array Oper) (z : Nat) (listed : Array Bool) (i : Nat) : Bool :=
  Region.okP md ops z listed i && Region.waitsFor md ops z i && !listed.getD z false

/-- Take number i first: it yields its value in whatever world. -/
theorem wpAnyG_takeP (i : Nat) {oi : Oper} {v : Value} {fuel : Nat} {listed : Array Bool} {a : Act} {w : World} (hi : ops[i]? = some oi) (hb : Region.okP md ops z listed i = true)
    (hQ : ∀ c a w, Q (.panic c) (a.put oi.dst v) w → Q (.panic c) a w) (hw : Region.wanted oi (yielded ops a.tmps) = true) (hy : ∀ w, (execOp a.eval oi).run P w = .ok (.value v) w) (hS : S w)
    (h : wpAnyG P md ops Q S z fuel (listed.setIfInBounds i true) (a.put oi.dst v) w) : wpAnyG P md ops Q S z (fuel + 1) listed a w := by
  simp only [Region.okP, Bool.and_eq_true, bne_iff_ne] at hb
  obtain ⟨⟨⟨h1, h2⟩, h3⟩, h4⟩ := hb
  exact wpAnyG_firstP hi h4 (Region.noSelect_spec h1) hQ fuel listed a w (Region.free_spec hi h2) (by simpa using h3) (.inl ⟨hw, fun w _ => hy w⟩) (fun _ => hS) h

/-- Take number i first: a load of what S tells. -/
theorem wpAnyG_takeL (i : Nat) {oi : Oper} {v : Value} {fuel : Nat} {listed : Array Bool} {a : Act} {w : World} (hi : ops[i]? = some oi) (hb : Region.okL md ops z listed i = true)
    (hQ : ∀ c a w, Q (.panic c) (a.put oi.dst v) w → Q (.panic c) a w) (hw : Region.wanted oi (yielded ops a.tmps) = true) (hy : ∀ w, S w → (execOp a.eval oi).run P w = .ok (.value v) w) (hS : S w)
    (h : wpAnyG P md ops Q S z fuel (listed.setIfInBounds i true) (a.put oi.dst v) w) : wpAnyG P md ops Q S z (fuel + 1) listed a w := by
  simp only [Region.okL, Region.okP, Bool.and_eq_true, bne_iff_ne, Bool.not_eq_true'] at hb
  obtain ⟨⟨⟨⟨⟨h1, h2⟩, h3⟩, h4⟩, h5⟩, h6⟩ := hb
  exact wpAnyG_firstL hi h4 h5 (Region.noSelect_spec h1) hQ fuel listed a w h6 (Region.free_spec hi h2) (by simpa using h3) (.inl ⟨hw, hy⟩) hS h

/-- One operation alone may come up: it is carried out. -/
theorem wpAnyG_one (i : Nat) {oi : Oper} {fuel : Nat} {listed : Array Bool} {a : Act} {w : World} (hi : ops[i]? = some oi) (hr : Region.ready md ops listed = [i])
    (h : ∀ K : Act → World → Prop, (∀ a w, ((listed.setIfInBounds i true).getD z false = false → S w) → wpAnyG P md ops Q S z fuel (listed.setIfInBounds i true) a w → K a w) → if Region.wanted oi (yielded ops a.tmps) = true then Oper.wp P oi a w K Q else K (a.put oi.dst undef) w) :
    wpAnyG P md ops Q S z (fuel + 1) listed a w := by
  refine ⟨fun h0 => (by rw [hr] at h0; cases h0), fun j hj => ?_⟩
  rw [hr] at hj
  obtain rfl : j = i := by simpa using hj
  exact wpOp_step hi (fun K' hK => h K' (fun a w h1 h2 => hK a w ⟨h1, h2⟩))

/-- All have come up. -/
theorem wpAnyG_done {listed : Array Bool} {a : Act} {w : World} (hr : Region.ready md ops listed = []) (h : Q .normal a w) : ∀ fuel, wpAnyG P md ops Q S z fuel listed a w
  | 0 => ⟨hr, h⟩
  | _ + 1 => ⟨fun _ => h, by rw [hr]; simp⟩

/-- The beginning. -/
theorem wp_region_heldG (S : World → Prop) (z : Nat) {id : Nat} {a : Act} {w : World} (hm : P.follows .mixedOrders = true)
    (h : wpAnyG P .any ops Q S z ops.size (Array.replicate ops.size false) a w.drew) : (Code.region id ops true).wp P Q a w :=
  wp_region_any hm (wpAny_of_heldG _ _ _ _ h)
end
end Go
/-
  Walks over package store: Install.
-/
namespace Go.Proofs.YtlbelkjgaeaaeaaGreat
open Go.RowKit Go.Shelf Go.Lib Go.Sort
set_option linter.unusedVariables false
set_option linter.unusedSectionVars false
set_option linter.unusedSimpArgs false
attribute [local go_sem] Oper.semAt_some

theorem infoRls : (Tryz.prog.info? 44).map (fun i => (i.zero, i.size, i.bytes)) = some (some (.slice none 0 0), 1, 24) := by kernel_rfl

theorem ownsRow_slice {w : World} {b : Nat} {e : TypeId} {k : Nat} {v : Value} {n : Nat} {xs : List Value} (h : w.ownsRow b e k v n xs) : ∃ ad cap, v = .slice ad n cap ∧ ∀ a, ad = some a → b ≤ a.block ∧ v.ownBlock = some a.block := by
  rcases h.2 with ⟨h1, h2⟩ | ⟨g, cap, cur, hv, hg, _⟩
  · exact ⟨none, 0, by rw [h1, h2], fun a h => by cases h⟩
  · exact ⟨_, cap, hv, fun a h => by injection h with h; subst h; exact ⟨hg, by rw [hv]; rfl⟩⟩

/-- Another table in the same store. -/
theorem Sto.setTab {ok ok' S : Nat → Prop} {base : Nat} {w w' : World} {sb tb : Nat} {v v' vo : Value} {us : List Value} {L L' : List Rl} {W : Int} {ver boot : Nat} {olds : List (List Rl)} (h : Sto ok base w sb tb v vo us L W ver boot olds) (hb : But S w w') (h1 : ¬ S sb) (h3 : ∀ b, ok b → ¬ S b) (h4 : ∀ b, vo.ownBlock = some b → ¬ S b)
    (hT : Tab 0 1 ok' w' tb v' L' W) (hk : ∀ b, ok b → b < w.heap.size → ok' b) (hns : ∀ b, ok' b → b ≠ sb) (hnv : ∀ b, vo.ownBlock = some b → ¬ ok' b) : Sto ok' base w' sb tb v' vo us L' W ver boot olds := by
  have hl := h.slt
  exact ⟨(hb.cell (p := ⟨sb, 0, none⟩) hl h1).trans h.c0, (hb.cell (p := ⟨sb, 1, none⟩) hl h1).trans h.c1, (hb.cell (p := ⟨sb, 2, none⟩) hl h1).trans h.c2, (hb.cell (p := ⟨sb, 3, none⟩) hl h1).trans h.c3, (hb.frozen (p := ⟨sb, 1, none⟩) hl h1).trans h.f1, (hb.frozen (p := ⟨sb, 2, none⟩) hl h1).trans h.f2, (hb.frozen (p := ⟨sb, 3, none⟩) hl h1).trans h.f3,
    hT, ownsRow_butS h.own hb h4, h.len, fun i a b => (((h.rd i a b).lt.but hb fun k hk' => h3 k hk'.1).mono fun k hk' => hk k hk'.1 hk'.2), hns, h.ne, fun b hb => ⟨hnv b hb, (h.nv b hb).2⟩⟩

theorem own_lt {w : World} {base : Nat} {e : TypeId} {k n : Nat} {v : Value} {xs : List Value} (h : w.ownsRow base e k v n xs) {b : Nat} (hb : v.ownBlock = some b) : base ≤ b ∧ b < w.heap.size := by
  rcases h.2 with ⟨h1, _⟩ | ⟨g, cap, cur, hv, hg, hh, _⟩
  · rw [h1] at hb; cases hb
  · rw [hv] at hb
    injection hb with hb
    have hb : g = b := hb
    subst hb
    exact ⟨hg, (Array.getElem?_eq_some_iff.1 hh).1⟩

/-- A refused install. -/
theorem install_bad {ok ok2 : Nat → Prop} {base : Nat} {w : World} {sb tb : Nat} {v vo : Value} {us : List Value} {L : List Rl} {W : Int} {ver boot : Nat} {olds : List (List Rl)} (h : Sto ok base w sb tb v vo us L W ver boot olds) {cv : Value} {m : List (Int × Rl)} (hc : RdsC ok2 w cv m) (hm : m.length * 64 ≤ 140737488351232) (hm0 : m ≠ []) (hL : Fb.Ok W L) (hd : ¬ (Fb.doL W L m 0).2.2 = 0) :
    Calls Tryz.prog 15 #[.pointer (some ⟨sb, 0, none⟩), cv] w fun e w' => e = .returned (.tuple #[.int .u64 0, .int .i64 (Fb.doL W L m 0).2.1, .int .i64 (Fb.doL W L m 0).2.2]) ∧ (∃ v', Sto (okNew ok w) base w' sb tb v' vo us L W ver boot olds) ∧ But (fun b => b = tb) w w' := by
  have HM := Lib.hid (made_sto h)
  have HD := Lib.hid (do_tab h.tab hc hm hL)
  obtain ⟨ad, cap, rfl, _, _⟩ := hc.form
  have c0 := h.c0
  have H := Lib.hid h
  have hE : Fb.endL W L m = L := by
    unfold Fb.endL
    cases e : (Fb.doL W L m 0).1 with
    | none => rfl
    | some L' => exact absurd (Fb.doL_err.2 (by rw [e]; rfl)) hd
  have HE := Lib.hid hE
  have hz : ((m.length : Int) == 0) = false := by
    have := List.length_pos_iff.2 hm0
    simp; omega
  have hz2 : (m.length == 0) = false := by simpa using hm0
  obtain ⟨j, hj⟩ : ∃ j, (Fb.doL W L m 0).2.1 = j := ⟨_, rfl⟩
  obtain ⟨q, hq⟩ : ∃ q, (Fb.doL W L m 0).2.2 = q := ⟨_, rfl⟩
  rw [hj, hq] at HD
  rw [hj, hq]
  rw [hq] at hd
  have hqz : (q == 0) = false := by simpa using hd
  have hqz2 : (q != 0) = true := by simpa using hd
  have hslt := h.slt
  clear h hc hE hj hq hm0
  go_enter Tryz.func15, Tryz.ntmps15
  go_wp2_with fail
  refine HM.out.mono ?_
  rintro e w1 ⟨rfl, rfl⟩
  go_wp2_with fail
  refine HD.out.mono ?_
  rintro e w2 ⟨rfl, ⟨v', hT⟩, hbt⟩
  have HT := Lib.hid hT
  have HB := Lib.hid hbt
  clear hT hbt
  go_wp2_with fail
  refine bodyPost_ret (v := .tuple #[.int .u64 0, .int .i64 j, .int .i64 q]) (by simp [results, go_sem]) rfl ?_
  refine ⟨rfl, ⟨v', ?_⟩, HB.out⟩
  have h0 := H.out
  have hT := HT.out
  rw [HE.out] at hT
  refine h0.setTab HB.out h0.ne (fun b hb e => h0.tab.no b hb e) (fun b hb e => (h0.nv b hb).2.2 e) hT (fun b hb hl => .inl ⟨hb, hl⟩) ?_ ?_
  · rintro b (⟨hb, _⟩ | hb)
    · exact h0.ns b hb
    · omega
  · rintro b hb (⟨h1, _⟩ | h1)
    · exact (h0.nv b hb).1 h1
    · have := (own_lt h0.own hb).2
      omega

set_option maxHeartbeats 6400000 in
set_option maxRecDepth 20000 in
/-- An install that makes a version. -/
theorem install_good {ok ok2 : Nat → Prop} {base : Nat} {w : World} {sb tb : Nat} {v vo : Value} {us : List Value} {L : List Rl} {W : Int} {ver boot : Nat} {olds : List (List Rl)} (h : Sto ok base w sb tb v vo us L W ver boot olds) {cv : Value} {m : List (Int × Rl)} (hc : RdsC ok2 w cv m) (hm : m.length * 64 ≤ 140737488351232) (hm0 : m ≠ []) (hL : Fb.Ok W L) (hd : (Fb.doL W L m 0).2.2 = 0)
    (hv : ver ≤ 1000000) (ho : olds.length < 4096) (hbase : base ≤ w.heap.size) :
    Calls Tryz.prog 15 #[.pointer (some ⟨sb, 0, none⟩), cv] w fun e w' => e = .returned (.tuple #[.int .u64 ((ver : Int) + 1), .int .i64 0, .int .i64 0]) ∧
      (∃ v' vo' us', Sto (fun b => okNew ok w b ∧ vo'.ownBlock ≠ some b) base w' sb tb v' vo' us' (Fb.endL W L m) W (ver + 1) boot (olds ++ [Fb.endL W L m]) ∧ (∀ b, vo'.ownBlock = some b → vo.ownBlock = some b ∨ w.heap.size ≤ b)) ∧ But (fun b => b = sb ∨ b = tb ∨ vo.ownBlock = some b) w w' := by
  have HM := Lib.hid (made_sto h)
  have HD := Lib.hid (do_tab h.tab hc hm hL)
  obtain ⟨ad, cap, rfl, _, _⟩ := hc.form
  have c0 := h.c0
  have H := Lib.hid h
  have hz : ((m.length : Int) == 0) = false := by
    have := List.length_pos_iff.2 hm0
    simp; omega
  have hz2 : (m.length == 0) = false := by simpa using hm0
  rw [hd] at HD
  have hOk := hL.end_ m
  obtain ⟨E, hE⟩ : ∃ E, Fb.endL W L m = E := ⟨_, rfl⟩
  rw [hE] at hOk HD ⊢
  have hEf := hOk.few
  obtain ⟨j, hj⟩ : ∃ j, (Fb.doL W L m 0).2.1 = j := ⟨_, rfl⟩
  rw [hj] at HD
  have hslt := h.slt
  obtain ⟨i0, hi, hi0, hi1, hi2⟩ := info_parts infoRls
  have hwr : IntKind.u64.wrap ((ver : Int) + 1) = (ver : Int) + 1 := by
    unfold IntKind.wrap
    simp [IntKind.signed, IntKind.bits]
    omega
  have HUl := Lib.hid h.len
  have hun : us.length < 4096 := by have := h.len; omega
  clear h hc hE hj hm0 hd hOk ho
  go_enter Tryz.func15, Tryz.ntmps15
  go_wp2_with fail
  refine HM.out.mono ?_
  rintro e w1 ⟨rfl, rfl⟩
  go_wp2_with fail
  refine HD.out.mono ?_
  rintro e w2 ⟨rfl, ⟨v', hT⟩, hbt⟩
  have h0 := H.out
  have c1 := (hbt.cell (p := ⟨sb, 1, none⟩) hslt h0.ne).trans h0.c1
  have f1 := (hbt.frozen (p := ⟨sb, 1, none⟩) hslt h0.ne).trans h0.f1
  have HT := Lib.hid hT
  have HB := Lib.hid hbt
  clear hT hbt h0
  obtain ⟨w3, hw3⟩ : ∃ w3, w3 = w2.setCell ⟨sb, 1, none⟩ (.int .u64 ((ver : Int) + 1)) := ⟨_, rfl⟩
  have HW3 := Lib.hid hw3
  clear hw3
  go_upto_region 9 with fail
  rw [← HW3.out]
  have h0 := H.out
  have hb23 : But (fun b => b = sb) w2 w3 := by rw [HW3.out]; exact But.set (S := fun b => b = sb) (a := ⟨sb, 1, none⟩) rfl _
  have hb02 := HB.out
  have hb03 : But (fun b => b = sb ∨ b = tb) w w3 := (hb02.mono fun b hb => .inr hb).trans (hb23.mono fun b hb => .inl hb)
  have hnsb : ∀ b, okNew ok w b → b ≠ sb := by
    rintro b (⟨hb, _⟩ | hb)
    · exact h0.ns b hb
    · omega
  have hT3 : Tab 0 1 (okNew ok w) w3 tb v' E W := HT.out.but hb23 (fun e => h0.ne e.symm) (fun b hb e => hnsb b hb e)
  have e0 : w3.cell? ⟨sb, 0, none⟩ = some (.pointer (some ⟨tb, 0, none⟩)) := by
    rw [HW3.out]
    exact (cell_set_other _ (by intro e; injection e with _ e _; omega)).trans ((hb02.cell (p := ⟨sb, 0, none⟩) hslt h0.ne).trans h0.c0)
  obtain ⟨va, vc, hvo, hvb⟩ := ownsRow_slice h0.own
  have e3 : w3.cell? ⟨sb, 3, none⟩ = some (.slice va us.length vc) := by
    rw [HW3.out]
    exact (cell_set_other _ (by intro e; injection e with _ e _; omega)).trans ((hb02.cell (p := ⟨sb, 3, none⟩) hslt h0.ne).trans (by rw [h0.c3, hvo]))
  have g3 : w3.frozen? ⟨sb, 3, none⟩ = false := by
    rw [HW3.out, World.frozen?_setCell]
    exact (hb02.frozen (p := ⟨sb, 3, none⟩) hslt h0.ne).trans h0.f3
  have e1 : w3.cell? ⟨sb, 1, none⟩ = some (.int .u64 ((ver : Int) + 1)) := by rw [HW3.out]; exact cell_set_same _ c1
  have hown3 : w3.ownsRow base 44 1 (.slice va us.length vc) us.length us := by
    rw [← hvo]
    exact ownsRow_butS h0.own hb03 (fun b hb e => by rcases e with e | e; exact (h0.nv b hb).2.1 e; exact (h0.nv b hb).2.2 e)
  have hs3 : w.heap.size ≤ w3.heap.size := hb03.size
  have hslt3 : sb < w3.heap.size := by omega
  have hRl : Calls Tryz.prog 27 #[.pointer (some ⟨tb, 0, none⟩)] w3.drew _ := rules_tab (hT3.below (Below.refl _ _).drew) hEf
  have HRl := Lib.hid hRl
  have HT3 := Lib.hid hT3
  have HB3 := Lib.hid hb03
  have HO3 := Lib.hid hown3
  have HVo := Lib.hid hvo
  have HVb := Lib.hid hvb
  have HNs := Lib.hid hnsb
  clear c0 c1 f1 h0 hb23 hb02 hb03 hnsb hT3 hown3 hvo hvb hRl
  have hS0 : (fun W : World => W.cell? ⟨sb, 0, none⟩ = some (.pointer (some ⟨tb, 0, none⟩)) ∧ W.cell? ⟨sb, 3, none⟩ = some (.slice va us.length vc)) w3.drew := ⟨e0, e3⟩
  refine wp_region_heldG (fun W : World => W.cell? ⟨sb, 0, none⟩ = some (.pointer (some ⟨tb, 0, none⟩)) ∧ W.cell? ⟨sb, 3, none⟩ = some (.slice va us.length vc)) 14 (by kernel_rfl) ?_
  refine wpAnyG_takeP 0 (v := ?v0) rfl (by kernel_rfl) (fun _ _ _ h => h) (by rfl) ?h0 hS0 ?_
  case h0 => (intro wl; go_simp; try with_reducible rfl)
  try simp only [Act.put, List.setIfInBounds_toArray, List.set_cons_zero, List.set_cons_succ]
  refine wpAnyG_takeP 1 (v := ?v1) rfl (by kernel_rfl) (fun _ _ _ h => h) (by rfl) ?h1 hS0 ?_
  case h1 => (intro wl; go_simp; try with_reducible rfl)
  try simp only [Act.put, List.setIfInBounds_toArray, List.set_cons_zero, List.set_cons_succ]
  refine wpAnyG_takeP 2 (v := ?v2) rfl (by kernel_rfl) (fun _ _ _ h => h) (by rfl) ?h2 hS0 ?_
  case h2 => (intro wl; go_simp; try with_reducible rfl)
  try simp only [Act.put, List.setIfInBounds_toArray, List.set_cons_zero, List.set_cons_succ]
  refine wpAnyG_takeP 3 (v := ?v3) rfl (by kernel_rfl) (fun _ _ _ h => h) (by rfl) ?h3 hS0 ?_
  case h3 => (intro wl; go_simp; try with_reducible rfl)
  try simp only [Act.put, List.setIfInBounds_toArray, List.set_cons_zero, List.set_cons_succ]
  refine wpAnyG_takeL 4 (v := ?v4) rfl (by kernel_rfl) (fun _ _ _ h => h) (by rfl) ?h4 hS0 ?_
  case h4 => (intro wl hl; obtain ⟨l0, l1⟩ := hl; go_simp; try with_reducible rfl)
  try simp only [Act.put, List.setIfInBounds_toArray, List.set_cons_zero, List.set_cons_succ]
  refine wpAnyG_takeP 5 (v := ?v5) rfl (by kernel_rfl) (fun _ _ _ h => h) (by rfl) ?h5 hS0 ?_
  case h5 => (intro wl; go_simp; try with_reducible rfl)
  try simp only [Act.put, List.setIfInBounds_toArray, List.set_cons_zero, List.set_cons_succ]
  refine wpAnyG_takeP 6 (v := ?v6) rfl (by kernel_rfl) (fun _ _ _ h => h) (by rfl) ?h6 hS0 ?_
  case h6 => (intro wl; go_simp; try with_reducible rfl)
  try simp only [Act.put, List.setIfInBounds_toArray, List.set_cons_zero, List.set_cons_succ]
  refine wpAnyG_takeP 7 (v := ?v7) rfl (by kernel_rfl) (fun _ _ _ h => h) (by rfl) ?h7 hS0 ?_
  case h7 => (intro wl; go_simp; try with_reducible rfl)
  try simp only [Act.put, List.setIfInBounds_toArray, List.set_cons_zero, List.set_cons_succ]
  refine wpAnyG_takeL 8 (v := ?v8) rfl (by kernel_rfl) (fun _ _ _ h => h) (by rfl) ?h8 hS0 ?_
  case h8 => (intro wl hl; obtain ⟨l0, l1⟩ := hl; go_simp; try with_reducible rfl)
  try simp only [Act.put, List.setIfInBounds_toArray, List.set_cons_zero, List.set_cons_succ]
  refine wpAnyG_one 9 rfl (by kernel_rfl) (fun K hK => ?_)
  go_simp
  go_at_call 27
  refine HRl.out.mono ?_
  rintro e w4 ⟨ad4, cp4, rfl, hr4, hb4⟩
  have hb34 : Below w3.heap.size w3 w4 := ((Below.refl _ _).drew).trans hb4
  have hs4 : w3.heap.size ≤ w4.heap.size := hb34.size
  have k0 := (hb34.cell (p := ⟨sb, 0, none⟩) hslt3).trans e0
  have k3 := (hb34.cell (p := ⟨sb, 3, none⟩) hslt3).trans e3
  have g4 := (hb34.frozen (p := ⟨sb, 3, none⟩) hslt3).trans g3
  have k1 := (hb34.cell (p := ⟨sb, 1, none⟩) hslt3).trans e1
  have HR4 := Lib.hid hr4
  have HB4 := Lib.hid hb34
  have HO4 : Hid (w4.ownsRow base 44 1 (.slice va us.length vc) us.length us) := ownsRow_below HO3.out hb34
  clear hr4 hb4 hb34 e0 e3 g3 e1 hS0
  refine hK _ _ (fun _ => ⟨k0, k3⟩) ?_
  clear hK K
  try simp only [Act.put, List.setIfInBounds_toArray, List.set_cons_zero, List.set_cons_succ]
  refine wpAnyG_one 10 rfl (by kernel_rfl) (fun K hK => ?_)
  go_simp
  refine hK _ _ (fun _ => ⟨by go_keep, by go_keep⟩) ?_
  clear hK K
  try simp only [Act.put, List.setIfInBounds_toArray, List.set_cons_zero, List.set_cons_succ]
  refine wpAnyG_one 11 rfl (by kernel_rfl) (fun K hK => ?_)
  (refine step_append_lies _ (by rfl) (.tmp 39) (.tmp 45) _ (by rfl) base 44 i0 _ 1 24 Tryz.underlying39 hi hi0 hi1 hi2 rfl (by omega) (.slice va us.length vc) us.length us (by rfl) (HO4.out.alloc _) ⟨w4.heap.size, 0, none⟩ 1 1 [.slice ad4 E.length cp4] (by rfl) (by rfl) (World.news_of_block (cs := #[.slice ad4 E.length cp4]) (t := 44) (fr := (0, 0)) (heap_alloc_new w4 _)) (by simp [Value.oneCell']) (by omega) (by unfold maxLen; omega) (by omega) (by simp; omega) (w4.heap.size + 1) (by simp) ?_; intro gg cap5 w5 hown5 hgrow hat hlt5)
  have hno : ¬ (Value.slice va us.length vc).ownBlock = some sb := fun e => (H.out.nv sb (by rw [HVo.out]; exact e)).2.1 rfl
  have hfar : ∀ j, j < w4.heap.size → ¬ (Value.slice va us.length vc).ownBlock = some j → w5.heap[j]? = w4.heap[j]? := fun j h1 h2 => (hgrow.block j (by simp; omega) (fun e => h2 e.symm)).trans (Below.heap_alloc _ _ _ h1)
  have hslt4 : sb < w4.heap.size := by omega
  have q0 : w5.cell? ⟨sb, 0, none⟩ = some (.pointer (some ⟨tb, 0, none⟩)) := (World.cell?_of_block (a := ⟨sb, 0, none⟩) (hfar sb hslt4 hno)).trans k0
  have q3 : w5.cell? ⟨sb, 3, none⟩ = some (.slice va us.length vc) := (World.cell?_of_block (a := ⟨sb, 3, none⟩) (hfar sb hslt4 hno)).trans k3
  have q1 : w5.cell? ⟨sb, 1, none⟩ = some (.int .u64 ((ver : Int) + 1)) := (World.cell?_of_block (a := ⟨sb, 1, none⟩) (hfar sb hslt4 hno)).trans k1
  have g5 : w5.frozen? ⟨sb, 3, none⟩ = false := (World.frozen?_of_block (a := ⟨sb, 3, none⟩) (hfar sb hslt4 hno)).trans g4
  have HFar := Lib.hid hfar
  have HO5 := Lib.hid hown5
  have HG5 := Lib.hid hgrow
  have HAt := Lib.hid hat
  have HNo := Lib.hid hno
  clear k0 k1 k3 g4 hfar hown5 hgrow hat hlt5 hno
  refine hK _ _ (fun _ => ⟨q0, q3⟩) ?_
  clear hK K
  try simp only [Act.put, List.setIfInBounds_toArray, List.set_cons_zero, List.set_cons_succ]
  have hS0 : (fun W : World => W.cell? ⟨sb, 0, none⟩ = some (.pointer (some ⟨tb, 0, none⟩)) ∧ W.cell? ⟨sb, 3, none⟩ = some (.slice va us.length vc)) w5 := ⟨q0, q3⟩
  refine wpAnyG_takeP 12 (v := ?v12) rfl (by kernel_rfl) (fun _ _ _ h => h) (by rfl) ?h12 hS0 ?_
  case h12 => (intro wl; go_simp; try with_reducible rfl)
  try simp only [Act.put, List.setIfInBounds_toArray, List.set_cons_zero, List.set_cons_succ]
  refine wpAnyG_takeP 13 (v := ?v13) rfl (by kernel_rfl) (fun _ _ _ h => h) (by rfl) ?h13 hS0 ?_
  case h13 => (intro wl; go_simp; try with_reducible rfl)
  try simp only [Act.put, List.setIfInBounds_toArray, List.set_cons_zero, List.set_cons_succ]
  refine wpAnyG_one 14 rfl (by kernel_rfl) (fun K hK => ?_)
  go_simp
  refine hK _ _ (fun h => absurd h (by decide)) ?_
  clear hK K
  refine wpAnyG_done (by kernel_rfl) ?_ _
  obtain ⟨w6, hw6⟩ : ∃ w6, w6 = w5.setCell ⟨sb, 3, none⟩ (.slice (some ⟨gg, 0, none⟩) (us.length + 1) cap5) := ⟨_, rfl⟩
  rw [← hw6]
  have ho : ∀ i, i ≠ 3 → w6.cell? ⟨sb, i, none⟩ = w5.cell? ⟨sb, i, none⟩ := fun i hi => by
    rw [hw6]
    exact cell_set_other _ (fun e => hi (by injection e with _ e _; exact e.symm))
  have r3 : w6.cell? ⟨sb, 3, none⟩ = some (.slice (some ⟨gg, 0, none⟩) (us.length + 1) cap5) := by rw [hw6]; exact cell_set_same _ q3
  have r1 := (ho 1 (by omega)).trans q1
  have hz5 : decide ((4096 : Int) < (us.length : Int) + 1) = false := by simp; omega
  have HW6 := Lib.hid hw6
  have HOth := Lib.hid ho
  have HQ0 := Lib.hid q0
  clear q0 q3 q1 g5 hw6 ho hS0
  go_wp2_with fail
  refine bodyPost_ret (v := .tuple #[.int .u64 ((ver : Int) + 1), .int .i64 0, .int .i64 0]) (by simp [results, go_sem]) rfl ?_
  have h0 := H.out
  have hvo := HVo.out
  have hgrow := HG5.out
  have hb45 : But (fun k => vo.ownBlock = some k) w4 w5 := by
    rw [hvo]
    exact ⟨hgrow.os, hgrow.tape, hgrow.output, by have := hgrow.size; simp at this; omega, fun k hk hn => HFar.out k hk hn⟩
  have hb56 : But (fun k => k = sb) w5 w6 := by rw [HW6.out]; exact But.set (S := fun b => b = sb) (a := ⟨sb, 3, none⟩) rfl _
  have hs5 := hb45.size
  have hs6 := hb56.size
  have hgg : vo.ownBlock = some gg ∨ gg = w4.heap.size + 1 := by rw [hvo]; exact HAt.out
  have hov : ∀ b, vo.ownBlock = some b → base ≤ b ∧ b < w.heap.size ∧ ¬ okNew ok w b ∧ b ≠ sb ∧ b ≠ tb := fun b hb => by
    obtain ⟨l1, l2⟩ := own_lt h0.own hb
    obtain ⟨n1, n2, n3⟩ := h0.nv b hb
    refine ⟨l1, l2, ?_, n2, n3⟩
    rintro (⟨h1, _⟩ | h1)
    · exact n1 h1
    · omega
  have hgo : ∀ b, okNew ok w b → b < w4.heap.size → gg ≠ b := fun b hb hl e => by
    rcases hgg with h | h
    · exact (hov gg h).2.2.1 (e ▸ hb)
    · omega
  have htbl : tb < w.heap.size := h0.tab.lt
  have hP : Tab 0 1 (fun b => okNew ok w b ∧ gg ≠ b) w3 tb v' E W := HT3.out.toQ _ (fun k hk hl => ⟨hk, hgo k hk (by omega)⟩) (fun k hk => HT3.out.no k hk.1)
  have hP4 := hP.below HB4.out
  have hP5 := hP4.but hb45 (fun e => (hov tb e).2.2.2.2 rfl) (fun b hb e => (hov b e).2.2.1 hb.1)
  have hP6 := hP5.but hb56 (fun e => h0.ne e.symm) (fun b hb e => HNs.out b hb.1 e)
  have hcell : ∀ i, i ≠ 1 → i ≠ 3 → w6.cell? ⟨sb, i, none⟩ = w.cell? ⟨sb, i, none⟩ := fun i h1 h3 => by
    rw [HOth.out i h3, hb45.cell (p := ⟨sb, i, none⟩) hslt4 (fun e => (hov sb e).2.2.2.1 rfl), HB4.out.cell (p := ⟨sb, i, none⟩) hslt3, HW3.out, cell_set_other _ (fun e => h1 (by injection e with _ e _; exact e.symm)), HB.out.cell (p := ⟨sb, i, none⟩) hslt h0.ne]
  have hfroz : ∀ i, w6.frozen? ⟨sb, i, none⟩ = w.frozen? ⟨sb, i, none⟩ := fun i => by
    rw [HW6.out, World.frozen?_setCell, hb45.frozen (p := ⟨sb, i, none⟩) hslt4 (fun e => (hov sb e).2.2.2.1 rfl), HB4.out.frozen (p := ⟨sb, i, none⟩) hslt3, HW3.out, World.frozen?_setCell, HB.out.frozen (p := ⟨sb, i, none⟩) hslt h0.ne]
  have hggsb : gg ≠ sb := fun e => by
    rcases hgg with h | h
    · exact (hov gg h).2.2.2.1 e
    · omega
  have hggtb : gg ≠ tb := fun e => by
    rcases hgg with h | h
    · exact (hov gg h).2.2.2.2 e
    · omega
  refine ⟨rfl, ⟨v', .slice (some ⟨gg, 0, none⟩) (us.length + 1) cap5, us ++ [.slice ad4 E.length cp4], ⟨(hcell 0 (by omega) (by omega)).trans h0.c0, ?_, (hcell 2 (by omega) (by omega)).trans h0.c2, r3, (hfroz 1).trans h0.f1, (hfroz 2).trans h0.f2, (hfroz 3).trans h0.f3, ?_, ?_, ?_, ?_, fun b hb => HNs.out b hb.1, h0.ne, ?_⟩, ?_⟩, ?_⟩
  · rw [r1]; simp
  · exact hP6.mono (fun b hb => ⟨hb.1, fun e => hb.2 (by injection e)⟩) (fun b hb => HT3.out.no b hb.1)
  · rw [List.length_append, List.length_singleton]
    exact ownsRow_butS HO5.out hb56 (fun b hb e => by injection hb with hb; exact hggsb (hb.trans e))
  · simp [HUl.out]
  · intro i h1 h2
    by_cases hi : i < us.length
    · have e1 : (us ++ [.slice ad4 E.length cp4])[i] = us[i] := List.getElem_append_left hi
      have e2 : (olds ++ [E])[i] = olds[i]'(by have := HUl.out; omega) := List.getElem_append_left _
      rw [e1, e2]
      have r0 := (h0.rd i hi (by have := HUl.out; omega)).lt
      have r1 := r0.but HB3.out (fun b hb e => by rcases e with e | e; exact h0.ns b hb.1 e; exact h0.tab.no b hb.1 e)
      have r2 := r1.below HB4.out
      have r3 := r2.but hb45 (fun b hb e => (h0.nv b e).1 hb.1)
      have r4 := r3.but hb56 (fun b hb e => h0.ns b hb.1 e)
      exact r4.mono (fun b hb => ⟨.inl hb, fun e => hgo b (.inl hb) (by omega) (by injection e)⟩)
    · have hi2 : i = us.length := by simp at h1; omega
      subst hi2
      have e1 : (us ++ [.slice ad4 E.length cp4])[us.length] = .slice ad4 E.length cp4 := by simp
      have e2 : (olds ++ [E])[us.length] = E := by simp [HUl.out]
      rw [e1, e2]
      have r0 := HR4.out.lt
      have r3 := r0.but hb45 (fun b hb e => by have h1 : w3.heap.size ≤ b := hb.1; have := (hov b e).2.1; omega)
      have r4 := r3.but hb56 (fun b hb e => by have h1 : w3.heap.size ≤ b := hb.1; omega)
      refine r4.mono (fun b hb => ?_)
      have h1 : w3.heap.size ≤ b := hb.1
      exact ⟨.inr (by omega), fun e => hgo b (.inr (by omega)) hb.2 (by injection e)⟩
  · intro b hb
    injection hb with hb
    have hb : gg = b := hb
    subst hb
    exact ⟨fun h => h.2 rfl, hggsb, hggtb⟩
  · intro b hb
    injection hb with hb
    have hb : gg = b := hb
    subst hb
    rcases hgg with h | h
    · exact .inl h
    · exact .inr (by omega)
  · exact (((HB3.out.mono fun b hb => hb.elim .inl (fun h => .inr (.inl h))).trans (But.below HB4.out)).trans (hb45.mono fun b hb => .inr (.inr hb))).trans (hb56.mono fun b hb => .inl hb)
end Go.Proofs.YtlbelkjgaeaaeaaGreat
/-
  Walks over the laws of store: insert, alive.
-/
namespace Go.Proofs.YtlbelkjgaeaaeaaGreat
open Go.RowKit Go.Shelf Go.Lib Go.Sort
set_option linter.unusedVariables false
set_option linter.unusedSectionVars false
set_option linter.unusedSimpArgs false

namespace Al
abbrev mm : ByteArray := ⟨#[49, 120]⟩
def r1 : Rl := ⟨1, mm, 2, []⟩
def r2 : Rl := ⟨2, mm, 2, []⟩
theorem do1 : (Fb.doL 2 [] [(1, r1)] 0).2.2 = 0 := by kernel_rfl
theorem end1 : Fb.endL 2 [] [(1, r1)] = [r1] := by kernel_rfl
theorem do2 : Fb.doL 2 [r1] [(1, r2), (1, r1)] 0 = (none, 1, 52) := by kernel_rfl
theorem ok1 : Fb.Ok 2 [r1] := by have := (Fb.ok_nil 2).end_ [(1, r1)]; rwa [end1] at this
end Al

theorem res_ins (w : World) (b : Nat) (tmps : Array Value) (k p q : Int) (m : ByteArray) (a : Option Addr) (n c : Nat) (h4 : tmps.getD 4 undef = .pointer (some ⟨b, 0, none⟩)) (h0 : w.cell? ⟨b, 0, none⟩ = some (.int .i64 k)) (h1 : w.cell? ⟨b, 1, none⟩ = some (.int .i64 p)) (h2 : w.cell? ⟨b, 2, none⟩ = some (.string m)) (h3 : w.cell? ⟨b, 3, none⟩ = some (.int .i64 q)) (h5 : w.cell? ⟨b, 4, none⟩ = some (.slice a n c)) :
    (results Tryz.f16 tmps).run Tryz.prog w = .ok (.agg #[.int .i64 k, .int .i64 p, .string m, .int .i64 q, .slice a n c]) w := by
  rw [Array.getD_eq_getD_getElem?] at h4
  simp [results, Tryz.results16, h4, loadVar, asAddr, go_sem, Tryz.isAgg64, Tryz.sizeOf64, h0, h1, h2, h3, h5]

set_option maxHeartbeats 800000 in
set_option maxRecDepth 20000 in
theorem insert_any (p : Int) (m : ByteArray) (w : World) : Calls Tryz.prog 16 #[.int .i64 p, .string m] w fun e w' => e = .returned (.agg #[.int .i64 1, .int .i64 p, .string m, .int .i64 2, .slice none 0 0]) ∧ Below w.heap.size w w' := by
  go_enter Tryz.func16, Tryz.ntmps16
  go_wp2_with fail
  refine bodyPost_ret (res_ins _ w.heap.size _ 1 p 2 m none 0 0 rfl ?_ ?_ ?_ ?_ ?_) rfl ?_
  · simp [go_sem]
  · simp [go_sem]
  · simp [go_sem]
  · simp [go_sem]
  · simp [go_sem]
  · exact ⟨rfl, (Below.refl _ _).alloc (Nat.le_refl _) _⟩

theorem rdC_of (ok : Nat → Prop) (W : World) (p : Int) (h : Rp.Sz ⟨p, Al.mm, 2, []⟩) : RdC ok W ⟨p, Al.mm, 2, none, 0, 0⟩ ⟨p, Al.mm, 2, []⟩ := ⟨rfl, rfl, rfl, ⟨rdsS_nil _, okV_nil _ _ _⟩, h⟩
theorem sz1 : Rp.Sz Al.r1 := ⟨by decide, by decide, fun s hs => by cases hs⟩
theorem sz2 : Rp.Sz Al.r2 := ⟨by decide, by decide, fun s hs => by cases hs⟩

set_option maxHeartbeats 6400000 in
set_option maxRecDepth 20000 in
theorem alive_any (w : World) : Calls Tryz.prog 6 #[] w fun e w' => e = .returned (.bool true) ∧ Below w.heap.size w w' := by
  have HN := Lib.hid (snew_ok 2 w w.heap.size (Nat.le_refl _) (by decide) (by decide))
  go_enter Tryz.func6, Tryz.ntmps6
  go_wp2_with fail
  refine HN.out.mono ?_
  rintro e w1 ⟨rfl, hS1, hb1, hs1⟩
  have HS1 := Lib.hid hS1
  have HB1 := Lib.hid hb1
  have Hs1 := Lib.hid hs1
  clear hS1 hb1 hs1
  go_wp2_with fail
  refine (insert_any 1 ⟨#[49, 120]⟩ _).mono ?_
  rintro e w2 ⟨rfl, hb2⟩
  obtain ⟨W2, hW2⟩ : ∃ W2, W2 = w2.alloc (.cells #[.int .i64 1, .int .i64 1, .string ⟨#[49, 120]⟩, .int .i64 2, .slice none 0 0] 64) := ⟨_, rfl⟩
  have hb2a : Below w1.heap.size w1 W2 := by rw [hW2]; exact hb2.alloc hb2.size _
  have hh2 : W2.heap[w2.heap.size]? = some (.cells #[.int .i64 1, .int .i64 1, .string ⟨#[49, 120]⟩, .int .i64 2, .slice none 0 0] 64 (0, 0)) := by rw [hW2]; exact heap_alloc_new _ _
  have hc2 : RdsC (fun _ => True) W2 (.slice (some ⟨w2.heap.size, 0, none⟩) 1 1) [(1, Al.r1)] := one_rdsC (x := ⟨1, Al.mm, 2, none, 0, 0⟩) hh2 (rdC_of _ _ 1 sz1) trivial
  have hI := install_good (HS1.out.below hb2a) hc2 (by simp) (by simp) (Fb.ok_nil 2) Al.do1 (by omega) (by simp) (by have := hb2a.size; have := HB1.out.size; omega)
  rw [Al.end1] at hI
  have HI := Lib.hid hI
  have HB2 := Lib.hid hb2a
  have HW2 := Lib.hid hW2
  clear hb2 hb2a hh2 hc2 hI hW2
  go_wp2_with fail
  rw [← HW2.out]
  refine HI.out.mono ?_
  rintro e w3 ⟨rfl, ⟨v3, vo3, us3, hS3, hvo3⟩, hbt3⟩
  have HS3 := Lib.hid hS3
  have HB3 : Hid (Below w.heap.size w w3) := (HB1.out.trans (HB2.out.mono HB1.out.size)).trans (hbt3.toBelow (by have := HB1.out.size; have := HB2.out.size; omega) (fun k hk => by
    rcases hk with hk | hk | hk
    · omega
    · omega
    · injection hk with hk
      have : w.heap.size + 1 = k := hk
      omega))
  clear hS3 hvo3 hbt3
  go_wp2_with fail
  refine (insert_any 2 ⟨#[49, 120]⟩ _).mono ?_
  rintro e w4 ⟨rfl, hb4⟩
  have HB4 := Lib.hid hb4
  clear hb4
  go_wp2_with fail
  refine (insert_any 1 ⟨#[49, 120]⟩ _).mono ?_
  rintro e w5 ⟨rfl, hb5⟩
  obtain ⟨W5, hW5⟩ : ∃ W5, W5 = w5.alloc (.cells #[.int .i64 1, .int .i64 2, .string ⟨#[49, 120]⟩, .int .i64 2, .slice none 0 0, .int .i64 1, .int .i64 1, .string ⟨#[49, 120]⟩, .int .i64 2, .slice none 0 0] 64) := ⟨_, rfl⟩
  have hb5a : Below w4.heap.size w4 W5 := by rw [hW5]; exact hb5.alloc hb5.size _
  have hb35 : Below w3.heap.size w3 W5 := HB4.out.trans (hb5a.mono HB4.out.size)
  have hh5 : W5.heap[w5.heap.size]? = some (.cells #[.int .i64 1, .int .i64 2, .string ⟨#[49, 120]⟩, .int .i64 2, .slice none 0 0, .int .i64 1, .int .i64 1, .string ⟨#[49, 120]⟩, .int .i64 2, .slice none 0 0] 64 (0, 0)) := by rw [hW5]; exact heap_alloc_new _ _
  have hc5 : RdsC (fun _ => True) W5 (.slice (some ⟨w5.heap.size, 0, none⟩) 2 2) [(1, Al.r2), (1, Al.r1)] := two_rdsC (x := ⟨2, Al.mm, 2, none, 0, 0⟩) (y := ⟨1, Al.mm, 2, none, 0, 0⟩) hh5 (rdC_of _ _ 2 sz2) (rdC_of _ _ 1 sz1) trivial
  have hI5 := install_bad (HS3.out.below hb35) hc5 (by simp) (by simp) Al.ok1 (by rw [Al.do2]; decide)
  rw [Al.do2] at hI5
  have HI5 := Lib.hid hI5
  have HB5 : Hid (Below w.heap.size w W5) := HB3.out.trans (hb35.mono HB3.out.size)
  have HW5 := Lib.hid hW5
  clear hb5 hb5a hb35 hh5 hc5 hI5 hW5
  go_wp2_with fail
  rw [← HW5.out]
  refine HI5.out.mono ?_
  rintro e w6 ⟨rfl, ⟨v6, hS6⟩, hbt6⟩
  have HB6 : Hid (Below w.heap.size w w6) := HB5.out.trans (hbt6.toBelow HB5.out.size (fun k hk => by omega))
  have HR6 := Lib.hid (restart_sto hS6 (by omega))
  clear hS6 hbt6
  go_wp2_with fail
  refine HR6.out.mono ?_
  rintro e w7 ⟨rfl, hS7, hbt7⟩
  have HB7 : Hid (Below w.heap.size w w7) := HB6.out.trans (hbt7.toBelow HB6.out.size (fun k hk => by omega))
  have HV7 := Lib.hid (version_sto hS7)
  have HR7 := Lib.hid (rules_sto hS7 (by decide))
  clear hS7 hbt7
  go_wp2_with fail
  refine HV7.out.mono ?_
  rintro e w8 ⟨rfl, rfl⟩
  go_wp2_with fail
  refine HR7.out.mono ?_
  rintro e w9 ⟨ad9, c9, rfl, _, hb9⟩
  have HB9 : Hid (Below w.heap.size w w9) := HB7.out.trans (hb9.mono HB7.out.size)
  clear hb9
  go_wp2_with fail
  go_ret
  exact ⟨rfl, HB9.out⟩
end Go.Proofs.YtlbelkjgaeaaeaaGreat
/-
  Walks over package store: a store that nobody made; and the law StoreNobody.
-/
namespace Go.Proofs.YtlbelkjgaeaaeaaGreat
open Go.RowKit Go.Shelf Go.Lib Go.Sort
set_option linter.unusedVariables false
set_option linter.unusedSectionVars false
set_option linter.unusedSimpArgs false

/-- No store: nil, or one without a table. -/
def NoSto (w : World) (p : Value) : Prop := p = .pointer none ∨ ∃ sb, p = .pointer (some ⟨sb, 0, none⟩) ∧ w.cell? ⟨sb, 0, none⟩ = some (.pointer none)

theorem NoSto.below {w w' : World} {p : Value} (h : NoSto w p) (hb : Below w.heap.size w w') : NoSto w' p := by
  rcases h with h | ⟨sb, h, h1⟩
  · exact .inl h
  · exact .inr ⟨sb, h, (hb.cell (p := ⟨sb, 0, none⟩) (cell_lt h1)).trans h1⟩

set_option maxHeartbeats 800000 in
set_option maxRecDepth 20000 in
theorem made_no {w : World} {p : Value} (h : NoSto w p) :
    Calls Tryz.prog 25 #[p] w fun e w' => e = .returned (.bool false) ∧ w = w' := by
  rcases h with rfl | ⟨tb, rfl, c1⟩
  · go_enter Tryz.func25, Tryz.ntmps25
    go_wp2_with fail
    go_ret
    exact ⟨rfl, rfl⟩
  · go_enter Tryz.func25, Tryz.ntmps25
    go_wp2_with fail
    go_ret
    exact ⟨rfl, rfl⟩

set_option maxHeartbeats 800000 in
set_option maxRecDepth 20000 in
theorem install_no {w : World} {p : Value} (h : NoSto w p) (cv : Value) :
    Calls Tryz.prog 15 #[p, cv] w fun e w' => e = .returned (.tuple #[.int .u64 0, .int .i64 0, .int .i64 4]) ∧ w = w' := by
  have HM := Lib.hid (made_no h)
  clear h
  go_enter Tryz.func15, Tryz.ntmps15
  go_wp2_with fail
  refine HM.out.mono ?_
  rintro e w1 ⟨rfl, rfl⟩
  go_wp2_with fail
  refine bodyPost_ret (v := .tuple #[.int .u64 0, .int .i64 0, .int .i64 4]) (by simp [results, go_sem]) rfl ?_
  exact ⟨rfl, rfl⟩

set_option maxHeartbeats 800000 in
set_option maxRecDepth 20000 in
theorem restart_no {w : World} {p : Value} (h : NoSto w p) :
    Calls Tryz.prog 17 #[p] w fun e w' => e = .returned (.tuple #[.int .u32 0, .int .i64 4]) ∧ w = w' := by
  have HM := Lib.hid (made_no h)
  clear h
  go_enter Tryz.func17, Tryz.ntmps17
  go_wp2_with fail
  refine HM.out.mono ?_
  rintro e w1 ⟨rfl, rfl⟩
  go_wp2_with fail
  go_ret2
  exact ⟨rfl, rfl⟩

set_option maxHeartbeats 800000 in
set_option maxRecDepth 20000 in
theorem at_no {w : World} {p : Value} (h : NoSto w p) (cv : Value) :
    Calls Tryz.prog 20 #[p, cv] w fun e w' => e = .returned (.tuple #[.slice none 0 0, .int .i64 4]) ∧ w = w' := by
  have HM := Lib.hid (made_no h)
  clear h
  go_enter Tryz.func20, Tryz.ntmps20
  go_wp2_with fail
  refine HM.out.mono ?_
  rintro e w1 ⟨rfl, rfl⟩
  go_wp2_with fail
  go_ret2
  exact ⟨rfl, rfl⟩

set_option maxHeartbeats 800000 in
set_option maxRecDepth 20000 in
theorem since_no {w : World} {p : Value} (h : NoSto w p) (cv : Value) :
    Calls Tryz.prog 22 #[p, cv] w fun e w' => e = .returned (.tuple #[.slice none 0 0, .int .i64 4]) ∧ w = w' := by
  have HM := Lib.hid (made_no h)
  clear h
  go_enter Tryz.func22, Tryz.ntmps22
  go_wp2_with fail
  refine HM.out.mono ?_
  rintro e w1 ⟨rfl, rfl⟩
  go_wp2_with fail
  go_ret2
  exact ⟨rfl, rfl⟩

set_option maxHeartbeats 800000 in
set_option maxRecDepth 20000 in
theorem version_no {w : World} {p : Value} (h : NoSto w p) :
    Calls Tryz.prog 8 #[p] w fun e w' => e = .returned (.int .u64 0) ∧ w = w' := by
  have HM := Lib.hid (made_no h)
  clear h
  go_enter Tryz.func8, Tryz.ntmps8
  go_wp2_with fail
  refine HM.out.mono ?_
  rintro e w1 ⟨rfl, rfl⟩
  go_wp2_with fail
  go_ret
  exact ⟨rfl, rfl⟩

set_option maxHeartbeats 800000 in
set_option maxRecDepth 20000 in
theorem boot_no {w : World} {p : Value} (h : NoSto w p) :
    Calls Tryz.prog 9 #[p] w fun e w' => e = .returned (.int .u32 0) ∧ w = w' := by
  have HM := Lib.hid (made_no h)
  clear h
  go_enter Tryz.func9, Tryz.ntmps9
  go_wp2_with fail
  refine HM.out.mono ?_
  rintro e w1 ⟨rfl, rfl⟩
  go_wp2_with fail
  go_ret
  exact ⟨rfl, rfl⟩

set_option maxHeartbeats 800000 in
set_option maxRecDepth 20000 in
theorem srules_no {w : World} {p : Value} (h : NoSto w p) :
    Calls Tryz.prog 11 #[p] w fun e w' => e = .returned (.slice none 0 0) ∧ w = w' := by
  have HM := Lib.hid (made_no h)
  clear h
  go_enter Tryz.func11, Tryz.ntmps11
  go_wp2_with fail
  refine HM.out.mono ?_
  rintro e w1 ⟨rfl, rfl⟩
  go_wp2_with fail
  go_ret
  exact ⟨rfl, rfl⟩

end Go.Proofs.YtlbelkjgaeaaeaaGreat
/-
  Walks over package store: copied, At.
-/
namespace Go.Proofs.YtlbelkjgaeaaeaaGreat
open Go.RowKit Go.Shelf Go.Lib Go.Sort
set_option linter.unusedVariables false
set_option linter.unusedSectionVars false
set_option linter.unusedSimpArgs false

set_option maxHeartbeats 1600000 in
set_option maxRecDepth 20000 in
theorem scopied_any (ok : Nat → Prop) (v : Value) (L : List Rl) (w : World) (hr : RdsR ok w v L) (hn : L.length * 56 ≤ 140737488355328) :
    Calls Tryz.prog 32 #[v] w fun e w' => ∃ ad c, e = .returned (.slice ad L.length c) ∧ RdsR (fun b => w.heap.size ≤ b) w' (.slice ad L.length c) L ∧ Below w.heap.size w w' := by
  have HR := Lib.hid hr
  have HCl := Lib.hid (fun W h => cloneR_any ok v L W h hn)
  obtain ⟨n, hnl⟩ : ∃ n, n = L.length := ⟨_, rfl⟩
  have HN : Hid (n = L.length) := hnl
  have hnb : n * 56 ≤ 140737488355328 := by rw [hnl]; exact hn
  rw [← hnl] at HCl ⊢
  obtain ⟨ad0, cap0, rfl, _, _⟩ := hr.form
  clear hr hn hnl
  go_enter Tryz.func32, Tryz.ntmps32
  go_wp2_with fail
  refine (HCl.out w HR.out).mono ?_
  rintro e w1 ⟨ad, c, xs, rfl, hown, hb1⟩
  have HO1 := Lib.hid hown
  have HB1 := Lib.hid hb1
  clear hown hb1
  go_wp2_with fail
  have hgl := HO1.out.row.lt
  have HGL := Lib.hid hgl
  clear hgl
  go_loopw [4, 9] (fun s4 s9 wr => ∃ x4 : Value, ∃ i : Nat, ∃ ys : List RC, s4 = x4 ∧ s9 = .int .i64 i ∧ i ≤ n ∧ Hid (wr.ownsRow w.heap.size 62 4 (.slice ad n c) n (cellsR ys)) ∧ Hid (ys.length = n) ∧
    Hid (∀ j (h : j < ys.length) (h' : j < L.length), RdC (fun b => (j < i ∧ w1.heap.size ≤ b) ∨ (i ≤ j ∧ ok b ∧ b < w.heap.size)) wr ys[j] L[j]) ∧ Hid (Below w.heap.size w wr) ∧ Hid (w1.heap.size ≤ wr.heap.size)) (fun _ s9 _ => n - (intOf s9).toNat)
  case atStart => exact ⟨_, 0, xs, rfl, rfl, Nat.zero_le _, (by have := HO1.out.row; rw [← HN.out] at this; exact this : w1.ownsRow w.heap.size 62 4 (.slice ad n c) n (cellsR xs)), HO1.out.len.trans HN.out.symm, (fun j h h' => (HO1.out.rd j h h').mono (fun b hb => .inr ⟨Nat.zero_le _, hb⟩) : ∀ j (h : j < xs.length) (h' : j < L.length), RdC (fun b => (j < 0 ∧ w1.heap.size ≤ b) ∨ (0 ≤ j ∧ ok b ∧ b < w.heap.size)) w1 xs[j] L[j]), HB1, Nat.le_refl _⟩
  case round =>
    obtain ⟨wo, rfl⟩ : ∃ wo : World, wo = wr := ⟨wr, rfl⟩
    obtain ⟨x4, i, ys, rfl, rfl, hin, HOw, HYl, HRd, HBw, HSz⟩ := hrel
    by_cases hlt : i < n
    · obtain ⟨g, cp, hgv, _, _⟩ := HOw.out.form (by omega)
      injection hgv with e1 e2 e3
      subst e1 e3
      have hiy : i < ys.length := by rw [HYl.out]; exact hlt
      have hiL : i < L.length := by rw [← HN.out]; exact hlt
      have hcc : wo.cell? ⟨g, i * 4 + 2 + 1, none⟩ = some (.slice ys[i].a ys[i].n ys[i].c) := by
        rw [HOw.out.cellAt (i * 4 + 2 + 1) (by omega)]; exact (cellsR_get ys i hiy).2.2.2
      have hrd := HRd.out i hiy hiL
      have HSs := Lib.hid hrd.s.1
      have hpn := hrd.z.n
      have HCS := Lib.hid (fun W (hq : RdsS W (.slice ys[i].a ys[i].n ys[i].c) L[i].ps) => cloneS_any _ _ W hq hpn)
      have HYI := Lib.hid (show ys[i] = ys[i] from rfl)
      clear hrd hpn e2
      go_wp2_with fail
      refine (HCS.out wo HSs.out).mono ?_
      rintro e w2 ⟨ad2, c2, rfl, hrd2, hb2⟩
      have hiL : i < L.length := by rw [← HN.out]; exact hlt
      have how2 := ownsRow_below HOw.out hb2
      have hcc2 : w2.cell? ⟨g, i * 4 + 2 + 1, none⟩ = some (.slice ys[i].a ys[i].n ys[i].c) := by
        rw [how2.cellAt (i * 4 + 2 + 1) (by omega)]; exact (cellsR_get ys i hiy).2.2.2
      have hfz2 : w2.frozen? ⟨g, i * 4 + 2 + 1, none⟩ = false := how2.frozenAt _
      have hst := how2.stored (i * 4 + 3) (.slice ad2 L[i].ps.length c2)
      have hgw := HGL.out g rfl
      have HNew : Hid ((w2.setCell ⟨g, i * 4 + 2 + 1, none⟩ (.slice ad2 L[i].ps.length c2)).ownsRow w.heap.size 62 4 (.slice (some ⟨g, 0, none⟩) n c) n (cellsR (ys.set i { ys[i] with a := ad2, n := L[i].ps.length, c := c2 }))) := by
        have := hst.1
        rw [cellsR_set hiy] at this
        exact this
      have hbut : But (fun b => b = g) w2 (w2.setCell ⟨g, i * 4 + 2 + 1, none⟩ (.slice ad2 L[i].ps.length c2)) := But.set (S := fun b => b = g) (a := ⟨g, i * 4 + 2 + 1, none⟩) rfl _
      have HRd2 : Hid (∀ j (h : j < (ys.set i { ys[i] with a := ad2, n := L[i].ps.length, c := c2 }).length) (h' : j < L.length), RdC (fun b => (j < i + 1 ∧ w1.heap.size ≤ b) ∨ (i + 1 ≤ j ∧ ok b ∧ b < w.heap.size)) (w2.setCell ⟨g, i * 4 + 2 + 1, none⟩ (.slice ad2 L[i].ps.length c2)) (ys.set i { ys[i] with a := ad2, n := L[i].ps.length, c := c2 })[j] L[j]) := by
        intro j h h'
        have h0 : j < ys.length := by simpa using h
        by_cases hji : j = i
        · subst hji
          rw [List.getElem_set_self]
          have hrd := HRd.out j h0 h'
          refine ⟨hrd.p, hrd.m, hrd.k, ?_, hrd.z⟩
          refine (hrd2.but hbut (fun b hb e => ?_)).mono (fun b hb => .inl ⟨by omega, by have := HSz.out; omega⟩)
          have := HSz.out
          omega
        · rw [List.getElem_set_ne (fun e => hji e.symm)]
          have hrd := (HRd.out j h0 h').below hb2
          refine (hrd.but hbut (fun b hb e => ?_)).mono (fun b hb => hb.imp (fun h => ⟨by omega, h.2⟩) (fun h => ⟨by omega, h.2⟩))
          rcases hb with hb | hb <;> omega
      have HBw2 : Hid (Below w.heap.size w (w2.setCell ⟨g, i * 4 + 2 + 1, none⟩ (.slice ad2 L[i].ps.length c2))) := (HBw.out.trans (hb2.mono HBw.out.size)).setCell hgw.1 _
      have HSz2 : Hid (w1.heap.size ≤ (w2.setCell ⟨g, i * 4 + 2 + 1, none⟩ (.slice ad2 L[i].ps.length c2)).heap.size) := by
        have h1 := HSz.out
        have h2 := hb2.size
        have h3 := hbut.size
        show _ ≤ _
        omega
      have HYl2 : Hid ((ys.set i { ys[i] with a := ad2, n := L[i].ps.length, c := c2 }).length = n) := by show _ = _; rw [List.length_set]; exact HYl.out
      clear hrd2 hb2 how2 hst hbut hgw hcc
      go_wp2_with fail
      go_roundw
      case rel => exact ⟨_, i + 1, _, rfl, by first | rfl | go_num, by omega, HNew, HYl2, HRd2, HBw2, HSz2⟩
      case measure => simp [intOf]; omega
    · have hin' : i = n := by omega
      have HRd3 : Hid (∀ j (h : j < ys.length) (h' : j < L.length), RdC (fun b => w1.heap.size ≤ b) wo ys[j] L[j]) := fun j h h' => (HRd.out j h h').mono (fun b hb => by
        have := HN.out
        rcases hb with hb | hb
        · exact hb.2
        · omega)
      have hO : OwnR (fun b => w1.heap.size ≤ b) wo w.heap.size (.slice ad n c) ys L := ⟨by rw [← HN.out]; exact HOw.out, HYl.out.trans HN.out, HRd3.out⟩
      have HF : Hid (RdsR (fun b => w.heap.size ≤ b) wo (.slice ad n c) L) := hO.toRds'.mono (fun b hb => by have := HB1.out.size; rcases hb with hb | hb <;> omega)
      clear hO hin'
      go_wp2_with fail
      go_ret
      exact ⟨ad, c, rfl, HF.out, HBw.out⟩

set_option maxHeartbeats 1600000 in
set_option maxRecDepth 20000 in
/-- At, of a version that is not kept. -/
theorem at_bad {ok : Nat → Prop} {base : Nat} {w : World} {sb tb : Nat} {v vo : Value} {us : List Value} {L : List Rl} {W : Int} {ver boot : Nat} {olds : List (List Rl)} (h : Sto ok base w sb tb v vo us L W ver boot olds) (x : Nat) (hx : ver < x ∨ olds.length ≤ ver - x) (hv : ver ≤ 1000000) (ho : olds.length ≤ 4096) :
    Calls Tryz.prog 20 #[.pointer (some ⟨sb, 0, none⟩), .int .u64 x] w fun e w' => e = .returned (.tuple #[.slice none 0 0, .int .i64 211]) ∧ Below w.heap.size w w' := by
  have HM := Lib.hid (made_sto h)
  have c1 := h.c1
  have c3 := h.c3
  obtain ⟨va, vc, rfl, _⟩ := ownsRow_slice h.own
  have hul := h.len
  obtain ⟨n, hn⟩ : ∃ n, us.length = n := ⟨_, rfl⟩
  rw [hn] at c3 hul
  rw [← hul] at hx ho
  clear h hn hul
  by_cases h1 : ver < x
  · have hz : (ver : Int) < (x : Int) := by omega
    clear hx
    go_enter Tryz.func20, Tryz.ntmps20
    go_wp2_with fail
    refine HM.out.mono ?_
    rintro e w1 ⟨rfl, rfl⟩
    go_wp2_with fail
    go_quiet (fail)
    go_wp2_with fail
    go_ret2
    exact ⟨rfl, below_dN (Below.refl _ _) _⟩
  · have h2 : n ≤ ver - x := by omega
    have hz : decide ((ver : Int) < (x : Int)) = false := by simp; omega
    obtain ⟨d, hd⟩ : ∃ d : Nat, ver - x = d := ⟨_, rfl⟩
    have hd1 : (ver : Int) - (x : Int) = (d : Int) := by omega
    have hw1 : IntKind.u64.wrap ((ver : Int) - (x : Int)) = (d : Int) := by
      rw [hd1]
      unfold IntKind.wrap
      simp [IntKind.signed, IntKind.bits]
      omega
    have hw2 : IntKind.u64.wrap (n : Int) = (n : Int) := by
      unfold IntKind.wrap
      simp [IntKind.signed, IntKind.bits]
      omega
    have hz2 : (n : Int) ≤ (d : Int) := by omega
    rw [hd] at h2
    clear hx
    go_enter Tryz.func20, Tryz.ntmps20
    go_wp2_with fail
    refine HM.out.mono ?_
    rintro e w1 ⟨rfl, rfl⟩
    go_wp2_with fail
    go_quiet (fail)
    go_wp2_with fail
    go_ret2
    exact ⟨rfl, below_dN (Below.refl _ _) _⟩

set_option maxHeartbeats 3200000 in
set_option maxRecDepth 20000 in
/-- At, of a version that is kept. -/
theorem at_good {ok : Nat → Prop} {base : Nat} {w : World} {sb tb : Nat} {v vo : Value} {us : List Value} {L : List Rl} {W : Int} {ver boot : Nat} {olds : List (List Rl)} (h : Sto ok base w sb tb v vo us L W ver boot olds) (x : Nat) (hx : x ≤ ver) (hx2 : ver - x < olds.length) (hv : ver ≤ 1000000) (ho : olds.length ≤ 4096) (hf : ∀ l ∈ olds, l.length ≤ 4096) :
    Calls Tryz.prog 20 #[.pointer (some ⟨sb, 0, none⟩), .int .u64 x] w fun e w' => ∃ ad c, e = .returned (.tuple #[.slice ad (olds[olds.length - 1 - (ver - x)]'(by omega)).length c, .int .i64 0]) ∧ RdsR (fun b => w.heap.size ≤ b) w' (.slice ad (olds[olds.length - 1 - (ver - x)]'(by omega)).length c) (olds[olds.length - 1 - (ver - x)]'(by omega)) ∧ Below w.heap.size w w' := by
  have HM := Lib.hid (made_sto h)
  have c1 := h.c1
  have c3 := h.c3
  obtain ⟨k, hk⟩ : ∃ k, olds.length - 1 - (ver - x) = k := ⟨_, rfl⟩
  have hkl : k < olds.length := by omega
  have hku : k < us.length := by have := h.len; omega
  obtain ⟨R, hR⟩ : ∃ R, olds[k] = R := ⟨_, rfl⟩
  have hR2 : olds[olds.length - 1 - (ver - x)]'(by omega) = R := by rw [← hR]; congr 1
  rw [hR2]
  have hrd := h.rd k hku hkl
  rw [hR] at hrd
  have hRf : R.length ≤ 4096 := by rw [← hR]; exact hf _ (List.getElem_mem hkl)
  obtain ⟨adk, capk, huk, _, _⟩ := hrd.form
  rw [huk] at hrd
  obtain ⟨va, vc, hvo, _⟩ := ownsRow_slice h.own
  have hrow : ∃ g, va = some ⟨g, 0, none⟩ ∧ w.cell? ⟨g, k, none⟩ = some (.slice adk R.length capk) := by
    rcases h.own.2 with ⟨h1, h2⟩ | ⟨g, cap, cur, hv', hg, hh, hn, hc, hs, ht⟩
    · omega
    · rw [hvo] at hv'
      injection hv' with e1 _ _
      refine ⟨g, e1, ?_⟩
      have h3 : (cur.toList.take (us.length * 1))[k]? = us[k]? := by rw [ht]
      rw [List.getElem?_take_of_lt (by omega), List.getElem?_eq_getElem hku, huk] at h3
      simpa [World.cell?, hh] using h3
  obtain ⟨g, rfl, hcell⟩ := hrow
  subst hvo
  have hul := h.len
  obtain ⟨n, hn⟩ : ∃ n, us.length = n := ⟨_, rfl⟩
  rw [hn] at c3 hul
  rw [← hul] at hx2 ho hk
  have HCp := Lib.hid (fun W (hb : Below w.heap.size w W) => scopied_any ok (.slice adk R.length capk) R W (hrd.below hb) (by omega))
  clear h hn hul hrd hR hR2 huk hkl hku hf
  have hz : decide ((ver : Int) < (x : Int)) = false := by simp; omega
  obtain ⟨d, hd⟩ : ∃ d : Nat, ver - x = d := ⟨_, rfl⟩
  rw [hd] at hx2 hk
  have hd1 : (ver : Int) - (x : Int) = (d : Int) := by omega
  have hwd : IntKind.u64.wrap (d : Int) = (d : Int) := by
    unfold IntKind.wrap
    simp [IntKind.signed, IntKind.bits]
    omega
  have hw1 : IntKind.u64.wrap ((ver : Int) - (x : Int)) = (d : Int) := by rw [hd1]; exact hwd
  have hw2 : IntKind.u64.wrap (n : Int) = (n : Int) := by
    unfold IntKind.wrap
    simp [IntKind.signed, IntKind.bits]
    omega
  have hz2 : decide ((n : Int) ≤ (d : Int)) = false := by simp; omega
  have hw3 : IntKind.i64.wrap (d : Int) = (d : Int) := IntWalk.i64_in _ (by omega)
  have hw4 : IntKind.i64.wrap ((n : Int) - 1) = (n : Int) - 1 := IntWalk.i64_in _ (by omega)
  have hk1 : (n : Int) - 1 - (d : Int) = (k : Int) := by omega
  have hw5 : IntKind.i64.wrap ((n : Int) - 1 - (d : Int)) = (k : Int) := by rw [hk1]; exact IntWalk.i64_in _ (by omega)
  have hw6 : IntKind.i64.wrap (k : Int) = (k : Int) := IntWalk.i64_in _ (by omega)
  have hk2 : (0 : Int) ≤ (k : Int) := by omega
  have hk3 : (k : Int) < (n : Int) := by omega
  have hk4 : k < n := by omega
  have hnx : ¬ ver < x := by omega
  have hnd : ¬ n ≤ d := by omega
  clear hx hd hk
  go_enter Tryz.func20, Tryz.ntmps20
  go_wp2_with fail
  refine HM.out.mono ?_
  rintro e w1 ⟨rfl, rfl⟩
  go_wp2_with fail
  go_quiet (fail)
  go_upto_region 5 with fail
  have hB : Below w.heap.size w (w.drewN nq) := below_dN (Below.refl _ _) nq
  obtain ⟨wq, hwq⟩ : ∃ wq, wq = w.drewN nq := ⟨_, rfl⟩
  rw [← hwq] at hB ⊢
  have c1' := (hB.cell (p := ⟨sb, 1, none⟩) (cell_lt c1)).trans c1
  have c3' := (hB.cell (p := ⟨sb, 3, none⟩) (cell_lt c3)).trans c3
  have hcell' := (hB.cell (p := ⟨g, k, none⟩) (cell_lt hcell)).trans hcell
  have HC2 := Lib.hid (HCp.out wq.drew hB.drew)
  have HBd := Lib.hid hB.drew
  clear c1 c3 hcell hB hwq
  go_still_tail 20, (by kernel_rfl)
  change wpList _ _ _ _ _ wq.drew
  generalize wq.drew = wd at HC2 HBd ⊢
  go_wp2_with fail
  refine HC2.out.mono ?_
  rintro e w5 ⟨ad5, c5, rfl, hr5, hb5⟩
  have HR5 := Lib.hid hr5
  have HB5 := Lib.hid hb5
  clear hr5 hb5
  go_wp2_with fail
  go_ret2
  exact ⟨ad5, c5, rfl, HR5.out.mono (fun b hb => by have := HBd.out.size; omega), HBd.out.trans (HB5.out.mono HBd.out.size)⟩
end Go.Proofs.YtlbelkjgaeaaeaaGreat
/-
  The law StoreKept: what its loops keep.
-/
namespace Go.Proofs.YtlbelkjgaeaaeaaGreat
open Go.RowKit Go.Shelf Go.Lib Go.Sort
set_option linter.unusedVariables false
set_option linter.unusedSectionVars false
set_option linter.unusedSimpArgs false

theorem Sto.toP {ok : Nat → Prop} {base : Nat} {w : World} {sb tb : Nat} {v vo : Value} {us : List Value} {L : List Rl} {W : Int} {ver boot : Nat} {olds : List (List Rl)} (h : Sto ok base w sb tb v vo us L W ver boot olds) (P : Nat → Prop) (hP : ∀ b, ok b → b < w.heap.size → P b) (hs : ∀ b, P b → b ≠ sb) (ht : ∀ b, P b → b ≠ tb) (hv : ∀ b, vo.ownBlock = some b → ¬ P b) : Sto P base w sb tb v vo us L W ver boot olds :=
  ⟨h.c0, h.c1, h.c2, h.c3, h.f1, h.f2, h.f3, h.tab.toQ P hP ht, h.own, h.len, fun i a b => (h.rd i a b).lt.mono fun k hk => hP k hk.1 hk.2, hs, h.ne, fun b hb => ⟨hv b hb, (h.nv b hb).2⟩⟩

/-- Blocks in which what is told may lie. -/
def okK (n0 sb tb : Nat) (vo rv : Value) (b : Nat) : Prop := n0 ≤ b ∧ b ≠ sb ∧ b ≠ tb ∧ vo.ownBlock ≠ some b ∧ rv.ownBlock ≠ some b

/-- A store, and the rules of its versions, told one after another. -/
structure Kp (n0 : Nat) (wr : World) (sb tb : Nat) (v vo rv : Value) (us rs : List Value) (L : List Rl) (W : Int) (ver boot : Nat) (olds : List (List Rl)) : Prop where
  sto : Sto (okK n0 sb tb vo rv) n0 wr sb tb v vo us L W ver boot olds
  row : wr.ownsRow n0 44 1 rv rs.length rs
  rlen : rs.length = olds.length
  rrd : ∀ i (h : i < rs.length) (h' : i < olds.length), RdsR (okK n0 sb tb vo rv) wr rs[i] olds[i]
  rne : ∀ b, rv.ownBlock = some b → b ≠ sb ∧ b ≠ tb ∧ vo.ownBlock ≠ some b
  lv : olds.length = ver + 1
  few : ∀ l ∈ olds, l.length ≤ 4096
  okL : Fb.Ok W L
  sn : n0 ≤ sb
  tn : n0 ≤ tb

theorem Kp.below {n0 : Nat} {wr w' : World} {sb tb : Nat} {v vo rv : Value} {us rs : List Value} {L : List Rl} {W : Int} {ver boot : Nat} {olds : List (List Rl)} (h : Kp n0 wr sb tb v vo rv us rs L W ver boot olds) (hb : Below wr.heap.size wr w') : Kp n0 w' sb tb v vo rv us rs L W ver boot olds :=
  ⟨h.sto.below hb, ownsRow_below h.row hb, h.rlen, fun i a b => (h.rrd i a b).below hb, h.rne, h.lv, h.few, h.okL, h.sn, h.tn⟩

/-- Behind a refused install. -/
theorem Kp.bad {n0 : Nat} {wr w' : World} {sb tb : Nat} {v v' vo rv : Value} {us rs : List Value} {L : List Rl} {W : Int} {ver boot : Nat} {olds : List (List Rl)} (h : Kp n0 wr sb tb v vo rv us rs L W ver boot olds) (hs : Sto (okNew (okK n0 sb tb vo rv) wr) n0 w' sb tb v' vo us L W ver boot olds) (hb : But (fun b => b = tb) wr w') : Kp n0 w' sb tb v' vo rv us rs L W ver boot olds := by
  have hsl := h.sto.slt
  have htl := h.sto.tab.lt
  refine ⟨hs.toP _ ?_ (fun b hb => hb.2.1) (fun b hb => hb.2.2.1) (fun b hb h1 => h1.2.2.2.1 hb), ownsRow_butS h.row hb (fun b hb e => (h.rne b hb).2.1 e), h.rlen, fun i a b => (h.rrd i a b).but hb (fun b hb e => hb.2.2.1 e), h.rne, h.lv, h.few, h.okL, h.sn, h.tn⟩
  rintro b (⟨h1, _⟩ | h1) _
  · exact h1
  · refine ⟨by have := h.sn; omega, by omega, by omega, fun e => ?_, fun e => ?_⟩
    · have := (own_lt h.sto.own e).2; omega
    · have := (own_lt h.row e).2; omega

/-- Behind an install that made a version, its rules told. -/
theorem Kp.good {n0 : Nat} {wr w2 w3 w4 : World} {sb tb : Nat} {v v' vo vo' rv : Value} {us us' rs : List Value} {L E : List Rl} {W : Int} {ver boot : Nat} {olds : List (List Rl)} (h : Kp n0 wr sb tb v vo rv us rs L W ver boot olds)
    (hs : Sto (fun b => okNew (okK n0 sb tb vo rv) wr b ∧ vo'.ownBlock ≠ some b) n0 w2 sb tb v' vo' us' E W (ver + 1) boot (olds ++ [E])) (hvo : ∀ b, vo'.ownBlock = some b → vo.ownBlock = some b ∨ wr.heap.size ≤ b) (hb : But (fun b => b = sb ∨ b = tb ∨ vo.ownBlock = some b) wr w2) (hE : Fb.Ok W E)
    {u : Value} (hr : RdsR (fun b => w2.heap.size ≤ b) w3 u E) (hb3 : Below w2.heap.size w2 w3) {gg cap : Nat} {t : TypeId} (hg : (w3.alloc (.cells #[u] t)).grownBy w4 rv.ownBlock) (hgg : rv.ownBlock = some gg ∨ gg = w3.heap.size + 1) (ho : w4.ownsRow n0 44 1 (.slice (some ⟨gg, 0, none⟩) (rs.length + 1) cap) (rs.length + 1) (rs ++ [u])) :
    Kp n0 w4 sb tb v' vo' (.slice (some ⟨gg, 0, none⟩) (rs.length + 1) cap) us' (rs ++ [u]) E W (ver + 1) boot (olds ++ [E]) := by
  have hsl := h.sto.slt
  have htl := h.sto.tab.lt
  have hs2 := hb.size
  have hs3 := hb3.size
  have hrl : ∀ b, rv.ownBlock = some b → n0 ≤ b ∧ b < wr.heap.size := fun b e => own_lt h.row e
  have hvl : ∀ b, vo'.ownBlock = some b → b < w2.heap.size := fun b e => (own_lt hs.own e).2
  have hvr : ∀ b, vo'.ownBlock = some b → rv.ownBlock ≠ some b := fun b e e2 => by
    rcases hvo b e with h1 | h1
    · exact (h.rne b e2).2.2 h1
    · have := (hrl b e2).2; omega
  have hgrow : But (fun k => rv.ownBlock = some k) w3 w4 := ⟨hg.os, hg.tape, hg.output, by have := hg.size; simp at this; omega, fun k hk hn => (hg.block k (by simp; omega) (fun e => hn e.symm)).trans (Below.heap_alloc _ _ _ hk)⟩
  have hggl : ∀ b, okK n0 sb tb vo rv b → b < w3.heap.size → gg ≠ b := fun b hb hl e => by
    rcases hgg with h1 | h1
    · exact hb.2.2.2.2 (e ▸ h1)
    · omega
  have hP : ∀ b, okNew (okK n0 sb tb vo rv) wr b ∧ vo'.ownBlock ≠ some b → b < w3.heap.size → okK n0 sb tb vo' (.slice (some ⟨gg, 0, none⟩) (rs.length + 1) cap) b := by
    rintro b ⟨h1 | h1, h2⟩ hl
    · exact ⟨h1.1.1, h1.1.2.1, h1.1.2.2.1, h2, fun e => hggl b h1.1 hl (by injection e)⟩
    · refine ⟨by have := h.sn; omega, by omega, by omega, h2, fun e => ?_⟩
      have e : gg = b := by injection e
      rcases hgg with h3 | h3
      · have := (hrl gg h3).2; omega
      · omega
  have hS3 := hs.below hb3
  have hS3' := hS3.toP (fun b => (okNew (okK n0 sb tb vo rv) wr b ∧ vo'.ownBlock ≠ some b) ∧ b < w3.heap.size) (fun b hb hl => ⟨hb, hl⟩) (fun b hb => hS3.ns b hb.1) (fun b hb => hS3.tab.no b hb.1) (fun b hb h1 => h1.1.2 hb)
  have hok2 : ∀ b, okNew (okK n0 sb tb vo rv) wr b → ¬ rv.ownBlock = some b := fun b hb e => by
    rcases hb with h1 | h1
    · exact h1.1.2.2.2.2 e
    · have := (hrl b e).2; omega
  have hS4 := hS3'.but hgrow (fun e => (h.rne sb e).1 rfl) (fun e => (h.rne tb e).2.1 rfl) (fun b hb e => hok2 b hb.1.1 e) (fun b hb e => hvr b hb e)
  have hS5 := hS4.toP (okK n0 sb tb vo' (.slice (some ⟨gg, 0, none⟩) (rs.length + 1) cap)) (fun b hb _ => hP b hb.1 hb.2) (fun b hb => hb.2.1) (fun b hb => hb.2.2.1) (fun b hb h1 => h1.2.2.2.1 hb)
  have hggn : gg ≠ sb ∧ gg ≠ tb ∧ vo'.ownBlock ≠ some gg := by
    rcases hgg with h1 | h1
    · exact ⟨(h.rne gg h1).1, (h.rne gg h1).2.1, fun e => hvr gg e h1⟩
    · exact ⟨by omega, by omega, fun e => by have := hvl gg e; omega⟩
  refine ⟨hS5, by rw [List.length_append, List.length_singleton]; exact ho, by simp [h.rlen], ?_, ?_, by simp [h.lv], ?_, hE, h.sn, h.tn⟩
  · intro i h1 h2
    by_cases hi : i < rs.length
    · have e1 : (rs ++ [u])[i] = rs[i] := List.getElem_append_left hi
      have e2 : (olds ++ [E])[i] = olds[i]'(by have := h.rlen; omega) := List.getElem_append_left _
      rw [e1, e2]
      have r0 := (h.rrd i hi (by have := h.rlen; omega)).lt
      have r1 := r0.but hb (fun b hb e => by
        rcases e with e | e | e
        · exact hb.1.2.1 e
        · exact hb.1.2.2.1 e
        · exact hb.1.2.2.2.1 e)
      have r2 := r1.below hb3
      have r3 := r2.but hgrow (fun b hb e => hb.1.2.2.2.2 e)
      exact r3.mono (fun b hb => hP b ⟨.inl hb, fun e => by
        rcases hvo b e with h4 | h4
        · exact hb.1.2.2.2.1 h4
        · have := hb.2; omega⟩ (by have := hb.2; omega))
    · have hi2 : i = rs.length := by simp at h1; omega
      subst hi2
      have e1 : (rs ++ [u])[rs.length] = u := by simp
      have e2 : (olds ++ [E])[rs.length] = E := by simp [h.rlen]
      rw [e1, e2]
      have r3 := hr.lt.but hgrow (fun b hb e => by have := (hrl b e).2; have h4 : w2.heap.size ≤ b := hb.1; omega)
      exact r3.mono (fun b hb => by
        have h4 : w2.heap.size ≤ b := hb.1
        exact hP b ⟨.inr (by omega), fun e => by have := hvl b e; omega⟩ hb.2)
  · intro b hb
    injection hb with hb
    have hb : gg = b := hb
    subst hb
    exact hggn
  · intro l hl
    rcases List.mem_append.1 hl with hl | hl
    · exact h.few l hl
    · rw [List.mem_singleton] at hl
      subst hl
      exact hE.few
end Go.Proofs.YtlbelkjgaeaaeaaGreat
/-
  The law StoreKept: its walk.
-/
namespace Go.Proofs.YtlbelkjgaeaaeaaGreat
open Go.RowKit Go.Shelf Go.Lib Go.Sort
set_option linter.unusedVariables false
set_option linter.unusedSectionVars false
set_option linter.unusedSimpArgs false

/-- An act of a script. -/
structure Opx where
  k : Int
  m : List (Int × Rl)
  back : Int
  hdr : ByteArray

/-- v reads as acts. -/
def RdsOps (w : World) (v : Value) (os : List Opx) : Prop :=
  ∃ ad n cap, v = .slice ad n cap ∧ n = os.length ∧ n ≤ maxLen ∧ ∀ i (h : i < os.length), ∃ b off cv, ad = some ⟨b, off, none⟩ ∧ b < w.heap.size ∧ w.cell? ⟨b, off + i * 4, none⟩ = some (.int .i64 os[i].k) ∧ w.cell? ⟨b, off + i * 4 + 1, none⟩ = some cv ∧
    w.cell? ⟨b, off + i * 4 + 2, none⟩ = some (.int .u64 os[i].back) ∧ w.cell? ⟨b, off + i * 4 + 3, none⟩ = some (.string os[i].hdr) ∧ RdsC (fun _ => True) w cv os[i].m ∧ os[i].m.length * 64 ≤ 140737488351232 ∧ os[i].hdr.size ≤ maxLen

set_option maxHeartbeats 800000 in
set_option maxRecDepth 20000 in
theorem install_none {ok ok2 : Nat → Prop} {base : Nat} {w : World} {sb tb : Nat} {v vo : Value} {us : List Value} {L : List Rl} {W : Int} {ver boot : Nat} {olds : List (List Rl)} (h : Sto ok base w sb tb v vo us L W ver boot olds) {cv : Value} (hc : RdsC ok2 w cv []) :
    Calls Tryz.prog 15 #[.pointer (some ⟨sb, 0, none⟩), cv] w fun e w' => e = .returned (.tuple #[.int .u64 0, .int .i64 0, .int .i64 1]) ∧ w = w' := by
  have HM := Lib.hid (made_sto h)
  obtain ⟨ad, cap, rfl, _, _⟩ := hc.form
  clear h hc
  go_enter Tryz.func15, Tryz.ntmps15
  go_wp2_with fail
  refine HM.out.mono ?_
  rintro e w1 ⟨rfl, rfl⟩
  go_wp2_with fail
  refine bodyPost_ret (v := .tuple #[.int .u64 0, .int .i64 0, .int .i64 1]) (by simp [results, go_sem]) rfl ?_
  exact ⟨rfl, rfl⟩

/-- At the beginning. -/
theorem Kp.start {n0 : Nat} {w1 w2 : World} {sb tb : Nat} {vo : Value} {us : List Value} {W : Int} (hs : Sto (fun _ => False) n0 w1 sb tb (.slice none 0 0) vo us [] W 0 1 [[]]) (hb : Below w1.heap.size w1 w2) {u : Value} (hr : RdsR (fun b => w1.heap.size ≤ b) w2 u []) (h1 : n0 ≤ sb) (h2 : n0 ≤ tb) (h3 : n0 ≤ w1.heap.size) :
    Kp n0 (w2.alloc (.cells #[u] 44)) sb tb (.slice none 0 0) vo (.slice (some ⟨w2.heap.size, 0, none⟩) 1 1) us [u] [] W 0 1 [[]] := by
  have hsz := hb.size
  have hsl := hs.slt
  have htl := hs.tab.lt
  have hba : Below w2.heap.size w2 (w2.alloc (.cells #[u] 44)) := (Below.refl _ _).alloc (Nat.le_refl _) _
  have hvl : ∀ b, vo.ownBlock = some b → b < w1.heap.size := fun b e => (own_lt hs.own e).2
  refine ⟨((hs.below hb).below hba).toP _ (fun b h => h.elim) (fun b hb => hb.2.1) (fun b hb => hb.2.2.1) (fun b hb h => h.2.2.2.1 hb), ?_, rfl, ?_, ?_, rfl, by simp, Fb.ok_nil W, h1, h2⟩
  · refine ⟨rfl, .inr ⟨w2.heap.size, 1, #[u], rfl, by omega, heap_alloc_new _ _, Nat.le_refl _, by unfold maxLen; omega, rfl, rfl⟩⟩
  · intro i hi hi'
    have : i = 0 := by simpa using hi
    subst this
    refine (hr.lt.below hba).mono fun b hb => ?_
    have h4 : w1.heap.size ≤ b := hb.1
    exact ⟨by omega, by omega, by omega, fun e => by have := hvl b e; omega, fun e => by
      have e : w2.heap.size = b := by injection e
      have := hb.2
      omega⟩
  · intro b hb
    injection hb with hb
    have hb : w2.heap.size = b := hb
    subst hb
    exact ⟨by omega, by omega, fun e => by have := hvl _ e; omega⟩
end Go.Proofs.YtlbelkjgaeaaeaaGreat
/-
  The law StoreKept: its walk.
-/
namespace Go.Proofs.YtlbelkjgaeaaeaaGreat
open Go.RowKit Go.Shelf Go.Lib Go.Sort
set_option linter.unusedVariables false
set_option linter.unusedSectionVars false
set_option linter.unusedSimpArgs false

theorem own_cell {w : World} {base : Nat} {e : TypeId} {va : Option Addr} {n vc : Nat} {xs : List Value} (h : w.ownsRow base e 1 (.slice va n vc) n xs) (k : Nat) (hk : k < xs.length) : ∃ g, va = some ⟨g, 0, none⟩ ∧ g < w.heap.size ∧ w.cell? ⟨g, k, none⟩ = some xs[k] := by
  have hl := h.1
  rcases h.2 with ⟨h1, h2⟩ | ⟨g, cap, cur, hv', hg, hh, hn, hc, hs, ht⟩
  · omega
  · injection hv' with e1 _ _
    refine ⟨g, e1, (Array.getElem?_eq_some_iff.1 hh).1, ?_⟩
    have h3 : (cur.toList.take (n * 1))[k]? = xs[k]? := by rw [ht]
    rw [List.getElem?_take_of_lt (by omega), List.getElem?_eq_getElem hk] at h3
    simpa [World.cell?, hh] using h3

theorem at_place {ok : Nat → Prop} {base : Nat} {w : World} {sb tb : Nat} {v vo : Value} {us : List Value} {L : List Rl} {W : Int} {ver boot : Nat} {olds : List (List Rl)} (h : Sto ok base w sb tb v vo us L W ver boot olds) (x : Nat) (hl : olds.length = ver + 1) (hx : x < olds.length) (hv : ver ≤ 4000) (hf : ∀ l ∈ olds, l.length ≤ 4096) :
    Calls Tryz.prog 20 #[.pointer (some ⟨sb, 0, none⟩), .int .u64 x] w fun e w' => ∃ ad c, e = .returned (.tuple #[.slice ad olds[x].length c, .int .i64 0]) ∧ RdsR (fun b => w.heap.size ≤ b) w' (.slice ad olds[x].length c) olds[x] ∧ Below w.heap.size w w' := by
  have h1 := at_good h x (by omega) (by omega) (by omega) (by omega) hf
  have e : olds[olds.length - 1 - (ver - x)]'(by omega) = olds[x] := by congr 1; omega
  rw [e] at h1
  exact h1

end Go.Proofs.YtlbelkjgaeaaeaaGreat
/-
  Walks over the reference of store: what a store holds; New, Rules.
-/
namespace Go.Proofs.YtlbelkjgaeaaeaaGreat
open Go.RowKit Go.Shelf Go.Lib Go.Sort
set_option linter.unusedVariables false
set_option linter.unusedSectionVars false
set_option linter.unusedSimpArgs false

/-- The reference's store in block sb, its table in block tb: its four cells, and what they read as. -/
structure RSto (ok : Nat → Prop) (base : Nat) (w : World) (sb tb : Nat) (v vo : Value) (us : List Value) (L : List Rl) (W : Int) (ver boot : Nat) (olds : List (List Rl)) : Prop where
  c0 : w.cell? ⟨sb, 0, none⟩ = some (.pointer (some ⟨tb, 0, none⟩))
  c1 : w.cell? ⟨sb, 1, none⟩ = some (.int .u64 ver)
  c2 : w.cell? ⟨sb, 2, none⟩ = some (.int .u32 boot)
  c3 : w.cell? ⟨sb, 3, none⟩ = some vo
  f1 : w.frozen? ⟨sb, 1, none⟩ = false
  f2 : w.frozen? ⟨sb, 2, none⟩ = false
  f3 : w.frozen? ⟨sb, 3, none⟩ = false
  tab : Tab 1 0 ok w tb v L W
  own : w.ownsRow base 44 1 vo us.length us
  len : us.length = olds.length
  rd : ∀ i (h : i < us.length) (h' : i < olds.length), RdsR ok w us[i] olds[i]
  ns : ∀ b, ok b → b ≠ sb
  ne : sb ≠ tb
  nv : ∀ b, vo.ownBlock = some b → ¬ ok b ∧ b ≠ sb ∧ b ≠ tb

theorem RSto.slt {ok : Nat → Prop} {base : Nat} {w : World} {sb tb : Nat} {v vo : Value} {us : List Value} {L : List Rl} {W : Int} {ver boot : Nat} {olds : List (List Rl)} (h : RSto ok base w sb tb v vo us L W ver boot olds) : sb < w.heap.size := cell_lt h.c0

theorem RSto.but {ok S : Nat → Prop} {base : Nat} {w w' : World} {sb tb : Nat} {v vo : Value} {us : List Value} {L : List Rl} {W : Int} {ver boot : Nat} {olds : List (List Rl)} (h : RSto ok base w sb tb v vo us L W ver boot olds) (hb : But S w w') (h1 : ¬ S sb) (h2 : ¬ S tb) (h3 : ∀ b, ok b → ¬ S b) (h4 : ∀ b, vo.ownBlock = some b → ¬ S b) : RSto ok base w' sb tb v vo us L W ver boot olds := by
  have hl := h.slt
  exact ⟨(hb.cell (p := ⟨sb, 0, none⟩) hl h1).trans h.c0, (hb.cell (p := ⟨sb, 1, none⟩) hl h1).trans h.c1, (hb.cell (p := ⟨sb, 2, none⟩) hl h1).trans h.c2, (hb.cell (p := ⟨sb, 3, none⟩) hl h1).trans h.c3, (hb.frozen (p := ⟨sb, 1, none⟩) hl h1).trans h.f1, (hb.frozen (p := ⟨sb, 2, none⟩) hl h1).trans h.f2, (hb.frozen (p := ⟨sb, 3, none⟩) hl h1).trans h.f3,
    h.tab.but hb h2 h3, ownsRow_butS h.own hb h4, h.len, fun i a b => (h.rd i a b).but hb h3, h.ns, h.ne, h.nv⟩
theorem RSto.below {ok : Nat → Prop} {base : Nat} {w w' : World} {sb tb : Nat} {v vo : Value} {us : List Value} {L : List Rl} {W : Int} {ver boot : Nat} {olds : List (List Rl)} (h : RSto ok base w sb tb v vo us L W ver boot olds) (hb : Below w.heap.size w w') : RSto ok base w' sb tb v vo us L W ver boot olds :=
  h.but (S := fun _ => False) (But.below hb) (fun h => h) (fun h => h) (fun _ _ h => h) (fun _ _ h => h)

set_option maxHeartbeats 800000 in
set_option maxRecDepth 20000 in
theorem rsnew_bad (W : Int) (w : World) (h : W < 1 ∨ W > 128) :
    Calls Tryz.prog 5 #[.int .i64 W] w fun e w' => e = .returned (.tuple #[.pointer none, .int .i64 1]) ∧ w = w' := by
  have HN := Lib.hid (fun w => rNew_bad W w h)
  clear h
  go_enter Tryz.func5, Tryz.ntmps5
  go_wp2_with fail
  refine (HN.out _).mono ?_
  rintro e w1 ⟨rfl, rfl⟩
  go_wp2_with fail
  go_ret2
  exact ⟨rfl, rfl⟩

set_option maxHeartbeats 1600000 in
set_option maxRecDepth 20000 in
theorem rsnew_ok (W : Int) (w : World) (base : Nat) (hbase : base ≤ w.heap.size) (h1 : 1 ≤ W) (h2 : W ≤ 128) :
    Calls Tryz.prog 5 #[.int .i64 W] w fun e w' => e = .returned (.tuple #[.pointer (some ⟨w.heap.size + 2, 0, none⟩), .int .i64 0]) ∧
      RSto (fun _ => False) base w' (w.heap.size + 2) w.heap.size (.slice none 0 0) (.slice (some ⟨w.heap.size + 1, 0, none⟩) 1 1) [.slice none 0 0] [] W 0 1 [[]] ∧ Below w.heap.size w w' ∧ w'.heap.size = w.heap.size + 3 := by
  have HN := Lib.hid (fun w => rNew_ok W w h1 h2)
  have H1 := Lib.hid h1
  have H2 := Lib.hid h2
  clear h1 h2
  go_enter Tryz.func5, Tryz.ntmps5
  go_wp2_with fail
  refine (HN.out _).mono ?_
  rintro e w1 ⟨rfl, rfl⟩
  go_wp2_with fail
  go_ret2
  have hb1 : Below w.heap.size w (w.alloc (.cells #[.int .i64 W, .slice none 0 0] 85)) := (Below.refl _ _).alloc (Nat.le_refl _) _
  refine ⟨by simp, ⟨?_, ?_, ?_, ?_, ?_, ?_, ?_, ?_, ?_, rfl, ?_, fun b h => h.elim, by omega, ?_⟩, (hb1.alloc (by simp) _).alloc (by simp; omega) _, by simp⟩
  · simp [go_sem]
  · simp [go_sem]
  · simp [go_sem]
  · simp [go_sem]
  · simp [go_sem]
  · simp [go_sem]
  · simp [go_sem]
  · exact (((rtab_new w W H1.out H2.out).below ((Below.refl _ _).alloc (Nat.le_refl _) _)).below ((Below.refl _ _).alloc (Nat.le_refl _) _)).mono (fun _ h => h.elim) (fun _ h => h.elim)
  · refine ⟨rfl, .inr ⟨w.heap.size + 1, 1, #[.slice none 0 0], rfl, by omega, ?_, Nat.le_refl _, by unfold maxLen; omega, rfl, rfl⟩⟩
    have h3 : (w.alloc (.cells #[.int .i64 W, .slice none 0 0] 85)).heap.size = w.heap.size + 1 := by simp
    have h4 := heap_alloc_new (w.alloc (.cells #[.int .i64 W, .slice none 0 0] 85)) (.cells #[.slice none 0 0] 44)
    rw [h3] at h4
    exact (Below.heap_alloc _ _ _ (by simp)).trans h4
  · intro i h h'
    have : i = 0 := by simpa using h
    subst this
    exact ⟨[], none, 0, 0, rfl, rfl, rfl, ⟨Nat.le_refl _, fun _ => rfl⟩, Nat.zero_le _, okV_nil _ _ _, fun i h => absurd h (Nat.not_lt_zero _), fun i h => absurd h (Nat.not_lt_zero _)⟩
  · intro b hb
    injection hb with hb
    have hb : w.heap.size + 1 = b := hb
    subst hb
    exact ⟨fun h => h, by omega, by omega⟩

set_option maxHeartbeats 800000 in
set_option maxRecDepth 20000 in
theorem rsrules_tab {ok : Nat → Prop} {w : World} {sb tb : Nat} {v : Value} {L : List Rl} {W : Int} (c0 : w.cell? ⟨sb, 0, none⟩ = some (.pointer (some ⟨tb, 0, none⟩))) (h : Tab 1 0 ok w tb v L W) (hL : Fb.Ok W L) :
    Calls Tryz.prog 12 #[.pointer (some ⟨sb, 0, none⟩)] w fun e w' => ∃ ad c, e = .returned (.slice ad L.length c) ∧ RdsR (fun b => w.heap.size ≤ b ∨ (ok b ∧ b < w.heap.size)) w' (.slice ad L.length c) L ∧ Below w.heap.size w w' := by
  have hO := rOrder_rules ok v L w h.rd (by have := hL.few; omega)
  rw [St.isort_srd swoR (Fb.strict_srd hL.strict)] at hO
  have HO := Lib.hid hO
  have c1 := h.c0
  obtain ⟨va, vc, rfl, _, _⟩ := h.rd.form
  clear hO h
  go_enter Tryz.func12, Tryz.ntmps12
  go_wp2_with fail
  refine HO.out.mono ?_
  rintro e w2 ⟨v', rfl, hr, hb⟩
  obtain ⟨a2, c2, rfl, _, _⟩ := hr.form
  have HR := Lib.hid hr
  have HB := Lib.hid hb
  clear hr hb
  go_wp2_with fail
  go_ret
  exact ⟨a2, c2, rfl, HR.out, HB.out⟩
end Go.Proofs.YtlbelkjgaeaaeaaGreat
/-
  Walks over the reference of store: Install.
-/
namespace Go.Proofs.YtlbelkjgaeaaeaaGreat
open Go.RowKit Go.Shelf Go.Lib Go.Sort
set_option linter.unusedVariables false
set_option linter.unusedSectionVars false
set_option linter.unusedSimpArgs false
attribute [local go_sem] Oper.semAt_some

/-- Another table in the same store. -/
theorem RSto.setTab {ok ok' S : Nat → Prop} {base : Nat} {w w' : World} {sb tb : Nat} {v v' vo : Value} {us : List Value} {L L' : List Rl} {W : Int} {ver boot : Nat} {olds : List (List Rl)} (h : RSto ok base w sb tb v vo us L W ver boot olds) (hb : But S w w') (h1 : ¬ S sb) (h3 : ∀ b, ok b → ¬ S b) (h4 : ∀ b, vo.ownBlock = some b → ¬ S b)
    (hT : Tab 1 0 ok' w' tb v' L' W) (hk : ∀ b, ok b → b < w.heap.size → ok' b) (hns : ∀ b, ok' b → b ≠ sb) (hnv : ∀ b, vo.ownBlock = some b → ¬ ok' b) : RSto ok' base w' sb tb v' vo us L' W ver boot olds := by
  have hl := h.slt
  exact ⟨(hb.cell (p := ⟨sb, 0, none⟩) hl h1).trans h.c0, (hb.cell (p := ⟨sb, 1, none⟩) hl h1).trans h.c1, (hb.cell (p := ⟨sb, 2, none⟩) hl h1).trans h.c2, (hb.cell (p := ⟨sb, 3, none⟩) hl h1).trans h.c3, (hb.frozen (p := ⟨sb, 1, none⟩) hl h1).trans h.f1, (hb.frozen (p := ⟨sb, 2, none⟩) hl h1).trans h.f2, (hb.frozen (p := ⟨sb, 3, none⟩) hl h1).trans h.f3,
    hT, ownsRow_butS h.own hb h4, h.len, fun i a b => (((h.rd i a b).lt.but hb fun k hk' => h3 k hk'.1).mono fun k hk' => hk k hk'.1 hk'.2), hns, h.ne, fun b hb => ⟨hnv b hb, (h.nv b hb).2⟩⟩

/-- A refused install. -/
theorem rinstall_bad {ok ok2 : Nat → Prop} {base : Nat} {w : World} {sb tb : Nat} {v vo : Value} {us : List Value} {L : List Rl} {W : Int} {ver boot : Nat} {olds : List (List Rl)} (h : RSto ok base w sb tb v vo us L W ver boot olds) {cv : Value} {m : List (Int × Rl)} (hc : RdsC ok2 w cv m) (hm : m.length * 64 ≤ 140737488351232) (hm0 : m ≠ []) (hL : Fb.Ok W L) (hd : ¬ (Fb.doL W L m 0).2.2 = 0) :
    Calls Tryz.prog 18 #[.pointer (some ⟨sb, 0, none⟩), cv] w fun e w' => e = .returned (.tuple #[.int .u64 0, .int .i64 (Fb.doL W L m 0).2.1, .int .i64 (Fb.doL W L m 0).2.2]) ∧ (∃ v', RSto (okNew ok w) base w' sb tb v' vo us L W ver boot olds) ∧ But (fun b => b = tb) w w' := by
  have HD := Lib.hid (rDo_tab h.tab hc hm hL)
  obtain ⟨ad, cap, rfl, _, _⟩ := hc.form
  have c0 := h.c0
  have H := Lib.hid h
  have hE : Fb.endL W L m = L := by
    unfold Fb.endL
    cases e : (Fb.doL W L m 0).1 with
    | none => rfl
    | some L' => exact absurd (Fb.doL_err.2 (by rw [e]; rfl)) hd
  have HE := Lib.hid hE
  have hz : ((m.length : Int) == 0) = false := by
    have := List.length_pos_iff.2 hm0
    simp; omega
  have hz2 : (m.length == 0) = false := by simpa using hm0
  obtain ⟨j, hj⟩ : ∃ j, (Fb.doL W L m 0).2.1 = j := ⟨_, rfl⟩
  obtain ⟨q, hq⟩ : ∃ q, (Fb.doL W L m 0).2.2 = q := ⟨_, rfl⟩
  rw [hj, hq] at HD
  rw [hj, hq]
  rw [hq] at hd
  have hqz : (q == 0) = false := by simpa using hd
  have hqz2 : (q != 0) = true := by simpa using hd
  have hslt := h.slt
  clear h hc hE hj hq hm0
  go_enter Tryz.func18, Tryz.ntmps18
  go_wp2_with fail
  refine HD.out.mono ?_
  rintro e w2 ⟨rfl, ⟨v', hT⟩, hbt⟩
  have HT := Lib.hid hT
  have HB := Lib.hid hbt
  clear hT hbt
  go_wp2_with fail
  refine bodyPost_ret (v := .tuple #[.int .u64 0, .int .i64 j, .int .i64 q]) (by simp [results, go_sem]) rfl ?_
  refine ⟨rfl, ⟨v', ?_⟩, HB.out⟩
  have h0 := H.out
  have hT := HT.out
  rw [HE.out] at hT
  refine h0.setTab HB.out h0.ne (fun b hb e => h0.tab.no b hb e) (fun b hb e => (h0.nv b hb).2.2 e) hT (fun b hb hl => .inl ⟨hb, hl⟩) ?_ ?_
  · rintro b (⟨hb, _⟩ | hb)
    · exact h0.ns b hb
    · omega
  · rintro b hb (⟨h1, _⟩ | h1)
    · exact (h0.nv b hb).1 h1
    · have := (own_lt h0.own hb).2
      omega

set_option maxHeartbeats 6400000 in
set_option maxRecDepth 20000 in
/-- An install that makes a version. -/
theorem rinstall_good {ok ok2 : Nat → Prop} {base : Nat} {w : World} {sb tb : Nat} {v vo : Value} {us : List Value} {L : List Rl} {W : Int} {ver boot : Nat} {olds : List (List Rl)} (h : RSto ok base w sb tb v vo us L W ver boot olds) {cv : Value} {m : List (Int × Rl)} (hc : RdsC ok2 w cv m) (hm : m.length * 64 ≤ 140737488351232) (hm0 : m ≠ []) (hL : Fb.Ok W L) (hd : (Fb.doL W L m 0).2.2 = 0)
    (hv : ver ≤ 1000000) (ho : olds.length < 4096) (hbase : base ≤ w.heap.size) :
    Calls Tryz.prog 18 #[.pointer (some ⟨sb, 0, none⟩), cv] w fun e w' => e = .returned (.tuple #[.int .u64 ((ver : Int) + 1), .int .i64 0, .int .i64 0]) ∧
      (∃ v' vo' us', RSto (fun b => okNew ok w b ∧ vo'.ownBlock ≠ some b) base w' sb tb v' vo' us' (Fb.endL W L m) W (ver + 1) boot (olds ++ [Fb.endL W L m]) ∧ (∀ b, vo'.ownBlock = some b → vo.ownBlock = some b ∨ w.heap.size ≤ b)) ∧ But (fun b => b = sb ∨ b = tb ∨ vo.ownBlock = some b) w w' := by
  have HD := Lib.hid (rDo_tab h.tab hc hm hL)
  obtain ⟨ad, cap, rfl, _, _⟩ := hc.form
  have c0 := h.c0
  have H := Lib.hid h
  have hz : ((m.length : Int) == 0) = false := by
    have := List.length_pos_iff.2 hm0
    simp; omega
  have hz2 : (m.length == 0) = false := by simpa using hm0
  rw [hd] at HD
  have hOk := hL.end_ m
  obtain ⟨E, hE⟩ : ∃ E, Fb.endL W L m = E := ⟨_, rfl⟩
  rw [hE] at hOk HD ⊢
  have hEf := hOk.few
  have HOk := Lib.hid hOk
  obtain ⟨j, hj⟩ : ∃ j, (Fb.doL W L m 0).2.1 = j := ⟨_, rfl⟩
  rw [hj] at HD
  have hslt := h.slt
  obtain ⟨i0, hi, hi0, hi1, hi2⟩ := info_parts infoRls
  have hwr : IntKind.u64.wrap ((ver : Int) + 1) = (ver : Int) + 1 := by
    unfold IntKind.wrap
    simp [IntKind.signed, IntKind.bits]
    omega
  have HUl := Lib.hid h.len
  have hun : us.length < 4096 := by have := h.len; omega
  clear h hc hE hj hm0 hd hOk ho
  go_enter Tryz.func18, Tryz.ntmps18
  go_wp2_with fail
  refine HD.out.mono ?_
  rintro e w2 ⟨rfl, ⟨v', hT⟩, hbt⟩
  have h0 := H.out
  have c1 := (hbt.cell (p := ⟨sb, 1, none⟩) hslt h0.ne).trans h0.c1
  have f1 := (hbt.frozen (p := ⟨sb, 1, none⟩) hslt h0.ne).trans h0.f1
  have HT := Lib.hid hT
  have HB := Lib.hid hbt
  clear hT hbt h0
  obtain ⟨w3, hw3⟩ : ∃ w3, w3 = w2.setCell ⟨sb, 1, none⟩ (.int .u64 ((ver : Int) + 1)) := ⟨_, rfl⟩
  have HW3 := Lib.hid hw3
  clear hw3
  go_upto_region 7 with fail
  rw [← HW3.out]
  have h0 := H.out
  have hb23 : But (fun b => b = sb) w2 w3 := by rw [HW3.out]; exact But.set (S := fun b => b = sb) (a := ⟨sb, 1, none⟩) rfl _
  have hb02 := HB.out
  have hb03 : But (fun b => b = sb ∨ b = tb) w w3 := (hb02.mono fun b hb => .inr hb).trans (hb23.mono fun b hb => .inl hb)
  have hnsb : ∀ b, okNew ok w b → b ≠ sb := by
    rintro b (⟨hb, _⟩ | hb)
    · exact h0.ns b hb
    · omega
  have hT3 : Tab 1 0 (okNew ok w) w3 tb v' E W := HT.out.but hb23 (fun e => h0.ne e.symm) (fun b hb e => hnsb b hb e)
  have e0 : w3.cell? ⟨sb, 0, none⟩ = some (.pointer (some ⟨tb, 0, none⟩)) := by
    rw [HW3.out]
    exact (cell_set_other _ (by intro e; injection e with _ e _; omega)).trans ((hb02.cell (p := ⟨sb, 0, none⟩) hslt h0.ne).trans h0.c0)
  obtain ⟨va, vc, hvo, hvb⟩ := ownsRow_slice h0.own
  have e3 : w3.cell? ⟨sb, 3, none⟩ = some (.slice va us.length vc) := by
    rw [HW3.out]
    exact (cell_set_other _ (by intro e; injection e with _ e _; omega)).trans ((hb02.cell (p := ⟨sb, 3, none⟩) hslt h0.ne).trans (by rw [h0.c3, hvo]))
  have g3 : w3.frozen? ⟨sb, 3, none⟩ = false := by
    rw [HW3.out, World.frozen?_setCell]
    exact (hb02.frozen (p := ⟨sb, 3, none⟩) hslt h0.ne).trans h0.f3
  have e1 : w3.cell? ⟨sb, 1, none⟩ = some (.int .u64 ((ver : Int) + 1)) := by rw [HW3.out]; exact cell_set_same _ c1
  have hown3 : w3.ownsRow base 44 1 (.slice va us.length vc) us.length us := by
    rw [← hvo]
    exact ownsRow_butS h0.own hb03 (fun b hb e => by rcases e with e | e; exact (h0.nv b hb).2.1 e; exact (h0.nv b hb).2.2 e)
  have hs3 : w.heap.size ≤ w3.heap.size := hb03.size
  have hslt3 : sb < w3.heap.size := by omega
  have hRl : Calls Tryz.prog 12 #[.pointer (some ⟨sb, 0, none⟩)] w3.drew _ := rsrules_tab e0 (hT3.below (Below.refl _ _).drew) HOk.out
  have HRl := Lib.hid hRl
  have HT3 := Lib.hid hT3
  have HB3 := Lib.hid hb03
  have HO3 := Lib.hid hown3
  have HVo := Lib.hid hvo
  have HVb := Lib.hid hvb
  have HNs := Lib.hid hnsb
  clear c0 c1 f1 h0 hb23 hb02 hb03 hnsb hT3 hown3 hvo hvb hRl
  have hS0 : (fun W : World => W.cell? ⟨sb, 0, none⟩ = some (.pointer (some ⟨tb, 0, none⟩)) ∧ W.cell? ⟨sb, 3, none⟩ = some (.slice va us.length vc)) w3.drew := ⟨e0, e3⟩
  refine wp_region_heldG (fun W : World => W.cell? ⟨sb, 0, none⟩ = some (.pointer (some ⟨tb, 0, none⟩)) ∧ W.cell? ⟨sb, 3, none⟩ = some (.slice va us.length vc)) 11 (by kernel_rfl) ?_
  refine wpAnyG_takeP 0 (v := ?v0) rfl (by kernel_rfl) (fun _ _ _ h => h) (by rfl) ?h0 hS0 ?_
  case h0 => (intro wl; go_simp; try with_reducible rfl)
  try simp only [Act.put, List.setIfInBounds_toArray, List.set_cons_zero, List.set_cons_succ]
  refine wpAnyG_takeP 1 (v := ?v1) rfl (by kernel_rfl) (fun _ _ _ h => h) (by rfl) ?h1 hS0 ?_
  case h1 => (intro wl; go_simp; try with_reducible rfl)
  try simp only [Act.put, List.setIfInBounds_toArray, List.set_cons_zero, List.set_cons_succ]
  refine wpAnyG_takeP 2 (v := ?v2) rfl (by kernel_rfl) (fun _ _ _ h => h) (by rfl) ?h2 hS0 ?_
  case h2 => (intro wl; go_simp; try with_reducible rfl)
  try simp only [Act.put, List.setIfInBounds_toArray, List.set_cons_zero, List.set_cons_succ]
  refine wpAnyG_takeP 3 (v := ?v3) rfl (by kernel_rfl) (fun _ _ _ h => h) (by rfl) ?h3 hS0 ?_
  case h3 => (intro wl; go_simp; try with_reducible rfl)
  try simp only [Act.put, List.setIfInBounds_toArray, List.set_cons_zero, List.set_cons_succ]
  refine wpAnyG_takeL 4 (v := ?v4) rfl (by kernel_rfl) (fun _ _ _ h => h) (by rfl) ?h4 hS0 ?_
  case h4 => (intro wl hl; obtain ⟨l0, l1⟩ := hl; go_simp; try with_reducible rfl)
  try simp only [Act.put, List.setIfInBounds_toArray, List.set_cons_zero, List.set_cons_succ]
  refine wpAnyG_takeP 5 (v := ?v5) rfl (by kernel_rfl) (fun _ _ _ h => h) (by rfl) ?h5 hS0 ?_
  case h5 => (intro wl; go_simp; try with_reducible rfl)
  try simp only [Act.put, List.setIfInBounds_toArray, List.set_cons_zero, List.set_cons_succ]
  refine wpAnyG_one 6 rfl (by kernel_rfl) (fun K hK => ?_)
  go_simp
  go_at_call 12
  refine HRl.out.mono ?_
  rintro e w4 ⟨ad4, cp4, rfl, hr4, hb4⟩
  have hb34 : Below w3.heap.size w3 w4 := ((Below.refl _ _).drew).trans hb4
  have hs4 : w3.heap.size ≤ w4.heap.size := hb34.size
  have k0 := (hb34.cell (p := ⟨sb, 0, none⟩) hslt3).trans e0
  have k3 := (hb34.cell (p := ⟨sb, 3, none⟩) hslt3).trans e3
  have g4 := (hb34.frozen (p := ⟨sb, 3, none⟩) hslt3).trans g3
  have k1 := (hb34.cell (p := ⟨sb, 1, none⟩) hslt3).trans e1
  have HR4 := Lib.hid hr4
  have HB4 := Lib.hid hb34
  have HO4 : Hid (w4.ownsRow base 44 1 (.slice va us.length vc) us.length us) := ownsRow_below HO3.out hb34
  clear hr4 hb4 hb34 e0 e3 g3 e1 hS0
  refine hK _ _ (fun _ => ⟨k0, k3⟩) ?_
  clear hK K
  try simp only [Act.put, List.setIfInBounds_toArray, List.set_cons_zero, List.set_cons_succ]
  refine wpAnyG_one 7 rfl (by kernel_rfl) (fun K hK => ?_)
  go_simp
  refine hK _ _ (fun _ => ⟨by go_keep, by go_keep⟩) ?_
  clear hK K
  try simp only [Act.put, List.setIfInBounds_toArray, List.set_cons_zero, List.set_cons_succ]
  refine wpAnyG_one 8 rfl (by kernel_rfl) (fun K hK => ?_)
  (refine step_append_lies _ (by rfl) (.tmp 36) (.tmp 39) _ (by rfl) base 44 i0 _ 1 24 Tryz.underlying39 hi hi0 hi1 hi2 rfl (by omega) (.slice va us.length vc) us.length us (by rfl) (HO4.out.alloc _) ⟨w4.heap.size, 0, none⟩ 1 1 [.slice ad4 E.length cp4] (by rfl) (by rfl) (World.news_of_block (cs := #[.slice ad4 E.length cp4]) (t := 44) (fr := (0, 0)) (heap_alloc_new w4 _)) (by simp [Value.oneCell']) (by omega) (by unfold maxLen; omega) (by omega) (by simp; omega) (w4.heap.size + 1) (by simp) ?_; intro gg cap5 w5 hown5 hgrow hat hlt5)
  have hno : ¬ (Value.slice va us.length vc).ownBlock = some sb := fun e => (H.out.nv sb (by rw [HVo.out]; exact e)).2.1 rfl
  have hfar : ∀ j, j < w4.heap.size → ¬ (Value.slice va us.length vc).ownBlock = some j → w5.heap[j]? = w4.heap[j]? := fun j h1 h2 => (hgrow.block j (by simp; omega) (fun e => h2 e.symm)).trans (Below.heap_alloc _ _ _ h1)
  have hslt4 : sb < w4.heap.size := by omega
  have q0 : w5.cell? ⟨sb, 0, none⟩ = some (.pointer (some ⟨tb, 0, none⟩)) := (World.cell?_of_block (a := ⟨sb, 0, none⟩) (hfar sb hslt4 hno)).trans k0
  have q3 : w5.cell? ⟨sb, 3, none⟩ = some (.slice va us.length vc) := (World.cell?_of_block (a := ⟨sb, 3, none⟩) (hfar sb hslt4 hno)).trans k3
  have q1 : w5.cell? ⟨sb, 1, none⟩ = some (.int .u64 ((ver : Int) + 1)) := (World.cell?_of_block (a := ⟨sb, 1, none⟩) (hfar sb hslt4 hno)).trans k1
  have g5 : w5.frozen? ⟨sb, 3, none⟩ = false := (World.frozen?_of_block (a := ⟨sb, 3, none⟩) (hfar sb hslt4 hno)).trans g4
  have HFar := Lib.hid hfar
  have HO5 := Lib.hid hown5
  have HG5 := Lib.hid hgrow
  have HAt := Lib.hid hat
  have HNo := Lib.hid hno
  clear k0 k1 k3 g4 hfar hown5 hgrow hat hlt5 hno
  refine hK _ _ (fun _ => ⟨q0, q3⟩) ?_
  clear hK K
  try simp only [Act.put, List.setIfInBounds_toArray, List.set_cons_zero, List.set_cons_succ]
  have hS0 : (fun W : World => W.cell? ⟨sb, 0, none⟩ = some (.pointer (some ⟨tb, 0, none⟩)) ∧ W.cell? ⟨sb, 3, none⟩ = some (.slice va us.length vc)) w5 := ⟨q0, q3⟩
  refine wpAnyG_takeP 9 (v := ?v9) rfl (by kernel_rfl) (fun _ _ _ h => h) (by rfl) ?h9 hS0 ?_
  case h9 => (intro wl; go_simp; try with_reducible rfl)
  try simp only [Act.put, List.setIfInBounds_toArray, List.set_cons_zero, List.set_cons_succ]
  refine wpAnyG_takeP 10 (v := ?v10) rfl (by kernel_rfl) (fun _ _ _ h => h) (by rfl) ?h10 hS0 ?_
  case h10 => (intro wl; go_simp; try with_reducible rfl)
  try simp only [Act.put, List.setIfInBounds_toArray, List.set_cons_zero, List.set_cons_succ]
  refine wpAnyG_one 11 rfl (by kernel_rfl) (fun K hK => ?_)
  go_simp
  refine hK _ _ (fun h => absurd h (by decide)) ?_
  clear hK K
  refine wpAnyG_done (by kernel_rfl) ?_ _
  obtain ⟨w6, hw6⟩ : ∃ w6, w6 = w5.setCell ⟨sb, 3, none⟩ (.slice (some ⟨gg, 0, none⟩) (us.length + 1) cap5) := ⟨_, rfl⟩
  rw [← hw6]
  have ho : ∀ i, i ≠ 3 → w6.cell? ⟨sb, i, none⟩ = w5.cell? ⟨sb, i, none⟩ := fun i hi => by
    rw [hw6]
    exact cell_set_other _ (fun e => hi (by injection e with _ e _; exact e.symm))
  have r3 : w6.cell? ⟨sb, 3, none⟩ = some (.slice (some ⟨gg, 0, none⟩) (us.length + 1) cap5) := by rw [hw6]; exact cell_set_same _ q3
  have r1 := (ho 1 (by omega)).trans q1
  have hz5 : decide ((4096 : Int) < (us.length : Int) + 1) = false := by simp; omega
  have HW6 := Lib.hid hw6
  have HOth := Lib.hid ho
  have HQ0 := Lib.hid q0
  clear q0 q3 q1 g5 hw6 ho hS0
  go_wp2_with fail
  refine bodyPost_ret (v := .tuple #[.int .u64 ((ver : Int) + 1), .int .i64 0, .int .i64 0]) (by simp [results, go_sem]) rfl ?_
  have h0 := H.out
  have hvo := HVo.out
  have hgrow := HG5.out
  have hb45 : But (fun k => vo.ownBlock = some k) w4 w5 := by
    rw [hvo]
    exact ⟨hgrow.os, hgrow.tape, hgrow.output, by have := hgrow.size; simp at this; omega, fun k hk hn => HFar.out k hk hn⟩
  have hb56 : But (fun k => k = sb) w5 w6 := by rw [HW6.out]; exact But.set (S := fun b => b = sb) (a := ⟨sb, 3, none⟩) rfl _
  have hs5 := hb45.size
  have hs6 := hb56.size
  have hgg : vo.ownBlock = some gg ∨ gg = w4.heap.size + 1 := by rw [hvo]; exact HAt.out
  have hov : ∀ b, vo.ownBlock = some b → base ≤ b ∧ b < w.heap.size ∧ ¬ okNew ok w b ∧ b ≠ sb ∧ b ≠ tb := fun b hb => by
    obtain ⟨l1, l2⟩ := own_lt h0.own hb
    obtain ⟨n1, n2, n3⟩ := h0.nv b hb
    refine ⟨l1, l2, ?_, n2, n3⟩
    rintro (⟨h1, _⟩ | h1)
    · exact n1 h1
    · omega
  have hgo : ∀ b, okNew ok w b → b < w4.heap.size → gg ≠ b := fun b hb hl e => by
    rcases hgg with h | h
    · exact (hov gg h).2.2.1 (e ▸ hb)
    · omega
  have htbl : tb < w.heap.size := h0.tab.lt
  have hP : Tab 1 0 (fun b => okNew ok w b ∧ gg ≠ b) w3 tb v' E W := HT3.out.toQ _ (fun k hk hl => ⟨hk, hgo k hk (by omega)⟩) (fun k hk => HT3.out.no k hk.1)
  have hP4 := hP.below HB4.out
  have hP5 := hP4.but hb45 (fun e => (hov tb e).2.2.2.2 rfl) (fun b hb e => (hov b e).2.2.1 hb.1)
  have hP6 := hP5.but hb56 (fun e => h0.ne e.symm) (fun b hb e => HNs.out b hb.1 e)
  have hcell : ∀ i, i ≠ 1 → i ≠ 3 → w6.cell? ⟨sb, i, none⟩ = w.cell? ⟨sb, i, none⟩ := fun i h1 h3 => by
    rw [HOth.out i h3, hb45.cell (p := ⟨sb, i, none⟩) hslt4 (fun e => (hov sb e).2.2.2.1 rfl), HB4.out.cell (p := ⟨sb, i, none⟩) hslt3, HW3.out, cell_set_other _ (fun e => h1 (by injection e with _ e _; exact e.symm)), HB.out.cell (p := ⟨sb, i, none⟩) hslt h0.ne]
  have hfroz : ∀ i, w6.frozen? ⟨sb, i, none⟩ = w.frozen? ⟨sb, i, none⟩ := fun i => by
    rw [HW6.out, World.frozen?_setCell, hb45.frozen (p := ⟨sb, i, none⟩) hslt4 (fun e => (hov sb e).2.2.2.1 rfl), HB4.out.frozen (p := ⟨sb, i, none⟩) hslt3, HW3.out, World.frozen?_setCell, HB.out.frozen (p := ⟨sb, i, none⟩) hslt h0.ne]
  have hggsb : gg ≠ sb := fun e => by
    rcases hgg with h | h
    · exact (hov gg h).2.2.2.1 e
    · omega
  have hggtb : gg ≠ tb := fun e => by
    rcases hgg with h | h
    · exact (hov gg h).2.2.2.2 e
    · omega
  refine ⟨rfl, ⟨v', .slice (some ⟨gg, 0, none⟩) (us.length + 1) cap5, us ++ [.slice ad4 E.length cp4], ⟨(hcell 0 (by omega) (by omega)).trans h0.c0, ?_, (hcell 2 (by omega) (by omega)).trans h0.c2, r3, (hfroz 1).trans h0.f1, (hfroz 2).trans h0.f2, (hfroz 3).trans h0.f3, ?_, ?_, ?_, ?_, fun b hb => HNs.out b hb.1, h0.ne, ?_⟩, ?_⟩, ?_⟩
  · rw [r1]; simp
  · exact hP6.mono (fun b hb => ⟨hb.1, fun e => hb.2 (by injection e)⟩) (fun b hb => HT3.out.no b hb.1)
  · rw [List.length_append, List.length_singleton]
    exact ownsRow_butS HO5.out hb56 (fun b hb e => by injection hb with hb; exact hggsb (hb.trans e))
  · simp [HUl.out]
  · intro i h1 h2
    by_cases hi : i < us.length
    · have e1 : (us ++ [.slice ad4 E.length cp4])[i] = us[i] := List.getElem_append_left hi
      have e2 : (olds ++ [E])[i] = olds[i]'(by have := HUl.out; omega) := List.getElem_append_left _
      rw [e1, e2]
      have r0 := (h0.rd i hi (by have := HUl.out; omega)).lt
      have r1 := r0.but HB3.out (fun b hb e => by rcases e with e | e; exact h0.ns b hb.1 e; exact h0.tab.no b hb.1 e)
      have r2 := r1.below HB4.out
      have r3 := r2.but hb45 (fun b hb e => (h0.nv b e).1 hb.1)
      have r4 := r3.but hb56 (fun b hb e => h0.ns b hb.1 e)
      exact r4.mono (fun b hb => ⟨.inl hb, fun e => hgo b (.inl hb) (by omega) (by injection e)⟩)
    · have hi2 : i = us.length := by simp at h1; omega
      subst hi2
      have e1 : (us ++ [.slice ad4 E.length cp4])[us.length] = .slice ad4 E.length cp4 := by simp
      have e2 : (olds ++ [E])[us.length] = E := by simp [HUl.out]
      rw [e1, e2]
      have r0 := HR4.out.lt
      have hor : ∀ b, (w3.drew.heap.size ≤ b ∨ okNew ok w b ∧ b < w3.drew.heap.size) ∧ b < w4.heap.size → okNew ok w b := fun b hb => by
        rcases hb.1 with h1 | h1
        · have h1 : w3.heap.size ≤ b := h1
          exact .inr (by omega)
        · exact h1.1
      have r3 := r0.but hb45 (fun b hb e => (hov b e).2.2.1 (hor b hb))
      have r4 := r3.but hb56 (fun b hb e => HNs.out b (hor b hb) e)
      refine r4.mono (fun b hb => ?_)
      exact ⟨hor b hb, fun e => hgo b (hor b hb) hb.2 (by injection e)⟩
  · intro b hb
    injection hb with hb
    have hb : gg = b := hb
    subst hb
    exact ⟨fun h => h.2 rfl, hggsb, hggtb⟩
  · intro b hb
    injection hb with hb
    have hb : gg = b := hb
    subst hb
    rcases hgg with h | h
    · exact .inl h
    · exact .inr (by omega)
  · exact (((HB3.out.mono fun b hb => hb.elim .inl (fun h => .inr (.inl h))).trans (But.below HB4.out)).trans (hb45.mono fun b hb => .inr (.inr hb))).trans (hb56.mono fun b hb => .inl hb)
end Go.Proofs.YtlbelkjgaeaaeaaGreat
/-
  Walks over the reference of store: Restart.
-/
namespace Go.Proofs.YtlbelkjgaeaaeaaGreat
open Go.RowKit Go.Shelf Go.Lib Go.Sort
set_option linter.unusedVariables false
set_option linter.unusedSectionVars false
set_option linter.unusedSimpArgs false

set_option maxHeartbeats 1600000 in
set_option maxRecDepth 20000 in
theorem rrestart_rsto {ok : Nat → Prop} {base : Nat} {w : World} {sb tb : Nat} {v vo : Value} {us : List Value} {L : List Rl} {W : Int} {ver boot : Nat} {olds : List (List Rl)} (h : RSto ok base w sb tb v vo us L W ver boot olds) (hb : boot < 4294967295) :
    Calls Tryz.prog 19 #[.pointer (some ⟨sb, 0, none⟩)] w fun e w' => e = .returned (.tuple #[.int .u32 ((boot : Int) + 1), .int .i64 0]) ∧ RSto ok base w' sb tb v vo us L W ver (boot + 1) olds ∧ But (fun b => b = sb) w w' := by
  have c2 := h.c2
  have f2 := h.f2
  have H := Lib.hid h
  have hz : ((boot : Int) == 4294967295) = false := by simp; omega
  have hw1 : IntKind.u32.wrap ((boot : Int) + 1) = (boot : Int) + 1 := by
    unfold IntKind.wrap
    simp [IntKind.signed, IntKind.bits]
    omega
  clear h
  go_enter Tryz.func19, Tryz.ntmps19
  go_wp2_with fail
  go_ret2
  have ho : ∀ i, i ≠ 2 → (⟨sb, 2, none⟩ : Addr) ≠ ⟨sb, i, none⟩ := fun i hi e => hi (by injection e with _ e _; exact e.symm)
  have hbt : But (fun b => b = sb) w (w.setCell ⟨sb, 2, none⟩ (.int .u32 ((boot : Int) + 1))) := But.set (S := fun b => b = sb) (a := ⟨sb, 2, none⟩) rfl _
  have h0 := H.out
  refine ⟨rfl, ⟨(cell_set_other _ (ho 0 (by omega))).trans h0.c0, (cell_set_other _ (ho 1 (by omega))).trans h0.c1, cell_set_same _ h0.c2, (cell_set_other _ (ho 3 (by omega))).trans h0.c3, ?_, ?_, ?_, h0.tab.but hbt (fun e => h0.ne e.symm) (fun b hb e => h0.ns b hb e), ownsRow_butS h0.own hbt (fun b hb e => (h0.nv b hb).2.1 e), h0.len, fun i a b => (h0.rd i a b).but hbt (fun b hb e => h0.ns b hb e), h0.ns, h0.ne, h0.nv⟩, hbt⟩
  · rw [World.frozen?_setCell]; exact h0.f1
  · rw [World.frozen?_setCell]; exact h0.f2
  · rw [World.frozen?_setCell]; exact h0.f3

set_option maxHeartbeats 1600000 in
set_option maxRecDepth 20000 in
/-- At, of a version that is not kept. -/
theorem rat_bad {ok : Nat → Prop} {base : Nat} {w : World} {sb tb : Nat} {v vo : Value} {us : List Value} {L : List Rl} {W : Int} {ver boot : Nat} {olds : List (List Rl)} (h : RSto ok base w sb tb v vo us L W ver boot olds) (x : Nat) (hx : ver < x ∨ olds.length ≤ ver - x) (hv : ver ≤ 1000000) (ho : olds.length ≤ 4096) :
    Calls Tryz.prog 21 #[.pointer (some ⟨sb, 0, none⟩), .int .u64 x] w fun e w' => e = .returned (.tuple #[.slice none 0 0, .int .i64 211]) ∧ Below w.heap.size w w' := by
  have c1 := h.c1
  have c3 := h.c3
  obtain ⟨va, vc, rfl, _⟩ := ownsRow_slice h.own
  have hul := h.len
  obtain ⟨n, hn⟩ : ∃ n, us.length = n := ⟨_, rfl⟩
  rw [hn] at c3 hul
  rw [← hul] at hx ho
  clear h hn hul
  by_cases h1 : ver < x
  · have hz : (ver : Int) < (x : Int) := by omega
    clear hx
    go_enter Tryz.func21, Tryz.ntmps21
    go_wp2_with fail
    go_quiet (fail)
    go_wp2_with fail
    go_ret2
    exact ⟨rfl, below_dN (Below.refl _ _) _⟩
  · have h2 : n ≤ ver - x := by omega
    have hz : decide ((ver : Int) < (x : Int)) = false := by simp; omega
    obtain ⟨d, hd⟩ : ∃ d : Nat, ver - x = d := ⟨_, rfl⟩
    have hd1 : (ver : Int) - (x : Int) = (d : Int) := by omega
    have hw1 : IntKind.u64.wrap ((ver : Int) - (x : Int)) = (d : Int) := by
      rw [hd1]
      unfold IntKind.wrap
      simp [IntKind.signed, IntKind.bits]
      omega
    have hw2 : IntKind.u64.wrap (n : Int) = (n : Int) := by
      unfold IntKind.wrap
      simp [IntKind.signed, IntKind.bits]
      omega
    have hz2 : (n : Int) ≤ (d : Int) := by omega
    rw [hd] at h2
    clear hx
    go_enter Tryz.func21, Tryz.ntmps21
    go_wp2_with fail
    go_quiet (fail)
    go_wp2_with fail
    go_ret2
    exact ⟨rfl, below_dN (Below.refl _ _) _⟩

set_option maxHeartbeats 3200000 in
set_option maxRecDepth 20000 in
/-- At, of a version that is kept. -/
theorem rat_good {ok : Nat → Prop} {base : Nat} {w : World} {sb tb : Nat} {v vo : Value} {us : List Value} {L : List Rl} {W : Int} {ver boot : Nat} {olds : List (List Rl)} (h : RSto ok base w sb tb v vo us L W ver boot olds) (x : Nat) (hx : x ≤ ver) (hx2 : ver - x < olds.length) (hv : ver ≤ 1000000) (ho : olds.length ≤ 4096) (hf : ∀ l ∈ olds, l.length ≤ 4096) :
    Calls Tryz.prog 21 #[.pointer (some ⟨sb, 0, none⟩), .int .u64 x] w fun e w' => ∃ ad c, e = .returned (.tuple #[.slice ad (olds[olds.length - 1 - (ver - x)]'(by omega)).length c, .int .i64 0]) ∧ RdsR ok w' (.slice ad (olds[olds.length - 1 - (ver - x)]'(by omega)).length c) (olds[olds.length - 1 - (ver - x)]'(by omega)) ∧ Below w.heap.size w w' := by
  have c1 := h.c1
  have c3 := h.c3
  obtain ⟨k, hk⟩ : ∃ k, olds.length - 1 - (ver - x) = k := ⟨_, rfl⟩
  have hkl : k < olds.length := by omega
  have hku : k < us.length := by have := h.len; omega
  obtain ⟨R, hR⟩ : ∃ R, olds[k] = R := ⟨_, rfl⟩
  have hR2 : olds[olds.length - 1 - (ver - x)]'(by omega) = R := by rw [← hR]; congr 1
  rw [hR2]
  have hrd := h.rd k hku hkl
  rw [hR] at hrd
  have hRf : R.length ≤ 4096 := by rw [← hR]; exact hf _ (List.getElem_mem hkl)
  obtain ⟨adk, capk, huk, _, _⟩ := hrd.form
  rw [huk] at hrd
  obtain ⟨va, vc, hvo, _⟩ := ownsRow_slice h.own
  have hrow : ∃ g, va = some ⟨g, 0, none⟩ ∧ w.cell? ⟨g, k, none⟩ = some (.slice adk R.length capk) := by
    rcases h.own.2 with ⟨h1, h2⟩ | ⟨g, cap, cur, hv', hg, hh, hn, hc, hs, ht⟩
    · omega
    · rw [hvo] at hv'
      injection hv' with e1 _ _
      refine ⟨g, e1, ?_⟩
      have h3 : (cur.toList.take (us.length * 1))[k]? = us[k]? := by rw [ht]
      rw [List.getElem?_take_of_lt (by omega), List.getElem?_eq_getElem hku, huk] at h3
      simpa [World.cell?, hh] using h3
  obtain ⟨g, rfl, hcell⟩ := hrow
  subst hvo
  have hul := h.len
  obtain ⟨n, hn⟩ : ∃ n, us.length = n := ⟨_, rfl⟩
  rw [hn] at c3 hul
  rw [← hul] at hx2 ho hk
  have HCp := Lib.hid hrd
  clear h hn hul hrd hR hR2 huk hkl hku hf
  have hz : decide ((ver : Int) < (x : Int)) = false := by simp; omega
  obtain ⟨d, hd⟩ : ∃ d : Nat, ver - x = d := ⟨_, rfl⟩
  rw [hd] at hx2 hk
  have hd1 : (ver : Int) - (x : Int) = (d : Int) := by omega
  have hwd : IntKind.u64.wrap (d : Int) = (d : Int) := by
    unfold IntKind.wrap
    simp [IntKind.signed, IntKind.bits]
    omega
  have hw1 : IntKind.u64.wrap ((ver : Int) - (x : Int)) = (d : Int) := by rw [hd1]; exact hwd
  have hw2 : IntKind.u64.wrap (n : Int) = (n : Int) := by
    unfold IntKind.wrap
    simp [IntKind.signed, IntKind.bits]
    omega
  have hz2 : decide ((n : Int) ≤ (d : Int)) = false := by simp; omega
  have hw3 : IntKind.i64.wrap (d : Int) = (d : Int) := IntWalk.i64_in _ (by omega)
  have hw4 : IntKind.i64.wrap ((n : Int) - 1) = (n : Int) - 1 := IntWalk.i64_in _ (by omega)
  have hk1 : (n : Int) - 1 - (d : Int) = (k : Int) := by omega
  have hw5 : IntKind.i64.wrap ((n : Int) - 1 - (d : Int)) = (k : Int) := by rw [hk1]; exact IntWalk.i64_in _ (by omega)
  have hw6 : IntKind.i64.wrap (k : Int) = (k : Int) := IntWalk.i64_in _ (by omega)
  have hk2 : (0 : Int) ≤ (k : Int) := by omega
  have hk3 : (k : Int) < (n : Int) := by omega
  have hk4 : k < n := by omega
  have hnx : ¬ ver < x := by omega
  have hnd : ¬ n ≤ d := by omega
  clear hx hd hk
  go_enter Tryz.func21, Tryz.ntmps21
  go_wp2_with fail
  go_quiet (fail)
  go_upto_region 3 with fail
  have hB : Below w.heap.size w (w.drewN nq) := below_dN (Below.refl _ _) nq
  obtain ⟨wq, hwq⟩ : ∃ wq, wq = w.drewN nq := ⟨_, rfl⟩
  rw [← hwq] at hB ⊢
  have c1' := (hB.cell (p := ⟨sb, 1, none⟩) (cell_lt c1)).trans c1
  have c3' := (hB.cell (p := ⟨sb, 3, none⟩) (cell_lt c3)).trans c3
  have hcell' := (hB.cell (p := ⟨g, k, none⟩) (cell_lt hcell)).trans hcell
  have HBd := Lib.hid hB
  clear c1 c3 hcell hB hwq
  go_wp2_with fail
  go_quiet (fail)
  go_wp2_with fail
  go_ret2
  exact ⟨adk, capk, rfl, HCp.out.below (below_dN HBd.out _), below_dN HBd.out _⟩
end Go.Proofs.YtlbelkjgaeaaeaaGreat
/-
  A table made anew out of an ordered list of rules: plain law; no program here.
-/
namespace Go.Proofs.YtlbelkjgaeaaeaaGreat
set_option linter.unusedVariables false
set_option linter.unusedSimpArgs false
namespace Fb

theorem doL_all {W : Int} : ∀ (R P : List Rl) (i : Nat), Ok W (P ++ R) → doL W P (R.map fun r => (1, r)) i = (some (P ++ R), 0, 0)
  | [], P, i, h => by simp [doL]
  | r :: R, P, i, h => by
    have hp := h.strict
    have hsub : (P ++ [r]).Pairwise fun a b => Rp.aheadR a b = true := by
      have : P ++ r :: R = (P ++ [r]) ++ R := by simp
      rw [this] at hp
      exact (List.pairwise_append.1 hp).1
    have hm : mayI P W 1 r = 0 := by
      refine mayI_good.2 ⟨⟨Int.le_refl _, (by omega : (1 : Int) ≤ 3), ?_, fun _ x hx => ?_, fun hh => absurd rfl hh⟩, fun _ => ?_⟩
      · have := h.chk r (by simp)
        simpa [ruleOf] using this
      · rw [Bool.eq_false_iff]
        intro hk
        obtain ⟨j, hj, rfl⟩ := List.getElem_of_mem hx
        have h1 : j < (P ++ r :: R).length := by simp; omega
        have h2 : P.length < (P ++ r :: R).length := by simp
        have := strict_key hp h1 h2 r.p r.m (by rw [List.getElem_append_left hj]; exact hk) (by simp [keyB])
        omega
      · have := h.few
        simp at this
        omega
    have ha : aft P 1 r = P ++ [r] := by
      unfold aft
      rw [if_pos rfl]
      exact St.isort_srd swoR (strict_srd hsub)
    simp only [List.map_cons, doL]
    rw [if_pos hm, ha, doL_all R (P ++ [r]) (i + 1) (by simpa using h)]
    simp
end Fb
end Go.Proofs.YtlbelkjgaeaaeaaGreat
/-
  The law StoreOwn: installs of every kind into a new store, rules that may be written, rows of rules that are cleared.
-/
namespace Go.Proofs.YtlbelkjgaeaaeaaGreat
open Go.RowKit Go.Shelf Go.Lib Go.Sort
set_option linter.unusedVariables false
set_option linter.unusedSectionVars false
set_option linter.unusedSimpArgs false

theorem endL_bad {W : Int} {L : List Rl} {m : List (Int × Rl)} (hd : ¬ (Fb.doL W L m 0).2.2 = 0) : Fb.endL W L m = L := by
  unfold Fb.endL
  cases e : (Fb.doL W L m 0).1 with
  | none => rfl
  | some L' => exact absurd (Fb.doL_err.2 (by rw [e]; rfl)) hd

/-- What an install into a new store leaves. -/
structure Inst (F : (Nat → Prop) → World → Value → Value → List Value → Nat → List (List Rl) → Prop) (n0 : Nat) (vo : Value) (E : List Rl) (w' : World) (v' vo' : Value) (us' : List Value) (vn : Nat) (olds : List (List Rl)) : Prop where
  sto : F (fun b => n0 ≤ b ∧ vo'.ownBlock ≠ some b) w' v' vo' us' vn olds
  own : ∀ b, vo'.ownBlock = some b → vo.ownBlock = some b ∨ n0 ≤ b
  len : olds.length = vn + 1
  le1 : vn ≤ 1
  last : olds[vn]? = some E
  few : ∀ l ∈ olds, l.length ≤ 4096

theorem install_all {ok2 : Nat → Prop} {base : Nat} {w : World} {sb tb : Nat} {v vo : Value} {us : List Value} {W : Int} (h : Sto (fun _ => False) base w sb tb v vo us [] W 0 1 [[]]) {cv : Value} {m : List (Int × Rl)} (hc : RdsC ok2 w cv m) (hm : m.length * 64 ≤ 140737488351232) (hbase : base ≤ w.heap.size) (hsb : base ≤ sb) (htb : base ≤ tb) :
    Calls Tryz.prog 15 #[.pointer (some ⟨sb, 0, none⟩), cv] w fun e w' => ∃ a b c : Int, e = .returned (.tuple #[.int .u64 a, .int .i64 b, .int .i64 c]) ∧
      (∃ v' vo' us' ver olds, Inst (fun ok w v vo us ver olds => Sto ok base w sb tb v vo us (Fb.endL W [] m) W ver 1 olds) w.heap.size vo (Fb.endL W [] m) w' v' vo' us' ver olds) ∧ But (fun b => b = sb ∨ b = tb ∨ vo.ownBlock = some b) w w' := by
  have hvl : ∀ b, vo.ownBlock = some b → b < w.heap.size := fun b e => (own_lt h.own e).2
  have hsl := h.slt
  have htl := h.tab.lt
  have h4 : Sto (fun b => w.heap.size ≤ b ∧ vo.ownBlock ≠ some b) base w sb tb v vo us [] W 0 1 [[]] := h.toP _ (fun b h _ => h.elim) (fun b hb => by omega) (fun b hb => by omega) (fun b hb e => e.2 hb)
  by_cases hm0 : m = []
  · subst hm0
    refine (install_none h hc).mono ?_
    rintro e w' ⟨rfl, rfl⟩
    exact ⟨0, 0, 1, rfl, ⟨v, vo, us, 0, [[]], h4, fun b hb => .inl hb, rfl, by omega, rfl, fun l hl => by simp at hl; subst hl; simp⟩, But.refl _ _⟩
  · by_cases hd : (Fb.doL W [] m 0).2.2 = 0
    · refine (install_good h hc hm hm0 (Fb.ok_nil W) hd (by omega) (by simp) hbase).mono ?_
      rintro e w' ⟨rfl, ⟨v', vo', us', hs, ho⟩, hb⟩
      have hs' : Sto (fun b => w.heap.size ≤ b ∧ vo'.ownBlock ≠ some b) base w' sb tb v' vo' us' (Fb.endL W [] m) W (0 + 1) 1 ([[]] ++ [Fb.endL W [] m]) := hs.toP _ (fun b hb _ => ⟨hb.1.elim (fun h => h.1.elim) id, hb.2⟩) (fun b hb => by omega) (fun b hb => by omega) (fun b hb e => e.2 hb)
      refine ⟨_, _, _, rfl, ⟨v', vo', us', 1, _, hs', ho, rfl, Nat.le_refl _, rfl, ?_⟩, hb⟩
      intro l hl
      simp at hl
      rcases hl with rfl | rfl
      · simp
      · exact ((Fb.ok_nil W).end_ m).few
    · refine (install_bad h hc hm hm0 (Fb.ok_nil W) hd).mono ?_
      rintro e w' ⟨rfl, ⟨v', hs⟩, hb⟩
      rw [endL_bad hd]
      have hs' : Sto (fun b => w.heap.size ≤ b ∧ vo.ownBlock ≠ some b) base w' sb tb v' vo us [] W 0 1 [[]] := hs.toP _ (fun b hb hl => ⟨hb.elim (fun h => h.1.elim) id, fun e => by have := hvl b e; have := hb.elim (fun h => h.1.elim) id; omega⟩) (fun b hb => by omega) (fun b hb => by omega) (fun b hb e => e.2 hb)
      exact ⟨_, _, _, rfl, ⟨v', vo, us, 0, [[]], hs', fun b hb => .inl hb, rfl, by omega, rfl, fun l hl => by simp at hl; subst hl; simp⟩, hb.mono fun b hb => .inr (.inl hb)⟩

set_option maxHeartbeats 800000 in
set_option maxRecDepth 20000 in
theorem rinstall_none {ok2 : Nat → Prop} {w : World} {sb : Nat} {cv : Value} (hc : RdsC ok2 w cv []) :
    Calls Tryz.prog 18 #[.pointer (some ⟨sb, 0, none⟩), cv] w fun e w' => e = .returned (.tuple #[.int .u64 0, .int .i64 0, .int .i64 1]) ∧ w = w' := by
  obtain ⟨ad, cap, rfl, _, _⟩ := hc.form
  clear hc
  go_enter Tryz.func18, Tryz.ntmps18
  go_wp2_with fail
  refine bodyPost_ret (v := .tuple #[.int .u64 0, .int .i64 0, .int .i64 1]) (by simp [results, go_sem]) rfl ?_
  exact ⟨rfl, rfl⟩

theorem RSto.toP {ok : Nat → Prop} {base : Nat} {w : World} {sb tb : Nat} {v vo : Value} {us : List Value} {L : List Rl} {W : Int} {ver boot : Nat} {olds : List (List Rl)} (h : RSto ok base w sb tb v vo us L W ver boot olds) (P : Nat → Prop) (hP : ∀ b, ok b → b < w.heap.size → P b) (hs : ∀ b, P b → b ≠ sb) (ht : ∀ b, P b → b ≠ tb) (hv : ∀ b, vo.ownBlock = some b → ¬ P b) : RSto P base w sb tb v vo us L W ver boot olds :=
  ⟨h.c0, h.c1, h.c2, h.c3, h.f1, h.f2, h.f3, h.tab.toQ P hP ht, h.own, h.len, fun i a b => (h.rd i a b).lt.mono fun k hk => hP k hk.1 hk.2, hs, h.ne, fun b hb => ⟨hv b hb, (h.nv b hb).2⟩⟩

theorem rinstall_all {ok2 : Nat → Prop} {base : Nat} {w : World} {sb tb : Nat} {v vo : Value} {us : List Value} {W : Int} (h : RSto (fun _ => False) base w sb tb v vo us [] W 0 1 [[]]) {cv : Value} {m : List (Int × Rl)} (hc : RdsC ok2 w cv m) (hm : m.length * 64 ≤ 140737488351232) (hbase : base ≤ w.heap.size) (hsb : base ≤ sb) (htb : base ≤ tb) :
    Calls Tryz.prog 18 #[.pointer (some ⟨sb, 0, none⟩), cv] w fun e w' => ∃ a b c : Int, e = .returned (.tuple #[.int .u64 a, .int .i64 b, .int .i64 c]) ∧
      (∃ v' vo' us' ver olds, Inst (fun ok w v vo us ver olds => RSto ok base w sb tb v vo us (Fb.endL W [] m) W ver 1 olds) w.heap.size vo (Fb.endL W [] m) w' v' vo' us' ver olds) ∧ But (fun b => b = sb ∨ b = tb ∨ vo.ownBlock = some b) w w' := by
  have hvl : ∀ b, vo.ownBlock = some b → b < w.heap.size := fun b e => (own_lt h.own e).2
  have hsl := h.slt
  have htl := h.tab.lt
  have h4 : RSto (fun b => w.heap.size ≤ b ∧ vo.ownBlock ≠ some b) base w sb tb v vo us [] W 0 1 [[]] := h.toP _ (fun b h _ => h.elim) (fun b hb => by omega) (fun b hb => by omega) (fun b hb e => e.2 hb)
  by_cases hm0 : m = []
  · subst hm0
    refine (rinstall_none hc).mono ?_
    rintro e w' ⟨rfl, rfl⟩
    exact ⟨0, 0, 1, rfl, ⟨v, vo, us, 0, [[]], h4, fun b hb => .inl hb, rfl, by omega, rfl, fun l hl => by simp at hl; subst hl; simp⟩, But.refl _ _⟩
  · by_cases hd : (Fb.doL W [] m 0).2.2 = 0
    · refine (rinstall_good h hc hm hm0 (Fb.ok_nil W) hd (by omega) (by simp) hbase).mono ?_
      rintro e w' ⟨rfl, ⟨v', vo', us', hs, ho⟩, hb⟩
      have hs' : RSto (fun b => w.heap.size ≤ b ∧ vo'.ownBlock ≠ some b) base w' sb tb v' vo' us' (Fb.endL W [] m) W (0 + 1) 1 ([[]] ++ [Fb.endL W [] m]) := hs.toP _ (fun b hb _ => ⟨hb.1.elim (fun h => h.1.elim) id, hb.2⟩) (fun b hb => by omega) (fun b hb => by omega) (fun b hb e => e.2 hb)
      refine ⟨_, _, _, rfl, ⟨v', vo', us', 1, _, hs', ho, rfl, Nat.le_refl _, rfl, ?_⟩, hb⟩
      intro l hl
      simp at hl
      rcases hl with rfl | rfl
      · simp
      · exact ((Fb.ok_nil W).end_ m).few
    · refine (rinstall_bad h hc hm hm0 (Fb.ok_nil W) hd).mono ?_
      rintro e w' ⟨rfl, ⟨v', hs⟩, hb⟩
      rw [endL_bad hd]
      have hs' : RSto (fun b => w.heap.size ≤ b ∧ vo.ownBlock ≠ some b) base w' sb tb v' vo us [] W 0 1 [[]] := hs.toP _ (fun b hb hl => ⟨hb.elim (fun h => h.1.elim) id, fun e => by have := hvl b e; have := hb.elim (fun h => h.1.elim) id; omega⟩) (fun b hb => by omega) (fun b hb => by omega) (fun b hb e => e.2 hb)
      exact ⟨_, _, _, rfl, ⟨v', vo, us, 0, [[]], hs', fun b hb => .inl hb, rfl, by omega, rfl, fun l hl => by simp at hl; subst hl; simp⟩, hb.mono fun b hb => .inr (.inl hb)⟩

set_option maxHeartbeats 800000 in
set_option maxRecDepth 20000 in
theorem rules_sto_own {ok : Nat → Prop} {base : Nat} {w : World} {sb tb : Nat} {v vo : Value} {us : List Value} {L : List Rl} {W : Int} {ver boot : Nat} {olds : List (List Rl)} (h : Sto ok base w sb tb v vo us L W ver boot olds) (hL : L.length ≤ 4096) :
    Calls Tryz.prog 11 #[.pointer (some ⟨sb, 0, none⟩)] w fun e w' => ∃ ad c xs, e = .returned (.slice ad L.length c) ∧ OwnR (okF w.heap.size (.slice ad L.length c)) w' w.heap.size (.slice ad L.length c) xs L ∧ (∀ j (h : j < xs.length), Pf w' xs[j]) ∧ Below w.heap.size w w' := by
  have HM := Lib.hid (made_sto h)
  have HR := Lib.hid (rules_own h.tab hL)
  have c0 := h.c0
  clear h
  go_enter Tryz.func11, Tryz.ntmps11
  go_wp2_with fail
  refine HM.out.mono ?_
  rintro e w1 ⟨rfl, rfl⟩
  go_wp2_with fail
  refine HR.out.mono ?_
  rintro e w2 ⟨ad, c, xs, rfl, hr, hp, hb⟩
  have HRd := Lib.hid hr
  have HP := Lib.hid hp
  have HB := Lib.hid hb
  clear hr hp hb
  go_wp2_with fail
  go_ret
  exact ⟨ad, c, xs, rfl, HRd.out, HP.out, HB.out⟩

theorem PW.but {k d lo hi n : Nat} {S : Nat → Prop} {w w' : World} {ad : Option Addr} {ys : List RC} (h : PW k d lo hi w ad n ys) (hb : But S w w') (hs : ∀ b, lo ≤ b → ¬ S b) (hg : ∀ a, ad = some a → lo ≤ a.block) : PW k d lo hi w' ad n ys := by
  refine ⟨h.len, fun i hi => ?_, h.form, fun i hi => ?_⟩
  · obtain ⟨g, off, e, hl, hc⟩ := h.get i hi
    exact ⟨g, off, e, Nat.lt_of_lt_of_le hl hb.size, (hb.cell (p := ⟨g, off + i * k + d, none⟩) hl (hs g (hg _ e))).trans hc⟩
  · intro b off ha j hj
    obtain ⟨⟨s, h1⟩, h2⟩ := h.sw i hi b off ha j hj
    obtain ⟨b', off', e', h3, _, _⟩ := (h.form i hi).2 (by omega)
    rw [ha] at e'
    injection e' with e'
    injection e' with e1 e2
    subst e1
    have hl : b < w.heap.size := by
      rcases Nat.lt_or_ge b w.heap.size with h3 | h3
      · exact h3
      · rw [World.cell?, Array.getElem?_eq_none h3] at h1; cases h1
    exact ⟨⟨s, (hb.cell (p := ⟨b, off + j, none⟩) hl (hs b h3)).trans h1⟩, (hb.frozen (p := ⟨b, off + j, none⟩) hl (hs b h3)).trans h2⟩

/-- Rules of the call's own: ports and rows may be written. -/
structure TW (lo hi : Nat) (w : World) (ad : Option Addr) (n : Nat) (ys : List RC) : Prop where
  pw : PW 4 3 lo hi w ad n ys
  row : ∀ i, i < n → ∃ g, ad = some ⟨g, 0, none⟩ ∧ lo ≤ g ∧ g < hi ∧ g < w.heap.size ∧ ∀ j, j < 4 → (∃ u, w.cell? ⟨g, i * 4 + j, none⟩ = some u) ∧ w.frozen? ⟨g, i * 4 + j, none⟩ = false

theorem OwnR.tw {w : World} {base n c : Nat} {ad : Option Addr} {xs : List RC} {L : List Rl} (h : OwnR (okF base (.slice ad n c)) w base (.slice ad n c) xs L) (hp : ∀ j (h : j < xs.length), Pf w xs[j]) (hn : xs.length = n) : TW base w.heap.size w ad n xs := by
  refine ⟨h.pw hp hn, fun i hi => ?_⟩
  obtain ⟨⟨h1, h2⟩, h3, h4⟩ := h
  rcases h2 with ⟨h2, h5⟩ | ⟨g, cap, cur, hv, hg, hh, hn', hc, hs, ht⟩
  · exact absurd hi (by omega)
  · injection hv with e1 e2 e3
    have hgl : g < w.heap.size := (Array.getElem?_eq_some_iff.1 hh).1
    refine ⟨g, e1, hg, hgl, hgl, fun j hj => ⟨?_, by simp [World.frozen?, hh]⟩⟩
    have h7 : i * 4 + j < (cellsR xs).length := by rw [h1]; omega
    have key : (cellsR xs)[i * 4 + j]? = some ((cellsR xs)[i * 4 + j]) := List.getElem?_eq_getElem h7
    generalize (cellsR xs)[i * 4 + j] = u at key
    refine ⟨u, ?_⟩
    rw [← ht, List.getElem?_take_of_lt (by omega)] at key
    simp only [World.cell?, hh]
    simpa using key

theorem TW.below {lo hi n : Nat} {w w' : World} {ad : Option Addr} {ys : List RC} (h : TW lo hi w ad n ys) (hb : Below w.heap.size w w') : TW lo hi w' ad n ys := by
  refine ⟨h.pw.below hb, fun i hi => ?_⟩
  obtain ⟨g, e, h1, h2, hl, hc⟩ := h.row i hi
  refine ⟨g, e, h1, h2, Nat.lt_of_lt_of_le hl hb.size, fun j hj => ?_⟩
  obtain ⟨⟨u, hu⟩, hf⟩ := hc j hj
  exact ⟨⟨u, (hb.cell (p := ⟨g, i * 4 + j, none⟩) hl).trans hu⟩, ((But.below hb).frozen (S := fun _ => False) (p := ⟨g, i * 4 + j, none⟩) hl (fun h => h)).trans hf⟩

theorem TW.store {lo hi n : Nat} {w : World} {ad : Option Addr} {ys : List RC} (h : TW lo hi w ad n ys) {i : Nat} (hi2 : i < ys.length) {x : RC} (hx : ys[i] = x) {j : Nat} (hj : j < x.n) :
    ∃ b off s0, x.a = some ⟨b, off, none⟩ ∧ w.cell? ⟨b, off + j, none⟩ = some (.string s0) ∧ w.frozen? ⟨b, off + j, none⟩ = false ∧
      ∀ s, TW lo hi (w.setCell ⟨b, off + j, none⟩ (.string s)) ad n ys ∧ But (fun b => lo ≤ b ∧ b < hi) w (w.setCell ⟨b, off + j, none⟩ (.string s)) := by
  have hf := h.pw.form i hi2
  rw [hx] at hf
  obtain ⟨b, off, s0, h1, h2, h3, h4⟩ := h.pw.store hi2 hx hj
  obtain ⟨b', off', e', _, _, hne⟩ := hf.2 (by omega)
  rw [h1] at e'
  injection e' with e'
  injection e' with e1 e2
  subst e1 e2
  refine ⟨b, off, s0, h1, h2, h3, fun s => ⟨⟨(h4 s).1, fun i' hi' => ?_⟩, (h4 s).2⟩⟩
  obtain ⟨g, e, k1, k2, hl, hc⟩ := h.row i' hi'
  refine ⟨g, e, k1, k2, by simpa [World.setCell] using hl, fun j' hj' => ?_⟩
  obtain ⟨⟨u, hu⟩, hf⟩ := hc j' hj'
  refine ⟨⟨u, (cell_set_other _ (fun e2 => ?_)).trans hu⟩, by rw [World.frozen?_setCell]; exact hf⟩
  exact hne _ e (congrArg Addr.block e2).symm

/-- One row cleared. -/
theorem TW.clear {lo hi n : Nat} {w w' : World} {g : Nat} {ys : List RC} (h : TW lo hi w (some ⟨g, 0, none⟩) n ys) {i : Nat} (hi2 : i < n) (a0 a1 a2 : Value)
    (hw : w' = (((w.setCell ⟨g, i * 4, none⟩ a0).setCell ⟨g, i * 4 + 1, none⟩ a1).setCell ⟨g, i * 4 + 2, none⟩ a2).setCell ⟨g, i * 4 + 3, none⟩ (.slice none 0 0)) :
    TW lo hi w' (some ⟨g, 0, none⟩) n (ys.set i ⟨0, ⟨#[]⟩, 0, none, 0, 0⟩) ∧ But (fun b => lo ≤ b ∧ b < hi) w w' := by
  obtain ⟨g', e, k1, k2, hl, hc⟩ := h.row i hi2
  injection e with e
  injection e with e
  subst e
  have hsz : w'.heap.size = w.heap.size := by rw [hw]; simp [World.setCell]
  have hfr : ∀ p, w'.frozen? p = w.frozen? p := fun p => by rw [hw]; simp only [World.frozen?_setCell]
  have hfar : ∀ p : Addr, (∀ j, j < 4 → p ≠ ⟨g, i * 4 + j, none⟩) → w'.cell? p = w.cell? p := fun p hp => by
    rw [hw]
    rw [cell_set_other _ (fun e => hp 3 (by omega) e.symm), cell_set_other _ (fun e => hp 2 (by omega) e.symm), cell_set_other _ (fun e => hp 1 (by omega) e.symm), cell_set_other _ (fun e => hp 0 (by omega) (by rw [← e]; rfl))]
  have h3 : w'.cell? ⟨g, i * 4 + 3, none⟩ = some (.slice none 0 0) := by
    rw [hw]
    obtain ⟨⟨u, hu⟩, _⟩ := hc 3 (by omega)
    refine cell_set_same (u := u) _ ?_
    rw [cell_set_other _ (by simp), cell_set_other _ (by simp), cell_set_other _ (by simp)]
    exact hu
  have hS : ∀ (W : World) (p : Addr) (v : Value), p.block = g → But (fun b => lo ≤ b ∧ b < hi) W (W.setCell p v) := fun W p v e => But.set (a := p) (S := fun b => lo ≤ b ∧ b < hi) (by rw [e]; exact ⟨k1, k2⟩) _
  have hbut : But (fun b => lo ≤ b ∧ b < hi) w w' := by
    rw [hw]
    exact (((hS _ _ _ rfl).trans (hS _ _ _ rfl)).trans (hS _ _ _ rfl)).trans (hS _ _ _ rfl)
  have hcell : ∀ i' j, i' < n → j < 4 → ∃ u, w'.cell? ⟨g, i' * 4 + j, none⟩ = some u := fun i' j hi' hj => by
    have key : ∀ (W : World) (p q : Addr) (v : Value), (∃ u, W.cell? p = some u) → ∃ u, (W.setCell q v).cell? p = some u := fun W p q v ⟨u, hu⟩ => by
      by_cases e : q = p
      · subst e; exact ⟨v, cell_set_same _ hu⟩
      · exact ⟨u, (cell_set_other _ e).trans hu⟩
    obtain ⟨g', e, _, _, _, hc'⟩ := h.row i' hi'
    injection e with e
    injection e with e
    subst e
    rw [hw]
    exact key _ _ _ _ (key _ _ _ _ (key _ _ _ _ (key _ _ _ _ (hc' j hj).1)))
  refine ⟨⟨⟨by rw [List.length_set]; exact h.pw.len, fun i' hi' => ?_, fun i' hi' => ?_, fun i' hi' => ?_⟩, fun i' hi' => ?_⟩, hbut⟩
  · have h0 : i' < ys.length := by rw [List.length_set] at hi'; exact hi'
    refine ⟨g, 0, rfl, by omega, ?_⟩
    by_cases e : i' = i
    · subst e
      rw [List.getElem_set_self, Nat.zero_add]
      exact h3
    · rw [List.getElem_set_ne (fun e' => e e'.symm), Nat.zero_add]
      obtain ⟨g2, off, e2, _, hc2⟩ := h.pw.get i' h0
      injection e2 with e2
      injection e2 with e2 e3
      subst e2 e3
      rw [Nat.zero_add] at hc2
      refine (hfar _ (fun j hj e3 => ?_)).trans hc2
      injection e3 with _ e3 _
      omega
  · have h0 : i' < ys.length := by rw [List.length_set] at hi'; exact hi'
    by_cases e : i' = i
    · subst e
      rw [List.getElem_set_self]
      exact ⟨Nat.zero_le _, fun h => absurd h (Nat.lt_irrefl 0)⟩
    · rw [List.getElem_set_ne (fun e' => e e'.symm)]
      exact h.pw.form i' h0
  · have h0 : i' < ys.length := by rw [List.length_set] at hi'; exact hi'
    by_cases e : i' = i
    · subst e
      rw [List.getElem_set_self]
      intro b off _ k hk
      exact absurd hk (Nat.not_lt_zero _)
    · rw [List.getElem_set_ne (fun e' => e e'.symm)]
      intro b off ha k hk
      obtain ⟨⟨s, h1⟩, h2⟩ := h.pw.sw i' h0 b off ha k hk
      have hne : g ≠ b := by
        obtain ⟨b', off', e', _, _, hne⟩ := (h.pw.form i' h0).2 (by omega)
        rw [ha] at e'
        injection e' with e'
        injection e' with e1 e2
        subst e1
        exact hne _ rfl
      refine ⟨⟨s, (hfar _ (fun j hj e3 => ?_)).trans h1⟩, (hfr _).trans h2⟩
      injection e3 with e3 _ _
      exact hne e3.symm
  · refine ⟨g, rfl, k1, k2, by omega, fun j hj => ⟨hcell i' j hi' hj, ?_⟩⟩
    rw [hfr]
    obtain ⟨g', e, _, _, _, hc'⟩ := h.row i' hi'
    injection e with e
    injection e with e
    subst e
    exact (hc' j hj).2

/-- append of one change, told by its cells. -/
theorem wp_app_ch {w : World} {o : Oper} {a : Act} {K : Act → World → Prop} {Q : Exit → Act → World → Prop} (hgd : o.guard = none) (P : Nat → Prop) (s x : Operand)
    (ho : o.op = .call { callee := .builtin .append, args := #[s, x], argTypes := #[32, 32] })
    (base : Nat) (v : Value) (xs : List (Int × RC)) (L : List (Int × Rl)) (hs : a.eval s = v) (h1 : OwnCh P w base v xs L)
    (g0 c : Nat) (k : Int) (y : RC) (r : Rl) (hx : a.eval x = .slice (some ⟨g0, 0, none⟩) 1 c) (hyc : w.heap[g0]? = some (.cells #[.int .i64 k, .int .i64 y.p, .string y.m, .int .i64 y.k, .slice y.a y.n y.c] 64 (0, 0)))
    (hyr : RdC (okP P v) w y r) (tot : Nat) (htot : L.length + 1 = tot) (hbytes : tot * 64 ≤ 140737488355328) (hbase : base ≤ w.heap.size)
    (h : ∀ ad cap w', OwnCh P w' base (.slice ad tot cap) (xs ++ [(k, y)]) (L ++ [(k, r)]) → w.grownBy w' v.ownBlock → K (a.put o.dst (.slice ad tot cap)) w') : Oper.wp Tryz.prog o a w K Q := by
  have h0 := step_app_ch (ops := #[]) (E := False) (Q := Q) hgd P s x ho base v xs L hs h1 g0 c k y r hx hyc hyr tot htot hbytes hbase h
  rwa [if_pos (by simp [Region.wanted, hgd])] at h0
end Go.Proofs.YtlbelkjgaeaaeaaGreat
