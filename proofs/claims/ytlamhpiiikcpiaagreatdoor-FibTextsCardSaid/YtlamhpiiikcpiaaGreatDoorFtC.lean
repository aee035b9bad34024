/-
  Walks: do, at every change that may be.
-/
import Derived.Test.YtlamhpiiikcpiaaGreatDoorFibH
import Derived.Test.YtlamhpiiikcpiaaGreatDoorFtB
import Derived.Test.YtlamhpiiikcpiaaGreatDoorFtA
namespace Go.Proofs.YtlamhpiiikcpiaaGreatDoor
open Go.RowKit Go.Shelf Go.Lib Go.Sort
set_option linter.unusedVariables false
set_option linter.unusedSectionVars false
theorem Fb.mayI_zero {L : List Rl} {width kind : Int} {r : Rl} (h : Fb.mayI L width kind r = 0) : kind = 1 ∨ (kind = 2 ∧ 0 ≤ Fb.keyI L r.p r.m) ∨ (kind = 3 ∧ 0 ≤ Fb.keyI L r.p r.m) := by
  unfold Fb.mayI at h
  by_cases h1 : kind < 1 ∨ kind > 3
  · rw [if_pos h1] at h; omega
  · rw [if_neg h1] at h
    by_cases h2 : ¬ Rp.checkR (Fb.ruleOf kind r) width = 0
    · rw [if_pos h2] at h; exact absurd h h2
    · rw [if_neg h2] at h
      by_cases h3 : kind = 1
      · exact .inl h3
      · rw [if_neg h3] at h
        by_cases h4 : 0 ≤ Fb.keyI L r.p r.m
        · rcases (show kind = 2 ∨ kind = 3 by omega) with h5 | h5
          · exact .inr (.inl ⟨h5, h4⟩)
          · exact .inr (.inr ⟨h5, h4⟩)
        · rw [if_neg h4] at h; omega
theorem do_any (ok ok2 : Nat → Prop) (tb : Nat) (v : Value) (L : List Rl) (width kind : Int) (x : RC) (r : Rl) (w : World) (hr : RdsR ok w v L) (ht : w.cell? ⟨tb, 0, none⟩ = some v) (hf : w.frozen? ⟨tb, 0, none⟩ = false) (htok : ∀ b, ok b → b ≠ tb) (hx : RdC ok2 w x r) (hL : L.length ≤ 4096) (hq : Fb.mayI L width kind r = 0) :
    Calls Tryz.prog 62 #[.pointer (some ⟨tb, 0, none⟩), .agg #[.int .i64 kind, .int .i64 x.p, .string x.m, .int .i64 x.k, .slice x.a x.n x.c]] w fun e w' => ∃ (k' : Int) (y : RC) (v' : Value), e = .returned (.agg #[.int .i64 k', .int .i64 y.p, .string y.m, .int .i64 y.k, .slice y.a y.n y.c]) ∧
      w'.cell? ⟨tb, 0, none⟩ = some v' ∧ w'.frozen? ⟨tb, 0, none⟩ = false ∧ RdsR (fun b => ok b ∨ w.heap.size ≤ b) w' v' (Fb.aft L kind r) ∧ But (fun b => b = tb) w w' := by
  rcases Fb.mayI_zero hq with rfl | ⟨rfl, hk⟩ | ⟨rfl, hk⟩
  · exact do1_any ok ok2 tb v L x r w hr ht hf hx hL
  · exact do2_any ok ok2 tb v L x r w hr ht hf htok hx hL hk
  · exact do3_any ok ok2 tb v L x r w hr ht hf htok hx hL hk
end Go.Proofs.YtlamhpiiikcpiaaGreatDoor
/-
  Walks: rows.all: changes on a copy, all or none.
-/
namespace Go.Proofs.YtlamhpiiikcpiaaGreatDoor
open Go.RowKit Go.Shelf Go.Lib Go.Sort
set_option linter.unusedVariables false
set_option linter.unusedSectionVars false
set_option linter.unusedSimpArgs false
theorem ownsRow_but {S : Nat → Prop} {w w' : World} {b : Nat} {e : TypeId} {size : Nat} {v : Value} {n : Nat} {xs : List Value} (h : w.ownsRow b e size v n xs) (hb : But S w w') (hs : ∀ k, b ≤ k → ¬ S k) : w'.ownsRow b e size v n xs := by
  obtain ⟨h1, h2⟩ := h
  refine ⟨h1, ?_⟩
  rcases h2 with h2 | ⟨g, cap, cur, hv, hg, hh, r⟩
  · exact .inl h2
  · refine .inr ⟨g, cap, cur, hv, hg, ?_, r⟩
    rw [hb.block g ?_ (hs g hg)]
    · exact hh
    · rcases Nat.lt_or_ge g w.heap.size with h | h
      · exact h
      · rw [Array.getElem?_eq_none h] at hh; cases hh
theorem ownsRow_cells {w : World} {b : Nat} {e : TypeId} {size : Nat} {ad : Option Addr} {n c m : Nat} {xs : List Value} (h : w.ownsRow b e size (.slice ad n c) m xs) : n = m ∧ (∀ p, ad = some p → ∀ j u, xs[j]? = some u → w.cell? (p.add j) = some u) ∧ (ad = none → n = 0 ∧ c = 0) := by
  obtain ⟨h1, h2⟩ := h
  rcases h2 with ⟨h2, h3⟩ | ⟨g, cap, cur, hv, hg, hh, hn, hc, hs, ht⟩
  · injection h2 with e1 e2 e3
    subst e1 e2 e3
    exact ⟨h3.symm, fun p hp => (by cases hp), fun _ => ⟨rfl, rfl⟩⟩
  · injection hv with e1 e2 e3
    subst e1 e2 e3
    refine ⟨rfl, fun p hp j u hj => ?_, fun hp => (by cases hp)⟩
    injection hp with hp
    subst hp
    have hjl : j < n * size := by
      rw [← h1]
      exact (List.getElem?_eq_some_iff.1 hj).1
    rw [← ht, List.getElem?_take_of_lt hjl] at hj
    rw [Addr.add_lit, Nat.zero_add]
    simp only [World.cell?, hh]
    simpa using hj
/-- append of a row of changes onto a new one of one change, at a step of a region that draws its order. -/
theorem step_app_undo {w : World} {ops : Array Oper} {o : Oper} {a : Act} {K : Act → World → Prop} {Q : Exit → Act → World → Prop} {E : Prop} (hgd : o.guard = none) (s x : Operand)
    (ho : o.op = .call { callee := .builtin .append, args := #[s, x], argTypes := #[22, 22] })
    (base g : Nat) (k : Int) (y : RC) (hs : a.eval s = .slice (some ⟨g, 0, none⟩) 1 1) (hg : w.heap[g]? = some (.cells #[.int .i64 k, .int .i64 y.p, .string y.m, .int .i64 y.k, .slice y.a y.n y.c] 49 (0, 0))) (hb : base ≤ g)
    (ad : Option Addr) (n c : Nat) (ys : List Value) (hx : a.eval x = .slice ad n c) (hrow : w.ownsRow base 49 5 (.slice ad n c) n ys) (h1 : ∀ u ∈ ys, u.oneCell' = true)
    (tot : Nat) (htot : 1 + n = tot) (hbytes : tot * 64 ≤ 140737488355328) (hbase : base ≤ w.heap.size)
    (h : ∀ ad' cap w', w'.ownsRow base 49 5 (.slice ad' tot cap) tot ([.int .i64 k, .int .i64 y.p, .string y.m, .int .i64 y.k, .slice y.a y.n y.c] ++ ys) → w.grownBy w' (some g) → K (a.put o.dst (.slice ad' tot cap)) w') :
    if Region.wanted o (yielded ops a.tmps) = true then Oper.wp Tryz.prog o a w K Q else E := by
  have hw : Region.wanted o (yielded ops a.tmps) = true := by simp [Region.wanted, hgd]
  rw [if_pos hw]
  obtain ⟨i0, hi, hz0, hz1, hz2⟩ := info_parts infoC
  obtain ⟨_, hcs, hnil⟩ := ownsRow_cells hrow
  have hown : w.ownsRow base 49 5 (.slice (some ⟨g, 0, none⟩) 1 1) 1 [.int .i64 k, .int .i64 y.p, .string y.m, .int .i64 y.k, .slice y.a y.n y.c] :=
    ⟨rfl, .inr ⟨g, 1, #[.int .i64 k, .int .i64 y.p, .string y.m, .int .i64 y.k, .slice y.a y.n y.c], rfl, hb, hg, Nat.le_refl _, by unfold maxLen; omega, rfl, rfl⟩⟩
  refine wp_append_k s x 22 ho base 49 i0 _ 5 64 Tryz.underlying22 hi hz0 hz1 hz2 rfl (by decide) _ 1 _ hs hown ad n c ys hx hrow.1 hcs hnil h1 tot htot (by unfold maxLen; omega) hbytes hbase fun ad' cap w' h2 h3 => h ad' cap w' h2 h3
theorem cells5_one (k : Int) (y : RC) : ∀ u ∈ [Value.int .i64 k, .int .i64 y.p, .string y.m, .int .i64 y.k, .slice y.a y.n y.c], u.oneCell' = true := by
  intro u hu
  simp only [List.mem_cons, List.mem_nil_iff, or_false] at hu
  rcases hu with rfl | rfl | rfl | rfl | rfl <;> rfl
/-- Where all stands between two changes. -/
structure AllSt (ok : Nat → Prop) (w : World) (D : Nat) (wr : World) (v : Value) (L : List Rl) (u : Option Addr) (n c : Nat) (ys : List Value) : Prop where
  a0 : wr.cell? ⟨w.heap.size, 0, none⟩ = some (.pointer (some ⟨D, 0, none⟩))
  b0 : wr.cell? ⟨w.heap.size + 1, 0, none⟩ = some (.slice u n c)
  c0 : wr.cell? ⟨w.heap.size + 1 + 1, 0, none⟩ = some (.int .i64 0)
  d0 : wr.cell? ⟨D, 0, none⟩ = some v
  af : wr.frozen? ⟨w.heap.size, 0, none⟩ = false
  bf : wr.frozen? ⟨w.heap.size + 1, 0, none⟩ = false
  cf : wr.frozen? ⟨w.heap.size + 1 + 1, 0, none⟩ = false
  df : wr.frozen? ⟨D, 0, none⟩ = false
  rd : RdsR (fun b => (ok b ∧ b < w.heap.size) ∨ (w.heap.size + 3 ≤ b ∧ b ≠ D)) wr v L
  row : wr.ownsRow (D + 1) 49 5 (.slice u n c) n ys
  one : ∀ x ∈ ys, x.oneCell' = true
  bel : Below w.heap.size w wr
  lo : w.heap.size + 3 ≤ D
  hi : D < wr.heap.size
theorem AllSt.below {ok : Nat → Prop} {w : World} {D : Nat} {wr W : World} {v : Value} {L : List Rl} {u : Option Addr} {n c : Nat} {ys : List Value} (h : AllSt ok w D wr v L u n c ys) (hb : Below wr.heap.size wr W) : AllSt ok w D W v L u n c ys := by
  have h1 := h.lo
  have h2 := h.hi
  have fr : ∀ p : Addr, p.block < wr.heap.size → W.frozen? p = wr.frozen? p := fun p hp => (But.below hb).frozen (S := fun _ => False) hp (fun h => h)
  exact ⟨(hb.cell (p := ⟨w.heap.size, 0, none⟩) (by show w.heap.size < _; omega)).trans h.a0, (hb.cell (p := ⟨w.heap.size + 1, 0, none⟩) (by show w.heap.size + 1 < _; omega)).trans h.b0, (hb.cell (p := ⟨w.heap.size + 1 + 1, 0, none⟩) (by show w.heap.size + 1 + 1 < _; omega)).trans h.c0, (hb.cell (p := ⟨D, 0, none⟩) h2).trans h.d0,
    (fr ⟨w.heap.size, 0, none⟩ (by show w.heap.size < _; omega)).trans h.af, (fr ⟨w.heap.size + 1, 0, none⟩ (by show w.heap.size + 1 < _; omega)).trans h.bf, (fr ⟨w.heap.size + 1 + 1, 0, none⟩ (by show w.heap.size + 1 + 1 < _; omega)).trans h.cf, (fr ⟨D, 0, none⟩ h2).trans h.df,
    h.rd.below hb, ownsRow_below h.row hb, h.one, h.bel.trans (hb.mono (by omega)), h1, Nat.lt_of_lt_of_le h2 hb.size⟩
/-- The change's rules are written. -/
theorem AllSt.done {ok : Nat → Prop} {w : World} {D : Nat} {wr W : World} {v v' : Value} {L L' : List Rl} {u : Option Addr} {n c : Nat} {ys : List Value} (h : AllSt ok w D wr v L u n c ys) (hb : But (fun b => b = D) wr W) (hv : W.cell? ⟨D, 0, none⟩ = some v') (hf : W.frozen? ⟨D, 0, none⟩ = false)
    (hr : RdsR (fun b => ((ok b ∧ b < w.heap.size) ∨ (w.heap.size + 3 ≤ b ∧ b ≠ D)) ∨ wr.heap.size ≤ b) W v' L') : AllSt ok w D W v' L' u n c ys := by
  have h1 := h.lo
  have h2 := h.hi
  refine ⟨(hb.cell (p := ⟨w.heap.size, 0, none⟩) (by show w.heap.size < _; omega) (by show ¬ w.heap.size = D; omega)).trans h.a0, (hb.cell (p := ⟨w.heap.size + 1, 0, none⟩) (by show w.heap.size + 1 < _; omega) (by show ¬ w.heap.size + 1 = D; omega)).trans h.b0, (hb.cell (p := ⟨w.heap.size + 1 + 1, 0, none⟩) (by show w.heap.size + 1 + 1 < _; omega) (by show ¬ w.heap.size + 1 + 1 = D; omega)).trans h.c0, hv,
    (hb.frozen (p := ⟨w.heap.size, 0, none⟩) (by show w.heap.size < _; omega) (by show ¬ w.heap.size = D; omega)).trans h.af, (hb.frozen (p := ⟨w.heap.size + 1, 0, none⟩) (by show w.heap.size + 1 < _; omega) (by show ¬ w.heap.size + 1 = D; omega)).trans h.bf, (hb.frozen (p := ⟨w.heap.size + 1 + 1, 0, none⟩) (by show w.heap.size + 1 + 1 < _; omega) (by show ¬ w.heap.size + 1 + 1 = D; omega)).trans h.cf, hf,
    hr.mono fun b hb => ?_, ownsRow_but h.row hb (fun k hk e => by omega), h.one, h.bel.trans (hb.toBelow (by omega) (fun k hk => by omega)), h1, Nat.lt_of_lt_of_le h2 hb.size⟩
  rcases hb with hb | hb
  · exact hb
  · exact .inr ⟨by omega, by omega⟩
/-- What undoes them is written. -/
theorem AllSt.undo {ok : Nat → Prop} {w : World} {D : Nat} {wr : World} {v : Value} {L : List Rl} {u u' : Option Addr} {n c n' c' : Nat} {ys ys' : List Value} (h : AllSt ok w D wr v L u n c ys) (hr : wr.ownsRow (D + 1) 49 5 (.slice u' n' c') n' ys') (h1 : ∀ x ∈ ys', x.oneCell' = true) : AllSt ok w D (wr.setCell ⟨w.heap.size + 1, 0, none⟩ (.slice u' n' c')) v L u' n' c' ys' := by
  have h1 := h.lo
  have h2 := h.hi
  have hb : But (fun b => b = w.heap.size + 1) wr (wr.setCell ⟨w.heap.size + 1, 0, none⟩ (.slice u' n' c')) := But.set (S := fun b => b = w.heap.size + 1) (a := ⟨w.heap.size + 1, 0, none⟩) rfl _
  refine ⟨(hb.cell (p := ⟨w.heap.size, 0, none⟩) (by show w.heap.size < _; omega) (by show ¬ w.heap.size = w.heap.size + 1; omega)).trans h.a0, cell_set_same _ h.b0, (hb.cell (p := ⟨w.heap.size + 1 + 1, 0, none⟩) (by show w.heap.size + 1 + 1 < _; omega) (by show ¬ w.heap.size + 1 + 1 = w.heap.size + 1; omega)).trans h.c0, (hb.cell (p := ⟨D, 0, none⟩) h2 (by show ¬ D = _; omega)).trans h.d0,
    (hb.frozen (p := ⟨w.heap.size, 0, none⟩) (by show w.heap.size < _; omega) (by show ¬ w.heap.size = w.heap.size + 1; omega)).trans h.af, ?_, (hb.frozen (p := ⟨w.heap.size + 1 + 1, 0, none⟩) (by show w.heap.size + 1 + 1 < _; omega) (by show ¬ w.heap.size + 1 + 1 = w.heap.size + 1; omega)).trans h.cf, (hb.frozen (p := ⟨D, 0, none⟩) h2 (by show ¬ D = _; omega)).trans h.df,
    h.rd.but hb (fun b hb e => by omega), ownsRow_but hr hb (fun k hk e => by omega), by assumption, h.bel.setCell (by show w.heap.size ≤ w.heap.size + 1; omega) _, h1, Nat.lt_of_lt_of_le h2 hb.size⟩
  have := h.bf
  first | exact this | (simp [go_sem]; exact this)
theorem Rl.okTrue {P : Nat → Prop} {w : World} {x : RC} {r : Rl} (h : RdC P w x r) : RdC (fun _ => True) w x r := h.mono fun _ _ => trivial
set_option maxHeartbeats 3200000 in
set_option maxRecDepth 20000 in
theorem all_any (ok ok2 : Nat → Prop) (tb : Nat) (v : Value) (L : List Rl) (W : Int) (cv : Value) (m : List (Int × Rl)) (w : World) (hr : RdsR ok w v L) (ht : w.cell? ⟨tb, 0, none⟩ = some v) (hc : RdsC ok2 w cv m) (hm : m.length * 64 ≤ 140737488351232) (hL : Fb.Ok W L) :
    Calls Tryz.prog 32 #[.pointer (some ⟨tb, 0, none⟩), cv, .int .i64 W] w fun e w' => Below w.heap.size w w' ∧ ((∃ (L' : List Rl) (g : Nat) (v' : Value) (u : Option Addr) (un uc : Nat), Fb.doL W L m 0 = (some L', 0, 0) ∧ e = .returned (.tuple #[.pointer (some ⟨g, 0, none⟩), .slice u un uc, .int .i64 0, .int .i64 0]) ∧ w.heap.size ≤ g ∧ w'.cell? ⟨g, 0, none⟩ = some v' ∧ RdsR (fun b => (ok b ∧ b < w.heap.size) ∨ (w.heap.size ≤ b ∧ b ≠ g)) w' v' L') ∨
      (∃ (i : Nat) (q : Int), Fb.doL W L m 0 = (none, i, q) ∧ e = .returned (.tuple #[.pointer none, .slice none 0 0, .int .i64 i, .int .i64 q]))) := by
  have htb : tb < w.heap.size := cell_lt ht
  obtain ⟨W0, hW0⟩ : ∃ W0, W0 = ((w.alloc (.cells #[.pointer none] 80)).alloc (.cells #[.slice none 0 0] 22)).alloc (.cells #[.int .i64 0] 28) := ⟨_, rfl⟩
  have hg0 : Grn w W0 := by rw [hW0]; exact (((Grn.refl w).alloc _).alloc _).alloc _
  have hs0 : W0.heap.size = w.heap.size + 3 := by rw [hW0]; simp
  have hA0 : W0.heap[w.heap.size]? = some (.cells #[.pointer none] 80 (0, 0)) := by
    rw [hW0]; simp only [al_heap, Array.getElem?_push, Array.size_push]; simp <;> omega
  have hB0 : W0.heap[w.heap.size + 1]? = some (.cells #[.slice none 0 0] 22 (0, 0)) := by
    rw [hW0]; simp only [al_heap, Array.getElem?_push, Array.size_push]; simp <;> omega
  have hC0 : W0.heap[w.heap.size + 1 + 1]? = some (.cells #[.int .i64 0] 28 (0, 0)) := by
    rw [hW0]; simp only [al_heap, Array.getElem?_push, Array.size_push]; simp
  have t0 : W0.cell? ⟨tb, 0, none⟩ = some v := (hg0.below.cell (p := ⟨tb, 0, none⟩) htb).trans ht
  have HCl := Lib.hid (cloneR_any _ v L W0 (hr.lt.below hg0.below) (by have := hL.few; omega))
  obtain ⟨n, hn⟩ : ∃ n, n = m.length := ⟨_, rfl⟩
  have HN := Lib.hid hn
  rw [← hn] at hm
  obtain ⟨adc, capc, rfl, hcc, hcm⟩ := hc.form
  unfold maxLen at hcm
  have HC := Lib.hid hc
  rw [← hn] at HC hcc ⊢
  have HG0 := Lib.hid hg0
  have HS0 := Lib.hid hs0
  have HA0 := Lib.hid hA0
  have HB0 := Lib.hid hB0
  have HC0 := Lib.hid hC0
  have HL := Lib.hid hL
  have HW0 := Lib.hid hW0
  have a0 : W0.cell? ⟨w.heap.size, 0, none⟩ = some (.pointer none) := by simp [World.cell?, hA0]
  have fa0 : W0.frozen? ⟨w.heap.size, 0, none⟩ = false := by simp [World.frozen?, hA0]
  clear hr hc hn hg0 hA0 hB0 hC0 hL hW0 ht hs0
  go_enter_defers Tryz.func32, Tryz.ntmps32
  go_upto_region 1 with fail
  rw [← HW0.out]
  clear HW0
  go_wp2_with fail
  refine HCl.out.mono ?_
  rintro e w1 ⟨ad1, c1, xs1, rfl, hown, hb1⟩
  obtain ⟨vl, hvl⟩ : ∃ vl, vl = Value.slice ad1 L.length c1 := ⟨_, rfl⟩
  have hs1 := hb1.size
  obtain ⟨D, hD⟩ : ∃ D, D = w1.heap.size := ⟨_, rfl⟩
  have hAs : AllSt ok w D ((w1.alloc (.cells #[vl] 51)).setCell ⟨w.heap.size, 0, none⟩ (.pointer (some ⟨D, 0, none⟩))) vl L none 0 0 [] := by
    have hs0' := HS0.out
    have hb2 : Below W0.heap.size W0 (w1.alloc (.cells #[vl] 51)) := hb1.alloc hs1 _
    have hDl : D < (w1.alloc (.cells #[vl] 51)).heap.size := by rw [hD]; simp
    have hbt : But (fun b => b = w.heap.size) (w1.alloc (.cells #[vl] 51)) ((w1.alloc (.cells #[vl] 51)).setCell ⟨w.heap.size, 0, none⟩ (.pointer (some ⟨D, 0, none⟩))) := But.set (S := fun b => b = w.heap.size) (a := ⟨w.heap.size, 0, none⟩) rfl _
    have hA2 := (hb2.block _ (by omega)).trans HA0.out
    have hB2 := (hbt.block (w.heap.size + 1) (by omega) (by omega)).trans ((hb2.block _ (by omega)).trans HB0.out)
    have hC2 := (hbt.block (w.heap.size + 1 + 1) (by omega) (by omega)).trans ((hb2.block _ (by omega)).trans HC0.out)
    have hD2 := (hbt.block D hDl (by omega)).trans (show (w1.alloc (.cells #[vl] 51)).heap[D]? = some (.cells #[vl] 51 (0, 0)) by rw [hD]; exact heap_alloc_new _ _)
    refine ⟨cell_set_same (u := .pointer none) _ (by simp [World.cell?, hA2]), by simp [World.cell?, hB2], by simp [World.cell?, hC2], by simp [World.cell?, hD2], ?_, by simp [World.frozen?, hB2], by simp [World.frozen?, hC2], by simp [World.frozen?, hD2], ?_, World.ownsRow_nil _ _ _ _, (fun x hx => by cases hx), ?_, by omega, Nat.lt_of_lt_of_le hDl hbt.size⟩
    · have : (w1.alloc (.cells #[vl] 51)).frozen? ⟨w.heap.size, 0, none⟩ = false := by simp [World.frozen?, hA2]
      first | exact this | (simp [go_sem]; exact this)
    · have h1 : RdsR (fun b => (ok b ∧ b < w.heap.size) ∨ (w.heap.size + 3 ≤ b ∧ b ≠ D)) w1 vl L := by
        rw [hvl]
        have hlt : ∀ b, W0.heap.size ≤ b ∧ b < w1.heap.size → (ok b ∧ b < w.heap.size) ∨ (w.heap.size + 3 ≤ b ∧ b ≠ D) := fun b hb => .inr ⟨by omega, by omega⟩
        have := hown.toRds'.lt
        refine this.mono fun b hb => ?_
        rcases hb.1 with h | h
        · exact hlt b ⟨h, hb.2⟩
        · exact .inl h.1
      exact (h1.below ((Below.refl _ _).alloc (Nat.le_refl _) _)).but hbt (fun b hb e => by omega)
    · exact (HG0.out.below.trans (hb2.mono (by omega))).setCell (by show w.heap.size ≤ w.heap.size; omega) _
  have HAs := Lib.hid hAs
  have ha1 : w1.cell? ⟨w.heap.size, 0, none⟩ = some (.pointer none) := (hb1.cell (p := ⟨w.heap.size, 0, none⟩) (by show w.heap.size < _; have := HS0.out; omega)).trans a0
  have hfa1 : w1.frozen? ⟨w.heap.size, 0, none⟩ = false := ((But.below hb1).frozen (S := fun _ => False) (p := ⟨w.heap.size, 0, none⟩) (by show w.heap.size < _; have := HS0.out; omega) (fun h => h)).trans fa0
  have na1 : ¬ w1.heap.size = w.heap.size := by have := HS0.out; omega
  have na2 : ¬ w.heap.size = w1.heap.size := by omega
  have fa2 : (w1.alloc (.cells #[.slice ad1 L.length c1] 51)).frozen? ⟨w.heap.size, 0, none⟩ = false := ((But.below ((Below.refl w1.heap.size w1).alloc (Nat.le_refl _) _)).frozen (S := fun _ => False) (p := ⟨w.heap.size, 0, none⟩) (by show w.heap.size < _; have := HS0.out; omega) (fun h => h)).trans hfa1
  have ca2 : (w1.alloc (.cells #[.slice ad1 L.length c1] 51)).cell? ⟨w.heap.size, 0, none⟩ = some (.pointer none) := ((((Below.refl w1.heap.size w1).alloc (Nat.le_refl _) _)).cell (p := ⟨w.heap.size, 0, none⟩) (by show w.heap.size < _; have := HS0.out; omega)).trans ha1
  have HVl := Lib.hid hvl
  have HD := Lib.hid hD
  clear hown hb1 hAs hD t0 a0 fa0
  obtain ⟨W3, hW3⟩ : ∃ W3, W3 = (w1.alloc (.cells #[.slice ad1 L.length c1] 51)).setCell ⟨w.heap.size, 0, none⟩ (.pointer (some ⟨w1.heap.size, 0, none⟩)) := ⟨_, rfl⟩
  have HA3 : Hid (AllSt ok w D W3 vl L none 0 0 []) := by
    rw [hW3, ← hvl, ← HD.out]; exact HAs.out
  have HW3 := Lib.hid hW3
  clear hW3 HAs hvl
  go_upto_region 3 with fail
  rw [← HW3.out]
  clear HW3 ha1 hfa1 fa2 ca2
  go_wp2_with fail
  go_loopw [8, 22] (fun s8 s22 wr => ∃ (i : Nat) (q : Int) (vr : Value) (Lr : List Rl) (u : Option Addr) (c : Nat) (ys : List Value), s22 = .int .i64 i ∧ s8 = .int .i64 q ∧ i ≤ n ∧ Hid (AllSt ok w D wr vr Lr u i c ys) ∧ Hid (Fb.Ok W Lr) ∧ Hid (Fb.doL W L m 0 = Fb.doL W Lr (m.drop i) i)) (fun _ s22 _ => n - (intOf s22).toNat)
  case atStart => exact ⟨0, 0, vl, L, none, 0, [], rfl, rfl, Nat.zero_le _, HA3.out, HL.out, rfl⟩
  case round =>
    obtain ⟨wo, rfl⟩ : ∃ wo : World, wo = wr := ⟨wr, rfl⟩
    obtain ⟨i, q, vr, Lr, u, c, ys, rfl, rfl, hin, HS, HOk, HDo⟩ := hrel
    by_cases hlt : i < n
    · have him : i < m.length := by rw [← HN.out]; exact hlt
      obtain ⟨b, off, k, x, rfl, hb, _, hk, x0, x1, x2, x3, x4, hx⟩ := HC.out.get i him
      have X0 := (HS.out.bel.cell (p := ⟨b, off + i * 5, none⟩) hb).trans x0
      have X1 := (HS.out.bel.cell (p := ⟨b, off + i * 5 + 1, none⟩) hb).trans x1
      have X2 := (HS.out.bel.cell (p := ⟨b, off + i * 5 + 2, none⟩) hb).trans x2
      have X3 := (HS.out.bel.cell (p := ⟨b, off + i * 5 + 3, none⟩) hb).trans x3
      have X4 := (HS.out.bel.cell (p := ⟨b, off + i * 5 + 4, none⟩) hb).trans x4
      obtain ⟨r, hrr⟩ : ∃ r, m[i].2 = r := ⟨_, rfl⟩
      rw [hrr] at hx
      obtain ⟨qv, hqv⟩ : ∃ qv, Fb.mayI Lr W k r = qv := ⟨_, rfl⟩
      have hst := Fb.doL_step (W := W) (L := Lr) him
      rw [← hk, hrr, hqv] at hst
      have HSt := Lib.hid hst
      obtain ⟨W5, hW5⟩ : ∃ W5, W5 = wo.alloc (.cells #[.int .i64 k, .int .i64 x.p, .string x.m, .int .i64 x.k, .slice x.a x.n x.c] 49) := ⟨_, rfl⟩
      have hb5 : Below wo.heap.size wo W5 := by rw [hW5]; exact (Below.refl _ _).alloc (Nat.le_refl _) _
      have hs5 : W5.heap.size = wo.heap.size + 1 := by rw [hW5]; simp
      have hh5 : W5.heap[wo.heap.size]? = some (.cells #[.int .i64 k, .int .i64 x.p, .string x.m, .int .i64 x.k, .slice x.a x.n x.c] 49 (0, 0)) := by rw [hW5]; exact heap_alloc_new _ _
      have h5 := HS.out.below hb5
      have hxT : Hid (∀ Wx, Below wo.heap.size wo Wx → RdC (fun _ => True) Wx x r) := fun Wx hWx => (Rl.okTrue hx).below (HS.out.bel.trans (hWx.mono HS.out.bel.size))
      have HMay := Lib.hid (may_any (fun _ => True) D vr Lr W k x r W5 (h5.rd.mono fun _ _ => trivial) h5.d0 (hxT.out W5 hb5) qv hqv)
      have a5 := h5.a0
      have c0 : W5.cell? ⟨wo.heap.size, 0, none⟩ = some (.int .i64 k) := by simp [World.cell?, hh5]
      have c1 : W5.cell? ⟨wo.heap.size, 1, none⟩ = some (.int .i64 x.p) := by simp [World.cell?, hh5]
      have c2 : W5.cell? ⟨wo.heap.size, 2, none⟩ = some (.string x.m) := by simp [World.cell?, hh5]
      have c3 : W5.cell? ⟨wo.heap.size, 3, none⟩ = some (.int .i64 x.k) := by simp [World.cell?, hh5]
      have c4 : W5.cell? ⟨wo.heap.size, 4, none⟩ = some (.slice x.a x.n x.c) := by simp [World.cell?, hh5]
      have HH5 := Lib.hid hh5
      have H5 := Lib.hid h5
      have HB5 := Lib.hid hb5
      have HW5 := Lib.hid hW5
      have HQv := Lib.hid hqv
      have HS5 := Lib.hid hs5
      clear x0 x1 x2 x3 x4 hx hst hk hb5 hh5 h5 hW5 hqv hs5 hrr
      go_upto_region 6 with fail
      rw [← HW5.out]
      clear HW5 X0 X1 X2 X3 X4
      go_wp2_with fail
      refine HMay.out.mono ?_
      rintro e w6 ⟨he, hb6⟩
      have h6 := H5.out.below hb6
      have H6 := Lib.hid h6
      by_cases hq0 : qv = 0
      · rw [show mayEnd qv = .returned (.tuple #[]) by unfold mayEnd; rw [if_pos hq0]] at he
        subst he
        rw [if_pos hq0] at HSt
        have HOk2 : Hid (Fb.Ok W (Fb.aft Lr k r)) := HOk.out.aft (by rw [HQv.out, hq0])
        have HDoo : Hid (∀ Wx, Below w6.heap.size w6 Wx → Calls Tryz.prog 62 #[.pointer (some ⟨D, 0, none⟩), .agg #[.int .i64 k, .int .i64 x.p, .string x.m, .int .i64 x.k, .slice x.a x.n x.c]] Wx fun e w' => ∃ (k' : Int) (y : RC) (v' : Value), e = .returned (.agg #[.int .i64 k', .int .i64 y.p, .string y.m, .int .i64 y.k, .slice y.a y.n y.c]) ∧ AllSt ok w D w' v' (Fb.aft Lr k r) u i c ys) := fun Wx hWx => by
          have hx6 := H6.out.below hWx
          refine (do_any _ (fun _ => True) D vr Lr W k x r Wx hx6.rd hx6.d0 hx6.df (fun b hb e => ?_) (hxT.out Wx (HB5.out.trans ((hb6.trans (hWx.mono hb6.size)).mono (by have := HS5.out; omega)))) HOk.out.few (by rw [HQv.out, hq0])).mono ?_
          · have := hx6.lo
            omega
          · rintro e w' ⟨k', y, v', rfl, d1, d2, d3, d4⟩
            exact ⟨k', y, v', rfl, hx6.done d4 d1 d2 d3⟩
        have hl5 : wo.heap.size < W5.heap.size := by have := HS5.out; omega
        have a6 := h6.a0
        have b6 := h6.b0
        have bf6 := h6.bf
        have e0 := (hb6.cell (p := ⟨wo.heap.size, 0, none⟩) hl5).trans c0
        have e1 := (hb6.cell (p := ⟨wo.heap.size, 1, none⟩) hl5).trans c1
        have e2 := (hb6.cell (p := ⟨wo.heap.size, 2, none⟩) hl5).trans c2
        have e3 := (hb6.cell (p := ⟨wo.heap.size, 3, none⟩) hl5).trans c3
        have e4 := (hb6.cell (p := ⟨wo.heap.size, 4, none⟩) hl5).trans c4
        have HB6 := Lib.hid hb6
        clear h6 hb6 c0 c1 c2 c3 c4 a5 hl5
        go_upto_region 8 with fail
        go_region_law (first
          | (go_simp; go_at_call 62; refine (HDoo.out _ (by repeat (first | (with_reducible exact Below.refl _ _) | (with_reducible refine Below.drew ?_) | (with_reducible refine Below.alloc ?_ (by simp <;> omega) _)))).mono ?_; rintro _ w9 ⟨k9, y9, v9, rfl, hd9⟩; have HD9 := Lib.hid hd9; have b9 := hd9.b0; have bf9 := hd9.bf; have nb9 := World.new_ne w9 ⟨w.heap.size + 1, 0, none⟩ b9; have b9a := (hd9.below ((Below.refl w9.heap.size w9).alloc (Nat.le_refl _) (.cells #[.int .i64 k9, .int .i64 y9.p, .string y9.m, .int .i64 y9.k, .slice y9.a y9.n y9.c] 49))).b0; clear hd9)
          | ((refine step_app_undo rfl (.tmp 35) (.tmp 36) (by rfl) (D + 1) w9.heap.size k9 y9 (by rfl) (heap_alloc_new w9 _) (by have := HD9.out.hi; omega) u i c ys (by rfl) (ownsRow_below HD9.out.row ((Below.refl _ _).alloc (Nat.le_refl _) _)) HD9.out.one (i + 1) (by omega) (by omega) (by have := HD9.out.hi; simp; omega) ?_); intro ad10 c10 w10 ho10 hg10; have HO10 := Lib.hid ho10; have HA10 := Lib.hid (HD9.out.below (((Below.refl w9.heap.size w9).alloc (Nat.le_refl _) _).grown hg10 (by simp) (fun k hk => by have e := Option.some.inj (show some w9.heap.size = some k from hk); omega))); have b10 := HA10.out.b0; have bf10 := HA10.out.bf; clear ho10 hg10))
        all_goals
          go_wp2_with fail
          go_roundw
          case rel => exact ⟨i + 1, i, v9, _, ad10, c10, _, by first | rfl | go_num, rfl, by omega, HA10.out.undo HO10.out (fun z hz => (List.mem_append.1 hz).elim (cells5_one k9 y9 z) (HD9.out.one z)), HOk2.out, HDo.out.trans HSt.out⟩
          case measure => simp [intOf]; omega
      · rw [show mayEnd qv = errFault qv by unfold mayEnd; rw [if_neg hq0]] at he
        subst he
        rw [if_neg hq0] at HSt
        clear h6 hb6 c0 c1 c2 c3 c4 a5
        go_wp2_with fail
        refine all_fault qv _ _ 0 (by omega) (by omega) (by have := H6.out.lo; have := H6.out.hi; omega) H6.out.a0 H6.out.b0 H6.out.c0 H6.out.af H6.out.bf H6.out.cf ⟨_, rfl⟩ ⟨_, _, _, rfl⟩ fun W' hB h1 h2 h3 => ?_
        exact ⟨.tuple #[.pointer none, .slice none 0 0, .int .i64 i, .int .i64 qv], by simp [results, Tryz.results32, go_sem, h1, h2, h3], H6.out.bel.trans hB, .inr ⟨i, qv, HDo.out.trans HSt.out, rfl⟩⟩
    · have hin' : i = n := by omega
      have HFin : Hid (Fb.doL W L m 0 = (some Lr, 0, 0)) := by
        show _ = _
        rw [HDo.out, hin', HN.out]
        exact Fb.doL_end
      subst hin'
      have aa := HS.out.a0
      have ba := HS.out.b0
      have ca := HS.out.c0
      have faa := HS.out.af
      have fba := HS.out.bf
      have fca := HS.out.cf
      go_upto_region 10 with fail
      go_region
      all_goals
        go_wp2_with fail
        refine all_ret ⟨.tuple #[.pointer (some ⟨D, 0, none⟩), .slice u i c, .int .i64 0, .int .i64 0], by simp [results, Tryz.results32, go_sem, aa, ba, ca], ?_⟩
        have hbt : But (fun b => b < w.heap.size + 3 ∧ w.heap.size ≤ b) wo ((((wo.setCell ⟨w.heap.size, 0, none⟩ (.pointer (some ⟨D, 0, none⟩))).setCell ⟨w.heap.size + 1, 0, none⟩ (.slice u i c)).setCell ⟨w.heap.size + 1 + 1, 0, none⟩ (.int .i64 0)).drew) := ((((But.set (S := fun b => b < w.heap.size + 3 ∧ w.heap.size ≤ b) (a := ⟨w.heap.size, 0, none⟩) ⟨by show w.heap.size < _; omega, by show w.heap.size ≤ w.heap.size; omega⟩ _).trans (But.set (S := fun b => b < w.heap.size + 3 ∧ w.heap.size ≤ b) (a := ⟨w.heap.size + 1, 0, none⟩) ⟨by show w.heap.size + 1 < _; omega, by show w.heap.size ≤ w.heap.size + 1; omega⟩ _)).trans (But.set (S := fun b => b < w.heap.size + 3 ∧ w.heap.size ≤ b) (a := ⟨w.heap.size + 1 + 1, 0, none⟩) ⟨by show w.heap.size + 1 + 1 < _; omega, by show w.heap.size ≤ w.heap.size + 1 + 1; omega⟩ _)).trans (but_drew _ _))
        have hlo := HS.out.lo
        refine ⟨HS.out.bel.trans (hbt.toBelow HS.out.bel.size (fun k hk => hk.2)), .inl ⟨Lr, D, vr, u, i, c, HFin.out, rfl, by omega, (hbt.cell (p := ⟨D, 0, none⟩) HS.out.hi (by show ¬ (D < _ ∧ _); omega)).trans HS.out.d0, (HS.out.rd.but hbt (fun b hb h => by omega)).mono fun b hb => hb.imp id (fun h => ⟨by omega, h.2⟩)⟩⟩
theorem Fb.doL_cases {W : Int} : ∀ (m : List (Int × Rl)) (L : List Rl) (i : Nat), (∃ L', Fb.doL W L m i = (some L', 0, 0)) ∨ ∃ j q, Fb.doL W L m i = (none, j, q) ∧ ¬ q = 0
  | [], L, i => .inl ⟨L, rfl⟩
  | c :: m, L, i => by
    unfold Fb.doL
    split
    · exact Fb.doL_cases m _ _
    · rename_i h
      exact .inr ⟨i, _, rfl, h⟩
/-- The world behind a table's change: its block, and new blocks. -/
abbrev okNew (ok : Nat → Prop) (w : World) : Nat → Prop := fun b => (ok b ∧ b < w.heap.size) ∨ w.heap.size ≤ b
set_option maxHeartbeats 1600000 in
set_option maxRecDepth 20000 in
theorem do_tab {ok ok2 : Nat → Prop} {w : World} {tb : Nat} {v : Value} {L : List Rl} {W : Int} {cv : Value} {m : List (Int × Rl)} (h : Tab 0 1 ok w tb v L W) (hc : RdsC ok2 w cv m) (hm : m.length * 64 ≤ 140737488351232) (hL : Fb.Ok W L) :
    Calls Tryz.prog 14 #[.pointer (some ⟨tb, 0, none⟩), cv] w fun e w' => e = .returned (.tuple #[.int .i64 (Fb.doL W L m 0).2.1, .int .i64 (Fb.doL W L m 0).2.2]) ∧ (∃ v', Tab 0 1 (okNew ok w) w' tb v' (Fb.endL W L m) W) ∧ But (fun b => b = tb) w w' := by
  have HI := Lib.hid (is_tab h)
  have HAll : Hid (∀ Wx, Below w.heap.size w Wx → Calls Tryz.prog 32 #[.pointer (some ⟨tb, 0, none⟩), cv, .int .i64 W] Wx _) := fun Wx hWx => all_any ok ok2 tb v L W cv m Wx (h.rd.below hWx) (h.below hWx).c0 (hc.below hWx) hm hL
  have c1 := h.c1
  have H := Lib.hid h
  have htb := h.lt
  have hsz : w.heap.size ≤ w.drew.heap.size := Nat.le_refl _
  clear h hc
  have HE : Hid (Fb.endL W L m = (Fb.doL W L m 0).1.getD L) := rfl
  rcases Fb.doL_cases (W := W) m L 0 with ⟨L', hd⟩ | ⟨i, q, hd, hq⟩
  · rw [hd] at HE ⊢
    have HD := Lib.hid hd
    clear hd
    go_enter Tryz.func14, Tryz.ntmps14
    go_wp2_with fail
    refine HI.out.mono ?_
    rintro e w1 ⟨rfl, rfl⟩
    go_upto_region 3 with fail
    go_region_with (go_at_call 32; refine (HAll.out _ (by repeat (first | (with_reducible exact Below.refl _ _) | (with_reducible refine Below.drew ?_)))).mono ?_; rintro _ w2 ⟨hb2, ⟨L2, g, v2, u, un, uc, hd2, rfl, hg2, g0, hr2⟩ | ⟨i2, q2, hd2, rfl⟩⟩; rotate_left; (rw [HD.out] at hd2; cases hd2); (rw [HD.out] at hd2; have hL2 := Option.some.inj (Prod.mk.inj hd2).1; subst hL2; clear hd2))
    all_goals
      have hb : Below w.heap.size w w2 := ((Below.refl _ w).drew).trans hb2
      obtain ⟨ad2, c2, rfl, _, _⟩ := hr2.form
      have t2 := (hb.cell (p := ⟨tb, 0, none⟩) htb).trans H.out.c0
      have t3 := (hb.cell (p := ⟨tb, 1, none⟩) htb).trans H.out.c1
      have f2 := ((But.below hb).frozen (S := fun _ => False) (p := ⟨tb, 0, none⟩) htb (fun h => h)).trans H.out.f0
      have HB := Lib.hid hb
      have HR := Lib.hid hr2
      have HG2 := Lib.hid hg2
      clear hb hb2 hr2 c1
      go_wp2_with fail
      go_ret2
      have hbt : But (fun b => b = tb) w2 (w2.setCell ⟨tb, 0, none⟩ (.slice ad2 L'.length c2)) := But.set (S := fun b => b = tb) (a := ⟨tb, 0, none⟩) rfl _
      have hno : ∀ b, okNew ok w b → b ≠ tb := fun b hb => hb.elim (fun h => H.out.no b h.1) (fun h => by omega)
      refine ⟨rfl, ⟨_, cell_set_same _ t2, (cell_set_other _ (by simp)).trans t3, by first | exact f2 | (simp [go_sem]; exact f2), ?_, hno, H.out.lo, H.out.hi⟩, (But.below HB.out).trans hbt⟩
      rw [HE.out]
      refine RdsR.but (HR.out.mono (ok' := okNew ok w) fun b hb => ?_) hbt (fun b hb e => hno b hb e)
      exact hb.imp id (fun h => h.1)
  · rw [hd] at HE ⊢
    have HD := Lib.hid hd
    clear hd
    go_enter Tryz.func14, Tryz.ntmps14
    go_wp2_with fail
    refine HI.out.mono ?_
    rintro e w1 ⟨rfl, rfl⟩
    go_upto_region 3 with fail
    go_region_with (go_at_call 32; refine (HAll.out _ (by repeat (first | (with_reducible exact Below.refl _ _) | (with_reducible refine Below.drew ?_)))).mono ?_; rintro _ w2 ⟨hb2, ⟨L2, g, v2, u, un, uc, hd2, rfl, hg2, g0, hr2⟩ | ⟨i2, q2, hd2, rfl⟩⟩; (rw [HD.out] at hd2; cases hd2); (rw [HD.out] at hd2; obtain ⟨_, hd3⟩ := Prod.mk.inj hd2; obtain ⟨e1, e2⟩ := Prod.mk.inj hd3; subst e1 e2; clear hd2 hd3))
    all_goals
      have hb : Below w.heap.size w w2 := ((Below.refl _ w).drew).trans hb2
      have HB := Lib.hid hb
      clear hb hb2 c1
      go_wp2_with fail
      go_ret2
      have hno : ∀ b, okNew ok w b → b ≠ tb := fun b hb => hb.elim (fun h => H.out.no b h.1) (fun h => by omega)
      refine ⟨rfl, ⟨v, ?_⟩, But.below HB.out⟩
      rw [HE.out]
      have h2 := H.out.below HB.out
      exact ⟨h2.c0, h2.c1, h2.f0, (H.out.rd.lt.below HB.out).mono fun b hb => .inl hb, hno, H.out.lo, H.out.hi⟩
set_option maxHeartbeats 1600000 in
set_option maxRecDepth 20000 in
theorem rDo_tab {ok ok2 : Nat → Prop} {w : World} {tb : Nat} {v : Value} {L : List Rl} {W : Int} {cv : Value} {m : List (Int × Rl)} (h : Tab 1 0 ok w tb v L W) (hc : RdsC ok2 w cv m) (hm : m.length * 64 ≤ 140737488351232) (hL : Fb.Ok W L) :
    Calls Tryz.prog 22 #[.pointer (some ⟨tb, 0, none⟩), cv] w fun e w' => e = .returned (.tuple #[.int .i64 (Fb.doL W L m 0).2.1, .int .i64 (Fb.doL W L m 0).2.2]) ∧ (∃ v', Tab 1 0 (okNew ok w) w' tb v' (Fb.endL W L m) W) ∧ But (fun b => b = tb) w w' := by
  have htb := h.lt
  have HE : Hid (Fb.endL W L m = (Fb.doL W L m 0).1.getD L) := rfl
  obtain ⟨S, hS⟩ : ∃ S, S = Fb.doL W L m 0 := ⟨_, rfl⟩
  rw [← hS] at HE ⊢
  have HS := Lib.hid hS
  obtain ⟨n, hn⟩ : ∃ n, n = m.length := ⟨_, rfl⟩
  have HN := Lib.hid hn
  rw [← hn] at hm
  obtain ⟨adc, capc, rfl, hcc, hcm⟩ := hc.form
  unfold maxLen at hcm
  have HC := Lib.hid hc
  rw [← hn] at HC hcc ⊢
  obtain ⟨adv, capv, rfl, _, _⟩ := h.rd.form
  have c0 := h.c0
  have H := Lib.hid h
  have HL := Lib.hid hL
  clear h hc hn hS hL
  go_enter Tryz.func22, Tryz.ntmps22
  go_wp2_with fail
  go_loopw [6, 7] (fun s6 s7 wr => ∃ (i : Nat) (ad : Option Addr) (k c : Nat) (Lr : List Rl), s7 = .int .i64 i ∧ s6 = .slice ad k c ∧ i ≤ n ∧ Hid (RdsR (okNew ok w) wr (.slice ad k c) Lr) ∧ Hid (Fb.Ok W Lr) ∧ Hid (S = Fb.doL W Lr (m.drop i) i) ∧ Hid (Below w.heap.size w wr)) (fun _ s7 _ => n - (intOf s7).toNat)
  case atStart => exact ⟨0, adv, _, capv, L, rfl, rfl, Nat.zero_le _, H.out.rd.lt.mono fun b hb => .inl hb, HL.out, HS.out, Below.refl _ _⟩
  case round =>
    obtain ⟨wo, rfl⟩ : ∃ wo : World, wo = wr := ⟨wr, rfl⟩
    obtain ⟨i, ad, k, c, Lr, rfl, rfl, hin, HR, HOk, HDo, HB⟩ := hrel
    by_cases hlt : i < n
    · have him : i < m.length := by rw [← HN.out]; exact hlt
      obtain ⟨b, off, kc, x, rfl, hb, _, hk, x0, x1, x2, x3, x4, hx⟩ := HC.out.get i him
      have X0 := (HB.out.cell (p := ⟨b, off + i * 5, none⟩) hb).trans x0
      have X1 := (HB.out.cell (p := ⟨b, off + i * 5 + 1, none⟩) hb).trans x1
      have X2 := (HB.out.cell (p := ⟨b, off + i * 5 + 2, none⟩) hb).trans x2
      have X3 := (HB.out.cell (p := ⟨b, off + i * 5 + 3, none⟩) hb).trans x3
      have X4 := (HB.out.cell (p := ⟨b, off + i * 5 + 4, none⟩) hb).trans x4
      have T1 := (HB.out.cell (p := ⟨tb, 0, none⟩) htb).trans H.out.c1
      obtain ⟨r, hrr⟩ : ∃ r, m[i].2 = r := ⟨_, rfl⟩
      rw [hrr] at hx
      obtain ⟨qv, hqv⟩ : ∃ qv, Fb.mayI Lr W kc r = qv := ⟨_, rfl⟩
      have hst := Fb.doL_step (W := W) (L := Lr) him
      rw [← hk, hrr, hqv] at hst
      have HSt := Lib.hid hst
      have HMay : Hid (∀ Wx, Below wo.heap.size wo Wx → Calls Tryz.prog 36 #[.slice ad k c, .int .i64 W, .agg #[.int .i64 kc, .int .i64 x.p, .string x.m, .int .i64 x.k, .slice x.a x.n x.c]] Wx fun e w' => e = .returned (.int .i64 qv) ∧ Below Wx.heap.size Wx w') := fun Wx hWx =>
        rMay_any (fun _ => True) _ Lr W kc x r Wx ((HR.out.below hWx).mono fun _ _ => trivial) ((Rl.okTrue hx).below (HB.out.trans (hWx.mono HB.out.size))) qv hqv
      have HX : Hid (∀ Wx, Below wo.heap.size wo Wx → RdC (fun _ => True) Wx x r) := fun Wx hWx => (Rl.okTrue hx).below (HB.out.trans (hWx.mono HB.out.size))
      have HQv := Lib.hid hqv
      clear x0 x1 x2 x3 x4 hx hst hk hqv hrr
      go_upto_region 5 with fail
      go_region_with (go_at_call 36; refine (HMay.out _ (by repeat (first | (with_reducible exact Below.refl _ _) | (with_reducible refine Below.drew ?_)))).mono ?_; rintro _ w2 ⟨rfl, hb2⟩)
      all_goals
        have hb3 : Below wo.heap.size wo w2 := ((Below.refl _ wo).drew).trans hb2
        have HB3 := Lib.hid hb3
        have hbz : b < wo.heap.size := Nat.lt_of_lt_of_le hb HB.out.size
        have Y0 := (hb3.cell (p := ⟨b, off + i * 5, none⟩) hbz).trans X0
        have Y1 := (hb3.cell (p := ⟨b, off + i * 5 + 1, none⟩) hbz).trans X1
        have Y2 := (hb3.cell (p := ⟨b, off + i * 5 + 2, none⟩) hbz).trans X2
        have Y3 := (hb3.cell (p := ⟨b, off + i * 5 + 3, none⟩) hbz).trans X3
        have Y4 := (hb3.cell (p := ⟨b, off + i * 5 + 4, none⟩) hbz).trans X4
        clear hb2 hb3 X0 X1 X2 X3 X4 T1
        by_cases hq0 : qv = 0
        · rw [if_pos hq0] at HSt
          have HAf := Lib.hid (rAfter_any (okNew ok w) (fun _ => True) (.slice ad k c) Lr W kc x r w2 (HR.out.below HB3.out) (HX.out w2 HB3.out) HOk.out.few (by rw [HQv.out, hq0]))
          have HOk2 : Hid (Fb.Ok W (Fb.aft Lr kc r)) := HOk.out.aft (by rw [HQv.out, hq0])
          have hqn : ¬ ¬ qv = 0 := fun h => h hq0
          go_wp2_with fail
          refine HAf.out.mono ?_
          rintro e w4 ⟨ad4, n4, c4, rfl, hr4, hb4⟩
          have HR4 := Lib.hid hr4
          have HB4 := Lib.hid hb4
          clear hr4 hb4
          go_wp2_with fail
          go_roundw
          case rel => exact ⟨i + 1, ad4, n4, c4, _, by first | rfl | go_num, rfl, by omega, HR4.out.mono fun b hb => hb.elim id (fun h => .inr (by have := HB.out.size; have := HB3.out.size; omega)), HOk2.out, HDo.out.trans HSt.out, (HB.out.trans (HB3.out.mono HB.out.size)).trans (HB4.out.mono (by have := HB.out.size; have := HB3.out.size; omega))⟩
          case measure => simp [intOf]; omega
        · rw [if_neg hq0] at HSt
          clear Y0 Y1 Y2 Y3 Y4
          go_wp2_with fail
          go_ret2
          have hb9 := HB.out.trans (HB3.out.mono HB.out.size)
          have h2 := H.out.below hb9
          have hno : ∀ b, okNew ok w b → b ≠ tb := fun b hb => hb.elim (fun h => H.out.no b h.1) (fun h => by omega)
          rw [HDo.out, HSt.out]
          refine ⟨rfl, ⟨.slice adv L.length capv, ?_⟩, But.below hb9⟩
          rw [HE.out, HDo.out, HSt.out]
          exact ⟨h2.c0, h2.c1, h2.f0, (H.out.rd.lt.below hb9).mono fun b hb => .inl hb, hno, H.out.lo, H.out.hi⟩
    · have hin' : i = n := by omega
      have HFin : Hid (S = (some Lr, 0, 0)) := by
        show _ = _
        rw [HDo.out, hin', HN.out]
        exact Fb.doL_end
      subst hin'
      have t2 := (HB.out.cell (p := ⟨tb, 1, none⟩) htb).trans c0
      have t3 := (HB.out.cell (p := ⟨tb, 0, none⟩) htb).trans H.out.c1
      have f2 := ((But.below HB.out).frozen (S := fun _ => False) (p := ⟨tb, 1, none⟩) htb (fun h => h)).trans H.out.f0
      go_wp2_with fail
      go_ret2
      have hbt : But (fun b => b = tb) wo (wo.setCell ⟨tb, 1, none⟩ (.slice ad k c)) := But.set (S := fun b => b = tb) (a := ⟨tb, 1, none⟩) rfl _
      have hno : ∀ b, okNew ok w b → b ≠ tb := fun b hb => hb.elim (fun h => H.out.no b h.1) (fun h => by omega)
      rw [HFin.out]
      refine ⟨rfl, ⟨.slice ad k c, cell_set_same _ t2, (cell_set_other _ (by simp)).trans t3, by first | exact f2 | (simp [go_sem]; exact f2), ?_, hno, H.out.lo, H.out.hi⟩, (But.below HB.out).trans hbt⟩
      rw [HE.out, HFin.out]
      exact HR.out.but hbt (fun b hb e => hno b hb e)
end Go.Proofs.YtlamhpiiikcpiaaGreatDoor
