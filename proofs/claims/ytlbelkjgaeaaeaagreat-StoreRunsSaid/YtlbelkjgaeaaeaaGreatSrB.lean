/-
  Walks: do, at every change that may be.
-/
import Derived.Test.YtlbelkjgaeaaeaaGreatFibH
import Derived.Test.YtlbelkjgaeaaeaaGreatSrA
import Derived.Test.YtlbelkjgaeaaeaaGreatFibB
import Derived.Test.YtlbelkjgaeaaeaaGreatFibF
namespace Go.Proofs.YtlbelkjgaeaaeaaGreat
open Go.RowKit Go.Shelf Go.Lib Go.Sort
set_option linter.unusedVariables false
set_option linter.unusedSectionVars false

theorem Fb.mayI_zero {L : List Rl} {width kind : Int} {r : Rl} (h : Fb.mayI L width kind r = 0) : kind = 1 ∨ (kind = 2 ∧ 0 ≤ Fb.keyI L r.p r.m) ∨ (kind = 3 ∧ 0 ≤ Fb.keyI L r.p r.m) := by
  unfold Fb.mayI at h
  by_cases h1 : kind < 1 ∨ kind > 3
  · rw [if_pos h1] at h; omega
  · rw [if_neg h1] at h
    by_cases h2 : ¬ Rp.checkR (Fb.ruleOf kind r) width = 0
    · rw [if_pos h2] at h; exact absurd h h2
    · rw [if_neg h2] at h
      by_cases h3 : kind = 1
      · exact .inl h3
      · rw [if_neg h3] at h
        by_cases h4 : 0 ≤ Fb.keyI L r.p r.m
        · rcases (show kind = 2 ∨ kind = 3 by omega) with h5 | h5
          · exact .inr (.inl ⟨h5, h4⟩)
          · exact .inr (.inr ⟨h5, h4⟩)
        · rw [if_neg h4] at h; omega

theorem do_any (ok ok2 : Nat → Prop) (tb : Nat) (v : Value) (L : List Rl) (width kind : Int) (x : RC) (r : Rl) (w : World) (hr : RdsR ok w v L) (ht : w.cell? ⟨tb, 0, none⟩ = some v) (hf : w.frozen? ⟨tb, 0, none⟩ = false) (htok : ∀ b, ok b → b ≠ tb) (hx : RdC ok2 w x r) (hL : L.length ≤ 4096) (hq : Fb.mayI L width kind r = 0) :
    Calls Tryz.prog 51 #[.pointer (some ⟨tb, 0, none⟩), .agg #[.int .i64 kind, .int .i64 x.p, .string x.m, .int .i64 x.k, .slice x.a x.n x.c]] w fun e w' => ∃ (k' : Int) (y : RC) (v' : Value), e = .returned (.agg #[.int .i64 k', .int .i64 y.p, .string y.m, .int .i64 y.k, .slice y.a y.n y.c]) ∧
      w'.cell? ⟨tb, 0, none⟩ = some v' ∧ w'.frozen? ⟨tb, 0, none⟩ = false ∧ RdsR (fun b => ok b ∨ w.heap.size ≤ b) w' v' (Fb.aft L kind r) ∧ But (fun b => b = tb) w w' := by
  rcases Fb.mayI_zero hq with rfl | ⟨rfl, hk⟩ | ⟨rfl, hk⟩
  · exact do1_any ok ok2 tb v L x r w hr ht hf hx hL
  · exact do2_any ok ok2 tb v L x r w hr ht hf htok hx hL hk
  · exact do3_any ok ok2 tb v L x r w hr ht hf htok hx hL hk
end Go.Proofs.YtlbelkjgaeaaeaaGreat
/-
  Walks: rows.all: changes on a copy, all or none.
-/
namespace Go.Proofs.YtlbelkjgaeaaeaaGreat
open Go.RowKit Go.Shelf Go.Lib Go.Sort
set_option linter.unusedVariables false
set_option linter.unusedSectionVars false
set_option linter.unusedSimpArgs false

theorem ownsRow_but {S : Nat → Prop} {w w' : World} {b : Nat} {e : TypeId} {size : Nat} {v : Value} {n : Nat} {xs : List Value} (h : w.ownsRow b e size v n xs) (hb : But S w w') (hs : ∀ k, b ≤ k → ¬ S k) : w'.ownsRow b e size v n xs := by
  obtain ⟨h1, h2⟩ := h
  refine ⟨h1, ?_⟩
  rcases h2 with h2 | ⟨g, cap, cur, hv, hg, hh, r⟩
  · exact .inl h2
  · refine .inr ⟨g, cap, cur, hv, hg, ?_, r⟩
    rw [hb.block g ?_ (hs g hg)]
    · exact hh
    · rcases Nat.lt_or_ge g w.heap.size with h | h
      · exact h
      · rw [Array.getElem?_eq_none h] at hh; cases hh

theorem ownsRow_cells {w : World} {b : Nat} {e : TypeId} {size : Nat} {ad : Option Addr} {n c m : Nat} {xs : List Value} (h : w.ownsRow b e size (.slice ad n c) m xs) : n = m ∧ (∀ p, ad = some p → ∀ j u, xs[j]? = some u → w.cell? (p.add j) = some u) ∧ (ad = none → n = 0 ∧ c = 0) := by
  obtain ⟨h1, h2⟩ := h
  rcases h2 with ⟨h2, h3⟩ | ⟨g, cap, cur, hv, hg, hh, hn, hc, hs, ht⟩
  · injection h2 with e1 e2 e3
    subst e1 e2 e3
    exact ⟨h3.symm, fun p hp => (by cases hp), fun _ => ⟨rfl, rfl⟩⟩
  · injection hv with e1 e2 e3
    subst e1 e2 e3
    refine ⟨rfl, fun p hp j u hj => ?_, fun hp => (by cases hp)⟩
    injection hp with hp
    subst hp
    have hjl : j < n * size := by
      rw [← h1]
      exact (List.getElem?_eq_some_iff.1 hj).1
    rw [← ht, List.getElem?_take_of_lt hjl] at hj
    rw [Addr.add_lit, Nat.zero_add]
    simp only [World.cell?, hh]
    simpa using hj

/-- append of a row of changes onto a new one of one change, at a step of a region that draws its order. -/
theorem step_app_undo {w : World} {ops : Array Oper} {o : Oper} {a : Act} {K : Act → World → Prop} {Q : Exit → Act → World → Prop} {E : Prop} (hgd : o.guard = none) (s x : Operand)
    (ho : o.op = .call { callee := .builtin .append, args := #[s, x], argTypes := #[32, 32] })
    (base g : Nat) (k : Int) (y : RC) (hs : a.eval s = .slice (some ⟨g, 0, none⟩) 1 1) (hg : w.heap[g]? = some (.cells #[.int .i64 k, .int .i64 y.p, .string y.m, .int .i64 y.k, .slice y.a y.n y.c] 64 (0, 0))) (hb : base ≤ g)
    (ad : Option Addr) (n c : Nat) (ys : List Value) (hx : a.eval x = .slice ad n c) (hrow : w.ownsRow base 64 5 (.slice ad n c) n ys) (h1 : ∀ u ∈ ys, u.oneCell' = true)
    (tot : Nat) (htot : 1 + n = tot) (hbytes : tot * 64 ≤ 140737488355328) (hbase : base ≤ w.heap.size)
    (h : ∀ ad' cap w', w'.ownsRow base 64 5 (.slice ad' tot cap) tot ([.int .i64 k, .int .i64 y.p, .string y.m, .int .i64 y.k, .slice y.a y.n y.c] ++ ys) → w.grownBy w' (some g) → K (a.put o.dst (.slice ad' tot cap)) w') :
    if Region.wanted o (yielded ops a.tmps) = true then Oper.wp Tryz.prog o a w K Q else E := by
  have hw : Region.wanted o (yielded ops a.tmps) = true := by simp [Region.wanted, hgd]
  rw [if_pos hw]
  obtain ⟨i0, hi, hz0, hz1, hz2⟩ := info_parts infoC
  obtain ⟨_, hcs, hnil⟩ := ownsRow_cells hrow
  have hown : w.ownsRow base 64 5 (.slice (some ⟨g, 0, none⟩) 1 1) 1 [.int .i64 k, .int .i64 y.p, .string y.m, .int .i64 y.k, .slice y.a y.n y.c] :=
    ⟨rfl, .inr ⟨g, 1, #[.int .i64 k, .int .i64 y.p, .string y.m, .int .i64 y.k, .slice y.a y.n y.c], rfl, hb, hg, Nat.le_refl _, by unfold maxLen; omega, rfl, rfl⟩⟩
  refine wp_append_k s x 32 ho base 64 i0 _ 5 64 Tryz.underlying32 hi hz0 hz1 hz2 rfl (by decide) _ 1 _ hs hown ad n c ys hx hrow.1 hcs hnil h1 tot htot (by unfold maxLen; omega) hbytes hbase fun ad' cap w' h2 h3 => h ad' cap w' h2 h3

theorem cells5_one (k : Int) (y : RC) : ∀ u ∈ [Value.int .i64 k, .int .i64 y.p, .string y.m, .int .i64 y.k, .slice y.a y.n y.c], u.oneCell' = true := by
  intro u hu
  simp only [List.mem_cons, List.mem_nil_iff, or_false] at hu
  rcases hu with rfl | rfl | rfl | rfl | rfl <;> rfl

/-- Where all stands between two changes. -/
structure AllSt (ok : Nat → Prop) (w : World) (D : Nat) (wr : World) (v : Value) (L : List Rl) (u : Option Addr) (n c : Nat) (ys : List Value) : Prop where
  a0 : wr.cell? ⟨w.heap.size, 0, none⟩ = some (.pointer (some ⟨D, 0, none⟩))
  b0 : wr.cell? ⟨w.heap.size + 1, 0, none⟩ = some (.slice u n c)
  c0 : wr.cell? ⟨w.heap.size + 1 + 1, 0, none⟩ = some (.int .i64 0)
  d0 : wr.cell? ⟨D, 0, none⟩ = some v
  af : wr.frozen? ⟨w.heap.size, 0, none⟩ = false
  bf : wr.frozen? ⟨w.heap.size + 1, 0, none⟩ = false
  cf : wr.frozen? ⟨w.heap.size + 1 + 1, 0, none⟩ = false
  df : wr.frozen? ⟨D, 0, none⟩ = false
  rd : RdsR (fun b => (ok b ∧ b < w.heap.size) ∨ (w.heap.size + 3 ≤ b ∧ b ≠ D)) wr v L
  row : wr.ownsRow (D + 1) 64 5 (.slice u n c) n ys
  one : ∀ x ∈ ys, x.oneCell' = true
  bel : Below w.heap.size w wr
  lo : w.heap.size + 3 ≤ D
  hi : D < wr.heap.size

theorem AllSt.below {ok : Nat → Prop} {w : World} {D : Nat} {wr W : World} {v : Value} {L : List Rl} {u : Option Addr} {n c : Nat} {ys : List Value} (h : AllSt ok w D wr v L u n c ys) (hb : Below wr.heap.size wr W) : AllSt ok w D W v L u n c ys := by
  have h1 := h.lo
  have h2 := h.hi
  have fr : ∀ p : Addr, p.block < wr.heap.size → W.frozen? p = wr.frozen? p := fun p hp => (But.below hb).frozen (S := fun _ => False) hp (fun h => h)
  exact ⟨(hb.cell (p := ⟨w.heap.size, 0, none⟩) (by show w.heap.size < _; omega)).trans h.a0, (hb.cell (p := ⟨w.heap.size + 1, 0, none⟩) (by show w.heap.size + 1 < _; omega)).trans h.b0, (hb.cell (p := ⟨w.heap.size + 1 + 1, 0, none⟩) (by show w.heap.size + 1 + 1 < _; omega)).trans h.c0, (hb.cell (p := ⟨D, 0, none⟩) h2).trans h.d0,
    (fr ⟨w.heap.size, 0, none⟩ (by show w.heap.size < _; omega)).trans h.af, (fr ⟨w.heap.size + 1, 0, none⟩ (by show w.heap.size + 1 < _; omega)).trans h.bf, (fr ⟨w.heap.size + 1 + 1, 0, none⟩ (by show w.heap.size + 1 + 1 < _; omega)).trans h.cf, (fr ⟨D, 0, none⟩ h2).trans h.df,
    h.rd.below hb, ownsRow_below h.row hb, h.one, h.bel.trans (hb.mono (by omega)), h1, Nat.lt_of_lt_of_le h2 hb.size⟩

/-- The change's rules are written. -/
theorem AllSt.done {ok : Nat → Prop} {w : World} {D : Nat} {wr W : World} {v v' : Value} {L L' : List Rl} {u : Option Addr} {n c : Nat} {ys : List Value} (h : AllSt ok w D wr v L u n c ys) (hb : But (fun b => b = D) wr W) (hv : W.cell? ⟨D, 0, none⟩ = some v') (hf : W.frozen? ⟨D, 0, none⟩ = false)
    (hr : RdsR (fun b => ((ok b ∧ b < w.heap.size) ∨ (w.heap.size + 3 ≤ b ∧ b ≠ D)) ∨ wr.heap.size ≤ b) W v' L') : AllSt ok w D W v' L' u n c ys := by
  have h1 := h.lo
  have h2 := h.hi
  refine ⟨(hb.cell (p := ⟨w.heap.size, 0, none⟩) (by show w.heap.size < _; omega) (by show ¬ w.heap.size = D; omega)).trans h.a0, (hb.cell (p := ⟨w.heap.size + 1, 0, none⟩) (by show w.heap.size + 1 < _; omega) (by show ¬ w.heap.size + 1 = D; omega)).trans h.b0, (hb.cell (p := ⟨w.heap.size + 1 + 1, 0, none⟩) (by show w.heap.size + 1 + 1 < _; omega) (by show ¬ w.heap.size + 1 + 1 = D; omega)).trans h.c0, hv,
    (hb.frozen (p := ⟨w.heap.size, 0, none⟩) (by show w.heap.size < _; omega) (by show ¬ w.heap.size = D; omega)).trans h.af, (hb.frozen (p := ⟨w.heap.size + 1, 0, none⟩) (by show w.heap.size + 1 < _; omega) (by show ¬ w.heap.size + 1 = D; omega)).trans h.bf, (hb.frozen (p := ⟨w.heap.size + 1 + 1, 0, none⟩) (by show w.heap.size + 1 + 1 < _; omega) (by show ¬ w.heap.size + 1 + 1 = D; omega)).trans h.cf, hf,
    hr.mono fun b hb => ?_, ownsRow_but h.row hb (fun k hk e => by omega), h.one, h.bel.trans (hb.toBelow (by omega) (fun k hk => by omega)), h1, Nat.lt_of_lt_of_le h2 hb.size⟩
  rcases hb with hb | hb
  · exact hb
  · exact .inr ⟨by omega, by omega⟩

/-- What undoes them is written. -/
theorem AllSt.undo {ok : Nat → Prop} {w : World} {D : Nat} {wr : World} {v : Value} {L : List Rl} {u u' : Option Addr} {n c n' c' : Nat} {ys ys' : List Value} (h : AllSt ok w D wr v L u n c ys) (hr : wr.ownsRow (D + 1) 64 5 (.slice u' n' c') n' ys') (h1 : ∀ x ∈ ys', x.oneCell' = true) : AllSt ok w D (wr.setCell ⟨w.heap.size + 1, 0, none⟩ (.slice u' n' c')) v L u' n' c' ys' := by
  have h1 := h.lo
  have h2 := h.hi
  have hb : But (fun b => b = w.heap.size + 1) wr (wr.setCell ⟨w.heap.size + 1, 0, none⟩ (.slice u' n' c')) := But.set (S := fun b => b = w.heap.size + 1) (a := ⟨w.heap.size + 1, 0, none⟩) rfl _
  refine ⟨(hb.cell (p := ⟨w.heap.size, 0, none⟩) (by show w.heap.size < _; omega) (by show ¬ w.heap.size = w.heap.size + 1; omega)).trans h.a0, cell_set_same _ h.b0, (hb.cell (p := ⟨w.heap.size + 1 + 1, 0, none⟩) (by show w.heap.size + 1 + 1 < _; omega) (by show ¬ w.heap.size + 1 + 1 = w.heap.size + 1; omega)).trans h.c0, (hb.cell (p := ⟨D, 0, none⟩) h2 (by show ¬ D = _; omega)).trans h.d0,
    (hb.frozen (p := ⟨w.heap.size, 0, none⟩) (by show w.heap.size < _; omega) (by show ¬ w.heap.size = w.heap.size + 1; omega)).trans h.af, ?_, (hb.frozen (p := ⟨w.heap.size + 1 + 1, 0, none⟩) (by show w.heap.size + 1 + 1 < _; omega) (by show ¬ w.heap.size + 1 + 1 = w.heap.size + 1; omega)).trans h.cf, (hb.frozen (p := ⟨D, 0, none⟩) h2 (by show ¬ D = _; omega)).trans h.df,
    h.rd.but hb (fun b hb e => by omega), ownsRow_but hr hb (fun k hk e => by omega), by assumption, h.bel.setCell (by show w.heap.size ≤ w.heap.size + 1; omega) _, h1, Nat.lt_of_lt_of_le h2 hb.size⟩
  have := h.bf
  first | exact this | (simp [go_sem]; exact this)

theorem Rl.okTrue {P : Nat → Prop} {w : World} {x : RC} {r : Rl} (h : RdC P w x r) : RdC (fun _ => True) w x r := h.mono fun _ _ => trivial

set_option maxHeartbeats 3200000 in
set_option maxRecDepth 20000 in
theorem all_any (ok ok2 : Nat → Prop) (tb : Nat) (v : Value) (L : List Rl) (W : Int) (cv : Value) (m : List (Int × Rl)) (w : World) (hr : RdsR ok w v L) (ht : w.cell? ⟨tb, 0, none⟩ = some v) (hc : RdsC ok2 w cv m) (hm : m.length * 64 ≤ 140737488351232) (hL : Fb.Ok W L) :
    Calls Tryz.prog 42 #[.pointer (some ⟨tb, 0, none⟩), cv, .int .i64 W] w fun e w' => Below w.heap.size w w' ∧ ((∃ (L' : List Rl) (g : Nat) (v' : Value) (u : Option Addr) (un uc : Nat), Fb.doL W L m 0 = (some L', 0, 0) ∧ e = .returned (.tuple #[.pointer (some ⟨g, 0, none⟩), .slice u un uc, .int .i64 0, .int .i64 0]) ∧ w.heap.size ≤ g ∧ w'.cell? ⟨g, 0, none⟩ = some v' ∧ RdsR (fun b => (ok b ∧ b < w.heap.size) ∨ (w.heap.size ≤ b ∧ b ≠ g)) w' v' L') ∨
      (∃ (i : Nat) (q : Int), Fb.doL W L m 0 = (none, i, q) ∧ e = .returned (.tuple #[.pointer none, .slice none 0 0, .int .i64 i, .int .i64 q]))) := by
  have htb : tb < w.heap.size := cell_lt ht
  obtain ⟨W0, hW0⟩ : ∃ W0, W0 = ((w.alloc (.cells #[.pointer none] 100)).alloc (.cells #[.slice none 0 0] 32)).alloc (.cells #[.int .i64 0] 24) := ⟨_, rfl⟩
  have hg0 : Grn w W0 := by rw [hW0]; exact (((Grn.refl w).alloc _).alloc _).alloc _
  have hs0 : W0.heap.size = w.heap.size + 3 := by rw [hW0]; simp
  have hA0 : W0.heap[w.heap.size]? = some (.cells #[.pointer none] 100 (0, 0)) := by
    rw [hW0]; simp only [al_heap, Array.getElem?_push, Array.size_push]; simp <;> omega
  have hB0 : W0.heap[w.heap.size + 1]? = some (.cells #[.slice none 0 0] 32 (0, 0)) := by
    rw [hW0]; simp only [al_heap, Array.getElem?_push, Array.size_push]; simp <;> omega
  have hC0 : W0.heap[w.heap.size + 1 + 1]? = some (.cells #[.int .i64 0] 24 (0, 0)) := by
    rw [hW0]; simp only [al_heap, Array.getElem?_push, Array.size_push]; simp
  have t0 : W0.cell? ⟨tb, 0, none⟩ = some v := (hg0.below.cell (p := ⟨tb, 0, none⟩) htb).trans ht
  have HCl := Lib.hid (cloneR_any _ v L W0 (hr.lt.below hg0.below) (by have := hL.few; omega))
  obtain ⟨n, hn⟩ : ∃ n, n = m.length := ⟨_, rfl⟩
  have HN := Lib.hid hn
  rw [← hn] at hm
  obtain ⟨adc, capc, rfl, hcc, hcm⟩ := hc.form
  unfold maxLen at hcm
  have HC := Lib.hid hc
  rw [← hn] at HC hcc ⊢
  have HG0 := Lib.hid hg0
  have HS0 := Lib.hid hs0
  have HA0 := Lib.hid hA0
  have HB0 := Lib.hid hB0
  have HC0 := Lib.hid hC0
  have HL := Lib.hid hL
  have HW0 := Lib.hid hW0
  have a0 : W0.cell? ⟨w.heap.size, 0, none⟩ = some (.pointer none) := by simp [World.cell?, hA0]
  have fa0 : W0.frozen? ⟨w.heap.size, 0, none⟩ = false := by simp [World.frozen?, hA0]
  clear hr hc hn hg0 hA0 hB0 hC0 hL hW0 ht hs0
  go_enter_defers Tryz.func42, Tryz.ntmps42
  go_upto_region 1 with fail
  rw [← HW0.out]
  clear HW0
  go_wp2_with fail
  refine HCl.out.mono ?_
  rintro e w1 ⟨ad1, c1, xs1, rfl, hown, hb1⟩
  obtain ⟨vl, hvl⟩ : ∃ vl, vl = Value.slice ad1 L.length c1 := ⟨_, rfl⟩
  have hs1 := hb1.size
  obtain ⟨D, hD⟩ : ∃ D, D = w1.heap.size := ⟨_, rfl⟩
  have hAs : AllSt ok w D ((w1.alloc (.cells #[vl] 87)).setCell ⟨w.heap.size, 0, none⟩ (.pointer (some ⟨D, 0, none⟩))) vl L none 0 0 [] := by
    have hs0' := HS0.out
    have hb2 : Below W0.heap.size W0 (w1.alloc (.cells #[vl] 87)) := hb1.alloc hs1 _
    have hDl : D < (w1.alloc (.cells #[vl] 87)).heap.size := by rw [hD]; simp
    have hbt : But (fun b => b = w.heap.size) (w1.alloc (.cells #[vl] 87)) ((w1.alloc (.cells #[vl] 87)).setCell ⟨w.heap.size, 0, none⟩ (.pointer (some ⟨D, 0, none⟩))) := But.set (S := fun b => b = w.heap.size) (a := ⟨w.heap.size, 0, none⟩) rfl _
    have hA2 := (hb2.block _ (by omega)).trans HA0.out
    have hB2 := (hbt.block (w.heap.size + 1) (by omega) (by omega)).trans ((hb2.block _ (by omega)).trans HB0.out)
    have hC2 := (hbt.block (w.heap.size + 1 + 1) (by omega) (by omega)).trans ((hb2.block _ (by omega)).trans HC0.out)
    have hD2 := (hbt.block D hDl (by omega)).trans (show (w1.alloc (.cells #[vl] 87)).heap[D]? = some (.cells #[vl] 87 (0, 0)) by rw [hD]; exact heap_alloc_new _ _)
    refine ⟨cell_set_same (u := .pointer none) _ (by simp [World.cell?, hA2]), by simp [World.cell?, hB2], by simp [World.cell?, hC2], by simp [World.cell?, hD2], ?_, by simp [World.frozen?, hB2], by simp [World.frozen?, hC2], by simp [World.frozen?, hD2], ?_, World.ownsRow_nil _ _ _ _, (fun x hx => by cases hx), ?_, by omega, Nat.lt_of_lt_of_le hDl hbt.size⟩
    · have : (w1.alloc (.cells #[vl] 87)).frozen? ⟨w.heap.size, 0, none⟩ = false := by simp [World.frozen?, hA2]
      first | exact this | (simp [go_sem]; exact this)
    · have h1 : RdsR (fun b => (ok b ∧ b < w.heap.size) ∨ (w.heap.size + 3 ≤ b ∧ b ≠ D)) w1 vl L := by
        rw [hvl]
        have hlt : ∀ b, W0.heap.size ≤ b ∧ b < w1.heap.size → (ok b ∧ b < w.heap.size) ∨ (w.heap.size + 3 ≤ b ∧ b ≠ D) := fun b hb => .inr ⟨by omega, by omega⟩
        have := hown.toRds'.lt
        refine this.mono fun b hb => ?_
        rcases hb.1 with h | h
        · exact hlt b ⟨h, hb.2⟩
        · exact .inl h.1
      exact (h1.below ((Below.refl _ _).alloc (Nat.le_refl _) _)).but hbt (fun b hb e => by omega)
    · exact (HG0.out.below.trans (hb2.mono (by omega))).setCell (by show w.heap.size ≤ w.heap.size; omega) _
  have HAs := Lib.hid hAs
  have ha1 : w1.cell? ⟨w.heap.size, 0, none⟩ = some (.pointer none) := (hb1.cell (p := ⟨w.heap.size, 0, none⟩) (by show w.heap.size < _; have := HS0.out; omega)).trans a0
  have hfa1 : w1.frozen? ⟨w.heap.size, 0, none⟩ = false := ((But.below hb1).frozen (S := fun _ => False) (p := ⟨w.heap.size, 0, none⟩) (by show w.heap.size < _; have := HS0.out; omega) (fun h => h)).trans fa0
  have na1 : ¬ w1.heap.size = w.heap.size := by have := HS0.out; omega
  have na2 : ¬ w.heap.size = w1.heap.size := by omega
  have fa2 : (w1.alloc (.cells #[.slice ad1 L.length c1] 87)).frozen? ⟨w.heap.size, 0, none⟩ = false := ((But.below ((Below.refl w1.heap.size w1).alloc (Nat.le_refl _) _)).frozen (S := fun _ => False) (p := ⟨w.heap.size, 0, none⟩) (by show w.heap.size < _; have := HS0.out; omega) (fun h => h)).trans hfa1
  have ca2 : (w1.alloc (.cells #[.slice ad1 L.length c1] 87)).cell? ⟨w.heap.size, 0, none⟩ = some (.pointer none) := ((((Below.refl w1.heap.size w1).alloc (Nat.le_refl _) _)).cell (p := ⟨w.heap.size, 0, none⟩) (by show w.heap.size < _; have := HS0.out; omega)).trans ha1
  have HVl := Lib.hid hvl
  have HD := Lib.hid hD
  clear hown hb1 hAs hD t0 a0 fa0
  obtain ⟨W3, hW3⟩ : ∃ W3, W3 = (w1.alloc (.cells #[.slice ad1 L.length c1] 87)).setCell ⟨w.heap.size, 0, none⟩ (.pointer (some ⟨w1.heap.size, 0, none⟩)) := ⟨_, rfl⟩
  have HA3 : Hid (AllSt ok w D W3 vl L none 0 0 []) := by
    rw [hW3, ← hvl, ← HD.out]; exact HAs.out
  have HW3 := Lib.hid hW3
  clear hW3 HAs hvl
  go_upto_region 3 with fail
  rw [← HW3.out]
  clear HW3 ha1 hfa1 fa2 ca2
  go_wp2_with fail
  go_loopw [8, 22] (fun s8 s22 wr => ∃ (i : Nat) (q : Int) (vr : Value) (Lr : List Rl) (u : Option Addr) (c : Nat) (ys : List Value), s22 = .int .i64 i ∧ s8 = .int .i64 q ∧ i ≤ n ∧ Hid (AllSt ok w D wr vr Lr u i c ys) ∧ Hid (Fb.Ok W Lr) ∧ Hid (Fb.doL W L m 0 = Fb.doL W Lr (m.drop i) i)) (fun _ s22 _ => n - (intOf s22).toNat)
  case atStart => exact ⟨0, 0, vl, L, none, 0, [], rfl, rfl, Nat.zero_le _, HA3.out, HL.out, rfl⟩
  case round =>
    obtain ⟨wo, rfl⟩ : ∃ wo : World, wo = wr := ⟨wr, rfl⟩
    obtain ⟨i, q, vr, Lr, u, c, ys, rfl, rfl, hin, HS, HOk, HDo⟩ := hrel
    by_cases hlt : i < n
    · have him : i < m.length := by rw [← HN.out]; exact hlt
      obtain ⟨b, off, k, x, rfl, hb, _, hk, x0, x1, x2, x3, x4, hx⟩ := HC.out.get i him
      have X0 := (HS.out.bel.cell (p := ⟨b, off + i * 5, none⟩) hb).trans x0
      have X1 := (HS.out.bel.cell (p := ⟨b, off + i * 5 + 1, none⟩) hb).trans x1
      have X2 := (HS.out.bel.cell (p := ⟨b, off + i * 5 + 2, none⟩) hb).trans x2
      have X3 := (HS.out.bel.cell (p := ⟨b, off + i * 5 + 3, none⟩) hb).trans x3
      have X4 := (HS.out.bel.cell (p := ⟨b, off + i * 5 + 4, none⟩) hb).trans x4
      obtain ⟨r, hrr⟩ : ∃ r, m[i].2 = r := ⟨_, rfl⟩
      rw [hrr] at hx
      obtain ⟨qv, hqv⟩ : ∃ qv, Fb.mayI Lr W k r = qv := ⟨_, rfl⟩
      have hst := Fb.doL_step (W := W) (L := Lr) him
      rw [← hk, hrr, hqv] at hst
      have HSt := Lib.hid hst
      obtain ⟨W5, hW5⟩ : ∃ W5, W5 = wo.alloc (.cells #[.int .i64 k, .int .i64 x.p, .string x.m, .int .i64 x.k, .slice x.a x.n x.c] 64) := ⟨_, rfl⟩
      have hb5 : Below wo.heap.size wo W5 := by rw [hW5]; exact (Below.refl _ _).alloc (Nat.le_refl _) _
      have hs5 : W5.heap.size = wo.heap.size + 1 := by rw [hW5]; simp
      have hh5 : W5.heap[wo.heap.size]? = some (.cells #[.int .i64 k, .int .i64 x.p, .string x.m, .int .i64 x.k, .slice x.a x.n x.c] 64 (0, 0)) := by rw [hW5]; exact heap_alloc_new _ _
      have h5 := HS.out.below hb5
      have hxT : Hid (∀ Wx, Below wo.heap.size wo Wx → RdC (fun _ => True) Wx x r) := fun Wx hWx => (Rl.okTrue hx).below (HS.out.bel.trans (hWx.mono HS.out.bel.size))
      have HMay := Lib.hid (may_any (fun _ => True) D vr Lr W k x r W5 (h5.rd.mono fun _ _ => trivial) h5.d0 (hxT.out W5 hb5) qv hqv)
      have a5 := h5.a0
      have c0 : W5.cell? ⟨wo.heap.size, 0, none⟩ = some (.int .i64 k) := by simp [World.cell?, hh5]
      have c1 : W5.cell? ⟨wo.heap.size, 1, none⟩ = some (.int .i64 x.p) := by simp [World.cell?, hh5]
      have c2 : W5.cell? ⟨wo.heap.size, 2, none⟩ = some (.string x.m) := by simp [World.cell?, hh5]
      have c3 : W5.cell? ⟨wo.heap.size, 3, none⟩ = some (.int .i64 x.k) := by simp [World.cell?, hh5]
      have c4 : W5.cell? ⟨wo.heap.size, 4, none⟩ = some (.slice x.a x.n x.c) := by simp [World.cell?, hh5]
      have HH5 := Lib.hid hh5
      have H5 := Lib.hid h5
      have HB5 := Lib.hid hb5
      have HW5 := Lib.hid hW5
      have HQv := Lib.hid hqv
      have HS5 := Lib.hid hs5
      clear x0 x1 x2 x3 x4 hx hst hk hb5 hh5 h5 hW5 hqv hs5 hrr
      go_upto_region 6 with fail
      rw [← HW5.out]
      clear HW5 X0 X1 X2 X3 X4
      go_wp2_with fail
      refine HMay.out.mono ?_
      rintro e w6 ⟨he, hb6⟩
      have h6 := H5.out.below hb6
      have H6 := Lib.hid h6
      by_cases hq0 : qv = 0
      · rw [show mayEnd qv = .returned (.tuple #[]) by unfold mayEnd; rw [if_pos hq0]] at he
        subst he
        rw [if_pos hq0] at HSt
        have HOk2 : Hid (Fb.Ok W (Fb.aft Lr k r)) := HOk.out.aft (by rw [HQv.out, hq0])
        have HDoo : Hid (∀ Wx, Below w6.heap.size w6 Wx → Calls Tryz.prog 51 #[.pointer (some ⟨D, 0, none⟩), .agg #[.int .i64 k, .int .i64 x.p, .string x.m, .int .i64 x.k, .slice x.a x.n x.c]] Wx fun e w' => ∃ (k' : Int) (y : RC) (v' : Value), e = .returned (.agg #[.int .i64 k', .int .i64 y.p, .string y.m, .int .i64 y.k, .slice y.a y.n y.c]) ∧ AllSt ok w D w' v' (Fb.aft Lr k r) u i c ys) := fun Wx hWx => by
          have hx6 := H6.out.below hWx
          refine (do_any _ (fun _ => True) D vr Lr W k x r Wx hx6.rd hx6.d0 hx6.df (fun b hb e => ?_) (hxT.out Wx (HB5.out.trans ((hb6.trans (hWx.mono hb6.size)).mono (by have := HS5.out; omega)))) HOk.out.few (by rw [HQv.out, hq0])).mono ?_
          · have := hx6.lo
            omega
          · rintro e w' ⟨k', y, v', rfl, d1, d2, d3, d4⟩
            exact ⟨k', y, v', rfl, hx6.done d4 d1 d2 d3⟩
        have hl5 : wo.heap.size < W5.heap.size := by have := HS5.out; omega
        have a6 := h6.a0
        have b6 := h6.b0
        have bf6 := h6.bf
        have e0 := (hb6.cell (p := ⟨wo.heap.size, 0, none⟩) hl5).trans c0
        have e1 := (hb6.cell (p := ⟨wo.heap.size, 1, none⟩) hl5).trans c1
        have e2 := (hb6.cell (p := ⟨wo.heap.size, 2, none⟩) hl5).trans c2
        have e3 := (hb6.cell (p := ⟨wo.heap.size, 3, none⟩) hl5).trans c3
        have e4 := (hb6.cell (p := ⟨wo.heap.size, 4, none⟩) hl5).trans c4
        have HB6 := Lib.hid hb6
        clear h6 hb6 c0 c1 c2 c3 c4 a5 hl5
        go_upto_region 8 with fail
        go_region_law (first
          | (go_simp; go_at_call 51; refine (HDoo.out _ (by repeat (first | (with_reducible exact Below.refl _ _) | (with_reducible refine Below.drew ?_) | (with_reducible refine Below.alloc ?_ (by simp <;> omega) _)))).mono ?_; rintro _ w9 ⟨k9, y9, v9, rfl, hd9⟩; have HD9 := Lib.hid hd9; have b9 := hd9.b0; have bf9 := hd9.bf; have nb9 := World.new_ne w9 ⟨w.heap.size + 1, 0, none⟩ b9; have b9a := (hd9.below ((Below.refl w9.heap.size w9).alloc (Nat.le_refl _) (.cells #[.int .i64 k9, .int .i64 y9.p, .string y9.m, .int .i64 y9.k, .slice y9.a y9.n y9.c] 64))).b0; clear hd9)
          | ((refine step_app_undo rfl (.tmp 35) (.tmp 36) (by rfl) (D + 1) w9.heap.size k9 y9 (by rfl) (heap_alloc_new w9 _) (by have := HD9.out.hi; omega) u i c ys (by rfl) (ownsRow_below HD9.out.row ((Below.refl _ _).alloc (Nat.le_refl _) _)) HD9.out.one (i + 1) (by omega) (by omega) (by have := HD9.out.hi; simp; omega) ?_); intro ad10 c10 w10 ho10 hg10; have HO10 := Lib.hid ho10; have HA10 := Lib.hid (HD9.out.below (((Below.refl w9.heap.size w9).alloc (Nat.le_refl _) _).grown hg10 (by simp) (fun k hk => by have e := Option.some.inj (show some w9.heap.size = some k from hk); omega))); have b10 := HA10.out.b0; have bf10 := HA10.out.bf; clear ho10 hg10))
        all_goals
          go_wp2_with fail
          go_roundw
          case rel => exact ⟨i + 1, i, v9, _, ad10, c10, _, by first | rfl | go_num, rfl, by omega, HA10.out.undo HO10.out (fun z hz => (List.mem_append.1 hz).elim (cells5_one k9 y9 z) (HD9.out.one z)), HOk2.out, HDo.out.trans HSt.out⟩
          case measure => simp [intOf]; omega
      · rw [show mayEnd qv = errFault qv by unfold mayEnd; rw [if_neg hq0]] at he
        subst he
        rw [if_neg hq0] at HSt
        clear h6 hb6 c0 c1 c2 c3 c4 a5
        go_wp2_with fail
        refine all_fault qv _ _ 0 (by omega) (by omega) (by have := H6.out.lo; have := H6.out.hi; omega) H6.out.a0 H6.out.b0 H6.out.c0 H6.out.af H6.out.bf H6.out.cf ⟨_, rfl⟩ ⟨_, _, _, rfl⟩ fun W' hB h1 h2 h3 => ?_
        exact ⟨.tuple #[.pointer none, .slice none 0 0, .int .i64 i, .int .i64 qv], by simp [results, Tryz.results42, go_sem, h1, h2, h3], H6.out.bel.trans hB, .inr ⟨i, qv, HDo.out.trans HSt.out, rfl⟩⟩
    · have hin' : i = n := by omega
      have HFin : Hid (Fb.doL W L m 0 = (some Lr, 0, 0)) := by
        show _ = _
        rw [HDo.out, hin', HN.out]
        exact Fb.doL_end
      subst hin'
      have aa := HS.out.a0
      have ba := HS.out.b0
      have ca := HS.out.c0
      have faa := HS.out.af
      have fba := HS.out.bf
      have fca := HS.out.cf
      go_upto_region 10 with fail
      go_region
      all_goals
        go_wp2_with fail
        refine all_ret ⟨.tuple #[.pointer (some ⟨D, 0, none⟩), .slice u i c, .int .i64 0, .int .i64 0], by simp [results, Tryz.results42, go_sem, aa, ba, ca], ?_⟩
        have hbt : But (fun b => b < w.heap.size + 3 ∧ w.heap.size ≤ b) wo ((((wo.setCell ⟨w.heap.size, 0, none⟩ (.pointer (some ⟨D, 0, none⟩))).setCell ⟨w.heap.size + 1, 0, none⟩ (.slice u i c)).setCell ⟨w.heap.size + 1 + 1, 0, none⟩ (.int .i64 0)).drew) := ((((But.set (S := fun b => b < w.heap.size + 3 ∧ w.heap.size ≤ b) (a := ⟨w.heap.size, 0, none⟩) ⟨by show w.heap.size < _; omega, by show w.heap.size ≤ w.heap.size; omega⟩ _).trans (But.set (S := fun b => b < w.heap.size + 3 ∧ w.heap.size ≤ b) (a := ⟨w.heap.size + 1, 0, none⟩) ⟨by show w.heap.size + 1 < _; omega, by show w.heap.size ≤ w.heap.size + 1; omega⟩ _)).trans (But.set (S := fun b => b < w.heap.size + 3 ∧ w.heap.size ≤ b) (a := ⟨w.heap.size + 1 + 1, 0, none⟩) ⟨by show w.heap.size + 1 + 1 < _; omega, by show w.heap.size ≤ w.heap.size + 1 + 1; omega⟩ _)).trans (but_drew _ _))
        have hlo := HS.out.lo
        refine ⟨HS.out.bel.trans (hbt.toBelow HS.out.bel.size (fun k hk => hk.2)), .inl ⟨Lr, D, vr, u, i, c, HFin.out, rfl, by omega, (hbt.cell (p := ⟨D, 0, none⟩) HS.out.hi (by show ¬ (D < _ ∧ _); omega)).trans HS.out.d0, (HS.out.rd.but hbt (fun b hb h => by omega)).mono fun b hb => hb.imp id (fun h => ⟨by omega, h.2⟩)⟩⟩
end Go.Proofs.YtlbelkjgaeaaeaaGreat
/-
  Walks: may a change be? The reference's May.
-/
namespace Go.Proofs.YtlbelkjgaeaaeaaGreat
open Go.RowKit Go.Shelf Go.Lib Go.Sort
set_option linter.unusedVariables false
set_option linter.unusedSectionVars false
set_option linter.unusedSimpArgs false

set_option maxHeartbeats 1600000 in
set_option maxRecDepth 20000 in
theorem rMay1_any (ok : Nat → Prop) (v : Value) (L : List Rl) (width : Int) (x : RC) (r : Rl) (w : World) (hr : RdsR ok w v L) (hx : RdC ok w x r) (q : Int) (hq : Fb.mayI L width 1 r = q) :
    Calls Tryz.prog 43 #[v, .int .i64 width, .agg #[.int .i64 1, .int .i64 x.p, .string x.m, .int .i64 x.k, .slice x.a x.n x.c]] w fun e w' => e = .returned (.int .i64 q) ∧ Below w.heap.size w w' := by
  obtain ⟨W2, hW2⟩ : ∃ W2, W2 = (w.alloc (.cells #[.int .i64 1, .int .i64 x.p, .string x.m, .int .i64 x.k, .slice x.a x.n x.c] 64)).alloc (.cells #[.int .i64 x.p, .string x.m, .int .i64 x.k, .slice x.a x.n x.c] 62) := ⟨_, rfl⟩
  have hg : Grn w W2 := by rw [hW2]; exact ((Grn.refl w).alloc _).alloc _
  have HB := Lib.hid hg.below
  have HX := Lib.hid ((hx.of 1).below hg.below)
  have HR := Lib.hid (hr.below hg.below)
  have hsz : w.heap.size + 1 < W2.heap.size := by rw [hW2]; simp
  have hsz0 : w.heap.size < W2.heap.size := by omega
  have HC : Hid (W2.cell? ⟨w.heap.size, 0, none⟩ = some (.int .i64 1) ∧ W2.cell? ⟨w.heap.size + 1, 0, none⟩ = some (.int .i64 x.p) ∧ W2.cell? ⟨w.heap.size + 1, 1, none⟩ = some (.string x.m) ∧ W2.cell? ⟨w.heap.size + 1, 2, none⟩ = some (.int .i64 x.k) ∧ W2.cell? ⟨w.heap.size + 1, 3, none⟩ = some (.slice x.a x.n x.c)) := by
    rw [hW2]; exact ⟨by simp [go_sem], by simp [go_sem], by simp [go_sem], by simp [go_sem], by simp [go_sem]⟩
  have HQ := Lib.hid (may_kind (by omega) (by omega) q hq)
  have HK := Lib.hid (Fb.keyI_is L r.p r.m)
  have HP := Lib.hid hx.p
  have HM := Lib.hid hx.m
  obtain ⟨e, he⟩ : ∃ e, Rp.checkR (Fb.ruleOf 1 r) width = e := ⟨_, rfl⟩
  rw [he] at HQ
  have HCh := Lib.hid (fun W (h : RdC ok W (x.of 1) (Fb.ruleOf 1 r)) => rCheck_any ok (x.of 1) (Fb.ruleOf 1 r) width W h e he)
  unfold RC.v RC.of at HCh
  unfold RC.of at HX
  rw [if_neg (by decide)] at HX
  simp only [show ¬ ((1 : Int) = 2) by decide, if_false, if_true] at HCh
  obtain ⟨b2, hb2⟩ : ∃ b2, b2 = w.heap.size + 1 := ⟨_, rfl⟩
  rw [← hb2] at HC hsz
  have HW2 := Lib.hid hW2
  obtain ⟨ad1, cc, hvf, hvc, hcm⟩ := hr.form
  obtain ⟨n, hn⟩ : ∃ n, n = L.length := ⟨_, rfl⟩
  rw [← hn] at hvf hvc
  subst hvf
  have HN := Lib.hid hn
  unfold maxLen at hcm
  clear he hq hx hr hg hW2 hn
  go_enter Tryz.func43, Tryz.ntmps43
  go_upto_region 6 with fail
  rw [← HW2.out]
  rw [← hb2]
  clear HW2 hb2
  obtain ⟨c0, c1, c2, c3, c4⟩ := HC.out
  go_wp2_with fail
  refine (HCh.out _ HX.out).mono ?_
  rintro ee w3 ⟨rfl, hb3⟩
  have HB3 : Hid (Below w.heap.size w w3) := HB.out.trans (hb3.mono HB.out.size)
  have d0 := (hb3.cell (p := ⟨w.heap.size, 0, none⟩) hsz0).trans c0
  have d1 := (hb3.cell (p := ⟨b2, 0, none⟩) hsz).trans c1
  have d2 := (hb3.cell (p := ⟨b2, 1, none⟩) hsz).trans c2
  have d3 := (hb3.cell (p := ⟨b2, 2, none⟩) hsz).trans c3
  have d4 := (hb3.cell (p := ⟨b2, 3, none⟩) hsz).trans c4
  have HR3 := Lib.hid (HR.out.below hb3)
  clear hb3 c0 c1 c2 c3 c4
  by_cases he0 : e = 0
  · subst he0
    have HQ2 : Hid (q = (if 0 ≤ Fb.keyI L r.p r.m then 52 else if 4096 ≤ L.length then 3 else 0)) := by
      rcases HQ.out with ⟨h, _⟩ | ⟨_, h⟩
      · exact absurd rfl h
      · show _ = _
        simpa using h
    clear HQ
    obtain ⟨z, hz⟩ : ∃ z, Fb.keyI L r.p r.m = z := ⟨_, rfl⟩
    rw [hz] at HK HQ2
    have HF := Lib.hid (at_any ok (.slice ad1 n cc) L x w3 HR3.out z (by skip; rw [HP.out, HM.out]; exact HK.out))
    rw [← HN.out] at HQ2
    clear hz
    go_wp2_with fail
    refine HF.out.mono ?_
    rintro ee w4 ⟨rfl, hg4⟩
    have HB4 : Hid (Below w.heap.size w w4) := HB3.out.trans (hg4.below.mono HB3.out.size)
    have f0 := (hg4.below.cell (p := ⟨w.heap.size, 0, none⟩) (cell_lt d0)).trans d0
    clear hg4 d0 d1 d2 d3 d4
    by_cases hz0 : 0 ≤ z
    · have HQ3 : Hid (q = 52) := by show _ = _; rw [HQ2.out]; rw [if_pos hz0]
      go_wp2_with fail
      go_ret
      exact ⟨by rw [HQ3.out]; rfl, HB4.out⟩
    · have hz1 : decide (0 ≤ z) = false := decide_eq_false hz0
      by_cases hn : 4096 ≤ n
      · have hn1 : (4096 : Int) ≤ (n : Int) := by omega
        have HQ3 : Hid (q = 3) := by show _ = _; rw [HQ2.out, if_neg hz0, if_pos hn]
        go_wp2_with fail
        go_ret
        exact ⟨by rw [HQ3.out]; rfl, HB4.out⟩
      · have hn1 : ¬ (4096 : Int) ≤ (n : Int) := by omega
        have HQ3 : Hid (q = 0) := by show _ = _; rw [HQ2.out, if_neg hz0, if_neg hn]
        go_wp2_with fail
        go_ret
        exact ⟨by rw [HQ3.out]; rfl, HB4.out⟩
  · have HQ2 : Hid (q = e) := by
      rcases HQ.out with ⟨_, h⟩ | ⟨h, _⟩
      · exact h
      · exact absurd h he0
    have HE := Lib.hid he0
    have he1 : (e != 0) = true := by simpa using he0
    clear he0 HQ
    go_wp2_with fail
    go_ret
    exact ⟨by rw [HQ2.out]; rfl, HB3.out⟩

set_option maxHeartbeats 1600000 in
set_option maxRecDepth 20000 in
theorem rMay2_any (ok : Nat → Prop) (v : Value) (L : List Rl) (width : Int) (x : RC) (r : Rl) (w : World) (hr : RdsR ok w v L) (hx : RdC ok w x r) (q : Int) (hq : Fb.mayI L width 2 r = q) :
    Calls Tryz.prog 43 #[v, .int .i64 width, .agg #[.int .i64 2, .int .i64 x.p, .string x.m, .int .i64 x.k, .slice x.a x.n x.c]] w fun e w' => e = .returned (.int .i64 q) ∧ Below w.heap.size w w' := by
  obtain ⟨W2, hW2⟩ : ∃ W2, W2 = (w.alloc (.cells #[.int .i64 2, .int .i64 x.p, .string x.m, .int .i64 x.k, .slice x.a x.n x.c] 64)).alloc (.cells #[.int .i64 x.p, .string x.m, .int .i64 1, .slice none 0 0] 62) := ⟨_, rfl⟩
  have hg : Grn w W2 := by rw [hW2]; exact ((Grn.refl w).alloc _).alloc _
  have HB := Lib.hid hg.below
  have HX := Lib.hid ((hx.of 2).below hg.below)
  have HR := Lib.hid (hr.below hg.below)
  have hsz : w.heap.size + 1 < W2.heap.size := by rw [hW2]; simp
  have hsz0 : w.heap.size < W2.heap.size := by omega
  have HC : Hid (W2.cell? ⟨w.heap.size, 0, none⟩ = some (.int .i64 2) ∧ W2.cell? ⟨w.heap.size + 1, 0, none⟩ = some (.int .i64 x.p) ∧ W2.cell? ⟨w.heap.size + 1, 1, none⟩ = some (.string x.m) ∧ W2.cell? ⟨w.heap.size + 1, 2, none⟩ = some (.int .i64 1) ∧ W2.cell? ⟨w.heap.size + 1, 3, none⟩ = some (.slice none 0 0)) := by
    rw [hW2]; exact ⟨by simp [go_sem], by simp [go_sem], by simp [go_sem], by simp [go_sem], by simp [go_sem]⟩
  have HQ := Lib.hid (may_kind (by omega) (by omega) q hq)
  have HK := Lib.hid (Fb.keyI_is L r.p r.m)
  have HP := Lib.hid hx.p
  have HM := Lib.hid hx.m
  obtain ⟨e, he⟩ : ∃ e, Rp.checkR (Fb.ruleOf 2 r) width = e := ⟨_, rfl⟩
  rw [he] at HQ
  have HCh := Lib.hid (fun W (h : RdC ok W (x.of 2) (Fb.ruleOf 2 r)) => rCheck_any ok (x.of 2) (Fb.ruleOf 2 r) width W h e he)
  unfold RC.v RC.of at HCh
  unfold RC.of at HX
  rw [if_pos rfl] at HX
  simp only [if_pos rfl, if_true] at HCh
  obtain ⟨b2, hb2⟩ : ∃ b2, b2 = w.heap.size + 1 := ⟨_, rfl⟩
  rw [← hb2] at HC hsz
  have HW2 := Lib.hid hW2
  obtain ⟨ad1, cc, hvf, hvc, hcm⟩ := hr.form
  obtain ⟨n, hn⟩ : ∃ n, n = L.length := ⟨_, rfl⟩
  rw [← hn] at hvf hvc
  subst hvf
  have HN := Lib.hid hn
  unfold maxLen at hcm
  clear he hq hx hr hg hW2 hn
  go_enter Tryz.func43, Tryz.ntmps43
  go_upto_region 6 with fail
  rw [← HW2.out]
  rw [← hb2]
  clear HW2 hb2
  obtain ⟨c0, c1, c2, c3, c4⟩ := HC.out
  go_wp2_with fail
  refine (HCh.out _ HX.out).mono ?_
  rintro ee w3 ⟨rfl, hb3⟩
  have HB3 : Hid (Below w.heap.size w w3) := HB.out.trans (hb3.mono HB.out.size)
  have d0 := (hb3.cell (p := ⟨w.heap.size, 0, none⟩) hsz0).trans c0
  have d1 := (hb3.cell (p := ⟨b2, 0, none⟩) hsz).trans c1
  have d2 := (hb3.cell (p := ⟨b2, 1, none⟩) hsz).trans c2
  have d3 := (hb3.cell (p := ⟨b2, 2, none⟩) hsz).trans c3
  have d4 := (hb3.cell (p := ⟨b2, 3, none⟩) hsz).trans c4
  have HR3 := Lib.hid (HR.out.below hb3)
  clear hb3 c0 c1 c2 c3 c4
  by_cases he0 : e = 0
  · subst he0
    have HQ2 : Hid (q = (if 0 ≤ Fb.keyI L r.p r.m then 0 else 60)) := by
      rcases HQ.out with ⟨h, _⟩ | ⟨_, h⟩
      · exact absurd rfl h
      · show _ = _
        simpa using h
    clear HQ
    obtain ⟨z, hz⟩ : ∃ z, Fb.keyI L r.p r.m = z := ⟨_, rfl⟩
    rw [hz] at HK HQ2
    have HF := Lib.hid (at_any ok (.slice ad1 n cc) L { x with k := 1, a := none, n := 0, c := 0 } w3 HR3.out z (by show Fb.IsAt L x.p x.m z; rw [HP.out, HM.out]; exact HK.out))
    skip
    clear hz
    go_wp2_with fail
    refine HF.out.mono ?_
    rintro ee w4 ⟨rfl, hg4⟩
    have HB4 : Hid (Below w.heap.size w w4) := HB3.out.trans (hg4.below.mono HB3.out.size)
    have f0 := (hg4.below.cell (p := ⟨w.heap.size, 0, none⟩) (cell_lt d0)).trans d0
    clear hg4 d0 d1 d2 d3 d4
    by_cases hz0 : 0 ≤ z
    · have HQ3 : Hid (q = 0) := by show _ = _; rw [HQ2.out]; rw [if_pos hz0]
      go_wp2_with fail
      go_ret
      exact ⟨by rw [HQ3.out]; rfl, HB4.out⟩
    · have hz1 : decide (0 ≤ z) = false := decide_eq_false hz0
      have HQ3 : Hid (q = 60) := by show _ = _; rw [HQ2.out, if_neg hz0]
      go_wp2_with fail
      go_ret
      exact ⟨by rw [HQ3.out]; rfl, HB4.out⟩
  · have HQ2 : Hid (q = e) := by
      rcases HQ.out with ⟨_, h⟩ | ⟨h, _⟩
      · exact h
      · exact absurd h he0
    have HE := Lib.hid he0
    have he1 : (e != 0) = true := by simpa using he0
    clear he0 HQ
    go_wp2_with fail
    go_ret
    exact ⟨by rw [HQ2.out]; rfl, HB3.out⟩

set_option maxHeartbeats 1600000 in
set_option maxRecDepth 20000 in
theorem rMay3_any (ok : Nat → Prop) (v : Value) (L : List Rl) (width : Int) (x : RC) (r : Rl) (w : World) (hr : RdsR ok w v L) (hx : RdC ok w x r) (q : Int) (hq : Fb.mayI L width 3 r = q) :
    Calls Tryz.prog 43 #[v, .int .i64 width, .agg #[.int .i64 3, .int .i64 x.p, .string x.m, .int .i64 x.k, .slice x.a x.n x.c]] w fun e w' => e = .returned (.int .i64 q) ∧ Below w.heap.size w w' := by
  obtain ⟨W2, hW2⟩ : ∃ W2, W2 = (w.alloc (.cells #[.int .i64 3, .int .i64 x.p, .string x.m, .int .i64 x.k, .slice x.a x.n x.c] 64)).alloc (.cells #[.int .i64 x.p, .string x.m, .int .i64 x.k, .slice x.a x.n x.c] 62) := ⟨_, rfl⟩
  have hg : Grn w W2 := by rw [hW2]; exact ((Grn.refl w).alloc _).alloc _
  have HB := Lib.hid hg.below
  have HX := Lib.hid ((hx.of 3).below hg.below)
  have HR := Lib.hid (hr.below hg.below)
  have hsz : w.heap.size + 1 < W2.heap.size := by rw [hW2]; simp
  have hsz0 : w.heap.size < W2.heap.size := by omega
  have HC : Hid (W2.cell? ⟨w.heap.size, 0, none⟩ = some (.int .i64 3) ∧ W2.cell? ⟨w.heap.size + 1, 0, none⟩ = some (.int .i64 x.p) ∧ W2.cell? ⟨w.heap.size + 1, 1, none⟩ = some (.string x.m) ∧ W2.cell? ⟨w.heap.size + 1, 2, none⟩ = some (.int .i64 x.k) ∧ W2.cell? ⟨w.heap.size + 1, 3, none⟩ = some (.slice x.a x.n x.c)) := by
    rw [hW2]; exact ⟨by simp [go_sem], by simp [go_sem], by simp [go_sem], by simp [go_sem], by simp [go_sem]⟩
  have HQ := Lib.hid (may_kind (by omega) (by omega) q hq)
  have HK := Lib.hid (Fb.keyI_is L r.p r.m)
  have HP := Lib.hid hx.p
  have HM := Lib.hid hx.m
  obtain ⟨e, he⟩ : ∃ e, Rp.checkR (Fb.ruleOf 3 r) width = e := ⟨_, rfl⟩
  rw [he] at HQ
  have HCh := Lib.hid (fun W (h : RdC ok W (x.of 3) (Fb.ruleOf 3 r)) => rCheck_any ok (x.of 3) (Fb.ruleOf 3 r) width W h e he)
  unfold RC.v RC.of at HCh
  unfold RC.of at HX
  rw [if_neg (by decide)] at HX
  simp only [show ¬ ((3 : Int) = 2) by decide, if_false, if_true] at HCh
  obtain ⟨b2, hb2⟩ : ∃ b2, b2 = w.heap.size + 1 := ⟨_, rfl⟩
  rw [← hb2] at HC hsz
  have HW2 := Lib.hid hW2
  obtain ⟨ad1, cc, hvf, hvc, hcm⟩ := hr.form
  obtain ⟨n, hn⟩ : ∃ n, n = L.length := ⟨_, rfl⟩
  rw [← hn] at hvf hvc
  subst hvf
  have HN := Lib.hid hn
  unfold maxLen at hcm
  clear he hq hx hr hg hW2 hn
  go_enter Tryz.func43, Tryz.ntmps43
  go_upto_region 6 with fail
  rw [← HW2.out]
  rw [← hb2]
  clear HW2 hb2
  obtain ⟨c0, c1, c2, c3, c4⟩ := HC.out
  go_wp2_with fail
  refine (HCh.out _ HX.out).mono ?_
  rintro ee w3 ⟨rfl, hb3⟩
  have HB3 : Hid (Below w.heap.size w w3) := HB.out.trans (hb3.mono HB.out.size)
  have d0 := (hb3.cell (p := ⟨w.heap.size, 0, none⟩) hsz0).trans c0
  have d1 := (hb3.cell (p := ⟨b2, 0, none⟩) hsz).trans c1
  have d2 := (hb3.cell (p := ⟨b2, 1, none⟩) hsz).trans c2
  have d3 := (hb3.cell (p := ⟨b2, 2, none⟩) hsz).trans c3
  have d4 := (hb3.cell (p := ⟨b2, 3, none⟩) hsz).trans c4
  have HR3 := Lib.hid (HR.out.below hb3)
  clear hb3 c0 c1 c2 c3 c4
  by_cases he0 : e = 0
  · subst he0
    have HQ2 : Hid (q = (if 0 ≤ Fb.keyI L r.p r.m then 0 else 60)) := by
      rcases HQ.out with ⟨h, _⟩ | ⟨_, h⟩
      · exact absurd rfl h
      · show _ = _
        simpa using h
    clear HQ
    obtain ⟨z, hz⟩ : ∃ z, Fb.keyI L r.p r.m = z := ⟨_, rfl⟩
    rw [hz] at HK HQ2
    have HF := Lib.hid (at_any ok (.slice ad1 n cc) L x w3 HR3.out z (by skip; rw [HP.out, HM.out]; exact HK.out))
    skip
    clear hz
    go_wp2_with fail
    refine HF.out.mono ?_
    rintro ee w4 ⟨rfl, hg4⟩
    have HB4 : Hid (Below w.heap.size w w4) := HB3.out.trans (hg4.below.mono HB3.out.size)
    have f0 := (hg4.below.cell (p := ⟨w.heap.size, 0, none⟩) (cell_lt d0)).trans d0
    clear hg4 d0 d1 d2 d3 d4
    by_cases hz0 : 0 ≤ z
    · have HQ3 : Hid (q = 0) := by show _ = _; rw [HQ2.out]; rw [if_pos hz0]
      go_wp2_with fail
      go_ret
      exact ⟨by rw [HQ3.out]; rfl, HB4.out⟩
    · have hz1 : decide (0 ≤ z) = false := decide_eq_false hz0
      have HQ3 : Hid (q = 60) := by show _ = _; rw [HQ2.out, if_neg hz0]
      go_wp2_with fail
      go_ret
      exact ⟨by rw [HQ3.out]; rfl, HB4.out⟩
  · have HQ2 : Hid (q = e) := by
      rcases HQ.out with ⟨_, h⟩ | ⟨h, _⟩
      · exact h
      · exact absurd h he0
    have HE := Lib.hid he0
    have he1 : (e != 0) = true := by simpa using he0
    clear he0 HQ
    go_wp2_with fail
    go_ret
    exact ⟨by rw [HQ2.out]; rfl, HB3.out⟩

set_option maxHeartbeats 1600000 in
set_option maxRecDepth 20000 in
theorem rMayO_any (kind : Int) (h : kind < 1 ∨ kind > 3) (v : Value) (width : Int) (x : RC) (w : World) :
    Calls Tryz.prog 43 #[v, .int .i64 width, .agg #[.int .i64 kind, .int .i64 x.p, .string x.m, .int .i64 x.k, .slice x.a x.n x.c]] w fun e w' => e = .returned (.int .i64 61) ∧ Below w.heap.size w w' := by
  have HB : Hid (Below w.heap.size w (w.alloc (.cells #[.int .i64 kind, .int .i64 x.p, .string x.m, .int .i64 x.k, .slice x.a x.n x.c] 64))) := ((Grn.refl w).alloc _).below
  rcases h with h | h
  all_goals
    go_enter Tryz.func43, Tryz.ntmps43
    go_wp2_with fail
    all_goals (go_ret; exact ⟨rfl, HB.out⟩)

/-- What the reference's May tells, at every change. -/
theorem rMay_any (ok : Nat → Prop) (v : Value) (L : List Rl) (width kind : Int) (x : RC) (r : Rl) (w : World) (hr : RdsR ok w v L) (hx : RdC ok w x r) (q : Int) (hq : Fb.mayI L width kind r = q) :
    Calls Tryz.prog 43 #[v, .int .i64 width, .agg #[.int .i64 kind, .int .i64 x.p, .string x.m, .int .i64 x.k, .slice x.a x.n x.c]] w fun e w' => e = .returned (.int .i64 q) ∧ Below w.heap.size w w' := by
  by_cases h : kind < 1 ∨ kind > 3
  · have : q = 61 := by rw [← hq]; unfold Fb.mayI; rw [if_pos h]
    subst this
    exact rMayO_any kind h _ width x w
  · have : kind = 1 ∨ kind = 2 ∨ kind = 3 := by omega
    rcases this with rfl | rfl | rfl
    · exact rMay1_any ok v L width x r w hr hx q hq
    · exact rMay2_any ok v L width x r w hr hx q hq
    · exact rMay3_any ok v L width x r w hr hx q hq
end Go.Proofs.YtlbelkjgaeaaeaaGreat
/-
  Walks: the reference's Copy of a rule.
-/
namespace Go.Proofs.YtlbelkjgaeaaeaaGreat
open Go.RowKit Go.Shelf Go.Lib Go.Sort
set_option linter.unusedVariables false
set_option linter.unusedSectionVars false
set_option linter.unusedSimpArgs false

theorem res_copy (w : World) (b : Nat) (tmps : Array Value) (p k : Int) (m : ByteArray) (a : Option Addr) (n c : Nat) (h2 : tmps.getD 2 undef = .pointer (some ⟨b, 0, none⟩)) (h0 : w.cell? ⟨b, 0, none⟩ = some (.int .i64 p)) (h1 : w.cell? ⟨b, 1, none⟩ = some (.string m)) (h3 : w.cell? ⟨b, 2, none⟩ = some (.int .i64 k)) (h5 : w.cell? ⟨b, 3, none⟩ = some (.slice a n c)) :
    (results Tryz.f54 tmps).run Tryz.prog w = .ok (.agg #[.int .i64 p, .string m, .int .i64 k, .slice a n c]) w := by
  rw [Array.getD_eq_getD_getElem?] at h2
  simp [results, h2, loadVar, asAddr, go_sem, Tryz.isAgg62, Tryz.sizeOf62, h0, h1, h3, h5]

set_option maxHeartbeats 1600000 in
set_option maxRecDepth 20000 in
theorem rCopy_any (ok : Nat → Prop) (x : RC) (r : Rl) (w : World) (hx : RdC ok w x r) :
    Calls Tryz.prog 54 #[.agg #[.int .i64 x.p, .string x.m, .int .i64 x.k, .slice x.a x.n x.c]] w fun e w' => ∃ y : RC, e = .returned (.agg #[.int .i64 y.p, .string y.m, .int .i64 y.k, .slice y.a y.n y.c]) ∧ RdC (fun b => w.heap.size ≤ b) w' y r ∧ Below w.heap.size w w' := by
  obtain ⟨i0, hi, hz0, hz1, hz2⟩ := info_parts infoS
  obtain ⟨W0, hW0⟩ : ∃ W0, W0 = (w.alloc (.cells #[.int .i64 x.p, .string x.m, .int .i64 x.k, .slice x.a x.n x.c] 62)).alloc (.cells #[.int .i64 0, .string ⟨#[]⟩, .int .i64 0, .slice none 0 0] 62) := ⟨_, rfl⟩
  obtain ⟨W1, hW1⟩ : ∃ W1, W1 = W0.alloc (.cells #[] 9) := ⟨_, rfl⟩
  have hg : Grn w W1 := by rw [hW1, hW0]; exact (((Grn.refl w).alloc _).alloc _).alloc _
  have hs0 : W0.heap.size = w.heap.size + 2 := by rw [hW0]; simp
  have hsz : W1.heap.size = w.heap.size + 3 := by rw [hW1]; simp [hs0]
  have h0 : W1.heap[w.heap.size]? = some (.cells #[.int .i64 x.p, .string x.m, .int .i64 x.k, .slice x.a x.n x.c] 62 (0, 0)) := by
    rw [hW1, hW0]; simp only [al_heap, Array.getElem?_push, Array.size_push]; simp <;> omega
  have h1 : W1.heap[w.heap.size + 1]? = some (.cells #[.int .i64 0, .string ⟨#[]⟩, .int .i64 0, .slice none 0 0] 62 (0, 0)) := by
    rw [hW1, hW0]; simp only [al_heap, Array.getElem?_push, Array.size_push]; simp <;> omega
  have hown : W1.ownsRow (w.heap.size + 2) 9 1 (.slice (some ⟨w.heap.size + 2, 0, none⟩) 0 0) 0 [] := by
    rw [hW1]; exact lit0_rowE hs0.symm (Nat.le_refl _)
  have HOW := Lib.hid hown
  have HR := Lib.hid (hx.s.1.below hg.below)
  have HG := Lib.hid hg.below
  have H0 := Lib.hid h0
  have H1 := Lib.hid h1
  have HX := Lib.hid hx
  have HZ := Lib.hid hx.z.n
  have hxn : x.n = r.ps.length := by
    obtain ⟨ad, len, cap, e, hl, _, _⟩ := rdsS_form hx.s.1
    injection e with _ e2 _
    rw [e2, hl]
  have HN := Lib.hid hxn
  rw [hW0] at hW1
  have HSz := Lib.hid hsz
  have HW1 := Lib.hid hW1
  have a3 : W1.cell? ⟨w.heap.size, 2 + 1, none⟩ = some (.slice x.a x.n x.c) := by simp [World.cell?, h0]
  clear hown hg h0 h1 hx hxn hW0 hW1 hs0 hsz
  go_enter Tryz.func54, Tryz.ntmps54
  go_upto_region 1 with fail
  obtain ⟨nn, hnn⟩ : ∃ nn, nn = r.ps.length := ⟨_, rfl⟩
  have HNN := Lib.hid hnn
  clear hnn
  go_wp2_with (at_builtin; rw [← HW1.out]; go_loud (refine wpList_append_rds rfl (.tmp 3) (.tmp 6) _ rfl (w.heap.size + 2) 9 i0 _ 16 Tryz.underlying58 hi hz0 hz1 hz2 rfl (.slice (some ⟨w.heap.size + 2, 0, none⟩) 0 0) 0 [] rfl HOW.out _ (r.ps.map Value.string) rfl HR.out str_one nn (by rw [List.length_map, HNN.out]; omega) (by have := HZ.out; have := HNN.out; unfold maxLen; omega) (by have := HZ.out; have := HNN.out; omega) (by rw [HSz.out]; omega) ?_); intro ad2 cap2 w2 h2 hg; have HO := Lib.hid h2; have HG2 := Lib.hid hg; have b0 := (hg.block w.heap.size (by rw [HSz.out]; omega) (by simp [Value.ownBlock])).trans H0.out; have b1 := (hg.block (w.heap.size + 1) (by rw [HSz.out]; omega) (by simp [Value.ownBlock])).trans H1.out; have z0 : w2.cell? ⟨w.heap.size, 0, none⟩ = some (.int .i64 x.p) := (by simp [World.cell?, b0]); have z1 : w2.cell? ⟨w.heap.size, 1, none⟩ = some (.string x.m) := (by simp [World.cell?, b0]); have z2 : w2.cell? ⟨w.heap.size, 2, none⟩ = some (.int .i64 x.k) := (by simp [World.cell?, b0]); have z3 : w2.cell? ⟨w.heap.size, 3, none⟩ = some (.slice x.a x.n x.c) := (by simp [World.cell?, b0]); have f3 : w2.frozen? ⟨w.heap.size, 3, none⟩ = false := (by simp [World.frozen?, b0]); have r0 : w2.cell? ⟨w.heap.size + 1, 0, none⟩ = some (.int .i64 0) := (by simp [World.cell?, b1]); have r1 : w2.cell? ⟨w.heap.size + 1, 1, none⟩ = some (.string ⟨#[]⟩) := (by simp [World.cell?, b1]); have r2 : w2.cell? ⟨w.heap.size + 1, 2, none⟩ = some (.int .i64 0) := (by simp [World.cell?, b1]); have r3 : w2.cell? ⟨w.heap.size + 1, 3, none⟩ = some (.slice none 0 0) := (by simp [World.cell?, b1]); have rf0 : w2.frozen? ⟨w.heap.size + 1, 0, none⟩ = false := (by simp [World.frozen?, b1]); have rf1 : w2.frozen? ⟨w.heap.size + 1, 1, none⟩ = false := (by simp [World.frozen?, b1]); have rf2 : w2.frozen? ⟨w.heap.size + 1, 2, none⟩ = false := (by simp [World.frozen?, b1]); have rf3 : w2.frozen? ⟨w.heap.size + 1, 3, none⟩ = false := (by simp [World.frozen?, b1]); clear h2 hg b0 b1)
  refine bodyPost_ret (res_copy _ (w.heap.size + 1) _ x.p x.k x.m ad2 nn cap2 rfl ?_ ?_ ?_ ?_) rfl ?_
  · simp [go_sem, r0]
  · simp [go_sem, r1]
  · simp [go_sem, r2]
  · simp [go_sem, r3]
  have hb2 : Below w.heap.size w w2 := HG.out.grown HG2.out (by rw [HSz.out]; omega) (fun k hk => by have e := Option.some.inj (show some (w.heap.size + 2) = some k from hk); omega)
  have hset : ∀ (W : World) (g o : Nat) (c : Value), w.heap.size ≤ g → Below w.heap.size w W → Below w.heap.size w (W.setCell ⟨g, o, none⟩ c) := fun W g o c hg hb => hb.setCell hg c
  have hrow := ownsRow_rds HO.out
  rw [List.nil_append] at hrow
  have hblk : ∀ a' n' c', Value.slice ad2 nn cap2 = .slice (some a') n' c' → w.heap.size + 2 ≤ a'.block := fun a' n' c' hv => by
    injection hv with e1 _ _
    exact (HO.out.lt a'.block (by rw [e1]; rfl)).1
  have hro : RdsO (fun b => w.heap.size + 2 ≤ b) w2 (.slice ad2 nn cap2) r.ps := ⟨hrow, fun a' n' c' hv _ => hblk a' n' c' hv⟩
  have hbut : ∀ (W : World) (g o : Nat) (c : Value), g < w.heap.size + 2 → But (fun b => b < w.heap.size + 2) W (W.setCell ⟨g, o, none⟩ c) := fun W g o c hg => But.set (S := fun b => b < w.heap.size + 2) (a := ⟨g, o, none⟩) hg c
  refine ⟨⟨x.p, x.m, x.k, ad2, nn, cap2⟩, rfl, ⟨HX.out.p, HX.out.m, HX.out.k, ?_, HX.out.z⟩, ?_⟩
  · refine (RdsO.but hro (S := fun b => b < w.heap.size + 2) ?_ (fun b hb h => by omega)).mono fun b hb => by omega
    exact ((((hbut _ _ _ _ (by omega)).trans (hbut _ _ _ _ (by omega))).trans (hbut _ _ _ _ (by omega))).trans (hbut _ _ _ _ (by omega))).trans (hbut _ _ _ _ (by omega))
  · exact hset _ _ _ _ (by omega) (hset _ _ _ _ (by omega) (hset _ _ _ _ (by omega) (hset _ _ _ _ (by omega) (hset _ _ _ _ (by omega) hb2))))
end Go.Proofs.YtlbelkjgaeaaeaaGreat
/-
  Walks: the reference's After: rules behind a change that may be.
-/
namespace Go.Proofs.YtlbelkjgaeaaeaaGreat
open Go.RowKit Go.Shelf Go.Lib Go.Sort
set_option linter.unusedVariables false
set_option linter.unusedSectionVars false
set_option linter.unusedSimpArgs false

/-- Blocks that a test allows, but for the row itself. -/
def okP (P : Nat → Prop) (v : Value) : Nat → Prop := fun b => P b ∧ v.ownBlock ≠ some b

/-- append of one rule, told by its cells, onto a row of the call's own whose ports lie in blocks that are allowed. -/
theorem wp_app_oneP {w : World} {o : Oper} {a : Act} {K : Act → World → Prop} {Q : Exit → Act → World → Prop} (P : Nat → Prop) (s x : Operand)
    (ho : o.op = .call { callee := .builtin .append, args := #[s, x], argTypes := #[44, 44] })
    (base : Nat) (v : Value) (xs : List RC) (L : List Rl) (hs : a.eval s = v) (h1 : OwnR (okP P v) w base v xs L)
    (g0 c : Nat) (y : RC) (r : Rl) (hx : a.eval x = .slice (some ⟨g0, 0, none⟩) 1 c) (hyc : w.heap[g0]? = some (.cells #[.int .i64 y.p, .string y.m, .int .i64 y.k, .slice y.a y.n y.c] 62 (0, 0)))
    (hyr : RdC (okP P v) w y r) (tot : Nat) (htot : L.length + 1 = tot) (hbytes : tot * 56 ≤ 140737488355328) (hbase : base ≤ w.heap.size)
    (h : ∀ ad cap w', OwnR (okP P (.slice ad tot cap)) w' base (.slice ad tot cap) (xs ++ [y]) (L ++ [r]) → w.grownBy w' v.ownBlock → K (a.put o.dst (.slice ad tot cap)) w') : o.wp Tryz.prog a w K Q := by
  subst htot
  obtain ⟨i0, hi, hz0, hz1, hz2⟩ := info_parts infoR
  refine wp_append_lies w s x 44 ho base 62 i0 _ 4 56 Tryz.underlying44 hi hz0 hz1 hz2 rfl (by decide) v L.length (cellsR xs) hs h1.row ⟨g0, 0, none⟩ 1 c (cellsR [y]) hx rfl (one_cells hyc _ rfl) (cellsR_one _)
    (by omega) (by unfold maxLen; omega) hbytes hbase w.heap.size rfl fun g cap w' hown hg hgg hlt => h _ cap w' ?_ hg
  have hbut : But (fun b => v.ownBlock = some b) w w' := ⟨hg.os, hg.tape, hg.output, hg.size, fun k hk hn => hg.block k hk (fun e => hn e.symm)⟩
  have key : ∀ {y' : RC} {r' : Rl}, RdC (okP P v) w y' r' → RdC (okP P (.slice (some ⟨g, 0, none⟩) (L.length + 1) cap)) w' y' r' := fun hy => by
    refine (hy.lt.but hbut (fun b hb e => hb.1.2 e)).mono (fun b hb => ⟨hb.1.1, fun e => ?_⟩)
    have e2 : g = b := Option.some.inj e
    rcases hgg with h3 | h3
    · exact hb.1.2 (by rw [h3, e2])
    · have := hb.2; omega
  refine ⟨?_, ?_, ?_⟩
  · rw [cellsR_append, List.length_append]; exact hown
  · rw [List.length_append, List.length_append, h1.len]; rfl
  · intro i h3 h4
    by_cases hlt2 : i < xs.length
    · rw [List.getElem_append_left hlt2, List.getElem_append_left (by rw [← h1.len]; exact hlt2)]
      exact key (h1.rd i hlt2 (by rw [← h1.len]; exact hlt2))
    · have e1 : i = xs.length := by simp at h3; omega
      subst e1
      have e2 : (xs ++ [y])[xs.length]'h3 = y := by simp
      have e3 : (L ++ [r])[xs.length]'h4 = r := by simp only [h1.len]; simp
      rw [e2, e3]
      exact key hyr

theorem OwnR.okRds {P : Nat → Prop} {w : World} {base : Nat} {v : Value} {xs : List RC} {L : List Rl} (h : OwnR (okP P v) w base v xs L) (hb : ∀ b, base ≤ b → P b) : RdsR P w v L :=
  (h.mono (ok' := P) fun b hb => hb.1).toRds hb

/-! ### without one -/
theorem erase_step (L : List Rl) (z i : Nat) (hi : i < L.length) (h : i ≠ z) : (L.take (i + 1)).eraseIdx z = (L.take i).eraseIdx z ++ [L[i]] := by
  have hl : (L.take i).length = i := by rw [List.length_take]; omega
  rw [List.take_succ_eq_append_getElem hi]
  rcases Nat.lt_or_ge z i with h1 | h1
  · rw [List.eraseIdx_append_of_lt_length (by omega)]
  · rw [List.eraseIdx_append_of_length_le (by omega), hl, List.eraseIdx_of_length_le (l := L.take i) (by omega), List.eraseIdx_of_length_le (l := [L[i]]) (by simp; omega)]
theorem erase_skip (L : List Rl) (z : Nat) (hi : z < L.length) : (L.take (z + 1)).eraseIdx z = (L.take z).eraseIdx z := by
  have hl : (L.take z).length = z := by rw [List.length_take]; omega
  rw [List.take_succ_eq_append_getElem hi, List.eraseIdx_append_of_length_le (by omega), hl, List.eraseIdx_of_length_le (l := L.take z) (by omega), Nat.sub_self]
  simp
theorem set_step (L : List Rl) (z i : Nat) (r : Rl) (hi : i < L.length) : (L.set z r).take (i + 1) = (L.set z r).take i ++ [if i = z then r else L[i]] := by
  rw [List.take_succ_eq_append_getElem (by rw [List.length_set]; exact hi), List.getElem_set]
  by_cases h : z = i
  · subst h; simp
  · rw [if_neg h, if_neg (fun e => h e.symm)]

theorem run_field_action (p k : Int) (m : ByteArray) (a : Option Addr) (n c : Nat) (w : World) : (Instr.field 62 (.agg #[.int .i64 p, .string m, .int .i64 k, .slice a n c]) 2).run Tryz.prog w = .ok (.agg #[.int .i64 k, .slice a n c]) w := by kernel_rfl

set_option maxHeartbeats 1600000 in
set_option maxRecDepth 20000 in
theorem rAfter2_any (ok ok2 : Nat → Prop) (v : Value) (L : List Rl) (x : RC) (r : Rl) (w : World) (hr : RdsR ok w v L) (hx : RdC ok2 w x r) (hL : L.length ≤ 4096) (hk : 0 ≤ Fb.keyI L r.p r.m) :
    Calls Tryz.prog 44 #[v, .agg #[.int .i64 2, .int .i64 x.p, .string x.m, .int .i64 x.k, .slice x.a x.n x.c]] w fun e w' => ∃ ad n c, e = .returned (.slice ad n c) ∧ RdsR (fun b => ok b ∨ w.heap.size ≤ b) w' (.slice ad n c) (Fb.aft L 2 r) ∧ Below w.heap.size w w' := by
  obtain ⟨z, hz⟩ : ∃ z, Fb.keyI L r.p r.m = z := ⟨_, rfl⟩
  have HZ := Lib.hid hz
  have HIs := Fb.keyI_is L r.p r.m
  rw [hz] at HIs hk
  have hxp := hx.p
  have hxm := hx.m
  rw [← hxp, ← hxm] at HIs
  obtain ⟨W1, hW1⟩ : ∃ W1, W1 = w.alloc (.cells #[.int .i64 2, .int .i64 x.p, .string x.m, .int .i64 x.k, .slice x.a x.n x.c] 64) := ⟨_, rfl⟩
  have hg1 : Grn w W1 := by rw [hW1]; exact (Grn.refl w).alloc _
  have hs1 : W1.heap.size = w.heap.size + 1 := by rw [hW1]; simp
  have hh1 : W1.heap[w.heap.size]? = some (.cells #[.int .i64 2, .int .i64 x.p, .string x.m, .int .i64 x.k, .slice x.a x.n x.c] 64 (0, 0)) := by rw [hW1]; exact heap_alloc_new _ _
  have hr1 := hr.lt.below hg1.below
  have HAt := Lib.hid (at_any _ v L x W1 hr1 z HIs)
  obtain ⟨i0, hi0, hzi⟩ : ∃ i, ∃ h : i < L.length, z = (i : Int) := by
    rcases HIs.is with ⟨h1, _⟩ | ⟨i, h1, h2, _⟩
    · omega
    · exact ⟨i, h1, h2⟩
  subst hzi
  have HR1 := Lib.hid hr1
  have HH1 := Lib.hid hh1
  have HG1 := Lib.hid hg1
  obtain ⟨n, hn⟩ : ∃ n, n = L.length := ⟨_, rfl⟩
  have HN := Lib.hid hn
  rw [← hn] at hL hi0
  obtain ⟨adv, capv, rfl, hvc, hvm⟩ := hr.form
  rw [← hn] at HR1 hvc HAt ⊢
  unfold maxLen at hvm
  have c0 : W1.cell? ⟨w.heap.size, 0, none⟩ = some (.int .i64 2) := by simp [World.cell?, hh1]
  have c1 : W1.cell? ⟨w.heap.size, 1, none⟩ = some (.int .i64 x.p) := by simp [World.cell?, hh1]
  have c2 : W1.cell? ⟨w.heap.size, 2, none⟩ = some (.string x.m) := by simp [World.cell?, hh1]
  have c3 : W1.cell? ⟨w.heap.size, 3, none⟩ = some (.int .i64 x.k) := by simp [World.cell?, hh1]
  have c4 : W1.cell? ⟨w.heap.size, 4, none⟩ = some (.slice x.a x.n x.c) := by simp [World.cell?, hh1]
  have HS1 := Lib.hid hs1
  have HW1 := Lib.hid hW1
  have HKz := Lib.hid hk
  clear hr hx hn hz hg1 hh1 hr1 HIs hs1 hxp hxm hW1
  go_enter Tryz.func44, Tryz.ntmps44
  go_upto_region 1 with fail
  rw [← HW1.out]
  clear HW1
  go_wp2_with fail
  refine HAt.out.mono ?_
  rintro e W2 ⟨rfl, hg2⟩
  have d0 := (hg2.below.cell (p := ⟨w.heap.size, 0, none⟩) (cell_lt c0)).trans c0
  have HD0 := Lib.hid d0
  have HR2 := Lib.hid (HR1.out.below hg2.below)
  have HG2 := Lib.hid hg2
  have hs2 : w.heap.size < W2.heap.size := by have := hg2.below.size; have := HS1.out; omega
  clear hg2 c0 c1 c2 c3 c4 HAt
  go_wp2_with fail
  go_loopw [5, 7] (fun s5 s7 wr => ∃ (i m : Nat) (ad : Option Addr) (c : Nat) (xs : List RC), s7 = .int .i64 i ∧ s5 = .slice ad m c ∧ i ≤ n ∧ Hid (m = ((L.take i).eraseIdx i0).length) ∧ Hid (m ≤ i) ∧
    Hid (OwnR (okP (fun b => (ok b ∧ b < w.heap.size) ∨ w.heap.size ≤ b) (.slice ad m c)) wr W2.heap.size (.slice ad m c) xs ((L.take i).eraseIdx i0)) ∧ Hid (Below W2.heap.size W2 wr)) (fun _ s7 _ => n - (intOf s7).toNat)
  case atStart => exact ⟨0, 0, none, 0, [], rfl, rfl, Nat.zero_le _, by show _ = _; simp, by show _ ≤ _; omega, by show OwnR _ _ _ _ _ _; simp only [List.take_zero, List.eraseIdx_nil]; exact ownR_nil _ _ _, Below.refl _ _⟩
  case round =>
    obtain ⟨wo, rfl⟩ : ∃ wo : World, wo = wr := ⟨wr, rfl⟩
    obtain ⟨i, m, ad, c, xs, rfl, rfl, hin, HM, HMi, HO, HB⟩ := hrel
    by_cases hlt : i < n
    · have hiL : i < L.length := by rw [← HN.out]; exact hlt
      obtain ⟨b, off, u, rfl, hb, _, x0, x1, x2, x3, hu⟩ := HR2.out.get i hiL
      have X0 := (HB.out.cell (p := ⟨b, off + i * 4, none⟩) hb).trans x0
      have X1 := (HB.out.cell (p := ⟨b, off + i * 4 + 1, none⟩) hb).trans x1
      have X2 := (HB.out.cell (p := ⟨b, off + i * 4 + 2, none⟩) hb).trans x2
      have X3 := (HB.out.cell (p := ⟨b, off + i * 4 + 3, none⟩) hb).trans x3
      have D0 := (HB.out.cell (p := ⟨w.heap.size, 0, none⟩) hs2).trans HD0.out
      obtain ⟨W3, hW3⟩ : ∃ W3, W3 = wo.alloc (.cells #[.int .i64 u.p, .string u.m, .int .i64 u.k, .slice u.a u.n u.c] 62) := ⟨_, rfl⟩
      have hb3 : Below wo.heap.size wo W3 := by rw [hW3]; exact (Below.refl _ _).alloc (Nat.le_refl _) _
      have hs3 : W3.heap.size = wo.heap.size + 1 := by rw [hW3]; simp
      have hh3 : W3.heap[wo.heap.size]? = some (.cells #[.int .i64 u.p, .string u.m, .int .i64 u.k, .slice u.a u.n u.c] 62 (0, 0)) := by rw [hW3]; exact heap_alloc_new _ _
      have D3 := (hb3.cell (p := ⟨w.heap.size, 0, none⟩) (cell_lt D0)).trans D0
      have q0 : W3.cell? ⟨wo.heap.size, 0, none⟩ = some (.int .i64 u.p) := by simp [World.cell?, hh3]
      have q1 : W3.cell? ⟨wo.heap.size, 1, none⟩ = some (.string u.m) := by simp [World.cell?, hh3]
      have q2 : W3.cell? ⟨wo.heap.size, 2, none⟩ = some (.int .i64 u.k) := by simp [World.cell?, hh3]
      have q3 : W3.cell? ⟨wo.heap.size, 3, none⟩ = some (.slice u.a u.n u.c) := by simp [World.cell?, hh3]
      have hB4 : Below wo.heap.size wo (W3.alloc (.cells #[.int .i64 u.p, .string u.m, .int .i64 u.k, .slice u.a u.n u.c] 62)) := hb3.alloc hb3.size _
      have HOw := Lib.hid (HO.out.below hB4)
      have HB4 := Lib.hid hB4
      have hBsz := HB.out.size
      have HYr : Hid (RdC (okP (fun b => (ok b ∧ b < w.heap.size) ∨ w.heap.size ≤ b) (.slice ad m c)) (W3.alloc (.cells #[.int .i64 u.p, .string u.m, .int .i64 u.k, .slice u.a u.n u.c] 62)) u L[i]) := by
        refine ((hu.below HB.out).below (hB4.mono (by omega))).mono fun b hb => ⟨.inl hb, fun e => ?_⟩
        have := (HO.out.row.lt b e).1
        have := hb.2
        omega
      have HS3 := Lib.hid hs3
      have HW3 := Lib.hid hW3
      have HB3 := Lib.hid hb3
      clear x0 x1 x2 x3 hu hW3 hb3 hh3 hB4 hs3
      go_upto_region 10 with fail
      rw [← HW3.out]
      clear HW3 X0 X1 X2 X3 D0
      by_cases hii : i = i0
      · subst hii
        have HE := Lib.hid (erase_skip L i hiL)
        have e1 : (((i : Nat) : Int) == (i : Int)) = true := by simp
        go_wp2_with fail
        go_roundw
        case rel => exact ⟨i + 1, m, ad, c, xs, by first | rfl | go_num, rfl, by omega, by show _ = _; rw [HE.out]; exact HM.out, by show _ ≤ _; have := HMi.out; omega, by show OwnR _ _ _ _ _ _; rw [HE.out]; exact HO.out.below HB3.out, HB.out.trans (HB3.out.mono hBsz)⟩
        case measure => simp [intOf]; omega
      · have HE := Lib.hid (erase_step L i0 i hiL hii)
        have e1 : (((i : Nat) : Int) == (i0 : Int)) = false := by simp; omega
        have HOl : Hid (((L.take i).eraseIdx i0).length = m) := HM.out.symm
        have HMi' := HMi.out
        go_wp2_with (at_builtin; go_loud (refine wpList_plain rfl (fun _ hK => wp_app_oneP (fun b => (ok b ∧ b < w.heap.size) ∨ w.heap.size ≤ b) (.tmp 52) (.tmp 54) rfl W2.heap.size _ xs _ (by rfl) HOw.out W3.heap.size 1 u L[i] (by rfl) (heap_alloc_new _ _) HYr.out (m + 1) (by rw [HOl.out]) (by omega) (by have := HB4.out.size; omega) (fun ad4 c4 w4 ho4 hg4 => hK _ _ ?_))); have HO4 := Lib.hid ho4; have HG4 := Lib.hid hg4; clear ho4 hg4)
        have HBw4 : Hid (Below W2.heap.size W2 w4) := (HB.out.trans (HB4.out.mono hBsz)).grown HG4.out (by have := HB4.out.size; omega) (fun k hk => by have := (HO.out.row.lt k hk).1; omega)
        rw [← HE.out] at HO4
        go_roundw
        case rel => exact ⟨i + 1, m + 1, ad4, c4, _, by first | rfl | go_num, rfl, by omega, by show _ = _; rw [HE.out, List.length_append, ← HM.out]; rfl, by show _ ≤ _; omega, HO4, HBw4⟩
        case measure => simp [intOf]; omega
    · have hin' : i = n := by omega
      have HF : Hid ((L.take i).eraseIdx i0 = Fb.aft L 2 r) := by
        show _ = _
        rw [hin', HN.out, List.take_length]
        unfold Fb.aft
        rw [if_neg (by decide), if_pos rfl, HZ.out, Int.toNat_natCast, List.eraseIdx_eq_take_drop_succ]
      subst hin'
      go_wp2_with fail
      go_ret
      refine ⟨ad, m, c, rfl, ?_, HG1.out.below.trans ((HG2.out.below.trans (HB.out.mono (HG2.out.below.size))).mono (HG1.out.below.size))⟩
      have := HO.out.okRds (fun b hb => .inr (by have := HG1.out.below.size; have := HG2.out.below.size; omega))
      rw [HF.out] at this
      exact this.mono fun b hb => hb.imp (fun h => h.1) id
set_option maxHeartbeats 1600000 in
set_option maxRecDepth 20000 in
theorem rAfter3_any (ok ok2 : Nat → Prop) (v : Value) (L : List Rl) (x : RC) (r : Rl) (w : World) (hr : RdsR ok w v L) (hx : RdC ok2 w x r) (hL : L.length ≤ 4096) (hk : 0 ≤ Fb.keyI L r.p r.m) :
    Calls Tryz.prog 44 #[v, .agg #[.int .i64 3, .int .i64 x.p, .string x.m, .int .i64 x.k, .slice x.a x.n x.c]] w fun e w' => ∃ ad n c, e = .returned (.slice ad n c) ∧ RdsR (fun b => ok b ∨ w.heap.size ≤ b) w' (.slice ad n c) (Fb.aft L 3 r) ∧ Below w.heap.size w w' := by
  obtain ⟨z, hz⟩ : ∃ z, Fb.keyI L r.p r.m = z := ⟨_, rfl⟩
  have HZ := Lib.hid hz
  have HIs := Fb.keyI_is L r.p r.m
  rw [hz] at HIs hk
  have hxp := hx.p
  have hxm := hx.m
  rw [← hxp, ← hxm] at HIs
  obtain ⟨W1, hW1⟩ : ∃ W1, W1 = w.alloc (.cells #[.int .i64 3, .int .i64 x.p, .string x.m, .int .i64 x.k, .slice x.a x.n x.c] 64) := ⟨_, rfl⟩
  have hg1 : Grn w W1 := by rw [hW1]; exact (Grn.refl w).alloc _
  have hs1 : W1.heap.size = w.heap.size + 1 := by rw [hW1]; simp
  have hh1 : W1.heap[w.heap.size]? = some (.cells #[.int .i64 3, .int .i64 x.p, .string x.m, .int .i64 x.k, .slice x.a x.n x.c] 64 (0, 0)) := by rw [hW1]; exact heap_alloc_new _ _
  have hr1 := hr.lt.below hg1.below
  have HAt := Lib.hid (at_any _ v L x W1 hr1 z HIs)
  obtain ⟨i0, hi0, hzi⟩ : ∃ i, ∃ h : i < L.length, z = (i : Int) := by
    rcases HIs.is with ⟨h1, _⟩ | ⟨i, h1, h2, _⟩
    · omega
    · exact ⟨i, h1, h2⟩
  subst hzi
  have HR1 := Lib.hid hr1
  have HH1 := Lib.hid hh1
  have HG1 := Lib.hid hg1
  obtain ⟨n, hn⟩ : ∃ n, n = L.length := ⟨_, rfl⟩
  have HN := Lib.hid hn
  rw [← hn] at hL hi0
  obtain ⟨adv, capv, rfl, hvc, hvm⟩ := hr.form
  rw [← hn] at HR1 hvc HAt ⊢
  unfold maxLen at hvm
  have c0 : W1.cell? ⟨w.heap.size, 0, none⟩ = some (.int .i64 3) := by simp [World.cell?, hh1]
  have c1 : W1.cell? ⟨w.heap.size, 1, none⟩ = some (.int .i64 x.p) := by simp [World.cell?, hh1]
  have c2 : W1.cell? ⟨w.heap.size, 2, none⟩ = some (.string x.m) := by simp [World.cell?, hh1]
  have c3 : W1.cell? ⟨w.heap.size, 3, none⟩ = some (.int .i64 x.k) := by simp [World.cell?, hh1]
  have c4 : W1.cell? ⟨w.heap.size, 4, none⟩ = some (.slice x.a x.n x.c) := by simp [World.cell?, hh1]
  have HS1 := Lib.hid hs1
  have HW1 := Lib.hid hW1
  have HKz := Lib.hid hk
  have HX := Lib.hid (hx.below hg1.below)
  have HKey : Hid (∀ h : i0 < L.length, L[i0].p = x.p ∧ L[i0].m = x.m) := fun h => by
    rcases HIs.is with ⟨h1, _⟩ | ⟨j, h1, h2, h3, _⟩
    · omega
    · have : i0 = j := by omega
      subst this
      exact Fb.keyB_true.1 h3
  clear hr hx hn hz hg1 hh1 hr1 HIs hs1 hxp hxm hW1
  go_enter Tryz.func44, Tryz.ntmps44
  go_upto_region 1 with fail
  rw [← HW1.out]
  clear HW1
  go_wp2_with fail
  refine HAt.out.mono ?_
  rintro e W2 ⟨rfl, hg2⟩
  have d0 := (hg2.below.cell (p := ⟨w.heap.size, 0, none⟩) (cell_lt c0)).trans c0
  have HD0 := Lib.hid d0
  have HHd := Lib.hid ((hg2.below.block _ (by have := HS1.out; omega)).trans HH1.out)
  have HR2 := Lib.hid (HR1.out.below hg2.below)
  have HG2 := Lib.hid hg2
  have hs2 : w.heap.size < W2.heap.size := by have := hg2.below.size; have := HS1.out; omega
  clear hg2 c0 c1 c2 c3 c4 HAt
  go_wp2_with fail
  go_loopw [5, 7] (fun s5 s7 wr => ∃ (i m : Nat) (ad : Option Addr) (c : Nat) (xs : List RC), s7 = .int .i64 i ∧ s5 = .slice ad m c ∧ i ≤ n ∧ Hid (m = ((L.set i0 r).take i).length) ∧ Hid (m ≤ i) ∧
    Hid (OwnR (okP (fun b => (ok b ∧ b < w.heap.size) ∨ w.heap.size ≤ b) (.slice ad m c)) wr W2.heap.size (.slice ad m c) xs ((L.set i0 r).take i)) ∧ Hid (Below W2.heap.size W2 wr)) (fun _ s7 _ => n - (intOf s7).toNat)
  case atStart => exact ⟨0, 0, none, 0, [], rfl, rfl, Nat.zero_le _, by show _ = _; simp, by show _ ≤ _; omega, by show OwnR _ _ _ _ _ _; simp only [List.take_zero]; exact ownR_nil _ _ _, Below.refl _ _⟩
  case round =>
    obtain ⟨wo, rfl⟩ : ∃ wo : World, wo = wr := ⟨wr, rfl⟩
    obtain ⟨i, m, ad, c, xs, rfl, rfl, hin, HM, HMi, HO, HB⟩ := hrel
    by_cases hlt : i < n
    · have hiL : i < L.length := by rw [← HN.out]; exact hlt
      obtain ⟨b, off, u, rfl, hb, _, x0, x1, x2, x3, hu⟩ := HR2.out.get i hiL
      have X0 := (HB.out.cell (p := ⟨b, off + i * 4, none⟩) hb).trans x0
      have X1 := (HB.out.cell (p := ⟨b, off + i * 4 + 1, none⟩) hb).trans x1
      have X2 := (HB.out.cell (p := ⟨b, off + i * 4 + 2, none⟩) hb).trans x2
      have X3 := (HB.out.cell (p := ⟨b, off + i * 4 + 3, none⟩) hb).trans x3
      have D0 := (HB.out.cell (p := ⟨w.heap.size, 0, none⟩) hs2).trans HD0.out
      obtain ⟨W3, hW3⟩ : ∃ W3, W3 = wo.alloc (.cells #[.int .i64 u.p, .string u.m, .int .i64 u.k, .slice u.a u.n u.c] 62) := ⟨_, rfl⟩
      have hb3 : Below wo.heap.size wo W3 := by rw [hW3]; exact (Below.refl _ _).alloc (Nat.le_refl _) _
      have hs3 : W3.heap.size = wo.heap.size + 1 := by rw [hW3]; simp
      have hh3 : W3.heap[wo.heap.size]? = some (.cells #[.int .i64 u.p, .string u.m, .int .i64 u.k, .slice u.a u.n u.c] 62 (0, 0)) := by rw [hW3]; exact heap_alloc_new _ _
      have D3 := (hb3.cell (p := ⟨w.heap.size, 0, none⟩) (cell_lt D0)).trans D0
      have q0 : W3.cell? ⟨wo.heap.size, 0, none⟩ = some (.int .i64 u.p) := by simp [World.cell?, hh3]
      have q1 : W3.cell? ⟨wo.heap.size, 1, none⟩ = some (.string u.m) := by simp [World.cell?, hh3]
      have q2 : W3.cell? ⟨wo.heap.size, 2, none⟩ = some (.int .i64 u.k) := by simp [World.cell?, hh3]
      have q3 : W3.cell? ⟨wo.heap.size, 3, none⟩ = some (.slice u.a u.n u.c) := by simp [World.cell?, hh3]
      have hB4 : Below wo.heap.size wo (W3.alloc (.cells #[.int .i64 u.p, .string u.m, .int .i64 u.k, .slice u.a u.n u.c] 62)) := hb3.alloc hb3.size _
      have HOw := Lib.hid (HO.out.below hB4)
      have HB4 := Lib.hid hB4
      have hBsz := HB.out.size
      have HYr : Hid (RdC (okP (fun b => (ok b ∧ b < w.heap.size) ∨ w.heap.size ≤ b) (.slice ad m c)) (W3.alloc (.cells #[.int .i64 u.p, .string u.m, .int .i64 u.k, .slice u.a u.n u.c] 62)) u L[i]) := by
        refine ((hu.below HB.out).below (hB4.mono (by omega))).mono fun b hb => ⟨.inl hb, fun e => ?_⟩
        have := (HO.out.row.lt b e).1
        have := hb.2
        omega
      have HS3 := Lib.hid hs3
      have HU : Hid (u.p = L[i].p ∧ u.m = L[i].m) := ⟨hu.p, hu.m⟩
      have HW3 := Lib.hid hW3
      have HB3 := Lib.hid hb3
      have HH3 := Lib.hid hh3
      clear x0 x1 x2 x3 hu hW3 hb3 hh3 hB4 hs3
      go_upto_region 10 with fail
      rw [← HW3.out]
      clear HW3 X0 X1 X2 X3 D0
      by_cases hii : i = i0
      · subst hii
        have HE := set_step L i i r hiL
        rw [if_pos rfl] at HE
        have HE := Lib.hid HE
        have e1 : (((i : Nat) : Int) == (i : Int)) = true := by simp
        have hxb : Below W1.heap.size W1 W3 := HG2.out.below.trans ((HB.out.trans (HB3.out.mono hBsz)).mono HG2.out.below.size)
        have hh0 := (HB3.out.block _ (by omega)).trans ((HB.out.block _ hs2).trans HHd.out)
        have D1 : W3.cell? ⟨w.heap.size, 1, none⟩ = some (.int .i64 x.p) := by simp [World.cell?, hh0]
        have D2 : W3.cell? ⟨w.heap.size, 2, none⟩ = some (.string x.m) := by simp [World.cell?, hh0]
        have D4 : W3.cell? ⟨w.heap.size, 3, none⟩ = some (.int .i64 x.k) := by simp [World.cell?, hh0]
        have D5 : W3.cell? ⟨w.heap.size, 4, none⟩ = some (.slice x.a x.n x.c) := by simp [World.cell?, hh0]
        have HCp := Lib.hid (rCopy_any ok2 x r W3 (HX.out.below hxb))
        clear hxb hh0
        have hsz3 := HS3.out
        go_wp2_with fail
        refine HCp.out.mono ?_
        rintro e W5 ⟨y, rfl, hy, hb5⟩
        have hs5 := hb5.size
        have hh5 := (hb5.block wo.heap.size (by omega)).trans HH3.out
        have hfd := fun W => run_field_action y.p y.k y.m y.a y.n y.c W
        have p0 : W5.cell? ⟨wo.heap.size, 0, none⟩ = some (.int .i64 u.p) := by simp [World.cell?, hh5]
        have p1 : W5.cell? ⟨wo.heap.size, 1, none⟩ = some (.string u.m) := by simp [World.cell?, hh5]
        have p2 : W5.cell? ⟨wo.heap.size, 2, none⟩ = some (.int .i64 u.k) := by simp [World.cell?, hh5]
        have p3 : W5.cell? ⟨wo.heap.size, 3, none⟩ = some (.slice u.a u.n u.c) := by simp [World.cell?, hh5]
        have f2 : W5.frozen? ⟨wo.heap.size, 2, none⟩ = false := by simp [World.frozen?, hh5]
        have f3 : W5.frozen? ⟨wo.heap.size, 3, none⟩ = false := by simp [World.frozen?, hh5]
        obtain ⟨W6, hW6⟩ : ∃ W6, W6 = (W5.setCell ⟨wo.heap.size, 2, none⟩ (.int .i64 y.k)).setCell ⟨wo.heap.size, 3, none⟩ (.slice y.a y.n y.c) := ⟨_, rfl⟩
        have hb6 : Below wo.heap.size wo W6 := by
          rw [hW6]
          exact ((HB3.out.trans (hb5.mono (by omega))).setCell (p := ⟨wo.heap.size, 2, none⟩) (Nat.le_refl _) _).setCell (p := ⟨wo.heap.size, 3, none⟩) (Nat.le_refl _) _
        have hbt6 : But (fun b => b = wo.heap.size) W5 W6 := by
          rw [hW6]
          exact (But.set (S := fun b => b = wo.heap.size) (a := ⟨wo.heap.size, 2, none⟩) rfl _).trans (But.set (S := fun b => b = wo.heap.size) (a := ⟨wo.heap.size, 3, none⟩) rfl _)
        have g0 : W6.cell? ⟨wo.heap.size, 0, none⟩ = some (.int .i64 u.p) := by rw [hW6]; exact (cell_set_other _ (by simp)).trans ((cell_set_other _ (by simp)).trans p0)
        have g1 : W6.cell? ⟨wo.heap.size, 1, none⟩ = some (.string u.m) := by rw [hW6]; exact (cell_set_other _ (by simp)).trans ((cell_set_other _ (by simp)).trans p1)
        have g2 : W6.cell? ⟨wo.heap.size, 2, none⟩ = some (.int .i64 y.k) := by rw [hW6]; exact (cell_set_other _ (by simp)).trans (cell_set_same _ p2)
        have g3 : W6.cell? ⟨wo.heap.size, 3, none⟩ = some (.slice y.a y.n y.c) := by rw [hW6]; exact cell_set_same _ ((cell_set_other _ (by simp)).trans p3)
        have hB7 : Below wo.heap.size wo (W6.alloc (.cells #[.int .i64 u.p, .string u.m, .int .i64 y.k, .slice y.a y.n y.c] 62)) := hb6.alloc hb6.size _
        have HOw6 := Lib.hid (HO.out.below hB7)
        have HB7 := Lib.hid hB7
        have HY : Hid (RdC (okP (fun b => (ok b ∧ b < w.heap.size) ∨ w.heap.size ≤ b) (.slice ad m c)) (W6.alloc (.cells #[.int .i64 u.p, .string u.m, .int .i64 y.k, .slice y.a y.n y.c] 62)) ⟨u.p, u.m, y.k, y.a, y.n, y.c⟩ r) := by
          have hkey := HKey.out hiL
          refine ⟨?_, ?_, hy.k, ?_, hy.z⟩
          · show u.p = r.p; rw [HU.out.1, hkey.1]; exact HX.out.p
          · show u.m = r.m; rw [HU.out.2, hkey.2]; exact HX.out.m
          · refine ((hy.s.but hbt6 (fun b hb e => by omega)).below ((Below.refl _ _).alloc (Nat.le_refl _) _)).mono fun b hb => ⟨.inr (by omega), fun e => ?_⟩
            have := (HO.out.row.lt b e).2
            omega
        have HOl : Hid (((L.set i r).take i).length = m) := HM.out.symm
        have HMi' := HMi.out
        have HW6 := Lib.hid hW6
        clear hW6 hb6 hbt6 hy hh5 hB7 hb5 D1 D2 D4 D5
        go_upto_region 13 with fail
        rw [← HW6.out]
        clear p0 p1 p2 p3 f2 f3 HW6
        go_wp2_with (at_builtin; go_loud (refine wpList_plain rfl (fun _ hK => wp_app_oneP (fun b => (ok b ∧ b < w.heap.size) ∨ w.heap.size ≤ b) (.tmp 52) (.tmp 54) rfl W2.heap.size _ xs _ (by rfl) HOw6.out W6.heap.size 1 ⟨u.p, u.m, y.k, y.a, y.n, y.c⟩ r (by rfl) (heap_alloc_new _ _) HY.out (m + 1) (by rw [HOl.out]) (by omega) (by have := HB7.out.size; omega) (fun ad4 c4 w4 ho4 hg4 => hK _ _ ?_))); have HO4 := Lib.hid ho4; have HG4 := Lib.hid hg4; clear ho4 hg4)
        have HBw4 : Hid (Below W2.heap.size W2 w4) := (HB.out.trans (HB7.out.mono hBsz)).grown HG4.out (by have := HB7.out.size; omega) (fun k hk => by have := (HO.out.row.lt k hk).1; omega)
        rw [← HE.out] at HO4
        go_roundw
        case rel => exact ⟨i + 1, m + 1, ad4, c4, _, by first | rfl | go_num, rfl, by omega, by show _ = _; rw [HE.out, List.length_append, ← HM.out]; rfl, by show _ ≤ _; omega, HO4, HBw4⟩
        case measure => simp [intOf]; omega
      · have HE := set_step L i0 i r hiL
        rw [if_neg hii] at HE
        have HE := Lib.hid HE
        have e1 : (((i : Nat) : Int) == (i0 : Int)) = false := by simp; omega
        have HOl : Hid (((L.set i0 r).take i).length = m) := HM.out.symm
        have HMi' := HMi.out
        go_wp2_with (at_builtin; go_loud (refine wpList_plain rfl (fun _ hK => wp_app_oneP (fun b => (ok b ∧ b < w.heap.size) ∨ w.heap.size ≤ b) (.tmp 52) (.tmp 54) rfl W2.heap.size _ xs _ (by rfl) HOw.out W3.heap.size 1 u L[i] (by rfl) (heap_alloc_new _ _) HYr.out (m + 1) (by rw [HOl.out]) (by omega) (by have := HB4.out.size; omega) (fun ad4 c4 w4 ho4 hg4 => hK _ _ ?_))); have HO4 := Lib.hid ho4; have HG4 := Lib.hid hg4; clear ho4 hg4)
        have HBw4 : Hid (Below W2.heap.size W2 w4) := (HB.out.trans (HB4.out.mono hBsz)).grown HG4.out (by have := HB4.out.size; omega) (fun k hk => by have := (HO.out.row.lt k hk).1; omega)
        rw [← HE.out] at HO4
        go_roundw
        case rel => exact ⟨i + 1, m + 1, ad4, c4, _, by first | rfl | go_num, rfl, by omega, by show _ = _; rw [HE.out, List.length_append, ← HM.out]; rfl, by show _ ≤ _; omega, HO4, HBw4⟩
        case measure => simp [intOf]; omega
    · have hin' : i = n := by omega
      have HF : Hid ((L.set i0 r).take i = Fb.aft L 3 r) := by
        show _ = _
        rw [List.take_of_length_le (by rw [List.length_set, hin', HN.out]; exact Nat.le_refl _)]
        unfold Fb.aft
        rw [if_neg (by decide), if_neg (by decide), HZ.out, Int.toNat_natCast]
      subst hin'
      go_wp2_with fail
      go_ret
      refine ⟨ad, m, c, rfl, ?_, HG1.out.below.trans ((HG2.out.below.trans (HB.out.mono (HG2.out.below.size))).mono (HG1.out.below.size))⟩
      have := HO.out.okRds (fun b hb => .inr (by have := HG1.out.below.size; have := HG2.out.below.size; omega))
      rw [HF.out] at this
      exact this.mono fun b hb => hb.imp (fun h => h.1) id

set_option maxHeartbeats 1600000 in
set_option maxRecDepth 20000 in
theorem rAfter1_any (ok ok2 : Nat → Prop) (v : Value) (L : List Rl) (x : RC) (r : Rl) (w : World) (hr : RdsR ok w v L) (hx : RdC ok2 w x r) (hL : L.length ≤ 4096) :
    Calls Tryz.prog 44 #[v, .agg #[.int .i64 1, .int .i64 x.p, .string x.m, .int .i64 x.k, .slice x.a x.n x.c]] w fun e w' => ∃ ad n c, e = .returned (.slice ad n c) ∧ RdsR (fun b => ok b ∨ w.heap.size ≤ b) w' (.slice ad n c) (Fb.aft L 1 r) ∧ Below w.heap.size w w' := by
  obtain ⟨W1, hW1⟩ : ∃ W1, W1 = w.alloc (.cells #[.int .i64 1, .int .i64 x.p, .string x.m, .int .i64 x.k, .slice x.a x.n x.c] 64) := ⟨_, rfl⟩
  have hg1 : Grn w W1 := by rw [hW1]; exact (Grn.refl w).alloc _
  have hs1 : W1.heap.size = w.heap.size + 1 := by rw [hW1]; simp
  have hh1 : W1.heap[w.heap.size]? = some (.cells #[.int .i64 1, .int .i64 x.p, .string x.m, .int .i64 x.k, .slice x.a x.n x.c] 64 (0, 0)) := by rw [hW1]; exact heap_alloc_new _ _
  have HR1 := Lib.hid (hr.lt.below hg1.below)
  have HX1 := Lib.hid (hx.below hg1.below)
  have HH1 := Lib.hid hh1
  have HG1 := Lib.hid hg1
  have HS1 := Lib.hid hs1
  have HW1 := Lib.hid hW1
  obtain ⟨n, hn⟩ : ∃ n, n = L.length := ⟨_, rfl⟩
  have HN := Lib.hid hn
  rw [← hn] at hL
  obtain ⟨adv, capv, rfl, hvc, hvm⟩ := hr.form
  rw [← hn] at HR1 hvc ⊢
  unfold maxLen at hvm
  have c0 : W1.cell? ⟨w.heap.size, 0, none⟩ = some (.int .i64 1) := by simp [World.cell?, hh1]
  clear hr hx hn hg1 hh1 hs1 hW1
  go_enter Tryz.func44, Tryz.ntmps44
  go_upto_region 1 with fail
  rw [← HW1.out]
  clear HW1
  go_upto_region 3 with fail
  clear c0
  go_upto_region 4 with (at_builtin; go_loud (refine wpList_plain rfl (fun _ hK => wp_app_rules (.tmp 12) (.tmp 13) rfl w.heap.size (fun b => ok b ∧ b < w.heap.size) (fun b => ok b ∧ b < w.heap.size) _ [] [] (by rfl) (ownR_nil _ _ _) _ L (by rfl) HR1.out (fun b h => h) (fun b _ h => by simp [Value.ownBlock] at h) n (by rw [HN.out]; simp) (by omega) (by rw [HS1.out]; omega) (fun ad2 c2 w2 ys ho2 hg2 => hK _ _ ?_))); have HO2 := Lib.hid ho2; have HG2 := Lib.hid hg2; clear ho2 hg2)
  have hb2 : Below W1.heap.size W1 w2 := (Below.refl _ W1).grown HG2.out (Nat.le_refl _) (fun k hk => by simp [Value.ownBlock] at hk)
  have hh2 := (hb2.block _ (by have := HS1.out; omega)).trans HH1.out
  have d1 : w2.cell? ⟨w.heap.size, 1, none⟩ = some (.int .i64 x.p) := by simp [World.cell?, hh2]
  have d2 : w2.cell? ⟨w.heap.size, 2, none⟩ = some (.string x.m) := by simp [World.cell?, hh2]
  have d3 : w2.cell? ⟨w.heap.size, 3, none⟩ = some (.int .i64 x.k) := by simp [World.cell?, hh2]
  have d4 : w2.cell? ⟨w.heap.size, 4, none⟩ = some (.slice x.a x.n x.c) := by simp [World.cell?, hh2]
  have HCp := Lib.hid (rCopy_any ok2 x r w2 (HX1.out.below hb2))
  have HB2 := Lib.hid hb2
  clear hb2 hh2
  go_wp2_with fail
  refine HCp.out.mono ?_
  rintro e W5 ⟨y, rfl, hy, hb5⟩
  have hs5 := hb5.size
  have hs2 := HB2.out.size
  have hsz1 := HS1.out
  have hB6 : Below w2.heap.size w2 (W5.alloc (.cells #[.int .i64 y.p, .string y.m, .int .i64 y.k, .slice y.a y.n y.c] 62)) := hb5.alloc hs5 _
  have HOw := Lib.hid (((HO2.out.below hB6).mono (ok' := okP (fun b => (ok b ∧ b < w.heap.size) ∨ w.heap.size ≤ b) (.slice ad2 n c2)) fun b hb => ⟨.inl hb, fun e => by have := (HO2.out.row.lt b e).1; omega⟩))
  have HY : Hid (RdC (okP (fun b => (ok b ∧ b < w.heap.size) ∨ w.heap.size ≤ b) (.slice ad2 n c2)) (W5.alloc (.cells #[.int .i64 y.p, .string y.m, .int .i64 y.k, .slice y.a y.n y.c] 62)) y r) := by
    refine (hy.below ((Below.refl _ _).alloc (Nat.le_refl _) _)).mono fun b hb => ⟨.inr (by omega), fun e => ?_⟩
    have := (HO2.out.row.lt b e).2
    omega
  have HB6 := Lib.hid hB6
  have HLl : Hid (([] ++ L : List Rl).length + 1 = n + 1) := by show _ = _; rw [HN.out]; simp
  clear hy hb5 hB6 d1 d2 d3 d4
  go_wp2_with (at_builtin; go_loud (refine wpList_plain rfl (fun _ hK => wp_app_oneP (fun b => (ok b ∧ b < w.heap.size) ∨ w.heap.size ≤ b) (.tmp 15) (.tmp 19) rfl w.heap.size _ ([] ++ ys) ([] ++ L) (by rfl) HOw.out W5.heap.size 1 y r (by rfl) (heap_alloc_new _ _) HY.out (n + 1) HLl.out (by omega) (by have := HB6.out.size; omega) (fun ad7 c7 w7 ho7 hg7 => hK _ _ ?_))); have HO7 := Lib.hid ho7; have HG7 := Lib.hid hg7; clear ho7 hg7)
  have hb7 : Below w.heap.size w w7 := (HG1.out.below.trans (((HB2.out.trans (HB6.out.mono hs2))).mono HG1.out.below.size)).grown HG7.out (by have := HB6.out.size; omega) (fun k hk => (HO2.out.row.lt k hk).1)
  have HB7 := Lib.hid hb7
  have hrd := HO7.out.okRds (fun b hb => .inr hb)
  rw [List.nil_append] at hrd
  refine (rOrder_rules _ _ (L ++ [r]) w7 hrd (by rw [List.length_append, ← HN.out]; simp; omega)).mono ?_
  rintro e w8 ⟨v8, rfl, hr8, hb8⟩
  obtain ⟨ad8, c8, rfl, _⟩ := hr8.form
  have HR8 := Lib.hid hr8
  have HB8 := Lib.hid hb8
  clear hr8 hb8 hb7 hrd
  go_wp2_with fail
  go_ret
  refine ⟨ad8, _, c8, rfl, ?_, HB7.out.trans (HB8.out.mono HB7.out.size)⟩
  refine HR8.out.mono fun b hb => ?_
  rcases hb with h | ⟨h | h, _⟩
  · exact .inr (Nat.le_trans HB7.out.size h)
  · exact .inl h.1
  · exact .inr h

/-- After, at every change that may be. -/
theorem rAfter_any (ok ok2 : Nat → Prop) (v : Value) (L : List Rl) (width kind : Int) (x : RC) (r : Rl) (w : World) (hr : RdsR ok w v L) (hx : RdC ok2 w x r) (hL : L.length ≤ 4096) (hq : Fb.mayI L width kind r = 0) :
    Calls Tryz.prog 44 #[v, .agg #[.int .i64 kind, .int .i64 x.p, .string x.m, .int .i64 x.k, .slice x.a x.n x.c]] w fun e w' => ∃ ad n c, e = .returned (.slice ad n c) ∧ RdsR (fun b => ok b ∨ w.heap.size ≤ b) w' (.slice ad n c) (Fb.aft L kind r) ∧ Below w.heap.size w w' := by
  have hg := (Fb.mayI_good.1 hq).1
  have h1 := hg.k1
  have h3 := hg.k3
  simp only at h1 h3
  rcases (show kind = 1 ∨ kind = 2 ∨ kind = 3 by omega) with rfl | rfl | rfl
  · exact rAfter1_any ok ok2 v L x r w hr hx hL
  · exact rAfter2_any ok ok2 v L x r w hr hx hL (Fb.keyI_some (hg.oth (show ¬ (2 : Int) = 1 by decide)))
  · exact rAfter3_any ok ok2 v L x r w hr hx hL (Fb.keyI_some (hg.oth (show ¬ (3 : Int) = 1 by decide)))
end Go.Proofs.YtlbelkjgaeaaeaaGreat
/-
  Walks: Do of the code's table and of the reference's.
-/
namespace Go.Proofs.YtlbelkjgaeaaeaaGreat
open Go.RowKit Go.Shelf Go.Lib Go.Sort
set_option linter.unusedVariables false
set_option linter.unusedSectionVars false
set_option linter.unusedSimpArgs false

theorem Fb.doL_cases {W : Int} : ∀ (m : List (Int × Rl)) (L : List Rl) (i : Nat), (∃ L', Fb.doL W L m i = (some L', 0, 0)) ∨ ∃ j q, Fb.doL W L m i = (none, j, q) ∧ ¬ q = 0
  | [], L, i => .inl ⟨L, rfl⟩
  | c :: m, L, i => by
    unfold Fb.doL
    split
    · exact Fb.doL_cases m _ _
    · rename_i h
      exact .inr ⟨i, _, rfl, h⟩

/-- The world behind a table's change: its block, and new blocks. -/
abbrev okNew (ok : Nat → Prop) (w : World) : Nat → Prop := fun b => (ok b ∧ b < w.heap.size) ∨ w.heap.size ≤ b

set_option maxHeartbeats 1600000 in
set_option maxRecDepth 20000 in
theorem do_tab {ok ok2 : Nat → Prop} {w : World} {tb : Nat} {v : Value} {L : List Rl} {W : Int} {cv : Value} {m : List (Int × Rl)} (h : Tab 0 1 ok w tb v L W) (hc : RdsC ok2 w cv m) (hm : m.length * 64 ≤ 140737488351232) (hL : Fb.Ok W L) :
    Calls Tryz.prog 29 #[.pointer (some ⟨tb, 0, none⟩), cv] w fun e w' => e = .returned (.tuple #[.int .i64 (Fb.doL W L m 0).2.1, .int .i64 (Fb.doL W L m 0).2.2]) ∧ (∃ v', Tab 0 1 (okNew ok w) w' tb v' (Fb.endL W L m) W) ∧ But (fun b => b = tb) w w' := by
  have HI := Lib.hid (is_tab h)
  have HAll : Hid (∀ Wx, Below w.heap.size w Wx → Calls Tryz.prog 42 #[.pointer (some ⟨tb, 0, none⟩), cv, .int .i64 W] Wx _) := fun Wx hWx => all_any ok ok2 tb v L W cv m Wx (h.rd.below hWx) (h.below hWx).c0 (hc.below hWx) hm hL
  have c1 := h.c1
  have H := Lib.hid h
  have htb := h.lt
  have hsz : w.heap.size ≤ w.drew.heap.size := Nat.le_refl _
  clear h hc
  have HE : Hid (Fb.endL W L m = (Fb.doL W L m 0).1.getD L) := rfl
  rcases Fb.doL_cases (W := W) m L 0 with ⟨L', hd⟩ | ⟨i, q, hd, hq⟩
  · rw [hd] at HE ⊢
    have HD := Lib.hid hd
    clear hd
    go_enter Tryz.func29, Tryz.ntmps29
    go_wp2_with fail
    refine HI.out.mono ?_
    rintro e w1 ⟨rfl, rfl⟩
    go_upto_region 3 with fail
    go_region_with (go_at_call 42; refine (HAll.out _ (by repeat (first | (with_reducible exact Below.refl _ _) | (with_reducible refine Below.drew ?_)))).mono ?_; rintro _ w2 ⟨hb2, ⟨L2, g, v2, u, un, uc, hd2, rfl, hg2, g0, hr2⟩ | ⟨i2, q2, hd2, rfl⟩⟩; rotate_left; (rw [HD.out] at hd2; cases hd2); (rw [HD.out] at hd2; have hL2 := Option.some.inj (Prod.mk.inj hd2).1; subst hL2; clear hd2))
    all_goals
      have hb : Below w.heap.size w w2 := ((Below.refl _ w).drew).trans hb2
      obtain ⟨ad2, c2, rfl, _, _⟩ := hr2.form
      have t2 := (hb.cell (p := ⟨tb, 0, none⟩) htb).trans H.out.c0
      have t3 := (hb.cell (p := ⟨tb, 1, none⟩) htb).trans H.out.c1
      have f2 := ((But.below hb).frozen (S := fun _ => False) (p := ⟨tb, 0, none⟩) htb (fun h => h)).trans H.out.f0
      have HB := Lib.hid hb
      have HR := Lib.hid hr2
      have HG2 := Lib.hid hg2
      clear hb hb2 hr2 c1
      go_wp2_with fail
      go_ret2
      have hbt : But (fun b => b = tb) w2 (w2.setCell ⟨tb, 0, none⟩ (.slice ad2 L'.length c2)) := But.set (S := fun b => b = tb) (a := ⟨tb, 0, none⟩) rfl _
      have hno : ∀ b, okNew ok w b → b ≠ tb := fun b hb => hb.elim (fun h => H.out.no b h.1) (fun h => by omega)
      refine ⟨rfl, ⟨_, cell_set_same _ t2, (cell_set_other _ (by simp)).trans t3, by first | exact f2 | (simp [go_sem]; exact f2), ?_, hno, H.out.lo, H.out.hi⟩, (But.below HB.out).trans hbt⟩
      rw [HE.out]
      refine RdsR.but (HR.out.mono (ok' := okNew ok w) fun b hb => ?_) hbt (fun b hb e => hno b hb e)
      exact hb.imp id (fun h => h.1)
  · rw [hd] at HE ⊢
    have HD := Lib.hid hd
    clear hd
    go_enter Tryz.func29, Tryz.ntmps29
    go_wp2_with fail
    refine HI.out.mono ?_
    rintro e w1 ⟨rfl, rfl⟩
    go_upto_region 3 with fail
    go_region_with (go_at_call 42; refine (HAll.out _ (by repeat (first | (with_reducible exact Below.refl _ _) | (with_reducible refine Below.drew ?_)))).mono ?_; rintro _ w2 ⟨hb2, ⟨L2, g, v2, u, un, uc, hd2, rfl, hg2, g0, hr2⟩ | ⟨i2, q2, hd2, rfl⟩⟩; (rw [HD.out] at hd2; cases hd2); (rw [HD.out] at hd2; obtain ⟨_, hd3⟩ := Prod.mk.inj hd2; obtain ⟨e1, e2⟩ := Prod.mk.inj hd3; subst e1 e2; clear hd2 hd3))
    all_goals
      have hb : Below w.heap.size w w2 := ((Below.refl _ w).drew).trans hb2
      have HB := Lib.hid hb
      clear hb hb2 c1
      go_wp2_with fail
      go_ret2
      have hno : ∀ b, okNew ok w b → b ≠ tb := fun b hb => hb.elim (fun h => H.out.no b h.1) (fun h => by omega)
      refine ⟨rfl, ⟨v, ?_⟩, But.below HB.out⟩
      rw [HE.out]
      have h2 := H.out.below HB.out
      exact ⟨h2.c0, h2.c1, h2.f0, (H.out.rd.lt.below HB.out).mono fun b hb => .inl hb, hno, H.out.lo, H.out.hi⟩

set_option maxHeartbeats 1600000 in
set_option maxRecDepth 20000 in
theorem rDo_tab {ok ok2 : Nat → Prop} {w : World} {tb : Nat} {v : Value} {L : List Rl} {W : Int} {cv : Value} {m : List (Int × Rl)} (h : Tab 1 0 ok w tb v L W) (hc : RdsC ok2 w cv m) (hm : m.length * 64 ≤ 140737488351232) (hL : Fb.Ok W L) :
    Calls Tryz.prog 31 #[.pointer (some ⟨tb, 0, none⟩), cv] w fun e w' => e = .returned (.tuple #[.int .i64 (Fb.doL W L m 0).2.1, .int .i64 (Fb.doL W L m 0).2.2]) ∧ (∃ v', Tab 1 0 (okNew ok w) w' tb v' (Fb.endL W L m) W) ∧ But (fun b => b = tb) w w' := by
  have htb := h.lt
  have HE : Hid (Fb.endL W L m = (Fb.doL W L m 0).1.getD L) := rfl
  obtain ⟨S, hS⟩ : ∃ S, S = Fb.doL W L m 0 := ⟨_, rfl⟩
  rw [← hS] at HE ⊢
  have HS := Lib.hid hS
  obtain ⟨n, hn⟩ : ∃ n, n = m.length := ⟨_, rfl⟩
  have HN := Lib.hid hn
  rw [← hn] at hm
  obtain ⟨adc, capc, rfl, hcc, hcm⟩ := hc.form
  unfold maxLen at hcm
  have HC := Lib.hid hc
  rw [← hn] at HC hcc ⊢
  obtain ⟨adv, capv, rfl, _, _⟩ := h.rd.form
  have c0 := h.c0
  have H := Lib.hid h
  have HL := Lib.hid hL
  clear h hc hn hS hL
  go_enter Tryz.func31, Tryz.ntmps31
  go_wp2_with fail
  go_loopw [6, 7] (fun s6 s7 wr => ∃ (i : Nat) (ad : Option Addr) (k c : Nat) (Lr : List Rl), s7 = .int .i64 i ∧ s6 = .slice ad k c ∧ i ≤ n ∧ Hid (RdsR (okNew ok w) wr (.slice ad k c) Lr) ∧ Hid (Fb.Ok W Lr) ∧ Hid (S = Fb.doL W Lr (m.drop i) i) ∧ Hid (Below w.heap.size w wr)) (fun _ s7 _ => n - (intOf s7).toNat)
  case atStart => exact ⟨0, adv, _, capv, L, rfl, rfl, Nat.zero_le _, H.out.rd.lt.mono fun b hb => .inl hb, HL.out, HS.out, Below.refl _ _⟩
  case round =>
    obtain ⟨wo, rfl⟩ : ∃ wo : World, wo = wr := ⟨wr, rfl⟩
    obtain ⟨i, ad, k, c, Lr, rfl, rfl, hin, HR, HOk, HDo, HB⟩ := hrel
    by_cases hlt : i < n
    · have him : i < m.length := by rw [← HN.out]; exact hlt
      obtain ⟨b, off, kc, x, rfl, hb, _, hk, x0, x1, x2, x3, x4, hx⟩ := HC.out.get i him
      have X0 := (HB.out.cell (p := ⟨b, off + i * 5, none⟩) hb).trans x0
      have X1 := (HB.out.cell (p := ⟨b, off + i * 5 + 1, none⟩) hb).trans x1
      have X2 := (HB.out.cell (p := ⟨b, off + i * 5 + 2, none⟩) hb).trans x2
      have X3 := (HB.out.cell (p := ⟨b, off + i * 5 + 3, none⟩) hb).trans x3
      have X4 := (HB.out.cell (p := ⟨b, off + i * 5 + 4, none⟩) hb).trans x4
      have T1 := (HB.out.cell (p := ⟨tb, 0, none⟩) htb).trans H.out.c1
      obtain ⟨r, hrr⟩ : ∃ r, m[i].2 = r := ⟨_, rfl⟩
      rw [hrr] at hx
      obtain ⟨qv, hqv⟩ : ∃ qv, Fb.mayI Lr W kc r = qv := ⟨_, rfl⟩
      have hst := Fb.doL_step (W := W) (L := Lr) him
      rw [← hk, hrr, hqv] at hst
      have HSt := Lib.hid hst
      have HMay : Hid (∀ Wx, Below wo.heap.size wo Wx → Calls Tryz.prog 43 #[.slice ad k c, .int .i64 W, .agg #[.int .i64 kc, .int .i64 x.p, .string x.m, .int .i64 x.k, .slice x.a x.n x.c]] Wx fun e w' => e = .returned (.int .i64 qv) ∧ Below Wx.heap.size Wx w') := fun Wx hWx =>
        rMay_any (fun _ => True) _ Lr W kc x r Wx ((HR.out.below hWx).mono fun _ _ => trivial) ((Rl.okTrue hx).below (HB.out.trans (hWx.mono HB.out.size))) qv hqv
      have HX : Hid (∀ Wx, Below wo.heap.size wo Wx → RdC (fun _ => True) Wx x r) := fun Wx hWx => (Rl.okTrue hx).below (HB.out.trans (hWx.mono HB.out.size))
      have HQv := Lib.hid hqv
      clear x0 x1 x2 x3 x4 hx hst hk hqv hrr
      go_upto_region 5 with fail
      go_region_with (go_at_call 43; refine (HMay.out _ (by repeat (first | (with_reducible exact Below.refl _ _) | (with_reducible refine Below.drew ?_)))).mono ?_; rintro _ w2 ⟨rfl, hb2⟩)
      all_goals
        have hb3 : Below wo.heap.size wo w2 := ((Below.refl _ wo).drew).trans hb2
        have HB3 := Lib.hid hb3
        have hbz : b < wo.heap.size := Nat.lt_of_lt_of_le hb HB.out.size
        have Y0 := (hb3.cell (p := ⟨b, off + i * 5, none⟩) hbz).trans X0
        have Y1 := (hb3.cell (p := ⟨b, off + i * 5 + 1, none⟩) hbz).trans X1
        have Y2 := (hb3.cell (p := ⟨b, off + i * 5 + 2, none⟩) hbz).trans X2
        have Y3 := (hb3.cell (p := ⟨b, off + i * 5 + 3, none⟩) hbz).trans X3
        have Y4 := (hb3.cell (p := ⟨b, off + i * 5 + 4, none⟩) hbz).trans X4
        clear hb2 hb3 X0 X1 X2 X3 X4 T1
        by_cases hq0 : qv = 0
        · rw [if_pos hq0] at HSt
          have HAf := Lib.hid (rAfter_any (okNew ok w) (fun _ => True) (.slice ad k c) Lr W kc x r w2 (HR.out.below HB3.out) (HX.out w2 HB3.out) HOk.out.few (by rw [HQv.out, hq0]))
          have HOk2 : Hid (Fb.Ok W (Fb.aft Lr kc r)) := HOk.out.aft (by rw [HQv.out, hq0])
          have hqn : ¬ ¬ qv = 0 := fun h => h hq0
          go_wp2_with fail
          refine HAf.out.mono ?_
          rintro e w4 ⟨ad4, n4, c4, rfl, hr4, hb4⟩
          have HR4 := Lib.hid hr4
          have HB4 := Lib.hid hb4
          clear hr4 hb4
          go_wp2_with fail
          go_roundw
          case rel => exact ⟨i + 1, ad4, n4, c4, _, by first | rfl | go_num, rfl, by omega, HR4.out.mono fun b hb => hb.elim id (fun h => .inr (by have := HB.out.size; have := HB3.out.size; omega)), HOk2.out, HDo.out.trans HSt.out, (HB.out.trans (HB3.out.mono HB.out.size)).trans (HB4.out.mono (by have := HB.out.size; have := HB3.out.size; omega))⟩
          case measure => simp [intOf]; omega
        · rw [if_neg hq0] at HSt
          clear Y0 Y1 Y2 Y3 Y4
          go_wp2_with fail
          go_ret2
          have hb9 := HB.out.trans (HB3.out.mono HB.out.size)
          have h2 := H.out.below hb9
          have hno : ∀ b, okNew ok w b → b ≠ tb := fun b hb => hb.elim (fun h => H.out.no b h.1) (fun h => by omega)
          rw [HDo.out, HSt.out]
          refine ⟨rfl, ⟨.slice adv L.length capv, ?_⟩, But.below hb9⟩
          rw [HE.out, HDo.out, HSt.out]
          exact ⟨h2.c0, h2.c1, h2.f0, (H.out.rd.lt.below hb9).mono fun b hb => .inl hb, hno, H.out.lo, H.out.hi⟩
    · have hin' : i = n := by omega
      have HFin : Hid (S = (some Lr, 0, 0)) := by
        show _ = _
        rw [HDo.out, hin', HN.out]
        exact Fb.doL_end
      subst hin'
      have t2 := (HB.out.cell (p := ⟨tb, 1, none⟩) htb).trans c0
      have t3 := (HB.out.cell (p := ⟨tb, 0, none⟩) htb).trans H.out.c1
      have f2 := ((But.below HB.out).frozen (S := fun _ => False) (p := ⟨tb, 1, none⟩) htb (fun h => h)).trans H.out.f0
      go_wp2_with fail
      go_ret2
      have hbt : But (fun b => b = tb) wo (wo.setCell ⟨tb, 1, none⟩ (.slice ad k c)) := But.set (S := fun b => b = tb) (a := ⟨tb, 1, none⟩) rfl _
      have hno : ∀ b, okNew ok w b → b ≠ tb := fun b hb => hb.elim (fun h => H.out.no b h.1) (fun h => by omega)
      rw [HFin.out]
      refine ⟨rfl, ⟨.slice ad k c, cell_set_same _ t2, (cell_set_other _ (by simp)).trans t3, by first | exact f2 | (simp [go_sem]; exact f2), ?_, hno, H.out.lo, H.out.hi⟩, (But.below HB.out).trans hbt⟩
      rw [HE.out, HFin.out]
      exact HR.out.but hbt (fun b hb e => hno b hb e)
end Go.Proofs.YtlbelkjgaeaaeaaGreat
