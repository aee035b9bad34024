/-
  Walks over the reference of rules: action in every case; a line's rule (printed by wip/gen_rpp.py).
-/
import Derived.Test.YtbjkbcbclgfmpaaDoorRgN
import Derived.Test.YtbjkbcbclgfmpaaDoorRgM
import Derived.Test.YtbjkbcbclgfmpaaDoorRgF
namespace Go.Proofs.YtbjkbcbclgfmpaaDoor
open Go.RowKit Go.Shelf Go.Lib Go.Sort
set_option linter.unusedVariables false
set_option linter.unusedSectionVars false
set_option linter.unusedSimpArgs false

theorem Pr.act_err {ws : List Wrd} {i : Nat} {c : Int} {j : Nat} (h : Pr.act ws i = .error (c, j)) : c ≠ 0 := by
  unfold Pr.act at h
  split at h
  · injection h with h; injection h with h _; omega
  · split at h
    · cases h
    · split at h
      · injection h with h; injection h with h _; omega
      · split at h
        · injection h with h; injection h with h _; omega
        · split at h
          · injection h with h; injection h with h _; omega
          · split at h
            · injection h with h; injection h with h _; omega
            · cases h

/-- A rule in block ob, and the result's block N, still zero. -/
structure RbS (w : World) (ob N : Nat) (p : Int) (m : ByteArray) (k : Int) (u : Value) : Prop where
  c0 : w.cell? ⟨ob, 0, none⟩ = some (.int .i64 p)
  c1 : w.cell? ⟨ob, 1, none⟩ = some (.string m)
  c2 : w.cell? ⟨ob, 2, none⟩ = some (.int .i64 k)
  c3 : w.cell? ⟨ob, 3, none⟩ = some u
  f0 : w.frozen? ⟨ob, 0, none⟩ = false
  f1 : w.frozen? ⟨ob, 1, none⟩ = false
  f2 : w.frozen? ⟨ob, 2, none⟩ = false
  f3 : w.frozen? ⟨ob, 3, none⟩ = false
  nb : w.heap[N]? = some (.cells #[.int .i64 0, .string ⟨#[]⟩, .int .i64 0, .slice none 0 0] 42 (0, 0))

theorem heapLt {w : World} {N : Nat} {o : Obj} (h : w.heap[N]? = some o) : N < w.heap.size := (Array.getElem?_eq_some_iff.1 h).1

theorem RbS.but {S : Nat → Prop} {w w' : World} {ob N : Nat} {p : Int} {m : ByteArray} {k : Int} {u : Value} (h : RbS w ob N p m k u) (hb : But S w w') (h1 : ¬ S ob) (h2 : ¬ S N) : RbS w' ob N p m k u :=
  have hl := cellLt h.c0
  ⟨(hb.cell (p := ⟨ob, 0, none⟩) hl h1).trans h.c0, (hb.cell (p := ⟨ob, 1, none⟩) hl h1).trans h.c1, (hb.cell (p := ⟨ob, 2, none⟩) hl h1).trans h.c2, (hb.cell (p := ⟨ob, 3, none⟩) hl h1).trans h.c3,
    (hb.frozen (p := ⟨ob, 0, none⟩) hl h1).trans h.f0, (hb.frozen (p := ⟨ob, 1, none⟩) hl h1).trans h.f1, (hb.frozen (p := ⟨ob, 2, none⟩) hl h1).trans h.f2, (hb.frozen (p := ⟨ob, 3, none⟩) hl h1).trans h.f3,
    (hb.block N (heapLt h.nb) h2).trans h.nb⟩
theorem RbS.below {w w' : World} {ob N : Nat} {p : Int} {m : ByteArray} {k : Int} {u : Value} (h : RbS w ob N p m k u) (hb : Below w.heap.size w w') : RbS w' ob N p m k u := h.but (S := fun _ => False) (But.below hb) (fun h => h) (fun h => h)

theorem RbS.set0 {w : World} {ob N : Nat} {p : Int} {m : ByteArray} {k : Int} {u : Value} (h : RbS w ob N p m k u) (hne : N ≠ ob) (q : Int) {W : World} (hW : W = w.setCell ⟨ob, 0, none⟩ (.int .i64 q)) : RbS W ob N q m k u ∧ But (fun b => b = ob) w W := by
  have hb : But (fun b => b = ob) w W := by rw [hW]; exact But.set (S := fun b => b = ob) (a := ⟨ob, 0, none⟩) rfl _
  have hnb := (hb.block N (heapLt h.nb) hne).trans h.nb
  subst hW
  exact ⟨⟨cell_set_same _ h.c0, (cell_set_other _ (by simp)).trans h.c1, (cell_set_other _ (by simp)).trans h.c2, (cell_set_other _ (by simp)).trans h.c3, by rw [World.frozen?_setCell]; exact h.f0, by rw [World.frozen?_setCell]; exact h.f1, by rw [World.frozen?_setCell]; exact h.f2, by rw [World.frozen?_setCell]; exact h.f3, hnb⟩, hb⟩
theorem RbS.set1 {w : World} {ob N : Nat} {p : Int} {m : ByteArray} {k : Int} {u : Value} (h : RbS w ob N p m k u) (hne : N ≠ ob) (s : ByteArray) {W : World} (hW : W = w.setCell ⟨ob, 1, none⟩ (.string s)) : RbS W ob N p s k u ∧ But (fun b => b = ob) w W := by
  have hb : But (fun b => b = ob) w W := by rw [hW]; exact But.set (S := fun b => b = ob) (a := ⟨ob, 1, none⟩) rfl _
  have hnb := (hb.block N (heapLt h.nb) hne).trans h.nb
  subst hW
  exact ⟨⟨(cell_set_other _ (by simp)).trans h.c0, cell_set_same _ h.c1, (cell_set_other _ (by simp)).trans h.c2, (cell_set_other _ (by simp)).trans h.c3, by rw [World.frozen?_setCell]; exact h.f0, by rw [World.frozen?_setCell]; exact h.f1, by rw [World.frozen?_setCell]; exact h.f2, by rw [World.frozen?_setCell]; exact h.f3, hnb⟩, hb⟩
theorem RbS.set23 {w : World} {ob N : Nat} {p : Int} {m : ByteArray} {k : Int} {u : Value} (h : RbS w ob N p m k u) (hne : N ≠ ob) (k' : Int) (u' : Value) {W : World} (hW : W = (w.setCell ⟨ob, 2, none⟩ (.int .i64 k')).setCell ⟨ob, 3, none⟩ u') : RbS W ob N p m k' u' ∧ But (fun b => b = ob) w W := by
  have hb : But (fun b => b = ob) w W := by rw [hW]; exact (But.set (S := fun b => b = ob) (a := ⟨ob, 2, none⟩) rfl _).trans (But.set (S := fun b => b = ob) (a := ⟨ob, 3, none⟩) rfl _)
  have hnb := (hb.block N (heapLt h.nb) hne).trans h.nb
  subst hW
  exact ⟨⟨(cell_set_other _ (by simp)).trans ((cell_set_other _ (by simp)).trans h.c0), (cell_set_other _ (by simp)).trans ((cell_set_other _ (by simp)).trans h.c1), (cell_set_other _ (by simp)).trans (cell_set_same _ h.c2), cell_set_same _ ((cell_set_other _ (by simp)).trans h.c3), by rw [World.frozen?_setCell, World.frozen?_setCell]; exact h.f0, by rw [World.frozen?_setCell, World.frozen?_setCell]; exact h.f1, by rw [World.frozen?_setCell, World.frozen?_setCell]; exact h.f2, by rw [World.frozen?_setCell, World.frozen?_setCell]; exact h.f3, hnb⟩, hb⟩

/-- What the reference's reading of a line leaves. -/
def RRulePost (ok : Nat → Prop) (rb : Nat) (v : Value) (ws : List Wrd) (width : Int) (w : World) (e : Ending) (w' : World) : Prop :=
  match Pr.rule ws width with
  | .ok r => ∃ x : RC, e = .returned (.agg #[.int .i64 x.p, .string x.m, .int .i64 x.k, .slice x.a x.n x.c]) ∧ RdC (fun b => w.heap.size ≤ b) w' x r ∧ (∃ j, RRd ok rb j 0 0 0 v ws w') ∧ But (fun b => b = rb) w w'
  | .error (c, j) => (∃ x : RC, e = .returned (.agg #[.int .i64 x.p, .string x.m, .int .i64 x.k, .slice x.a x.n x.c])) ∧ (∃ j', RRd ok rb j' (Pr.wd ws j).l (Pr.wd ws j).c c v ws w') ∧ But (fun b => b = rb) w w'

end Go.Proofs.YtbjkbcbclgfmpaaDoor
/-
  Walks over the reference of rules: Parse.
-/
namespace Go.Proofs.YtbjkbcbclgfmpaaDoor
open Go.RowKit Go.Shelf Go.Lib Go.Sort
set_option linter.unusedVariables false
set_option linter.unusedSectionVars false
set_option linter.unusedSimpArgs false

theorem LnO.mono {ok ok' : Nat → Prop} {w : World} {ad : Option Addr} {acc : List (List Wrd)} (h : LnO ok w ad acc) (hk : ∀ b, ok b → ok' b) : LnO ok' w ad acc := fun i hi => by
  obtain ⟨b, off, adw, capw, e, h1, hl, hc, hr⟩ := h i hi
  exact ⟨b, off, adw, capw, e, hk b h1, hl, hc, hr.mono fun b _ h => hk b h⟩

/-- Between two lines: where the lines lie, and the rules so far. -/
structure RPSt (base : Nat) (acc : List (List Wrd)) (ad0 : Option Addr) (v : Value) (xs : List RC) (L : List Rl) (W : World) : Prop where
  ln : LnO (fun b => b < base) W ad0 acc
  own : OwnR (okFP base v) W base v xs L
  lo : base ≤ W.heap.size

theorem RPSt.below {base : Nat} {acc : List (List Wrd)} {ad0 : Option Addr} {v : Value} {xs : List RC} {L : List Rl} {W W' : World} (h : RPSt base acc ad0 v xs L W) (hb : Below W.heap.size W W') : RPSt base acc ad0 v xs L W' :=
  ⟨h.ln.but (S := fun _ => False) (But.below hb) (fun _ _ h => h), h.own.below hb, Nat.le_trans h.lo hb.size⟩

theorem RPSt.grown {base : Nat} {acc : List (List Wrd)} {ad0 : Option Addr} {v v' : Value} {xs xs' : List RC} {L L' : List Rl} {W W' : World} (h : RPSt base acc ad0 v xs L W) (hg : W.grownBy W' v.ownBlock) (ho : OwnR (okFP base v') W' base v' xs' L') : RPSt base acc ad0 v' xs' L' W' := by
  have hb : But (fun b => v.ownBlock = some b) W W' := ⟨hg.os, hg.tape, hg.output, hg.size, fun k hk hn => hg.block k hk (fun e => hn e.symm)⟩
  exact ⟨h.ln.but hb fun b hk e => by have := (own_ge h.own.row b e).1; omega, ho, Nat.le_trans h.lo hb.size⟩

theorem Pr.rule_err {ws : List Wrd} {width : Int} {c : Int} {j : Nat} (h : Pr.rule ws width = .error (c, j)) : c ≠ 0 := by
  unfold Pr.rule at h
  split at h
  · injection h with h; injection h with h _; omega
  · split at h
    · injection h with h; injection h with h _; omega
    · split at h
      · injection h with h; injection h with h _; omega
      · split at h
        · injection h with h; injection h with h _; omega
        · split at h
          · rename_i e hA
            injection h with h
            subst h
            exact Pr.act_err hA
          · split at h
            · injection h with h; injection h with h _; omega
            · cases h

end Go.Proofs.YtbjkbcbclgfmpaaDoor
