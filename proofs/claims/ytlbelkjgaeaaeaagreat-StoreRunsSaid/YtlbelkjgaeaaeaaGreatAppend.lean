/-
  append of whatever a slice reads as onto a row of the call's own.
-/
import Derived.Laws.OwnMore
import Derived.Laws.AppendOwn
import Derived.Laws.AppendOwnNone
import Derived.Test.YtlbelkjgaeaaeaaGreatMore
namespace Go.Proofs.YtlbelkjgaeaaeaaGreat
open Go.RowKit

theorem ownsRow_form {w : World} {b : Nat} {e : TypeId} {v : Value} {n : Nat} {xs : List Value} (h : w.ownsRow b e 1 v n xs) : ∃ ad cap, v = .slice ad n cap := by
  rcases h.2 with ⟨h1, h2⟩ | ⟨g, cap, cur, hv, _⟩
  · exact ⟨none, 0, by rw [h1, h2]⟩
  · exact ⟨_, cap, hv⟩

section
variable {P : Program} {w : World}

/-- At the operation. -/
theorem wp_append_rds {o : Oper} {a : Act} {K : Act → World → Prop} {Q : Exit → Act → World → Prop} (s x : Operand) (t : TypeId)
    (ho : o.op = .call { callee := .builtin .append, args := #[s, x], argTypes := #[t, t] })
    (base : Nat) (e : TypeId) (i : TypeInfo) (z : Value) (bytes : Nat) (ht : P.underlying t = some (.slice e)) (hi : P.info? e = some i) (hz : i.zero = some z)
    (hsize : i.size = 1) (hby : i.bytes = bytes) (hzs : z.cells.size = 1)
    (v : Value) (n : Nat) (xs : List Value) (hs : a.eval s = v) (hown : w.ownsRow base e 1 v n xs)
    (sv : Value) (ys : List Value) (hx : a.eval x = sv) (hr : Rds w sv ys) (h1 : ∀ u ∈ ys, u.oneCell' = true)
    (m : Nat) (hm : n + ys.length = m) (h63 : m ≤ maxLen) (hbytes : m * bytes ≤ 140737488355328) (hbase : base ≤ w.heap.size)
    (h : ∀ ad cap w', w'.ownsRow base e 1 (.slice ad m cap) m (xs ++ ys) → w.grownBy w' v.ownBlock → K (a.put o.dst (.slice ad m cap)) w') : o.wp P a w K Q := by
  have h' : ∀ v' w', w'.ownsRow base e 1 v' (n + ys.length) (xs ++ ys) → w.grownBy w' v.ownBlock → K (a.put o.dst v') w' := by
    intro v' w' h2 h3
    obtain ⟨ad, cap, rfl⟩ := ownsRow_form h2
    rw [hm] at h2 ⊢
    exact h ad cap w' h2 h3
  clear h
  subst hm
  rcases hr with ⟨ad, c, rfl, rfl, hc⟩ | ⟨b, off, cap, rfl, h2, h3, h4, h5⟩
  · cases ad with
    | none =>
      obtain rfl := hc rfl
      have hrun := run_append_owned_none (P := P) (w := w) base t o.type e i 1 ht hi v n xs hown
      unfold Oper.wp
      simp [execOp, ho, resolve, invoke, builtin, hs, hx, hrun, Result.andThen]
      exact h' v w (by simpa using hown) ⟨rfl, rfl, rfl, Nat.le_refl _, fun _ _ _ => rfl⟩
    | some ad =>
      exact wp_append_own w s x t ho base e i z 1 bytes ht hi hz hsize hby hzs (by omega) v n xs hs hown ad 0 c [] hx rfl (fun j u hj => by simp at hj) (by simp) (by simpa using h63) (by simpa using hbytes) hbase
        (fun v' w' h1 h2 _ => h' v' w' (by simpa using h1) h2)
  · refine wp_append_own w s x t ho base e i z 1 bytes ht hi hz hsize hby hzs (by omega) v n xs hs hown ⟨b, off, none⟩ ys.length cap ys hx (by simp) (fun j u hj => ?_) h1 h63 hbytes hbase (fun v' w' h1 h2 _ => h' v' w' h1 h2)
    have hjl : j < ys.length := by
      rcases Nat.lt_or_ge j ys.length with h | h
      · exact h
      · rw [List.getElem?_eq_none h] at hj; cases hj
    rw [List.getElem?_eq_getElem hjl] at hj
    injection hj with hj
    subst hj
    have hplain : (⟨b, off, none⟩ : Addr).add j = ⟨b, off + j, none⟩ := by unfold Addr.add; split <;> simp_all
    rw [hplain]
    exact h5 j hjl

/-- At the list of a plain region's operations. -/
theorem wpList_append_rds {ops : Array Oper} {rest : List Oper} {o : Oper} {a : Act} {Q : Exit → Act → World → Prop} (hgd : o.guard = none) (s x : Operand) (t : TypeId)
    (ho : o.op = .call { callee := .builtin .append, args := #[s, x], argTypes := #[t, t] })
    (base : Nat) (e : TypeId) (i : TypeInfo) (z : Value) (bytes : Nat) (ht : P.underlying t = some (.slice e)) (hi : P.info? e = some i) (hz : i.zero = some z)
    (hsize : i.size = 1) (hby : i.bytes = bytes) (hzs : z.cells.size = 1)
    (v : Value) (n : Nat) (xs : List Value) (hs : a.eval s = v) (hown : w.ownsRow base e 1 v n xs)
    (sv : Value) (ys : List Value) (hx : a.eval x = sv) (hr : Rds w sv ys) (h1 : ∀ u ∈ ys, u.oneCell' = true)
    (m : Nat) (hm : n + ys.length = m) (h63 : m ≤ maxLen) (hbytes : m * bytes ≤ 140737488355328) (hbase : base ≤ w.heap.size)
    (h : ∀ ad cap w', w'.ownsRow base e 1 (.slice ad m cap) m (xs ++ ys) → w.grownBy w' v.ownBlock → wpList P ops Q rest (a.put o.dst (.slice ad m cap)) w') : wpList P ops Q (o :: rest) a w :=
  wpList_plain hgd fun _ hK => wp_append_rds s x t ho base e i z bytes ht hi hz hsize hby hzs v n xs hs hown sv ys hx hr h1 m hm h63 hbytes hbase fun ad cap w' h2 h3 => hK _ _ (h ad cap w' h2 h3)

/-- At a step of a region that draws its order. -/
theorem step_append_rds {ops : Array Oper} {o : Oper} {a : Act} {K : Act → World → Prop} {Q : Exit → Act → World → Prop} {E : Prop} (hgd : o.guard = none) (s x : Operand) (t : TypeId)
    (ho : o.op = .call { callee := .builtin .append, args := #[s, x], argTypes := #[t, t] })
    (base : Nat) (e : TypeId) (i : TypeInfo) (z : Value) (bytes : Nat) (ht : P.underlying t = some (.slice e)) (hi : P.info? e = some i) (hz : i.zero = some z)
    (hsize : i.size = 1) (hby : i.bytes = bytes) (hzs : z.cells.size = 1)
    (v : Value) (n : Nat) (xs : List Value) (hs : a.eval s = v) (hown : w.ownsRow base e 1 v n xs)
    (sv : Value) (ys : List Value) (hx : a.eval x = sv) (hr : Rds w sv ys) (h1 : ∀ u ∈ ys, u.oneCell' = true)
    (m : Nat) (hm : n + ys.length = m) (h63 : m ≤ maxLen) (hbytes : m * bytes ≤ 140737488355328) (hbase : base ≤ w.heap.size)
    (h : ∀ ad cap w', w'.ownsRow base e 1 (.slice ad m cap) m (xs ++ ys) → w.grownBy w' v.ownBlock → K (a.put o.dst (.slice ad m cap)) w') :
    if Region.wanted o (yielded ops a.tmps) = true then Oper.wp P o a w K Q else E := by
  have hw : Region.wanted o (yielded ops a.tmps) = true := by simp [Region.wanted, hgd]
  rw [if_pos hw]
  exact wp_append_rds s x t ho base e i z bytes ht hi hz hsize hby hzs v n xs hs hown sv ys hx hr h1 m hm h63 hbytes hbase h
end

/-- A new row of one cell, its block under a name of its own. -/
theorem lit_row {w : World} {x : Value} {e : TypeId} {g b : Nat} (hg : g = w.heap.size) (hb : b ≤ g) : (w.alloc (.cells #[x] e)).ownsRow b e 1 (.slice (some ⟨g, 0, none⟩) 1 1) 1 [x] := by
  subst hg
  exact World.ownsRow_lit w #[x] 1 hb (by unfold maxLen; omega) (by simp)

theorem str_one {L : List ByteArray} : ∀ u ∈ L.map Value.string, u.oneCell' = true := by
  intro u hu
  obtain ⟨s, _, rfl⟩ := List.mem_map.1 hu
  rfl

/-- A new row of no cell. -/
theorem lit0_rowE {w : World} {e : TypeId} {k g b : Nat} (hg : g = w.heap.size) (hb : b ≤ g) : (w.alloc (.cells #[] e)).ownsRow b e k (.slice (some ⟨g, 0, none⟩) 0 0) 0 [] := by
  subst hg
  exact World.ownsRow_lit w #[] 0 hb (Nat.zero_le _) (by simp)
end Go.Proofs.YtlbelkjgaeaaeaaGreat
