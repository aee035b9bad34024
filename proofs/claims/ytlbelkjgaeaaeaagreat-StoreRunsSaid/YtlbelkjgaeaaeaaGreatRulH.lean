/-
  Walks: the reference's Ahead; laws for its Order.
-/
import Derived.Test.YtlbelkjgaeaaeaaGreatRulG
import Derived.Deep.RegionHeld3
import Derived.Deep.AppendLies
namespace Go.Proofs.YtlbelkjgaeaaeaaGreat
open Go.RowKit Go.Shelf Go.Lib Go.Sort
set_option linter.unusedVariables false
set_option linter.unusedSectionVars false

/-- append of rules, told by their cells, onto a row of the call's own. -/
theorem wp_app_cells {w : World} {o : Oper} {a : Act} {K : Act → World → Prop} {Q : Exit → Act → World → Prop} (s x : Operand)
    (ho : o.op = .call { callee := .builtin .append, args := #[s, x], argTypes := #[44, 44] })
    (base : Nat) (okp : Nat → Prop) (v : Value) (xs : List RC) (L : List Rl) (hs : a.eval s = v) (h1 : OwnR okp w base v xs L)
    (ad : Option Addr) (m c : Nat) (ys : List RC) (M : List Rl) (hx : a.eval x = .slice ad m c) (hm : m = M.length) (hyl : ys.length = M.length) (hyc : ∀ p, ad = some p → ∀ j u, (cellsR ys)[j]? = some u → w.cell? (p.add j) = some u)
    (hnil : ad = none → m = 0 ∧ c = 0) (hyr : ∀ i (h : i < ys.length) (h' : i < M.length), RdC okp w ys[i] M[i]) (hp : ∀ b, okp b → v.ownBlock ≠ some b) (tot : Nat) (htot : L.length + M.length = tot)
    (hbytes : tot * 56 ≤ 140737488355328) (hbase : base ≤ w.heap.size)
    (h : ∀ ad cap w', OwnR okp w' base (.slice ad tot cap) (xs ++ ys) (L ++ M) → w.grownBy w' v.ownBlock → K (a.put o.dst (.slice ad tot cap)) w') : o.wp Tryz.prog a w K Q := by
  subst hm
  obtain ⟨i0, hi, hz0, hz1, hz2⟩ := info_parts infoR
  refine wp_append_k s x 44 ho base 62 i0 _ 4 56 Tryz.underlying44 hi hz0 hz1 hz2 rfl (by decide) v L.length (cellsR xs) hs h1.row ad M.length c (cellsR ys) hx (by rw [cellsR_length, hyl]) hyc
    hnil (cellsR_one _) tot htot (by unfold maxLen; omega) hbytes hbase fun ad' cap' w' hown hg => h ad' cap' w' ⟨?_, ?_, ?_⟩ hg
  · rw [cellsR_append, List.length_append, htot]; exact hown
  · rw [List.length_append, List.length_append, h1.len, hyl]
  · have hbut : But (fun b => v.ownBlock = some b) w w' := ⟨hg.os, hg.tape, hg.output, hg.size, fun k hk hn => hg.block k hk (fun e => hn e.symm)⟩
    intro i h3 h4
    by_cases hlt : i < xs.length
    · rw [List.getElem_append_left hlt, List.getElem_append_left (by rw [← h1.len]; exact hlt)]
      exact (h1.rd i hlt (by rw [← h1.len]; exact hlt)).but hbut hp
    · have e1 : i - xs.length < ys.length := by simp at h3; omega
      rw [List.getElem_append_right (by omega), List.getElem_append_right (by rw [← h1.len]; omega)]
      have := hyr (i - xs.length) e1 (by omega)
      simp only [h1.len] at this ⊢
      exact this.but hbut hp

/-- At a step of a region that draws its order. -/
theorem step_app_cells {w : World} {ops : Array Oper} {o : Oper} {a : Act} {K : Act → World → Prop} {Q : Exit → Act → World → Prop} {E : Prop} (hgd : o.guard = none) (s x : Operand)
    (ho : o.op = .call { callee := .builtin .append, args := #[s, x], argTypes := #[44, 44] })
    (base : Nat) (okp : Nat → Prop) (v : Value) (xs : List RC) (L : List Rl) (hs : a.eval s = v) (h1 : OwnR okp w base v xs L)
    (ad : Option Addr) (m c : Nat) (ys : List RC) (M : List Rl) (hx : a.eval x = .slice ad m c) (hm : m = M.length) (hyl : ys.length = M.length) (hyc : ∀ p, ad = some p → ∀ j u, (cellsR ys)[j]? = some u → w.cell? (p.add j) = some u)
    (hnil : ad = none → m = 0 ∧ c = 0) (hyr : ∀ i (h : i < ys.length) (h' : i < M.length), RdC okp w ys[i] M[i]) (hp : ∀ b, okp b → v.ownBlock ≠ some b) (tot : Nat) (htot : L.length + M.length = tot)
    (hbytes : tot * 56 ≤ 140737488355328) (hbase : base ≤ w.heap.size)
    (h : ∀ ad cap w', OwnR okp w' base (.slice ad tot cap) (xs ++ ys) (L ++ M) → w.grownBy w' v.ownBlock → K (a.put o.dst (.slice ad tot cap)) w') :
    if Region.wanted o (yielded ops a.tmps) = true then Oper.wp Tryz.prog o a w K Q else E := by
  have hw : Region.wanted o (yielded ops a.tmps) = true := by simp [Region.wanted, hgd]
  rw [if_pos hw]
  exact wp_app_cells s x ho base okp v xs L hs h1 ad m c ys M hx hm hyl hyc hnil hyr hp tot htot hbytes hbase h

/-- The cells of a new row of one rule. -/
theorem one_cells {W : World} {g : Nat} {x : RC} {e : TypeId} (h : W.heap[g]? = some (.cells #[.int .i64 x.p, .string x.m, .int .i64 x.k, .slice x.a x.n x.c] e (0, 0))) : ∀ p, some (⟨g, 0, none⟩ : Addr) = some p → ∀ j u, (cellsR [x])[j]? = some u → W.cell? (p.add j) = some u := by
  intro p hp j u hj
  injection hp with hp
  subst hp
  have hc : W.cell? ⟨g, j, none⟩ = (#[Value.int .i64 x.p, .string x.m, .int .i64 x.k, .slice x.a x.n x.c] : Array Value)[j]? := by simp [World.cell?, h]
  rw [Addr.add_lit, Nat.zero_add, hc]
  simpa [cellsR, encR] using hj

theorem one_rdC {ok : Nat → Prop} {W : World} {x : RC} {r : Rl} (h : RdC ok W x r) : ∀ i (h : i < [x].length) (h' : i < [r].length), RdC ok W [x][i] [r][i] := by
  intro i h1 h2
  have : i = 0 := by simp at h1; omega
  subst this
  exact h

set_option maxHeartbeats 800000 in
set_option maxRecDepth 20000 in
theorem rAhead_any (x y : RC) (w : World) (q : Bool) (hq : aheadC x y = q) :
    Calls Tryz.prog 41 #[x.v, y.v] w fun e w' => e = .returned (.bool q) ∧ Grn w w' := by
  obtain ⟨p, m, k, a, n, c⟩ := x
  obtain ⟨p2, m2, k2, a2, n2, c2⟩ := y
  unfold aheadC Rp.aheadK at hq
  simp only at hq
  have HG : Hid (Grn w ((w.alloc (.cells #[.int .i64 p, .string m, .int .i64 k, .slice a n c] 62)).alloc (.cells #[.int .i64 p2, .string m2, .int .i64 k2, .slice a2 n2 c2] 62))) := ((Grn.refl w).alloc _).alloc _
  unfold RC.v
  simp only
  by_cases h : p = p2
  · rw [if_pos h] at hq
    unfold Rp.lessB at hq
    have hb : (p != p2) = false := by simpa using h
    clear h
    go_enter Tryz.func41, Tryz.ntmps41
    go_wp2_with fail
    go_ret
    exact ⟨by first | rfl | exact ret_bool hq, HG.out⟩
  · rw [if_neg h] at hq
    have hb : (p != p2) = true := by simpa using h
    clear h
    go_enter Tryz.func41, Tryz.ntmps41
    go_wp2_with fail
    go_ret
    exact ⟨by first | rfl | exact ret_bool hq, HG.out⟩
end Go.Proofs.YtlbelkjgaeaaeaaGreat
