/-
  Walks: slices.Delete of one rule out of a row of the call's own.
-/
import Derived.Test.YtlbelkjgaeaaeaaGreatFibD
import Derived.Deep.RegionLaw
namespace Go.Proofs.YtlbelkjgaeaaeaaGreat
open Go.RowKit Go.Shelf Go.Lib Go.Sort
set_option linter.unusedVariables false
set_option linter.unusedSectionVars false

def zR : List Value := [.int .i64 0, .string ⟨#[]⟩, .int .i64 0, .slice none 0 0]

theorem run_clear_rule (w : World) (ty : TypeId) (b o c : Nat) (hc : ∀ j, j < 4 → (w.cell? ⟨b, o + j, none⟩).isSome = true) (hf : ∀ j, j < 4 → w.frozen? ⟨b, o + j, none⟩ = false) :
    (Builtin.clear_ #[44] ty #[.slice (some ⟨b, o, none⟩) 1 c]).run Tryz.prog w = .ok (.tuple #[]) (w.setCells b o zR) := by
  have hst := run_storeCells_cells (P := Tryz.prog) b o zR 0 w (by simpa [zR] using hc) (by simpa [zR] using hf) (by intro v hv; simp [zR] at hv; rcases hv with rfl | rfl | rfl | rfl <;> rfl)
  simp only [Nat.add_zero] at hst
  have hz : (Builtin.zeroCells (Value.agg #[.int .i64 0, .string ⟨#[]⟩, .int .i64 0, .slice none 0 0]).cells 1).toList = zR := by first | kernel_rfl | simp [Builtin.zeroCells, zR]
  simp [Builtin.clear_, run_underlying Tryz.underlying44, Tryz.zeroValue62, hz, hst]

theorem but_setCells {S : Nat → Prop} (b : Nat) (hb : S b) : ∀ (vs : List Value) (o : Nat) (w : World), But S w (w.setCells b o vs)
  | [], _, w => But.refl S w
  | v :: r, o, w => (But.set (S := S) (a := ⟨b, o, none⟩) hb v).trans (but_setCells b hb r (o + 1) _)

theorem but_drew (S : Nat → Prop) (w : World) : But S w w.drew := ⟨rfl, rfl, rfl, Nat.le_refl _, fun _ _ _ => rfl⟩

set_option maxHeartbeats 1600000 in
set_option maxRecDepth 20000 in
theorem delete_cells (g n cap i j : Nat) (cs : List Value) (w : World) (hlen : cs.length = n * 4) (hone : ∀ u ∈ cs, u.oneCell' = true) (hcell : ∀ t, t < n * 4 → w.cell? ⟨g, t, none⟩ = cs[t]?) (hfrz : ∀ t, w.frozen? ⟨g, t, none⟩ = false) (hcap : n ≤ cap) (hm : cap ≤ 9223372036854775807) (hij : j = i + 1) (hj : j ≤ n) :
    Calls Tryz.prog 62 #[.slice (some ⟨g, 0, none⟩) n cap, .int .i64 i, .int .i64 j] w fun e w' => e = .returned (.slice (some ⟨g, 0, none⟩) (n - 1) cap) ∧ w' = (w.drew.setCells g (i * 4) (cs.drop (j * 4))).setCells g ((n - 1) * 4) zR := by
  have mixed : Tryz.prog.follows .mixedOrders = true := rowProg.mixed
  obtain ⟨i0, hi0, hz0, hz1, hz2⟩ := info_parts infoR
  obtain ⟨news, hnews⟩ : ∃ news, news = cs.drop (j * 4) := ⟨_, rfl⟩
  have hnl : news.length = (n - j) * 4 := by rw [hnews, List.length_drop, hlen]; omega
  obtain ⟨A, hA, hsrc⟩ : ∃ A : Addr, (if cap = j then some (⟨g, 0, none⟩ : Addr) else some ⟨g, j * 4, none⟩) = some A ∧ Hid (∀ t u, news[t]? = some u → w.drew.cell? (A.add t) = some u) := by
    by_cases h : cap = j
    · refine ⟨⟨g, 0, none⟩, by simp [h], fun t u hu => ?_⟩
      have h0 : news.length = 0 := by rw [hnl]; omega
      rw [List.length_eq_zero_iff.1 h0] at hu
      simp at hu
    · refine ⟨⟨g, j * 4, none⟩, by simp [h], fun t u hu => ?_⟩
      have ht : t < (n - j) * 4 := by
        have := (List.getElem?_eq_some_iff.1 hu).1
        rwa [hnl] at this
      rw [hnews, List.getElem?_drop] at hu
      rw [Addr.add_lit]
      exact (hcell (j * 4 + t) (by omega)).trans hu
  have s1 : Hid (news.length = (n - j) * 4) := hnl
  have s2 : Hid (∀ u ∈ news, u.oneCell' = true) := fun u hu => hone u (by rw [hnews] at hu; exact List.mem_of_mem_drop hu)
  have s3 : Hid (∀ t, t < news.length → (w.drew.cell? ⟨g, 0 + i * 4 + t, none⟩).isSome = true ∧ w.drew.frozen? ⟨g, 0 + i * 4 + t, none⟩ = false) := by
    intro t ht
    rw [hnl] at ht
    refine ⟨?_, hfrz _⟩
    show (w.cell? _).isSome = true
    rw [Nat.zero_add, hcell (i * 4 + t) (by omega), List.getElem?_eq_getElem (by omega)]
    rfl
  obtain ⟨W1, hW1⟩ : ∃ W1, W1 = w.drew.setCells g (i * 4) news := ⟨_, rfl⟩
  have hW : Hid (W1 = w.drew.setCells g (0 + i * 4) news) := by show _ = _; rw [hW1, Nat.zero_add]
  have X : Hid (W1 = w.drew.setCells g (i * 4) (cs.drop (j * 4))) := by show _ = _; rw [hW1, hnews]
  have hcl : ∀ ty c, (Builtin.clear_ #[44] ty #[.slice (some ⟨g, (n - 1) * 4, none⟩) (n - (n - 1)) c]).run Tryz.prog W1 = .ok (.tuple #[]) (W1.setCells g ((n - 1) * 4) zR) := fun ty c => by
    rw [show n - (n - 1) = 1 by omega]
    exact run_clear_rule W1 ty g _ c (fun t ht => by
      rw [hW1]
      refine World.isSome_setCells g _ _ _ _ ?_
      show (w.cell? _).isSome = true
      rw [hcell _ (by omega), List.getElem?_eq_getElem (by omega)]
      rfl) (fun t ht => by rw [hW1, World.frozen?_setCells]; exact hfrz _)
  have hij' := Lib.hid hij
  have hle : i ≤ j := by omega
  have hic : i ≤ cap := by omega
  have hin : i ≤ n := by omega
  have hjc : j ≤ cap := by omega
  have hn1 : Hid (i + (n - j) = n - 1) := by show _ = _; omega
  have hn2 : Hid (n - (n - 1) = 1) := by show _ = _; omega
  have hcn : ¬ cap = n - 1 := by omega
  have hni : ¬ n = i := by omega
  have hne : ((i : Int) == (j : Int)) = false := by simp; omega
  clear hW1 hcell hfrz hnews hnl hlen hone hij
  go_enter Tryz.func62, Tryz.ntmps62
  go_wp2_with fail
  go_region_law_o (refine step_append_room rfl (.tmp 22) (.tmp 25) 44 rfl 62 i0 4 Tryz.underlying44 hi0 hz1 g 0 i cap (by simp [Act.eval, Act.put]) A (n - j) (cap - j) news (by simp [Act.eval, Act.put]) s1.out hsrc.out s2.out (by omega) s3.out ?_; rw [← hW.out])
  rw [hn1.out]
  go_wp2_with fail
  go_ret
  exact ⟨rfl, by rw [X.out]⟩

/-- The row behind its cells. -/
theorem rdsR_ofCells {ok : Nat → Prop} {w : World} {g cap : Nat} {xs : List RC} {L : List Rl} (hg : g < w.heap.size) (hok : ok g) (hlen : xs.length = L.length) (hcap : L.length ≤ cap) (hm : cap ≤ maxLen) (hc : ∀ t, t < L.length * 4 → w.cell? ⟨g, t, none⟩ = (cellsR xs)[t]?) (hr : ∀ i (h : i < xs.length) (h' : i < L.length), RdC ok w xs[i] L[i]) : RdsR ok w (.slice (some ⟨g, 0, none⟩) L.length cap) L := by
  refine ⟨xs, some ⟨g, 0, none⟩, L.length, cap, rfl, rfl, hlen, ⟨hcap, fun e => by cases e⟩, hm, okV_some hok, ?_, hr⟩
  intro i hi
  obtain ⟨g0, g1, g2, g3⟩ := cellsR_get xs i hi
  have hi' : i < L.length := by rw [← hlen]; exact hi
  refine ⟨g, 0, rfl, hg, ?_, ?_, ?_, ?_⟩
  · rw [Nat.zero_add, hc _ (by omega)]; exact g0
  · rw [Nat.zero_add, hc _ (by omega)]; exact g1
  · rw [Nat.zero_add, hc _ (by omega)]; exact g2
  · rw [Nat.zero_add, hc _ (by omega)]; exact g3

theorem OwnR.caps {ok : Nat → Prop} {w : World} {base g n cap : Nat} {xs : List RC} {L : List Rl} (h : OwnR ok w base (.slice (some ⟨g, 0, none⟩) n cap) xs L) : n = L.length ∧ n ≤ cap ∧ cap ≤ maxLen := by
  obtain ⟨⟨h1, h2⟩, h3, h4⟩ := h
  rcases h2 with ⟨h2, _⟩ | ⟨g', cap', cur, hv, _, _, hn, hc, _⟩
  · cases h2
  · injection hv with _ e2 e3; subst e2 e3; exact ⟨rfl, hn, hc⟩

/-- slices.Delete of the rule at i, out of a row of the call's own. -/
theorem delete_rule {ok : Nat → Prop} {w : World} {base g cap n : Nat} {xs : List RC} {L : List Rl} (h : OwnR ok w base (.slice (some ⟨g, 0, none⟩) n cap) xs L) (hok : ∀ b, ok b → b ≠ g) (i j : Nat) (hij : j = i + 1) (hi : i < n) :
    Calls Tryz.prog 62 #[.slice (some ⟨g, 0, none⟩) n cap, .int .i64 i, .int .i64 j] w fun e w' => e = .returned (.slice (some ⟨g, 0, none⟩) (n - 1) cap) ∧ RdsR (fun b => b = g ∨ ok b) w' (.slice (some ⟨g, 0, none⟩) (n - 1) cap) (L.take i ++ L.drop j) ∧ But (fun b => b = g) w w' := by
  obtain ⟨hn, hcap, hm⟩ := h.caps
  have hxn : xs.length = n := by rw [hn]; exact h.len
  have hlt := (h.row.lt g rfl).2
  have hcell : ∀ t, t < n * 4 → w.cell? ⟨g, t, none⟩ = (cellsR xs)[t]? := fun t ht => by subst hn; exact h.row.cellAt t ht
  have hd := delete_cells g n cap i j (cellsR xs) w (by rw [cellsR_length, hxn]) (cellsR_one _) hcell (fun t => by subst hn; exact h.row.frozenAt t) hcap (by unfold maxLen at hm; omega) hij (by omega)
  refine hd.mono ?_
  rintro e w' ⟨rfl, rfl⟩
  have hbut : But (fun b => b = g) w ((w.drew.setCells g (i * 4) ((cellsR xs).drop (j * 4))).setCells g ((n - 1) * 4) zR) := ((but_drew (fun b => b = g) w).trans (but_setCells (S := fun b => b = g) g rfl _ _ _)).trans (but_setCells (S := fun b => b = g) g rfl _ _ _)
  refine ⟨rfl, ?_, hbut⟩
  have hl1 : (L.take i ++ L.drop j).length = n - 1 := by simp; omega
  have hl2 : (xs.take i ++ xs.drop j).length = (L.take i ++ L.drop j).length := by simp [h.len]
  have hcs : cellsR (xs.take i ++ xs.drop j) = (cellsR xs).take (i * 4) ++ (cellsR xs).drop (j * 4) := by rw [cellsR_append, cellsR_take, cellsR_drop]
  have hdl : ((cellsR xs).drop (j * 4)).length = (n - j) * 4 := by rw [List.length_drop, cellsR_length, hxn]; omega
  have htl : ((cellsR xs).take (i * 4)).length = i * 4 := by rw [List.length_take, cellsR_length, hxn]; omega
  have := rdsR_ofCells (ok := fun b => b = g ∨ ok b) (w := (w.drew.setCells g (i * 4) ((cellsR xs).drop (j * 4))).setCells g ((n - 1) * 4) zR) (g := g) (cap := cap) (xs := xs.take i ++ xs.drop j) (L := L.take i ++ L.drop j) (Nat.lt_of_lt_of_le hlt hbut.size) (.inl rfl) hl2 (by rw [hl1]; omega) hm ?_ ?_
  · rw [hl1] at this; exact this
  · intro t ht
    rw [hl1] at ht
    rw [World.cell?_setCells_out g _ _ _ _ (fun _ _ => .inl ht), hcs]
    by_cases h1 : t < i * 4
    · rw [World.cell?_setCells_out g _ _ _ _ (fun _ _ => .inl h1), List.getElem?_append_left (by rw [htl]; exact h1), List.getElem?_take, if_pos h1]
      exact hcell t (by omega)
    · obtain ⟨k, rfl⟩ : ∃ k, t = i * 4 + k := ⟨t - i * 4, by omega⟩
      have hk : k < ((cellsR xs).drop (j * 4)).length := by rw [hdl]; omega
      rw [World.cell?_setCells_in g _ _ _ ?_ k hk, List.getElem?_append_right (by rw [htl]; omega), htl, show i * 4 + k - i * 4 = k by omega, List.getElem?_eq_getElem hk]
      intro q hq
      show (w.cell? _).isSome = true
      rw [hcell _ (by omega), List.getElem?_eq_getElem (by rw [cellsR_length, hxn]; omega)]
      rfl
  · intro q h1 h2
    have key : ∀ {x : RC} {r : Rl}, RdC ok w x r → RdC (fun b => b = g ∨ ok b) ((w.drew.setCells g (i * 4) ((cellsR xs).drop (j * 4))).setCells g ((n - 1) * 4) zR) x r := fun hx => (hx.but hbut hok).mono fun b hb => .inr hb
    have hil : i ≤ L.length := by omega
    by_cases hq : q < i
    · rw [List.getElem_append_left (by rw [List.length_take, hxn]; omega), List.getElem_append_left (by rw [List.length_take]; omega), List.getElem_take, List.getElem_take]
      exact key (h.rd q (by omega) (by omega))
    · have e1 : (xs.take i).length = i := by rw [List.length_take, hxn]; omega
      have e2 : (L.take i).length = i := by rw [List.length_take]; omega
      rw [List.getElem_append_right (by rw [e1]; omega), List.getElem_append_right (by rw [e2]; omega), List.getElem_drop, List.getElem_drop]
      simp only [e1, e2]
      exact key (h.rd _ (by simp at h1; omega) (by simp at h2; omega))
end Go.Proofs.YtlbelkjgaeaaeaaGreat
