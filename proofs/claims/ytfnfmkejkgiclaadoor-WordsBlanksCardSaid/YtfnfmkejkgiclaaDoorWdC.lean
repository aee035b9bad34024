/-
  Walks over package words: the deferred call of Lines.
-/
import Derived.Test.YtfnfmkejkgiclaaDoorWdB
import Derived.Test.YtfnfmkejkgiclaaDoorRangeP
import Derived.RegionTactic
import Derived.Defers
import Derived.Recover
import Derived.WideLaws
import Derived.Laws.Pointers
namespace Go.Proofs.YtfnfmkejkgiclaaDoor
open Go.RowKit
set_option linter.unusedVariables false
set_option linter.unusedSimpArgs false

set_option maxHeartbeats 400000 in
set_option maxRecDepth 20000 in
theorem lcaught_idle (p q r t : Addr) (w : World) :
    CallsD Tryd.prog 22 #[.pointer (some p), .pointer (some q), .pointer (some r), .pointer (some t)] .returning w fun e u' w' => e = .returned (.tuple #[]) ∧ u' = .returning ∧ w = w' := by
  refine callsD_of_wpS Tryd.func22 rfl fun c₀ cs hu => ?_
  simp only [Tryd.ntmps22, List.size_toArray, List.length_cons, List.length_nil, Nat.reduceAdd, Nat.reduceSub, Array.replicate_succ,
     Array.replicate_zero, List.push_toArray, List.append_toArray, List.nil_append, List.cons_append]
  apply wpS_seq
  apply wpS_region
  simp [wpOpsS, go_sem, recoverD, hu, Exit.thenS]
  have HU := Lib.hid hu
  clear hu
  apply wpS_of_wp
  generalize hQ : (fun e a' w' => bodyPostS _ _ _ _ _ e a' _ w') = Q
  have HQ := Lib.hid hQ
  clear hQ
  go_wp2_with fail
  rw [← HQ.out]
  exact ⟨rfl, _, by rw [← HU.out], .tuple #[], results_none rfl _ _ _, rfl, rfl, rfl⟩

theorem run_assert_wfault (x : Array Value) (w : World) :
    (Instr.typeAssert (.iface 49 (.agg x)) 20 49 true).run Tryd.prog w = .ok (.tuple #[.agg x, .bool true]) w := by
  kernel_rfl

set_option maxHeartbeats 1600000 in
set_option maxRecDepth 20000 in
theorem lcaught_catches (N : Nat) (w : World) (num col : Int) (v0 v1 v2 v3 : Value) (older : List PanicEntry) (hN : N + 3 < w.heap.size)
    (c0 : w.cell? ⟨N, 0, none⟩ = some v0) (c1 : w.cell? ⟨N + 1, 0, none⟩ = some v1) (c2 : w.cell? ⟨N + 2, 0, none⟩ = some v2) (c3 : w.cell? ⟨N + 3, 0, none⟩ = some v3)
    (z0 : w.frozen? ⟨N, 0, none⟩ = false) (z1 : w.frozen? ⟨N + 1, 0, none⟩ = false) (z2 : w.frozen? ⟨N + 2, 0, none⟩ = false) (z3 : w.frozen? ⟨N + 3, 0, none⟩ = false) :
    CallsD Tryd.prog 22 #[.pointer (some ⟨N, 0, none⟩), .pointer (some ⟨N + 1, 0, none⟩), .pointer (some ⟨N + 2, 0, none⟩), .pointer (some ⟨N + 3, 0, none⟩)] (.panicking ({ v := .iface 49 (.agg #[.int .i64 num, .int .i64 col]), recovered := false } :: older)) w fun e u' w' =>
      e = .returned (.tuple #[]) ∧ u' = .panicking ({ v := .iface 49 (.agg #[.int .i64 num, .int .i64 col]), recovered := true } :: older) ∧ Below N w w' ∧
      w'.cell? ⟨N, 0, none⟩ = some (.slice none 0 0) ∧ w'.cell? ⟨N + 1, 0, none⟩ = some (.int .i64 num) ∧ w'.cell? ⟨N + 2, 0, none⟩ = some (.int .i64 col) ∧ w'.cell? ⟨N + 3, 0, none⟩ = some (.int .i64 30) := by
  have hta := run_assert_wfault #[.int .i64 num, .int .i64 col] w
  obtain ⟨W1, hW1⟩ : ∃ W1, W1 = w.alloc (.cells #[.int .i64 num, .int .i64 col] 49) := ⟨_, rfl⟩
  have hB : Below w.heap.size w W1 := by rw [hW1]; exact (Below.refl _ _).alloc (Nat.le_refl _) _
  have hf : ∀ o, o < w.heap.size → W1.frozen? ⟨o, 0, none⟩ = w.frozen? ⟨o, 0, none⟩ := fun o h => (But.below hB).frozen (S := fun _ => False) (p := ⟨o, 0, none⟩) h (fun h => h)
  have d0 := (hB.cell (p := ⟨N, 0, none⟩) (by show N < _; omega)).trans c0
  have d1 := (hB.cell (p := ⟨N + 1, 0, none⟩) (by show N + 1 < _; omega)).trans c1
  have d2 := (hB.cell (p := ⟨N + 2, 0, none⟩) (by show N + 2 < _; omega)).trans c2
  have d3 := (hB.cell (p := ⟨N + 3, 0, none⟩) (by show N + 3 < _; omega)).trans c3
  have y0 := (hf N (by omega)).trans z0
  have y1 := (hf (N + 1) (by omega)).trans z1
  have y2 := (hf (N + 2) (by omega)).trans z2
  have y3 := (hf (N + 3) (by omega)).trans z3
  have f0 : W1.cell? ⟨w.heap.size, 0, none⟩ = some (.int .i64 num) := by rw [hW1]; simp [go_sem]
  have f1 : W1.cell? ⟨w.heap.size, 1, none⟩ = some (.int .i64 col) := by rw [hW1]; simp [go_sem]
  have HW1 := Lib.hid hW1
  have HB := Lib.hid hB
  have hn0 : ¬ (w.heap.size = N) := by omega
  clear hB hf c0 c1 c2 c3 z0 z1 z2 z3 hW1
  refine callsD_of_wpS Tryd.func22 rfl fun c₀ cs hu => ?_
  simp only [Tryd.ntmps22, List.size_toArray, List.length_cons, List.length_nil, Nat.reduceAdd, Nat.reduceSub, Array.replicate_succ,
     Array.replicate_zero, List.push_toArray, List.append_toArray, List.nil_append, List.cons_append]
  apply wpS_seq
  apply wpS_region
  simp [wpOpsS, go_sem, recoverD, hu, Exit.thenS]
  have HU := Lib.hid hu
  clear hu
  apply wpS_of_wp
  generalize hQ : (fun e a' w' => bodyPostS _ _ _ _ _ e a' _ w') = Q
  have HQ := Lib.hid hQ
  clear hQ
  go_wp2_with fail
  rw [← HW1.out]
  go_region
  all_goals
    go_wp2_with fail
    rw [← HQ.out]
    refine ⟨rfl, _, rfl, .tuple #[], results_none rfl _ _ _, rfl, rfl, ?_⟩
    have e : ∀ i j, i ≠ j → (⟨N + i, 0, none⟩ : Addr) ≠ ⟨N + j, 0, none⟩ := fun i j h h2 => by injection h2 with h2 _ _; omega
    have k1 := cell_set_same (.slice none 0 0) d0
    have k2 := cell_set_same (w := W1.setCell ⟨N, 0, none⟩ (.slice none 0 0)) (a := ⟨N + 1, 0, none⟩) (.int .i64 num) ((cell_set_other _ (e 0 1 (by omega))).trans d1)
    have k3 := cell_set_same (w := (W1.setCell ⟨N, 0, none⟩ (.slice none 0 0)).setCell ⟨N + 1, 0, none⟩ (.int .i64 num)) (a := ⟨N + 2, 0, none⟩) (.int .i64 col) ((cell_set_other _ (e 1 2 (by omega))).trans ((cell_set_other _ (e 0 2 (by omega))).trans d2))
    have k4 := cell_set_same (w := ((W1.setCell ⟨N, 0, none⟩ (.slice none 0 0)).setCell ⟨N + 1, 0, none⟩ (.int .i64 num)).setCell ⟨N + 2, 0, none⟩ (.int .i64 col)) (a := ⟨N + 3, 0, none⟩) (.int .i64 30) ((cell_set_other _ (e 2 3 (by omega))).trans ((cell_set_other _ (e 1 3 (by omega))).trans ((cell_set_other _ (e 0 3 (by omega))).trans d3)))
    refine ⟨?_, ?_, ?_, ?_, k4⟩
    · exact Below.drew (((((HB.out.mono (show N ≤ w.heap.size by omega)).setCell (p := ⟨N, 0, none⟩) (Nat.le_refl _) _).setCell (p := ⟨N + 1, 0, none⟩) (by show N ≤ N + 1; omega) _).setCell (p := ⟨N + 2, 0, none⟩) (by show N ≤ N + 2; omega) _).setCell (p := ⟨N + 3, 0, none⟩) (by show N ≤ N + 3; omega) _)
    · exact (cell_set_other _ (e 3 0 (by omega))).trans ((cell_set_other _ (e 2 0 (by omega))).trans ((cell_set_other _ (e 1 0 (by omega))).trans k1))
    · exact (cell_set_other _ (e 3 1 (by omega))).trans ((cell_set_other _ (e 2 1 (by omega))).trans k2)
    · exact (cell_set_other _ (e 3 2 (by omega))).trans k3
end Go.Proofs.YtfnfmkejkgiclaaDoor
