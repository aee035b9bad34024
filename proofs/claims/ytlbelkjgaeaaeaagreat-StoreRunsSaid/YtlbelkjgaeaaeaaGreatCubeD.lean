/-
  Walks over package cube: the deferred call that recovers.
-/
import Derived.Defers
import Derived.Recover
import Derived.WideLaws
import Derived.Laws.Pointers
import Derived.Test.YtlbelkjgaeaaeaaGreatCubeC
namespace Go.Proofs.YtlbelkjgaeaaeaaGreat
open Go.RowKit

set_option maxHeartbeats 400000 in
set_option maxRecDepth 20000 in
theorem caught_idle (p : Addr) (w : World) :
    CallsD Tryz.prog 65 #[.pointer (some p)] .returning w fun e u' w' => e = .returned (.tuple #[]) ∧ u' = .returning ∧ w = w' := by
  refine callsD_of_wpS Tryz.func65 rfl fun c₀ cs hu => ?_
  simp only [Tryz.ntmps65, List.size_toArray, List.length_cons, List.length_nil, Nat.reduceAdd, Nat.reduceSub, Array.replicate_succ,
     Array.replicate_zero, List.push_toArray, List.append_toArray, List.nil_append, List.cons_append]
  apply wpS_seq
  apply wpS_region
  simp [wpOpsS, go_sem, recoverD, hu, Exit.thenS]
  have HU := Lib.hid hu
  clear hu
  apply wpS_of_wp
  generalize hQ : (fun e a' w' => bodyPostS _ _ _ _ _ e a' _ w') = Q
  have HQ := Lib.hid hQ
  clear hQ
  go_wp2_with fail
  rw [← HQ.out]
  exact ⟨rfl, _, by rw [← HU.out], .tuple #[], results_none rfl _ _ _, rfl, rfl, rfl⟩

theorem run_assert_fault (x : Array Value) (w : World) :
    (Instr.typeAssert (.iface 130 (.agg x)) 20 130 true).run Tryz.prog w = .ok (.tuple #[.agg x, .bool true]) w := by
  kernel_rfl

set_option maxHeartbeats 400000 in
set_option maxRecDepth 20000 in
theorem caught_catches (p : Addr) (w : World) (code x : Int) (older : List PanicEntry) (hp : p.block < w.heap.size) (hc : w.cell? p = some (.int .i64 x)) (hz : w.frozen? p = false) :
    CallsD Tryz.prog 65 #[.pointer (some p)] (.panicking ({ v := .iface 130 (.agg #[.int .i64 code]), recovered := false } :: older)) w fun e u' w' =>
      e = .returned (.tuple #[]) ∧ u' = .panicking ({ v := .iface 130 (.agg #[.int .i64 code]), recovered := true } :: older) ∧ Below p.block w w' ∧ w'.cell? p = some (.int .i64 code) := by
  have hta := run_assert_fault #[.int .i64 code] w
  have hB : Below w.heap.size w (w.alloc (.cells #[.int .i64 code] 130)) := (Below.refl _ _).alloc (Nat.le_refl _) _
  have hc2 : (w.alloc (.cells #[.int .i64 code] 130)).cell? p = some (.int .i64 x) := (hB.cell hp).trans hc
  have hz2 : (w.alloc (.cells #[.int .i64 code] 130)).frozen? p = false := (hB.frozen hp).trans hz
  have HB := Lib.hid ((hB.mono (Nat.le_of_lt hp)).setCell (p := p) (Nat.le_refl _) (.int .i64 code))
  have HC := Lib.hid (cell_set_same (.int .i64 code) hc2)
  clear hB
  refine callsD_of_wpS Tryz.func65 rfl fun c₀ cs hu => ?_
  simp only [Tryz.ntmps65, List.size_toArray, List.length_cons, List.length_nil, Nat.reduceAdd, Nat.reduceSub, Array.replicate_succ,
     Array.replicate_zero, List.push_toArray, List.append_toArray, List.nil_append, List.cons_append]
  apply wpS_seq
  apply wpS_region
  simp [wpOpsS, go_sem, recoverD, hu, Exit.thenS]
  have HU := Lib.hid hu
  clear hu
  apply wpS_of_wp
  generalize hQ : (fun e a' w' => bodyPostS _ _ _ _ _ e a' _ w') = Q
  have HQ := Lib.hid hQ
  clear hQ
  go_wp2_with fail
  rw [← HQ.out]
  exact ⟨rfl, _, rfl, .tuple #[], results_none rfl _ _ _, rfl, rfl, HB.out, HC.out⟩

/-- Behind a body that returned: nothing is recovered. -/
theorem door_ret {fn : Func} {tmps : Array Value} {R : Ending → World → Prop} {p : Addr} {W : World} (h : ∃ v, (results fn tmps).run Tryz.prog W = .ok v W ∧ R (.returned v) W) :
    Leaves Tryz.prog fn tmps R [{ target := .fn (.func 65) #[], args := #[.pointer (some p)] }] .returning W := by
  refine leaves_cons (f := 65) (args := #[.pointer (some p)]) (by simp) (by simp [go_sem]) ?_
  refine (caught_idle _ _).mono ?_
  rintro e u' w'' ⟨rfl, rfl, rfl⟩
  exact h

/-- Behind a body that panicked with a fault of the package: its code is laid. -/
theorem door_fault {fn : Func} {tmps : Array Value} {R : Ending → World → Prop} {p : Addr} {W : World} (code x : Int) (hp : p.block < W.heap.size) (hc : W.cell? p = some (.int .i64 x)) (hz : W.frozen? p = false)
    (h : ∀ W', Below p.block W W' → W'.cell? p = some (.int .i64 code) → ∃ v, (results fn tmps).run Tryz.prog W' = .ok v W' ∧ R (.returned v) W') :
    Leaves Tryz.prog fn tmps R [{ target := .fn (.func 65) #[], args := #[.pointer (some p)] }] (.panicking [{ v := .iface 130 (.agg #[.int .i64 code]), recovered := false }]) W := by
  refine leaves_cons (f := 65) (args := #[.pointer (some p)]) (by simp) (by simp [go_sem]) ?_
  refine (caught_catches _ _ code x [] hp hc hz).mono ?_
  rintro e u' w'' ⟨rfl, rfl, hB, hC⟩
  exact h w'' hB hC
end Go.Proofs.YtlbelkjgaeaaeaaGreat
