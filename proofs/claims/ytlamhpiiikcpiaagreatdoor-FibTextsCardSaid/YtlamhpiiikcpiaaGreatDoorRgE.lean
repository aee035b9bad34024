/-
  Walks over package words: Lines.
-/
import Derived.Test.YtlamhpiiikcpiaaGreatDoorRgD
import Derived.Outline
import Derived.Lib.AppendStr
import Derived.Lib.SmallJoins
import Derived.Test.YtlamhpiiikcpiaaGreatDoorRgB
namespace Go.Proofs.YtlamhpiiikcpiaaGreatDoor
open Go.RowKit Go.Shelf
set_option linter.unusedVariables false
set_option linter.unusedSimpArgs false
attribute [local go_sem] Oper.semAt_some
/-- What Lines tells. -/
def LinesPost (s : ByteArray) (w : World) (e : Ending) (w' : World) : Prop :=
  match Wd.lines s.data.toList with
  | .ok acc => ∃ v, e = .returned (.tuple #[v, .int .i64 0, .int .i64 0, .int .i64 0]) ∧ RdsLn (fun b => w.heap.size ≤ b) w' v acc ∧ Below w.heap.size w w'
  | .error (num, p) => e = .returned (.tuple #[.slice none 0 0, .int .i64 num, .int .i64 ((p : Int) + 1), .int .i64 30]) ∧ Below w.heap.size w w'
theorem res_lines (w : World) (N : Nat) (tmps : Array Value) (ad : Option Addr) (n c : Nat) (x y z : Int) (t2 : tmps.getD 2 undef = .pointer (some ⟨N, 0, none⟩)) (t3 : tmps.getD 3 undef = .pointer (some ⟨N + 1, 0, none⟩)) (t4 : tmps.getD 4 undef = .pointer (some ⟨N + 2, 0, none⟩)) (t5 : tmps.getD 5 undef = .pointer (some ⟨N + 3, 0, none⟩))
    (h0 : w.cell? ⟨N, 0, none⟩ = some (.slice ad n c)) (h1 : w.cell? ⟨N + 1, 0, none⟩ = some (.int .i64 x)) (h2 : w.cell? ⟨N + 2, 0, none⟩ = some (.int .i64 y)) (h3 : w.cell? ⟨N + 3, 0, none⟩ = some (.int .i64 z)) :
    (results Tryz.f47 tmps).run Tryz.prog w = .ok (.tuple #[.slice ad n c, .int .i64 x, .int .i64 y, .int .i64 z]) w := by
  rw [Array.getD_eq_getD_getElem?] at t2 t3 t4 t5
  simp [results, t2, t3, t4, t5, loadVar, asAddr, go_sem, Tryz.isAgg110, Tryz.sizeOf110, Tryz.isAgg3, Tryz.sizeOf3, Tryz.isAgg28, Tryz.sizeOf28, h0, h1, h2, h3]
set_option maxHeartbeats 800000 in
set_option maxRecDepth 20000 in
theorem lines_long (s : ByteArray) (w : World) (hs : (1048576 : Int) < s.size) :
    Calls Tryz.prog 47 #[.string s] w fun e w' => e = .returned (.tuple #[.slice none 0 0, .int .i64 0, .int .i64 0, .int .i64 2]) ∧ Below w.heap.size w w' := by
  go_enter_defers Tryz.func47, Tryz.ntmps47
  go_wp2_with fail
  refine ⟨_, res_lines _ w.heap.size _ none 0 0 0 0 2 rfl rfl rfl rfl ?_ ?_ ?_ ?_, rfl, ?_⟩
  · simp [go_sem]
  · simp [go_sem]
  · simp [go_sem]
  · simp [go_sem]
  · exact (((((Below.refl _ _).alloc (Nat.le_refl _) _).alloc (by simp) _).alloc (by simp; omega) _).alloc (by simp; omega) _)
theorem splitSeq_any (s : ByteArray) (w : World) : Calls Tryz.prog 82 #[.string s, .string ⟨#[10]⟩] w fun e w' =>
    e = .returned (.func (.func 133) #[] #[.pointer (some ⟨w.heap.size + 1, 0, none⟩), .pointer (some ⟨w.heap.size, 0, none⟩), .pointer (some ⟨w.heap.size + 2, 0, none⟩)]) ∧
    w' = ((w.alloc (.cells #[.string s] 9)).alloc (.cells #[.string ⟨#[10]⟩] 9)).alloc (.cells #[.int .i64 0] 3) := by
  have h : ∀ W, Calls Tryz.prog 111 #[.string s, .string ⟨#[10]⟩, .int .i64 0] W fun e w' =>
    e = .returned (.func (.func 133) #[] #[.pointer (some ⟨W.heap.size + 1, 0, none⟩), .pointer (some ⟨W.heap.size, 0, none⟩), .pointer (some ⟨W.heap.size + 2, 0, none⟩)]) ∧
    w' = ((W.alloc (.cells #[.string s] 9)).alloc (.cells #[.string ⟨#[10]⟩] 9)).alloc (.cells #[.int .i64 0] 3) := by
    intro W
    go_enter Tryz.func111, Tryz.ntmps111
    go_wp2_with fail
    go_ret
    exact ⟨rfl, rfl⟩
  have H := Lib.hid h
  clear h
  go_enter Tryz.func82, Tryz.ntmps82
  go_wp2_with ((with_reducible refine (H.out _).mono ?_); rintro e w' ⟨rfl, rfl⟩)
  go_ret
  exact ⟨rfl, rfl⟩
theorem But.put {S : Nat → Prop} {w : World} {b : Nat} (hs : S b) (o : Obj) : But S w (w.putObj b o) :=
  ⟨rfl, rfl, rfl, by simp [World.putObj], fun k _ hn => World.putObj_heap_other (fun e => hn (e ▸ hs))⟩
theorem heap_al (w : World) (o : Obj) : (w.alloc o).heap = w.heap.push o := rfl
theorem But.alloc {S : Nat → Prop} {w : World} (o : Obj) : But S w (w.alloc o) := But.below ((Below.refl _ _).alloc (Nat.le_refl _) _)
theorem split_len : ∀ (l : List UInt8), (Wd.split l).length ≤ l.length + 1 ∧ ∀ x ∈ Wd.split l, x.length ≤ l.length
  | [] => by simp [Wd.split]
  | c :: t => by
    obtain ⟨h1, h2⟩ := split_len t
    simp only [Wd.split]
    split
    · refine ⟨by simp; omega, fun x hx => ?_⟩
      rcases List.mem_cons.1 hx with rfl | hx
      · simp
      · have := h2 x hx; simp; omega
    · have hne := Wd.split_ne t
      cases hs : Wd.split t with
      | nil => exact absurd hs hne
      | cons a r =>
        rw [hs] at h1 h2
        simp only [List.headD_cons, List.tail_cons, List.length_cons] at h1 ⊢
        refine ⟨by omega, fun x hx => ?_⟩
        rcases List.mem_cons.1 hx with rfl | hx
        · have := h2 a (by simp); simp; omega
        · have := h2 x (by simp [hx]); omega
theorem infoWs : (Tryz.prog.info? 116).map (fun i => (i.zero, i.size, i.bytes)) = some (some (.slice none 0 0), 1, 24) := by kernel_rfl
theorem cells_one {W : World} {b : Nat} {v : Value} {t : TypeId} (h : W.heap[b]? = some (.cells #[v] t (0, 0))) : W.cell? ⟨b, 0, none⟩ = some v ∧ W.frozen? ⟨b, 0, none⟩ = false := by
  constructor <;> simp [World.cell?, World.frozen?, h]
theorem four_set {W : World} {N : Nat} {a0 a1 a2 a3 : Value} (a b c d : Value) (c0 : W.cell? ⟨N, 0, none⟩ = some a0) (c1 : W.cell? ⟨N + 1, 0, none⟩ = some a1) (c2 : W.cell? ⟨N + 2, 0, none⟩ = some a2) (c3 : W.cell? ⟨N + 3, 0, none⟩ = some a3) :
    ∃ W6, W6 = ((((W.setCell ⟨N, 0, none⟩ a).setCell ⟨N + 1, 0, none⟩ b).setCell ⟨N + 2, 0, none⟩ c).setCell ⟨N + 3, 0, none⟩ d) ∧ W6.cell? ⟨N, 0, none⟩ = some a ∧ W6.cell? ⟨N + 1, 0, none⟩ = some b ∧ W6.cell? ⟨N + 2, 0, none⟩ = some c ∧ W6.cell? ⟨N + 3, 0, none⟩ = some d ∧ But (fun j => N ≤ j ∧ j ≤ N + 3) W W6 := by
  have e : ∀ i j, i ≠ j → (⟨N + i, 0, none⟩ : Addr) ≠ ⟨N + j, 0, none⟩ := fun i j h h2 => by injection h2 with h2 _ _; omega
  have k1 := cell_set_same a c0
  have k2 := cell_set_same (w := W.setCell ⟨N, 0, none⟩ a) (a := ⟨N + 1, 0, none⟩) b ((cell_set_other _ (e 0 1 (by omega))).trans c1)
  have k3 := cell_set_same (w := (W.setCell ⟨N, 0, none⟩ a).setCell ⟨N + 1, 0, none⟩ b) (a := ⟨N + 2, 0, none⟩) c ((cell_set_other _ (e 1 2 (by omega))).trans ((cell_set_other _ (e 0 2 (by omega))).trans c2))
  have k4 := cell_set_same (w := ((W.setCell ⟨N, 0, none⟩ a).setCell ⟨N + 1, 0, none⟩ b).setCell ⟨N + 2, 0, none⟩ c) (a := ⟨N + 3, 0, none⟩) d ((cell_set_other _ (e 2 3 (by omega))).trans ((cell_set_other _ (e 1 3 (by omega))).trans ((cell_set_other _ (e 0 3 (by omega))).trans c3)))
  have hb : ∀ (X : World) (i : Nat) (u : Value), i ≤ 3 → But (fun j => N ≤ j ∧ j ≤ N + 3) X (X.setCell ⟨N + i, 0, none⟩ u) := fun X i u hi => But.set (S := fun j => N ≤ j ∧ j ≤ N + 3) (a := ⟨N + i, 0, none⟩) ⟨by show N ≤ N + i; omega, by show N + i ≤ N + 3; omega⟩ _
  refine ⟨_, rfl, ?_, ?_, ?_, k4, (((hb _ 0 _ (by omega)).trans (hb _ 1 _ (by omega))).trans (hb _ 2 _ (by omega))).trans (hb _ 3 _ (by omega))⟩
  · exact (cell_set_other _ (e 3 0 (by omega))).trans ((cell_set_other _ (e 2 0 (by omega))).trans ((cell_set_other _ (e 1 0 (by omega))).trans k1))
  · exact (cell_set_other _ (e 3 1 (by omega))).trans ((cell_set_other _ (e 2 1 (by omega))).trans k2)
  · exact (cell_set_other _ (e 3 2 (by omega))).trans k3
/-- The loop's record. -/
def recOf (f : FuncId) (tmps : Array Value) (t : Tmp) (assign body : Code) (N : Nat) (st : LoopState) : Loop :=
  { state := st, pending := none, fn := f, tmps := tmps, params := #[t], assign := assign, body := body, defers := N + 9 }
theorem LnSt.put {N : Nat} {w : World} {s : ByteArray} {rec : Loop} {pre : List (List UInt8)} {acc : List (List Wrd)} {v : Value} {us : List Value} {W : World} (h : LnSt N w s rec pre acc v us W) (rec' : Loop) : LnSt N w s rec' pre acc v us (W.putObj (N + 10) (.loop rec')) := by
  have hsz := h.size
  have f : ∀ k, k ≠ N + 10 → (W.putObj (N + 10) (.loop rec')).heap[k]? = W.heap[k]? := fun k hk => World.putObj_heap_other hk
  have hb : But (fun k => k = N + 10) W (W.putObj (N + 10) (.loop rec')) := But.put (S := fun k => k = N + 10) rfl _
  refine ⟨(f _ (by omega)).trans h.z0, (f _ (by omega)).trans h.z1, (f _ (by omega)).trans h.z2, (f _ (by omega)).trans h.z3, (f _ (by omega)).trans h.nb, (f _ (by omega)).trans h.rw, (f _ (by omega)).trans h.df, World.putObj_heap_same (by omega), ?_, h.len, fun i h1 h2 => (h.rd i h1 h2).but hb (fun b hb e => by have := hb.1; omega), h.blw.trans (hb.toBelow (by omega) (fun k hk => by omega)), h.eq, h.few⟩
  obtain ⟨h1, h2⟩ := h.own
  refine ⟨h1, h2.imp id ?_⟩
  rintro ⟨g, cap, cur, hv, hg, hh, r⟩
  exact ⟨g, cap, cur, hv, hg, (f _ (by omega)).trans hh, r⟩
theorem ItSt.but {N : Nat} {sc : ByteArray} {S : Nat → Prop} {W W' : World} (h : ItSt N sc W) (hb : But S W W') (hs : ∀ j, N + 6 ≤ j ∧ j ≤ N + 8 → ¬ S j) : ItSt N sc W' :=
  ⟨(hb.block _ (Array.getElem?_eq_some_iff.1 h.s).1 (hs _ (by omega))).trans h.s, (hb.block _ (Array.getElem?_eq_some_iff.1 h.p).1 (hs _ (by omega))).trans h.p, (hb.block _ (Array.getElem?_eq_some_iff.1 h.v).1 (hs _ (by omega))).trans h.v⟩
theorem ItSt.put {N : Nat} {sc : ByteArray} {W : World} (h : ItSt N sc W) (o : Obj) : ItSt N sc (W.putObj (N + 10) o) :=
  ⟨(World.putObj_heap_other (by omega)).trans h.s, (World.putObj_heap_other (by omega)).trans h.p, (World.putObj_heap_other (by omega)).trans h.v⟩
/-- A round's panic, as it comes up. -/
def LnPan (N : Nat) (w : World) (s : ByteArray) (ch : List PanicEntry) (W : World) : Prop :=
  ∃ num p : Nat, ch = [{ v := .iface 156 (.agg #[.int .i64 num, .int .i64 ((p : Int) + 1)]), recovered := false }] ∧ LnBad N w s num p W
/-- What a round's body leaves. -/
def LnRound (N : Nat) (w : World) (s : ByteArray) (rec : Loop) (pre : List (List UInt8)) (x : List UInt8) (sc : ByteArray) : Exit → Act → World → Prop
  | .normal, _, W => ∃ acc v us, LnSt N w s rec (pre ++ [x]) acc v us W ∧ ItSt N sc W
  | .panic ch, a, W => a.defers = [] ∧ LnPan N w s ch W
  | _, _, _ => False
/-- The loop over the lines. -/
theorem wpF_lines {f : FuncId} {fn : Func} (hf : Tryz.prog.funcs[f]? = some fn) {g : Operand} {t : Tmp} {assign body : Code} {Q : Exit → Act → World → Prop} {a : Act} {W5 : World} {N : Nat} {w : World} {s : ByteArray} (hs : s.size ≤ 1048576) (hsz : W5.heap.size = N + 9)
    (hg : a.eval g = .func (.func 133) #[] #[.pointer (some ⟨N + 7, 0, none⟩), .pointer (some ⟨N + 6, 0, none⟩), .pointer (some ⟨N + 8, 0, none⟩)])
    (h0 : ∀ rec, LnSt N w s rec [] [] (.slice none 0 0) [] ((W5.alloc (.deferred (some []))).alloc (.loop rec)) ∧ ItSt N s ((W5.alloc (.deferred (some []))).alloc (.loop rec)))
    (hround : ∀ rec pre x rest sc acc v us W Wb, Wd.split s.data.toList = pre ++ x :: rest → LnSt N w s rec pre acc v us Wb → ItSt N sc Wb → ∀ K : Act → World → Prop,
      (∀ A, body.wpIn (Fence.wide.inRound (N + 10)) 0 Tryz.prog (LnRound N w s rec pre x sc) A Wb → K A W) →
      assign.wpIn (Fence.wide.inRound (N + 10)) 0 Tryz.prog (Exit.then K (fun _ _ _ => False)) { tmps := a.tmps.setIfInBounds t (.string (Wd.mkB x)), defers := [] } W)
    (hdone : ∀ acc v us W rec, LnSt N w s rec (Wd.split s.data.toList) acc v us W → Q .normal { a with defers := { target := .collected (N + 9), args := #[] } :: a.defers } W)
    (hpan : ∀ ch W, LnPan N w s ch W → Q (.panic ch) { a with defers := { target := .collected (N + 9), args := #[] } :: a.defers } W) :
    (Code.rangeFunc g #[t] assign body).wpF f Tryz.prog Q a W5 := by
  refine wpF_rangeFunc (gf := 133) (lb := #[.pointer (some ⟨N + 7, 0, none⟩), .pointer (some ⟨N + 6, 0, none⟩), .pointer (some ⟨N + 8, 0, none⟩)]) hg (enters_of Tryz.func133 (by kernel_rfl) rfl) ?_
  rw [hsz]
  obtain ⟨hL0, hI0⟩ := h0 (recOf f a.tmps t assign body N .ready)
  refine (callsIn_wide (n := 0)).2 (((callsIn_wide (n := 1)).1 (iter_any 1 (N + 10) N (Nat.le_refl _) s hs (fun pre W => ∃ acc v us, LnSt N w s (recOf f a.tmps t assign body N .ready) pre acc v us W) (LnPan N w s) ?_ ?_ _ ⟨_, _, _, hL0⟩ hI0)).mono ?_)
  · rintro pre W u ⟨acc, v, us, h⟩
    exact ⟨acc, v, us, h.set u⟩
  · rintro pre x rest sc W hsp ⟨acc, v, us, hL⟩ hI
    refine ⟨_, _, _, _, run_yield hL.lp (by rfl), ?_⟩
    refine roundIn_of_wpIn_p trivial hf ?_
    have e : ((recOf f a.tmps t assign body N .ready).params.zip #[Value.string (Wd.mkB x)]).foldl (fun tmps (t, a) => tmps.setIfInBounds t a) (recOf f a.tmps t assign body N .ready).tmps = a.tmps.setIfInBounds t (.string (Wd.mkB x)) := by simp [recOf]
    rw [e]
    refine wpIn_mono (hround (recOf f a.tmps t assign body N .busy) pre x rest sc acc v us W (W.putObj (N + 10) (.loop (recOf f a.tmps t assign body N .busy))) hsp (hL.put _) (hI.put _) _ (fun A hA => ⟨_, run_beginRound hL.lp (by rfl), wpIn_mono hA ?_⟩)) (fun e a w h => h)
    rintro e A W' h
    cases e with
    | normal =>
      obtain ⟨acc', v', us', h1, h2⟩ := h
      exact ⟨_, _, run_endRound none h1.lp, .inl ⟨rfl, ⟨acc', v', us', h1.put (recOf f a.tmps t assign body N .ready)⟩, h2.put _⟩⟩
    | panic ch => exact ⟨h.1, .inr ⟨ch, rfl, h.2⟩⟩
    | ret => exact h.elim
    | exit id => exact h.elim
    | goto l => exact h.elim
    | outgrown => exact h.elim
  · rintro e W' (⟨⟨v0, rfl⟩, acc, v, us, h⟩ | ⟨ch, rfl, h⟩)
    · exact ⟨_, h.lp, rfl, rfl, hdone acc v us _ _ (h.put _)⟩
    · exact hpan ch W' h
set_option maxHeartbeats 8000000 in
set_option maxRecDepth 20000 in
theorem lines_any (s : ByteArray) (w : World) (hs : s.size ≤ 1048576) : Calls Tryz.prog 47 #[.string s] w (LinesPost s w) := by
  have hs1 : decide ((1048576 : Int) < (s.size : Int)) = false := by simp; omega
  obtain ⟨N, hN⟩ : ∃ N, w.heap.size = N := ⟨_, rfl⟩
  obtain ⟨W5, hW5⟩ : ∃ W5, W5 = (((((((((w.alloc (.cells #[.slice none 0 0] 110)).alloc (.cells #[.int .i64 0] 3)).alloc (.cells #[.int .i64 0] 3)).alloc (.cells #[.int .i64 0] 28)).alloc (.cells #[.int .i64 0] 3)).alloc (.cells #[.slice none 0 0] 110)).alloc (.cells #[.string s] 9)).alloc (.cells #[.string ⟨#[10]⟩] 9)).alloc (.cells #[.int .i64 0] 3)) := ⟨_, rfl⟩
  have hsz : W5.heap.size = N + 9 := by rw [hW5]; simp; omega
  have hB5 : Below N w W5 := by
    rw [hW5, ← hN]
    exact (((((((((Below.refl _ _).alloc (Nat.le_refl _) _).alloc (by simp) _).alloc (by simp; omega) _).alloc (by simp; omega) _).alloc (by simp; omega) _).alloc (by simp; omega) _).alloc (by simp; omega) _).alloc (by simp; omega) _).alloc (by simp; omega) _
  have hheap : W5.heap = w.heap ++ (#[.cells #[.slice none 0 0] 110 (0, 0), .cells #[.int .i64 0] 3 (0, 0), .cells #[.int .i64 0] 3 (0, 0), .cells #[.int .i64 0] 28 (0, 0), .cells #[.int .i64 0] 3 (0, 0), .cells #[.slice none 0 0] 110 (0, 0), .cells #[.string s] 9 (0, 0), .cells #[.string ⟨#[10]⟩] 9 (0, 0), .cells #[.int .i64 0] 3 (0, 0)] : Array Obj) := by
    rw [hW5]
    apply Array.ext'
    simp [heap_al]
  have hp : ∀ i, W5.heap[N + i]? = (#[.cells #[.slice none 0 0] 110 (0, 0), .cells #[.int .i64 0] 3 (0, 0), .cells #[.int .i64 0] 3 (0, 0), .cells #[.int .i64 0] 28 (0, 0), .cells #[.int .i64 0] 3 (0, 0), .cells #[.slice none 0 0] 110 (0, 0), .cells #[.string s] 9 (0, 0), .cells #[.string ⟨#[10]⟩] 9 (0, 0), .cells #[.int .i64 0] 3 (0, 0)] : Array Obj)[i]? := by
    intro i
    rw [hheap, Array.getElem?_append_right (by omega), hN, Nat.add_sub_cancel_left]
  have HP := Lib.hid hp
  have HB5 := Lib.hid hB5
  have HSz := Lib.hid hsz
  have HW5 := Lib.hid hW5
  have HN := Lib.hid hN
  clear hp hheap hB5 hsz hW5 hN
  refine callsF Tryz.func47 rfl ?_
  simp only [Tryz.ntmps47, List.size_toArray, List.length_cons, List.length_nil, Nat.reduceAdd, Nat.reduceSub, Array.replicate_succ, Array.replicate_zero, List.push_toArray, List.append_toArray, List.nil_append, List.cons_append]
  refine wpF_seq_k fun K hK => ?_
  go_wp2_with fail
  refine wpF_seq_k fun K hK => ?_
  go_wp2_with fail
  refine wpF_seq_k fun K hK => ?_
  go_wp2_with fail
  refine wpF_seq_k fun K hK => ?_
  go_wp2_with fail
  refine wpF_seq_k fun K hK => ?_
  go_wp2_with fail
  refine wpF_seq ?_
  refine wpF_seq_k fun K hK => ?_
  go_wp2_with fail
  refine (splitSeq_any _ _).mono ?_
  rintro e w' ⟨rfl, rfl⟩
  go_wp2_with fail
  rw [← HW5.out]
  simp only [HN.out, Nat.add_assoc, Nat.reduceAdd]
  refine wpF_block ?_
  refine wpF_lines (N := N) (w := w) Tryz.func47 hs HSz.out rfl ?h0 ?round ?done ?pan
  case h0 =>
    intro rec
    have hz := HSz.out
    have hsz1 : (W5.alloc (.deferred (some []))).heap.size = N + 10 := by simp [hz]
    have f : ∀ k, k < N + 9 → ((W5.alloc (.deferred (some []))).alloc (.loop rec)).heap[k]? = W5.heap[k]? := fun k hk => by
      rw [heap_al, heap_al, Array.getElem?_push_lt (by simp; omega), Array.getElem_push_lt (by omega), ← Array.getElem?_eq_getElem]
    have hBn : Below W5.heap.size W5 ((W5.alloc (.deferred (some []))).alloc (.loop rec)) := ((Below.refl _ _).alloc (Nat.le_refl _) _).alloc (by simp) _
    refine ⟨⟨(f N (by omega)).trans (HP.out 0), (f _ (by omega)).trans (HP.out 1), (f _ (by omega)).trans (HP.out 2), (f _ (by omega)).trans (HP.out 3), (f _ (by omega)).trans (HP.out 4), (f _ (by omega)).trans (HP.out 5), ?_, ?_, World.ownsRow_nil _ _ _ _, rfl, fun i h => absurd h (Nat.not_lt_zero _), HB5.out.trans (hBn.mono (by omega)), fun rest h => ?_, Nat.le_refl _⟩, ⟨(f _ (by omega)).trans (HP.out 6), (f _ (by omega)).trans (HP.out 7), (f _ (by omega)).trans (HP.out 8)⟩⟩
    · have := World.alloc_heap_new W5 (.deferred (some []))
      rw [hz] at this
      exact (Below.heap_alloc _ _ _ (by omega)).trans this
    · have := World.alloc_heap_new (W5.alloc (.deferred (some []))) (.loop rec)
      rw [hsz1] at this
      exact this
    · rw [List.nil_append] at h
      unfold Wd.lines
      rw [h]
      cases Wd.rows rest 1 <;> simp [Except.map, h]
  case round =>
    intro rec pre x rest sc acc v us W Wb hsp hL hI K hR
    obtain ⟨c4, f4⟩ := cells_one hL.nb
    obtain ⟨c5, f5⟩ := cells_one hL.rw
    have hxl := (split_len s.data.toList).2 x (by rw [hsp]; simp)
    have hpl := (split_len s.data.toList).1
    rw [hsp] at hpl
    rw [← Lib.size_eq] at hxl hpl
    simp only [List.length_append, List.length_cons] at hpl
    obtain ⟨k, hk⟩ : ∃ k, pre.length = k := ⟨_, rfl⟩
    rw [hk] at c4 hpl
    have hi1 : IntKind.i64.wrap ((k : Int) + 1) = (k : Int) + 1 := IntWalk.i64_in _ (by omega)
    have HL := Lib.hid hL
    have HI := Lib.hid hI
    have HSp := Lib.hid hsp
    have HK := Lib.hid hk
    clear hL hI hsp hk
    have hst : RdSt Wb.heap.size (k + 1) 0 (Wd.mkB x) (.slice none 0 0) ((Wb.setCell ⟨N + 4, 0, none⟩ (.int .i64 ((k : Int) + 1))).alloc (.cells #[.int .i64 ((k : Int) + 1), .int .i64 0, .string (Wd.mkB x), .slice none 0 0] 165)) := by
      constructor <;> simp [go_sem]
    have hread := read_any Wb.heap.size (k + 1) (Wd.mkB x) _ (by rw [Wd.mkB_size]; omega) hst
    obtain ⟨W2, hW2⟩ : ∃ W2, W2 = ((Wb.setCell ⟨N + 4, 0, none⟩ (.int .i64 ((k : Int) + 1))).alloc (.cells #[.int .i64 ((k : Int) + 1), .int .i64 0, .string (Wd.mkB x), .slice none 0 0] 165)) := ⟨_, rfl⟩
    rw [← hW2] at hread
    have hRd : CallsIn (Fence.wide.inRound (N + 10)) 0 Tryz.prog 83 #[.pointer (some ⟨Wb.heap.size, 0, none⟩)] W2 (ReadPost Wb.heap.size (k + 1) (Wd.mkB x) W2) := CallsIn.inRound _ (callsIn_wide.2 hread)
    have hb2 : But (fun j => j = N + 4) Wb W2 := by
      rw [hW2]
      exact (But.set (S := fun j => j = N + 4) (a := ⟨N + 4, 0, none⟩) rfl _).trans (But.alloc _)
    have hn2 : W2.heap[N + 4]? = some (.cells #[.int .i64 ((k : Int) + 1)] 3 (0, 0)) := by
      rw [hW2, heap_al, Array.getElem?_push_lt (by have := HL.out.size; simp [World.setCell]; omega), ← Array.getElem?_eq_getElem]
      exact one_set HL.out.nb _
    have hsz2 : W2.heap.size = Wb.heap.size + 1 := by rw [hW2]; simp [World.setCell]
    have HRd := Lib.hid hRd
    have HB2 := Lib.hid hb2
    have HN2 := Lib.hid hn2
    have HSz2 := Lib.hid hsz2
    have HW2 := Lib.hid hW2
    obtain ⟨B, hB⟩ : ∃ B, B = Wb.heap.size := ⟨_, rfl⟩
    rw [← hB] at HRd HSz2
    have HB := Lib.hid hB
    have HLs : Hid (N + 11 ≤ B) := by rw [hB]; exact HL.out.size
    clear hst hread hRd hb2 hn2 hsz2 hW2 hi1 hB
    gi_wp2
    refine ⟨trivial, rfl, ?_⟩
    rw [← HW2.out, ← HB.out]
    refine HRd.out.mono ?_
    intro e w3 h3
    unfold ReadPost at h3
    rw [Wd.mkB_list] at h3
    have hBv := HB.out
    cases hline : Wd.line (k + 1) x 0 with
    | error p =>
      rw [hline] at h3
      obtain ⟨rfl, hb3⟩ := h3
      have hb23 : But (fun j => j = N + 4) Wb w3 := ((HB2.out.mono (T := fun j => j = N + 4 ∨ j = B) (fun j hj => by omega)).trans (hb3.mono (fun j hj => by omega))).less fun j h1 h2 => by omega
      refine ⟨rfl, k + 1, p, by simp, ?_⟩
      have := HL.out.bad HSp.out (p := p) (by rw [HK.out]; exact hline) (hb23.mono fun j hj => .inl hj)
      rw [HK.out] at this
      exact this
    | ok ws =>
      rw [hline] at h3
      obtain ⟨rfl, v3, d3, own3, hb3⟩ := h3
      have hb23 : But (fun j => j = N + 4) Wb w3 := ((HB2.out.mono (T := fun j => j = N + 4 ∨ j = B) (fun j hj => by omega)).trans (hb3.mono (fun j hj => by omega))).less fun j h1 h2 => by omega
      have hw3 : RdsW (fun b => Wb.heap.size ≤ b) w3 v3 ws := (ownsRow_rdsW own3).mono fun b _ hb => by have := HSz2.out; omega
      have hn3 : w3.heap[N + 4]? = some (.cells #[.int .i64 ((k : Int) + 1)] 3 (0, 0)) := (hb3.block (N + 4) (by have := HSz2.out; have := HLs.out; omega) (by have := HLs.out; omega)).trans HN2.out
      have hl3 : w3.heap[N + 10]? = some (.loop rec) := (hb23.block (N + 10) (by have := HLs.out; omega) (by omega)).trans HL.out.lp
      obtain ⟨ad, cp, rfl, _⟩ := ownsRow_slice own3
      have hI3 : ItSt N sc w3 := HI.out.but hb23 (fun j h1 h2 => by omega)
      have HI3 := Lib.hid hI3
      have HB3 := Lib.hid hb23
      have HW3 := Lib.hid hw3
      have HN3 := Lib.hid hn3
      have HL3 := Lib.hid hl3
      have e5 := (hb23.cell (p := ⟨N + 5, 0, none⟩) (by show N + 5 < _; have := HLs.out; omega) (by show ¬ N + 5 = N + 4; omega)).trans c5
      have g5 := (hb23.frozen (p := ⟨N + 5, 0, none⟩) (by show N + 5 < _; have := HLs.out; omega) (by show ¬ N + 5 = N + 4; omega)).trans f5
      have Hline := Lib.hid hline
      have hBs : B < w3.heap.size := by have := hb3.size; have := HSz2.out; omega
      clear hI3 hb23 hw3 hn3 hl3 own3 hb3 c4 f4 c5 f5 hline hBv
      by_cases hne : ws = []
      · subst hne
        gi_wp2
        exact ⟨acc, v, us, HL.out.same (by rw [HK.out]; exact Hline.out) (by rw [HK.out]; exact HN3.out) HL3.out (HB3.out.mono fun j hj => .inl hj), HI3.out⟩
      · have hpos : (0 : Int) < (ws.length : Int) := by have := List.length_pos_iff.2 hne; omega
        have HNe := Lib.hid hne
        obtain ⟨va, vc, hv, hvb⟩ := ownsRow_slice HL.out.own
        have hno : ¬ v.ownBlock = some (N + 5) := by
          intro e
          cases va with
          | none => rw [hv] at e; cases e
          | some a => obtain ⟨h1, h2⟩ := hvb a rfl; rw [h2] at e; injection e with e; omega
        have hown3 : w3.ownsRow (N + 11) 116 1 v us.length us := by
          obtain ⟨h1, h2⟩ := HL.out.own
          refine ⟨h1, h2.imp id ?_⟩
          rintro ⟨g, cap, cur, hv, hg, hh, r⟩
          exact ⟨g, cap, cur, hv, hg, (HB3.out.block g ((Array.getElem?_eq_some_iff.1 hh).1) (by omega)).trans hh, r⟩
        have hnoB : ¬ v.ownBlock = some B := by
          intro e
          rcases HL.out.own.2 with ⟨h1, _⟩ | ⟨g, cap, cur, hv, hg, hh, _⟩
          · rw [h1] at e; cases e
          · rw [hv] at e
            injection e with e
            have h1 := (Array.getElem?_eq_some_iff.1 hh).1
            have h2 := HB.out
            have h3 : g = B := e
            omega
        have HNoB := Lib.hid hnoB
        have HNo := Lib.hid hno
        have HO3 := Lib.hid hown3
        have hul : us.length ≤ 1048577 := by have := HL.out.len; have := HL.out.few; have := HK.out; omega
        subst hv
        obtain ⟨i0, hi, hz0, hz1, hz2⟩ := info_parts infoWs
        clear hne hno hnoB hown3 hvb
        gi_wp2
        have hS0 : (fun W : World => W.cell? ⟨N + 5, 0, none⟩ = some (.slice va us.length vc) ∧ W.cell? ⟨B, 2 + 1, none⟩ = some (.slice ad ws.length cp)) w3.drew := ⟨e5, d3⟩
        refine wpIn_region_heldG (fun W : World => W.cell? ⟨N + 5, 0, none⟩ = some (.slice va us.length vc) ∧ W.cell? ⟨B, 2 + 1, none⟩ = some (.slice ad ws.length cp)) 7 (by kernel_rfl) (by kernel_rfl) (fun ⟨_, _, h⟩ => (h : False)) ?_
        refine wpAnyG_takeL 0 (v := ?v0) rfl (by kernel_rfl) (fun _ _ _ h => h) (by rfl) ?h0 hS0 ?_
        case h0 => (intro wl hl; obtain ⟨l0, l1⟩ := hl; go_simp; try with_reducible rfl)
        try simp only [Act.put, List.setIfInBounds_toArray, List.set_cons_zero, List.set_cons_succ]
        refine wpAnyG_takeP 1 (v := ?v1) rfl (by kernel_rfl) (fun _ _ _ h => h) (by rfl) ?h1 hS0 ?_
        case h1 => (intro wl; go_simp; try with_reducible rfl)
        try simp only [Act.put, List.setIfInBounds_toArray, List.set_cons_zero, List.set_cons_succ]
        refine wpAnyG_takeP 2 (v := ?v2) rfl (by kernel_rfl) (fun _ _ _ h => h) (by rfl) ?h2 hS0 ?_
        case h2 => (intro wl; go_simp; try with_reducible rfl)
        try simp only [Act.put, List.setIfInBounds_toArray, List.set_cons_zero, List.set_cons_succ]
        refine wpAnyG_takeP 3 (v := ?v3) rfl (by kernel_rfl) (fun _ _ _ h => h) (by rfl) ?h3 hS0 ?_
        case h3 => (intro wl; go_simp; try with_reducible rfl)
        try simp only [Act.put, List.setIfInBounds_toArray, List.set_cons_zero, List.set_cons_succ]
        refine wpAnyG_takeL 4 (v := ?v4) rfl (by kernel_rfl) (fun _ _ _ h => h) (by rfl) ?h4 hS0 ?_
        case h4 => (intro wl hl; obtain ⟨l0, l1⟩ := hl; go_simp; try with_reducible rfl)
        try simp only [Act.put, List.setIfInBounds_toArray, List.set_cons_zero, List.set_cons_succ]
        refine wpAnyG_one 5 rfl (by kernel_rfl) (fun K hK => ?_)
        go_simp
        refine hK _ _ (fun _ => ⟨by go_keep, by go_keep⟩) ?_
        clear hK K
        try simp only [Act.put, List.setIfInBounds_toArray, List.set_cons_zero, List.set_cons_succ]
        refine wpAnyG_one 6 rfl (by kernel_rfl) (fun K hK => ?_)
        (refine step_append_lies _ (by rfl) (.tmp 32) (.tmp 37) _ (by rfl) (N + 11) 116 i0 _ 1 24 Tryz.underlying110 hi hz0 hz1 hz2 rfl (by omega) (.slice va us.length vc) us.length us (by rfl) ((HO3.out.alloc _).drew) ⟨w3.heap.size, 0, none⟩ 1 1 [.slice ad ws.length cp] (by rfl) (by rfl) (World.news_of_block (cs := #[.slice ad ws.length cp]) (t := 116) (fr := (0, 0)) (heap_alloc_new w3 _)) (by simp [Value.oneCell']) (by omega) (by unfold maxLen; omega) (by omega) (by have := HLs.out; simp; omega) (w3.heap.size + 1) (by simp) ?_; intro gg cap w4 hown4 hgrow hat hlt4)
        have hfar : ∀ j, j < w3.heap.size → ¬ (Value.slice va us.length vc).ownBlock = some j → w4.heap[j]? = w3.heap[j]? := fun j h1 h2 => (hgrow.block j (by simp; omega) (fun e => h2 e.symm)).trans (Below.heap_alloc _ _ _ h1)
        have hown5 : Hid ((Value.slice va us.length vc).ownBlock = some (N + 5) → False) := HNo.out
        have k5 : w4.cell? ⟨N + 5, 0, none⟩ = some (.slice va us.length vc) := (World.cell?_of_block (hfar (N + 5) (by have := HLs.out; omega) HNo.out)).trans e5
        have kf5 : w4.frozen? ⟨N + 5, 0, none⟩ = false := (World.frozen?_of_block (hfar (N + 5) (by have := HLs.out; omega) HNo.out)).trans g5
        have HFar := Lib.hid hfar
        have HO4 := Lib.hid hown4
        have HG4 := Lib.hid hgrow
        have HAt := Lib.hid hat
        clear hfar hown4 hgrow hat hlt4 hown5
        refine hK _ _ (fun _ => ⟨k5, ?_⟩) ?_
        · exact (World.cell?_of_block (a := ⟨B, 3, none⟩) (HFar.out B hBs HNoB.out)).trans d3
        clear hK K
        try simp only [Act.put, List.setIfInBounds_toArray, List.set_cons_zero, List.set_cons_succ]
        refine wpAnyG_one 7 rfl (by kernel_rfl) (fun K hK => ?_)
        go_simp
        refine hK _ _ (fun h => absurd h (by decide)) ?_
        clear hK K
        refine wpAnyG_done (by kernel_rfl) ?_ _
        gi_wp2
        have hLs := HLs.out
        have hBv := HB.out
        have r5 : w4.heap[N + 5]? = some (.cells #[.slice va us.length vc] 110 (0, 0)) := (HFar.out (N + 5) (by omega) HNo.out).trans ((HB3.out.block (N + 5) (by omega) (by omega)).trans HL.out.rw)
        have hno10 : ¬ (Value.slice va us.length vc).ownBlock = some (N + 10) := by
          intro e
          rcases HL.out.own.2 with ⟨h1, _⟩ | ⟨g, cap, cur, hv, hg, hh, _⟩
          · rw [h1] at e; cases e
          · rw [hv] at e
            injection e with e
            have h3 : g = N + 10 := e
            omega
        have l4 : w4.heap[N + 10]? = some (.loop rec) := (HFar.out (N + 10) (by omega) hno10).trans HL3.out
        have hbA : Below w3.heap.size w3 (w3.alloc (.cells #[.slice ad ws.length cp] 116)).drew := ((Below.refl _ _).alloc (Nat.le_refl _) _).drew
        have hno678 : ∀ j, N + 6 ≤ j ∧ j ≤ N + 8 → ¬ (Value.slice va us.length vc).ownBlock = some j := by
          intro j hj e
          rcases HL.out.own.2 with ⟨h1, _⟩ | ⟨g, cap, cur, hv, hg, hh, _⟩
          · rw [h1] at e; cases e
          · rw [hv] at e
            injection e with e
            have h3 : g = j := e
            omega
        have hI4 : ItSt N sc w4 := (HI3.out.but (S := fun _ => False) (But.below hbA) (fun _ _ h => h)).but (S := fun j => (Value.slice va us.length vc).ownBlock = some j) ⟨HG4.out.os, HG4.out.tape, HG4.out.output, HG4.out.size, fun j hj hn => HG4.out.block j hj (fun e => hn e.symm)⟩ hno678
        refine ⟨acc ++ [ws], .slice (some ⟨gg, 0, none⟩) (us.length + 1) cap, us ++ [.slice ad ws.length cp], ?_, hI4.but (But.set (S := fun j => j = N + 5) (a := ⟨N + 5, 0, none⟩) rfl _) (fun j h1 h2 => by omega)⟩
        refine HL.out.more (W2 := (w3.alloc (.cells #[.slice ad ws.length cp] 116)).drew) (W3 := w4) (by rw [HK.out]; exact Hline.out) HNe.out (HW3.out.below hbA) ((HB3.out.mono fun j hj => .inl hj).trans (But.below hbA)) HG4.out ?_ HO4.out ((But.set (S := fun j => j = N + 5 ∨ j = N + 10) (a := ⟨N + 5, 0, none⟩) (.inl rfl) _)) (one_set r5 _) ?_ ((far_set _ (by show N + 10 ≠ N + 5; omega)).trans l4)
        · intro b hb
          injection hb with hb
          have hb : gg = b := hb
          subst hb
          rcases HAt.out with h | h
          · exact .inl h
          · exact .inr (by simp; omega)
        · rw [HK.out]
          exact (hbA.block (N + 4) (by omega)).trans HN3.out
  case done =>
    intro acc v us W rec hL
    refine (?_ : Code.wpF _ _ (Code.seq _ _) _ _ _)
    refine wpF_of_wp ?_
    obtain ⟨c0, f0⟩ := cells_one hL.z0
    obtain ⟨c1, f1⟩ := cells_one hL.z1
    obtain ⟨c2, f2⟩ := cells_one hL.z2
    obtain ⟨c3, f3⟩ := cells_one hL.z3
    obtain ⟨c5, _⟩ := cells_one hL.rw
    obtain ⟨va, vc, rfl, _⟩ := ownsRow_slice hL.own
    have HL := Lib.hid hL
    have hsz := hL.size
    obtain ⟨W6, hW6, k0, k1, k2, k3, hb6⟩ := four_set (.slice va us.length vc) (.int .i64 0) (.int .i64 0) (.int .i64 0) c0 c1 c2 c3
    have HW6 := Lib.hid hW6
    have HK := Lib.hid (And.intro k0 (And.intro k1 (And.intro k2 k3)))
    have HB6 := Lib.hid hb6
    clear hL k0 k1 k2 k3 hb6 hW6
    go_wp2_with fail
    rw [← HW6.out]
    have hd : W6.heap[N + 9]? = some (.deferred (some [])) := (HB6.out.block (N + 9) (by omega) (by omega)).trans HL.out.df
    have hb7 : But (fun j => j = N + 9) W6 (W6.putObj (N + 9) (.deferred none)) := But.put (S := fun j => j = N + 9) rfl _
    have hs6 := HB6.out.size
    refine leavesM_mark (by simp) hd ?_
    refine leavesM_fn (g := 81) (args := #[.pointer (some ⟨N, 0, none⟩), .pointer (some ⟨N + 1, 0, none⟩), .pointer (some ⟨N + 2, 0, none⟩), .pointer (some ⟨N + 3, 0, none⟩)]) (by simp) (by simp [go_sem]) ?_
    refine (lcaught_idle _ _ _ _ _).mono ?_
    rintro e u' w'' ⟨rfl, rfl, rfl⟩
    refine ⟨_, res_lines _ N _ va us.length vc 0 0 0 rfl rfl rfl rfl ((hb7.cell (p := ⟨N, 0, none⟩) (by show N < _; omega) (by show ¬ N = N + 9; omega)).trans HK.out.1) ((hb7.cell (p := ⟨N + 1, 0, none⟩) (by show N + 1 < _; omega) (by show ¬ N + 1 = N + 9; omega)).trans HK.out.2.1) ((hb7.cell (p := ⟨N + 2, 0, none⟩) (by show N + 2 < _; omega) (by show ¬ N + 2 = N + 9; omega)).trans HK.out.2.2.1) ((hb7.cell (p := ⟨N + 3, 0, none⟩) (by show N + 3 < _; omega) (by show ¬ N + 3 = N + 9; omega)).trans HK.out.2.2.2), ?_⟩
    unfold LinesPost
    rw [HL.out.all, HN.out]
    have hall : But (fun j => N ≤ j ∧ j ≤ N + 9) W (W6.putObj (N + 9) (.deferred none)) := (HB6.out.mono fun j hj => ⟨hj.1, by omega⟩).trans (hb7.mono fun j hj => by omega)
    exact ⟨_, rfl, (HL.out.rds.but hall (fun b hb hj => by omega)).mono fun b hb => by omega, HL.out.blw.trans (hall.toBelow (by omega) fun j hj => hj.1)⟩
  case pan =>
    rintro ch W ⟨num, p, rfl, hL⟩
    obtain ⟨c0, f0⟩ := cells_one hL.z0
    obtain ⟨c1, f1⟩ := cells_one hL.z1
    obtain ⟨c2, f2⟩ := cells_one hL.z2
    obtain ⟨c3, f3⟩ := cells_one hL.z3
    have hsz := hL.sz
    have hb7 : But (fun j => j = N + 9) W (W.putObj (N + 9) (.deferred none)) := But.put (S := fun j => j = N + 9) rfl _
    have hs7 := hb7.size
    have cl : ∀ j, j ≤ 3 → (W.putObj (N + 9) (.deferred none)).cell? ⟨N + j, 0, none⟩ = W.cell? ⟨N + j, 0, none⟩ := fun j hj => hb7.cell (p := ⟨N + j, 0, none⟩) (by show N + j < _; omega) (by show ¬ N + j = N + 9; omega)
    have fr : ∀ j, j ≤ 3 → (W.putObj (N + 9) (.deferred none)).frozen? ⟨N + j, 0, none⟩ = W.frozen? ⟨N + j, 0, none⟩ := fun j hj => hb7.frozen (p := ⟨N + j, 0, none⟩) (by show N + j < _; omega) (by show ¬ N + j = N + 9; omega)
    refine leavesM_mark (by simp) hL.df ?_
    refine leavesM_fn (g := 81) (args := #[.pointer (some ⟨N, 0, none⟩), .pointer (some ⟨N + 1, 0, none⟩), .pointer (some ⟨N + 2, 0, none⟩), .pointer (some ⟨N + 3, 0, none⟩)]) (by simp) (by simp [go_sem]) ?_
    refine (lcaught_catches N _ num ((p : Int) + 1) _ _ _ _ [] (by omega) ((cl 0 (by omega)).trans c0) ((cl 1 (by omega)).trans c1) ((cl 2 (by omega)).trans c2) ((cl 3 (by omega)).trans c3) ((fr 0 (by omega)).trans f0) ((fr 1 (by omega)).trans f1) ((fr 2 (by omega)).trans f2) ((fr 3 (by omega)).trans f3)).mono ?_
    rintro e u' w'' ⟨rfl, rfl, hbb, k0, k1, k2, k3⟩
    refine ⟨_, res_lines _ N _ none 0 0 num ((p : Int) + 1) 30 rfl rfl rfl rfl k0 k1 k2 k3, ?_⟩
    unfold LinesPost
    rw [hL.eq, HN.out]
    exact ⟨rfl, (hL.blw.trans (hb7.toBelow (by omega) fun j hj => by omega)).trans hbb⟩
end Go.Proofs.YtlamhpiiikcpiaaGreatDoor
/-
  Walks over package words: alone.
-/
namespace Go.Proofs.YtlamhpiiikcpiaaGreatDoor
open Go.RowKit Go.Shelf
set_option linter.unusedVariables false
set_option linter.unusedSimpArgs false
theorem ba_inj {a b : ByteArray} (h : a.data.toList = b.data.toList) : a = b := by
  have := congrArg Wd.mkB h
  rwa [Wd.mkB_of, Wd.mkB_of] at this
theorem rds_one {w : World} {v : Value} {us : List Value} (h : Rds w v us) : ∃ ad cap, v = .slice ad us.length cap ∧ us.length ≤ maxLen ∧ ∀ i (hi : i < us.length), ∃ b off, ad = some ⟨b, off, none⟩ ∧ b < w.heap.size ∧ w.cell? ⟨b, off + i, none⟩ = some us[i] := by
  rcases h with ⟨a, c, rfl, rfl, _⟩ | ⟨b, off, cap, rfl, h2, h3, h4, h5⟩
  · exact ⟨a, c, rfl, Nat.zero_le _, fun i hi => absurd hi (Nat.not_lt_zero _)⟩
  · exact ⟨_, cap, rfl, Nat.le_trans h2 h3, fun i hi => ⟨b, off, rfl, h4, h5 i hi⟩⟩
/-- Lines at a text that is no longer than the greatest one: told by its result. -/
theorem lines_err (s : ByteArray) (w : World) (hs : s.size ≤ 1048576) (num p : Nat) (h : Wd.lines s.data.toList = .error (num, p)) :
    Calls Tryz.prog 47 #[.string s] w fun e w' => e = .returned (.tuple #[.slice none 0 0, .int .i64 num, .int .i64 ((p : Int) + 1), .int .i64 30]) ∧ Below w.heap.size w w' :=
  (lines_any s w hs).mono fun e w' hp => by unfold LinesPost at hp; rw [h] at hp; exact hp
theorem lines_ok (s : ByteArray) (w : World) (hs : s.size ≤ 1048576) (acc : List (List Wrd)) (h : Wd.lines s.data.toList = .ok acc) :
    Calls Tryz.prog 47 #[.string s] w fun e w' => ∃ ad cap, e = .returned (.tuple #[.slice ad acc.length cap, .int .i64 0, .int .i64 0, .int .i64 0]) ∧ RdsLn (fun b => w.heap.size ≤ b) w' (.slice ad acc.length cap) acc ∧ Below w.heap.size w w' :=
  (lines_any s w hs).mono fun e w' hp => by
    unfold LinesPost at hp
    rw [h] at hp
    obtain ⟨v, rfl, h1, h2⟩ := hp
    obtain ⟨us, u1, u2, u3⟩ := id h1
    obtain ⟨ad, cap, rfl, _⟩ := rds_one u2
    rw [u1] at h1 ⊢
    exact ⟨ad, cap, rfl, h1, h2⟩
/-- The first line of one that reads as a single line. -/
theorem rdsLn_one {ok : Nat → Prop} {w : World} {ad : Option Addr} {cap : Nat} {ws : List Wrd} (h : RdsLn ok w (.slice ad 1 cap) [ws]) :
    ∃ b off adw capw, ad = some ⟨b, off, none⟩ ∧ b < w.heap.size ∧ w.cell? ⟨b, off, none⟩ = some (.slice adw ws.length capw) ∧ RdsW ok w (.slice adw ws.length capw) ws := by
  obtain ⟨us, u1, u2, u3, u4⟩ := h
  obtain ⟨ad', cap', e, _, hc⟩ := rds_one u2
  injection e with e1 e2 e3
  subst e1
  obtain ⟨b, off, hb, hl, hcell⟩ := hc 0 (by simp at u1; omega)
  have hr := u4 0 (by simp at u1; omega) (by simp)
  obtain ⟨adw, capw, hu, r1, r2, r3⟩ := id hr
  rw [hu] at hcell hr
  rw [Nat.add_zero] at hcell
  exact ⟨b, off, adw, capw, hb, hl, hcell, hr⟩
theorem bool_eq {a b : Bool} (h : a = b) : Ending.returned (.bool a) = .returned (.bool b) := by rw [h]
set_option maxHeartbeats 3200000 in
set_option maxRecDepth 20000 in
theorem alone_any (s : ByteArray) (wv : Value) (want : List ByteArray) (w : World) (hs : s.size ≤ 1048576) (hw : RdsS w wv want) :
    Calls Tryz.prog 104 #[.string s, wv] w fun e w' => e = .returned (.bool (Wd.aloneB s.data.toList want)) ∧ Below w.heap.size w w' := by
  obtain ⟨wa, wl, wc, rfl, hwl, hwm, hwc⟩ := rdsS_form hw
  have HWc := Lib.hid hwc
  unfold maxLen at hwm
  clear hw hwc
  unfold Wd.aloneB
  cases hl : Wd.lines s.data.toList with
  | error x =>
    obtain ⟨num, p⟩ := x
    have HL := Lib.hid (fun W => lines_err s W hs num p hl)
    clear hl
    go_enter Tryz.func104, Tryz.ntmps104
    go_wp2_with fail
    refine (HL.out _).mono ?_
    rintro e w1 ⟨rfl, hb⟩
    have HB := Lib.hid hb
    clear hb
    go_wp2_with fail
    go_ret
    exact ⟨rfl, HB.out⟩
  | ok acc =>
    have HL := Lib.hid (fun W => lines_ok s W hs acc hl)
    clear hl
    by_cases h1 : acc.length = 1
    · match acc, h1 with
      | [ws], _ =>
        have HWl := Lib.hid hwl
        clear hwl
        by_cases h2 : ws.length = wl
        · subst h2
          obtain ⟨q, hq⟩ : ∃ q, decide (ws.map Wrd.t = want) = q := ⟨_, rfl⟩
          have HQ := Lib.hid hq
          have hgoal : Hid (((([ws] : List (List Wrd)).length == 1) && decide ((([ws] : List (List Wrd)).headD []).map Wrd.t = want)) = q) := by
            show _ = _
            simpa using hq
          clear hq
          show Calls _ _ _ _ (fun e w' => e = .returned (.bool (([ws].length == 1) && decide (([ws].headD []).map Wrd.t = want))) ∧ _)
          rw [hgoal.out]
          go_enter Tryz.func104, Tryz.ntmps104
          go_wp2_with fail
          refine (HL.out _).mono ?_
          rintro e w1 ⟨ad, cap, rfl, hr, hb⟩
          have HB := Lib.hid hb
          obtain ⟨b, off, adw, capw, rfl, hlt, hcell, hrw⟩ := rdsLn_one hr
          have HRw := Lib.hid hrw
          clear hb hr hrw
          go_wp2_with fail
          go_loopw [38] (fun i wr => ∃ k : Nat, k ≤ ws.length ∧ i = .int .i64 k ∧ Hid (Below w1.heap.size w1 wr) ∧ Hid (∀ j (h : j < k) (h1 : j < ws.length) (h2 : j < want.length), ws[j].t = want[j])) (fun i wr => ws.length - (intOf i).toNat)
          case atStart => exact ⟨0, Nat.zero_le _, rfl, Below.refl _ _, fun j h => absurd h (Nat.not_lt_zero _)⟩
          case round =>
            obtain ⟨k, hk, rfl, hbw, hall⟩ := hrel
            by_cases hlt2 : k < ws.length
            · obtain ⟨bw, ow, rfl, hbl, k0, k1, k2⟩ : ∃ bw ow, adw = some ⟨bw, ow, none⟩ ∧ bw < wr.heap.size ∧ wr.cell? ⟨bw, ow + k * 3, none⟩ = some (.string ws[k].t) ∧ wr.cell? ⟨bw, ow + k * 3 + 1, none⟩ = some (.int .i64 ws[k].l) ∧ wr.cell? ⟨bw, ow + k * 3 + 2, none⟩ = some (.int .i64 ws[k].c) := by
                obtain ⟨ad', cap', e, _, _, hg⟩ := HRw.out.below hbw.out
                injection e with e1 _ _
                obtain ⟨bw, ow, h1, h2, _, h3⟩ := hg k hlt2
                exact ⟨bw, ow, by rw [e1]; exact h1, h2, h3⟩
              obtain ⟨bv, ov, rfl, hvl, v0⟩ := HWc.out k (by have := HWl.out; omega)
              have v1 := ((HB.out.trans (hbw.out.mono HB.out.size)).cell (p := ⟨bv, ov + k, none⟩) hvl).trans v0
              have hvl1 : bv < wr.heap.size := Nat.lt_of_lt_of_le hvl (HB.out.trans (hbw.out.mono HB.out.size)).size
              obtain ⟨W2, hW2⟩ : ∃ W2, W2 = wr.alloc (.cells #[.string ws[k].t, .int .i64 ws[k].l, .int .i64 ws[k].c] 167) := ⟨_, rfl⟩
              have hB2 : Below wr.heap.size wr W2 := by rw [hW2]; exact (Below.refl _ _).alloc (Nat.le_refl _) _
              have v2 := (hB2.cell (p := ⟨bv, ov + k, none⟩) hvl1).trans v1
              have n0 : W2.cell? ⟨wr.heap.size, 0, none⟩ = some (.string ws[k].t) := by rw [hW2]; simp [go_sem]
              have HW2 := Lib.hid hW2
              have HBn : Hid (Below w1.heap.size w1 W2) := hbw.out.trans (hB2.mono hbw.out.size)
              have hkl : ((k : Nat) : Int) < (ws.length : Int) := by omega
              by_cases heq : ws[k].t = want[k]'(by have := HWl.out; omega)
              · have hn1 : Hid (∀ j (h : j < k + 1) (h1 : j < ws.length) (h2 : j < want.length), ws[j].t = want[j]) := fun j h h1 h2 => by
                  by_cases hj : j = k
                  · subst hj; exact heq
                  · exact hall.out j (by omega) h1 h2
                rw [← heq] at v2
                clear v0 v1 hW2 hB2 heq
                go_wp2_with fail
                rw [← HW2.out]
                go_quiet (fail)
                go_wp2_with fail
                go_roundw
                case rel => exact ⟨k + 1, hlt2, by go_num, below_dN HBn.out _, hn1⟩
                case measure => simp [intOf]; omega
              · have hqf : Hid (q = false) := by
                  show _ = _
                  rw [← HQ.out, decide_eq_false_iff_not]
                  intro e
                  apply heq
                  have := congrArg (fun l : List ByteArray => l[k]?) e
                  simp only [List.getElem?_map, List.getElem?_eq_getElem hlt2, Option.map_some] at this
                  rw [List.getElem?_eq_getElem (by have := HWl.out; omega)] at this
                  exact Option.some.inj this
                have hd : ¬ ws[k].t.toList = (want[k]'(by have := HWl.out; omega)).toList := fun e => heq (by
                  rw [ByteArray.toList_eq, ByteArray.toList_eq] at e
                  exact ba_inj e)
                obtain ⟨y, hy⟩ : ∃ y, want[k]'(by have := HWl.out; omega) = y := ⟨_, rfl⟩
                rw [hy] at v2 hd
                have hd2 : (!ws[k].t.toList == y.toList) = true := by simpa using hd
                clear v0 v1 hy hW2 hB2 heq hd
                go_wp2_with fail
                rw [← HW2.out]
                go_quiet (fail)
                go_wp2_with fail
                go_ret
                exact ⟨bool_eq hqf.out.symm, below_dN (HB.out.trans (HBn.out.mono HB.out.size)) _⟩
            · have hkl : decide (((k : Nat) : Int) < (ws.length : Int)) = false := by simp; omega
              have hqt : Hid (q = true) := by
                show _ = _
                rw [← HQ.out, decide_eq_true_eq]
                refine List.ext_getElem (by rw [List.length_map]; exact HWl.out) fun j h1 h2 => ?_
                rw [List.getElem_map]
                exact hall.out j (by rw [List.length_map] at h1; omega) (by rw [List.length_map] at h1; exact h1) h2
              go_wp2_with fail
              go_ret
              exact ⟨bool_eq hqt.out.symm, HB.out.trans (hbw.out.mono HB.out.size)⟩
        · have hne : Hid ((([ws] : List (List Wrd)).length == 1 && decide ((([ws] : List (List Wrd)).headD []).map Wrd.t = want)) = false) := by
            show _ = _
            have : ¬ ws.map Wrd.t = want := fun e => h2 (by rw [HWl.out, ← e, List.length_map])
            simp [this]
          have h2z : (((ws.length : Nat) : Int) == (wl : Int)) = false := by simp; omega
          have h2y : (((ws.length : Nat) : Int) != (wl : Int)) = true := by simp; omega
          have h2x : (ws.length == wl) = false := by simpa using h2
          have h2w : (ws.length != wl) = true := by simpa using h2
          show Calls _ _ _ _ (fun e w' => e = .returned (.bool (([ws].length == 1) && decide (([ws].headD []).map Wrd.t = want))) ∧ _)
          rw [hne.out]
          go_enter Tryz.func104, Tryz.ntmps104
          go_wp2_with fail
          refine (HL.out _).mono ?_
          rintro e w1 ⟨ad, cap, rfl, hr, hb⟩
          have HB := Lib.hid hb
          obtain ⟨b, off, adw, capw, rfl, hlt, hcell, hrw⟩ := rdsLn_one hr
          clear hb hr hrw
          go_wp2_with fail
          go_ret
          exact ⟨rfl, HB.out⟩
    · have hne : Hid ((acc.length == 1 && decide ((acc.headD []).map Wrd.t = want)) = false) := by
        show _ = _
        simp [h1]
      have h1z : (((acc.length : Nat) : Int) == 1) = false := by simp; omega
      have h1y : (((acc.length : Nat) : Int) != 1) = true := by simp; omega
      clear h1
      show Calls _ _ _ _ (fun e w' => e = .returned (.bool ((acc.length == 1) && decide ((acc.headD []).map Wrd.t = want))) ∧ _)
      rw [hne.out]
      go_enter Tryz.func104, Tryz.ntmps104
      go_wp2_with fail
      refine (HL.out _).mono ?_
      rintro e w1 ⟨ad, cap, rfl, hr, hb⟩
      have HB := Lib.hid hb
      clear hb hr
      go_wp2_with fail
      go_ret
      exact ⟨rfl, HB.out⟩
end Go.Proofs.YtlamhpiiikcpiaaGreatDoor
/-
  Walks over package words: Say.
-/
namespace Go.Proofs.YtlamhpiiikcpiaaGreatDoor
open Go.RowKit Go.Shelf
set_option linter.unusedVariables false
set_option linter.unusedSimpArgs false
namespace Wd
theorem jn_snoc : ∀ (l : List (List UInt8)) (a b : List UInt8), jn (l ++ [a] ++ [b]) = jn (l ++ [a]) ++ ((if gluedB a b then [32] else []) ++ b)
  | [], a, b => by simp [jn]
  | [c], a, b => by
    have := jn_snoc [] a b
    simp [jn] at this ⊢
  | c :: d :: l, a, b => by
    have := jn_snoc (d :: l) a b
    simp only [List.cons_append] at this ⊢
    simp only [jn]
    rw [this]
    simp [List.append_assoc]
theorem jn_len (M : Nat) : ∀ (l : List (List UInt8)), (∀ x ∈ l, x.length ≤ M) → (jn l).length ≤ l.length * (M + 1)
  | [], _ => by simp [jn]
  | [a], h => by have := h a (by simp); simp [jn]; omega
  | a :: b :: l, h => by
    have h1 := h a (by simp)
    have h2 := jn_len M (b :: l) (fun x hx => h x (List.mem_cons_of_mem _ hx))
    simp only [jn, List.length_append, List.length_cons] at h2 ⊢
    have h3 : (if gluedB a b then [(32 : UInt8)] else []).length ≤ 1 := by split <;> simp
    rw [Nat.add_mul (l.length + 1) 1 (M + 1)]
    omega
end Wd
def bytesV (l : List UInt8) : List Value := l.map fun c => .int .u8 (c.toNat : Int)
theorem bytesV_append (a b : List UInt8) : bytesV (a ++ b) = bytesV a ++ bytesV b := by simp [bytesV]
theorem strCells_eq (s : ByteArray) : Lib.strCells s = bytesV s.data.toList := by simp [Lib.strCells, bytesV]
theorem infoB : (Tryz.prog.info? 5).map (fun i => (i.zero, i.size, i.bytes)) = some (some (.int .u8 0), 1, 1) := by kernel_rfl
/-- What Say tells. -/
def SayPost (ss : List ByteArray) (w : World) (e : Ending) (w' : World) : Prop :=
  (match Wd.say (ss.map fun x => x.data.toList) with
  | some t => e = .returned (.tuple #[.string (Wd.mkB t), .int .i64 0])
  | none => e = .returned (.tuple #[.string ⟨#[]⟩, .int .i64 31])) ∧ Below w.heap.size w w'
theorem say_bad {ss : List ByteArray} {k : Nat} (hk : k < ss.length) (h : Wd.wordB ss[k].data.toList = false) : Wd.say (ss.map fun x => x.data.toList) = none := by
  unfold Wd.say
  rw [if_neg]
  intro hall
  rw [List.all_eq_true] at hall
  have := hall ss[k].data.toList (List.mem_map.2 ⟨_, List.getElem_mem hk, rfl⟩)
  rw [h] at this
  cases this
theorem say_good {ss : List ByteArray} (h : ∀ j (hj : j < ss.length), Wd.wordB ss[j].data.toList = true) : Wd.say (ss.map fun x => x.data.toList) = some (Wd.jn (ss.map fun x => x.data.toList)) := by
  unfold Wd.say
  rw [if_pos]
  rw [List.all_eq_true]
  intro x hx
  obtain ⟨y, hy, rfl⟩ := List.mem_map.1 hx
  obtain ⟨j, hj, rfl⟩ := List.getElem_of_mem hy
  exact h j hj
/-- A new row of strings reads as them. -/
theorem rdsS_lit {W : World} {g : Nat} {l : List ByteArray} {t : TypeId} (h : W.heap[g]? = some (.cells (l.map Value.string).toArray t (0, 0))) (hl : l.length ≤ maxLen) : RdsS W (.slice (some ⟨g, 0, none⟩) l.length l.length) l := by
  refine rdsS_mk (Nat.le_refl _) hl (Array.getElem?_eq_some_iff.1 h).1 fun i hi => ?_
  simp [World.cell?, h, hi]
theorem conv_nil (w : World) : (convert 92 9 (.slice none 0 0)).run Tryz.prog w = .ok (.string (Wd.mkB [])) w := by kernel_rfl
set_option maxRecDepth 20000 in
theorem conv_own {wr : World} {b m c : Nat} {a : Option Addr} {l : List UInt8} (h : wr.ownsRow b 5 1 (.slice a m c) m (bytesV l)) (hm : m = l.length) : (convert 92 9 (.slice a m c)).run Tryz.prog wr = .ok (.string (Wd.mkB l)) wr := by
  rcases h.2 with ⟨h1, h2⟩ | ⟨g, cap, cur, hv, hg, hh, hn, hc, hs, ht⟩
  · subst h2
    injection h1 with e1 _ e3
    subst e1 e3
    have : l = [] := List.length_eq_zero_iff.1 hm.symm
    subst this
    exact conv_nil wr
  · injection hv with e1 _ e3
    subst e1 e3
    refine bytes_back wr g 0 m _ l hm.symm fun i hi => ?_
    have hlen : (bytesV l).length = l.length := by simp [bytesV]
    have h3 : cur[i]? = some (.int .u8 (l[i].toNat : Int)) := by
      have h4 : (cur.toList.take (m * 1))[i]? = (bytesV l)[i]? := by rw [ht]
      rw [List.getElem?_take_of_lt (by omega), List.getElem?_eq_getElem (l := bytesV l) (by omega)] at h4
      simpa [bytesV] using h4
    simp [World.cell?, hh, h3]
theorem rds_lit1 (W : World) (v : Value) (t : TypeId) : Rds (W.alloc (.cells #[v] t)) (.slice (some ⟨W.heap.size, 0, none⟩) 1 1) [v] :=
  .inr ⟨W.heap.size, 0, 1, rfl, Nat.le_refl _, by unfold maxLen; omega, by simp, fun i hi => by
    have : i = 0 := by simpa using hi
    subst this
    simp [go_sem]⟩
theorem own_step {w w2 w4 : World} {e : TypeId} {k n : Nat} {v : Value} {xs : List Value} (hb : Below w.heap.size w w2) (ho : w2.ownsRow w.heap.size e k v n xs) (hg : w2.grownBy w4 v.ownBlock) : Below w.heap.size w w4 := by
  refine grown_below hb hg hb.size fun j hj => ?_
  rcases ho.2 with ⟨h1, _⟩ | ⟨g, cap, cur, hv, hg, _⟩
  · rw [h1] at hj; cases hj
  · rw [hv] at hj
    injection hj with hj
    have : g = j := hj
    omega
theorem map_take_succ {ss : List ByteArray} {k : Nat} (h : k < ss.length) : (ss.map fun x => x.data.toList).take (k + 1) = (ss.map fun x => x.data.toList).take k ++ [ss[k].data.toList] := by
  rw [List.take_succ_eq_append_getElem (by rw [List.length_map]; exact h), List.getElem_map]
set_option maxHeartbeats 12800000 in
set_option maxRecDepth 20000 in
theorem say_any (v : Value) (ss : List ByteArray) (w : World) (hr : RdsS w v ss) (hm : ∀ x ∈ ss, x.size ≤ 500000) (hl : ss.length ≤ 1000000) :
    Calls Tryz.prog 73 #[v] w (SayPost ss w) := by
  obtain ⟨ad, n, cp, rfl, hn, hnm, hcell⟩ := rdsS_form hr
  have HC := Lib.hid hcell
  obtain ⟨i0, hi, hz0, hz1, hz2⟩ := info_parts infoB
  have HM := Lib.hid hm
  have HN := Lib.hid hn
  have hnl : n ≤ 1000000 := by omega
  clear hr hcell hm hn hnm hl
  go_enter Tryz.func73, Tryz.ntmps73
  go_wp2_with fail
  go_loopw [4, 9] (fun b i wr => ∃ (k m : Nat) (a : Option Addr) (c : Nat), k ≤ n ∧ i = .int .i64 k ∧ b = .slice a m c ∧ m ≤ 600000000000 ∧ Hid (m = (Wd.jn ((ss.map fun x => x.data.toList).take k)).length) ∧ Hid (∀ j (h : j < ss.length), j < k → Wd.wordB ss[j].data.toList = true) ∧
      Hid (wr.ownsRow w.heap.size 5 1 (.slice a m c) m (bytesV (Wd.jn ((ss.map fun x => x.data.toList).take k)))) ∧ Hid (Below w.heap.size w wr)) (fun b i wr => n - (intOf i).toNat)
  case atStart => exact ⟨0, 0, none, 0, Nat.zero_le _, rfl, rfl, Nat.zero_le _, by show _ = _; simp [Wd.jn], fun j h h0 => absurd h0 (Nat.not_lt_zero _), World.ownsRow_nil _ _ _ _, Below.refl _ _⟩
  case round =>
    obtain ⟨k, m, a, c, hk, rfl, rfl, hmm, hml, hall, hown, hbw⟩ := hrel
    by_cases hlt : k < n
    · have hks : k < ss.length := by have := HN.out; omega
      obtain ⟨x, hx⟩ : ∃ x, ss[k] = x := ⟨_, rfl⟩
      obtain ⟨bl, ol, rfl, hbl, hc0⟩ := HC.out k hks
      rw [hx] at hc0
      have hxm : x.size ≤ 500000 := by rw [← hx]; exact HM.out _ (List.getElem_mem hks)
      have c1 := (hbw.out.cell (p := ⟨bl, ol + k, none⟩) hbl).trans hc0
      have hbl1 : bl < wr.heap.size := Nat.lt_of_lt_of_le hbl hbw.out.size
      obtain ⟨W1, hW1⟩ : ∃ W1, W1 = wr.alloc (.cells #[.string x] 9) := ⟨_, rfl⟩
      have hB1 : Below wr.heap.size wr W1 := by rw [hW1]; exact (Below.refl _ _).alloc (Nat.le_refl _) _
      have hrow : W1.heap[wr.heap.size]? = some (.cells #[.string x] 9 (0, 0)) := by rw [hW1]; exact heap_alloc_new _ _
      have hA := alone_any x (.slice (some ⟨wr.heap.size, 0, none⟩) 1 1) [x] W1 (by omega) (rdsS_lit (l := [x]) hrow (by unfold maxLen; simp))
      have hal : Wd.aloneB x.data.toList [x] = Wd.wordB x.data.toList := by
        have := Wd.alone_one x.data.toList
        rwa [Wd.mkB_of] at this
      rw [hal] at hA
      obtain ⟨q, hq⟩ : ∃ q, Wd.wordB x.data.toList = q := ⟨_, rfl⟩
      rw [hq] at hA
      have HA := Lib.hid hA
      have HW1 := Lib.hid hW1
      have HB1 := Lib.hid hB1
      have HQ := Lib.hid hq
      have HX := Lib.hid hx
      have hkz : (k : Int) < (n : Int) := by omega
      clear hA hW1 hB1 hrow hal hq hc0 hx
      cases q with
      | false =>
        have HG : Hid (Wd.say (ss.map fun x => x.data.toList) = none) := say_bad hks (by rw [HX.out]; exact HQ.out)
        go_wp2_with fail
        rw [← HW1.out]
        refine HA.out.mono ?_
        rintro e w2 ⟨rfl, hb2⟩
        have HB2 := Lib.hid hb2
        clear hb2
        go_wp2_with fail
        go_ret2
        unfold SayPost
        rw [HG.out]
        exact ⟨rfl, hbw.out.trans ((HB1.out.trans (HB2.out.mono HB1.out.size)).mono hbw.out.size)⟩
      | true =>
        go_wp2_with fail
        rw [← HW1.out]
        refine HA.out.mono ?_
        rintro e w2 ⟨rfl, hb2⟩
        have HB2 : Hid (Below wr.heap.size wr w2) := HB1.out.trans (hb2.mono HB1.out.size)
        have HO2 : Hid (w2.ownsRow w.heap.size 5 1 (.slice a m c) m (bytesV (Wd.jn ((ss.map fun x => x.data.toList).take k)))) := ownsRow_below hown.out HB2.out
        have HBw2 : Hid (Below w.heap.size w w2) := hbw.out.trans (HB2.out.mono hbw.out.size)
        clear hb2
        have HAll : Hid (∀ j (h : j < ss.length), j < k + 1 → Wd.wordB ss[j].data.toList = true) := fun j h h1 => by
          by_cases hj : j = k
          · subst hj; rw [HX.out]; exact HQ.out
          · exact hall.out j h (by omega)
        have HLen : Hid ((Wd.jn ((ss.map fun x => x.data.toList).take (k + 1))).length ≤ 600000000000) := by
          have h1 := Wd.jn_len 500000 ((ss.map fun x => x.data.toList).take (k + 1)) (fun y hy => by
            obtain ⟨z, hz, rfl⟩ := List.mem_map.1 (List.mem_of_mem_take hy)
            rw [← Lib.size_eq]; exact HM.out z hz)
          have h2 : ((ss.map fun x => x.data.toList).take (k + 1)).length ≤ 1000000 := by rw [List.length_take]; omega
          have h3 := Nat.mul_le_mul_right (500000 + 1) h2
          show _ ≤ _
          omega
        by_cases hk0 : k = 0
        · have HT : Hid (Wd.jn ((ss.map fun x => x.data.toList).take k) ++ x.data.toList = Wd.jn ((ss.map fun x => x.data.toList).take (k + 1))) := by
            show _ = _
            subst hk0
            rw [map_take_succ hks, HX.out]
            simp [Wd.jn]
          have HLn : Hid (m + x.size = (Wd.jn ((ss.map fun x => x.data.toList).take (k + 1))).length) := by
            show _ = _
            rw [← HT.out, List.length_append, ← hml.out, ← Lib.size_eq]
          subst hk0
          go_wp2_with fail
          go_quiet (fail)
          go_wp2_with (at_builtin; refine Lib.wpList_append_own_string _ rfl (.tmp 42) (.tmp 43) 92 9 rfl w.heap.size 5 i0 Tryz.underlying92 Tryz.underlying9 hi hz0 hz1 hz2 (.slice a m c) (m) (bytesV (Wd.jn ((ss.map fun x => x.data.toList).take 0))) (by rfl) (by first | exact HO2.out | exact ownsRow_drewN HO2.out _) x (by rfl) (by unfold maxLen; omega) (by omega) (by first | exact HBw2.out.size | exact (below_dN HBw2.out _).size) ?_; intro v' w8 ho8 hg8 _; have HO8 := Lib.hid ho8; have HG8 := Lib.hid hg8; clear ho8 hg8; obtain ⟨a8, c8, rfl⟩ := ownsRow_form HO8.out)
          have HB8 : Hid (Below w.heap.size w w8) := by first | exact own_step HBw2.out HO2.out HG8.out | exact own_step (below_dN HBw2.out _) (ownsRow_drewN HO2.out _) HG8.out
          have HO9 : Hid (w8.ownsRow w.heap.size 5 1 (.slice a8 (m + x.size) c8) (m + x.size) (bytesV (Wd.jn ((ss.map fun x => x.data.toList).take (0 + 1))))) := by
            have := HO8.out
            rw [strCells_eq, ← bytesV_append, HT.out] at this
            exact this
          go_wp2_with fail
          go_roundw
          case rel => exact ⟨0 + 1, m + x.size, a8, c8, hlt, by go_num, rfl, by have := HLen.out; have := HLn.out; omega, by show _ = _; exact HLn.out, HAll.out, HO9, HB8⟩
          case measure => simp [intOf]; omega
        · obtain ⟨p, hp⟩ : ∃ p : Nat, k = p + 1 := ⟨k - 1, by omega⟩
          have hps : p < ss.length := by omega
          obtain ⟨y, hy⟩ : ∃ y, ss[p] = y := ⟨_, rfl⟩
          obtain ⟨b2, o2, e2, hb2l, hc2⟩ := HC.out p hps
          injection e2 with e2
          injection e2 with e3 e4 _
          subst e3 e4
          rw [hy] at hc2
          have c9 := (HBw2.out.cell (p := ⟨bl, ol + p, none⟩) hbl).trans hc2
          have hym : y.size ≤ 500000 := by rw [← hy]; exact HM.out _ (List.getElem_mem hps)
          have hwy : Wd.wordB y.data.toList = true := by rw [← hy]; exact hall.out p hps (by omega)
          have hAl2 : ∀ W, W.heap[w2.heap.size]? = some (.cells #[.string y, .string x] 9 (0, 0)) → Calls Tryz.prog 104 #[.string (y ++ x), .slice (some ⟨w2.heap.size, 0, none⟩) 2 2] W fun e w' => e = .returned (.bool (!Wd.gluedB y.data.toList x.data.toList)) ∧ Below W.heap.size W w' := fun W hW => by
            have := alone_any (y ++ x) (.slice (some ⟨w2.heap.size, 0, none⟩) 2 2) [y, x] W (by rw [ByteArray.size_append]; omega) (rdsS_lit (l := [y, x]) hW (by unfold maxLen; simp))
            have ha := Wd.alone_two hwy HQ.out
            rw [Wd.mkB_of, Wd.mkB_of, ← Joins.data_append] at ha
            rwa [ha] at this
          obtain ⟨q, hq⟩ : ∃ q, Wd.gluedB y.data.toList x.data.toList = q := ⟨_, rfl⟩
          rw [hq] at hAl2
          have HA2 := Lib.hid hAl2
          have hT : Wd.jn ((ss.map fun x => x.data.toList).take (k + 1)) = Wd.jn ((ss.map fun x => x.data.toList).take k) ++ ((if q then [32] else []) ++ x.data.toList) := by
            rw [map_take_succ hks, HX.out, ← hq]
            have : (ss.map fun x => x.data.toList).take k = (ss.map fun x => x.data.toList).take p ++ [y.data.toList] := by
              subst hp
              rw [map_take_succ hps, hy]
            rw [this]
            exact Wd.jn_snoc _ _ _
          have HTT := Lib.hid hT
          have hw1 : IntKind.i64.wrap ((k : Int) - 1) = (p : Int) := by
            have : (k : Int) - 1 = (p : Int) := by omega
            rw [this]; exact IntWalk.i64_in _ (by omega)
          have hp0 : (0 : Int) ≤ (p : Int) := by omega
          have hp1 : (p : Int) < (n : Int) := by omega
          have hp2 : (k : Int) - 1 = (p : Int) := by omega
          have hw2 : IntKind.i64.wrap (p : Int) = (p : Int) := IntWalk.i64_in _ (by omega)
          have hpn : p < n := by omega
          have hkg : (0 : Int) < (k : Int) := by omega
          have hkg2 : 0 < k := by omega
          have hsum : ¬ (9223372036854775807 < y.size + x.size) := by omega
          have HP := Lib.hid hp
          have hbl2 : bl < w2.heap.size := Nat.lt_of_lt_of_le hbl HBw2.out.size
          clear hq hT hAl2 hwy hy hc2 hb2l hp hk0
          go_wp2_with fail
          go_region_held3 (fun W => W.cell? ⟨bl, ol + p, none⟩ = some (.string y)) (first | exact c9 | exact k9 | go_keep)
            (first | (go_at_call 104; refine (HA2.out _ (by exact heap_alloc_new w2 _)).mono ?_; rintro _ w5 ⟨rfl, hb5⟩; have k9 := (hb5.cell (p := ⟨bl, ol + p, none⟩) (by simp; omega)).trans (show _ = some (Value.string y) by go_keep); have HB5 := Lib.hid hb5; clear hb5))
          have HB25 : Hid (Below w2.heap.size w2 w5) := (((Below.refl w2.heap.size w2).alloc (Nat.le_refl _) (.cells #[.string y, .string x] 9)).drew).trans (HB5.out.mono (by simp))
          have HO5 : Hid (w5.ownsRow w.heap.size 5 1 (.slice a m c) m (bytesV (Wd.jn ((ss.map fun x => x.data.toList).take k)))) := ownsRow_below HO2.out HB25.out
          have HBw5 : Hid (Below w.heap.size w w5) := HBw2.out.trans (HB25.out.mono HBw2.out.size)
          clear hw1 hw2 hp0 hp1 hp2 hpn hkg hkg2 hsum c9 k9
          cases q with
          | false =>
            have HT : Hid (Wd.jn ((ss.map fun x => x.data.toList).take k) ++ x.data.toList = Wd.jn ((ss.map fun x => x.data.toList).take (k + 1))) := by
              show _ = _
              rw [HTT.out]; simp
            have HLn : Hid (m + x.size = (Wd.jn ((ss.map fun x => x.data.toList).take (k + 1))).length) := by
              show _ = _
              rw [← HT.out, List.length_append, ← hml.out, ← Lib.size_eq]
            go_wp2_with (at_builtin; refine Lib.wpList_append_own_string _ rfl (.tmp 42) (.tmp 43) 92 9 rfl w.heap.size 5 i0 Tryz.underlying92 Tryz.underlying9 hi hz0 hz1 hz2 (.slice a m c) (m) (bytesV (Wd.jn ((ss.map fun x => x.data.toList).take k))) (by rfl) HO5.out x (by rfl) (by unfold maxLen; omega) (by omega) HBw5.out.size ?_; intro v' w8 ho8 hg8 _; have HO8 := Lib.hid ho8; have HG8 := Lib.hid hg8; clear ho8 hg8; obtain ⟨a8, c8, rfl⟩ := ownsRow_form HO8.out)
            have HB8 : Hid (Below w.heap.size w w8) := own_step HBw5.out HO5.out HG8.out
            have HO9 : Hid (w8.ownsRow w.heap.size 5 1 (.slice a8 (m + x.size) c8) (m + x.size) (bytesV (Wd.jn ((ss.map fun x => x.data.toList).take (k + 1))))) := by
              have := HO8.out
              rw [strCells_eq, ← bytesV_append, HT.out] at this
              exact this
            go_wp2_with fail
            go_roundw
            case rel => exact ⟨k + 1, m + x.size, a8, c8, hlt, by go_num, rfl, by have := HLen.out; have := HLn.out; omega, by show _ = _; exact HLn.out, HAll.out, HO9, HB8⟩
            case measure => simp [intOf]; omega
          | true =>
            have HT : Hid ((Wd.jn ((ss.map fun x => x.data.toList).take k) ++ [32]) ++ x.data.toList = Wd.jn ((ss.map fun x => x.data.toList).take (k + 1))) := by
              show _ = _
              rw [HTT.out]; simp
            have HLn : Hid (m + 1 + x.size = (Wd.jn ((ss.map fun x => x.data.toList).take (k + 1))).length) := by
              show _ = _
              rw [← HT.out, List.length_append, List.length_append, ← hml.out, ← Lib.size_eq]
              rfl
            have hmm7 : m + 1 ≤ 600000000001 := by omega
            go_wp2_with (at_builtin; first | (refine wpList_append_rds rfl (.tmp 39) (.tmp 40) 92 rfl w.heap.size 5 i0 _ 1 Tryz.underlying92 hi hz0 hz1 hz2 rfl (.slice a m c) m (bytesV (Wd.jn ((ss.map fun x => x.data.toList).take k))) (by rfl) (HO5.out.alloc _) (.slice (some ⟨w5.heap.size, 0, none⟩) 1 1) [.int .u8 32] (by rfl) (rds_lit1 w5 (.int .u8 32) 5) (by simp [Value.oneCell']) (m + 1) rfl (by unfold maxLen; omega) (by omega) (by have := HBw5.out.size; simp; omega) ?_; intro a7 c7 w7 ho7 hg7; have HO7a := Lib.hid ho7; have HG7 := Lib.hid hg7; clear ho7 hg7; have HBw7 : Hid (Below w.heap.size w w7) := own_step (HBw5.out.alloc HBw5.out.size _) (HO5.out.alloc _) HG7.out; have HO7 : Hid (w7.ownsRow w.heap.size 5 1 (.slice a7 (m + 1) c7) (m + 1) (bytesV (Wd.jn ((ss.map fun x => x.data.toList).take k) ++ [32]))) := (by rw [bytesV_append]; exact HO7a.out)) | (refine Lib.wpList_append_own_string _ rfl (.tmp 42) (.tmp 43) 92 9 rfl w.heap.size 5 i0 Tryz.underlying92 Tryz.underlying9 hi hz0 hz1 hz2 (.slice a7 (m + 1) c7) ((m + 1)) (bytesV (Wd.jn ((ss.map fun x => x.data.toList).take k) ++ [32])) (by rfl) HO7.out x (by rfl) (by unfold maxLen; omega) (by omega) HBw7.out.size ?_; intro v' w8 ho8 hg8 _; have HO8 := Lib.hid ho8; have HG8 := Lib.hid hg8; clear ho8 hg8; obtain ⟨a8, c8, rfl⟩ := ownsRow_form HO8.out))
            have HB8 : Hid (Below w.heap.size w w8) := own_step HBw7.out HO7.out HG8.out
            have HO9 : Hid (w8.ownsRow w.heap.size 5 1 (.slice a8 ((m + 1) + x.size) c8) ((m + 1) + x.size) (bytesV (Wd.jn ((ss.map fun x => x.data.toList).take (k + 1))))) := by
              have := HO8.out
              rw [strCells_eq, ← bytesV_append, HT.out] at this
              exact this
            go_wp2_with fail
            go_roundw
            case rel => exact ⟨k + 1, m + 1 + x.size, a8, c8, hlt, by go_num, rfl, by have := HLen.out; have := HLn.out; omega, by show _ = _; exact HLn.out, HAll.out, HO9, HB8⟩
            case measure => simp [intOf]; omega
    · have hkn : k = n := by omega
      subst hkn
      have HG : Hid (Wd.say (ss.map fun x => x.data.toList) = some (Wd.jn (ss.map fun x => x.data.toList))) := say_good fun j hj => hall.out j hj (by have := HN.out; omega)
      have HO : Hid (wr.ownsRow w.heap.size 5 1 (.slice a m c) m (bytesV (Wd.jn (ss.map fun x => x.data.toList)))) := by
        have := hown.out
        rw [List.take_of_length_le (by rw [List.length_map]; have := HN.out; omega)] at this
        exact this
      have hkz : decide ((k : Int) < (k : Int)) = false := by simp
      have hconv := conv_own HO.out (by
        have := hml.out
        rw [List.take_of_length_le (by rw [List.length_map]; have := HN.out; omega)] at this
        exact this)
      go_wp2_with fail
      go_ret2
      unfold SayPost
      rw [HG.out]
      exact ⟨rfl, hbw.out⟩
end Go.Proofs.YtlamhpiiikcpiaaGreatDoor
/-
  Walks over the reference of words: double, single, next.
-/
namespace Go.Proofs.YtlamhpiiikcpiaaGreatDoor
open Go.RowKit
set_option linter.unusedVariables false
set_option linter.unusedSimpArgs false
set_option maxHeartbeats 800000 in
set_option maxRecDepth 20000 in
theorem rdouble_any (s : ByteArray) (w : World) : Calls Tryz.prog 141 #[.string s] w fun e w' => e = .returned (.bool (Wd.isPair s.data.toList)) ∧ w = w' := by
  have hp : Wd.isPair s.data.toList = (s.toList == [61, 61] || s.toList == [60, 61] || s.toList == [62, 61] || s.toList == [45, 62]) := by rw [ByteArray.toList_eq]; rfl
  rw [hp]
  clear hp
  go_enter Tryz.func141, Tryz.ntmps141
  go_wp2_with fail
  all_goals
    go_ret
    exact ⟨ret_bool (by simp [*]), rfl⟩
theorem single_no {c : UInt8} (h : ∀ v ∈ Wd.singles, ¬ c.toNat = v.toNat) : Wd.isSingle c = false := by
  unfold Wd.isSingle
  rw [Bool.eq_false_iff]
  intro hc
  rw [List.contains_iff_mem] at hc
  exact h c hc rfl
set_option maxHeartbeats 3200000 in
set_option maxRecDepth 20000 in
theorem rsingle_any (c : UInt8) (w : World) : Calls Tryz.prog 142 #[.int .u8 (c.toNat : Int)] w fun e w' => e = .returned (.bool (Wd.isSingle c)) ∧ w = w' := by
  go_enter Tryz.func142, Tryz.ntmps142
  go_wp2_with fail
  go_loop [3] (fun i => ∃ k : Nat, k ≤ 12 ∧ i = .int .i64 k ∧ Hid (∀ v ∈ Wd.singles.take k, ¬ c.toNat = v.toNat)) (fun i => 12 - (intOf i).toNat)
  case atStart => exact ⟨0, Nat.zero_le _, rfl, fun v hv => by simp at hv⟩
  case round =>
    obtain ⟨k, hk, rfl, hno⟩ := hrel
    have hsz : (⟨#[40, 41, 44, 124, 42, 43, 63, 46, 36, 61, 60, 62]⟩ : ByteArray).size = 12 := rfl
    by_cases hlt : k < 12
    · have hk2 : k < (⟨#[40, 41, 44, 124, 42, 43, 63, 46, 36, 61, 60, 62]⟩ : ByteArray).size := hlt
      have hget : Wd.singles[k]'hlt = (⟨#[40, 41, 44, 124, 42, 43, 63, 46, 36, 61, 60, 62]⟩ : ByteArray)[k] := rfl
      have hlz : (k : Int) < 12 := by omega
      by_cases hc : (⟨#[40, 41, 44, 124, 42, 43, 63, 46, 36, 61, 60, 62]⟩ : ByteArray)[k] = c
      · have hb : ((((⟨#[40, 41, 44, 124, 42, 43, 63, 46, 36, 61, 60, 62]⟩ : ByteArray)[k].toNat : Nat) : Int) == ((c.toNat : Nat) : Int)) = true := byte_test _ _ _ (by simpa using hc)
        have HY : Hid (Wd.isSingle c = true) := by
          show _ = _
          unfold Wd.isSingle
          rw [List.contains_iff_mem, ← hc, ← hget]
          exact List.getElem_mem _
        clear hc hget
        go_wp2_with fail
        go_ret
        exact ⟨ret_bool HY.out.symm, rfl⟩
      · have hb : ((((⟨#[40, 41, 44, 124, 42, 43, 63, 46, 36, 61, 60, 62]⟩ : ByteArray)[k].toNat : Nat) : Int) == ((c.toNat : Nat) : Int)) = false := byte_test _ _ _ (by simpa using hc)
        have HN : Hid (∀ v ∈ Wd.singles.take (k + 1), ¬ c.toNat = v.toNat) := fun v hv => by
          rw [List.take_succ_eq_append_getElem (show k < Wd.singles.length from hlt)] at hv
          rcases List.mem_append.1 hv with hv | hv
          · exact hno.out v hv
          · rw [List.mem_singleton.1 hv]
            exact fun e => hc (UInt8.toNat.inj e.symm)
        clear hc hget
        go_wp2_with fail
        go_round
        case rel => exact ⟨k + 1, by omega, by go_num, HN⟩
        case measure => simp [intOf]; omega
    · have hk12 : k = 12 := by omega
      subst hk12
      go_wp2_with fail
      go_ret
      exact ⟨ret_bool (single_no hno.out).symm, rfl⟩
theorem rdouble_is (s : ByteArray) (d : Bool) (h : Wd.isPair s.data.toList = d) (w : World) : Calls Tryz.prog 141 #[.string s] w fun e w' => e = .returned (.bool d) ∧ w = w' := by
  subst h; exact rdouble_any s w
theorem rsingle_is (c : UInt8) (d : Bool) (h : Wd.isSingle c = d) (w : World) : Calls Tryz.prog 142 #[.int .u8 (c.toNat : Int)] w fun e w' => e = .returned (.bool d) ∧ w = w' := by
  subst h; exact rsingle_any c w
theorem arrow_two {s : ByteArray} {j : Nat} (h : j + 2 ≤ s.size) : Wd.arrow (s.data.toList.drop j) = ((s.extract j (j + 2)).toList == [45, 62]) := by
  rw [ByteArray.toList_eq, Lib.extract_data, show j + 2 - j = 2 by omega]
  rfl
theorem arrow_short {s : ByteArray} {j : Nat} (h : ¬ j + 2 ≤ s.size) : Wd.arrow (s.data.toList.drop j) = false := by
  unfold Wd.arrow
  have hl : (s.data.toList.drop j).length ≤ 1 := by rw [List.length_drop, ← Lib.size_eq]; omega
  match hq : s.data.toList.drop j, hl with
  | [], _ => rfl
  | [c], _ => simp
theorem pair_two {s : ByteArray} {j : Nat} : Wd.isPair ((s.data.toList.drop j).take 2) = Wd.isPair (s.extract j (j + 2)).data.toList := by
  rw [Lib.extract_data, show j + 2 - j = 2 by omega]
theorem pair_short {s : ByteArray} {j : Nat} (h : ¬ j + 2 ≤ s.size) : Wd.isPair ((s.data.toList.drop j).take 2) = false := by
  have hl : (s.data.toList.drop j).length ≤ 1 := by rw [List.length_drop, ← Lib.size_eq]; omega
  match hq : s.data.toList.drop j, hl with
  | [], _ => rfl
  | [c], _ => simp [Wd.isPair]
set_option maxHeartbeats 3200000 in
set_option maxRecDepth 20000 in
theorem rnext_any (x : Nat) (s : ByteArray) (w : World) (hx : x < s.size) (hs : s.size ≤ 1048576) :
    Calls Tryz.prog 123 #[.string s, .int .i64 x] w fun e w' => e = .returned (.int .i64 (Wd.size (s.data.toList.drop x))) ∧ w = w' := by
  have hd : s.data.toList.drop x = s[x] :: s.data.toList.drop (x + 1) := by
    rw [List.drop_eq_getElem_cons (by simpa using hx)]; rfl
  obtain ⟨p, hp⟩ : ∃ p, Wd.isPair ((s.data.toList.drop x).take 2) = p := ⟨_, rfl⟩
  obtain ⟨q, hq⟩ : ∃ q, Wd.isSingle s[x] = q := ⟨_, rfl⟩
  have HPc : Hid (∀ W, Calls Tryz.prog 141 #[.string (s.extract x (x + 2))] W fun e w' => e = .returned (.bool p) ∧ W = w') := fun W => rdouble_is _ p (by rw [← hp, pair_two]) W
  have HQc : Hid (∀ W, Calls Tryz.prog 142 #[.int .u8 (s[x].toNat : Int)] W fun e w' => e = .returned (.bool q) ∧ W = w') := fun W => rsingle_is _ q hq W
  have HPe := Lib.hid hp
  have HQe : Hid (Wd.isSingle ((s.data.toList.drop x).headD 0) = q) := by rw [hd]; exact hq
  have hx0 : (0 : Int) ≤ (x : Int) := by omega
  have hx1 : (x : Int) < (s.size : Int) := by omega
  have hshort : p = true → x + 2 ≤ s.size := fun h => by
    rcases Nat.lt_or_ge s.size (x + 2) with h2 | h2
    · rw [pair_short (by omega)] at hp; rw [← hp] at h; cases h
    · exact h2
  have HSh := Lib.hid hshort
  have HE : Hid (p = false → q = false → ∀ k : Nat, Wd.lets (s.data.toList.drop x) = k → Wd.size (s.data.toList.drop x) = k) := fun h1 h2 k h => by
    subst h1 h2
    rw [Wd.size_lets HPe.out HQe.out, h]
  clear hp hq hd hshort
  go_enter Tryz.func123, Tryz.ntmps123
  by_cases h2 : x + 2 ≤ s.size
  case' pos =>
    have h2z : (x : Int) + 2 ≤ (s.size : Int) := by omega
    have h2y : (x : Int) ≤ (x : Int) + 2 := by omega
    have h2x : ((x : Int) + 2).toNat = x + 2 := by omega
    cases p
    rotate_left
    · go_wp2_with ((with_reducible refine (HPc.out _).mono ?_); rintro e w' ⟨rfl, rfl⟩)
      go_ret
      exact ⟨int_eq (by rw [Wd.size_pair HPe.out]; rfl), rfl⟩
    go_wp2_with (first | ((with_reducible refine (HPc.out _).mono ?_); rintro e w' ⟨rfl, rfl⟩))
  case' neg =>
    have h2z : decide ((x : Int) + 2 ≤ (s.size : Int)) = false := by simp; omega
    cases p
    rotate_left
    · exact absurd (HSh.out rfl) h2
    go_wp2_with fail
  all_goals
    refine (HQc.out _).mono ?_
    rintro e w' ⟨rfl, rfl⟩
    cases q
    rotate_left
    · go_wp2_with fail
      go_ret
      exact ⟨int_eq (by rw [Wd.size_single HPe.out HQe.out]; rfl), rfl⟩
    go_wp2_with fail
    go_loop [5] (fun i => ∃ k : Nat, x ≤ k ∧ k ≤ s.size ∧ i = .int .i64 k ∧ Hid (Wd.lets (s.data.toList.drop x) = (k - x) + Wd.lets (s.data.toList.drop k))) (fun i => s.size - (intOf i).toNat)
    case atStart => exact ⟨x, Nat.le_refl _, by omega, rfl, by show _ = _; simp⟩
    case round =>
      obtain ⟨k, hxk, hk, rfl, hrel⟩ := hrel
      by_cases hkt : k < s.size
      · obtain ⟨d, hd⟩ : ∃ d, Rp.isLetter s[k] = d := ⟨_, rfl⟩
        obtain ⟨a, ha⟩ : ∃ a, Wd.arrow (s.data.toList.drop k) = a := ⟨_, rfl⟩
        have hdr := lets_drop s k hkt
        rw [hd, ha] at hdr
        have HD := Lib.hid hdr
        have HLt : Hid (∀ W, Calls Tryz.prog 131 #[.int .u8 (s[k].toNat : Int)] W fun e w' => e = .returned (.bool d) ∧ W = w') := fun W => rletter_is _ d hd W
        clear hd hdr
        have hkz : (k : Int) < (s.size : Int) := by omega
        have hkn : (0 : Int) ≤ (k : Int) := by omega
        have hsub : ((k : Int) - (x : Int)) = ((k - x : Nat) : Int) := by omega
        have HSub := Lib.hid hsub
        clear hsub
        cases d
        · clear ha
          go_wp2_with (first | ((with_reducible refine (HLt.out _).mono ?_); rintro e w' ⟨rfl, rfl⟩))
          go_ret
          exact ⟨int_eq (by rw [HE.out (by trivial) (by trivial) (k - x) (by rw [hrel.out, HD.out]; rfl)]; exact HSub.out), rfl⟩
        · by_cases hk2 : k + 2 ≤ s.size
          · have hk2z : (k : Int) + 2 ≤ (s.size : Int) := by omega
            have hk2y : (k : Int) ≤ (k : Int) + 2 := by omega
            have hk2x : ((k : Int) + 2).toNat = k + 2 := by omega
            rw [arrow_two hk2] at ha
            cases a
            · have haz : (s.extract k (k + 2)).toList ≠ [45, 62] := by simpa using ha
              go_wp2_with (first | ((with_reducible refine (HLt.out _).mono ?_); rintro e w' ⟨rfl, rfl⟩))
              go_round
              case rel => exact ⟨k + 1, by omega, by omega, by go_num, by show _ = _; rw [hrel.out, HD.out]; simp; omega⟩
              case measure => simp [intOf]; omega
            · have haz : (s.extract k (k + 2)).toList = [45, 62] := by simpa using ha
              go_wp2_with (first | ((with_reducible refine (HLt.out _).mono ?_); rintro e w' ⟨rfl, rfl⟩))
              go_ret
              exact ⟨int_eq (by rw [HE.out (by trivial) (by trivial) (k - x) (by rw [hrel.out, HD.out]; rfl)]; exact HSub.out), rfl⟩
          · have hk2z : decide ((k : Int) + 2 ≤ (s.size : Int)) = false := by simp; omega
            rw [arrow_short hk2] at ha
            subst ha
            go_wp2_with (first | ((with_reducible refine (HLt.out _).mono ?_); rintro e w' ⟨rfl, rfl⟩))
            go_round
            case rel => exact ⟨k + 1, by omega, by omega, by go_num, by show _ = _; rw [hrel.out, HD.out]; simp; omega⟩
            case measure => simp [intOf]; omega
      · have hkz : decide ((k : Int) < (s.size : Int)) = false := by simp; omega
        have hke : Hid (Wd.lets (s.data.toList.drop k) = 0) := by
          show _ = _
          rw [List.drop_of_length_le (by rw [← Lib.size_eq]; omega)]; rfl
        have hsub : ((k : Int) - (x : Int)) = ((k - x : Nat) : Int) := by omega
        have HSub := Lib.hid hsub
        clear hsub
        go_wp2_with fail
        go_ret
        exact ⟨int_eq (by rw [HE.out (by trivial) (by trivial) (k - x) (by rw [hrel.out, hke.out]; rfl)]; exact HSub.out), rfl⟩
end Go.Proofs.YtlamhpiiikcpiaaGreatDoor
