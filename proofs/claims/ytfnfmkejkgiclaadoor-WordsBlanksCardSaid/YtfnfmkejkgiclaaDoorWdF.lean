/-
  Walks over package words: Lines.
-/
import Derived.Test.YtfnfmkejkgiclaaDoorWdE
import Derived.Outline
namespace Go.Proofs.YtfnfmkejkgiclaaDoor
open Go.RowKit Go.Shelf
set_option linter.unusedVariables false
set_option linter.unusedSimpArgs false
attribute [local go_sem] Oper.semAt_some

/-- What Lines tells. -/
def LinesPost (s : ByteArray) (w : World) (e : Ending) (w' : World) : Prop :=
  match Wd.lines s.data.toList with
  | .ok acc => ∃ v, e = .returned (.tuple #[v, .int .i64 0, .int .i64 0, .int .i64 0]) ∧ RdsLn (fun b => w.heap.size ≤ b) w' v acc ∧ Below w.heap.size w w'
  | .error (num, p) => e = .returned (.tuple #[.slice none 0 0, .int .i64 num, .int .i64 ((p : Int) + 1), .int .i64 30]) ∧ Below w.heap.size w w'

theorem res_lines (w : World) (N : Nat) (tmps : Array Value) (ad : Option Addr) (n c : Nat) (x y z : Int) (t2 : tmps.getD 2 undef = .pointer (some ⟨N, 0, none⟩)) (t3 : tmps.getD 3 undef = .pointer (some ⟨N + 1, 0, none⟩)) (t4 : tmps.getD 4 undef = .pointer (some ⟨N + 2, 0, none⟩)) (t5 : tmps.getD 5 undef = .pointer (some ⟨N + 3, 0, none⟩))
    (h0 : w.cell? ⟨N, 0, none⟩ = some (.slice ad n c)) (h1 : w.cell? ⟨N + 1, 0, none⟩ = some (.int .i64 x)) (h2 : w.cell? ⟨N + 2, 0, none⟩ = some (.int .i64 y)) (h3 : w.cell? ⟨N + 3, 0, none⟩ = some (.int .i64 z)) :
    (results Tryd.f8 tmps).run Tryd.prog w = .ok (.tuple #[.slice ad n c, .int .i64 x, .int .i64 y, .int .i64 z]) w := by
  rw [Array.getD_eq_getD_getElem?] at t2 t3 t4 t5
  simp [results, t2, t3, t4, t5, loadVar, asAddr, go_sem, Tryd.isAgg22, Tryd.sizeOf22, Tryd.isAgg3, Tryd.sizeOf3, Tryd.isAgg23, Tryd.sizeOf23, h0, h1, h2, h3]

set_option maxHeartbeats 800000 in
set_option maxRecDepth 20000 in
theorem lines_long (s : ByteArray) (w : World) (hs : (1048576 : Int) < s.size) :
    Calls Tryd.prog 8 #[.string s] w fun e w' => e = .returned (.tuple #[.slice none 0 0, .int .i64 0, .int .i64 0, .int .i64 2]) ∧ Below w.heap.size w w' := by
  go_enter_defers Tryd.func8, Tryd.ntmps8
  go_wp2_with fail
  refine ⟨_, res_lines _ w.heap.size _ none 0 0 0 0 2 rfl rfl rfl rfl ?_ ?_ ?_ ?_, rfl, ?_⟩
  · simp [go_sem]
  · simp [go_sem]
  · simp [go_sem]
  · simp [go_sem]
  · exact (((((Below.refl _ _).alloc (Nat.le_refl _) _).alloc (by simp) _).alloc (by simp; omega) _).alloc (by simp; omega) _)

theorem splitSeq_any (s : ByteArray) (w : World) : Calls Tryd.prog 23 #[.string s, .string ⟨#[10]⟩] w fun e w' =>
    e = .returned (.func (.func 42) #[] #[.pointer (some ⟨w.heap.size + 1, 0, none⟩), .pointer (some ⟨w.heap.size, 0, none⟩), .pointer (some ⟨w.heap.size + 2, 0, none⟩)]) ∧
    w' = ((w.alloc (.cells #[.string s] 9)).alloc (.cells #[.string ⟨#[10]⟩] 9)).alloc (.cells #[.int .i64 0] 3) := by
  have h : ∀ W, Calls Tryd.prog 37 #[.string s, .string ⟨#[10]⟩, .int .i64 0] W fun e w' =>
    e = .returned (.func (.func 42) #[] #[.pointer (some ⟨W.heap.size + 1, 0, none⟩), .pointer (some ⟨W.heap.size, 0, none⟩), .pointer (some ⟨W.heap.size + 2, 0, none⟩)]) ∧
    w' = ((W.alloc (.cells #[.string s] 9)).alloc (.cells #[.string ⟨#[10]⟩] 9)).alloc (.cells #[.int .i64 0] 3) := by
    intro W
    go_enter Tryd.func37, Tryd.ntmps37
    go_wp2_with fail
    go_ret
    exact ⟨rfl, rfl⟩
  have H := Lib.hid h
  clear h
  go_enter Tryd.func23, Tryd.ntmps23
  go_wp2_with ((with_reducible refine (H.out _).mono ?_); rintro e w' ⟨rfl, rfl⟩)
  go_ret
  exact ⟨rfl, rfl⟩

theorem But.put {S : Nat → Prop} {w : World} {b : Nat} (hs : S b) (o : Obj) : But S w (w.putObj b o) :=
  ⟨rfl, rfl, rfl, by simp [World.putObj], fun k _ hn => World.putObj_heap_other (fun e => hn (e ▸ hs))⟩
theorem heap_al (w : World) (o : Obj) : (w.alloc o).heap = w.heap.push o := rfl
theorem But.alloc {S : Nat → Prop} {w : World} (o : Obj) : But S w (w.alloc o) := But.below ((Below.refl _ _).alloc (Nat.le_refl _) _)

theorem split_len : ∀ (l : List UInt8), (Wd.split l).length ≤ l.length + 1 ∧ ∀ x ∈ Wd.split l, x.length ≤ l.length
  | [] => by simp [Wd.split]
  | c :: t => by
    obtain ⟨h1, h2⟩ := split_len t
    simp only [Wd.split]
    split
    · refine ⟨by simp; omega, fun x hx => ?_⟩
      rcases List.mem_cons.1 hx with rfl | hx
      · simp
      · have := h2 x hx; simp; omega
    · have hne := Wd.split_ne t
      cases hs : Wd.split t with
      | nil => exact absurd hs hne
      | cons a r =>
        rw [hs] at h1 h2
        simp only [List.headD_cons, List.tail_cons, List.length_cons] at h1 ⊢
        refine ⟨by omega, fun x hx => ?_⟩
        rcases List.mem_cons.1 hx with rfl | hx
        · have := h2 a (by simp); simp; omega
        · have := h2 x (by simp [hx]); omega

theorem infoWs : (Tryd.prog.info? 39).map (fun i => (i.zero, i.size, i.bytes)) = some (some (.slice none 0 0), 1, 24) := by kernel_rfl

theorem cells_one {W : World} {b : Nat} {v : Value} {t : TypeId} (h : W.heap[b]? = some (.cells #[v] t (0, 0))) : W.cell? ⟨b, 0, none⟩ = some v ∧ W.frozen? ⟨b, 0, none⟩ = false := by
  constructor <;> simp [World.cell?, World.frozen?, h]

theorem four_set {W : World} {N : Nat} {a0 a1 a2 a3 : Value} (a b c d : Value) (c0 : W.cell? ⟨N, 0, none⟩ = some a0) (c1 : W.cell? ⟨N + 1, 0, none⟩ = some a1) (c2 : W.cell? ⟨N + 2, 0, none⟩ = some a2) (c3 : W.cell? ⟨N + 3, 0, none⟩ = some a3) :
    ∃ W6, W6 = ((((W.setCell ⟨N, 0, none⟩ a).setCell ⟨N + 1, 0, none⟩ b).setCell ⟨N + 2, 0, none⟩ c).setCell ⟨N + 3, 0, none⟩ d) ∧ W6.cell? ⟨N, 0, none⟩ = some a ∧ W6.cell? ⟨N + 1, 0, none⟩ = some b ∧ W6.cell? ⟨N + 2, 0, none⟩ = some c ∧ W6.cell? ⟨N + 3, 0, none⟩ = some d ∧ But (fun j => N ≤ j ∧ j ≤ N + 3) W W6 := by
  have e : ∀ i j, i ≠ j → (⟨N + i, 0, none⟩ : Addr) ≠ ⟨N + j, 0, none⟩ := fun i j h h2 => by injection h2 with h2 _ _; omega
  have k1 := cell_set_same a c0
  have k2 := cell_set_same (w := W.setCell ⟨N, 0, none⟩ a) (a := ⟨N + 1, 0, none⟩) b ((cell_set_other _ (e 0 1 (by omega))).trans c1)
  have k3 := cell_set_same (w := (W.setCell ⟨N, 0, none⟩ a).setCell ⟨N + 1, 0, none⟩ b) (a := ⟨N + 2, 0, none⟩) c ((cell_set_other _ (e 1 2 (by omega))).trans ((cell_set_other _ (e 0 2 (by omega))).trans c2))
  have k4 := cell_set_same (w := ((W.setCell ⟨N, 0, none⟩ a).setCell ⟨N + 1, 0, none⟩ b).setCell ⟨N + 2, 0, none⟩ c) (a := ⟨N + 3, 0, none⟩) d ((cell_set_other _ (e 2 3 (by omega))).trans ((cell_set_other _ (e 1 3 (by omega))).trans ((cell_set_other _ (e 0 3 (by omega))).trans c3)))
  have hb : ∀ (X : World) (i : Nat) (u : Value), i ≤ 3 → But (fun j => N ≤ j ∧ j ≤ N + 3) X (X.setCell ⟨N + i, 0, none⟩ u) := fun X i u hi => But.set (S := fun j => N ≤ j ∧ j ≤ N + 3) (a := ⟨N + i, 0, none⟩) ⟨by show N ≤ N + i; omega, by show N + i ≤ N + 3; omega⟩ _
  refine ⟨_, rfl, ?_, ?_, ?_, k4, (((hb _ 0 _ (by omega)).trans (hb _ 1 _ (by omega))).trans (hb _ 2 _ (by omega))).trans (hb _ 3 _ (by omega))⟩
  · exact (cell_set_other _ (e 3 0 (by omega))).trans ((cell_set_other _ (e 2 0 (by omega))).trans ((cell_set_other _ (e 1 0 (by omega))).trans k1))
  · exact (cell_set_other _ (e 3 1 (by omega))).trans ((cell_set_other _ (e 2 1 (by omega))).trans k2)
  · exact (cell_set_other _ (e 3 2 (by omega))).trans k3

/-- The loop's record. -/
def recOf (f : FuncId) (tmps : Array Value) (t : Tmp) (assign body : Code) (N : Nat) (st : LoopState) : Loop :=
  { state := st, pending := none, fn := f, tmps := tmps, params := #[t], assign := assign, body := body, defers := N + 9 }

theorem LnSt.put {N : Nat} {w : World} {s : ByteArray} {rec : Loop} {pre : List (List UInt8)} {acc : List (List Wrd)} {v : Value} {us : List Value} {W : World} (h : LnSt N w s rec pre acc v us W) (rec' : Loop) : LnSt N w s rec' pre acc v us (W.putObj (N + 10) (.loop rec')) := by
  have hsz := h.size
  have f : ∀ k, k ≠ N + 10 → (W.putObj (N + 10) (.loop rec')).heap[k]? = W.heap[k]? := fun k hk => World.putObj_heap_other hk
  have hb : But (fun k => k = N + 10) W (W.putObj (N + 10) (.loop rec')) := But.put (S := fun k => k = N + 10) rfl _
  refine ⟨(f _ (by omega)).trans h.z0, (f _ (by omega)).trans h.z1, (f _ (by omega)).trans h.z2, (f _ (by omega)).trans h.z3, (f _ (by omega)).trans h.nb, (f _ (by omega)).trans h.rw, (f _ (by omega)).trans h.df, World.putObj_heap_same (by omega), ?_, h.len, fun i h1 h2 => (h.rd i h1 h2).but hb (fun b hb e => by have := hb.1; omega), h.blw.trans (hb.toBelow (by omega) (fun k hk => by omega)), h.eq, h.few⟩
  obtain ⟨h1, h2⟩ := h.own
  refine ⟨h1, h2.imp id ?_⟩
  rintro ⟨g, cap, cur, hv, hg, hh, r⟩
  exact ⟨g, cap, cur, hv, hg, (f _ (by omega)).trans hh, r⟩

theorem ItSt.but {N : Nat} {sc : ByteArray} {S : Nat → Prop} {W W' : World} (h : ItSt N sc W) (hb : But S W W') (hs : ∀ j, N + 6 ≤ j ∧ j ≤ N + 8 → ¬ S j) : ItSt N sc W' :=
  ⟨(hb.block _ (Array.getElem?_eq_some_iff.1 h.s).1 (hs _ (by omega))).trans h.s, (hb.block _ (Array.getElem?_eq_some_iff.1 h.p).1 (hs _ (by omega))).trans h.p, (hb.block _ (Array.getElem?_eq_some_iff.1 h.v).1 (hs _ (by omega))).trans h.v⟩

theorem ItSt.put {N : Nat} {sc : ByteArray} {W : World} (h : ItSt N sc W) (o : Obj) : ItSt N sc (W.putObj (N + 10) o) :=
  ⟨(World.putObj_heap_other (by omega)).trans h.s, (World.putObj_heap_other (by omega)).trans h.p, (World.putObj_heap_other (by omega)).trans h.v⟩

/-- A round's panic, as it comes up. -/
def LnPan (N : Nat) (w : World) (s : ByteArray) (ch : List PanicEntry) (W : World) : Prop :=
  ∃ num p : Nat, ch = [{ v := .iface 49 (.agg #[.int .i64 num, .int .i64 ((p : Int) + 1)]), recovered := false }] ∧ LnBad N w s num p W

/-- What a round's body leaves. -/
def LnRound (N : Nat) (w : World) (s : ByteArray) (rec : Loop) (pre : List (List UInt8)) (x : List UInt8) (sc : ByteArray) : Exit → Act → World → Prop
  | .normal, _, W => ∃ acc v us, LnSt N w s rec (pre ++ [x]) acc v us W ∧ ItSt N sc W
  | .panic ch, a, W => a.defers = [] ∧ LnPan N w s ch W
  | _, _, _ => False

/-- The loop over the lines. -/
theorem wpF_lines {f : FuncId} {fn : Func} (hf : Tryd.prog.funcs[f]? = some fn) {g : Operand} {t : Tmp} {assign body : Code} {Q : Exit → Act → World → Prop} {a : Act} {W5 : World} {N : Nat} {w : World} {s : ByteArray} (hs : s.size ≤ 1048576) (hsz : W5.heap.size = N + 9)
    (hg : a.eval g = .func (.func 42) #[] #[.pointer (some ⟨N + 7, 0, none⟩), .pointer (some ⟨N + 6, 0, none⟩), .pointer (some ⟨N + 8, 0, none⟩)])
    (h0 : ∀ rec, LnSt N w s rec [] [] (.slice none 0 0) [] ((W5.alloc (.deferred (some []))).alloc (.loop rec)) ∧ ItSt N s ((W5.alloc (.deferred (some []))).alloc (.loop rec)))
    (hround : ∀ rec pre x rest sc acc v us W Wb, Wd.split s.data.toList = pre ++ x :: rest → LnSt N w s rec pre acc v us Wb → ItSt N sc Wb → ∀ K : Act → World → Prop,
      (∀ A, body.wpIn (Fence.wide.inRound (N + 10)) 0 Tryd.prog (LnRound N w s rec pre x sc) A Wb → K A W) →
      assign.wpIn (Fence.wide.inRound (N + 10)) 0 Tryd.prog (Exit.then K (fun _ _ _ => False)) { tmps := a.tmps.setIfInBounds t (.string (Wd.mkB x)), defers := [] } W)
    (hdone : ∀ acc v us W rec, LnSt N w s rec (Wd.split s.data.toList) acc v us W → Q .normal { a with defers := { target := .collected (N + 9), args := #[] } :: a.defers } W)
    (hpan : ∀ ch W, LnPan N w s ch W → Q (.panic ch) { a with defers := { target := .collected (N + 9), args := #[] } :: a.defers } W) :
    (Code.rangeFunc g #[t] assign body).wpF f Tryd.prog Q a W5 := by
  refine wpF_rangeFunc (gf := 42) (lb := #[.pointer (some ⟨N + 7, 0, none⟩), .pointer (some ⟨N + 6, 0, none⟩), .pointer (some ⟨N + 8, 0, none⟩)]) hg (enters_of Tryd.func42 (by kernel_rfl) rfl) ?_
  rw [hsz]
  obtain ⟨hL0, hI0⟩ := h0 (recOf f a.tmps t assign body N .ready)
  refine (callsIn_wide (n := 0)).2 (((callsIn_wide (n := 1)).1 (iter_any 1 (N + 10) N (Nat.le_refl _) s hs (fun pre W => ∃ acc v us, LnSt N w s (recOf f a.tmps t assign body N .ready) pre acc v us W) (LnPan N w s) ?_ ?_ _ ⟨_, _, _, hL0⟩ hI0)).mono ?_)
  · rintro pre W u ⟨acc, v, us, h⟩
    exact ⟨acc, v, us, h.set u⟩
  · rintro pre x rest sc W hsp ⟨acc, v, us, hL⟩ hI
    refine ⟨_, _, _, _, run_yield hL.lp (by rfl), ?_⟩
    refine roundIn_of_wpIn_p trivial hf ?_
    have e : ((recOf f a.tmps t assign body N .ready).params.zip #[Value.string (Wd.mkB x)]).foldl (fun tmps (t, a) => tmps.setIfInBounds t a) (recOf f a.tmps t assign body N .ready).tmps = a.tmps.setIfInBounds t (.string (Wd.mkB x)) := by simp [recOf]
    rw [e]
    refine wpIn_mono (hround (recOf f a.tmps t assign body N .busy) pre x rest sc acc v us W (W.putObj (N + 10) (.loop (recOf f a.tmps t assign body N .busy))) hsp (hL.put _) (hI.put _) _ (fun A hA => ⟨_, run_beginRound hL.lp (by rfl), wpIn_mono hA ?_⟩)) (fun e a w h => h)
    rintro e A W' h
    cases e with
    | normal =>
      obtain ⟨acc', v', us', h1, h2⟩ := h
      exact ⟨_, _, run_endRound none h1.lp, .inl ⟨rfl, ⟨acc', v', us', h1.put (recOf f a.tmps t assign body N .ready)⟩, h2.put _⟩⟩
    | panic ch => exact ⟨h.1, .inr ⟨ch, rfl, h.2⟩⟩
    | ret => exact h.elim
    | exit id => exact h.elim
    | goto l => exact h.elim
    | outgrown => exact h.elim
  · rintro e W' (⟨⟨v0, rfl⟩, acc, v, us, h⟩ | ⟨ch, rfl, h⟩)
    · exact ⟨_, h.lp, rfl, rfl, hdone acc v us _ _ (h.put _)⟩
    · exact hpan ch W' h

set_option maxHeartbeats 8000000 in
set_option maxRecDepth 20000 in
theorem lines_any (s : ByteArray) (w : World) (hs : s.size ≤ 1048576) : Calls Tryd.prog 8 #[.string s] w (LinesPost s w) := by
  have hs1 : decide ((1048576 : Int) < (s.size : Int)) = false := by simp; omega
  obtain ⟨N, hN⟩ : ∃ N, w.heap.size = N := ⟨_, rfl⟩
  obtain ⟨W5, hW5⟩ : ∃ W5, W5 = (((((((((w.alloc (.cells #[.slice none 0 0] 22)).alloc (.cells #[.int .i64 0] 3)).alloc (.cells #[.int .i64 0] 3)).alloc (.cells #[.int .i64 0] 23)).alloc (.cells #[.int .i64 0] 3)).alloc (.cells #[.slice none 0 0] 22)).alloc (.cells #[.string s] 9)).alloc (.cells #[.string ⟨#[10]⟩] 9)).alloc (.cells #[.int .i64 0] 3)) := ⟨_, rfl⟩
  have hsz : W5.heap.size = N + 9 := by rw [hW5]; simp; omega
  have hB5 : Below N w W5 := by
    rw [hW5, ← hN]
    exact (((((((((Below.refl _ _).alloc (Nat.le_refl _) _).alloc (by simp) _).alloc (by simp; omega) _).alloc (by simp; omega) _).alloc (by simp; omega) _).alloc (by simp; omega) _).alloc (by simp; omega) _).alloc (by simp; omega) _).alloc (by simp; omega) _
  have hheap : W5.heap = w.heap ++ (#[.cells #[.slice none 0 0] 22 (0, 0), .cells #[.int .i64 0] 3 (0, 0), .cells #[.int .i64 0] 3 (0, 0), .cells #[.int .i64 0] 23 (0, 0), .cells #[.int .i64 0] 3 (0, 0), .cells #[.slice none 0 0] 22 (0, 0), .cells #[.string s] 9 (0, 0), .cells #[.string ⟨#[10]⟩] 9 (0, 0), .cells #[.int .i64 0] 3 (0, 0)] : Array Obj) := by
    rw [hW5]
    apply Array.ext'
    simp [heap_al]
  have hp : ∀ i, W5.heap[N + i]? = (#[.cells #[.slice none 0 0] 22 (0, 0), .cells #[.int .i64 0] 3 (0, 0), .cells #[.int .i64 0] 3 (0, 0), .cells #[.int .i64 0] 23 (0, 0), .cells #[.int .i64 0] 3 (0, 0), .cells #[.slice none 0 0] 22 (0, 0), .cells #[.string s] 9 (0, 0), .cells #[.string ⟨#[10]⟩] 9 (0, 0), .cells #[.int .i64 0] 3 (0, 0)] : Array Obj)[i]? := by
    intro i
    rw [hheap, Array.getElem?_append_right (by omega), hN, Nat.add_sub_cancel_left]
  have HP := Lib.hid hp
  have HB5 := Lib.hid hB5
  have HSz := Lib.hid hsz
  have HW5 := Lib.hid hW5
  have HN := Lib.hid hN
  clear hp hheap hB5 hsz hW5 hN
  refine callsF Tryd.func8 rfl ?_
  simp only [Tryd.ntmps8, List.size_toArray, List.length_cons, List.length_nil, Nat.reduceAdd, Nat.reduceSub, Array.replicate_succ, Array.replicate_zero, List.push_toArray, List.append_toArray, List.nil_append, List.cons_append]
  refine wpF_seq_k fun K hK => ?_
  go_wp2_with fail
  refine wpF_seq_k fun K hK => ?_
  go_wp2_with fail
  refine wpF_seq_k fun K hK => ?_
  go_wp2_with fail
  refine wpF_seq_k fun K hK => ?_
  go_wp2_with fail
  refine wpF_seq_k fun K hK => ?_
  go_wp2_with fail
  refine wpF_seq ?_
  refine wpF_seq_k fun K hK => ?_
  go_wp2_with fail
  refine (splitSeq_any _ _).mono ?_
  rintro e w' ⟨rfl, rfl⟩
  go_wp2_with fail
  rw [← HW5.out]
  simp only [HN.out, Nat.add_assoc, Nat.reduceAdd]
  refine wpF_block ?_
  refine wpF_lines (N := N) (w := w) Tryd.func8 hs HSz.out rfl ?h0 ?round ?done ?pan
  case h0 =>
    intro rec
    have hz := HSz.out
    have hsz1 : (W5.alloc (.deferred (some []))).heap.size = N + 10 := by simp [hz]
    have f : ∀ k, k < N + 9 → ((W5.alloc (.deferred (some []))).alloc (.loop rec)).heap[k]? = W5.heap[k]? := fun k hk => by
      rw [heap_al, heap_al, Array.getElem?_push_lt (by simp; omega), Array.getElem_push_lt (by omega), ← Array.getElem?_eq_getElem]
    have hBn : Below W5.heap.size W5 ((W5.alloc (.deferred (some []))).alloc (.loop rec)) := ((Below.refl _ _).alloc (Nat.le_refl _) _).alloc (by simp) _
    refine ⟨⟨(f N (by omega)).trans (HP.out 0), (f _ (by omega)).trans (HP.out 1), (f _ (by omega)).trans (HP.out 2), (f _ (by omega)).trans (HP.out 3), (f _ (by omega)).trans (HP.out 4), (f _ (by omega)).trans (HP.out 5), ?_, ?_, World.ownsRow_nil _ _ _ _, rfl, fun i h => absurd h (Nat.not_lt_zero _), HB5.out.trans (hBn.mono (by omega)), fun rest h => ?_, Nat.le_refl _⟩, ⟨(f _ (by omega)).trans (HP.out 6), (f _ (by omega)).trans (HP.out 7), (f _ (by omega)).trans (HP.out 8)⟩⟩
    · have := World.alloc_heap_new W5 (.deferred (some []))
      rw [hz] at this
      exact (Below.heap_alloc _ _ _ (by omega)).trans this
    · have := World.alloc_heap_new (W5.alloc (.deferred (some []))) (.loop rec)
      rw [hsz1] at this
      exact this
    · rw [List.nil_append] at h
      unfold Wd.lines
      rw [h]
      cases Wd.rows rest 1 <;> simp [Except.map, h]
  case round =>
    intro rec pre x rest sc acc v us W Wb hsp hL hI K hR
    obtain ⟨c4, f4⟩ := cells_one hL.nb
    obtain ⟨c5, f5⟩ := cells_one hL.rw
    have hxl := (split_len s.data.toList).2 x (by rw [hsp]; simp)
    have hpl := (split_len s.data.toList).1
    rw [hsp] at hpl
    rw [← Lib.size_eq] at hxl hpl
    simp only [List.length_append, List.length_cons] at hpl
    obtain ⟨k, hk⟩ : ∃ k, pre.length = k := ⟨_, rfl⟩
    rw [hk] at c4 hpl
    have hi1 : IntKind.i64.wrap ((k : Int) + 1) = (k : Int) + 1 := IntWalk.i64_in _ (by omega)
    have HL := Lib.hid hL
    have HI := Lib.hid hI
    have HSp := Lib.hid hsp
    have HK := Lib.hid hk
    clear hL hI hsp hk
    have hst : RdSt Wb.heap.size (k + 1) 0 (Wd.mkB x) (.slice none 0 0) ((Wb.setCell ⟨N + 4, 0, none⟩ (.int .i64 ((k : Int) + 1))).alloc (.cells #[.int .i64 ((k : Int) + 1), .int .i64 0, .string (Wd.mkB x), .slice none 0 0] 58)) := by
      constructor <;> simp [go_sem]
    have hread := read_any Wb.heap.size (k + 1) (Wd.mkB x) _ (by rw [Wd.mkB_size]; omega) hst
    obtain ⟨W2, hW2⟩ : ∃ W2, W2 = ((Wb.setCell ⟨N + 4, 0, none⟩ (.int .i64 ((k : Int) + 1))).alloc (.cells #[.int .i64 ((k : Int) + 1), .int .i64 0, .string (Wd.mkB x), .slice none 0 0] 58)) := ⟨_, rfl⟩
    rw [← hW2] at hread
    have hRd : CallsIn (Fence.wide.inRound (N + 10)) 0 Tryd.prog 24 #[.pointer (some ⟨Wb.heap.size, 0, none⟩)] W2 (ReadPost Wb.heap.size (k + 1) (Wd.mkB x) W2) := CallsIn.inRound _ (callsIn_wide.2 hread)
    have hb2 : But (fun j => j = N + 4) Wb W2 := by
      rw [hW2]
      exact (But.set (S := fun j => j = N + 4) (a := ⟨N + 4, 0, none⟩) rfl _).trans (But.alloc _)
    have hn2 : W2.heap[N + 4]? = some (.cells #[.int .i64 ((k : Int) + 1)] 3 (0, 0)) := by
      rw [hW2, heap_al, Array.getElem?_push_lt (by have := HL.out.size; simp [World.setCell]; omega), ← Array.getElem?_eq_getElem]
      exact one_set HL.out.nb _
    have hsz2 : W2.heap.size = Wb.heap.size + 1 := by rw [hW2]; simp [World.setCell]
    have HRd := Lib.hid hRd
    have HB2 := Lib.hid hb2
    have HN2 := Lib.hid hn2
    have HSz2 := Lib.hid hsz2
    have HW2 := Lib.hid hW2
    obtain ⟨B, hB⟩ : ∃ B, B = Wb.heap.size := ⟨_, rfl⟩
    rw [← hB] at HRd HSz2
    have HB := Lib.hid hB
    have HLs : Hid (N + 11 ≤ B) := by rw [hB]; exact HL.out.size
    clear hst hread hRd hb2 hn2 hsz2 hW2 hi1 hB
    gi_wp2
    refine ⟨trivial, rfl, ?_⟩
    rw [← HW2.out, ← HB.out]
    refine HRd.out.mono ?_
    intro e w3 h3
    unfold ReadPost at h3
    rw [Wd.mkB_list] at h3
    have hBv := HB.out
    cases hline : Wd.line (k + 1) x 0 with
    | error p =>
      rw [hline] at h3
      obtain ⟨rfl, hb3⟩ := h3
      have hb23 : But (fun j => j = N + 4) Wb w3 := ((HB2.out.mono (T := fun j => j = N + 4 ∨ j = B) (fun j hj => by omega)).trans (hb3.mono (fun j hj => by omega))).less fun j h1 h2 => by omega
      refine ⟨rfl, k + 1, p, by simp, ?_⟩
      have := HL.out.bad HSp.out (p := p) (by rw [HK.out]; exact hline) (hb23.mono fun j hj => .inl hj)
      rw [HK.out] at this
      exact this
    | ok ws =>
      rw [hline] at h3
      obtain ⟨rfl, v3, d3, own3, hb3⟩ := h3
      have hb23 : But (fun j => j = N + 4) Wb w3 := ((HB2.out.mono (T := fun j => j = N + 4 ∨ j = B) (fun j hj => by omega)).trans (hb3.mono (fun j hj => by omega))).less fun j h1 h2 => by omega
      have hw3 : RdsW (fun b => Wb.heap.size ≤ b) w3 v3 ws := (ownsRow_rdsW own3).mono fun b _ hb => by have := HSz2.out; omega
      have hn3 : w3.heap[N + 4]? = some (.cells #[.int .i64 ((k : Int) + 1)] 3 (0, 0)) := (hb3.block (N + 4) (by have := HSz2.out; have := HLs.out; omega) (by have := HLs.out; omega)).trans HN2.out
      have hl3 : w3.heap[N + 10]? = some (.loop rec) := (hb23.block (N + 10) (by have := HLs.out; omega) (by omega)).trans HL.out.lp
      obtain ⟨ad, cp, rfl, _⟩ := ownsRow_slice own3
      have hI3 : ItSt N sc w3 := HI.out.but hb23 (fun j h1 h2 => by omega)
      have HI3 := Lib.hid hI3
      have HB3 := Lib.hid hb23
      have HW3 := Lib.hid hw3
      have HN3 := Lib.hid hn3
      have HL3 := Lib.hid hl3
      have e5 := (hb23.cell (p := ⟨N + 5, 0, none⟩) (by show N + 5 < _; have := HLs.out; omega) (by show ¬ N + 5 = N + 4; omega)).trans c5
      have g5 := (hb23.frozen (p := ⟨N + 5, 0, none⟩) (by show N + 5 < _; have := HLs.out; omega) (by show ¬ N + 5 = N + 4; omega)).trans f5
      have Hline := Lib.hid hline
      have hBs : B < w3.heap.size := by have := hb3.size; have := HSz2.out; omega
      clear hI3 hb23 hw3 hn3 hl3 own3 hb3 c4 f4 c5 f5 hline hBv
      by_cases hne : ws = []
      · subst hne
        gi_wp2
        exact ⟨acc, v, us, HL.out.same (by rw [HK.out]; exact Hline.out) (by rw [HK.out]; exact HN3.out) HL3.out (HB3.out.mono fun j hj => .inl hj), HI3.out⟩
      · have hpos : (0 : Int) < (ws.length : Int) := by have := List.length_pos_iff.2 hne; omega
        have HNe := Lib.hid hne
        obtain ⟨va, vc, hv, hvb⟩ := ownsRow_slice HL.out.own
        have hno : ¬ v.ownBlock = some (N + 5) := by
          intro e
          cases va with
          | none => rw [hv] at e; cases e
          | some a => obtain ⟨h1, h2⟩ := hvb a rfl; rw [h2] at e; injection e with e; omega
        have hown3 : w3.ownsRow (N + 11) 39 1 v us.length us := by
          obtain ⟨h1, h2⟩ := HL.out.own
          refine ⟨h1, h2.imp id ?_⟩
          rintro ⟨g, cap, cur, hv, hg, hh, r⟩
          exact ⟨g, cap, cur, hv, hg, (HB3.out.block g ((Array.getElem?_eq_some_iff.1 hh).1) (by omega)).trans hh, r⟩
        have hnoB : ¬ v.ownBlock = some B := by
          intro e
          rcases HL.out.own.2 with ⟨h1, _⟩ | ⟨g, cap, cur, hv, hg, hh, _⟩
          · rw [h1] at e; cases e
          · rw [hv] at e
            injection e with e
            have h1 := (Array.getElem?_eq_some_iff.1 hh).1
            have h2 := HB.out
            have h3 : g = B := e
            omega
        have HNoB := Lib.hid hnoB
        have HNo := Lib.hid hno
        have HO3 := Lib.hid hown3
        have hul : us.length ≤ 1048577 := by have := HL.out.len; have := HL.out.few; have := HK.out; omega
        subst hv
        obtain ⟨i0, hi, hz0, hz1, hz2⟩ := info_parts infoWs
        clear hne hno hnoB hown3 hvb
        gi_wp2
        have hS0 : (fun W : World => W.cell? ⟨N + 5, 0, none⟩ = some (.slice va us.length vc) ∧ W.cell? ⟨B, 2 + 1, none⟩ = some (.slice ad ws.length cp)) w3.drew := ⟨e5, d3⟩
        refine wpIn_region_heldG (fun W : World => W.cell? ⟨N + 5, 0, none⟩ = some (.slice va us.length vc) ∧ W.cell? ⟨B, 2 + 1, none⟩ = some (.slice ad ws.length cp)) 7 (by kernel_rfl) (by kernel_rfl) (fun ⟨_, _, h⟩ => (h : False)) ?_
        refine wpAnyG_takeL 0 (v := ?v0) rfl (by kernel_rfl) (fun _ _ _ h => h) (by rfl) ?h0 hS0 ?_
        case h0 => (intro wl hl; obtain ⟨l0, l1⟩ := hl; go_simp; try with_reducible rfl)
        try simp only [Act.put, List.setIfInBounds_toArray, List.set_cons_zero, List.set_cons_succ]
        refine wpAnyG_takeP 1 (v := ?v1) rfl (by kernel_rfl) (fun _ _ _ h => h) (by rfl) ?h1 hS0 ?_
        case h1 => (intro wl; go_simp; try with_reducible rfl)
        try simp only [Act.put, List.setIfInBounds_toArray, List.set_cons_zero, List.set_cons_succ]
        refine wpAnyG_takeP 2 (v := ?v2) rfl (by kernel_rfl) (fun _ _ _ h => h) (by rfl) ?h2 hS0 ?_
        case h2 => (intro wl; go_simp; try with_reducible rfl)
        try simp only [Act.put, List.setIfInBounds_toArray, List.set_cons_zero, List.set_cons_succ]
        refine wpAnyG_takeP 3 (v := ?v3) rfl (by kernel_rfl) (fun _ _ _ h => h) (by rfl) ?h3 hS0 ?_
        case h3 => (intro wl; go_simp; try with_reducible rfl)
        try simp only [Act.put, List.setIfInBounds_toArray, List.set_cons_zero, List.set_cons_succ]
        refine wpAnyG_takeL 4 (v := ?v4) rfl (by kernel_rfl) (fun _ _ _ h => h) (by rfl) ?h4 hS0 ?_
        case h4 => (intro wl hl; obtain ⟨l0, l1⟩ := hl; go_simp; try with_reducible rfl)
        try simp only [Act.put, List.setIfInBounds_toArray, List.set_cons_zero, List.set_cons_succ]
        refine wpAnyG_one 5 rfl (by kernel_rfl) (fun K hK => ?_)
        go_simp
        refine hK _ _ (fun _ => ⟨by go_keep, by go_keep⟩) ?_
        clear hK K
        try simp only [Act.put, List.setIfInBounds_toArray, List.set_cons_zero, List.set_cons_succ]
        refine wpAnyG_one 6 rfl (by kernel_rfl) (fun K hK => ?_)
        (refine step_append_lies _ (by rfl) (.tmp 32) (.tmp 37) _ (by rfl) (N + 11) 39 i0 _ 1 24 Tryd.underlying22 hi hz0 hz1 hz2 rfl (by omega) (.slice va us.length vc) us.length us (by rfl) ((HO3.out.alloc _).drew) ⟨w3.heap.size, 0, none⟩ 1 1 [.slice ad ws.length cp] (by rfl) (by rfl) (World.news_of_block (cs := #[.slice ad ws.length cp]) (t := 39) (fr := (0, 0)) (heap_alloc_new w3 _)) (by simp [Value.oneCell']) (by omega) (by unfold maxLen; omega) (by omega) (by have := HLs.out; simp; omega) (w3.heap.size + 1) (by simp) ?_; intro gg cap w4 hown4 hgrow hat hlt4)
        have hfar : ∀ j, j < w3.heap.size → ¬ (Value.slice va us.length vc).ownBlock = some j → w4.heap[j]? = w3.heap[j]? := fun j h1 h2 => (hgrow.block j (by simp; omega) (fun e => h2 e.symm)).trans (Below.heap_alloc _ _ _ h1)
        have hown5 : Hid ((Value.slice va us.length vc).ownBlock = some (N + 5) → False) := HNo.out
        have k5 : w4.cell? ⟨N + 5, 0, none⟩ = some (.slice va us.length vc) := (World.cell?_of_block (hfar (N + 5) (by have := HLs.out; omega) HNo.out)).trans e5
        have kf5 : w4.frozen? ⟨N + 5, 0, none⟩ = false := (World.frozen?_of_block (hfar (N + 5) (by have := HLs.out; omega) HNo.out)).trans g5
        have HFar := Lib.hid hfar
        have HO4 := Lib.hid hown4
        have HG4 := Lib.hid hgrow
        have HAt := Lib.hid hat
        clear hfar hown4 hgrow hat hlt4 hown5
        refine hK _ _ (fun _ => ⟨k5, ?_⟩) ?_
        · exact (World.cell?_of_block (a := ⟨B, 3, none⟩) (HFar.out B hBs HNoB.out)).trans d3
        clear hK K
        try simp only [Act.put, List.setIfInBounds_toArray, List.set_cons_zero, List.set_cons_succ]
        refine wpAnyG_one 7 rfl (by kernel_rfl) (fun K hK => ?_)
        go_simp
        refine hK _ _ (fun h => absurd h (by decide)) ?_
        clear hK K
        refine wpAnyG_done (by kernel_rfl) ?_ _
        gi_wp2
        have hLs := HLs.out
        have hBv := HB.out
        have r5 : w4.heap[N + 5]? = some (.cells #[.slice va us.length vc] 22 (0, 0)) := (HFar.out (N + 5) (by omega) HNo.out).trans ((HB3.out.block (N + 5) (by omega) (by omega)).trans HL.out.rw)
        have hno10 : ¬ (Value.slice va us.length vc).ownBlock = some (N + 10) := by
          intro e
          rcases HL.out.own.2 with ⟨h1, _⟩ | ⟨g, cap, cur, hv, hg, hh, _⟩
          · rw [h1] at e; cases e
          · rw [hv] at e
            injection e with e
            have h3 : g = N + 10 := e
            omega
        have l4 : w4.heap[N + 10]? = some (.loop rec) := (HFar.out (N + 10) (by omega) hno10).trans HL3.out
        have hbA : Below w3.heap.size w3 (w3.alloc (.cells #[.slice ad ws.length cp] 39)).drew := ((Below.refl _ _).alloc (Nat.le_refl _) _).drew
        have hno678 : ∀ j, N + 6 ≤ j ∧ j ≤ N + 8 → ¬ (Value.slice va us.length vc).ownBlock = some j := by
          intro j hj e
          rcases HL.out.own.2 with ⟨h1, _⟩ | ⟨g, cap, cur, hv, hg, hh, _⟩
          · rw [h1] at e; cases e
          · rw [hv] at e
            injection e with e
            have h3 : g = j := e
            omega
        have hI4 : ItSt N sc w4 := (HI3.out.but (S := fun _ => False) (But.below hbA) (fun _ _ h => h)).but (S := fun j => (Value.slice va us.length vc).ownBlock = some j) ⟨HG4.out.os, HG4.out.tape, HG4.out.output, HG4.out.size, fun j hj hn => HG4.out.block j hj (fun e => hn e.symm)⟩ hno678
        refine ⟨acc ++ [ws], .slice (some ⟨gg, 0, none⟩) (us.length + 1) cap, us ++ [.slice ad ws.length cp], ?_, hI4.but (But.set (S := fun j => j = N + 5) (a := ⟨N + 5, 0, none⟩) rfl _) (fun j h1 h2 => by omega)⟩
        refine HL.out.more (W2 := (w3.alloc (.cells #[.slice ad ws.length cp] 39)).drew) (W3 := w4) (by rw [HK.out]; exact Hline.out) HNe.out (HW3.out.below hbA) ((HB3.out.mono fun j hj => .inl hj).trans (But.below hbA)) HG4.out ?_ HO4.out ((But.set (S := fun j => j = N + 5 ∨ j = N + 10) (a := ⟨N + 5, 0, none⟩) (.inl rfl) _)) (one_set r5 _) ?_ ((far_set _ (by show N + 10 ≠ N + 5; omega)).trans l4)
        · intro b hb
          injection hb with hb
          have hb : gg = b := hb
          subst hb
          rcases HAt.out with h | h
          · exact .inl h
          · exact .inr (by simp; omega)
        · rw [HK.out]
          exact (hbA.block (N + 4) (by omega)).trans HN3.out
  case done =>
    intro acc v us W rec hL
    refine (?_ : Code.wpF _ _ (Code.seq _ _) _ _ _)
    refine wpF_of_wp ?_
    obtain ⟨c0, f0⟩ := cells_one hL.z0
    obtain ⟨c1, f1⟩ := cells_one hL.z1
    obtain ⟨c2, f2⟩ := cells_one hL.z2
    obtain ⟨c3, f3⟩ := cells_one hL.z3
    obtain ⟨c5, _⟩ := cells_one hL.rw
    obtain ⟨va, vc, rfl, _⟩ := ownsRow_slice hL.own
    have HL := Lib.hid hL
    have hsz := hL.size
    obtain ⟨W6, hW6, k0, k1, k2, k3, hb6⟩ := four_set (.slice va us.length vc) (.int .i64 0) (.int .i64 0) (.int .i64 0) c0 c1 c2 c3
    have HW6 := Lib.hid hW6
    have HK := Lib.hid (And.intro k0 (And.intro k1 (And.intro k2 k3)))
    have HB6 := Lib.hid hb6
    clear hL k0 k1 k2 k3 hb6 hW6
    go_wp2_with fail
    rw [← HW6.out]
    have hd : W6.heap[N + 9]? = some (.deferred (some [])) := (HB6.out.block (N + 9) (by omega) (by omega)).trans HL.out.df
    have hb7 : But (fun j => j = N + 9) W6 (W6.putObj (N + 9) (.deferred none)) := But.put (S := fun j => j = N + 9) rfl _
    have hs6 := HB6.out.size
    refine leavesM_mark (by simp) hd ?_
    refine leavesM_fn (g := 22) (args := #[.pointer (some ⟨N, 0, none⟩), .pointer (some ⟨N + 1, 0, none⟩), .pointer (some ⟨N + 2, 0, none⟩), .pointer (some ⟨N + 3, 0, none⟩)]) (by simp) (by simp [go_sem]) ?_
    refine (lcaught_idle _ _ _ _ _).mono ?_
    rintro e u' w'' ⟨rfl, rfl, rfl⟩
    refine ⟨_, res_lines _ N _ va us.length vc 0 0 0 rfl rfl rfl rfl ((hb7.cell (p := ⟨N, 0, none⟩) (by show N < _; omega) (by show ¬ N = N + 9; omega)).trans HK.out.1) ((hb7.cell (p := ⟨N + 1, 0, none⟩) (by show N + 1 < _; omega) (by show ¬ N + 1 = N + 9; omega)).trans HK.out.2.1) ((hb7.cell (p := ⟨N + 2, 0, none⟩) (by show N + 2 < _; omega) (by show ¬ N + 2 = N + 9; omega)).trans HK.out.2.2.1) ((hb7.cell (p := ⟨N + 3, 0, none⟩) (by show N + 3 < _; omega) (by show ¬ N + 3 = N + 9; omega)).trans HK.out.2.2.2), ?_⟩
    unfold LinesPost
    rw [HL.out.all, HN.out]
    have hall : But (fun j => N ≤ j ∧ j ≤ N + 9) W (W6.putObj (N + 9) (.deferred none)) := (HB6.out.mono fun j hj => ⟨hj.1, by omega⟩).trans (hb7.mono fun j hj => by omega)
    exact ⟨_, rfl, (HL.out.rds.but hall (fun b hb hj => by omega)).mono fun b hb => by omega, HL.out.blw.trans (hall.toBelow (by omega) fun j hj => hj.1)⟩
  case pan =>
    rintro ch W ⟨num, p, rfl, hL⟩
    obtain ⟨c0, f0⟩ := cells_one hL.z0
    obtain ⟨c1, f1⟩ := cells_one hL.z1
    obtain ⟨c2, f2⟩ := cells_one hL.z2
    obtain ⟨c3, f3⟩ := cells_one hL.z3
    have hsz := hL.sz
    have hb7 : But (fun j => j = N + 9) W (W.putObj (N + 9) (.deferred none)) := But.put (S := fun j => j = N + 9) rfl _
    have hs7 := hb7.size
    have cl : ∀ j, j ≤ 3 → (W.putObj (N + 9) (.deferred none)).cell? ⟨N + j, 0, none⟩ = W.cell? ⟨N + j, 0, none⟩ := fun j hj => hb7.cell (p := ⟨N + j, 0, none⟩) (by show N + j < _; omega) (by show ¬ N + j = N + 9; omega)
    have fr : ∀ j, j ≤ 3 → (W.putObj (N + 9) (.deferred none)).frozen? ⟨N + j, 0, none⟩ = W.frozen? ⟨N + j, 0, none⟩ := fun j hj => hb7.frozen (p := ⟨N + j, 0, none⟩) (by show N + j < _; omega) (by show ¬ N + j = N + 9; omega)
    refine leavesM_mark (by simp) hL.df ?_
    refine leavesM_fn (g := 22) (args := #[.pointer (some ⟨N, 0, none⟩), .pointer (some ⟨N + 1, 0, none⟩), .pointer (some ⟨N + 2, 0, none⟩), .pointer (some ⟨N + 3, 0, none⟩)]) (by simp) (by simp [go_sem]) ?_
    refine (lcaught_catches N _ num ((p : Int) + 1) _ _ _ _ [] (by omega) ((cl 0 (by omega)).trans c0) ((cl 1 (by omega)).trans c1) ((cl 2 (by omega)).trans c2) ((cl 3 (by omega)).trans c3) ((fr 0 (by omega)).trans f0) ((fr 1 (by omega)).trans f1) ((fr 2 (by omega)).trans f2) ((fr 3 (by omega)).trans f3)).mono ?_
    rintro e u' w'' ⟨rfl, rfl, hbb, k0, k1, k2, k3⟩
    refine ⟨_, res_lines _ N _ none 0 0 num ((p : Int) + 1) 30 rfl rfl rfl rfl k0 k1 k2 k3, ?_⟩
    unfold LinesPost
    rw [hL.eq, HN.out]
    exact ⟨rfl, (hL.blw.trans (hb7.toBelow (by omega) fun j hj => by omega)).trans hbb⟩
end Go.Proofs.YtfnfmkejkgiclaaDoor
