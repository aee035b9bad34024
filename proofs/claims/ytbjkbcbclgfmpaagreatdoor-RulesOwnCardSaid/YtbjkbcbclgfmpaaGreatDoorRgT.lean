/-
  The law RulesOwn: its walk.
-/
import Derived.Test.YtbjkbcbclgfmpaaGreatDoorRgR
import Derived.Test.YtbjkbcbclgfmpaaGreatDoorRgP
namespace Go.Proofs.YtbjkbcbclgfmpaaGreatDoor
open Go.RowKit Go.Shelf Go.Lib Go.Sort
set_option linter.unusedVariables false
set_option linter.unusedSectionVars false
set_option linter.unusedSimpArgs false

/-- The ports' cells may be written. -/
def PfO (w : World) (x : RC) : Prop := ∀ b off, x.a = some ⟨b, off, none⟩ → ∀ k, k < x.n → w.frozen? ⟨b, off + k, none⟩ = false
theorem PfO.but {ok S : Nat → Prop} {w w' : World} {x : RC} {r : Rl} (h : PfO w x) (hx : RdC ok w x r) (hb : But S w w') (hs : ∀ b, ok b → ¬ S b) : PfO w' x := by
  intro b off ha k hk
  have hl := hx.s.lt.2 ⟨b, off, none⟩ x.n x.c (by rw [ha]) (by omega)
  exact (hb.frozen (p := ⟨b, off + k, none⟩) hl.2 (hs b hl.1)).trans (h b off ha k hk)
theorem ownsRow_pfO {w : World} {base : Nat} {e : TypeId} {ad : Option Addr} {n c : Nat} {xs : List Value} (h : w.ownsRow base e 1 (.slice ad n c) n xs) : ∀ b off, ad = some ⟨b, off, none⟩ → ∀ k, k < n → w.frozen? ⟨b, off + k, none⟩ = false := by
  intro b off ha k hk
  subst ha
  have hoff : off = 0 := by
    rcases h.2 with ⟨h1, _⟩ | ⟨g, cap, cur, hv, _⟩
    · cases h1
    · injection hv with e1 _ _
      injection e1 with e1
      injection e1
  subst hoff
  rw [Nat.zero_add]
  exact h.frozenAt k

/-- The ports' cells are strings and may be written. -/
def SWO (w : World) (x : RC) : Prop := ∀ b off, x.a = some ⟨b, off, none⟩ → ∀ k, k < x.n → (∃ s, w.cell? ⟨b, off + k, none⟩ = some (.string s)) ∧ w.frozen? ⟨b, off + k, none⟩ = false
theorem swO_of {ok : Nat → Prop} {w : World} {x : RC} {r : Rl} (hx : RdC ok w x r) (hp : PfO w x) : SWO w x := by
  intro b off ha k hk
  refine ⟨?_, hp b off ha k hk⟩
  rcases hx.s.1 with ⟨a', c', h1, h2, h3⟩ | ⟨b', off', cap, h1, h2, h3, h4, h5⟩
  · injection h1 with _ e2 _
    omega
  · injection h1 with e1 e2 e3
    rw [ha] at e1
    injection e1 with e1
    injection e1 with e1 e4 _
    subst e1 e4
    have := h5 k (by rw [← e2]; exact hk)
    refine ⟨r.ps[k]'(by rw [List.length_map] at e2; omega), ?_⟩
    rw [this, List.getElem_map]
theorem rdC_formO {ok : Nat → Prop} {w : World} {x : RC} {r : Rl} (hx : RdC ok w x r) : x.n ≤ 8796093021952 ∧ (0 < x.n → ∃ b off, x.a = some ⟨b, off, none⟩ ∧ ok b ∧ b < w.heap.size) := by
  have hz := hx.z.n
  have hl := hx.s.lt
  rcases hx.s.1 with ⟨a', c', h1, h2, h3⟩ | ⟨b', off', cap, h1, h2, h3, h4, h5⟩
  · injection h1 with _ e2 _
    exact ⟨by omega, fun h => by omega⟩
  · injection h1 with e1 e2 e3
    rw [List.length_map] at e2
    refine ⟨by omega, fun hn => ⟨b', off', e1, ?_⟩⟩
    exact hl.2 ⟨b', off', none⟩ x.n x.c (by rw [e1]) (by omega)

theorem slice_lenO {w : World} {a : Option Addr} {n c : Nat} {ps : List ByteArray} (hr : RdsS w (.slice a n c) ps) : n = ps.length := by
  rcases hr with ⟨_, _, he, hps0, _⟩ | ⟨_, _, _, he, _⟩
  · injection he with _ e _; rw [e, List.map_eq_nil_iff.1 hps0]; rfl
  · injection he with _ e _; rw [e, List.length_map]

/-- A row of rules in block g, whose cells and whose ports' cells may be written; from place i0 on the ports are told. -/
structure WR (lo hi g n i0 : Nat) (ys : List RC) (w : World) : Prop where
  len : ys.length = n
  gl : lo ≤ g ∧ g < hi
  row : ∀ i d, i < n → d < 4 → (∃ u, w.cell? ⟨g, i * 4 + d, none⟩ = some u) ∧ w.frozen? ⟨g, i * 4 + d, none⟩ = false
  get : ∀ i (h : i < ys.length), i0 ≤ i → w.cell? ⟨g, i * 4 + 3, none⟩ = some (.slice ys[i].a ys[i].n ys[i].c)
  form : ∀ i (h : i < ys.length), ys[i].n ≤ 8796093021952 ∧ (0 < ys[i].n → ∃ b off, ys[i].a = some ⟨b, off, none⟩ ∧ lo ≤ b ∧ b < hi ∧ b ≠ g)
  sw : ∀ i (h : i < ys.length), SWO w ys[i]

theorem WR.store {lo hi g n i0 : Nat} {ys : List RC} {w : World} (h : WR lo hi g n i0 ys w) {i : Nat} (hi2 : i < ys.length) {j : Nat} (hj : j < ys[i].n) :
    ∃ b off s0, ys[i].a = some ⟨b, off, none⟩ ∧ w.cell? ⟨b, off + j, none⟩ = some (.string s0) ∧ w.frozen? ⟨b, off + j, none⟩ = false ∧
      ∀ s, WR lo hi g n i0 ys (w.setCell ⟨b, off + j, none⟩ (.string s)) ∧ But (fun b => lo ≤ b ∧ b < hi) w (w.setCell ⟨b, off + j, none⟩ (.string s)) := by
  obtain ⟨b, off, ha, h1, h2, h3⟩ := (h.form i hi2).2 (by omega)
  obtain ⟨⟨s0, h4⟩, h5⟩ := h.sw i hi2 b off ha j hj
  have hne : ∀ k, (⟨b, off + j, none⟩ : Addr) ≠ ⟨g, k, none⟩ := fun k e => h3 (congrArg Addr.block e)
  refine ⟨b, off, s0, ha, h4, h5, fun s => ⟨⟨h.len, h.gl, fun i' d hi' hd => ?_, fun i' hi' h0 => (cell_set_other _ (hne _)).trans (h.get i' hi' h0), h.form, fun i' hi' => ?_⟩, But.set (a := ⟨b, off + j, none⟩) (S := fun b => lo ≤ b ∧ b < hi) ⟨h1, h2⟩ _⟩⟩
  · obtain ⟨⟨u, hu⟩, hf⟩ := h.row i' d hi' hd
    exact ⟨⟨u, (cell_set_other _ (hne _)).trans hu⟩, by rw [World.frozen?_setCell]; exact hf⟩
  · intro b' off' ha' k hk
    obtain ⟨⟨s1, q1⟩, q2⟩ := h.sw i' hi' b' off' ha' k hk
    refine ⟨?_, by rw [World.frozen?_setCell]; exact q2⟩
    by_cases he : (⟨b, off + j, none⟩ : Addr) = ⟨b', off' + k, none⟩
    · rw [← he]
      exact ⟨s, cell_set_same _ h4⟩
    · exact ⟨s1, (cell_set_other _ he).trans q1⟩

theorem WR.set {lo hi g n i0 : Nat} {ys : List RC} {w : World} (h : WR lo hi g n i0 ys w) {i d : Nat} (hi' : i < n) (hd : d < 4) (hz : i0 = i + 1) (u : Value) :
    WR lo hi g n i0 ys (w.setCell ⟨g, i * 4 + d, none⟩ u) ∧ But (fun b => lo ≤ b ∧ b < hi) w (w.setCell ⟨g, i * 4 + d, none⟩ u) := by
  refine ⟨⟨h.len, h.gl, fun i2 d2 h2 h3 => ?_, fun i2 h2 h3 => ?_, h.form, fun i2 h2 => ?_⟩, But.set (a := ⟨g, i * 4 + d, none⟩) (S := fun b => lo ≤ b ∧ b < hi) h.gl _⟩
  · obtain ⟨⟨v, hv⟩, hf⟩ := h.row i2 d2 h2 h3
    refine ⟨?_, by rw [World.frozen?_setCell]; exact hf⟩
    by_cases he : (⟨g, i * 4 + d, none⟩ : Addr) = ⟨g, i2 * 4 + d2, none⟩
    · rw [← he]
      rw [← he] at hv
      exact ⟨u, cell_set_same _ hv⟩
    · exact ⟨v, (cell_set_other _ he).trans hv⟩
  · exact (cell_set_other _ (fun e => by have := congrArg Addr.off e; simp only at this; omega)).trans (h.get i2 h2 h3)
  · intro b' off' ha' k hk
    obtain ⟨⟨s1, q1⟩, q2⟩ := h.sw i2 h2 b' off' ha' k hk
    obtain ⟨b3, off3, e3, _, _, hne⟩ := (h.form i2 h2).2 (by omega)
    rw [ha'] at e3
    injection e3 with e3
    injection e3 with e3 _ _
    exact ⟨⟨s1, (cell_set_other _ (fun e => hne (by rw [← e3]; exact (congrArg Addr.block e).symm))).trans q1⟩, by rw [World.frozen?_setCell]; exact q2⟩

theorem WR.next {lo hi g n i0 : Nat} {ys : List RC} {w : World} (h : WR lo hi g n i0 ys w) : WR lo hi g n (i0 + 1) ys w :=
  ⟨h.len, h.gl, h.row, fun i h1 h2 => h.get i h1 (by omega), h.form, h.sw⟩

/-- A place of the row made zero. -/
theorem WR.zero {lo hi g n i0 : Nat} {ys : List RC} {w W : World} (h : WR lo hi g n i0 ys w) (hi' : i0 < n)
    (hW : W = (((w.setCell ⟨g, i0 * 4, none⟩ (.int .i64 0)).setCell ⟨g, i0 * 4 + 1, none⟩ (.string ⟨#[]⟩)).setCell ⟨g, i0 * 4 + 2, none⟩ (.int .i64 0)).setCell ⟨g, i0 * 4 + 3, none⟩ (.slice none 0 0)) :
    WR lo hi g n (i0 + 1) ys W ∧ But (fun b => lo ≤ b ∧ b < hi) w W := by
  obtain ⟨h1, b1⟩ := h.next.set (i := i0) (d := 0) hi' (by omega) rfl (.int .i64 0)
  obtain ⟨h2, b2⟩ := h1.set (i := i0) (d := 1) hi' (by omega) rfl (.string ⟨#[]⟩)
  obtain ⟨h3, b3⟩ := h2.set (i := i0) (d := 2) hi' (by omega) rfl (.int .i64 0)
  obtain ⟨h4, b4⟩ := h3.set (i := i0) (d := 3) hi' (by omega) rfl (.slice none 0 0)
  rw [hW]
  exact ⟨h4, ((b1.trans b2).trans b3).trans b4⟩

theorem wr_of {w : World} {base g n c hi : Nat} {xs : List RC} {L : List Rl} (h : OwnR (okFP base (.slice (some ⟨g, 0, none⟩) n c)) w base (.slice (some ⟨g, 0, none⟩) n c) xs L) (hn : xs.length = n) (hp : ∀ j (hj : j < xs.length), PfO w xs[j]) (hhi : w.heap.size ≤ hi) : WR base hi g n 0 xs w := by
  have hl : (cellsR xs).length = L.length * 4 := by rw [cellsR_length, h.len]
  have hL : L.length = n := by rw [← h.len]; exact hn
  have hb := own_ge h.row g rfl
  have hrow := h.row
  rw [hL] at hrow
  refine ⟨hn, ⟨hb.1, by omega⟩, fun i d hi' hd => ⟨?_, hrow.frozenAt _⟩, fun i h1 _ => ?_, fun i h1 => ?_, fun i h1 => swO_of (h.rd i h1 (by rw [hL, ← hn]; exact h1)) (hp i h1)⟩
  · have hc := hrow.cellAt (i * 4 + d) (by omega)
    rw [hc]
    exact ⟨_, List.getElem?_eq_getElem (by rw [hl, hL]; omega)⟩
  · have hc := hrow.cellAt (i * 4 + 3) (by omega)
    rw [hc]
    exact (cellsR_get xs i h1).2.2.2
  · obtain ⟨q1, q2⟩ := rdC_formO (h.rd i h1 (by rw [hL, ← hn]; exact h1))
    refine ⟨q1, fun hq => ?_⟩
    obtain ⟨b, off, e, ho, hlt⟩ := q2 hq
    exact ⟨b, off, e, ho.1, by omega, fun e2 => ho.2 (by rw [e2]; rfl)⟩
end Go.Proofs.YtbjkbcbclgfmpaaGreatDoor
/-
  The law RulesOwn: its walk, second part.
-/
namespace Go.Proofs.YtbjkbcbclgfmpaaGreatDoor
open Go.RowKit Go.Shelf Go.Lib Go.Sort
set_option linter.unusedVariables false
set_option linter.unusedSectionVars false
set_option linter.unusedSimpArgs false

theorem WR.below {lo hi g n i0 : Nat} {ys : List RC} {w w' : World} (h : WR lo hi g n i0 ys w) (hb : Below w.heap.size w w') : WR lo hi g n i0 ys w' := by
  refine ⟨h.len, h.gl, fun i d h1 h2 => ?_, fun i h1 h2 => (hb.cell (cellLt (h.get i h1 h2))).trans (h.get i h1 h2), h.form, fun i h1 b off ha k hk => ?_⟩
  · obtain ⟨⟨u, hu⟩, hf⟩ := h.row i d h1 h2
    exact ⟨⟨u, (hb.cell (cellLt hu)).trans hu⟩, ((But.below hb).frozen (S := fun _ => False) (cellLt hu) (fun h => h)).trans hf⟩
  · obtain ⟨⟨s, hs⟩, hf⟩ := h.sw i h1 b off ha k hk
    exact ⟨⟨s, (hb.cell (cellLt hs)).trans hs⟩, ((But.below hb).frozen (S := fun _ => False) (cellLt hs) (fun h => h)).trans hf⟩

theorem pf_app {base : Nat} {wo W w10 : World} {v : Value} {xs : List RC} {L : List Rl} (h : OwnR (okFP base v) wo base v xs L) (hp : ∀ j (hj : j < xs.length), PfO wo xs[j]) (hb : Below wo.heap.size wo W) (hg : W.grownBy w10 v.ownBlock) {y : RC} {r : Rl} (hy : RdC (okFP base v) W y r) (hpy : PfO W y) :
    ∀ j (hj : j < (xs ++ [y]).length), PfO w10 (xs ++ [y])[j] := by
  have hbut : But (fun b => v.ownBlock = some b) W w10 := ⟨hg.os, hg.tape, hg.output, hg.size, fun k hk hn => hg.block k hk (fun e => hn e.symm)⟩
  intro j hj
  by_cases hlt : j < xs.length
  · rw [List.getElem_append_left hlt]
    have hrd := h.rd j hlt (by rw [← h.len]; exact hlt)
    have h1 := (hp j hlt).but hrd (S := fun _ => False) (But.below hb) (fun _ _ h => h)
    exact h1.but (hrd.below hb) hbut (fun b hb e => hb.2 e)
  · have e1 : j = xs.length := by simp at hj; omega
    subst e1
    have e2 : (xs ++ [y])[xs.length]'hj = y := by simp
    rw [e2]
    exact hpy.but hy hbut (fun b hb e => hb.2 e)

set_option maxHeartbeats 6400000 in
set_option maxRecDepth 20000 in
theorem rulesOwn_any {ok : Nat → Prop} (v : Value) (L0 : List Rl) (w : World) (hr : RdsR ok w v L0) (_ : L0.length * 56 ≤ 140737488351232) : Calls Tryz.prog 6 #[v] w fun e w' => e = .returned (.bool true) ∧ Below w.heap.size w w' := by
  have hr' := hr.lt
  obtain ⟨adl, capl, rfl, hcap, hmax⟩ := hr.form
  obtain ⟨n, hn⟩ : ∃ n, n = L0.length := ⟨_, rfl⟩
  rw [← hn] at hr' hcap ⊢
  obtain ⟨L, hL⟩ : ∃ L, L = L0.take 60 := ⟨_, rfl⟩
  obtain ⟨N, hN⟩ : ∃ N, N = L.length := ⟨_, rfl⟩
  have hNn : N ≤ n ∧ N ≤ 60 ∧ (N < n → N = 60) := by rw [hN, hL, List.length_take, ← hn]; omega
  obtain ⟨hNn1, hN60, hNn2⟩ := hNn
  have HFew := Lib.hid (fun W (hW : Below w.heap.size w W) => by have h := fewR_any (hr'.below hW); rw [← hL] at h; exact h)
  have HR := Lib.hid hr'
  have HL := Lib.hid hL
  have HNl := Lib.hid hN
  have HN2 := Lib.hid hNn2
  have HA := Lib.hid (fun W => ralive_any W)
  obtain ⟨base, hbase⟩ : ∃ base, base = w.heap.size := ⟨_, rfl⟩
  have HBs := Lib.hid hbase
  obtain ⟨i0, hii, hz0, hz1, hz2⟩ := info_parts infoS
  unfold maxLen at hmax
  clear hr hr' hn hL hN hNn2 hbase
  go_enter Tryz.func6, Tryz.ntmps6
  go_wp2_with fail
  go_loopw [3, 4] (fun s3 s4 wr => ∃ (i : Nat) (ad : Option Addr) (c : Nat) (xs : List RC), s4 = .int .i64 i ∧ s3 = .slice ad i c ∧ i ≤ N ∧ Hid (OwnR (okFP base (.slice ad i c)) wr base (.slice ad i c) xs (L.take i)) ∧ Hid (∀ j (hj : j < xs.length), PfO wr xs[j]) ∧ Hid (Below base w wr)) (fun _ s4 _ => N - (intOf s4).toNat)
  case atStart => exact ⟨0, none, 0, [], rfl, rfl, Nat.zero_le _, ownR_nil _ _ _, (show ∀ j (hj : j < ([] : List RC).length), PfO w ([] : List RC)[j] from fun j hj => absurd hj (by simp)), Below.refl _ _⟩
  case round =>
    obtain ⟨wo, rfl⟩ : ∃ wo : World, wo = wr := ⟨wr, rfl⟩
    obtain ⟨i, ad, c, xs, rfl, rfl, hin, HO, HPf, HB⟩ := hrel
    have hbw : Below w.heap.size w wo := by rw [← HBs.out]; exact HB.out
    have hbs : base ≤ wo.heap.size := by rw [HBs.out]; exact hbw.size
    by_cases hlt : i < N
    · have hiL : i < L.length := by rw [← HNl.out]; exact hlt
      have hiL0 : i < L0.length := by rw [HL.out, List.length_take] at hiL; omega
      obtain ⟨b, off, x, rfl, hb, hbok, x0, x1, x2, x3, hx⟩ := (HR.out.below hbw).get i hiL0
      obtain ⟨r, hrr⟩ : ∃ r, L[i] = r := ⟨_, rfl⟩
      have hrr0 : L0[i] = r := by rw [← hrr]; simp [HL.out]
      rw [hrr0] at hx
      have htk : L.take (i + 1) = L.take i ++ [r] := by rw [List.take_succ_eq_append_getElem hiL, hrr]
      have hlen : (L.take i).length = i := by rw [List.length_take]; omega
      have hinz : (i : Int) < (n : Int) := by omega
      have hi60 : (i : Int) < 60 := by omega
      have hi0 : (0 : Int) ≤ (i : Int) := by omega
      obtain ⟨W5, hW5⟩ : ∃ W, W = wo.alloc (.cells #[.int .i64 x.p, .string x.m, .int .i64 x.k, .slice x.a x.n x.c] 42) := ⟨_, rfl⟩
      have hb5 : Below wo.heap.size wo W5 := by rw [hW5]; exact (Below.refl _ _).alloc (Nat.le_refl _) _
      have hh5 : W5.heap[wo.heap.size]? = some (.cells #[.int .i64 x.p, .string x.m, .int .i64 x.k, .slice x.a x.n x.c] 42 (0, 0)) := by rw [hW5]; exact heap_alloc_new _ _
      have hs5 : W5.heap.size = wo.heap.size + 1 := by rw [hW5]; simp
      obtain ⟨W6, hW6⟩ : ∃ W, W = W5.alloc (.cells #[] 9) := ⟨_, rfl⟩
      have hb6 : Below W5.heap.size W5 W6 := by rw [hW6]; exact (Below.refl _ _).alloc (Nat.le_refl _) _
      have hlit : W6.ownsRow W5.heap.size 9 1 (.slice (some ⟨W5.heap.size, 0, none⟩) 0 0) 0 [] := by rw [hW6]; exact lit0_rowE rfl (Nat.le_refl _)
      have hh6 := (hb6.block _ (heapLt hh5)).trans hh5
      have hx6 := (hx.below hb5).below hb6
      have hrp := hx6.z.n
      have hxn : x.n = r.ps.length := slice_lenO hx6.s.1
      obtain ⟨m, hm⟩ : ∃ m, m = r.ps.length := ⟨_, rfl⟩
      have e3 : W5.cell? ⟨wo.heap.size, 2 + 1, none⟩ = some (.slice x.a x.n x.c) := by simp [World.cell?, hh5]
      have k3 : W6.cell? ⟨wo.heap.size, 3, none⟩ = some (.slice x.a x.n x.c) := by simp [World.cell?, hh6]
      have k3' : (W5.alloc (.cells #[] 9)).cell? ⟨wo.heap.size, 3, none⟩ = some (.slice x.a x.n x.c) := by rw [← hW6]; exact k3
      have hs6 : W5.heap.size ≤ W6.heap.size := hb6.size
      have HX6 := Lib.hid hx6
      have HLit := Lib.hid hlit
      have HH6 := Lib.hid hh6
      have HW5 := Lib.hid hW5
      have HW6 := Lib.hid hW6
      have HM := Lib.hid hm
      have HXn := Lib.hid hxn
      have HRp := Lib.hid hrp
      have HTk := Lib.hid htk
      have HLen := Lib.hid hlen
      have HB6 := Lib.hid (hb5.trans (hb6.mono (by omega)))
      have HS5 := Lib.hid hs5
      clear hx hrr hrr0 htk hlen hW5 hb5 hh5 hs5 hW6 hb6 hlit hh6 hx6 hrp hxn hm hbw
      go_upto_region 6 with fail
      rw [← HW5.out]
      clear x0 x1 x2 x3
      go_wp2_with (at_builtin; first
        | (refine wpList_plain rfl (fun _ hK => wp_append_rds (.tmp 24) (.tmp 27) _ rfl W5.heap.size 9 i0 _ 16 Tryz.underlying38 hii hz0 hz1 hz2 rfl (.slice (some ⟨W5.heap.size, 0, none⟩) 0 0) 0 [] (by rfl) (by rw [← HW6.out]; exact HLit.out) (.slice x.a x.n x.c) (r.ps.map Value.string) (by rfl) (by rw [← HW6.out]; exact HX6.out.s.1) str_one m (by rw [List.length_map, Nat.zero_add]; exact HM.out.symm) (by have := HRp.out; have := HM.out; unfold maxLen; omega) (by have := HRp.out; have := HM.out; omega) (by rw [← HW6.out]; exact hs6) (fun ad7 c7 w7 ho7 hg7 => hK _ _ ?_))
           rw [← HW6.out] at hg7
           rw [List.nil_append] at ho7
           have HO7 := Lib.hid ho7
           have HG7 := Lib.hid hg7
           have hs5' := HS5.out
           have hh7 := (hg7.block wo.heap.size (heapLt HH6.out) (fun e => by injection e with e; have e : wo.heap.size = W5.heap.size := e; omega)).trans HH6.out
           have k7 : w7.cell? ⟨wo.heap.size, 2 + 1, none⟩ = some (.slice x.a x.n x.c) := by simp [World.cell?, hh7]
           have k7' : w7.cell? ⟨wo.heap.size, 3, none⟩ = some (.slice x.a x.n x.c) := by simp [World.cell?, hh7]
           have q7 : w7.frozen? ⟨wo.heap.size, 3, none⟩ = false := by simp [World.frozen?, hh7]
           have hb7 : Below wo.heap.size wo w7 := grown_bel HB6.out (Nat.le_refl _) (ownsRow_le HLit.out (by omega)) HG7.out
           obtain ⟨w8, hw8⟩ : ∃ w8, w8 = w7.setCell ⟨wo.heap.size, 3, none⟩ (.slice ad7 m c7) := ⟨_, rfl⟩
           have hbt8 : But (fun b => b = wo.heap.size) w7 w8 := by rw [hw8]; exact But.set (S := fun b => b = wo.heap.size) (a := ⟨wo.heap.size, 3, none⟩) rfl _
           have hh8 : w8.heap[wo.heap.size]? = some (.cells #[.int .i64 x.p, .string x.m, .int .i64 x.k, .slice ad7 m c7] 42 (0, 0)) := by
             rw [hw8]
             simp [World.setCell, Array.getElem?_modify, hh7]
           have hb8 : Below wo.heap.size wo w8 := hb7.trans (hbt8.toBelow hb7.size (fun k hk => by omega))
           have hO8 : w8.ownsRow W5.heap.size 9 1 (.slice ad7 m c7) m (r.ps.map Value.string) := ownsRow_butS' HO7.out hbt8 (fun g hg e => by have := (own_ge HO7.out g hg).1; omega)
           have hoB := own_ge HO.out.row
           have hRy : RdC (okFP base (.slice ad i c)) w8 ⟨x.p, x.m, x.k, ad7, m, c7⟩ r := ⟨HX6.out.p, HX6.out.m, HX6.out.k, (row_rdsO hO8).mono (fun b hb => ⟨by omega, fun e => by have := (hoB b e).2; omega⟩), HX6.out.z⟩
           have hPy : PfO w8 ⟨x.p, x.m, x.k, ad7, m, c7⟩ := ownsRow_pfO hO8
           have u0 : (w7.setCell ⟨wo.heap.size, 3, none⟩ (.slice ad7 m c7)).cell? ⟨wo.heap.size, 0, none⟩ = some (.int .i64 x.p) := by rw [← hw8]; simp [World.cell?, hh8]
           have u1 : (w7.setCell ⟨wo.heap.size, 3, none⟩ (.slice ad7 m c7)).cell? ⟨wo.heap.size, 1, none⟩ = some (.string x.m) := by rw [← hw8]; simp [World.cell?, hh8]
           have u2 : (w7.setCell ⟨wo.heap.size, 3, none⟩ (.slice ad7 m c7)).cell? ⟨wo.heap.size, 2, none⟩ = some (.int .i64 x.k) := by rw [← hw8]; simp [World.cell?, hh8]
           have u3 : (w7.setCell ⟨wo.heap.size, 3, none⟩ (.slice ad7 m c7)).cell? ⟨wo.heap.size, 3, none⟩ = some (.slice ad7 m c7) := by rw [← hw8]; simp [World.cell?, hh8]
           obtain ⟨w9, hw9⟩ : ∃ w9, w9 = w8.alloc (.cells #[.int .i64 x.p, .string x.m, .int .i64 x.k, .slice ad7 m c7] 42) := ⟨_, rfl⟩
           have hb9 : Below w8.heap.size w8 w9 := by rw [hw9]; exact (Below.refl _ _).alloc (Nat.le_refl _) _
           have hs78 : w7.heap.size = w8.heap.size := by rw [hw8]; simp [World.setCell]
           have HH9 : Hid (w9.heap[w7.heap.size]? = some (.cells #[.int .i64 x.p, .string x.m, .int .i64 x.k, .slice ad7 m c7] 42 (0, 0))) := by show _ = _; rw [hw9, hs78]; exact heap_alloc_new _ _
           have HRy := Lib.hid (hRy.below hb9)
           have HPy : Hid (PfO w9 ⟨x.p, x.m, x.k, ad7, m, c7⟩) := hPy.but hRy (S := fun _ => False) (But.below hb9) (fun _ _ h => h)
           have HB9 := Lib.hid (hb8.trans (hb9.mono hb8.size))
           have HO9 := Lib.hid (HO.out.below HB9.out)
           have HW8 := Lib.hid hw8
           have HW9 := Lib.hid hw9
           have hsz9 := HB9.out.size
           clear ho7 hg7 hK hh7 hb7 hw8 hbt8 hh8 hb8 hO8 hoB hRy hPy hw9 hb9 hs5' hs78)
        | (go_loud (refine wpList_plain rfl (fun _ hK => wp_app_oneP (.tmp 31) (.tmp 33) rfl base (.slice ad i c) xs (L.take i) (by rfl) (by rw [← HW8.out, ← HW9.out]; exact HO9.out) w7.heap.size 1 ⟨x.p, x.m, x.k, ad7, m, c7⟩ r (by rfl) (by rw [← HW8.out, ← HW9.out]; exact HH9.out) (by rw [← HW8.out, ← HW9.out]; exact HRy.out) (i + 1) (by rw [HLen.out]) (by omega) (by rw [← HW8.out, ← HW9.out]; omega) (fun ad10 c10 w10 ho10 hg10 => hK _ _ ?_)))
           rw [← HW8.out, ← HW9.out] at hg10
           rw [← HTk.out] at ho10
           have HO10 := Lib.hid ho10
           have HG10 := Lib.hid hg10
           have HP10 := Lib.hid (pf_app HO.out HPf.out HB9.out hg10 HRy.out HPy.out)
           clear ho10 hg10 hK))
      go_roundw
      case rel => exact ⟨i + 1, ad10, c10, xs ++ [⟨x.p, x.m, x.k, ad7, m, c7⟩], by first | rfl | go_num, rfl, by omega, HO10, HP10, Below.grown (B := base) (a := w) (HB.out.trans (HB9.out.mono hbs)) HG10.out (by omega) (fun k hk => (own_ge HO9.out.row k hk).1)⟩
      case measure => simp [intOf]; omega
    · have hie : i = N := by omega
      subst hie
      have hTL : L.take i = L := List.take_of_length_le (by rw [← HNl.out]; omega)
      rw [hTL] at HO
      have hcond : ¬ i < n ∨ (i < n ∧ i = 60) := by
        by_cases h : i < n
        · exact .inr ⟨h, HN2.out h⟩
        · exact .inl h
      have HOr := Lib.hid (order_rules _ _ _ wo HO.out.freshRdsP (by rw [← HNl.out]; omega))
      have HOw := HO
      clear hTL HO
      have HAd : Hid (0 < i → ∃ g, ad = some ⟨g, 0, none⟩) := fun h0 => by
        rcases HOw.out.row.2 with ⟨h1, h2⟩ | ⟨g, cap, cur, hv, _⟩
        · have := HNl.out; omega
        · injection hv with e1 _ _
          exact ⟨g, e1⟩
      have hxl : xs.length = i := by rw [HOw.out.len]; exact HNl.out.symm
      have HXl := Lib.hid hxl
      have hlo : w.heap.size ≤ wo.heap.size := by rw [← HBs.out]; exact hbs
      have hczz : decide ((i : Int) < (n : Int)) = false ∨ ((i : Int) < (n : Int) ∧ decide ((i : Int) < 60) = false) := by
        rcases hcond with h | ⟨h, h60⟩
        · exact .inl (by simp; omega)
        · exact .inr ⟨by omega, by simp; omega⟩
      have HBw := Lib.hid hbw
      clear hcond hxl hbw hlt hin
      have hczz : (decide ((i : Int) < (n : Int)) = false ∧ ¬ (i : Int) < (n : Int) ∧ ¬ i < n) ∨ ((i : Int) < (n : Int) ∧ decide ((i : Int) < 60) = false ∧ ¬ (i : Int) < 60 ∧ ¬ i < 60) := by
        rcases hczz with h | ⟨h, h2⟩
        · exact .inl ⟨h, by simpa using h, by have : ¬ (i : Int) < (n : Int) := (by simpa using h); omega⟩
        · exact .inr ⟨h, h2, by simpa using h2, by have : ¬ (i : Int) < 60 := (by simpa using h2); omega⟩
      rcases hczz with ⟨hz, hz1, hz2⟩ | ⟨hz, hz60, hz61, hz62⟩
      all_goals
        go_wp2_with fail
        refine HOr.out.mono ?_
        rintro e w2 ⟨v2, rfl, hr2, hb2⟩
        have HR2 := Lib.hid hr2
        have HB2 := Lib.hid hb2
        have HF2 := Lib.hid (HFew.out w2 (HBw.out.trans (hb2.mono hlo)))
        clear hr2 hb2 HOr
        go_wp2_with fail
        refine HF2.out.mono ?_
        rintro e w3 ⟨adf, nf, capf, rfl, hnf, hrf, rfl⟩
        have HO3 := Lib.hid (rOrder_rules _ _ L w2 hrf (by rw [← HNl.out]; omega))
        clear hnf hrf HF2
        go_wp2_with fail
        refine HO3.out.mono ?_
        rintro e w4 ⟨v4, rfl, hr4, hb4⟩
        have HR4 := Lib.hid hr4
        have HB4 := Lib.hid (HB2.out.trans (hb4.mono HB2.out.size))
        have HR24 := Lib.hid (HR2.out.below hb4)
        have HS24 := Lib.hid HB2.out.size
        have HF4 := Lib.hid (HFew.out w4 (HBw.out.trans (HB4.out.mono hlo)))
        clear hr4 hb4 HO3 HR2
        go_wp2_with fail
        refine HF4.out.mono ?_
        rintro e w5 ⟨adg, ng, capg, rfl, hng, hrg, rfl⟩
        have HS := Lib.hid (sameRules_same _ _ _ _ L w4 (HOw.out.below HB4.out).freshRdsP hrg)
        clear hng hrg HF4
        go_wp2_with fail
        refine HS.out.mono ?_
        rintro e w5 ⟨rfl, hg5⟩
        have HB45 := Lib.hid hg5.below
        have HB5 := Lib.hid (HB4.out.trans (hg5.below.mono HB4.out.size))
        have HWr : Hid (∀ g, ad = some ⟨g, 0, none⟩ → WR base wo.heap.size g i 0 xs w5) := fun g hg => by
          have h := HOw.out
          rw [hg] at h
          exact (wr_of h HXl.out HPf.out (Nat.le_refl _)).below HB5.out
        clear hg5 HS
        go_wp2_with fail
        go_loopw [47] (fun s47 wr => ∃ k : Nat, s47 = .int .i64 k ∧ k ≤ i ∧ Hid (∀ g, ad = some ⟨g, 0, none⟩ → WR base wo.heap.size g i k xs wr) ∧ Hid (But (fun b => base ≤ b ∧ b < wo.heap.size) w5 wr)) (fun s47 _ => i - (intOf s47).toNat)
        case atStart => exact ⟨0, rfl, Nat.zero_le _, HWr, But.refl _ _⟩
        case round =>
          clear HWr
          obtain ⟨wp1, rfl⟩ : ∃ wp1 : World, wp1 = wr := ⟨wr, rfl⟩
          obtain ⟨k, rfl, hki, HWk, HBk⟩ := hrel
          by_cases hlk : k < i
          · obtain ⟨g, rfl⟩ := HAd.out (by omega)
            have hwk := HWk.out g rfl
            have hkx : k < xs.length := by rw [HXl.out]; exact hlk
            obtain ⟨y, hy⟩ : ∃ y, xs[k] = y := ⟨_, rfl⟩
            have hc3 := hwk.get k hkx (Nat.le_refl _)
            rw [hy] at hc3
            have hc3' : wp1.cell? ⟨g, k * 4 + 2 + 1, none⟩ = some (.slice y.a y.n y.c) := hc3
            have hfm := (hwk.form k hkx).1
            rw [hy] at hfm
            have HW1 := Lib.hid hwk
            have HY := Lib.hid hy
            have hk0 : (0 : Int) ≤ (k : Int) := by omega
            have hkiz : (k : Int) < (i : Int) := by omega
            clear hwk hy HWk
            go_wp2_with fail
            go_loopw [57] (fun s57 wr => ∃ j : Nat, s57 = .int .i64 j ∧ j ≤ y.n ∧ Hid (WR base wo.heap.size g i k xs wr) ∧ Hid (But (fun b => base ≤ b ∧ b < wo.heap.size) w5 wr)) (fun s57 _ => y.n - (intOf s57).toNat)
            case atStart => exact ⟨0, rfl, Nat.zero_le _, HW1, HBk⟩
            case round =>
              clear HW1 HBk hc3 hc3'
              obtain ⟨wp2, rfl⟩ : ∃ wp2 : World, wp2 = wr := ⟨wr, rfl⟩
              obtain ⟨j, rfl, hjy, HW1, HBk⟩ := hrel
              by_cases hlj : j < y.n
              · obtain ⟨b, off, s0, ha, hcs, hfs, hst⟩ := HW1.out.store hkx (j := j) (by rw [HY.out]; exact hlj)
                rw [HY.out] at ha
                have hc3 := HW1.out.get k hkx (Nat.le_refl _)
                rw [HY.out, ha] at hc3
                have hc3' : wp2.cell? ⟨g, k * 4 + 2 + 1, none⟩ = some (.slice (some ⟨b, off, none⟩) y.n y.c) := hc3
                have hj0 : (0 : Int) ≤ (j : Int) := by omega
                have hjz : (j : Int) < (y.n : Int) := by omega
                obtain ⟨h1, h2⟩ := hst ⟨#[]⟩
                obtain ⟨wp3, hwp3⟩ : ∃ wp3, wp3 = wp2.setCell ⟨b, off + j, none⟩ (.string ⟨#[]⟩) := ⟨_, rfl⟩
                rw [← hwp3] at h1 h2
                have HW3 := Lib.hid h1
                have HB3 := Lib.hid (HBk.out.trans h2)
                have HWp := Lib.hid hwp3
                clear h1 h2 hst hwp3 ha HW1
                go_wp2_with fail
                rw [← HWp.out]
                go_roundw
                case rel => exact ⟨j + 1, by first | rfl | go_num, by omega, HW3, HB3⟩
                case measure => simp [intOf]; omega
              · have hrow := HW1.out.row k
                obtain ⟨⟨t0, p0⟩, q0⟩ := hrow 0 hlk (by omega)
                obtain ⟨⟨t1, p1⟩, q1⟩ := hrow 1 hlk (by omega)
                obtain ⟨⟨t2, p2⟩, q2⟩ := hrow 2 hlk (by omega)
                obtain ⟨⟨t3, p3⟩, q3⟩ := hrow 3 hlk (by omega)
                rw [Nat.add_zero] at p0 q0
                obtain ⟨wp3, hwp3⟩ : ∃ wp3, wp3 = (((wp2.setCell ⟨g, k * 4, none⟩ (.int .i64 0)).setCell ⟨g, k * 4 + 1, none⟩ (.string ⟨#[]⟩)).setCell ⟨g, k * 4 + 2, none⟩ (.int .i64 0)).setCell ⟨g, k * 4 + 3, none⟩ (.slice none 0 0) := ⟨_, rfl⟩
                obtain ⟨h1, h2⟩ := HW1.out.zero hlk hwp3
                have HW3 : Hid (∀ g', (some ⟨g, 0, none⟩ : Option Addr) = some ⟨g', 0, none⟩ → WR base wo.heap.size g' i (k + 1) xs wp3) := fun g' e => by
                  injection e with e
                  injection e with e _ _
                  rw [← e]
                  exact h1
                have HB3 := Lib.hid (HBk.out.trans h2)
                have HWp := Lib.hid hwp3
                clear h1 h2 hwp3 hrow HW1
                go_wp2_with fail
                rw [← HWp.out]
                go_roundw
                case rel => exact ⟨k + 1, by first | rfl | go_num, by omega, HW3, HB3⟩
                case measure => simp [intOf]; omega
          · have hS := HBk.out
            have hr1 := (HR24.out.below HB45.out).but hS (fun b hb e => by have := e.2; omega)
            have hr2 := (HR4.out.below HB45.out).but hS (fun b hb e => by
              have h24 := HS24.out
              rcases hb with hb | hb
              · have := e.2; omega
              · have := e.1; have := HBs.out; have := hb.1.2; omega)
            have HS2 := Lib.hid (sameRules_same _ _ _ _ _ wp1 hr1 hr2)
            have HBe := Lib.hid ((HBw.out.trans (HB5.out.mono hlo)).trans (hS.toBelow (HBw.out.trans (HB5.out.mono hlo)).size (fun b hb => by have := HBs.out; omega)))
            clear hS hr1 hr2
            go_wp2_with fail
            refine HS2.out.mono ?_
            rintro e w6 ⟨rfl, hg6⟩
            have HB6 := Lib.hid (HBe.out.trans (hg6.below.mono HBe.out.size))
            clear hg6
            go_wp2_with fail
            refine (HA.out _).mono ?_
            rintro e w7 ⟨rfl, hb7⟩
            have HB7 := Lib.hid (HB6.out.trans (hb7.mono HB6.out.size))
            clear hb7
            go_wp2_with fail
            go_ret
            exact ⟨rfl, HB7.out⟩
end Go.Proofs.YtbjkbcbclgfmpaaGreatDoor
